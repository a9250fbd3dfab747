/- TableSigns: the document's lay and count. -/
import Derived.Test.YtaomaeobgfeoiaaRa
namespace Go.Proofs.Ytaomaeobgfeoiaa.R
open Go.RowKit Pl

section
variable {K V : Type} {sl : List (Sl K V)} {h j m : Nat} {fr fr' : Int} {s : Sl K V}
theorem FreeOk.full (hf : FreeOk sl h j fr) (hs : sl[way sl.length h j]? = some s) (h1 : s.st = 1) : FreeOk sl h (j + 1) fr := by
  rcases hf with ⟨e, ha⟩ | ⟨i0, hi, e, hx, ha⟩
  · refine .inl ⟨e, fun i hi => ?_⟩
    by_cases q : i = j
    · subst q; exact ⟨s, hs, h1⟩
    · exact ha i (by omega)
  · exact .inr ⟨i0, by omega, e, hx, ha⟩
theorem FreeOk.new (hf : FreeOk sl h j fr) (h0 : fr < 0) (hs : sl[way sl.length h j]? = some s) (h1 : s.st ≠ 1) (hm : j < m) : FreeOk sl h m ((way sl.length h j : Nat) : Int) := by
  rcases hf with ⟨_, ha⟩ | ⟨i0, _, e, _, _⟩
  · exact .inr ⟨j, hm, rfl, ⟨s, hs, h1⟩, ha⟩
  · omega
theorem FreeOk.old (hf : FreeOk sl h j fr) (h0 : ¬ fr < 0) (hm : j ≤ m) : FreeOk sl h m fr := by
  rcases hf with ⟨e, _⟩ | ⟨i0, hi, e, hx, ha⟩
  · omega
  · exact .inr ⟨i0, by omega, e, hx, ha⟩
theorem FreeOk.uniq (hf : FreeOk sl h m fr) (hf' : FreeOk sl h m fr') : fr = fr' := by
  rcases hf with ⟨e, ha⟩ | ⟨i0, hi, e, ⟨x, hx1, hx2⟩, ha⟩ <;> rcases hf' with ⟨e', ha'⟩ | ⟨i1, hi', e', ⟨y, hy1, hy2⟩, ha'⟩
  · omega
  · obtain ⟨z, hz1, hz2⟩ := ha i1 hi'
    rw [hy1] at hz1; cases hz1; exact absurd hz2 hy2
  · obtain ⟨z, hz1, hz2⟩ := ha' i0 hi
    rw [hx1] at hz1; cases hz1; exact absurd hz2 hx2
  · rcases Nat.lt_trichotomy i0 i1 with q | q | q
    · obtain ⟨z, hz1, hz2⟩ := ha' i0 q
      rw [hx1] at hz1; cases hz1; exact absurd hz2 hx2
    · subst q; omega
    · obtain ⟨z, hz1, hz2⟩ := ha i1 q
      rw [hy1] at hz1; cases hz1; exact absurd hz2 hy2
end

def oldV (ob : Nat) (o : Option (List (Sl FD Int))) : Value := match o with | none => .slice none 0 0 | some o => .slice (some ⟨ob, 0, none⟩) o.length o.length

/-- The document's table in memory. -/
structure RefAt (w : World) (bm yb ob : Nat) (T : Tab FD Int) : Prop where
  bk : Blk w bm [.int .i64 1, .int .i64 (-1), .slice (some ⟨yb, 0, none⟩) T.young.length T.young.length, oldV ob T.old, .bool T.old.isSome, .int .i64 T.mark] 93
  yo : Blk w yb (T.young.flatMap encR) 101
  ol : ∀ o, T.old = some o → Blk w ob (o.flatMap encR) 101
  d1 : bm ≠ yb
  d2 : ∀ o, T.old = some o → bm ≠ ob ∧ yb ≠ ob
  d3 : T.old = none → ob = yb

theorem RefAt.keeps {F : List Nat} {w w' : World} {bm yb ob : Nat} {T : Tab FD Int} (h : RefAt w bm yb ob T) (k : Keeps F w w') (hd : ∀ b ∈ [bm, yb, ob], b ∉ F) : RefAt w' bm yb ob T :=
  ⟨k.blk h.bk (hd bm (by simp)), k.blk h.yo (hd yb (by simp)), fun o ho => k.blk (h.ol o ho) (hd ob (by simp)), h.d1, h.d2, h.d3⟩

theorem flat4 {q : Nat} {sl : List (Sl FD Int)} {s : Sl FD Int} (hp : sl[q]? = some s) (a : Nat) (k : FD) (v : Int) :
    ((((sl.flatMap encR).set (q * 4) (.int .i64 a)).set (q * 4 + 1) (.int .i64 (keyD k : Nat))).set (q * 4 + 2) (.int .i64 (tagD k : Nat))).set (q * 4 + 3) (.int .i64 v) = (sl.set q ⟨a, k, v⟩).flatMap encR := by
  have hpl : q < sl.length := (List.getElem?_eq_some_iff.1 hp).1
  obtain ⟨l1, l2, e1, e2, e3⟩ := split_at sl q s hp
  have hl : (l1.flatMap encR).length = q * 4 := by
    rw [← e2]; clear e1 e2 e3 hp hpl
    induction l1 with
    | nil => rfl
    | cons x l ih => rw [List.flatMap_cons, List.length_append, ih, List.length_cons]; simp [encR]; omega
  rw [e3, e1, List.flatMap_append, List.flatMap_append, List.flatMap_cons, List.flatMap_cons]
  have g : ∀ (c : Nat) (A B : List Value) (u : Value), A.length = q * 4 → (A ++ B).set (q * 4 + c) u = A ++ B.set c u := by
    intro c A B u hA
    rw [List.set_append, if_neg (by omega), hA, Nat.add_sub_cancel_left]
  have g0 := fun (A B : List Value) (u : Value) (hA : A.length = q * 4) => g 0 A B u hA
  simp only [Nat.add_zero] at g0
  rw [g0 _ _ _ hl, g 1 _ _ _ hl, g 2 _ _ _ hl, g 3 _ _ _ hl]
  rfl

set_option maxHeartbeats 3200000 in
theorem lay_calls {w : World} {bm yb ob : Nat} {T : Tab FD Int} (h : RefAt w bm yb ob T) (hok : ArrOk LD T.young) {k : FD} (hl : Lacks LD T.young k) (hu : usedN T.young < T.young.length) (hn2 : T.young.length ≤ 1099511627776) (v : Int) :
    Calls Try.prog 56 #[.pointer (some ⟨bm, 0, none⟩), .int .i64 (keyD k : Nat), .int .i64 (tagD k : Nat), .int .i64 v] w fun e w' =>
      e = .returned (.tuple #[]) ∧ RefAt w' bm yb ob { T with young := layM LD T.young k v } ∧ Keeps [yb] w w' := by
  obtain ⟨q, sq, hq, hsq, hs1, hs2, he⟩ := (layM_spec LD hok v hl hu).at_
  have hfree : FreeOk T.young (keyD k) T.young.length (q : Int) := by
    rcases (findM_spec (fun x => feqD x k) T.young (keyD k) hok.st).2 with ⟨p, h1, _⟩ | ⟨_, hm⟩
    · have := lacks_neg LD hok hl
      have e0 : (findK LD T.young k) = findM (fun x => feqD x k) T.young (keyD k) := rfl
      rw [e0, h1] at this
      omega
    · have := hm.free
      have e0 : (findK LD T.young k) = findM (fun x => feqD x k) T.young (keyD k) := rfl
      rw [e0] at hq
      rwa [hq] at this
  have hql : q < T.young.length := (List.getElem?_eq_some_iff.1 hsq).1
  have hst := hok.st
  have hp := fun (W : World) (k' : Keeps [] w W) i (hi : i ≤ 1099511627776) => place_calls (k'.blk h.bk (by simp)) (some ⟨yb, 0, none⟩) T.young.length T.young.length k i (by omega) hn2 hi
  have hcells := fun (W : World) (k' : Keeps [] w W) => (show W.cell? ⟨bm, 2, none⟩ = some (.slice (some ⟨yb, 0, none⟩) T.young.length T.young.length) from (k'.blk h.bk (by simp)).cell 2)
  have hend : ∀ W, Keeps [] w W → RefAt ((((W.setCell ⟨yb, q * 4, none⟩ (.int .i64 1)).setCell ⟨yb, q * 4 + 1, none⟩ (.int .i64 (keyD k : Nat))).setCell ⟨yb, q * 4 + 2, none⟩ (.int .i64 (tagD k : Nat))).setCell ⟨yb, q * 4 + 3, none⟩ (.int .i64 v)) bm yb ob { T with young := layM LD T.young k v } ∧
      Keeps [yb] w ((((W.setCell ⟨yb, q * 4, none⟩ (.int .i64 1)).setCell ⟨yb, q * 4 + 1, none⟩ (.int .i64 (keyD k : Nat))).setCell ⟨yb, q * 4 + 2, none⟩ (.int .i64 (tagD k : Nat))).setCell ⟨yb, q * 4 + 3, none⟩ (.int .i64 v)) := by
    intro W k'
    have hW := h.keeps k' (by simp)
    have kk : Keeps [yb] W ((((W.setCell ⟨yb, q * 4, none⟩ (.int .i64 1)).setCell ⟨yb, q * 4 + 1, none⟩ (.int .i64 (keyD k : Nat))).setCell ⟨yb, q * 4 + 2, none⟩ (.int .i64 (tagD k : Nat))).setCell ⟨yb, q * 4 + 3, none⟩ (.int .i64 v)) := by
      refine Keeps.setCell (Keeps.setCell (Keeps.setCell (Keeps.setCell (Keeps.refl _ _) _ _ ?_) _ _ ?_) _ _ ?_) _ _ ?_ <;> simp
    refine ⟨⟨?_, ?_, fun o ho => kk.blk (hW.ol o ho) (by have := (h.d2 o ho).2; simpa using fun e => this e.symm), h.d1, h.d2, h.d3⟩, (k'.mono (by simp)).trans kk (by simp)⟩
    · have := kk.blk hW.bk (by have := h.d1; simpa using this)
      simp only [he, List.length_set]
      exact this
    · have := (((hW.yo.set (q * 4) (.int .i64 1)).set (q * 4 + 1) (.int .i64 (keyD k : Nat))).set (q * 4 + 2) (.int .i64 (tagD k : Nat))).set (q * 4 + 3) (.int .i64 v)
      simp only [he]
      rw [← flat4 hsq 1 k v]
      exact this
  have hfz := fun (W : World) (k' : Keeps [] w W) c => (k'.blk h.yo (by simp)).frozen c
  have HRQ := Lib.hid (fun (W : World) (k' : Keeps [] w W) => rcell (k'.blk h.yo (by simp)) hsq)
  have hrc := fun (W : World) (k' : Keeps [] w W) (p : Nat) (s : Sl FD Int) (hp : T.young[p]? = some s) => rcell (k'.blk h.yo (by simp)) hp
  obtain ⟨n, hn⟩ : ∃ n, n = T.young.length := ⟨_, rfl⟩
  rw [← hn] at hp hcells hql hn2
  have HP := Lib.hid hp
  have HCELLS := Lib.hid hcells
  have HEND := Lib.hid hend
  have HFZ := Lib.hid hfz
  have HRC := Lib.hid hrc
  have HFREE := Lib.hid hfree
  have HN := Lib.hid hn
  clear hp hcells hend hfz hrc hfree hq hsq hs1 hs2 he h hl hu hok hn
  have m0 := HCELLS.out w (Keeps.refl _ _)
  have hkl := keyD_lt k
  have hyl : ∀ i, i < n → ∃ s, T.young[way n (keyD k) i]? = some s ∧ s.st ≤ 2 := by
    intro i hi
    have hpl : way n (keyD k) i < n := way_lt (by omega)
    have := HN.out
    exact ⟨T.young[way n (keyD k) i], List.getElem?_eq_getElem (by omega), hst _ (List.getElem_mem _)⟩
  have HYL := Lib.hid hyl
  clear hyl hst
  generalize T.young = sl at *
  go_enter Try.func56, Try.ntmps56
  go_wp2
  go_loopw [8, 9] (fun tv iv wr => ∃ (j : Nat) (fr : Int), j ≤ n ∧ iv = .int .i64 j ∧ tv = .int .i64 fr ∧ FreeOk sl (keyD k) j fr ∧ Keeps [] w wr) (fun _ iv _ => n - (intOf iv).toNat)
  case atStart => exact ⟨0, -1, by omega, rfl, rfl, .inl ⟨rfl, fun i hi => by omega⟩, Keeps.refl _ _⟩
  case round =>
    obtain ⟨j, fr, hj, rfl, rfl, hf, hkp⟩ := hrel
    have HKP := Lib.hid hkp
    have HF := Lib.hid hf
    clear hkp hf m0
    have m0 := HCELLS.out wr HKP.out
    by_cases hlt : j < n
    · obtain ⟨s, hsl, hs2⟩ := HYL.out j hlt
      have HPC := Lib.hid (HP.out wr HKP.out j (by omega))
      have HSL := Lib.hid hsl
      have HF1 := Lib.hid (fun e : s.st = 1 => FreeOk.full HF.out (by rw [← HN.out]; exact hsl) e)
      have HF2 := Lib.hid (fun (e : fr < 0) (e1 : s.st ≠ 1) (m : Nat) (hm : j < m) => FreeOk.new HF.out e (by rw [← HN.out]; exact hsl) e1 hm)
      rw [← HN.out] at HF2
      have HF3 := Lib.hid (fun (e : ¬ fr < 0) (m : Nat) (hm : j ≤ m) => FreeOk.old HF.out e hm)
      have HE := Lib.hid (fun (f : Int) (hf : FreeOk sl (keyD k) n f) => FreeOk.uniq hf (by rw [HN.out]; exact HFREE.out))
      clear hsl
      have hpl : way n (keyD k) j < n := way_lt (by omega)
      generalize way n (keyD k) j = p at *
      have h3 : s.st = 0 ∨ s.st = 1 ∨ s.st = 2 := by omega
      clear hs2
      rcases h3 with h3 | h3 | h3
      · have HST := Lib.hid h3
        by_cases hfr : fr < 0
        · have hpq : (p : Int) = q := HE.out _ (HF2.out hfr (by omega) n hlt)
          have hpq2 : p = q := by omega
          subst hpq2
          clear hpq h3 HF1 HF2 HF3
          go_wp2_with fail
          refine (HPC.out).mono ?_
          rintro e w1 ⟨rfl, m, hw1⟩
          have k1 : Keeps [] w w1 := by rw [hw1]; exact HKP.out.drewN m
          obtain ⟨c0, c1, c2, c3⟩ := HRC.out w1 k1 _ s HSL.out
          rw [HST.out] at c0
          have m0 := HCELLS.out w1 k1
          have HK1 := Lib.hid k1
          clear k1 hw1 c1 c2 c3
          obtain ⟨d0, d1, d2, d3⟩ := HRQ.out w1 HK1.out
          have f0 := HFZ.out w1 HK1.out (p * 4)
          have f1 := HFZ.out w1 HK1.out (p * 4 + 1)
          have f2 := HFZ.out w1 HK1.out (p * 4 + 2)
          have f3 := HFZ.out w1 HK1.out (p * 4 + 3)
          go_wp2_with fail
          refine bodyPost_end (results_none rfl _ _ _) rfl ?_
          exact ⟨rfl, HEND.out w1 HK1.out⟩
        · have hpq : fr = q := HE.out _ (HF3.out hfr n (by omega))
          subst hpq
          clear hfr h3 HF1 HF2 HF3
          go_wp2_with fail
          refine (HPC.out).mono ?_
          rintro e w1 ⟨rfl, m, hw1⟩
          have k1 : Keeps [] w w1 := by rw [hw1]; exact HKP.out.drewN m
          obtain ⟨c0, c1, c2, c3⟩ := HRC.out w1 k1 _ s HSL.out
          rw [HST.out] at c0
          have m0 := HCELLS.out w1 k1
          have HK1 := Lib.hid k1
          clear k1 hw1 c1 c2 c3
          obtain ⟨d0, d1, d2, d3⟩ := HRQ.out w1 HK1.out
          have f0 := HFZ.out w1 HK1.out (q * 4)
          have f1 := HFZ.out w1 HK1.out (q * 4 + 1)
          have f2 := HFZ.out w1 HK1.out (q * 4 + 2)
          have f3 := HFZ.out w1 HK1.out (q * 4 + 3)
          go_wp2_with fail
          refine bodyPost_end (results_none rfl _ _ _) rfl ?_
          exact ⟨rfl, HEND.out w1 HK1.out⟩
      · have HST := Lib.hid h3
        have HG := Lib.hid (HF1.out h3)
        clear h3 HF1 HF2 HF3
        go_wp2_with fail
        refine (HPC.out).mono ?_
        rintro e w1 ⟨rfl, m, hw1⟩
        have k1 : Keeps [] w w1 := by rw [hw1]; exact HKP.out.drewN m
        obtain ⟨c0, c1, c2, c3⟩ := HRC.out w1 k1 _ s HSL.out
        rw [HST.out] at c0
        have m0 := HCELLS.out w1 k1
        have HK1 := Lib.hid k1
        clear k1 hw1 c1 c2 c3
        go_wp2_with fail
        go_roundw
        case rel => exact ⟨j + 1, fr, by omega, by go_num, rfl, HG.out, HK1.out⟩
        case measure => simp [intOf]; omega
      · have HST := Lib.hid h3
        by_cases hfr : fr < 0
        · have HG := Lib.hid (HF2.out hfr (by omega) (j + 1) (by omega))
          clear h3 HF1 HF2 HF3
          go_wp2_with fail
          refine (HPC.out).mono ?_
          rintro e w1 ⟨rfl, m, hw1⟩
          have k1 : Keeps [] w w1 := by rw [hw1]; exact HKP.out.drewN m
          obtain ⟨c0, c1, c2, c3⟩ := HRC.out w1 k1 _ s HSL.out
          rw [HST.out] at c0
          have m0 := HCELLS.out w1 k1
          have HK1 := Lib.hid k1
          clear k1 hw1 c1 c2 c3
          go_wp2_with fail
          go_roundw
          case rel => exact ⟨j + 1, _, by omega, by go_num, rfl, HG.out, HK1.out⟩
          case measure => simp [intOf]; omega
        · have HG := Lib.hid (HF3.out hfr (j + 1) (by omega))
          clear h3 HF1 HF2 HF3
          go_wp2_with fail
          refine (HPC.out).mono ?_
          rintro e w1 ⟨rfl, m, hw1⟩
          have k1 : Keeps [] w w1 := by rw [hw1]; exact HKP.out.drewN m
          obtain ⟨c0, c1, c2, c3⟩ := HRC.out w1 k1 _ s HSL.out
          rw [HST.out] at c0
          have m0 := HCELLS.out w1 k1
          have HK1 := Lib.hid k1
          clear k1 hw1 c1 c2 c3
          go_wp2_with fail
          go_roundw
          case rel => exact ⟨j + 1, _, by omega, by go_num, rfl, HG.out, HK1.out⟩
          case measure => simp [intOf]; omega
    · obtain rfl : j = n := by omega
      obtain rfl : fr = q := FreeOk.uniq HF.out (by rw [HN.out]; exact HFREE.out)
      obtain ⟨d0, d1, d2, d3⟩ := HRQ.out wr HKP.out
      have f0 := HFZ.out wr HKP.out (q * 4)
      have f1 := HFZ.out wr HKP.out (q * 4 + 1)
      have f2 := HFZ.out wr HKP.out (q * 4 + 2)
      have f3 := HFZ.out wr HKP.out (q * 4 + 3)
      go_wp2_with fail
      refine bodyPost_end (results_none rfl _ _ _) rfl ?_
      exact ⟨rfl, HEND.out wr HKP.out⟩

theorem usedN_count (sl : List (Sl FD Int)) : usedN sl = sl.countP fun s => s.st == 1 := by
  unfold usedN
  induction sl with
  | nil => rfl
  | cons s l ih =>
    by_cases h : s.st = 1
    · rw [fulls_cons_full _ _ h, List.length_cons, List.countP_cons_of_pos (by simp [h]), ih]
    · rw [fulls_cons_not _ _ h, List.countP_cons_of_neg (by simp [h]), ih]

theorem count_nil (c : Int) (w : World) : Calls Try.prog 57 #[.slice none 0 0, .int .i64 c] w fun e w' => e = .returned (.int .i64 0) ∧ w' = w := by
  go_enter Try.func57, Try.ntmps57
  go_wp2
  go_loop [5, 6] (fun n i => n = .int .i64 0 ∧ i = .int .i64 0) (fun _ _ => 0)
  case atStart => exact ⟨rfl, rfl⟩
  case round =>
    obtain ⟨rfl, rfl⟩ := hrel
    go_wp2
    go_ret
    exact ⟨rfl, rfl⟩

theorem count_calls {w : World} {b : Nat} {sl : List (Sl FD Int)} (hs : Blk w b (sl.flatMap encR) 101) (hn2 : sl.length ≤ 1099511627776) (c : Nat) :
    Calls Try.prog 57 #[.slice (some ⟨b, 0, none⟩) sl.length sl.length, .int .i64 c] w fun e w' => e = .returned (.int .i64 (sl.countP fun s => s.st == c : Nat)) ∧ w' = w := by
  have HRC := Lib.hid (fun (p : Nat) (s : Sl FD Int) (hp : sl[p]? = some s) => rcell hs hp)
  obtain ⟨n, hn⟩ : ∃ n, n = sl.length := ⟨_, rfl⟩
  rw [← hn] at hn2 ⊢
  have HN := Lib.hid hn
  clear hn hs
  go_enter Try.func57, Try.ntmps57
  go_wp2
  go_loop [5, 6] (fun cv i => ∃ j : Nat, j ≤ n ∧ i = .int .i64 j ∧ cv = .int .i64 ((sl.take j).countP fun s => s.st == c : Nat)) (fun _ i => n - (intOf i).toNat)
  case atStart => exact ⟨0, by omega, rfl, rfl⟩
  case round =>
    obtain ⟨j, hj, rfl, rfl⟩ := hrel
    by_cases hlt : j < n
    · obtain ⟨s, hsl⟩ : ∃ s, sl[j]? = some s := ⟨_, List.getElem?_eq_getElem (by rw [← HN.out]; exact hlt)⟩
      obtain ⟨c0, c1, c2, c3⟩ := HRC.out _ s hsl
      have ht : sl.take (j + 1) = sl.take j ++ [s] := by
        have hjl : j < sl.length := (List.getElem?_eq_some_iff.1 hsl).1
        rw [List.take_succ_eq_append_getElem hjl]
        rw [List.getElem?_eq_getElem hjl] at hsl; cases hsl; rfl
      have hc1 : (sl.take j).countP (fun s => s.st == c) ≤ j := by
        have := List.countP_le_length (p := fun s : Sl FD Int => s.st == c) (l := sl.take j)
        rw [List.length_take] at this
        omega
      have hcn : ((sl.take (j + 1)).countP fun s => s.st == c) = ((sl.take j).countP fun s => s.st == c) + (if s.st == c then 1 else 0) := by
        rw [ht, List.countP_append, List.countP_singleton]
      generalize (sl.take j).countP (fun s => s.st == c) = cc at *
      have HC := Lib.hid hcn
      clear hsl ht hcn c1 c2 c3
      by_cases he : s.st = c
      · have hb : ((s.st : Int) == (c : Int)) = true := by simp [he]
        have HX := Lib.hid he
        clear he
        go_wp2
        go_round
        case rel => exact ⟨j + 1, by omega, by go_num, by rw [HC.out, if_pos (by simp [HX.out])]; go_num⟩
        case measure => simp [intOf]; omega
      · have hb : ((s.st : Int) == (c : Int)) = false := by rw [beq_eq_false_iff_ne]; omega
        have HX := Lib.hid he
        clear he
        go_wp2
        go_round
        case rel => exact ⟨j + 1, by omega, by go_num, by rw [HC.out, if_neg (by simp [HX.out])]; go_num⟩
        case measure => simp [intOf]; omega
    · obtain rfl : j = n := by omega
      have e : sl.take j = sl := by rw [HN.out]; exact List.take_length
      rw [e]
      go_wp2
      go_ret
      exact ⟨rfl, rfl⟩
end Go.Proofs.Ytaomaeobgfeoiaa.R
