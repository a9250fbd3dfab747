import Derived.Test.YtaomaeobgfeoiaaXi
import Derived.Test.YtaomaeobgfeoiaaPo
import Derived.Deep.RegionLaw
namespace Go.Proofs.Ytaomaeobgfeoiaa.X
open Go.RowKit Pl

/-- The law's own list of pairs. -/
structure MAt (w : World) (bm : Nat) (kv vv : Value) (ks vs : List Int) : Prop where
  bk : Blk w bm [kv, vv] 62
  ko : RepI w kv ks
  vo : RepI w vv vs
  ln : ks.length = vs.length
  n1 : bm ∉ fp kv
  n2 : bm ∉ fp vv
  n3 : ∀ b ∈ fp kv, b ∉ fp vv

def mfp (bm : Nat) (kv vv : Value) : List Nat := bm :: (fp kv ++ fp vv)

theorem MAt.keeps {F : List Nat} {w w' : World} {bm : Nat} {kv vv : Value} {ks vs : List Int} (h : MAt w bm kv vv ks vs) (k : Keeps F w w') (hd : ∀ b ∈ mfp bm kv vv, b ∉ F) : MAt w' bm kv vv ks vs :=
  ⟨k.blk h.bk (hd _ (by simp [mfp])), h.ko.keeps k (fun b hb => hd b (by simp [mfp, hb])), h.vo.keeps k (fun b hb => hd b (by simp [mfp, hb])), h.ln, h.n1, h.n2, h.n3⟩
theorem MAt.lt {w : World} {bm : Nat} {kv vv : Value} {ks vs : List Int} (h : MAt w bm kv vv ks vs) : ∀ b ∈ mfp bm kv vv, b < w.heap.size := by
  intro b hb
  simp only [mfp, List.mem_cons, List.mem_append] at hb
  rcases hb with rfl | hb | hb
  · exact h.bk.lt
  · exact h.ko.fp_lt b hb
  · exact h.vo.fp_lt b hb

def idxM (ks : List Int) (k : Int) : Int := match ks.findIdx? (· == k) with | some i => (i : Int) | none => -1

theorem idxM_none {ks : List Int} {k : Int} (h : ∀ (i : Nat) (x : Int), ks[i]? = some x → x ≠ k) : idxM ks k = -1 := by
  unfold idxM
  have : ks.findIdx? (· == k) = none := by
    rw [List.findIdx?_eq_none_iff]
    intro x hx
    obtain ⟨i, hi⟩ := List.getElem?_of_mem hx
    have := h i x hi
    simpa using this
  rw [this]
theorem idxM_some {ks : List Int} {k : Int} {j : Nat} (h : ∀ (i : Nat) (x : Int), i < j → ks[i]? = some x → x ≠ k) (hj : ks[j]? = some k) : idxM ks k = j := by
  unfold idxM
  have hjl : j < ks.length := (List.getElem?_eq_some_iff.1 hj).1
  have : ks.findIdx? (· == k) = some j := by
    rw [List.findIdx?_eq_some_iff_getElem]
    refine ⟨hjl, ?_, ?_⟩
    · rw [List.getElem?_eq_getElem hjl] at hj
      simpa using hj
    · intro i hi
      have := h i ks[i] hi (List.getElem?_eq_getElem (by omega))
      simpa using this
  rw [this]

theorem maxLen_le {n : Nat} (h : n ≤ maxLen) : n ≤ 9223372036854775807 := by simpa [maxLen] using h

set_option maxHeartbeats 800000 in
theorem at_calls {w : World} {bm : Nat} {kv vv : Value} {ks vs : List Int} (h : MAt w bm kv vv ks vs) (k : Int) :
    Calls Try.prog 33 #[.pointer (some ⟨bm, 0, none⟩), .int .i64 k] w fun e w' => e = .returned (.int .i64 (idxM ks k)) ∧ w' = w := by
  have m0 := h.bk.cell 0
  simp only [List.getElem?_cons_zero] at m0
  have hlen := maxLen_le h.ko.len
  obtain ⟨a, cap, hkv, _, _, _⟩ := h.ko.form
  have HK := Lib.hid h.ko
  rw [hkv] at m0
  go_enter Try.func33, Try.ntmps33
  go_wp2
  go_loop [5] (fun i => ∃ j : Nat, j ≤ ks.length ∧ i = .int .i64 j ∧ Hid (∀ (i : Nat) (x : Int), i < j → ks[i]? = some x → x ≠ k)) (fun i => ks.length - (intOf i).toNat)
  case atStart => exact ⟨0, by omega, rfl, Lib.hid fun i x hi => by omega⟩
  case round =>
    obtain ⟨j, hj, rfl, HN⟩ := hrel
    by_cases hlt : j < ks.length
    · obtain ⟨x, hx⟩ : ∃ x, ks[j]? = some x := ⟨_, List.getElem?_eq_getElem hlt⟩
      obtain ⟨g, cap', hg, _, _⟩ := HK.out.ex (by omega)
      rw [hkv] at hg
      cases hg
      have hk := HK.out
      rw [hkv] at hk
      have c := hk.cell1 (fun _ => rfl) j x hx
      have HX := Lib.hid hx
      clear hx hk
      go_wp2
      · go_ret
        have e1 : x = k := by have : (x == k) = true := by assumption
                              simpa using this
        rw [idxM_some HN.out (by rw [← e1]; exact HX.out)]
        exact ⟨rfl, rfl⟩
      · go_round
        case rel =>
          refine ⟨j + 1, by omega, by go_num, Lib.hid fun i y hi hy => ?_⟩
          by_cases e : i = j
          · subst e
            have := HX.out
            rw [this] at hy; cases hy
            have : (x == k) = false := by assumption
            simpa using this
          · exact HN.out i y (by omega) hy
        case measure => simp [intOf]; omega
    · go_wp2
      go_ret
      rw [idxM_none fun i x hx => HN.out i x (by have := (List.getElem?_eq_some_iff.1 hx).1; omega) hx]
      exact ⟨rfl, rfl⟩

theorem info3 : (Try.prog.info? 3).map (fun i => (i.zero, i.size, i.bytes)) = some (some (.int .i64 0), 1, 8) := by kernel_rfl

/-- What 'out' has kept of a list behind j rounds. -/
def outTo (xs : List Int) (i j : Nat) : List Int := (xs.take j).eraseIdx i
theorem take_snoc {xs : List Int} {j : Nat} {x : Int} (hx : xs[j]? = some x) : xs.take (j + 1) = xs.take j ++ [x] := by
  have hjl : j < xs.length := (List.getElem?_eq_some_iff.1 hx).1
  rw [List.take_succ_eq_append_getElem hjl]
  rw [List.getElem?_eq_getElem hjl] at hx; cases hx; rfl
theorem outTo_succ_keep {xs : List Int} {i j : Nat} {x : Int} (hx : xs[j]? = some x) (hne : j ≠ i) : outTo xs i (j + 1) = outTo xs i j ++ [x] := by
  unfold outTo
  have hjl : j < xs.length := (List.getElem?_eq_some_iff.1 hx).1
  rw [take_snoc hx]
  have hl : (xs.take j).length = j := by rw [List.length_take]; omega
  by_cases h : i < j
  · rw [List.eraseIdx_append_of_lt_length (by omega)]
  · rw [List.eraseIdx_of_length_le (by rw [List.length_append, hl]; simp; omega), List.eraseIdx_of_length_le (by omega)]
theorem outTo_succ_skip {xs : List Int} {i : Nat} {x : Int} (hx : xs[i]? = some x) : outTo xs i (i + 1) = outTo xs i i := by
  unfold outTo
  have hjl : i < xs.length := (List.getElem?_eq_some_iff.1 hx).1
  have hl : (xs.take i).length = i := by rw [List.length_take]; omega
  rw [take_snoc hx, List.eraseIdx_append_of_length_le (by omega), hl, Nat.sub_self, List.eraseIdx_of_length_le (l := xs.take i) (by omega)]
  simp
theorem outTo_end {xs : List Int} {i : Nat} : outTo xs i xs.length = xs.eraseIdx i := by
  unfold outTo; rw [List.take_length]
theorem outTo_zero {xs : List Int} {i : Nat} : outTo xs i 0 = [] := by
  unfold outTo; simp
theorem outTo_len {xs : List Int} {i j : Nat} (hj : j ≤ xs.length) : (outTo xs i j).length ≤ j := by
  unfold outTo
  have := List.length_eraseIdx_le (xs.take j) i
  rw [List.length_take] at this
  omega

set_option maxRecDepth 100000 in
set_option maxHeartbeats 1600000 in
theorem out_calls {w : World} {bm : Nat} {kv vv : Value} {ks vs : List Int} (h : MAt w bm kv vv ks vs) (i : Nat) (hb : ks.length ≤ 4398046511105) :
    Calls Try.prog 34 #[.pointer (some ⟨bm, 0, none⟩), .int .i64 i] w fun e w' => e = .returned (.tuple #[]) ∧ ∃ kv' vv', MAt w' bm kv' vv' (ks.eraseIdx i) (vs.eraseIdx i) ∧ FreshOr (mfp bm kv vv) w (mfp bm kv' vv') ∧ Keeps [bm] w w' := by
  have m0 := h.bk.cell 0
  have m1 := h.bk.cell 1
  simp only [List.getElem?_cons_zero, List.getElem?_cons_succ] at m0 m1
  obtain ⟨a, cap, hkv, hka, _, _⟩ := h.ko.form
  obtain ⟨a', cap', hvv, hva, _, _⟩ := h.vo.form
  have hln := h.ln
  rw [hkv] at m0
  rw [hvv, ← hln] at m1
  have HKV := Lib.hid hkv
  have HVV := Lib.hid hvv
  have HLN := Lib.hid hln
  have HKA := Lib.hid hka
  have HVA := Lib.hid hva
  have HH := Lib.hid h
  have hlt0 := h.bk.lt
  clear hkv hvv hln hka hva
  obtain ⟨i0, hi, hz0, hz1, hz2⟩ := info_parts info3
  go_enter Try.func34, Try.ntmps34
  go_wp2
  go_loopw [4, 5, 6] (fun k v i' wr => ∃ j : Nat, j ≤ ks.length ∧ i' = .int .i64 j ∧ RepI wr k (outTo ks i j) ∧ RepI wr v (outTo vs i j) ∧ (∀ b ∈ fp k, w.heap.size ≤ b) ∧ (∀ b ∈ fp v, w.heap.size ≤ b) ∧ (∀ b ∈ fp k, b ∉ fp v) ∧ Keeps [] w wr) (fun _ _ i' _ => ks.length - (intOf i').toNat)
  case atStart => exact ⟨0, by omega, rfl, by rw [outTo_zero]; exact Rep.nil, by rw [outTo_zero]; exact Rep.nil, by simp [fp, Value.ownBlock], by simp [fp, Value.ownBlock], by simp [fp, Value.ownBlock], Keeps.refl _ _⟩
  case round =>
    obtain ⟨j, hj, rfl, hrk, hrv, hfk, hfv, hd, hkp⟩ := hrel
    have hbk := hkp.blk HH.out.bk (by simp)
    have n0 := hbk.cell 0
    have n1 := hbk.cell 1
    simp only [List.getElem?_cons_zero, List.getElem?_cons_succ, HKV.out, HVV.out, ← HLN.out] at n0 n1
    have lr := hbk.lt
    by_cases hlt : j < ks.length
    · obtain ⟨x, hx⟩ : ∃ x, ks[j]? = some x := ⟨_, List.getElem?_eq_getElem hlt⟩
      obtain ⟨y, hy⟩ : ∃ y, vs[j]? = some y := ⟨_, List.getElem?_eq_getElem (by have := HLN.out; omega)⟩
      have hko := HH.out.ko.keeps hkp (by simp)
      have hvo := HH.out.vo.keeps hkp (by simp)
      obtain ⟨g, cap1, hg, hgl, _⟩ := hko.ex (by omega)
      obtain ⟨g', cap1', hg', hgl', _⟩ := hvo.ex (by have := HLN.out; omega)
      rw [HKV.out] at hg
      rw [HVV.out] at hg'
      cases hg
      cases hg'
      rw [HKV.out] at hko
      rw [HVV.out] at hvo
      have c := hko.cell1 (fun _ => rfl) j x hx
      have c' := hvo.cell1 (fun _ => rfl) j y hy
      have lk := outTo_len (xs := ks) (i := i) hj
      have lv := outTo_len (xs := vs) (i := i) (by have := HLN.out; omega : j ≤ vs.length)
      have HX := Lib.hid hx
      have HY := Lib.hid hy
      have HKO := Lib.hid hko
      have HVO := Lib.hid hvo
      have HRK := Lib.hid hrk
      have HRV := Lib.hid hrv
      have HFK := Lib.hid hfk
      have HFV := Lib.hid hfv
      have HD := Lib.hid hd
      clear hx hy hko hvo hfk hfv hd
      by_cases hji : j = i
      · have hb : (((j : Int)) != (i : Int)) = false := by simp [hji]
        go_wp2
        go_roundw
        case rel =>
          subst hji
          exact ⟨j + 1, by omega, by go_num, by rw [outTo_succ_skip HX.out]; exact hrk, by rw [outTo_succ_skip HY.out]; exact hrv, HFK.out, HFV.out, HD.out, hkp⟩
        case measure => simp [intOf]; omega
      · have hb : (((j : Int)) != (i : Int)) = true := by simp; omega
        have HJI := Lib.hid hji
        clear hji
        have HV0 := HH.out.vo.fp_lt
        have hg'w : g' < w.heap.size := HV0 g' (by rw [HVV.out]; simp [fp, Value.ownBlock])
        have hgw : g < w.heap.size := HH.out.ko.fp_lt g (by rw [HKV.out]; simp [fp, Value.ownBlock])
        clear HV0
        have hkps := hkp.size
        have HKP := Lib.hid hkp
        clear hkp
        have hra : ∀ o, RepI (wr.alloc o) u4 (outTo ks i j) := fun o => World.ownsRow.alloc HRK.out o
        have F1 : ∀ o w1, Keeps (fp u4) (wr.alloc o) w1 → w1.cell? ⟨bm, 1, none⟩ = some (.slice (some ⟨g', 0, none⟩) ks.length cap') ∧ w1.cell? ⟨g', j, none⟩ = some (.int .i64 y) ∧ (∀ o', RepI (w1.alloc o') u5 (outTo vs i j)) ∧ Keeps [] w w1 := by
          intro o w1 k1
          have b1 := k1.blk (hbk.alloc _) (fun hm => by have := HFK.out _ hm; omega)
          have n1' := b1.cell 1
          simp only [List.getElem?_cons_zero, List.getElem?_cons_succ, HVV.out, ← HLN.out] at n1'
          have hv : RepI (wr.alloc o) (.slice (some ⟨g', 0, none⟩) vs.length cap') vs := World.ownsRow.alloc HVO.out o
          have vo1 := hv.keeps k1 (fun b hb hm => by have := HFK.out _ hm; simp [fp, Value.ownBlock] at hb; omega)
          have hv2 : RepI (wr.alloc o) u5 (outTo vs i j) := World.ownsRow.alloc HRV.out o
          refine ⟨n1', vo1.cell1 (fun _ => rfl) j y HY.out, fun o' => World.ownsRow.alloc (hv2.keeps k1 (fun b hb hm => HD.out b hm hb)) o', ?_⟩
          exact (HKP.out.alloc o).trans k1 (fun x hx hlt => by have := HFK.out _ hx; omega)
        have HRA := Lib.hid hra
        have HF1 := Lib.hid F1
        have HBK := Lib.hid hbk
        clear hra hrk hrv hbk F1
        go_wp2_with (first | (refine wpList_rep_append rfl (.tmp 19) (.tmp 27) 40 rfl (.int .i64 0) 8 Try.underlying40 info3 rfl (by decide) u4 (outTo ks i j) rfl (HRA.out _) (fun _ => rfl) ⟨wr.heap.size, 0, none⟩ 1 1 [x] rfl rfl (cell_one_new _ _ _) (by simp [Value.oneCell']) (by decide) (by unfold maxLen; omega) (by omega) ?_; intro h1 cap2 w1 r1 k1 a1 l1 q1; obtain ⟨n1', c1', rv1, kk1⟩ := HF1.out _ _ k1; have RV1 := Lib.hid rv1; have R1 := Lib.hid r1; have K1 := Lib.hid k1; have A1 := Lib.hid a1; have KK1 := Lib.hid kk1; clear r1 k1 a1 rv1 kk1) | (refine wpList_rep_append rfl (.tmp 29) (.tmp 37) 40 rfl (.int .i64 0) 8 Try.underlying40 info3 rfl (by decide) u5 (outTo vs i j) rfl (RV1.out _) (fun _ => rfl) ⟨w1.heap.size, 0, none⟩ 1 1 [y] rfl rfl (cell_one_new _ _ _) (by simp [Value.oneCell']) (by decide) (by unfold maxLen; omega) (by omega) ?_; intro h2 cap3 w2 r2 k2 a2 l2 q2; have R2 := Lib.hid r2; have K2 := Lib.hid k2; have A2 := Lib.hid a2; clear r2 k2 a2))
        have hu5 := HRV.out.fp_lt
        have hk1 := K1.out
        have hk2 := K2.out
        have hs1 := hk1.size
        have hs2 := hk2.size
        rw [World.size_alloc] at hs1 hs2
        have ha1 := A1.out
        have ha2 := A2.out
        rw [World.size_alloc] at ha1 ha2
        have hd := HD.out
        have hfk := HFK.out
        have hfv := HFV.out
        have hn1 : h1 ∉ fp u5 := fun hm => by
          rcases ha1 with q | q
          · exact hd _ q hm
          · have := hu5 _ hm; omega
        have hf1 : fp (Value.slice (some (⟨h1, 0, none⟩ : Addr)) ((outTo ks i j).length + 1) cap2) = [h1] := rfl
        have hf2 : fp (Value.slice (some (⟨h2, 0, none⟩ : Addr)) ((outTo vs i j).length + 1) cap3) = [h2] := rfl
        go_roundw
        case rel =>
          refine ⟨j + 1, by omega, by go_num, ?_, ?_, ?_, ?_, ?_, ?_⟩
          · rw [outTo_succ_keep HX.out HJI.out]
            exact Rep.keeps (World.ownsRow.alloc R1.out _ : RepI _ _ _) hk2 (by rw [hf1]; simp; exact hn1)
          · rw [outTo_succ_keep HY.out HJI.out]
            exact R2.out
          · rw [hf1]; intro b hb; simp only [List.mem_singleton] at hb; subst hb
            rcases ha1 with q | q
            · exact hfk _ q
            · omega
          · rw [hf2]; intro b hb; simp only [List.mem_singleton] at hb; subst hb
            have := KK1.out.size
            rcases ha2 with q | q
            · exact hfv _ q
            · omega
          · rw [hf1, hf2]; intro b hb; simp only [List.mem_singleton] at hb ⊢; subst hb
            rcases ha2 with q | q
            · intro e; subst e; exact hn1 q
            · omega
          · exact (KK1.out.alloc _).trans hk2 (fun x hx hlt => by have := hfv _ hx; omega)
        case measure => simp [intOf]; omega
    · have e1 : j = ks.length := by omega
      have e2 : ks.length = vs.length := HLN.out
      rw [e1, outTo_end] at hrk
      rw [e1, e2, outTo_end] at hrv
      have f0 := hbk.frozen 0
      have f1 := hbk.frozen 1
      obtain ⟨ak, ck, hu4, _, _, _⟩ := hrk.form
      obtain ⟨av, cv, hu5, _, _, _⟩ := hrv.form
      have HRK := Lib.hid hrk
      have HRV := Lib.hid hrv
      have HFK := Lib.hid hfk
      have HFV := Lib.hid hfv
      have HD := Lib.hid hd
      have HBK := Lib.hid hbk
      have HL := Lib.hid (show (ks.eraseIdx i).length = (vs.eraseIdx i).length by rw [List.length_eraseIdx, List.length_eraseIdx, e2])
      subst hu4 hu5
      clear hrk hrv hfk hfv hd hbk e1 e2
      go_wp2
      refine bodyPost_end (results_none rfl _ _ _) rfl ⟨rfl, .slice ak (ks.eraseIdx i).length ck, .slice av (vs.eraseIdx i).length cv, ?_, ?_, ?_⟩
      rotate_left
      · intro b hb
        simp only [mfp, List.mem_cons, List.mem_append] at hb
        rcases hb with rfl | hb | hb
        · exact .inl (by simp [mfp])
        · exact .inr (HFK.out b hb)
        · exact .inr (HFV.out b hb)
      · exact Keeps.setCell (Keeps.setCell (hkp.mono (by simp)) _ _ (by simp)) _ _ (by simp)
      · have k2 : Keeps [bm] wr ((wr.setCell ⟨bm, 0, none⟩ (.slice ak (ks.eraseIdx i).length ck)).setCell ⟨bm, 1, none⟩ (.slice av (vs.eraseIdx i).length cv)) := Keeps.setCell (Keeps.setCell (Keeps.refl _ _) _ _ (by simp)) _ _ (by simp)
        refine ⟨(HBK.out.set 0 _).set 1 _, HRK.out.keeps k2 ?_, HRV.out.keeps k2 ?_, HL.out, ?_, ?_, HD.out⟩
        · intro b hb hm; have := HFK.out b hb; simp at hm; omega
        · intro b hb hm; have := HFV.out b hb; simp at hm; omega
        · intro hm; have := HFK.out _ hm; omega
        · intro hm; have := HFV.out _ hm; omega
end Go.Proofs.Ytaomaeobgfeoiaa.X
