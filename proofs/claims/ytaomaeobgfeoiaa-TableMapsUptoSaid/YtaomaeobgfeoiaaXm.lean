import Derived.Test.YtaomaeobgfeoiaaXl
namespace Go.Proofs.Ytaomaeobgfeoiaa.X
open Go.RowKit Pl

theorem RepI.set1 {w : World} {g cap n : Nat} {xs : List Int} (h : RepI w (.slice (some ⟨g, 0, none⟩) n cap) xs) (i : Nat) (v : Int) (hi : i < xs.length) :
    RepI (w.setCell ⟨g, i, none⟩ (.int .i64 v)) (.slice (some ⟨g, 0, none⟩) n cap) (xs.set i v) := by
  have := Rep.set h (fun _ => rfl) i 0 xs[i] v (.int .i64 v) (List.getElem?_eq_getElem hi) (by omega) rfl
  rw [Nat.mul_one, Nat.add_zero] at this
  exact this

theorem MAt.setVal {w : World} {bm : Nat} {kv : Value} {g n cap : Nat} {ks vs : List Int} (h : MAt w bm kv (.slice (some ⟨g, 0, none⟩) n cap) ks vs) (i : Nat) (v : Int) (hi : i < vs.length) :
    MAt (w.setCell ⟨g, i, none⟩ (.int .i64 v)) bm kv (.slice (some ⟨g, 0, none⟩) n cap) ks (vs.set i v) ∧ Keeps (mfp bm kv (.slice (some ⟨g, 0, none⟩) n cap)) w (w.setCell ⟨g, i, none⟩ (.int .i64 v)) := by
  have hf : fp (Value.slice (some (⟨g, 0, none⟩ : Addr)) n cap) = [g] := rfl
  have k : Keeps [g] w (w.setCell ⟨g, i, none⟩ (.int .i64 v)) := Keeps.setCell (Keeps.refl _ _) _ _ (by simp)
  have hn2 := h.n2
  rw [hf] at hn2
  refine ⟨⟨k.blk h.bk hn2, h.ko.keeps k (fun b hb => by have := h.n3 b hb; rwa [hf] at this), RepI.set1 h.vo i v hi, by simpa using h.ln, h.n1, h.n2, h.n3⟩, k.mono (fun x hx _ => by simp only [List.mem_singleton] at hx; simp [mfp, hf, hx])⟩

theorem fp_some (g n cap : Nat) : fp (Value.slice (some (⟨g, 0, none⟩ : Addr)) n cap) = [g] := rfl

/-- Behind the first append and its store. -/
theorem push_mid {w1 W w2 : World} {bm : Nat} {kv vv : Value} {ks vs : List Int} {key : Int} {g2 n2 cap2 : Nat} (h : MAt w1 bm kv vv ks vs) (kW : Keeps [] w1 W)
    (r2 : RepI w2 (.slice (some ⟨g2, 0, none⟩) n2 cap2) (ks ++ [key])) (k2 : Keeps (fp kv) W w2) (a2 : g2 ∈ fp kv ∨ g2 = W.heap.size) (l2 : g2 < w2.heap.size) :
    Blk (w2.setCell ⟨bm, 0, none⟩ (.slice (some ⟨g2, 0, none⟩) n2 cap2)) bm [.slice (some ⟨g2, 0, none⟩) n2 cap2, vv] 62 ∧
    RepI (w2.setCell ⟨bm, 0, none⟩ (.slice (some ⟨g2, 0, none⟩) n2 cap2)) (.slice (some ⟨g2, 0, none⟩) n2 cap2) (ks ++ [key]) ∧
    RepI (w2.setCell ⟨bm, 0, none⟩ (.slice (some ⟨g2, 0, none⟩) n2 cap2)) vv vs ∧
    Keeps (bm :: fp kv) w1 (w2.setCell ⟨bm, 0, none⟩ (.slice (some ⟨g2, 0, none⟩) n2 cap2)) ∧ bm ≠ g2 ∧ g2 ∉ fp vv := by
  have hlt := h.bk.lt
  have hWs := kW.size
  have hbg : bm ≠ g2 := fun e => by
    rcases a2 with q | q
    · rw [← e] at q; exact h.n1 q
    · omega
  have hgv : g2 ∉ fp vv := fun e => by
    rcases a2 with q | q
    · exact h.n3 _ q e
    · have := h.vo.fp_lt _ e; omega
  have k3 : Keeps [bm] w2 (w2.setCell ⟨bm, 0, none⟩ (.slice (some ⟨g2, 0, none⟩) n2 cap2)) := Keeps.setCell (Keeps.refl _ _) _ _ (by simp)
  have b2 := k2.blk (kW.blk h.bk (by simp)) h.n1
  refine ⟨b2.set 0 _, r2.keeps k3 (by rw [fp_some]; simp; exact Ne.symm hbg), ?_, ?_, hbg, hgv⟩
  · exact ((h.vo.keeps kW (by simp)).keeps k2 (fun b hb q => h.n3 b q hb)).keeps k3 (fun b hb q => by simp only [List.mem_singleton] at q; subst q; exact h.n2 hb)
  · refine ((kW.mono (G := bm :: fp kv) (by simp)).trans k2 (fun x hx _ => by simp [hx])).trans k3 (fun x hx _ => by simp only [List.mem_singleton] at hx; simp [hx])

theorem push_end {w1 W w2 W' w4 : World} {bm : Nat} {kv vv : Value} {ks vs : List Int} {key val : Int} {g2 n2 cap2 g4 n4 cap4 : Nat} (h : MAt w1 bm kv vv ks vs) (kW : Keeps [] w1 W)
    (r2 : RepI w2 (.slice (some ⟨g2, 0, none⟩) n2 cap2) (ks ++ [key])) (k2 : Keeps (fp kv) W w2) (a2 : g2 ∈ fp kv ∨ g2 = W.heap.size) (l2 : g2 < w2.heap.size)
    (kW' : Keeps [] (w2.setCell ⟨bm, 0, none⟩ (.slice (some ⟨g2, 0, none⟩) n2 cap2)) W')
    (r4 : RepI w4 (.slice (some ⟨g4, 0, none⟩) n4 cap4) (vs ++ [val])) (k4 : Keeps (fp vv) W' w4) (a4 : g4 ∈ fp vv ∨ g4 = W'.heap.size) (l4 : g4 < w4.heap.size) :
    MAt (w4.setCell ⟨bm, 1, none⟩ (.slice (some ⟨g4, 0, none⟩) n4 cap4)) bm (.slice (some ⟨g2, 0, none⟩) n2 cap2) (.slice (some ⟨g4, 0, none⟩) n4 cap4) (ks ++ [key]) (vs ++ [val]) ∧
    FreshOr (mfp bm kv vv) w1 (mfp bm (.slice (some ⟨g2, 0, none⟩) n2 cap2) (.slice (some ⟨g4, 0, none⟩) n4 cap4)) ∧
    Keeps (mfp bm kv vv) w1 (w4.setCell ⟨bm, 1, none⟩ (.slice (some ⟨g4, 0, none⟩) n4 cap4)) := by
  obtain ⟨p1, p2, p3, p4, p5, p6⟩ := push_mid h kW r2 k2 a2 l2
  have hlt := h.bk.lt
  have hWs := kW.size
  have h2s := k2.size
  have hs3 : (w2.setCell ⟨bm, 0, none⟩ (.slice (some ⟨g2, 0, none⟩) n2 cap2)).heap.size = w2.heap.size := by simp
  have hW's := kW'.size
  have hbg : bm ≠ g4 := fun e => by
    rcases a4 with q | q
    · rw [← e] at q; exact h.n2 q
    · omega
  have hgg : g2 ≠ g4 := fun e => by
    rcases a4 with q | q
    · rw [← e] at q; exact p6 q
    · omega
  have k5 : Keeps [bm] w4 (w4.setCell ⟨bm, 1, none⟩ (.slice (some ⟨g4, 0, none⟩) n4 cap4)) := Keeps.setCell (Keeps.refl _ _) _ _ (by simp)
  have b4 := k4.blk (kW'.blk p1 (by simp)) h.n2
  refine ⟨⟨b4.set 1 _, ?_, r4.keeps k5 (by rw [fp_some]; simp; exact Ne.symm hbg), by simp [h.ln], by rw [fp_some]; simp [p5], by rw [fp_some]; simp [hbg], by rw [fp_some, fp_some]; simp [hgg]⟩, ?_, ?_⟩
  · exact ((p2.keeps kW' (by simp)).keeps k4 (by rw [fp_some]; simpa using p6)).keeps k5 (by rw [fp_some]; simp; exact Ne.symm p5)
  · intro b hb
    simp only [mfp, fp_some, List.mem_cons, List.mem_append, List.not_mem_nil, or_false] at hb
    rcases hb with rfl | rfl | rfl
    · exact .inl (by simp [mfp])
    · rcases a2 with q | q
      · exact .inl (by simp [mfp, q])
      · exact .inr (by omega)
    · rcases a4 with q | q
      · exact .inl (by simp [mfp, q])
      · exact .inr (by omega)
  · refine (((p4.mono (G := mfp bm kv vv) (fun x hx _ => ?_)).trans kW' (by simp)).trans k4 (fun x hx _ => by simp [mfp, hx])).trans k5 (fun x hx _ => by simp only [List.mem_singleton] at hx; simp [mfp, hx])
    simp only [List.mem_cons] at hx
    rcases hx with rfl | hx
    · simp [mfp]
    · simp [mfp, hx]

set_option maxRecDepth 100000 in
set_option maxHeartbeats 1600000 in
theorem mstep_put {w : World} {t m : Int} {ct cm bt bm B : Nat} {R : List Nat} {ya ys oa os : Nat} {kv vv : Value} {T : Tab Int Int} {ks vs : List Int} (h : LawAt w t m ct cm bt bm B R ya ys oa os kv vv T ks vs) (hb : ks.length ≤ 4398046511104)
    (hsz : ∃ e, e ≤ 38 ∧ T.young.length = 2 ^ e) (oth : Bool) (key val : Int) :
    Calls Try.prog 27 #[.pointer (some ⟨bm, 0, none⟩), .pointer (some ⟨bt, 0, none⟩), .agg #[.int .i64 0, .bool oth, .int .i64 key, .int .i64 val]] w fun e w' =>
      e = .returned (.bool true) ∧ StepPost w t m ct cm bt bm B R T ks w' := by
  obtain ⟨w0, hw0⟩ : ∃ w0, w0 = w.alloc (.cells [.int .i64 0, .bool oth, .int .i64 key, .int .i64 val].toArray 32) := ⟨_, rfl⟩
  have hk0 : Keeps [] w w0 := by rw [hw0]; exact (Keeps.refl _ _).alloc _
  have hbx : Blk w0 w.heap.size [.int .i64 0, .bool oth, .int .i64 key, .int .i64 val] 32 := by rw [hw0]; exact Blk.new _ _ _
  have hL := h.keeps0 hk0
  have hat := at_calls hL.mod key
  have hix := idx_ok (hashI t m) ks key
  obtain ⟨hi2, hd2, hr2, hr3⟩ := put_rel _ 0 0 hL.inv hL.rel val hix
  have hput := put_calls hL.tab hL.hh hL.inv (fun q => (hL.f1 _ q).2 hL.ct) (fun q => (hL.f1 _ q).2 hL.cm) hsz key val
  rw [hd2] at hput
  have hyg := put_young (LI (hashI t m)) 0 0 hL.inv key val
  rw [len_rel _ hL.rel] at hyg
  have hlf := leftT_put (LI (hashI t m)) 0 0 hL.inv key val
  generalize (putM (LI (hashI t m)) 0 0 T key val).1 = T' at *
  have x0 := hbx.cell 0
  have x1 := hbx.cell 1
  have x2 := hbx.cell 2
  have x3 := hbx.cell 3
  simp only [List.getElem?_cons_zero, List.getElem?_cons_succ] at x0 x1 x2 x3
  have m1 := hL.mod.bk.cell 1
  simp only [List.getElem?_cons_zero, List.getElem?_cons_succ] at m1
  -- the box lies beside all
  have hbxF : w.heap.size ∉ [bt, ya, ys, oa, os] := fun q => by
    have l1 := h.tab.tb.lt
    have l2 := h.tab.yo.ha.lt
    have l3 := h.tab.yo.hs.lt
    simp only [List.mem_cons, List.not_mem_nil, or_false] at q
    cases ho : T.old with
    | none => obtain ⟨rfl, rfl⟩ := h.tab.d3 ho; omega
    | some o =>
      have l4 := (h.tab.ol o ho).ha.lt
      have l5 := (h.tab.ol o ho).hs.lt
      omega
  have HBXF := Lib.hid hbxF
  have hbxM : w.heap.size ∉ mfp bm kv vv := fun q => by have := h.mod.lt _ q; omega
  have HBXM := Lib.hid hbxM
  have HBX := Lib.hid hbx
  have HLL := Lib.hid hL
  have HW0 := Lib.hid hw0
  have HK0 := Lib.hid hk0
  have HI2 := Lib.hid hi2
  have HLF := Lib.hid hlf
  have HYG := Lib.hid hyg
  have hll := maxLen_le hL.mod.ko.len
  clear hw0 hL hbx hk0 hi2 hlf hyg hd2 hbxF hbxM hsz
  rcases idx_cases ks key with hi | ⟨j, hi, hj⟩
  · rw [hi] at hat hput hr3
    have e1 : valD vs (-1) 0 = 0 := rfl
    rw [e1] at hput
    have HAT := Lib.hid hat
    have HPUT := Lib.hid hput
    have HR := Lib.hid (hr3 (by omega))
    clear hat hput hix hi e1 hr2 hr3
    go_enter Try.func27, Try.ntmps27
    go_wp2_with fail
    rw [← HW0.out]
    refine (HAT.out).mono ?_
    rintro e w0 ⟨rfl, rfl⟩
    go_wp2_with fail
    refine (HPUT.out).mono ?_
    rintro e w1 ⟨rfl, ya1, ys1, oa1, os1, ht1, hf1, k1⟩
    have hG := HLL.out.tabled ht1 hf1 k1
    have hbx1 := k1.blk HBX.out HBXF.out
    have HG := Lib.hid hG
    have HT1 := Lib.hid ht1
    clear x0 x1 x2 x3 m1 hf1 k1 ht1 hG
    have x2 := hbx1.cell 2
    have x3 := hbx1.cell 3
    have m0 := HG.out.1.bk.cell 0
    have m1 := HG.out.1.bk.cell 1
    have f0 := HG.out.1.bk.frozen 0
    have f1 := HG.out.1.bk.frozen 1
    simp only [List.getElem?_cons_zero, List.getElem?_cons_succ] at x2 x3 m0 m1
    have l1 := HG.out.1.bk.lt
    have l2 := hbx1.lt
    have HBX1 := Lib.hid hbx1
    clear hbx1
    have F1 : ∀ W w2, Keeps [] w1 W → Keeps (fp kv) W w2 → w2.cell? ⟨bm, 0, none⟩ = some kv ∧ w2.frozen? ⟨bm, 0, none⟩ = false ∧ RepI w2 vv vs ∧ Blk w2 bm [kv, vv] 62 ∧ Blk w2 w.heap.size [.int .i64 0, .bool oth, .int .i64 key, .int .i64 val] 32 := by
      intro W w2 k1 k2
      have b1 := (k1.blk HG.out.1.bk (by simp))
      have b2 := k2.blk b1 HG.out.1.n1
      have b3 := k2.blk (k1.blk HBX1.out (by simp)) (fun q => HBXM.out (by simp [mfp, q]))
      exact ⟨b2.cell 0, b2.frozen 0, (HG.out.1.vo.keeps k1 (by simp)).keeps k2 (fun b hb q => HG.out.1.n3 b q hb), b2, b3⟩
    have HF1 := Lib.hid F1
    clear F1
    have HLNV := Lib.hid HG.out.1.ln
    have HKO := Lib.hid (fun W (k : Keeps [] w1 W) => HG.out.1.ko.keeps k (by simp))
    go_wp2
    go_region_law (refine step_rep_append rfl (.tmp 55) (.tmp 58) 40 rfl (.int .i64 0) 8 Try.underlying40 info3 rfl (by decide) kv ks (by simp [Act.eval, Act.put]) (HKO.out _ ((Keeps.refl _ _).alloc _).drew) (fun _ => rfl) ⟨w1.heap.size, 0, none⟩ 1 1 [key] (by simp [Act.eval, Act.put]) rfl (cell_one_new _ _ _) (by simp [Value.oneCell']) (by decide) (by unfold maxLen; omega) (by omega) ?_; intro g2 cap2 w2 r2 k2 a2 lg q2; obtain ⟨z1, z2, z3, z4, z5⟩ := HF1.out _ _ ((Keeps.refl _ _).alloc _).drew k2; have R2 := Lib.hid r2; have K2 := Lib.hid k2; have A2 := Lib.hid a2; have Z3 := Lib.hid z3; have Z4 := Lib.hid z4; have Z5 := Lib.hid z5; clear r2 k2 a2 z3 z4 z5)
    all_goals
      obtain ⟨p1, p2, p3, p4, p5, p6⟩ := push_mid HG.out.1 ((Keeps.refl _ _).alloc _).drew R2.out K2.out A2.out lg
      obtain ⟨w3, hw3⟩ : ∃ w3, w3 = w2.setCell ⟨bm, 0, none⟩ (.slice (some ⟨g2, 0, none⟩) (ks.length + 1) cap2) := ⟨_, rfl⟩
      rw [← hw3] at p1 p2 p3 p4 ⊢
      have bx3 := p4.blk HBX1.out (fun q => HBXM.out (by simp only [List.mem_cons] at q; rcases q with q | q <;> simp [mfp, q]))
      have HW3 := Lib.hid hw3
      have P1 := Lib.hid p1
      have P3 := Lib.hid p3
      have BX3 := Lib.hid bx3
      have l6 := p1.lt
      have l7 := bx3.lt
      clear hw3 z1 z2 x2 x3 m0 m1 f0 f1 p1 p2 p3 p4 p5 p6 bx3 l1 l2 q2
      have x3 := BX3.out.cell 3
      have m1 := P1.out.cell 1
      have f1 := P1.out.frozen 1
      simp only [List.getElem?_cons_zero, List.getElem?_cons_succ] at x3 m1
      have HKV3 := Lib.hid (fun W (k : Keeps [] w3 W) => P3.out.keeps k (by simp))
      have F3 : Hid (∀ W w4, Keeps [] w3 W → Keeps (fp vv) W w4 → w4.cell? ⟨bm, 1, none⟩ = some vv ∧ w4.frozen? ⟨bm, 1, none⟩ = false) := by
        intro W w4 k1 k2
        have b2 := k2.blk (k1.blk P1.out (by simp)) HG.out.1.n2
        exact ⟨b2.cell 1, b2.frozen 1⟩
      go_wp2
      go_region_law (refine step_rep_append rfl (.tmp 66) (.tmp 69) 40 rfl (.int .i64 0) 8 Try.underlying40 info3 rfl (by decide) vv vs (by simp [Act.eval, Act.put]) (HKV3.out _ ((Keeps.refl _ _).alloc _).drew) (fun _ => rfl) ⟨w3.heap.size, 0, none⟩ 1 1 [val] (by simp [Act.eval, Act.put]) rfl (cell_one_new _ _ _) (by simp [Value.oneCell']) (by decide) (by unfold maxLen; have := HLNV.out; omega) (by have := HLNV.out; omega) ?_; intro g4 cap4 w4 r4 k4 a4 l4 q4; obtain ⟨z1, z2⟩ := F3.out _ _ ((Keeps.refl _ _).alloc _).drew k4; have R4 := Lib.hid r4; have K4 := Lib.hid k4; have A4 := Lib.hid a4; clear r4 k4 a4)
      all_goals go_wp2
      all_goals
        go_ret
        obtain ⟨h1, h2, h3, h4, h5, h6, h7⟩ := HG.out
        have kW' : Keeps [] (w2.setCell ⟨bm, 0, none⟩ (.slice (some ⟨g2, 0, none⟩) (ks.length + 1) cap2)) ((w3.alloc (.cells #[.int .i64 val] 3)).drew) := by rw [← HW3.out]; exact ((Keeps.refl _ _).alloc (.cells #[.int .i64 val] 3)).drew
        obtain ⟨e1, e2, e3⟩ := push_end h1 ((Keeps.refl _ _).alloc (.cells #[.int .i64 key] 3)).drew R2.out K2.out A2.out lg kW' R4.out K4.out A4.out l4
        obtain ⟨q1, q2⟩ := LawAt.listed HT1.out h1 h2 h3 HLL.out.f2 h4 HLL.out.ct HLL.out.cm h6 h7 e1 e2 e3 HI2.out HR.out
        exact ⟨rfl, ya1, ys1, oa1, os1, _, _, T', ks ++ [key], vs ++ [val], q1, ((Kept.of HK0.out (by simp)).trans h5).trans q2, by simp, HLF.out, HYG.out⟩
  · obtain ⟨u, hu⟩ : ∃ u, vs[j]? = some u := ⟨_, List.getElem?_eq_getElem (by rw [← HLL.out.mod.ln]; exact hj)⟩
    have e1 : valD vs ((j : Nat) : Int) 0 = u := by
      unfold valD; rw [if_neg (by omega)]; simp [hu]
    rw [hi] at hat hput hr2
    rw [e1] at hput
    have hr2' := hr2 (by omega)
    rw [show ((j : Int)).toNat = j from by omega] at hr2'
    have hjv : j < vs.length := (List.getElem?_eq_some_iff.1 hu).1
    obtain ⟨g, cap, hvv, _, _⟩ := HLL.out.mod.vo.ex (by rw [← HLL.out.mod.ln]; omega)
    rw [hvv, ← HLL.out.mod.ln] at m1
    have hvr := HLL.out.mod.vo
    rw [hvv] at hvr
    have cu := hvr.cell1 (fun _ => rfl) j u hu
    have HAT := Lib.hid hat
    have HPUT := Lib.hid hput
    have HVV := Lib.hid hvv
    have HLNN := Lib.hid HLL.out.mod.ln
    have HU := Lib.hid hu
    have HR := Lib.hid hr2'
    clear hat hput hix hi e1 hvv hvr hu hr2 hr3 hr2'
    have hj0 : (0 : Int) ≤ (j : Int) := by omega
    go_enter Try.func27, Try.ntmps27
    go_wp2_with fail
    rw [← HW0.out]
    refine (HAT.out).mono ?_
    rintro e w0 ⟨rfl, rfl⟩
    go_wp2_with fail
    refine (HPUT.out).mono ?_
    rintro e w1 ⟨rfl, ya1, ys1, oa1, os1, ht1, hf1, k1⟩
    have hG := HLL.out.tabled ht1 hf1 k1
    have hbx1 := k1.blk HBX.out HBXF.out
    have HG := Lib.hid hG
    have HT1 := Lib.hid ht1
    clear x0 x1 x2 x3 m1 cu hf1 k1 ht1 hG
    have x3 := hbx1.cell 3
    have m1 := HG.out.1.bk.cell 1
    simp only [List.getElem?_cons_zero, List.getElem?_cons_succ, HVV.out, ← HLNN.out] at x3 m1
    have hvr := HG.out.1.vo
    rw [HVV.out] at hvr
    have cu := hvr.cell1 (fun _ => rfl) j u HU.out
    have fu := hvr.frozen j
    clear hbx1 hvr
    go_wp2
    go_region
    go_wp2
    go_ret
    obtain ⟨g1, g2, g3, g4, g5, g6, g7⟩ := HG.out
    rw [HVV.out] at g1 g2
    have hf2 := HLL.out.f2
    rw [HVV.out] at hf2
    have hms := g1.setVal j val hjv
    obtain ⟨q1, q2⟩ := LawAt.listed HT1.out g1 g2 g3 hf2 g4 HLL.out.ct HLL.out.cm g6 g7 hms.1 (FreshOr.refl _ _) hms.2 HI2.out HR.out
    have kd : Keeps [] (w1.setCell ⟨g, j, none⟩ (.int .i64 val)) (w1.setCell ⟨g, j, none⟩ (.int .i64 val)).drew := (Keeps.refl _ _).drew
    exact ⟨rfl, ya1, ys1, oa1, os1, kv, _, T', ks, vs.set j val, q1.keeps0 kd, (((Kept.of HK0.out (by simp)).trans g5).trans q2).trans (Kept.of kd (by simp)), by omega, HLF.out, HYG.out⟩
end Go.Proofs.Ytaomaeobgfeoiaa.X
