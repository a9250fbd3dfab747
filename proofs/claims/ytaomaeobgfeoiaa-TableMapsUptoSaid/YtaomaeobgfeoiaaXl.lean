import Derived.Test.YtaomaeobgfeoiaaXk
namespace Go.Proofs.Ytaomaeobgfeoiaa.X
open Go.RowKit Pl

theorem keeps_res {F R : List Nat} {w w' : World} {ct : Nat} (h : ∀ b ∈ F, b ∉ R) (hc : ct ∈ R) : ct ∉ F := fun hm => h ct hm hc

/-- Behind a change of the table alone. -/
theorem LawAt.tabled {w w' : World} {t m : Int} {ct cm bt bm B : Nat} {R : List Nat} {ya ys oa os ya' ys' oa' os' : Nat} {kv vv : Value} {T T' : Tab Int Int} {ks vs : List Int} (h : LawAt w t m ct cm bt bm B R ya ys oa os kv vv T ks vs)
    (ht : TabAt w' (hvI ct cm) bt ya' ys' oa' os' T') (hf : FreshOr [bt, ya, ys, oa, os] w [bt, ya', ys', oa', os']) (k : Keeps [bt, ya, ys, oa, os] w w') :
    MAt w' bm kv vv ks vs ∧ (∀ b ∈ [bt, ya', ys', oa', os'], b ∉ mfp bm kv vv) ∧ (∀ b ∈ [bt, ya', ys', oa', os'], B ≤ b ∧ b ∉ R) ∧ HOk w' t m ct cm ∧ Kept B R w w' ∧ (∀ b ∈ R, b < w'.heap.size) ∧ B ≤ w'.heap.size := by
  refine ⟨h.mod.keeps k (fun b hb hm => h.dis b hm hb), ?_, ?_, h.hh.keeps k (fun hm => (h.f1 _ hm).2 h.ct) (fun hm => (h.f1 _ hm).2 h.cm), Kept.of k h.f1, fun b hb => Nat.lt_of_lt_of_le (h.res b hb) k.size, Nat.le_trans h.hB k.size⟩
  · intro b hb hm
    rcases hf b hb with q | q
    · exact h.dis b q hm
    · have := h.mod.lt b hm; omega
  · intro b hb
    rcases hf b hb with q | q
    · exact h.f1 b q
    · exact ⟨Nat.le_trans h.hB q, fun hm => by have := h.res b hm; omega⟩

/-- Behind a change of the list alone. -/
theorem LawAt.listed {w w' : World} {t m : Int} {ct cm bt bm B : Nat} {R : List Nat} {ya ys oa os : Nat} {kv vv kv' vv' : Value} {T : Tab Int Int} {ks vs ks' vs' : List Int}
    (ht : TabAt w (hvI ct cm) bt ya ys oa os T) (hm : MAt w bm kv vv ks vs) (hdis : ∀ b ∈ [bt, ya, ys, oa, os], b ∉ mfp bm kv vv) (hf1 : ∀ b ∈ [bt, ya, ys, oa, os], B ≤ b ∧ b ∉ R) (hf2 : ∀ b ∈ mfp bm kv vv, B ≤ b ∧ b ∉ R)
    (hh : HOk w t m ct cm) (hct : ct ∈ R) (hcm : cm ∈ R) (hres : ∀ b ∈ R, b < w.heap.size) (hB : B ≤ w.heap.size)
    (hm' : MAt w' bm kv' vv' ks' vs') (hf : FreshOr (mfp bm kv vv) w (mfp bm kv' vv')) (k : Keeps (mfp bm kv vv) w w') (hi : Inv (LI (hashI t m)) T) (hr : Rel (LI (hashI t m)) T ks' vs') :
    LawAt w' t m ct cm bt bm B R ya ys oa os kv' vv' T ks' vs' ∧ Kept B R w w' := by
  have hn : ∀ b ∈ [bt, ya, ys, oa, os], b ∉ mfp bm kv vv := hdis
  refine ⟨⟨⟨k.blk ht.tb (hn bt (by simp)), ht.yo.keeps k (hn ya (by simp)) (hn ys (by simp)), fun o ho => (ht.ol o ho).keeps k (hn oa (by simp)) (hn os (by simp)), ht.d1, ht.d2, ht.d3⟩, hm', ?_, hf1, ?_, hh.keeps k (fun q => (hf2 _ q).2 hct) (fun q => (hf2 _ q).2 hcm), hct, hcm, hi, hr, fun b hb => Nat.lt_of_lt_of_le (hres b hb) k.size, Nat.le_trans hB k.size⟩, Kept.of k hf2⟩
  · intro b hb q
    rcases hf b q with q | q
    · exact hdis b hb q
    · have : b < w.heap.size := by
        simp only [List.mem_cons, List.not_mem_nil, or_false] at hb
        have l1 := ht.tb.lt
        have l2 := ht.yo.ha.lt
        have l3 := ht.yo.hs.lt
        cases ho : T.old with
        | none => obtain ⟨rfl, rfl⟩ := ht.d3 ho; omega
        | some o =>
          have l4 := (ht.ol o ho).ha.lt
          have l5 := (ht.ol o ho).hs.lt
          omega
      omega
  · intro b q
    rcases hf b q with q | q
    · exact hf2 b q
    · exact ⟨Nat.le_trans hB q, fun hm => by have := hres b hm; omega⟩

set_option maxRecDepth 100000 in
set_option maxHeartbeats 1600000 in
theorem mstep_del {w : World} {t m : Int} {ct cm bt bm B : Nat} {R : List Nat} {ya ys oa os : Nat} {kv vv : Value} {T : Tab Int Int} {ks vs : List Int} (h : LawAt w t m ct cm bt bm B R ya ys oa os kv vv T ks vs) (hb : ks.length ≤ 4398046511104)
    (oth : Bool) (key val : Int) :
    Calls Try.prog 27 #[.pointer (some ⟨bm, 0, none⟩), .pointer (some ⟨bt, 0, none⟩), .agg #[.int .i64 1, .bool oth, .int .i64 key, .int .i64 val]] w fun e w' =>
      e = .returned (.bool true) ∧ StepPost w t m ct cm bt bm B R T ks w' := by
  obtain ⟨w0, hw0⟩ : ∃ w0, w0 = w.alloc (.cells [.int .i64 1, .bool oth, .int .i64 key, .int .i64 val].toArray 32) := ⟨_, rfl⟩
  have hk0 : Keeps [] w w0 := by rw [hw0]; exact (Keeps.refl _ _).alloc _
  have hbx : Blk w0 w.heap.size [.int .i64 1, .bool oth, .int .i64 key, .int .i64 val] 32 := by rw [hw0]; exact Blk.new _ _ _
  have hL := h.keeps0 hk0
  have hat := at_calls hL.mod key
  have hix := idx_ok (hashI t m) ks key
  obtain ⟨hi2, hd2, hr2, hr3⟩ := del_rel _ 0 0 hL.inv hL.rel hix
  have hdel := del_calls hL.tab hL.hh hL.inv (fun q => (hL.f1 _ q).2 hL.ct) (fun q => (hL.f1 _ q).2 hL.cm) key
  rw [hd2] at hdel
  have hyg := del_young (LI (hashI t m)) 0 0 hL.inv key
  have hlf := leftT_del (LI (hashI t m)) 0 0 hL.inv key
  generalize (delM (LI (hashI t m)) 0 0 T key).1 = T' at *
  have x0 := hbx.cell 0
  have x1 := hbx.cell 1
  have x2 := hbx.cell 2
  have x3 := hbx.cell 3
  simp only [List.getElem?_cons_zero, List.getElem?_cons_succ] at x0 x1 x2 x3
  have m1 := hL.mod.bk.cell 1
  simp only [List.getElem?_cons_zero, List.getElem?_cons_succ] at m1
  have HLL := Lib.hid hL
  have HW0 := Lib.hid hw0
  have HK0 := Lib.hid hk0
  have HI2 := Lib.hid hi2
  have HLF := Lib.hid hlf
  have HYG := Lib.hid hyg
  have hll := maxLen_le hL.mod.ko.len
  clear hw0 hL hbx hk0 hi2 hlf hyg hd2
  rcases idx_cases ks key with hi | ⟨j, hi, hj⟩
  · rw [hi] at hat hdel hr3
    have e1 : valD vs (-1) 0 = 0 := rfl
    rw [e1] at hdel
    have HAT := Lib.hid hat
    have HDEL := Lib.hid hdel
    have HR := Lib.hid (hr3 (by omega))
    clear hat hdel hix hi e1 hr2 hr3
    go_enter Try.func27, Try.ntmps27
    go_wp2_with fail
    rw [← HW0.out]
    refine (HAT.out).mono ?_
    rintro e w0 ⟨rfl, rfl⟩
    go_wp2_with fail
    refine (HDEL.out).mono ?_
    rintro e w1 ⟨rfl, oa1, os1, ht1, hf1, k1⟩
    obtain ⟨g1, g2, g3, g4, g5, g6, g7⟩ := HLL.out.tabled ht1 hf1 k1
    have HFIN : Hid (StepPost w t m ct cm bt bm B R T ks w1) := ⟨ya, ys, oa1, os1, kv, vv, T', ks, vs, ⟨ht1, g1, g2, g3, HLL.out.f2, g4, HLL.out.ct, HLL.out.cm, HI2.out, HR.out, g6, g7⟩, (Kept.of HK0.out (by simp)).trans g5, by omega, HLF.out, .inl HYG.out⟩
    clear x0 x1 x2 x3 m1 ht1 hf1 k1 g1 g2 g3 g4 g5 g6 g7
    go_wp2
    go_ret
    exact ⟨rfl, HFIN.out⟩
  · obtain ⟨u, hu⟩ : ∃ u, vs[j]? = some u := ⟨_, List.getElem?_eq_getElem (by rw [← HLL.out.mod.ln]; exact hj)⟩
    have e1 : valD vs ((j : Nat) : Int) 0 = u := by
      unfold valD; rw [if_neg (by omega)]; simp [hu]
    rw [hi] at hat hdel hr2
    rw [e1] at hdel
    have hr2' := hr2 (by omega)
    rw [show ((j : Int)).toNat = j from by omega] at hr2'
    obtain ⟨g, cap, hvv, _, _⟩ := HLL.out.mod.vo.ex (by rw [← HLL.out.mod.ln]; omega)
    rw [hvv, ← HLL.out.mod.ln] at m1
    have hvr := HLL.out.mod.vo
    rw [hvv] at hvr
    have cu := hvr.cell1 (fun _ => rfl) j u hu
    have HAT := Lib.hid hat
    have HDEL := Lib.hid hdel
    have HVV := Lib.hid hvv
    have HR := Lib.hid hr2'
    clear hat hdel hix hi e1 hvv hvr hu hr2 hr3 hr2'
    have hj0 : (0 : Int) ≤ (j : Int) := by omega
    go_enter Try.func27, Try.ntmps27
    go_wp2_with fail
    rw [← HW0.out]
    refine (HAT.out).mono ?_
    rintro e w0 ⟨rfl, rfl⟩
    go_wp2_with fail
    refine (HDEL.out).mono ?_
    rintro e w1 ⟨rfl, oa1, os1, ht1, hf1, k1⟩
    obtain ⟨g1, g2, g3, g4, g5, g6, g7⟩ := HLL.out.tabled ht1 hf1 k1
    have HG1 := Lib.hid g1
    have HG := Lib.hid (And.intro ht1 (And.intro g2 (And.intro g3 (And.intro g4 (And.intro g5 (And.intro g6 g7))))))
    clear x0 x1 x2 x3 m1 cu ht1 hf1 k1 g1 g2 g3 g4 g5 g6 g7
    go_wp2_with fail
    refine (out_calls HG1.out j (by omega)).mono ?_
    rintro e w2 ⟨rfl, kv2, vv2, hm2, hf2, k2⟩
    obtain ⟨ht1, g2, g3, g4, g5, g6, g7⟩ := HG.out
    obtain ⟨q1, q2⟩ := LawAt.listed ht1 HG1.out g2 g3 HLL.out.f2 g4 HLL.out.ct HLL.out.cm g6 g7 hm2 hf2 (k2.mono (fun x hx _ => by simp only [List.mem_singleton] at hx; simp [mfp, hx])) HI2.out HR.out
    have HFIN : Hid (StepPost w t m ct cm bt bm B R T ks w2) := ⟨ya, ys, oa1, os1, kv2, vv2, T', ks.eraseIdx j, vs.eraseIdx j, q1, ((Kept.of HK0.out (by simp)).trans g5).trans q2, by have := List.length_eraseIdx_le ks j; omega, HLF.out, .inl HYG.out⟩
    clear hm2 hf2 k2 ht1 g2 g3 g4 g5 g6 g7 q1 q2
    go_wp2
    go_ret
    exact ⟨rfl, HFIN.out⟩
end Go.Proofs.Ytaomaeobgfeoiaa.X
