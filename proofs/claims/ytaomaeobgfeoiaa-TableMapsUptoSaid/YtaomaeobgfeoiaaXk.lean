import Derived.Test.YtaomaeobgfeoiaaXj
import Derived.Test.YtaomaeobgfeoiaaTd
namespace Go.Proofs.Ytaomaeobgfeoiaa.X
open Go.RowKit Pl

/-- Below B, and of the blocks of R, all is as it was. -/
structure Kept (B : Nat) (R : List Nat) (w w' : World) : Prop where
  os : w'.os = w.os
  tape : w'.tape = w.tape
  output : w'.output = w.output
  size : w.heap.size ≤ w'.heap.size
  block : ∀ k, k < w.heap.size → (k < B ∨ k ∈ R) → w'.heap[k]? = w.heap[k]?
theorem Kept.refl (B : Nat) (R : List Nat) (w : World) : Kept B R w w := ⟨rfl, rfl, rfl, Nat.le_refl _, fun _ _ _ => rfl⟩
theorem Kept.trans {B : Nat} {R : List Nat} {a b c : World} (h : Kept B R a b) (k : Kept B R b c) : Kept B R a c :=
  ⟨k.os.trans h.os, k.tape.trans h.tape, k.output.trans h.output, Nat.le_trans h.size k.size, fun i hi hn => (k.block i (Nat.lt_of_lt_of_le hi h.size) hn).trans (h.block i hi hn)⟩
theorem Kept.of {B : Nat} {R F : List Nat} {w w' : World} (k : Keeps F w w') (h : ∀ b ∈ F, B ≤ b ∧ b ∉ R) : Kept B R w w' :=
  ⟨k.os, k.tape, k.output, k.size, fun i hi hn => k.block i hi fun hm => by
    obtain ⟨h1, h2⟩ := h i hm
    rcases hn with q | q
    · omega
    · exact h2 q⟩
theorem Kept.below {B : Nat} {R : List Nat} {w w' : World} (k : Kept B R w w') (h : B ≤ w.heap.size) : Below B w w' := ⟨k.os, k.tape, k.output, k.size, fun i hi => k.block i (by omega) (.inl hi)⟩
theorem Kept.blk {B : Nat} {R : List Nat} {w w' : World} (k : Kept B R w w') {b : Nat} {cs : List Value} {t : TypeId} (hb : Blk w b cs t) (hn : b ∈ R) : Blk w' b cs t := (k.block b hb.lt (.inr hn)).trans hb

/-- The table and the list, side by side. -/
structure LawAt (w : World) (t m : Int) (ct cm bt bm : Nat) (B : Nat) (R : List Nat) (ya ys oa os : Nat) (kv vv : Value) (T : Tab Int Int) (ks vs : List Int) : Prop where
  tab : TabAt w (hvI ct cm) bt ya ys oa os T
  mod : MAt w bm kv vv ks vs
  dis : ∀ b ∈ [bt, ya, ys, oa, os], b ∉ mfp bm kv vv
  f1 : ∀ b ∈ [bt, ya, ys, oa, os], B ≤ b ∧ b ∉ R
  f2 : ∀ b ∈ mfp bm kv vv, B ≤ b ∧ b ∉ R
  hh : HOk w t m ct cm
  ct : ct ∈ R
  cm : cm ∈ R
  inv : Inv (LI (hashI t m)) T
  rel : Rel (LI (hashI t m)) T ks vs
  res : ∀ b ∈ R, b < w.heap.size
  hB : B ≤ w.heap.size

theorem LawAt.keeps0 {w w' : World} {t m : Int} {ct cm bt bm B : Nat} {R : List Nat} {ya ys oa os : Nat} {kv vv : Value} {T : Tab Int Int} {ks vs : List Int} (h : LawAt w t m ct cm bt bm B R ya ys oa os kv vv T ks vs) (k : Keeps [] w w') :
    LawAt w' t m ct cm bt bm B R ya ys oa os kv vv T ks vs :=
  ⟨h.tab.keeps0 k, h.mod.keeps k (by simp), h.dis, h.f1, h.f2, h.hh.keeps k (by simp) (by simp), h.ct, h.cm, h.inv, h.rel, fun b hb => Nat.lt_of_lt_of_le (h.res b hb) k.size, Nat.le_trans h.hB k.size⟩

theorem idx_ok (hash : Int → Nat) (ks : List Int) (k : Int) : IdxOk (LI hash) ks k (idxM ks k) := by
  unfold idxM
  cases h : ks.findIdx? (· == k) with
  | none =>
    refine .none fun j x hx => ?_
    have := List.findIdx?_eq_none_iff.1 h x (List.mem_of_getElem? hx)
    exact this
  | some i =>
    obtain ⟨hi, h1, _⟩ := List.findIdx?_eq_some_iff_getElem.1 h
    exact .some i ks[i] (List.getElem?_eq_getElem hi) h1

theorem idx_cases (ks : List Int) (k : Int) : idxM ks k = -1 ∨ ∃ j : Nat, idxM ks k = j ∧ j < ks.length := by
  unfold idxM
  cases h : ks.findIdx? (· == k) with
  | none => exact .inl rfl
  | some i => exact .inr ⟨i, rfl, (List.findIdx?_eq_some_iff_getElem.1 h).1⟩

/-- What a step of the law leaves. -/
def StepPost (w : World) (t m : Int) (ct cm bt bm B : Nat) (R : List Nat) (T : Tab Int Int) (ks : List Int) (w' : World) : Prop :=
  ∃ ya' ys' oa' os' kv' vv' T' ks' vs', LawAt w' t m ct cm bt bm B R ya' ys' oa' os' kv' vv' T' ks' vs' ∧ Kept B R w w' ∧ ks'.length ≤ ks.length + 1 ∧ (8 < leftT T → leftT T' ≤ leftT T) ∧ (T'.young.length = T.young.length ∨ T'.young.length ≤ 4 * ks.length + 8)

set_option maxRecDepth 100000 in
set_option maxHeartbeats 1600000 in
theorem mstep_get {w : World} {t m : Int} {ct cm bt bm B : Nat} {R : List Nat} {ya ys oa os : Nat} {kv vv : Value} {T : Tab Int Int} {ks vs : List Int} (h : LawAt w t m ct cm bt bm B R ya ys oa os kv vv T ks vs)
    (dd : Int) (oth : Bool) (key val : Int) (h0 : (dd == 0) = false) (h1 : (dd == 1) = false) :
    Calls Try.prog 27 #[.pointer (some ⟨bm, 0, none⟩), .pointer (some ⟨bt, 0, none⟩), .agg #[.int .i64 dd, .bool oth, .int .i64 key, .int .i64 val]] w fun e w' =>
      e = .returned (.bool true) ∧ StepPost w t m ct cm bt bm B R T ks w' := by
  obtain ⟨w0, hw0⟩ : ∃ w0, w0 = w.alloc (.cells [.int .i64 dd, .bool oth, .int .i64 key, .int .i64 val].toArray 32) := ⟨_, rfl⟩
  have hk0 : Keeps [] w w0 := by rw [hw0]; exact (Keeps.refl _ _).alloc _
  have hbx : Blk w0 w.heap.size [.int .i64 dd, .bool oth, .int .i64 key, .int .i64 val] 32 := by rw [hw0]; exact Blk.new _ _ _
  have hL := h.keeps0 hk0
  have hat := at_calls hL.mod key
  have hix := idx_ok (hashI t m) ks key
  have hgr := get_rel _ 0 hL.inv hL.rel hix
  have hget := get_calls hL.tab hL.hh hL.inv.a key
  rw [hgr] at hget
  have hlr := len_rel _ hL.rel
  have hln := len_calls hL.tab
  rw [hlr] at hln
  have x0 := hbx.cell 0
  have x1 := hbx.cell 1
  have x2 := hbx.cell 2
  have x3 := hbx.cell 3
  simp only [List.getElem?_cons_zero, List.getElem?_cons_succ] at x0 x1 x2 x3
  have m0 := hL.mod.bk.cell 0
  have m1 := hL.mod.bk.cell 1
  simp only [List.getElem?_cons_zero, List.getElem?_cons_succ] at m0 m1
  obtain ⟨ak, ck, hkv, _, _, _⟩ := hL.mod.ko.form
  rw [hkv] at m0
  have HFD : Hid (∀ w1, Keeps [] w0 w1 → StepPost w t m ct cm bt bm B R T ks w1) := fun w1 k => ⟨ya, ys, oa, os, kv, vv, T, ks, vs, hL.keeps0 k, Kept.of (hk0.trans k (by simp)) (by simp), by omega, fun _ => Nat.le_refl _, .inl rfl⟩
  have HLL := Lib.hid hL
  have HW0 := Lib.hid hw0
  have HBX := Lib.hid hbx
  have HKV := Lib.hid hkv
  have HLR := Lib.hid hlr
  have hll := maxLen_le hL.mod.ko.len
  clear hw0 hkv hlr hln hL hbx
  rcases idx_cases ks key with hi | ⟨j, hi, hj⟩
  · rw [hi] at hat hget
    have e1 : valD vs (-1) 0 = 0 := rfl
    rw [e1] at hget
    have HAT := Lib.hid hat
    have HGET := Lib.hid hget
    clear hat hget hix hgr hi e1
    go_enter Try.func27, Try.ntmps27
    go_wp2_with fail
    rw [← HW0.out]
    refine (HAT.out).mono ?_
    rintro e w0 ⟨rfl, rfl⟩
    go_wp2_with fail
    refine (HGET.out).mono ?_
    rintro e w1 ⟨rfl, n, hw1⟩
    have k1 : Keeps [] w0 w1 := by rw [hw1]; exact (Keeps.refl _ _).drewN n
    clear hw1 m0 m1 x0 x1 x2 x3
    have hL1 := HLL.out.keeps0 k1
    have m0 := hL1.mod.bk.cell 0
    simp only [List.getElem?_cons_zero, HKV.out] at m0
    have hlq : ∀ n, Calls Try.prog 29 #[.pointer (some ⟨bt, 0, none⟩)] (w1.drewN n) fun e w' => e = .returned (.int .i64 (ks.length : Nat)) ∧ w' = w1.drewN n := fun n => by
      have := len_calls (hL1.tab.drewN n)
      rwa [HLR.out] at this
    have HLQ := Lib.hid hlq
    clear hlq hL1
    have HK1 := Lib.hid k1
    clear k1
    go_wp2
    go_quiet ((go_at_call 29; exact Calls.quiet_of_same (HLQ.out _)))
    go_wp2
    go_ret
    exact ⟨rfl, HFD.out _ (HK1.out.drewN _)⟩
  · obtain ⟨u, hu⟩ : ∃ u, vs[j]? = some u := ⟨_, List.getElem?_eq_getElem (by rw [← HLL.out.mod.ln]; exact hj)⟩
    have e1 : valD vs ((j : Nat) : Int) 0 = u := by
      unfold valD; rw [if_neg (by omega)]; simp [hu]
    rw [hi] at hat hget
    rw [e1] at hget
    obtain ⟨g, cap, hvv, _, _⟩ := HLL.out.mod.vo.ex (by rw [← HLL.out.mod.ln]; omega)
    rw [hvv, ← HLL.out.mod.ln] at m1
    have hvr := HLL.out.mod.vo
    rw [hvv] at hvr
    have cu := hvr.cell1 (fun _ => rfl) j u hu
    have HAT := Lib.hid hat
    have HGET := Lib.hid hget
    have HVV := Lib.hid hvv
    clear hat hget hix hgr hi e1 hvv hvr hu
    have hj0 : (0 : Int) ≤ (j : Int) := by omega
    go_enter Try.func27, Try.ntmps27
    go_wp2_with fail
    rw [← HW0.out]
    refine (HAT.out).mono ?_
    rintro e w0 ⟨rfl, rfl⟩
    go_wp2_with fail
    refine (HGET.out).mono ?_
    rintro e w1 ⟨rfl, n, hw1⟩
    have k1 : Keeps [] w0 w1 := by rw [hw1]; exact (Keeps.refl _ _).drewN n
    clear hw1 m0 m1 x0 x1 x2 x3 cu
    have hL1 := HLL.out.keeps0 k1
    have m0 := hL1.mod.bk.cell 0
    simp only [List.getElem?_cons_zero, HKV.out] at m0
    have hlq : ∀ n, Calls Try.prog 29 #[.pointer (some ⟨bt, 0, none⟩)] (w1.drewN n) fun e w' => e = .returned (.int .i64 (ks.length : Nat)) ∧ w' = w1.drewN n := fun n => by
      have := len_calls (hL1.tab.drewN n)
      rwa [HLR.out] at this
    have HLQ := Lib.hid hlq
    clear hlq hL1
    have HK1 := Lib.hid k1
    clear k1
    go_wp2
    go_quiet ((go_at_call 29; exact Calls.quiet_of_same (HLQ.out _)))
    go_wp2
    go_ret
    exact ⟨rfl, HFD.out _ (HK1.out.drewN _)⟩
end Go.Proofs.Ytaomaeobgfeoiaa.X
