/- TableWide: the hash, newArray; made, seek. -/
import Derived.Test.YtaomaeobgfeoiaaWb
import Derived.Deep.RegionWith
namespace Go.Proofs.Ytaomaeobgfeoiaa.W
open Go.RowKit Pl

def hashW (k : WK) : Nat := (IntKind.u64.wrap (IntKind.u64.wrap (IntKind.u64.wrap k.a + k.b1) + IntKind.u64.wrap (k.c.size : Int))).toNat
theorem u64_nonneg (x : Int) : 0 ≤ IntKind.u64.wrap x := by
  simp [IntKind.wrap, IntKind.bits, IntKind.signed]; omega
theorem hashW_cast (k : WK) : ((hashW k : Nat) : Int) = IntKind.u64.wrap (IntKind.u64.wrap (IntKind.u64.wrap k.a + k.b1) + IntKind.u64.wrap (k.c.size : Int)) := by
  unfold hashW
  have := u64_nonneg (IntKind.u64.wrap (IntKind.u64.wrap k.a + k.b1) + IntKind.u64.wrap (k.c.size : Int))
  omega

theorem u8_range {n : Int} (h : (Lit.int .u8 n).wf = true) : 0 ≤ n ∧ n ≤ 255 := by
  unfold Lit.wf at h
  rw [Bool.and_eq_true] at h
  have h1 := of_decide_eq_true h.1
  have h2 := of_decide_eq_true h.2
  have e1 : IntKind.u8.min = 0 := by decide
  have e2 : IntKind.u8.max = 255 := by decide
  omega

theorem clos_calls (k : WK) (w : World) : Calls Try.prog 36 #[aggK k] w fun e w' => e = .returned (.int .u64 (hashW k)) ∧ Keeps [] w w' := by
  have hc := k.hc
  obtain ⟨hb1, hb2⟩ := u8_range k.h1
  go_enter Try.func36, Try.ntmps36
  go_wp2
  go_ret
  rw [hashW_cast]
  exact ⟨rfl, (Keeps.refl _ _).alloc _⟩

theorem info132 : (Try.prog.info? 132).map (fun i => (i.zero, i.size, i.bytes)) = some (some (.agg #[.int .u8 0, .int .i8 0, .int .u8 0, .int .u8 0, .string ⟨#[]⟩, .slice none 0 0]), 6, 56) := by kernel_rfl

theorem newArray_calls (n : Nat) (w : World) (hn : n ≤ 1099511627776) : Calls Try.prog 67 #[.int .i64 n] w fun e w' => e = .returned (.pointer (some ⟨w.heap.size + 1, 0, none⟩)) ∧
     w' = (w.alloc (.cells ((List.replicate n (⟨0, 0, 0⟩ : Sl WK SV)).flatMap encS).toArray 132)).alloc (.cells #[.slice (some ⟨w.heap.size, 0, none⟩) n n, .int .i64 0, .int .i64 0] 135) := by
  have hmade : madeCells (Value.cells (.agg #[.int .u8 0, .int .i8 0, .int .u8 0, .int .u8 0, .string ⟨#[]⟩, .slice none 0 0])) (n * 6) = ((List.replicate n (⟨0, 0, 0⟩ : Sl WK SV)).flatMap encS).toArray :=
    made_eq encS ⟨0, 0, 0⟩ _ rfl (by decide) n
  go_enter Try.func67, Try.ntmps67
  go_wp2_with (refine wpList_make_cells _ rfl _ _ 133 rfl 132 _ 6 56 Try.underlying133 info132 _ _ _ _ n rfl rfl rfl rfl (by omega) (by omega) ?_)
  go_ret
  rw [← hmade]
  exact ⟨rfl, rfl⟩

def opOf (T : Tab WK SV) (oa : Nat) : Option Addr := T.old.map fun _ => ⟨oa, 0, none⟩
abbrev hvW : Value := .func (.func 36) #[] #[]

/-- A table in memory. -/
structure TabAt (w : World) (bt ya ys oa os : Nat) (T : Tab WK SV) : Prop where
  tb : Blk w bt [hvW, .pointer (some ⟨ya,0,none⟩), .pointer (opOf T oa), .int .i64 T.mark] 127
  yo : ArrAt w ya ys T.young
  ol : ∀ o, T.old = some o → ArrAt w oa os o
  d1 : bt ≠ ya ∧ bt ≠ ys
  d2 : ∀ o, T.old = some o → bt ≠ oa ∧ bt ≠ os ∧ ya ≠ oa ∧ ya ≠ os ∧ ys ≠ oa ∧ ys ≠ os
  d3 : T.old = none → oa = ya ∧ os = ys

theorem TabAt.keeps {F : List Nat} {w w' : World} {bt ya ys oa os : Nat} {T : Tab WK SV} (h : TabAt w bt ya ys oa os T) (k : Keeps F w w') (hd : ∀ b ∈ [bt, ya, ys, oa, os], b ∉ F) : TabAt w' bt ya ys oa os T :=
  ⟨k.blk h.tb (hd bt (by simp)), h.yo.keeps k (hd ya (by simp)) (hd ys (by simp)), fun o ho => (h.ol o ho).keeps k (hd oa (by simp)) (hd os (by simp)), h.d1, h.d2, h.d3⟩
theorem TabAt.keeps0 {w w' : World} {bt ya ys oa os : Nat} {T : Tab WK SV} (h : TabAt w bt ya ys oa os T) (k : Keeps [] w w') : TabAt w' bt ya ys oa os T := h.keeps k (by simp)
theorem TabAt.cells {w : World} {bt ya ys oa os : Nat} {T : Tab WK SV} (h : TabAt w bt ya ys oa os T) :
    w.cell? ⟨bt, 0, none⟩ = some hvW ∧ w.cell? ⟨bt, 1, none⟩ = some (.pointer (some ⟨ya,0,none⟩)) ∧ w.cell? ⟨bt, 2, none⟩ = some (.pointer (opOf T oa)) ∧ w.cell? ⟨bt, 3, none⟩ = some (.int .i64 T.mark) :=
  ⟨h.tb.cell 0, h.tb.cell 1, h.tb.cell 2, h.tb.cell 3⟩

theorem made_calls {w : World} {bt ya ys oa os : Nat} {T : Tab WK SV} (h : TabAt w bt ya ys oa os T) :
    Calls Try.prog 68 #[.pointer (some ⟨bt,0,none⟩)] w fun e w' => e = .returned (.bool true) ∧ w' = w := by
  obtain ⟨t0, t1, t2, t3⟩ := h.cells
  go_enter Try.func68, Try.ntmps68
  go_wp2
  go_ret
  exact ⟨rfl, rfl⟩
theorem made_nil (w : World) : Calls Try.prog 68 #[.pointer none] w fun e w' => e = .returned (.bool false) ∧ w' = w := by
  go_enter Try.func68, Try.ntmps68
  go_wp2
  go_ret
  exact ⟨rfl, rfl⟩

set_option maxRecDepth 100000 in
set_option maxHeartbeats 3200000 in
theorem seek_calls (hash : WK → Nat) {w : World} {bt ya ys oa os : Nat} {T : Tab WK SV} (h : TabAt w bt ya ys oa os T) (hi : InvA (LI hash) T) (k : WK) :
    Calls Try.prog 70 #[.pointer (some ⟨bt,0,none⟩), .int .u64 (hash k), aggK k] w fun e w' =>
      e = .returned (.tuple #[.pointer (some ⟨if (seekM (LI hash) T k).1 then ya else oa, 0, none⟩), .int .i64 (seekM (LI hash) T k).2.1, .int .i64 (seekM (LI hash) T k).2.2]) ∧ Keeps [] w w' := by
  obtain ⟨w0, hw0⟩ : ∃ w0, w0 = w.alloc (.cells #[.int .i8 k.a, .int .u8 k.b0, .int .u8 k.b1, .string k.c] 74) := ⟨_, rfl⟩
  have hk0 : Keeps [] w w0 := by rw [hw0]; exact (Keeps.refl _ _).alloc _
  have hkb : Blk w0 w.heap.size (cellsK k) 74 := by rw [hw0]; exact Blk.new w (cellsK k) 74
  have hT := h.keeps0 hk0
  have hcc := fun (W : World) (k' : Keeps [] w0 W) => And.intro (hT.keeps0 k').cells (kcells (k'.blk hkb (by simp)))
  have hff := fun (W : World) (k' : Keeps [] w0 W) => find_at (hT.keeps0 k').yo hi.yok.st hash k
  have b1 := findK_bounds (LI hash) hi.yok k
  have hle := h.yo.le
  have HW0 := Lib.hid hw0
  have HK0 := Lib.hid hk0
  have HCC := Lib.hid hcc
  unfold seekM
  have hl1 := h.tb.lt
  by_cases h0 : 0 ≤ (findK (LI hash) T.young k).1
  · rw [if_pos h0]
    simp only [if_true]
    generalize findK (LI hash) T.young k = r at *
    have HF := Lib.hid hff
    clear hff hcc hT hkb hk0 hw0 h
    obtain ⟨⟨t0, t1, t2, t3⟩, k0, k1, k2, k3⟩ := HCC.out w0 (Keeps.refl _ _)
    go_enter Try.func70, Try.ntmps70
    go_wp2_with fail
    have e0 : w.alloc (.cells #[.int .i8 k.a, .int .u8 k.b0, .int .u8 k.b1, .string k.c] 74) = w0 := HW0.out.symm
    rw [e0]
    clear e0 HW0
    generalize w.heap.size = bk at *
    go_region_with (go_at_call 83; refine (HF.out _ ((Keeps.refl _ _).drew)).mono ?_; rintro e w' ⟨rfl, kf⟩; have KF := Lib.hid kf; clear kf)
    all_goals
      have kw : Keeps [] w0 w' := ((Keeps.refl [] w0).drew).trans KF.out (by simp)
      obtain ⟨⟨z0, z1, z2, z3⟩, _⟩ := HCC.out w' kw
      have HKW := Lib.hid kw
      clear kw t0 t1 t2 t3 k0 k1 k2 k3
      go_wp2
      go_ret3
      exact ⟨rfl, HK0.out.trans HKW.out (by simp)⟩
  · rw [if_neg h0]
    cases ho : T.old with
    | none =>
      simp only [if_true]
      have e2 : opOf T oa = none := by unfold opOf; rw [ho]; rfl
      rw [e2] at HCC
      generalize findK (LI hash) T.young k = r at *
      have HF := Lib.hid hff
      clear hff hcc hT hkb hk0 hw0 h ho e2
      have h0' : r.1 < 0 := by omega
      clear h0
      obtain ⟨⟨t0, t1, t2, t3⟩, k0, k1, k2, k3⟩ := HCC.out w0 (Keeps.refl _ _)
      go_enter Try.func70, Try.ntmps70
      go_wp2_with fail
      have e0 : w.alloc (.cells #[.int .i8 k.a, .int .u8 k.b0, .int .u8 k.b1, .string k.c] 74) = w0 := HW0.out.symm
      rw [e0]
      clear e0 HW0
      generalize w.heap.size = bk at *
      go_region_with (go_at_call 83; refine (HF.out _ ((Keeps.refl _ _).drew)).mono ?_; rintro e w' ⟨rfl, kf⟩; have KF := Lib.hid kf; clear kf)
      all_goals
        have kw : Keeps [] w0 w' := ((Keeps.refl [] w0).drew).trans KF.out (by simp)
        obtain ⟨⟨z0, z1, z2, z3⟩, _⟩ := HCC.out w' kw
        have HKW := Lib.hid kw
        clear kw t0 t1 t2 t3 k0 k1 k2 k3
        go_wp2
        go_ret3
        exact ⟨rfl, HK0.out.trans HKW.out (by simp)⟩
    | some o =>
      simp only [Bool.false_eq_true, if_false]
      have e2 : opOf T oa = some ⟨oa, 0, none⟩ := by unfold opOf; rw [ho]; rfl
      rw [e2] at HCC
      have hgg := fun (W : World) (k' : Keeps [] w0 W) => find_at ((hT.keeps0 k').ol o ho) (hi.ook o ho).st hash k
      have b2 := findK_bounds (LI hash) (hi.ook o ho) k
      have hle2 := (h.ol o ho).le
      generalize findK (LI hash) T.young k = r at *
      generalize findK (LI hash) o k = q at *
      have HF := Lib.hid hff
      have HG := Lib.hid hgg
      clear hff hgg hcc hT hkb hk0 hw0 h ho e2
      have h0' : r.1 < 0 := by omega
      clear h0
      obtain ⟨⟨t0, t1, t2, t3⟩, k0, k1, k2, k3⟩ := HCC.out w0 (Keeps.refl _ _)
      go_enter Try.func70, Try.ntmps70
      go_wp2_with fail
      have e0 : w.alloc (.cells #[.int .i8 k.a, .int .u8 k.b0, .int .u8 k.b1, .string k.c] 74) = w0 := HW0.out.symm
      rw [e0]
      clear e0 HW0
      generalize w.heap.size = bk at *
      go_region_with (go_at_call 83; refine (HF.out _ ((Keeps.refl _ _).drew)).mono ?_; rintro e w' ⟨rfl, kf⟩; have KF := Lib.hid kf; clear kf)
      all_goals
        have kw : Keeps [] w0 w' := ((Keeps.refl [] w0).drew).trans KF.out (by simp)
        obtain ⟨⟨z0, z1, z2, z3⟩, y0, y1, y2, y3⟩ := HCC.out w' kw
        have HKW := Lib.hid kw
        clear kw t0 t1 t2 t3 k0 k1 k2 k3
        go_wp2
        go_region_with (go_at_call 83; refine (HG.out _ (HKW.out.drew)).mono ?_; rintro e w'' ⟨rfl, kf⟩; have KG := Lib.hid kf; clear kf)
        all_goals
          have kw : Keeps [] w0 w'' := (HKW.out.drew).trans KG.out (by simp)
          obtain ⟨⟨v0, v1, v2, v3⟩, _⟩ := HCC.out w'' kw
          have HKV := Lib.hid kw
          clear kw z0 z1 z2 z3 y0 y1 y2 y3
          go_wp2
          go_ret3
          exact ⟨rfl, HK0.out.trans HKV.out (by simp)⟩
end Go.Proofs.Ytaomaeobgfeoiaa.W
