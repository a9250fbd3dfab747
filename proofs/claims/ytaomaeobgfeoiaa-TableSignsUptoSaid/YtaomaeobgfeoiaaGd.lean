import Derived.Test.YtaomaeobgfeoiaaGc
namespace Go.Proofs.Ytaomaeobgfeoiaa.G
open Go.RowKit Pl
attribute [local go_sem] run_store_float

def opOf (T : Tab FD Int) (oa : Nat) : Option Addr := T.old.map fun _ => ⟨oa, 0, none⟩

/-- A table in memory. -/
structure TabAt (w : World) (hv : Value) (bt ya ys oa os : Nat) (T : Tab FD Int) : Prop where
  tb : Blk w bt [hv, .pointer (some ⟨ya,0,none⟩), .pointer (opOf T oa), .int .i64 T.mark] 90
  yo : ArrAt w ya ys T.young
  ol : ∀ o, T.old = some o → ArrAt w oa os o
  d1 : bt ≠ ya ∧ bt ≠ ys
  d2 : ∀ o, T.old = some o → bt ≠ oa ∧ bt ≠ os ∧ ya ≠ oa ∧ ya ≠ os ∧ ys ≠ oa ∧ ys ≠ os
  d3 : T.old = none → oa = ya ∧ os = ys

theorem TabAt.drewN {w : World} {hv : Value} {bt ya ys oa os : Nat} {T : Tab FD Int} (h : TabAt w hv bt ya ys oa os T) (n : Nat) : TabAt (w.drewN n) hv bt ya ys oa os T :=
  ⟨h.tb, h.yo.drewN n, fun o ho => (h.ol o ho).drewN n, h.d1, h.d2, h.d3⟩

/-- The table's cells, as the walk wants them. -/
theorem TabAt.cells {w : World} {hv : Value} {bt ya ys oa os : Nat} {T : Tab FD Int} (h : TabAt w hv bt ya ys oa os T) :
    w.cell? ⟨bt, 0, none⟩ = some hv ∧ w.cell? ⟨bt, 1, none⟩ = some (.pointer (some ⟨ya,0,none⟩)) ∧ w.cell? ⟨bt, 2, none⟩ = some (.pointer (opOf T oa)) ∧ w.cell? ⟨bt, 3, none⟩ = some (.int .i64 T.mark) :=
  ⟨h.tb.cell 0, h.tb.cell 1, h.tb.cell 2, h.tb.cell 3⟩
theorem ArrAt.cells {w : World} {ba bs : Nat} {sl : List (Sl FD Int)} (h : ArrAt w ba bs sl) :
    w.cell? ⟨ba, 0, none⟩ = some (.slice (some ⟨bs,0,none⟩) sl.length sl.length) ∧ w.cell? ⟨ba, 1, none⟩ = some (.int .i64 (usedN sl)) ∧ w.cell? ⟨ba, 2, none⟩ = some (.int .i64 (tombN sl)) :=
  ⟨h.ha.cell 0, h.ha.cell 1, h.ha.cell 2⟩

theorem made_calls {w : World} {hv : Value} {bt ya ys oa os : Nat} {T : Tab FD Int} (h : TabAt w hv bt ya ys oa os T) :
    Calls Try.prog 48 #[.pointer (some ⟨bt,0,none⟩)] w fun e w' => e = .returned (.bool true) ∧ w' = w := by
  obtain ⟨t0, t1, t2, t3⟩ := h.cells
  go_enter Try.func48, Try.ntmps48
  go_wp2
  go_ret
  exact ⟨rfl, rfl⟩

set_option maxHeartbeats 800000 in
theorem seek_calls (hash : FHashD) {w : World} {hv : Value} {bt ya ys oa os : Nat} {T : Tab FD Int} (h : TabAt w hv bt ya ys oa os T) (hi : InvA (LI hash) T) (k : FD) :
    Calls Try.prog 50 #[.pointer (some ⟨bt,0,none⟩), .int .u64 (hash k), .float .f64 k.1] w fun e w' =>
      e = .returned (.tuple #[.pointer (some ⟨if (seekM (LI hash) T k).1 then ya else oa, 0, none⟩), .int .i64 (seekM (LI hash) T k).2.1, .int .i64 (seekM (LI hash) T k).2.2]) ∧ ∃ n, w' = w.drewN n := by
  obtain ⟨t0, t1, t2, t3⟩ := h.cells
  have hf := find_at h.yo hi.yok.st hash k
  have b1 := findK_bounds (LI hash) hi.yok k
  have hle := h.yo.le
  unfold seekM
  by_cases h0 : 0 ≤ (findK (LI hash) T.young k).1
  · rw [if_pos h0]
    simp only [if_true]
    generalize findK (LI hash) T.young k = r at *
    have HF := Lib.hid hf
    clear hf
    go_enter Try.func50, Try.ntmps50
    go_wp2_with (go_at_call 75; refine (HF.out).mono ?_; rintro e w' ⟨rfl, n, rfl⟩)
    go_ret3
    exact ⟨rfl, n, rfl⟩
  · rw [if_neg h0]
    cases ho : T.old with
    | none =>
      simp only [if_true]
      have e2 : opOf T oa = none := by unfold opOf; rw [ho]; rfl
      rw [e2] at t2
      generalize findK (LI hash) T.young k = r at *
      have HF := Lib.hid hf
      clear hf ho e2
      have h0' : r.1 < 0 := by omega
      go_enter Try.func50, Try.ntmps50
      go_wp2_with (go_at_call 75; refine (HF.out).mono ?_; rintro e w' ⟨rfl, n, rfl⟩)
      go_ret3
      exact ⟨rfl, n, rfl⟩
    | some o =>
      simp only [Bool.false_eq_true, if_false]
      have e2 : opOf T oa = some ⟨oa, 0, none⟩ := by unfold opOf; rw [ho]; rfl
      rw [e2] at t2
      have ho' := h.ol o ho
      have hg := fun n => find_at (ho'.drewN n) (hi.ook o ho).st hash k
      have b2 := findK_bounds (LI hash) (hi.ook o ho) k
      have hle2 := ho'.le
      generalize findK (LI hash) T.young k = r at *
      generalize findK (LI hash) o k = q at *
      have HF := Lib.hid hf
      have HG := Lib.hid hg
      have HD := Lib.hid (h.d2 o ho)
      clear hf hg ho e2
      have h0' : r.1 < 0 := by omega
      go_enter Try.func50, Try.ntmps50
      go_wp2_with fail
      refine (HF.out).mono ?_
      rintro e w' ⟨rfl, n, rfl⟩
      go_wp2_with fail
      refine (HG.out _).mono ?_
      rintro e w' ⟨rfl, m, rfl⟩
      go_wp2
      go_ret3
      refine ⟨?_, n + m, ?_⟩
      · rfl
      · simp
end Go.Proofs.Ytaomaeobgfeoiaa.G
