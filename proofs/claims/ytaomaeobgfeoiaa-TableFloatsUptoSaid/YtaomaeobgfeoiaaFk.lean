/- The floats' hash of TableFloats; the two functions of package math that turn bits. -/
import Derived.Test.YtaomaeobgfeoiaaFi
namespace Go.Proofs.Ytaomaeobgfeoiaa.F
open Go.RowKit Pl
theorem run_bits (b : Nat) (w : World) : (callFunc 20 #[.float .f64 b]).run Try.prog w = .ok (.value (.int .u64 b)) w := by kernel_rfl
theorem run_from (b : Nat) (w : World) : (callFunc 22 #[.int .u64 b]).run Try.prog w = .ok (.value (.float .f64 b)) w := by kernel_rfl

def hashFl : FHash := hashOf hashB fun a b h1 h2 => by unfold hashB; rw [if_pos h1, if_pos h2]

theorem clos_calls (k : F64) (w : World) : Calls Try.prog 21 #[.float .f64 k.1] w fun e w' => e = .returned (.int .u64 (hashFl k)) ∧ w' = w := by
  have hb := run_bits
  have hk := k.2
  have e : ∀ h : (FloatKind.f64.format.order k.val 0 == some Ordering.eq) = true, (hashFl k : Nat) = 0 := fun h => by
    show hashB k = 0
    unfold hashB
    rw [if_pos]
    exact h
  have e' : ∀ h : (FloatKind.f64.format.order k.val 0 == some Ordering.eq) = false, (hashFl k : Nat) = k.1 / 4503599627370496 := fun h => by
    show hashB k = _
    unfold hashB
    rw [if_neg]
    show ¬ (FloatKind.f64.format.order k.val 0 == some Ordering.eq) = true
    rw [h]; decide
  go_enter Try.func21, Try.ntmps21
  go_wp2_with fail
  · go_ret
    refine ⟨?_, rfl⟩
    rw [e (by assumption)]; rfl
  · go_ret
    refine ⟨?_, rfl⟩
    rw [e' (by assumption)]
    rfl
end Go.Proofs.Ytaomaeobgfeoiaa.F
