/- The hash of TableSigns; numbers as floats and back. -/
import Derived.Test.YtaomaeobgfeoiaaGi
import Derived.Test.YtaomaeobgfeoiaaRa
namespace Go.Proofs.Ytaomaeobgfeoiaa.G
open Go.RowKit Pl

theorem run_to_int {b : Nat} {n : Int} (h : (FloatKind.f64.decode b).toInt .zero = some n) (h1 : -9223372036854775808 ≤ n) (h2 : n ≤ 9223372036854775807) (w : World) :
    (convert 25 3 (.float .f64 b)).run Try.prog w = .ok (.int .i64 n) w := by
  have e : (convert 25 3 (.float .f64 b)).run Try.prog w = (Conv.floatToInt .f64 b .i64).run Try.prog w := by kernel_rfl
  rw [e]
  unfold Conv.floatToInt
  rw [h]
  simp only
  rw [if_pos (by constructor <;> simpa [IntKind.min, IntKind.max, IntKind.bits, IntKind.signed])]
  rfl

theorem run_to_float (n : Int) (w : World) : (convert 3 25 (.int .i64 n)).run Try.prog w = .ok (.float .f64 (FloatKind.f64.nearest n)) w := by kernel_rfl

theorem clos_calls (k : FD) (w : World) : Calls Try.prog 8 #[.float .f64 k.1] w fun e w' => e = .returned (.int .u64 (hashD k)) ∧ w' = w := by
  have hk := R.keyD_lt k
  have hc := run_to_int (to_int k.1 k.2) (by omega) (by have : keyN k.1 < 32 := hk; omega)
  have HH := Lib.hid (R.hash_at k)
  have e : ((hashD k : Nat)) = keyD k := rfl
  rw [e]
  have e2 : keyN k.1 = keyD k := rfl
  rw [e2] at hc
  generalize keyD k = kk at *
  clear e e2
  go_enter Try.func8, Try.ntmps8
  go_wp2_with fail
  refine (HH.out _).mono ?_
  rintro e w' ⟨rfl, rfl⟩
  go_wp2_with fail
  go_ret
  exact ⟨rfl, rfl⟩
end Go.Proofs.Ytaomaeobgfeoiaa.G
