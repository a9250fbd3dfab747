import Derived.Test.YtaomaeobgfeoiaaGb
import Derived.BigRegion
namespace Go.Proofs.Ytaomaeobgfeoiaa.G
open Go.RowKit Pl
attribute [local go_sem] run_store_float

theorem info103 : (Try.prog.info? 103).map (fun i => (i.zero, i.size, i.bytes)) = some (some (.agg #[.int .u8 0, .float .f64 0, .int .i64 0]), 3, 24) := by kernel_rfl

theorem newArray_calls (n : Nat) (w : World) (hn : n ≤ 1099511627776) : Calls Try.prog 46 #[.int .i64 n] w fun e w' => e = .returned (.pointer (some ⟨w.heap.size + 1, 0, none⟩)) ∧
     w' = (w.alloc (.cells ((List.replicate n (⟨0, 0, 0⟩ : Sl FD Int)).flatMap encS).toArray 103)).alloc (.cells #[.slice (some ⟨w.heap.size, 0, none⟩) n n, .int .i64 0, .int .i64 0] 106) := by
  have hmade : madeCells (Value.cells (.agg #[.int .u8 0, .float .f64 0, .int .i64 0])) (n * 3) = ((List.replicate n (⟨0, 0, 0⟩ : Sl FD Int)).flatMap encS).toArray :=
    made_eq encS ⟨0, 0, 0⟩ _ rfl (by decide) n
  go_enter Try.func46, Try.ntmps46
  go_wp2_with (refine wpList_make_cells _ rfl _ _ 104 rfl 103 _ 3 24 Try.underlying104 info103 _ _ _ _ n rfl rfl rfl rfl (by omega) (by omega) ?_)
  go_ret
  rw [← hmade]
  exact ⟨rfl, rfl⟩
end Go.Proofs.Ytaomaeobgfeoiaa.G
