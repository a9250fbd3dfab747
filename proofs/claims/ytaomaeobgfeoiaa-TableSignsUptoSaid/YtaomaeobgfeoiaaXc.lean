import Derived.Test.YtaomaeobgfeoiaaXb
import Derived.BigRegion
namespace Go.Proofs.Ytaomaeobgfeoiaa.X
open Go.RowKit Pl

def hashI (times mask k : Int) : Nat := (IntKind.u64.wrap (bits .and .i64 (wrap64 (k * times)) mask)).toNat
theorem u64_nonneg (x : Int) : 0 ≤ IntKind.u64.wrap x := by
  simp [IntKind.wrap, IntKind.bits, IntKind.signed]; omega
theorem hashI_cast (t m k : Int) : ((hashI t m k : Nat) : Int) = IntKind.u64.wrap (bits .and .i64 (wrap64 (k * t)) m) := by
  unfold hashI; have := u64_nonneg (bits .and .i64 (wrap64 (k * t)) m); omega
theorem info143 : (Try.prog.info? 143).map (fun i => (i.zero, i.size, i.bytes)) = some (some (.agg #[.int .u8 0, .int .i64 0, .int .i64 0]), 3, 24) := by kernel_rfl

theorem hash_calls (k t m : Int) (w : World) : Calls Try.prog 9 #[.int .i64 k, .int .i64 t, .int .i64 m] w fun e w' => e = .returned (.int .u64 (hashI t m k)) ∧ w' = w := by
  go_enter Try.func9, Try.ntmps9
  go_wp2
  go_ret
  rw [hashI_cast]
  exact ⟨rfl, rfl⟩

theorem clos_calls (k t m : Int) (ct cm : Nat) (w : World) (h1 : Blk w ct [.int .i64 t] 3) (h2 : Blk w cm [.int .i64 m] 3) :
    Calls Try.prog 26 #[.int .i64 k, .pointer (some ⟨ct, 0, none⟩), .pointer (some ⟨cm, 0, none⟩)] w fun e w' => e = .returned (.int .u64 (hashI t m k)) ∧ w' = w := by
  have c1 := h1.cell 0
  have c2 := h2.cell 0
  simp only [List.getElem?_cons_zero] at c1 c2
  go_enter Try.func26, Try.ntmps26
  go_wp2_with (go_at_call 9; refine (hash_calls _ _ _ _).mono ?_; rintro e w' ⟨rfl, rfl⟩)
  go_ret
  exact ⟨rfl, rfl⟩

theorem newArray_calls (n : Nat) (w : World) (hn : n ≤ 1099511627776) : Calls Try.prog 60 #[.int .i64 n] w fun e w' => e = .returned (.pointer (some ⟨w.heap.size + 1, 0, none⟩)) ∧
     w' = (w.alloc (.cells ((List.replicate n (⟨0, 0, 0⟩ : Sl Int Int)).flatMap encS).toArray 143)).alloc (.cells #[.slice (some ⟨w.heap.size, 0, none⟩) n n, .int .i64 0, .int .i64 0] 118) := by
  have hmade : madeCells (Value.cells (.agg #[.int .u8 0, .int .i64 0, .int .i64 0])) (n * 3) = ((List.replicate n (⟨0, 0, 0⟩ : Sl Int Int)).flatMap encS).toArray :=
    made_eq encS ⟨0, 0, 0⟩ _ rfl (by decide) n
  go_enter Try.func60, Try.ntmps60
  go_wp2_with (refine wpList_make_cells _ rfl _ _ 116 rfl 143 _ 3 24 Try.underlying116 info143 _ _ _ _ n rfl rfl rfl rfl (by omega) (by omega) ?_)
  go_ret
  rw [← hmade]
  exact ⟨rfl, rfl⟩
end Go.Proofs.Ytaomaeobgfeoiaa.X
