/- TableFloats, whatever comes in of bulk at most 2^20: true, and what came in reads as it did. -/
import Derived.Test.YtaomaeobgfeoiaaZa
import Derived.Test.YtaomaeobgfeoiaaFr
namespace Go.Proofs.Ytaomaeobgfeoiaa.ZF
open Go.ChangeShapes Go.WideShapes Go.ChangeAt Go.RowKit Go.Deep F Z

theorem list_of {α : Type} {p : Nat → α → Prop} : ∀ n, (∀ i, i < n → ∃ x, p i x) → ∃ l : List α, l.length = n ∧ ∀ i x, l[i]? = some x → p i x
  | 0, _ => ⟨[], rfl, fun i x h => by simp at h⟩
  | n + 1, h => by
    obtain ⟨l, hl, hp⟩ := list_of n (fun i hi => h i (by omega))
    obtain ⟨x, hx⟩ := h n (by omega)
    refine ⟨l ++ [x], by simp [hl], fun i y hy => ?_⟩
    by_cases hi : i < n
    · rw [List.getElem?_append_left (by omega)] at hy; exact hp i y hy
    · rw [List.getElem?_append_right (by omega), hl] at hy
      by_cases he : i = n
      · subst he; simp at hy; subst hy; exact hx
      · rw [List.getElem?_eq_none (by simp; omega)] at hy; cases hy

theorem cell_lt {w : World} {a : Addr} {v : Value} (h : w.cell? a = some v) : a.block < w.heap.size := by
  rcases Nat.lt_or_ge a.block w.heap.size with q | q
  · exact q
  · unfold World.cell? at h; rw [Array.getElem?_eq_none q] at h; cases h

theorem cell_spot {w : World} {a : Addr} {v : Value} (h : w.cell? a = some v) : a = ⟨a.block, a.off, none⟩ := by
  obtain ⟨b, o, s⟩ := a
  unfold World.cell? at h
  split at h
  · cases s with
    | none => rfl
    | some x => simp at h
  · cases h

theorem add_at (b o j : Nat) : (⟨b, o, none⟩ : Addr).add j = ⟨b, o + j, none⟩ := by unfold Addr.add; split <;> simp_all

theorem list3 {α : Type} {l : List α} (h : l.length = 3) : ∃ a b c, l = [a, b, c] := by
  obtain ⟨a, l, rfl⟩ := List.exists_cons_of_length_eq_add_one (by simpa using h : l.length = 2 + 1)
  rw [List.length_cons] at h
  obtain ⟨b, l, rfl⟩ := List.exists_cons_of_length_eq_add_one (by simpa using h : l.length = 1 + 1)
  rw [List.length_cons] at h
  obtain ⟨c, l, rfl⟩ := List.exists_cons_of_length_eq_add_one (by simpa using h : l.length = 0 + 1)
  have : l = [] := List.eq_nil_of_length_eq_zero (by simpa using h)
  exact ⟨a, b, c, by rw [this]⟩

theorem u64_range {n : Int} (h : (Lit.int .u64 n).wf = true) : 0 ≤ n ∧ n < 18446744073709551616 := by
  unfold Lit.wf at h
  rw [Bool.and_eq_true] at h
  have h1 := of_decide_eq_true h.1
  have h2 := of_decide_eq_true h.2
  have e1 : IntKind.u64.min = 0 := by decide
  have e2 : IntKind.u64.max = 18446744073709551615 := by decide
  omega

/-- The script, opened. -/
theorem open_script {H : Type} {enc : TypeId × Value → H} {w : World} {spare : Nat → Bool} {held : Bool} {fuel : Nat} {cs : List Value} {x : DataW H × List MemPlace} (h : DataW.trod enc Try.prog w 0 spare held fuel 46 cs = some x) :
    ∃ (ao : Option Addr) (len cap : Nat) (es sp : List (DataW H)) (steps : List Bt), cs = [.slice ao len cap] ∧ (x.1 = .nil ∧ len = 0 ∨ x.1 = .slice es sp ∧ es.length = len) ∧ len = steps.length ∧ ScriptAt w ao steps := by
  obtain ⟨ao, len, cap, es, sp, rfl, hx, hi⟩ := open_rows Try.underlying46 Try.underlying51 h
  have hc51 : Try.prog.cellsOf 51 = 3 := by kernel_rfl
  have hc3 : Try.prog.cellsOf 3 = 1 := by kernel_rfl
  have hc4 : Try.prog.cellsOf 4 = 1 := by kernel_rfl
  have hc26 : Try.prog.cellsOf 26 = 1 := by kernel_rfl
  rw [hc51] at hi
  have hst : ∀ i, i < len → ∃ s : Bt, ∃ a : Addr, ao = some a ∧ w.cell? (a.add (i * 3)) = some (.int .u64 (s.key.1 : Nat)) ∧ w.cell? (a.add (i * 3 + 1)) = some (.int .i64 s.val) ∧ w.cell? (a.add (i * 3 + 2)) = some (.bool s.out) := by
    intro i hlt
    obtain ⟨a, cs', n, xs, ha, hl, hcell, hf⟩ := hi i hlt
    obtain ⟨c0, c1, c2, rfl⟩ := list3 hl
    have f0 := hf 0 { name := "Key", type := 26, offset := 0, embedded := false, tag := "", pkgPath := "", byteOffset := 0 } rfl
    dsimp only at f0
    rw [hc26] at f0
    change _ ∧ DataW.trod enc Try.prog w 0 spare held n 26 [c0] = _ at f0
    have f1 := hf 1 { name := "Val", type := 3, offset := 1, embedded := false, tag := "", pkgPath := "", byteOffset := 8 } rfl
    dsimp only at f1
    rw [hc3] at f1
    change _ ∧ DataW.trod enc Try.prog w 0 spare held n 3 [c1] = _ at f1
    have f2 := hf 2 { name := "Out", type := 4, offset := 2, embedded := false, tag := "", pkgPath := "", byteOffset := 16 } rfl
    dsimp only at f2
    rw [hc4] at f2
    change _ ∧ DataW.trod enc Try.prog w 0 spare held n 4 [c2] = _ at f2
    obtain ⟨g0, e0⟩ := f0
    obtain ⟨g1, e1⟩ := f1
    obtain ⟨g2, e2⟩ := f2
    rw [List.getElem?_eq_getElem g0] at e0
    rw [List.getElem?_eq_getElem g1] at e1
    rw [List.getElem?_eq_getElem g2] at e2
    obtain ⟨d0, h0, _, hw⟩ := DataW.trod_int Try.underlying26 e0
    obtain ⟨d1, h1, _, _⟩ := DataW.trod_int Try.underlying3 e1
    obtain ⟨d2, h2, _⟩ := DataW.trod_bool Try.underlying4 e2
    cases h0; cases h1; cases h2
    obtain ⟨q1, q2⟩ := u64_range hw
    refine ⟨⟨⟨d0.toNat, by omega⟩, d1, d2⟩, a, ha, ?_, hcell 1 (by omega), hcell 2 (by omega)⟩
    have := hcell 0 (by omega)
    rw [show ((d0.toNat : Nat) : Int) = d0 from by omega]
    exact this
  obtain ⟨steps, hl, hs⟩ := list_of len hst
  refine ⟨ao, len, cap, es, sp, steps, rfl, hx, hl.symm, ?_⟩
  by_cases h0 : len = 0
  · left; exact List.eq_nil_of_length_eq_zero (by omega)
  · right
    obtain ⟨s, a, ha, c0, _⟩ := hst 0 (by omega)
    rw [Nat.zero_mul, Addr.add_zero'] at c0
    obtain ⟨b, o, sp'⟩ := a
    have := cell_spot c0
    simp at this
    subst this
    refine ⟨b, o, ha, cell_lt c0, fun i s hi => ?_⟩
    obtain ⟨a', ha', q0, q1, q2⟩ := hs i s hi
    rw [ha] at ha'; cases ha'
    rw [add_at] at q0 q1 q2
    exact ⟨q0, q1, q2⟩

set_option maxRecDepth 100000 in
theorem floats_contract (H : Type) (enc : TypeId × Value → H) (W : World) (base : Nat) (args : Array Value) (ds gs : List (DataW H)) (before : List MemPlace)
    (hval : ∀ (j : Nat) t v, Try.f4.params[j]? = some t → args[j]? = some v → Value.okWide Try.prog W .any base t v)
    (hW : DataW.Whole enc Try.prog Try.f4.params.toList Rows.tableFloatsSpec.vars false W args.toList ds gs before) (hk : Rows.uptoSmall H (ds ++ gs) = true) :
    Calls Try.prog 4 args W fun e W' => ∃ v, e = .returned v ∧ Rows.tableFloatsSpec.post enc Try.prog Try.f4 false true false false W args v W' := by
  have hW' := hW
  obtain ⟨p, q, hA0, hV, rfl, hfz, hnd⟩ := hW
  have hA : DataW.TrodAll enc Try.prog W 0 (fun _ => true) true Try.f4.params.toList args.toList ds p := hA0
  rw [Try.params4] at hA hval
  obtain ⟨v0, vs0, d0, ds0, p0, q0, hargs, rfl, rfl, h0, r0⟩ := trodAll_cons hA
  obtain ⟨rfl, rfl, rfl⟩ := trodAll_nil r0
  obtain rfl : args = #[v0] := by cases args; simp_all
  obtain ⟨rfl, rfl⟩ := trodVars_none hV
  obtain ⟨ao', len', cap', rfl⟩ := okWide_slice Try.underlying46 (hval 0 46 v0 rfl rfl)
  have h0' := h0
  obtain ⟨fuel, ht⟩ := h0'
  change DataW.trod enc Try.prog W 0 (fun _ => true) true fuel 46 [.slice ao' len' cap'] = _ at ht
  obtain ⟨ao, len, cap, es, sp, steps, he, hx2, hlen, hS⟩ := open_script ht
  cases he
  have hb : len' ≤ 1048576 := by
    rw [List.append_nil] at hk
    have h := bulk_of hk
    dsimp only at hx2
    rcases hx2 with ⟨_, q⟩ | ⟨q, q'⟩
    · omega
    · rw [q] at h
      have := bulk_len es
      simp only [Rows.uptoBulkAll, Rows.uptoBulk] at h
      omega
  clear hA0 hA ht
  simp only [List.append_nil] at hW' h0
  refine (floats_calls hS hlen hb).mono fun e W' ⟨he, hg⟩ => ?_
  subst he
  exact ⟨_, rfl, post_true rfl rfl rfl (fun _ => rfl) (by kernel_rfl) (of_decide_eq_true (by kernel_rfl)) hW' h0 hg⟩

set_option maxRecDepth 100000 in
theorem floats_lifted (os : Os) (started : os.Started) (H : Type) (enc : TypeId × Value → H) (F : Stop.Interp) :
    ReturnsInHanded {} Try.checked os 4 .any ((Rows.OpenSpec.upto Rows.tableFloatsSpec).pre6 enc Try.prog Try.f4 Rows.tableFloatsUptoRow.domain false) (((Rows.OpenSpec.upto Rows.tableFloatsSpec).at F).post enc Try.prog Try.f4 false true false false) := by
  refine returnsInHanded_of_cond (C := Try.checked) (s := Rows.OpenSpec.upto Rows.tableFloatsSpec) (k := Rows.uptoSmall) rfl own started (by kernel_rfl) Try.func4
    (OpenSpec.witness (enc := enc) (C := Try.checked) (s := Rows.OpenSpec.upto Rows.tableFloatsSpec) (k := Rows.uptoSmall) rfl false ⟨#[], #[.slice none 0 0], []⟩ 8 (by kernel_rfl) (by kernel_rfl) (by kernel_rfl)
      (x := ([.nil], [], [])) (by kernel_rfl) rfl (by kernel_rfl)) ?_
  intro W base args ds gs before hval hW _ hk _
  exact floats_contract H enc W base args ds gs before hval hW hk

theorem tableFloats_upto : Rows.TableFloatsUptoSaid :=
  OpenClaim.holds_of_cond 4 Try.f4 rfl rfl rfl rfl rfl rfl rfl ⟨rfl, rfl, rfl, rfl, rfl⟩ rfl rfl rfl rfl rfl (by kernel_rfl) Try.func4 (by kernel_rfl)
    (of_decide_eq_true (by kernel_rfl)) (by unfold Func.isWrapper; first | (rw [if_pos (by decide +kernel)]; kernel_rfl) | (rw [if_neg (by decide +kernel)]; exact ⟨rfl, rfl⟩))
    (fun os started H enc _ F => floats_lifted os started H enc F)
end Go.Proofs.Ytaomaeobgfeoiaa.ZF
