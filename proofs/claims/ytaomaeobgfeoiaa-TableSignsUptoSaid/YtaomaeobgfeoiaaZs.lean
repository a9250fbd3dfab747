/- TableSigns, whatever comes in of bulk at most 2^20: true, and what came in reads as it did. -/
import Derived.Test.YtaomaeobgfeoiaaZa
import Derived.Test.YtaomaeobgfeoiaaGs
namespace Go.Proofs.Ytaomaeobgfeoiaa.ZS
open Go.ChangeShapes Go.WideShapes Go.ChangeAt Go.RowKit Go.Deep G Z

theorem list_of {α : Type} {p : Nat → α → Prop} : ∀ n, (∀ i, i < n → ∃ x, p i x) → ∃ l : List α, l.length = n ∧ ∀ i x, l[i]? = some x → p i x
  | 0, _ => ⟨[], rfl, fun i x h => by simp at h⟩
  | n + 1, h => by
    obtain ⟨l, hl, hp⟩ := list_of n (fun i hi => h i (by omega))
    obtain ⟨x, hx⟩ := h n (by omega)
    refine ⟨l ++ [x], by simp [hl], fun i y hy => ?_⟩
    by_cases hi : i < n
    · rw [List.getElem?_append_left (by omega)] at hy; exact hp i y hy
    · rw [List.getElem?_append_right (by omega), hl] at hy
      by_cases he : i = n
      · subst he; simp at hy; subst hy; exact hx
      · rw [List.getElem?_eq_none (by simp; omega)] at hy; cases hy

theorem cell_lt {w : World} {a : Addr} {v : Value} (h : w.cell? a = some v) : a.block < w.heap.size := by
  rcases Nat.lt_or_ge a.block w.heap.size with q | q
  · exact q
  · unfold World.cell? at h; rw [Array.getElem?_eq_none q] at h; cases h

theorem cell_spot {w : World} {a : Addr} {v : Value} (h : w.cell? a = some v) : a = ⟨a.block, a.off, none⟩ := by
  obtain ⟨b, o, s⟩ := a
  unfold World.cell? at h
  split at h
  · cases s with
    | none => rfl
    | some x => simp at h
  · cases h

theorem add_at (b o j : Nat) : (⟨b, o, none⟩ : Addr).add j = ⟨b, o + j, none⟩ := by unfold Addr.add; split <;> simp_all

theorem list4 {α : Type} {l : List α} (h : l.length = 4) : ∃ a b c d, l = [a, b, c, d] := by
  obtain ⟨a, l, rfl⟩ := List.exists_cons_of_length_eq_add_one (by simpa using h : l.length = 3 + 1)
  rw [List.length_cons] at h
  obtain ⟨b, l, rfl⟩ := List.exists_cons_of_length_eq_add_one (by simpa using h : l.length = 2 + 1)
  rw [List.length_cons] at h
  obtain ⟨c, l, rfl⟩ := List.exists_cons_of_length_eq_add_one (by simpa using h : l.length = 1 + 1)
  rw [List.length_cons] at h
  obtain ⟨d, l, rfl⟩ := List.exists_cons_of_length_eq_add_one (by simpa using h : l.length = 0 + 1)
  have : l = [] := List.eq_nil_of_length_eq_zero (by simpa using h)
  exact ⟨a, b, c, d, by rw [this]⟩

/-- The script, opened. -/
theorem open_script {H : Type} {enc : TypeId × Value → H} {w : World} {spare : Nat → Bool} {held : Bool} {fuel : Nat} {cs : List Value} {x : DataW H × List MemPlace} (h : DataW.trod enc Try.prog w 0 spare held fuel 22 cs = some x) :
    ∃ (ao : Option Addr) (len cap : Nat) (es sp : List (DataW H)) (steps : List St), cs = [.slice ao len cap] ∧ (x.1 = .nil ∧ len = 0 ∨ x.1 = .slice es sp ∧ es.length = len) ∧ len = steps.length ∧ ScriptAt w ao steps := by
  obtain ⟨ao, len, cap, es, sp, rfl, hx, hi⟩ := open_rows Try.underlying22 Try.underlying32 h
  have hc32 : Try.prog.cellsOf 32 = 4 := by kernel_rfl
  have hc3 : Try.prog.cellsOf 3 = 1 := by kernel_rfl
  have hc4 : Try.prog.cellsOf 4 = 1 := by kernel_rfl
  rw [hc32] at hi
  have hst : ∀ i, i < len → ∃ s : St, ∃ a : Addr, ao = some a ∧ w.cell? (a.add (i * 4)) = some (.int .i64 s.dd) ∧ w.cell? (a.add (i * 4 + 1)) = some (.bool s.oth) ∧ w.cell? (a.add (i * 4 + 2)) = some (.int .i64 s.key) ∧ w.cell? (a.add (i * 4 + 3)) = some (.int .i64 s.val) := by
    intro i hlt
    obtain ⟨a, cs', n, xs, ha, hl, hcell, hf⟩ := hi i hlt
    obtain ⟨c0, c1, c2, c3, rfl⟩ := list4 hl
    · skip
      have f0 := hf 0 { name := "Do", type := 3, offset := 0, embedded := false, tag := "", pkgPath := "", byteOffset := 0 } rfl
      dsimp only at f0
      rw [hc3] at f0
      change _ ∧ DataW.trod enc Try.prog w 0 spare held n 3 [c0] = _ at f0
      have f1 := hf 1 { name := "Other", type := 4, offset := 1, embedded := false, tag := "", pkgPath := "", byteOffset := 8 } rfl
      dsimp only at f1
      rw [hc4] at f1
      change _ ∧ DataW.trod enc Try.prog w 0 spare held n 4 [c1] = _ at f1
      have f2 := hf 2 { name := "Key", type := 3, offset := 2, embedded := false, tag := "", pkgPath := "", byteOffset := 16 } rfl
      dsimp only at f2
      rw [hc3] at f2
      change _ ∧ DataW.trod enc Try.prog w 0 spare held n 3 [c2] = _ at f2
      have f3 := hf 3 { name := "Val", type := 3, offset := 3, embedded := false, tag := "", pkgPath := "", byteOffset := 24 } rfl
      dsimp only at f3
      rw [hc3] at f3
      change _ ∧ DataW.trod enc Try.prog w 0 spare held n 3 [c3] = _ at f3
      obtain ⟨g0, e0⟩ := f0
      obtain ⟨g1, e1⟩ := f1
      obtain ⟨g2, e2⟩ := f2
      obtain ⟨g3, e3⟩ := f3
      rw [List.getElem?_eq_getElem g0] at e0
      rw [List.getElem?_eq_getElem g1] at e1
      rw [List.getElem?_eq_getElem g2] at e2
      rw [List.getElem?_eq_getElem g3] at e3
      obtain ⟨d0, h0, _, _⟩ := DataW.trod_int Try.underlying3 e0
      obtain ⟨d1, h1, _⟩ := DataW.trod_bool Try.underlying4 e1
      obtain ⟨d2, h2, _, _⟩ := DataW.trod_int Try.underlying3 e2
      obtain ⟨d3, h3, _, _⟩ := DataW.trod_int Try.underlying3 e3
      cases h0; cases h1; cases h2; cases h3
      exact ⟨⟨d0, d1, d2, d3⟩, a, ha, hcell 0 (by omega), hcell 1 (by omega), hcell 2 (by omega), hcell 3 (by omega)⟩
  obtain ⟨steps, hl, hs⟩ := list_of len hst
  refine ⟨ao, len, cap, es, sp, steps, rfl, hx, hl.symm, ?_⟩
  by_cases h0 : len = 0
  · left; exact List.eq_nil_of_length_eq_zero (by omega)
  · right
    obtain ⟨s, a, ha, c0, _⟩ := hst 0 (by omega)
    rw [Nat.zero_mul, Addr.add_zero'] at c0
    obtain ⟨b, o, sp'⟩ := a
    have := cell_spot c0
    simp at this
    subst this
    refine ⟨b, o, ha, cell_lt c0, fun i s hi => ?_⟩
    obtain ⟨a', ha', q0, q1, q2, q3⟩ := hs i s hi
    rw [ha] at ha'; cases ha'
    rw [add_at] at q0 q1 q2 q3
    exact ⟨q0, q1, q2, q3⟩

set_option maxRecDepth 100000 in
theorem signs_contract (H : Type) (enc : TypeId × Value → H) (W : World) (base : Nat) (args : Array Value) (ds gs : List (DataW H)) (before : List MemPlace)
    (hval : ∀ (j : Nat) t v, Try.f3.params[j]? = some t → args[j]? = some v → Value.okWide Try.prog W .any base t v)
    (hW : DataW.Whole enc Try.prog Try.f3.params.toList Rows.tableSignsSpec.vars false W args.toList ds gs before) (hk : Rows.uptoSmall H (ds ++ gs) = true) :
    Calls Try.prog 3 args W fun e W' => ∃ v, e = .returned v ∧ Rows.tableSignsSpec.post enc Try.prog Try.f3 false true false false W args v W' := by
  have hW' := hW
  obtain ⟨p, q, hA0, hV, rfl, hfz, hnd⟩ := hW
  have hA : DataW.TrodAll enc Try.prog W 0 (fun _ => true) true Try.f3.params.toList args.toList ds p := hA0
  rw [Try.params3] at hA hval
  obtain ⟨v0, vs0, d0, ds0, p0, q0, hargs, rfl, rfl, h0, r0⟩ := trodAll_cons hA
  obtain ⟨rfl, rfl, rfl⟩ := trodAll_nil r0
  obtain rfl : args = #[v0] := by cases args; simp_all
  obtain ⟨rfl, rfl⟩ := trodVars_none hV
  obtain ⟨ao', len', cap', rfl⟩ := okWide_slice Try.underlying22 (hval 0 22 v0 rfl rfl)
  have h0' := h0
  obtain ⟨fuel, ht⟩ := h0'
  change DataW.trod enc Try.prog W 0 (fun _ => true) true fuel 22 [.slice ao' len' cap'] = _ at ht
  obtain ⟨ao, len, cap, es, sp, steps, he, hx2, hlen, hS⟩ := open_script ht
  cases he
  have hb : len' ≤ 1048576 := by
    rw [List.append_nil] at hk
    have h := bulk_of hk
    dsimp only at hx2
    rcases hx2 with ⟨_, q⟩ | ⟨q, q'⟩
    · omega
    · rw [q] at h
      have := bulk_len es
      simp only [Rows.uptoBulkAll, Rows.uptoBulk] at h
      omega
  clear hA0 hA ht
  simp only [List.append_nil] at hW' h0
  refine (signs_calls hS hlen hb).mono fun e W' ⟨he, hg⟩ => ?_
  subst he
  exact ⟨_, rfl, post_true rfl rfl rfl (fun _ => rfl) (by kernel_rfl) (of_decide_eq_true (by kernel_rfl)) hW' h0 hg⟩

set_option maxRecDepth 100000 in
theorem signs_lifted (os : Os) (started : os.Started) (H : Type) (enc : TypeId × Value → H) (F : Stop.Interp) :
    ReturnsInHanded {} Try.checked os 3 .any ((Rows.OpenSpec.upto Rows.tableSignsSpec).pre6 enc Try.prog Try.f3 Rows.tableSignsUptoRow.domain false) (((Rows.OpenSpec.upto Rows.tableSignsSpec).at F).post enc Try.prog Try.f3 false true false false) := by
  refine returnsInHanded_of_cond (C := Try.checked) (s := Rows.OpenSpec.upto Rows.tableSignsSpec) (k := Rows.uptoSmall) rfl own started (by kernel_rfl) Try.func3
    (OpenSpec.witness (enc := enc) (C := Try.checked) (s := Rows.OpenSpec.upto Rows.tableSignsSpec) (k := Rows.uptoSmall) rfl false ⟨#[], #[.slice none 0 0], []⟩ 8 (by kernel_rfl) (by kernel_rfl) (by kernel_rfl)
      (x := ([.nil], [], [])) (by kernel_rfl) rfl (by kernel_rfl)) ?_
  intro W base args ds gs before hval hW _ hk _
  exact signs_contract H enc W base args ds gs before hval hW hk

theorem tableSigns_upto : Rows.TableSignsUptoSaid :=
  OpenClaim.holds_of_cond 3 Try.f3 rfl rfl rfl rfl rfl rfl rfl ⟨rfl, rfl, rfl, rfl, rfl⟩ rfl rfl rfl rfl rfl (by kernel_rfl) Try.func3 (by kernel_rfl)
    (of_decide_eq_true (by kernel_rfl)) (by unfold Func.isWrapper; first | (rw [if_pos (by decide +kernel)]; kernel_rfl) | (rw [if_neg (by decide +kernel)]; exact ⟨rfl, rfl⟩))
    (fun os started H enc _ F => signs_lifted os started H enc F)
end Go.Proofs.Ytaomaeobgfeoiaa.ZS
