/- TableWide, whatever comes in of bulk at most 2^20: true, and what came in reads as it did. -/
import Derived.Test.YtaomaeobgfeoiaaZv
import Derived.Test.YtaomaeobgfeoiaaWs
namespace Go.Proofs.Ytaomaeobgfeoiaa.ZW
open Go.ChangeShapes Go.WideShapes Go.ChangeAt Go.RowKit Go.Deep W Z

set_option maxRecDepth 100000 in
theorem wide_contract (H : Type) (enc : TypeId × Value → H) (W : World) (base : Nat) (args : Array Value) (ds gs : List (DataW H)) (before : List MemPlace)
    (hval : ∀ (j : Nat) t v, Try.f6.params[j]? = some t → args[j]? = some v → Value.okWide Try.prog W .any base t v)
    (hW : DataW.Whole enc Try.prog Try.f6.params.toList Rows.tableWideSpec.vars false W args.toList ds gs before) (hk : Rows.uptoSmall H (ds ++ gs) = true) :
    Calls Try.prog 6 args W fun e W' => ∃ v, e = .returned v ∧ Rows.tableWideSpec.post enc Try.prog Try.f6 false true false false W args v W' := by
  have hW' := hW
  obtain ⟨p, q, hA0, hV, rfl, hfz, hnd⟩ := hW
  have hA : DataW.TrodAll enc Try.prog W 0 (fun _ => true) true Try.f6.params.toList args.toList ds p := hA0
  rw [Try.params6] at hA hval
  obtain ⟨v0, vs0, d0, ds0, p0, q0, hargs, rfl, rfl, h0, r0⟩ := trodAll_cons hA
  obtain ⟨rfl, rfl, rfl⟩ := trodAll_nil r0
  obtain rfl : args = #[v0] := by cases args; simp_all
  obtain ⟨rfl, rfl⟩ := trodVars_none hV
  obtain ⟨ao', len', cap', rfl⟩ := okWide_slice Try.underlying68 (hval 0 68 v0 rfl rfl)
  have h0' := h0
  obtain ⟨fuel, ht⟩ := h0'
  change DataW.trod enc Try.prog W 0 (fun _ => true) true fuel 68 [.slice ao' len' cap'] = _ at ht
  have hb : Rows.uptoBulk d0 ≤ 1048576 := by
    rw [List.append_nil] at hk
    have h := bulk_of hk
    simp only [Rows.uptoBulkAll] at h
    omega
  obtain ⟨ao, len, cap, steps, he, hb2, hlen, hS⟩ := open_script ht hb
  cases he
  clear hA0 hA ht
  simp only [List.append_nil] at hW' h0
  refine (wide_calls hS hlen hb2).mono fun e W' ⟨he, hg⟩ => ?_
  subst he
  exact ⟨_, rfl, post_true rfl rfl rfl (fun _ => rfl) (by kernel_rfl) (of_decide_eq_true (by kernel_rfl)) hW' h0 hg⟩

set_option maxRecDepth 100000 in
theorem wide_lifted (os : Os) (started : os.Started) (H : Type) (enc : TypeId × Value → H) (F : Stop.Interp) :
    ReturnsInHanded {} Try.checked os 6 .any ((Rows.OpenSpec.upto Rows.tableWideSpec).pre6 enc Try.prog Try.f6 Rows.tableWideUptoRow.domain false) (((Rows.OpenSpec.upto Rows.tableWideSpec).at F).post enc Try.prog Try.f6 false true false false) := by
  refine returnsInHanded_of_cond (C := Try.checked) (s := Rows.OpenSpec.upto Rows.tableWideSpec) (k := Rows.uptoSmall) rfl own started (by kernel_rfl) Try.func6
    (OpenSpec.witness (enc := enc) (C := Try.checked) (s := Rows.OpenSpec.upto Rows.tableWideSpec) (k := Rows.uptoSmall) rfl false ⟨#[], #[.slice none 0 0], []⟩ 8 (by kernel_rfl) (by kernel_rfl) (by kernel_rfl)
      (x := ([.nil], [], [])) (by kernel_rfl) rfl (by kernel_rfl)) ?_
  intro W base args ds gs before hval hW _ hk _
  exact wide_contract H enc W base args ds gs before hval hW hk

theorem tableWide_upto : Rows.TableWideUptoSaid :=
  OpenClaim.holds_of_cond 6 Try.f6 rfl rfl rfl rfl rfl rfl rfl ⟨rfl, rfl, rfl, rfl, rfl⟩ rfl rfl rfl rfl rfl (by kernel_rfl) Try.func6 (by kernel_rfl)
    (of_decide_eq_true (by kernel_rfl)) (by unfold Func.isWrapper; first | (rw [if_pos (by decide +kernel)]; kernel_rfl) | (rw [if_neg (by decide +kernel)]; exact ⟨rfl, rfl⟩))
    (fun os started H enc _ F => wide_lifted os started H enc F)
end Go.Proofs.Ytaomaeobgfeoiaa.ZW
