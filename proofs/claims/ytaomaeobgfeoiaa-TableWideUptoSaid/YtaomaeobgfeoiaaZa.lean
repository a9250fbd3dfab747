/- Opening what came in, and handing it back: for the laws on tables. -/
import Derived.Test.YtaomaeobgfeoiaaRows
import Derived.WalkKit
import Derived.ProofKit
import Derived.OpenShut
import Derived.JoinedCond
import Derived.Deep.Slices
import Derived.Deep.Fields
import Derived.ChangeSame
namespace Go.Proofs.Ytaomaeobgfeoiaa.Z
open Go.ChangeShapes Go.WideShapes Go.ChangeAt Go.RowKit Go.Deep

theorem own : ownKnob Try.prog.godebug = none := by kernel_rfl
theorem laidOut : laidOutB Try.prog = true := by kernel_rfl

/-- A list's bulk is no less than its length: each datum weighs. -/
theorem bulk_len {H : Type} : ∀ l : List (DataW H), l.length ≤ Rows.uptoBulkAll l
  | [] => Nat.zero_le _
  | d :: l => by
    have ih := bulk_len l
    have hd : 0 < Rows.uptoBulk d := by
      cases d <;> try (simp [Rows.uptoBulk]; done)
      rename_i l
      cases l <;> simp [Rows.uptoBulk]
    rw [Rows.uptoBulkAll, List.length_cons]
    omega

theorem bulk_of {H : Type} {l : List (DataW H)} (hk : Rows.uptoSmall H l = true) : Rows.uptoBulkAll l ≤ 1048576 := by
  unfold Rows.uptoSmall at hk
  exact of_decide_eq_true hk

/-- What the statement asks, where nothing that lay has turned: one argument, the answer true. -/
theorem post_true {H : Type} {enc : TypeId × Value → H} {f : Func} {s : ChangeSpec} {t : TypeId} {W W' : World} {v0 : Value} {d0 : DataW H} {before : List MemPlace} (hs : s.vars = []) (hp : f.params.toList = [t]) (hr : f.resultTypes = #[4])
    (hd : ∀ d, s.fn H [d] = { results := [.lit (.bool true)], args := [d] }) (ht : Try.prog.readableRec t = true) (hrow : t < Try.prog.types.size)
    (hW : DataW.Whole enc Try.prog f.params.toList s.vars false W [v0] [d0] [] before) (h0 : DataW.Trod enc Try.prog W 0 (fun _ => true) true t v0 d0 before) (hb : Below W.heap.size W W') :
    s.post enc Try.prog f false true false false W #[v0] (.bool true) W' := by
  refine ⟨[d0], [], before, [], before, [], hW, ?_, ?_, ?_, hb.frame _, fun h => by cases h⟩
  · rw [hr, List.append_nil, hd]
    exact trodAll_mk1 (shut_bool Try.underlying4 _)
  · rw [hp, List.append_nil, hd]
    exact trodAll_mk1 (Below.trod laidOut ht hrow h0 hb fun x hx => hW.lt x hx)
  · rw [hs, List.append_nil, hd]
    rfl

/-- A slice of structs, a cell each field: what the i-th element's cells hold, by their fields' readings. -/
theorem open_rows {H : Type} {enc : TypeId × Value → H} {P : Program} {w : World} {spare : Nat → Bool} {held : Bool} {t e : TypeId} {fs : Array Field} {fuel : Nat} {cs : List Value} {x : DataW H × List MemPlace}
    (ht : P.underlying t = some (.slice e)) (he : P.underlying e = some (.struct fs)) (h : DataW.trod enc P w 0 spare held fuel t cs = some x) :
    ∃ (ao : Option Addr) (len cap : Nat) (es sp : List (DataW H)), cs = [.slice ao len cap] ∧ (x.1 = .nil ∧ len = 0 ∨ x.1 = .slice es sp ∧ es.length = len) ∧
      ∀ i, i < len → ∃ (a : Addr) (cs' : List Value) (n : Nat) (xs : List (DataW H × List MemPlace)), ao = some a ∧ cs'.length = P.cellsOf e ∧ (∀ j, j < P.cellsOf e → w.cell? (a.add (i * P.cellsOf e + j)) = cs'[j]?) ∧
        ∀ (j : Nat) (f : Field), fs[j]? = some f → j < xs.length ∧ DataW.trod enc P w 0 spare held n f.type ((cs'.drop f.offset).take (P.cellsOf f.type)) = xs[j]? := by
  rcases open_slice ht h with ⟨rfl, rfl⟩ | ⟨a, len, cap, m, n, D, Pl, rfl, _, _, _, hm, rfl, hi⟩
  · exact ⟨none, 0, 0, [], [], rfl, .inl ⟨rfl, rfl⟩, fun i hi => by omega⟩
  · refine ⟨some a, len, cap, _, _, rfl, .inr ⟨rfl, by simp⟩, fun i hlt => ?_⟩
    obtain ⟨cs', hc, hd⟩ := hi i (by split at hm <;> omega)
    obtain ⟨xs, k, _, _, _, hxl, hf⟩ := DataW.trod_struct he hd
    obtain ⟨_, hcl, hat⟩ := World.cells?_some hc
    refine ⟨a, cs', k, xs, rfl, hcl, fun j hj => ?_, fun j f hj => ⟨?_, hf j f hj⟩⟩
    · rw [← Go.Deep.add_add]; exact hat j hj
    · rw [hxl]; exact (Array.getElem?_eq_some_iff.1 hj).1
end Go.Proofs.Ytaomaeobgfeoiaa.Z
