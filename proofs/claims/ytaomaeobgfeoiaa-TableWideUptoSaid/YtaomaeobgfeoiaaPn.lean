/- Slices that a call owns, as lists. No program. -/
import Derived.Test.YtaomaeobgfeoiaaPm
import Derived.Deep.AppendLies
namespace Go.Proofs.Ytaomaeobgfeoiaa.Pl
open Go.RowKit

/-- A slice value, whose block holds a list of elements: nil, or from the head of its block on. -/
def Rep {α : Type} (e : TypeId) (m : Nat) (f : α → List Value) (w : World) (v : Value) (xs : List α) : Prop := w.ownsRow 0 e m v xs.length (xs.flatMap f)

variable {α : Type} {e : TypeId} {m : Nat} {f : α → List Value} {w w' : World} {v : Value} {xs : List α}

theorem Rep.nil : Rep e m f w (.slice none 0 0) [] := World.ownsRow_nil w 0 e m

/-- What it looks like. -/
theorem Rep.form (h : Rep e m f w v xs) : ∃ a cap, v = .slice a xs.length cap ∧ (a = none → xs = [] ∧ cap = 0) ∧ (∀ b, a = some b → ∃ g, b = ⟨g, 0, none⟩ ∧ g < w.heap.size) ∧ cap ≤ maxLen := by
  rcases h.2 with ⟨hv, hn⟩ | ⟨g, cap, cur, hv, _, hg, _, hc, _⟩
  · refine ⟨none, 0, ?_, fun _ => ⟨List.eq_nil_of_length_eq_zero hn, rfl⟩, fun b h => (by cases h), by decide⟩
    rw [hv, hn]
  · refine ⟨some ⟨g, 0, none⟩, cap, hv, fun h => (by cases h), fun b hb => ?_, hc⟩
    cases hb
    refine ⟨g, rfl, ?_⟩
    rcases Nat.lt_or_ge g w.heap.size with hlt | hge
    · exact hlt
    · rw [Array.getElem?_eq_none hge] at hg; cases hg

theorem Rep.len (h : Rep e m f w v xs) : xs.length ≤ maxLen := by
  rcases h.2 with ⟨_, hn⟩ | ⟨g, cap, cur, hv, _, hg, h1, hc, _⟩
  · rw [hn]; decide
  · exact Nat.le_trans h1 hc

/-- Where there is an element, the block and its cells. -/
theorem Rep.ex (h : Rep e m f w v xs) (hn : 0 < xs.length) : ∃ g cap, v = .slice (some ⟨g, 0, none⟩) xs.length cap ∧ g < w.heap.size ∧ xs.length ≤ cap := by
  rcases h.2 with ⟨_, h0⟩ | ⟨g, cap, cur, hv, _, hg, hc, _⟩
  · omega
  · refine ⟨g, cap, hv, ?_, hc⟩
    rcases Nat.lt_or_ge g w.heap.size with hlt | hge
    · exact hlt
    · rw [Array.getElem?_eq_none hge] at hg; cases hg

theorem Rep.cell {g cap n : Nat} (h : Rep e m f w (.slice (some ⟨g, 0, none⟩) n cap) xs) (hm : ∀ x, (f x).length = m) (i c : Nat) (x : α) (hx : xs[i]? = some x) (hc : c < m) :
    w.cell? ⟨g, i * m + c, none⟩ = (f x)[c]? := by
  have hil : i < xs.length := (List.getElem?_eq_some_iff.1 hx).1
  have hl : n = xs.length := by
    rcases h.2 with ⟨h0, _⟩ | ⟨_, _, _, h0, _⟩
    · cases h0
    · cases h0; rfl
  subst hl
  have hlt : i * m + c < xs.length * m := by
    calc i * m + c < i * m + m := by omega
      _ = (i + 1) * m := by rw [Nat.succ_mul]
      _ ≤ xs.length * m := Nat.mul_le_mul_right _ hil
  have := World.ownsRow.cellAt h (i * m + c) hlt
  rw [this]
  exact flat_get f m hm xs i c x hx hc

theorem Rep.cell1 {g cap n : Nat} (h : Rep e 1 f w (.slice (some ⟨g, 0, none⟩) n cap) xs) {u : α → Value} (hm : ∀ x, f x = [u x]) (i : Nat) (x : α) (hx : xs[i]? = some x) :
    w.cell? ⟨g, i, none⟩ = some (u x) := by
  have := h.cell (fun x => by rw [hm]; rfl) i 0 x hx (by omega)
  rw [Nat.mul_one, Nat.add_zero, hm] at this
  exact this

theorem Rep.frozen {g cap n : Nat} (h : Rep e m f w (.slice (some ⟨g, 0, none⟩) n cap) xs) (j : Nat) : w.frozen? ⟨g, j, none⟩ = false := by
  have hl : n = xs.length := by
    rcases h.2 with ⟨h0, _⟩ | ⟨_, _, _, h0, _⟩
    · cases h0
    · cases h0; rfl
  subst hl
  exact World.ownsRow.frozenAt h j

/-- The block of a slice. -/
def fp (v : Value) : List Nat := v.ownBlock.toList

theorem Rep.fp_lt (h : Rep e m f w v xs) : ∀ b ∈ fp v, b < w.heap.size := by
  intro b hb
  unfold fp at hb
  rw [Option.mem_toList] at hb
  exact (World.ownsRow.lt h b hb).2

theorem Rep.keeps {F : List Nat} (h : Rep e m f w v xs) (k : Keeps F w w') (hd : ∀ b ∈ fp v, b ∉ F) : Rep e m f w' v xs := by
  refine ⟨h.1, ?_⟩
  rcases h.2 with hn | ⟨g, cap, cur, hv, hb, hg, r⟩
  · exact .inl hn
  · refine .inr ⟨g, cap, cur, hv, hb, ?_, r⟩
    have hlt : g < w.heap.size := by
      rcases Nat.lt_or_ge g w.heap.size with hlt | hge
      · exact hlt
      · rw [Array.getElem?_eq_none hge] at hg; cases hg
    rw [k.block g hlt (hd g (by rw [hv]; unfold fp Value.ownBlock; simp))]
    exact hg

theorem Keeps.of_grownBy {row : Option Nat} (h : w.grownBy w' row) : Keeps row.toList w w' :=
  ⟨h.os, h.tape, h.output, h.size, fun k hk hn => h.block k hk fun e => hn (by rw [← e]; simp)⟩

/-- A cell of an element is written. -/
theorem Rep.set {g cap n : Nat} (h : Rep e m f w (.slice (some ⟨g, 0, none⟩) n cap) xs) (hm : ∀ x, (f x).length = m) (i c : Nat) (x y : α) (u : Value) (hx : xs[i]? = some x) (hc : c < m) (hy : f y = (f x).set c u) :
    Rep e m f (w.setCell ⟨g, i * m + c, none⟩ u) (.slice (some ⟨g, 0, none⟩) n cap) (xs.set i y) := by
  have hl : n = xs.length := by
    rcases h.2 with ⟨h0, _⟩ | ⟨_, _, _, h0, _⟩
    · cases h0
    · cases h0; rfl
  subst hl
  have := (World.ownsRow.stored h (i * m + c) u).1
  unfold Rep
  rw [List.length_set, ← flat_set f m hm xs i c x y u hx hc hy]
  exact this

/-- ints -/
abbrev RepI (w : World) (v : Value) (xs : List Int) : Prop := Rep 3 1 (fun x => [Value.int .i64 x]) w v xs
end Go.Proofs.Ytaomaeobgfeoiaa.Pl
