/- append onto a slice that a call owns, told by lists. No program. -/
import Derived.Test.YtaomaeobgfeoiaaPn
import Derived.Maps.AppendAt
namespace Go.Proofs.Ytaomaeobgfeoiaa.Pl
open Go.RowKit
variable {α : Type} {e : TypeId} {size : Nat} {f : α → List Value} {P : Program} {ops : Array Oper} {rest : List Oper} {o : Oper} {a : Act} {Q : Exit → Act → World → Prop} {w : World}

theorem wpList_rep_append (hgd : o.guard = none) (s x : Operand) (t : TypeId) (ho : o.op = .call { callee := .builtin .append, args := #[s, x], argTypes := #[t, t] })
    (z : Value) (bytes : Nat) (ht : P.underlying t = some (.slice e)) (hinfo : (P.info? e).map (fun i => (i.zero, i.size, i.bytes)) = some (some z, size, bytes)) (hzs : z.cells.size = size) (hsz : 0 < size)
    (v : Value) (xs : List α) (hs : a.eval s = v) (hrep : Rep e size f w v xs) (hf : ∀ x, (f x).length = size)
    (ad : Addr) (m c : Nat) (ys : List α) (hx : a.eval x = .slice (some ad) m c) (hl : ys.length = m) (hnews : ∀ j u, (ys.flatMap f)[j]? = some u → w.cell? (ad.add j) = some u) (h1 : ∀ u ∈ ys.flatMap f, u.oneCell' = true)
    (hm : 0 < m) (h63 : xs.length + m ≤ maxLen) (hbytes : (xs.length + m) * bytes ≤ 140737488355328)
    (h : ∀ g cap w', Rep e size f w' (.slice (some ⟨g, 0, none⟩) (xs.length + m) cap) (xs ++ ys) → Keeps (fp v) w w' → (g ∈ fp v ∨ g = w.heap.size) → g < w'.heap.size → xs.length + m ≤ cap → wpList P ops Q rest (a.put o.dst (.slice (some ⟨g, 0, none⟩) (xs.length + m) cap)) w') :
    wpList P ops Q (o :: rest) a w := by
  obtain ⟨i, hi, hzz⟩ := Option.map_eq_some_iff.1 hinfo
  simp only [Prod.mk.injEq] at hzz
  obtain ⟨hz, hsize, hby⟩ := hzz
  have hll : (ys.flatMap f).length = m * size := by
    rw [← hl]; clear hx hl hnews h1 h
    induction ys with
    | nil => simp
    | cons y ys ih => rw [List.flatMap_cons, List.length_append, hf, ih, List.length_cons, Nat.succ_mul]; omega
  refine wpList_append_lies w hgd s x t ho 0 e i z size bytes ht hi hz hsize hby hzs hsz v xs.length _ hs hrep ad m c _ hx hll hnews h1 hm h63 hbytes (Nat.zero_le _) _ rfl ?_
  intro g cap w' hown hgrow hat hlt
  have hr : Rep e size f w' (.slice (some ⟨g, 0, none⟩) (xs.length + m) cap) (xs ++ ys) := by
    unfold Rep
    rw [List.length_append, List.flatMap_append, hl]
    exact hown
  refine h g cap w' hr (Keeps.of_grownBy hgrow) ?_ hlt ?_
  · rcases hat with q | q
    · left; unfold fp; rw [q]; simp
    · exact .inr q
  · rcases hown.2 with ⟨h0, _⟩ | ⟨_, _, _, h0, _, _, h2, _⟩
    · cases h0
    · cases h0; exact h2

theorem step_rep_append {K : Act → World → Prop} {E : Prop} (hgd : o.guard = none) (s x : Operand) (t : TypeId) (ho : o.op = .call { callee := .builtin .append, args := #[s, x], argTypes := #[t, t] })
    (z : Value) (bytes : Nat) (ht : P.underlying t = some (.slice e)) (hinfo : (P.info? e).map (fun i => (i.zero, i.size, i.bytes)) = some (some z, size, bytes)) (hzs : z.cells.size = size) (hsz : 0 < size)
    (v : Value) (xs : List α) (hs : a.eval s = v) (hrep : Rep e size f w v xs) (hf : ∀ x, (f x).length = size)
    (ad : Addr) (m c : Nat) (ys : List α) (hx : a.eval x = .slice (some ad) m c) (hl : ys.length = m) (hnews : ∀ j u, (ys.flatMap f)[j]? = some u → w.cell? (ad.add j) = some u) (h1 : ∀ u ∈ ys.flatMap f, u.oneCell' = true)
    (hm : 0 < m) (h63 : xs.length + m ≤ maxLen) (hbytes : (xs.length + m) * bytes ≤ 140737488355328)
    (h : ∀ g cap w', Rep e size f w' (.slice (some ⟨g, 0, none⟩) (xs.length + m) cap) (xs ++ ys) → Keeps (fp v) w w' → (g ∈ fp v ∨ g = w.heap.size) → g < w'.heap.size → xs.length + m ≤ cap → K (a.put o.dst (.slice (some ⟨g, 0, none⟩) (xs.length + m) cap)) w') :
    if Region.wanted o (yielded ops a.tmps) = true then Oper.wp P o a w K Q else E := by
  have hw : Region.wanted o (yielded ops a.tmps) = true := by simp [Region.wanted, hgd]
  rw [if_pos hw]
  obtain ⟨i, hi, hzz⟩ := Option.map_eq_some_iff.1 hinfo
  simp only [Prod.mk.injEq] at hzz
  obtain ⟨hz, hsize, hby⟩ := hzz
  have hll : (ys.flatMap f).length = m * size := by
    rw [← hl]; clear hx hl hnews h1 h
    induction ys with
    | nil => simp
    | cons y ys ih => rw [List.flatMap_cons, List.length_append, hf, ih, List.length_cons, Nat.succ_mul]; omega
  refine wp_append_lies w s x t ho 0 e i z size bytes ht hi hz hsize hby hzs hsz v xs.length _ hs hrep ad m c _ hx hll hnews h1 hm h63 hbytes (Nat.zero_le _) _ rfl ?_
  intro g cap w' hown hgrow hat hlt
  have hr : Rep e size f w' (.slice (some ⟨g, 0, none⟩) (xs.length + m) cap) (xs ++ ys) := by
    unfold Rep
    rw [List.length_append, List.flatMap_append, hl]
    exact hown
  refine h g cap w' hr (Keeps.of_grownBy hgrow) ?_ hlt ?_
  · rcases hat with q | q
    · left; unfold fp; rw [q]; simp
    · exact .inr q
  · rcases hown.2 with ⟨h0, _⟩ | ⟨_, _, _, h0, _, _, h2, _⟩
    · cases h0
    · cases h0; exact h2
end Go.Proofs.Ytaomaeobgfeoiaa.Pl
