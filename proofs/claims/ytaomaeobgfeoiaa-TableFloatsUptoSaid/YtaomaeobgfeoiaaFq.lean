/- TableFloats: what the law does to its two lists. -/
import Derived.Test.YtaomaeobgfeoiaaFp
namespace Go.Proofs.Ytaomaeobgfeoiaa.F
open Go.RowKit Pl
variable {w w' : World} {bt B ya ys oa os : Nat} {kv vv : Value} {T : Tab F64 Int} {ks : List F64} {vs : List Int}

theorem fp_some (g n cap : Nat) : fp (Value.slice (some (⟨g, 0, none⟩ : Addr)) n cap) = [g] := rfl

theorem TabAt.away {F : List Nat} {hv : Value} (h : TabAt w hv bt ya ys oa os T) (k : Keeps F w w') (hd : ∀ b ∈ [bt, ya, ys, oa, os], b ∉ F) : TabAt w' hv bt ya ys oa os T :=
  ⟨k.blk h.tb (hd bt (by simp)), h.yo.keeps k (hd ya (by simp)) (hd ys (by simp)), fun o ho => (h.ol o ho).keeps k (hd oa (by simp)) (hd os (by simp)), h.d1, h.d2, h.d3⟩

/-- A value is written. -/
theorem MemF.setV {g n cap : Nat} (h : MemF w bt B ya ys oa os kv (.slice (some ⟨g, 0, none⟩) n cap) T ks vs) (i : Nat) (v : Int) (hi : i < vs.length) :
    MemF (w.setCell ⟨g, i, none⟩ (.int .i64 v)) bt B ya ys oa os kv (.slice (some ⟨g, 0, none⟩) n cap) T ks (vs.set i v) ∧ Below B w (w.setCell ⟨g, i, none⟩ (.int .i64 v)) := by
  have k : Keeps [g] w (w.setCell ⟨g, i, none⟩ (.int .i64 v)) := Keeps.setCell (Keeps.refl _ _) _ _ (by simp)
  have hv : RepI (w.setCell ⟨g, i, none⟩ (.int .i64 v)) (.slice (some ⟨g, 0, none⟩) n cap) (vs.set i v) := by
    have := h.vo.set (fun _ => rfl) i 0 vs[i] v (.int .i64 v) (List.getElem?_eq_getElem hi) (by omega) rfl
    rwa [Nat.mul_one, Nat.add_zero] at this
  have hd := h.dv
  have hn := h.n3
  have hf := h.f3
  rw [fp_some] at hd hn hf
  exact ⟨⟨h.tab.away k hd, h.ko.keeps k hn, hv, by rw [List.length_set]; exact h.ln, h.dk, h.dv, h.n3, h.f1, h.f2, h.f3, h.inv, Nat.le_trans h.hB k.size⟩, k.below h.hB hf⟩

/-- Key and value are appended. -/
theorem MemF.push {wa w2 wb w4 : World} {f : F64} {v : Int} {g n cap g' n' cap' : Nat} (h : MemF w bt B ya ys oa os kv vv T ks vs) (ka : Keeps [] w wa)
    (r2 : Rep 25 1 encK w2 (.slice (some ⟨g, 0, none⟩) n cap) (ks ++ [f])) (k2 : Keeps (fp kv) wa w2) (a2 : g ∈ fp kv ∨ g = wa.heap.size) (l2 : g < w2.heap.size) (kb : Keeps [] w2 wb)
    (r4 : RepI w4 (.slice (some ⟨g', 0, none⟩) n' cap') (vs ++ [v])) (k4 : Keeps (fp vv) wb w4) (a4 : g' ∈ fp vv ∨ g' = wb.heap.size) :
    MemF w4 bt B ya ys oa os (.slice (some ⟨g, 0, none⟩) n cap) (.slice (some ⟨g', 0, none⟩) n' cap') T (ks ++ [f]) (vs ++ [v]) ∧ Below B w w4 := by
  have s1 := ka.size
  have s2 := k2.size
  have s3 := kb.size
  have s4 := k4.size
  have hg : g ∉ fp vv := fun q => by
    rcases a2 with r | r
    · exact h.n3 g r q
    · have := h.vo.fp_lt g q; omega
  have hgg : g ≠ g' := fun e => by
    rcases a4 with r | r
    · rw [← e] at r; exact hg r
    · omega
  have kall : Keeps (fp kv ++ fp vv) w w4 :=
    (((ka.mono (G := fp kv ++ fp vv) (by simp)).trans k2 (fun x hx _ => by simp [hx])).trans kb (by simp)).trans k4 (fun x hx _ => by simp [hx])
  have hd : ∀ b ∈ [bt, ya, ys, oa, os], b ∉ fp kv ++ fp vv := fun b hb q => by
    rcases List.mem_append.1 q with q | q
    · exact h.dk b hb q
    · exact h.dv b hb q
  have hlt := h.tab_lt
  refine ⟨⟨h.tab.away kall hd, (r2.keeps kb (by simp)).keeps k4 (by rw [fp_some]; simpa using hg), r4, by simp [h.ln], ?_, ?_, by rw [fp_some, fp_some]; simpa using hgg, h.f1, ?_, ?_, h.inv, Nat.le_trans h.hB kall.size⟩, kall.below h.hB ?_⟩
  · intro b hb q
    rw [fp_some] at q
    simp only [List.mem_singleton] at q
    subst q
    rcases a2 with r | r
    · exact h.dk b hb r
    · have := hlt b hb; omega
  · intro b hb q
    rw [fp_some] at q
    simp only [List.mem_singleton] at q
    subst q
    rcases a4 with r | r
    · exact h.dv b hb r
    · have := hlt b hb; omega
  · intro b q
    rw [fp_some] at q
    simp only [List.mem_singleton] at q
    subst q
    rcases a2 with r | r
    · exact h.f2 b r
    · have := h.hB; omega
  · intro b q
    rw [fp_some] at q
    simp only [List.mem_singleton] at q
    subst q
    rcases a4 with r | r
    · exact h.f3 b r
    · have := h.hB; omega
  · intro b q
    rcases List.mem_append.1 q with q | q
    · exact h.f2 b q
    · exact h.f3 b q

/-- Two new lists are taken. -/
theorem MemF.taken {kv' vv' : Value} {ks' : List F64} {vs' : List Int} (h : MemF w bt B ya ys oa os kv vv T ks vs) (k : Keeps [] w w') (r1 : Rep 25 1 encK w' kv' ks') (r2 : RepI w' vv' vs') (hl : ks'.length = vs'.length)
    (f1 : ∀ b ∈ fp kv', w.heap.size ≤ b) (f2 : ∀ b ∈ fp vv', w.heap.size ≤ b) (hd : ∀ b ∈ fp kv', b ∉ fp vv') :
    MemF w' bt B ya ys oa os kv' vv' T ks' vs' := by
  have hlt := h.tab_lt
  have hB := h.hB
  refine ⟨h.tab.keeps0 k, r1, r2, hl, ?_, ?_, hd, h.f1, fun b hb => Nat.le_trans hB (f1 b hb), fun b hb => Nat.le_trans hB (f2 b hb), h.inv, Nat.le_trans hB k.size⟩
  · intro b hb q
    have := hlt b hb
    have := f1 b q
    omega
  · intro b hb q
    have := hlt b hb
    have := f2 b q
    omega

/-- What the loop that takes a pair out has kept of a list behind j rounds. -/
def outTo {α : Type} (xs : List α) (i j : Nat) : List α := (xs.take j).eraseIdx i
theorem take_snoc {α : Type} {xs : List α} {j : Nat} {x : α} (hx : xs[j]? = some x) : xs.take (j + 1) = xs.take j ++ [x] := by
  have hjl : j < xs.length := (List.getElem?_eq_some_iff.1 hx).1
  rw [List.take_succ_eq_append_getElem hjl]
  rw [List.getElem?_eq_getElem hjl] at hx; cases hx; rfl
theorem outTo_succ_keep {α : Type} {xs : List α} {i j : Nat} {x : α} (hx : xs[j]? = some x) (hne : j ≠ i) : outTo xs i (j + 1) = outTo xs i j ++ [x] := by
  unfold outTo
  have hjl : j < xs.length := (List.getElem?_eq_some_iff.1 hx).1
  rw [take_snoc hx]
  have hl : (xs.take j).length = j := by rw [List.length_take]; omega
  by_cases h : i < j
  · rw [List.eraseIdx_append_of_lt_length (by omega)]
  · rw [List.eraseIdx_of_length_le (by rw [List.length_append, hl]; simp; omega), List.eraseIdx_of_length_le (by omega)]
theorem outTo_succ_skip {α : Type} {xs : List α} {i : Nat} {x : α} (hx : xs[i]? = some x) : outTo xs i (i + 1) = outTo xs i i := by
  unfold outTo
  have hjl : i < xs.length := (List.getElem?_eq_some_iff.1 hx).1
  have hl : (xs.take i).length = i := by rw [List.length_take]; omega
  rw [take_snoc hx, List.eraseIdx_append_of_length_le (by omega), hl, Nat.sub_self, List.eraseIdx_of_length_le (l := xs.take i) (by omega)]
  simp
theorem outTo_end {α : Type} {xs : List α} {i : Nat} : outTo xs i xs.length = xs.eraseIdx i := by
  unfold outTo; rw [List.take_length]
theorem outTo_zero {α : Type} {xs : List α} {i : Nat} : outTo xs i 0 = [] := by
  unfold outTo; simp
theorem outTo_len {α : Type} {xs : List α} {i j : Nat} (hj : j ≤ xs.length) : (outTo xs i j).length ≤ j := by
  unfold outTo
  have := List.length_eraseIdx_le (xs.take j) i
  rw [List.length_take] at this
  omega

/-- A step of a script: a float by its bits, a value; or it is taken out. -/
structure Bt where
  key : F64
  val : Int
  out : Bool

/-- The script in memory. -/
def ScriptAt (w : World) (ao : Option Addr) (steps : List Bt) : Prop :=
  steps = [] ∨ ∃ b off, ao = some ⟨b, off, none⟩ ∧ b < w.heap.size ∧ ∀ (i : Nat) (s : Bt), steps[i]? = some s →
    w.cell? ⟨b, off + i * 3, none⟩ = some (.int .u64 (s.key.1 : Nat)) ∧ w.cell? ⟨b, off + i * 3 + 1, none⟩ = some (.int .i64 s.val) ∧ w.cell? ⟨b, off + i * 3 + 2, none⟩ = some (.bool s.out)

theorem ScriptAt.kept {w w' : World} {ao : Option Addr} {steps : List Bt} (h : ScriptAt w ao steps) (k : Below w.heap.size w w') : ScriptAt w' ao steps := by
  rcases h with h | ⟨b, off, h1, h2, h3⟩
  · exact .inl h
  · refine .inr ⟨b, off, h1, Nat.lt_of_lt_of_le h2 k.size, fun i s hs => ?_⟩
    obtain ⟨a0, a1, a2⟩ := h3 i s hs
    exact ⟨(k.cell (p := ⟨b, _, none⟩) h2).trans a0, (k.cell (p := ⟨b, _, none⟩) h2).trans a1, (k.cell (p := ⟨b, _, none⟩) h2).trans a2⟩

/-- Behind New. -/
theorem mem0 {bt ya ys : Nat} (h : TabAt w hvF bt ya ys ya ys tab0) (hB : B ≤ w.heap.size) (f1 : ∀ b ∈ [bt, ya, ys], B ≤ b) : MemF w bt B ya ys ya ys (.slice none 0 0) (.slice none 0 0) tab0 [] [] :=
  ⟨h, Rep.nil, Rep.nil, rfl, by simp [fp, Value.ownBlock], by simp [fp, Value.ownBlock], by simp [fp, Value.ownBlock], fun b hb => f1 b (by simp only [List.mem_cons, List.not_mem_nil, or_false] at hb ⊢; omega), by simp [fp, Value.ownBlock], by simp [fp, Value.ownBlock], inv0 _, hB⟩
theorem rel0 : Rel LF tab0 [] [] := ⟨rfl, by
  have : tab0.M LF = [] := by unfold Tab.M Tab.pairs Tab.oldFulls tab0; simp only; rw [fulls_replicate]; rfl
  rw [this]
  exact List.Perm.refl _⟩
end Go.Proofs.Ytaomaeobgfeoiaa.F
