/- TableWide: the law's list in memory, and its script. No walk. -/
import Derived.Test.YtaomaeobgfeoiaaWr
namespace Go.Proofs.Ytaomaeobgfeoiaa.W
open Go.RowKit Pl

theorem info78 : (Try.prog.info? 78).map (fun i => (i.zero, i.size, i.bytes)) = some (some (.agg #[.int .i8 0, .int .u8 0, .int .u8 0, .string ⟨#[]⟩, .slice none 0 0, .bool false]), 6, 56) := by kernel_rfl

theorem encD_len (d : Wd) : (encD d).length = 6 := rfl

/-- An element is written, whole. -/
abbrev wroteD (w : World) (g i : Nat) (y : Wd) : World :=
  (((((w.setCell ⟨g, i * 6, none⟩ (.int .i8 y.key.a)).setCell ⟨g, i * 6 + 1, none⟩ (.int .u8 y.key.b0)).setCell ⟨g, i * 6 + 2, none⟩ (.int .u8 y.key.b1)).setCell ⟨g, i * 6 + 3, none⟩ (.string y.key.c)).setCell ⟨g, i * 6 + 4, none⟩ (sv y.val)).setCell ⟨g, i * 6 + 5, none⟩ (.bool y.out)
theorem wroteD_keeps (w : World) (g i : Nat) (y : Wd) : Keeps [g] w (wroteD w g i y) := by
  refine Keeps.setCell (Keeps.setCell (Keeps.setCell (Keeps.setCell (Keeps.setCell (Keeps.setCell (Keeps.refl _ _) _ _ ?_) _ _ ?_) _ _ ?_) _ _ ?_) _ _ ?_) _ _ ?_ <;> simp

abbrev RepD (w : World) (v : Value) (xs : List Wd) : Prop := Rep 78 6 encD w v xs

theorem RepD.put {w : World} {g cap n : Nat} {xs : List Wd} (h : RepD w (.slice (some ⟨g, 0, none⟩) n cap) xs) (i : Nat) (x y : Wd) (hx : xs[i]? = some x) :
    RepD (wroteD w g i y) (.slice (some ⟨g, 0, none⟩) n cap) (xs.set i y) := by
  obtain ⟨⟨a, b0, b1, c, ha, h0, h1, hc⟩, v, o⟩ := x
  obtain ⟨⟨a', b0', b1', c', ha', h0', h1', hc'⟩, v', o'⟩ := y
  have hil : i < xs.length := (List.getElem?_eq_some_iff.1 hx).1
  have at_ : ∀ z : Wd, (xs.set i z)[i]? = some z := fun z => by rw [List.getElem?_set, if_pos rfl, if_pos hil]
  have s0 := Rep.set h encD_len i 0 _ ⟨⟨a', b0, b1, c, ha', h0, h1, hc⟩, v, o⟩ (.int .i8 a') hx (by decide) rfl
  have s1 := Rep.set s0 encD_len i 1 _ ⟨⟨a', b0', b1, c, ha', h0', h1, hc⟩, v, o⟩ (.int .u8 b0') (at_ _) (by decide) rfl
  rw [List.set_set] at s1
  have s2 := Rep.set s1 encD_len i 2 _ ⟨⟨a', b0', b1', c, ha', h0', h1', hc⟩, v, o⟩ (.int .u8 b1') (at_ _) (by decide) rfl
  rw [List.set_set] at s2
  have s3 := Rep.set s2 encD_len i 3 _ ⟨⟨a', b0', b1', c', ha', h0', h1', hc'⟩, v, o⟩ (.string c') (at_ _) (by decide) rfl
  rw [List.set_set] at s3
  have s4 := Rep.set s3 encD_len i 4 _ ⟨⟨a', b0', b1', c', ha', h0', h1', hc'⟩, v', o⟩ (sv v') (at_ _) (by decide) rfl
  rw [List.set_set] at s4
  have s5 := Rep.set s4 encD_len i 5 _ ⟨⟨a', b0', b1', c', ha', h0', h1', hc'⟩, v', o'⟩ (.bool o') (at_ _) (by decide) rfl
  rw [List.set_set] at s5
  exact s5

theorem RepD.cells {w : World} {g cap n : Nat} {xs : List Wd} (h : RepD w (.slice (some ⟨g, 0, none⟩) n cap) xs) {i : Nat} {x : Wd} (hx : xs[i]? = some x) :
    w.cell? ⟨g, i * 6, none⟩ = some (.int .i8 x.key.a) ∧ w.cell? ⟨g, i * 6 + 1, none⟩ = some (.int .u8 x.key.b0) ∧ w.cell? ⟨g, i * 6 + 2, none⟩ = some (.int .u8 x.key.b1) ∧ w.cell? ⟨g, i * 6 + 3, none⟩ = some (.string x.key.c) ∧ w.cell? ⟨g, i * 6 + 4, none⟩ = some (sv x.val) ∧ w.cell? ⟨g, i * 6 + 5, none⟩ = some (.bool x.out) := by
  have c := fun c (hc : c < 6) => Rep.cell h encD_len i c x hx hc
  exact ⟨c 0 (by omega), c 1 (by omega), c 2 (by omega), c 3 (by omega), c 4 (by omega), c 5 (by omega)⟩

theorem dcells {w : World} {b : Nat} {d : Wd} (h : Blk w b (encD d) 78) :
    w.cell? ⟨b, 0, none⟩ = some (.int .i8 d.key.a) ∧ w.cell? ⟨b, 1, none⟩ = some (.int .u8 d.key.b0) ∧ w.cell? ⟨b, 2, none⟩ = some (.int .u8 d.key.b1) ∧ w.cell? ⟨b, 3, none⟩ = some (.string d.key.c) ∧ w.cell? ⟨b, 4, none⟩ = some (sv d.val) ∧ w.cell? ⟨b, 5, none⟩ = some (.bool d.out) :=
  ⟨h.cell 0, h.cell 1, h.cell 2, h.cell 3, h.cell 4, h.cell 5⟩

theorem cells_new (w : World) (cs : List Value) (t : TypeId) : ∀ (j : Nat) (u : Value), cs[j]? = some u → (w.alloc (.cells cs.toArray t)).cell? ((⟨w.heap.size, 0, none⟩ : Addr).add j) = some u := by
  intro j u h
  have e : (⟨w.heap.size, 0, none⟩ : Addr).add j = ⟨w.heap.size, j, none⟩ := by unfold Addr.add; simp; omega
  rw [e, (Blk.new w cs t).cell j]
  exact h

/-- A value's bytes can be read. -/
def ValOk (w : World) (v : SV) : Prop := v.len ≤ 1048576 ∧ (v.len = 0 ∨ ∃ b off, v.ao = some ⟨b, off, none⟩ ∧ b < w.heap.size ∧ ∀ j, j < v.len → ∃ c, w.cell? ⟨b, off + j, none⟩ = some (.int .u8 c))
theorem ValOk.kept {w w' : World} {v : SV} (h : ValOk w v) (k : Below w.heap.size w w') : ValOk w' v := by
  obtain ⟨h0, h | ⟨b, off, h1, h2, h3⟩⟩ := h
  · exact ⟨h0, .inl h⟩
  · refine ⟨h0, .inr ⟨b, off, h1, Nat.lt_of_lt_of_le h2 k.size, fun j hj => ?_⟩⟩
    obtain ⟨c, hc⟩ := h3 j hj
    exact ⟨c, (k.cell (p := ⟨b, _, none⟩) h2).trans hc⟩

/-- The script in memory. -/
def ScriptAt (w : World) (ao : Option Addr) (steps : List Wd) : Prop :=
  (∀ d ∈ steps, ValOk w d.val) ∧ (steps = [] ∨ ∃ b off, ao = some ⟨b, off, none⟩ ∧ b < w.heap.size ∧ ∀ (i : Nat) (s : Wd), steps[i]? = some s →
    w.cell? ⟨b, off + i * 6, none⟩ = some (.int .i8 s.key.a) ∧ w.cell? ⟨b, off + i * 6 + 1, none⟩ = some (.int .u8 s.key.b0) ∧ w.cell? ⟨b, off + i * 6 + 2, none⟩ = some (.int .u8 s.key.b1) ∧ w.cell? ⟨b, off + i * 6 + 3, none⟩ = some (.string s.key.c) ∧ w.cell? ⟨b, off + i * 6 + 4, none⟩ = some (sv s.val) ∧ w.cell? ⟨b, off + i * 6 + 5, none⟩ = some (.bool s.out))
theorem ScriptAt.kept {w w' : World} {ao : Option Addr} {steps : List Wd} (h : ScriptAt w ao steps) (k : Below w.heap.size w w') : ScriptAt w' ao steps := by
  obtain ⟨h0, h⟩ := h
  refine ⟨fun d hd => (h0 d hd).kept k, ?_⟩
  rcases h with h | ⟨b, off, h1, h2, h3⟩
  · exact .inl h
  · refine .inr ⟨b, off, h1, Nat.lt_of_lt_of_le h2 k.size, fun i s hs => ?_⟩
    obtain ⟨a0, a1, a2, a3, a4, a5⟩ := h3 i s hs
    exact ⟨(k.cell (p := ⟨b, _, none⟩) h2).trans a0, (k.cell (p := ⟨b, _, none⟩) h2).trans a1, (k.cell (p := ⟨b, _, none⟩) h2).trans a2, (k.cell (p := ⟨b, _, none⟩) h2).trans a3, (k.cell (p := ⟨b, _, none⟩) h2).trans a4, (k.cell (p := ⟨b, _, none⟩) h2).trans a5⟩

theorem results_cell {fn : Func} {p : Tmp} (h : fn.results = #[.cell p 4]) (tmps : Array Value) (w : World) (b : Nat) (v : Bool) (hp : tmps.getD p undef = .pointer (some ⟨b, 0, none⟩)) (hc : w.cell? ⟨b, 0, none⟩ = some (.bool v)) :
    (results fn tmps).run Try.prog w = .ok (.bool v) w := by
  have hp' : tmps[p]?.getD undef = .pointer (some ⟨b, 0, none⟩) := by simpa using hp
  have hu := Try.underlying4
  simp [results, h, hp', asAddr, loadVar, Sem.run_bind, Result.andThen]
  rw [hc]

def endK : WK := ⟨0, 0, 0, ⟨#[101, 110, 100]⟩, by decide, by decide, by decide, by decide⟩

theorem upd_at {P : List Wd} {x : Wd} {j : Nat} (h : lastW P x.key P.length = j) : upd P x = P.set j x := by
  unfold upd
  rw [if_neg (by omega), h, Int.toNat_natCast]
theorem upd_end {P : List Wd} {x : Wd} (h : lastW P x.key P.length = -1) : upd P x = P ++ [x] := by
  unfold upd
  rw [if_pos (by omega)]
end Go.Proofs.Ytaomaeobgfeoiaa.W
