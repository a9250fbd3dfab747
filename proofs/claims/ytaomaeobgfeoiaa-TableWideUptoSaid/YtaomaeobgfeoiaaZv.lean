/- TableWide: the script, opened. -/
import Derived.Test.YtaomaeobgfeoiaaZa
import Derived.Test.YtaomaeobgfeoiaaWt
namespace Go.Proofs.Ytaomaeobgfeoiaa.ZW
open Go.ChangeShapes Go.WideShapes Go.ChangeAt Go.RowKit Go.Deep W Z

theorem list_of {α : Type} {p : Nat → α → Prop} : ∀ n, (∀ i, i < n → ∃ x, p i x) → ∃ l : List α, l.length = n ∧ ∀ i x, l[i]? = some x → p i x
  | 0, _ => ⟨[], rfl, fun i x h => by simp at h⟩
  | n + 1, h => by
    obtain ⟨l, hl, hp⟩ := list_of n (fun i hi => h i (by omega))
    obtain ⟨x, hx⟩ := h n (by omega)
    refine ⟨l ++ [x], by simp [hl], fun i y hy => ?_⟩
    by_cases hi : i < n
    · rw [List.getElem?_append_left (by omega)] at hy; exact hp i y hy
    · rw [List.getElem?_append_right (by omega), hl] at hy
      by_cases he : i = n
      · subst he; simp at hy; subst hy; exact hx
      · rw [List.getElem?_eq_none (by simp; omega)] at hy; cases hy

theorem cell_lt {w : World} {a : Addr} {v : Value} (h : w.cell? a = some v) : a.block < w.heap.size := by
  rcases Nat.lt_or_ge a.block w.heap.size with q | q
  · exact q
  · unfold World.cell? at h; rw [Array.getElem?_eq_none q] at h; cases h

theorem cell_spot {w : World} {a : Addr} {v : Value} (h : w.cell? a = some v) : a = ⟨a.block, a.off, none⟩ := by
  obtain ⟨b, o, s⟩ := a
  unfold World.cell? at h
  split at h
  · cases s with
    | none => rfl
    | some x => simp at h
  · cases h

theorem add_at (b o j : Nat) : (⟨b, o, none⟩ : Addr).add j = ⟨b, o + j, none⟩ := by unfold Addr.add; split <;> simp_all

theorem list6 {α : Type} {l : List α} (h : l.length = 6) : ∃ a b c d e f, l = [a, b, c, d, e, f] := by
  match l, h with
  | [a, b, c, d, e, f], _ => exact ⟨a, b, c, d, e, f, rfl⟩

theorem bulk_mem {H : Type} {d : DataW H} : ∀ {l : List (DataW H)}, d ∈ l → Rows.uptoBulk d ≤ Rows.uptoBulkAll l
  | e :: l, h => by
    rw [Rows.uptoBulkAll]
    rcases List.mem_cons.1 h with rfl | h
    · omega
    · have := bulk_mem h; omega

section
variable {H : Type} {enc : TypeId × Value → H} {P : Program} {w : World} {spare : Nat → Bool} {held : Bool}

/-- A slice of structs: besides, the elements' data. -/
theorem open_rows2 {t e : TypeId} {fs : Array Field} {fuel : Nat} {cs : List Value} {x : DataW H × List MemPlace}
    (ht : P.underlying t = some (.slice e)) (he : P.underlying e = some (.struct fs)) (h : DataW.trod enc P w 0 spare held fuel t cs = some x) :
    ∃ (ao : Option Addr) (len cap : Nat) (es sp : List (DataW H)), cs = [.slice ao len cap] ∧ (x.1 = .nil ∧ len = 0 ∨ x.1 = .slice es sp ∧ es.length = len) ∧
      ∀ i, i < len → ∃ (a : Addr) (cs' : List Value) (n : Nat) (xs : List (DataW H × List MemPlace)), ao = some a ∧ cs'.length = P.cellsOf e ∧ (∀ j, j < P.cellsOf e → w.cell? (a.add (i * P.cellsOf e + j)) = cs'[j]?) ∧ xs.length = fs.size ∧ .agg (xs.map (·.1)) ∈ es ∧
        ∀ (j : Nat) (f : Field), fs[j]? = some f → DataW.trod enc P w 0 spare held n f.type ((cs'.drop f.offset).take (P.cellsOf f.type)) = xs[j]? := by
  rcases open_slice ht h with ⟨rfl, rfl⟩ | ⟨a, len, cap, m, n, D, Pl, rfl, _, _, _, hm, rfl, hi⟩
  · exact ⟨none, 0, 0, [], [], rfl, .inl ⟨rfl, rfl⟩, fun i hi => by omega⟩
  · refine ⟨some a, len, cap, _, _, rfl, .inr ⟨rfl, by simp⟩, fun i hlt => ?_⟩
    obtain ⟨cs', hc, hd⟩ := hi i (by split at hm <;> omega)
    obtain ⟨xs, k, _, hx, _, hxl, hf⟩ := DataW.trod_struct he hd
    obtain ⟨_, hcl, hat⟩ := World.cells?_some hc
    refine ⟨a, cs', k, xs, rfl, hcl, fun j hj => ?_, hxl, ?_, fun j f hj => hf j f hj⟩
    · rw [← Go.Deep.add_add]; exact hat j hj
    · have := congrArg Prod.fst hx
      simp only at this
      rw [← this]
      exact List.mem_map.2 ⟨i, List.mem_range.2 hlt, rfl⟩

/-- A list of bytes, opened. -/
theorem open_bytes {t e : TypeId} {fuel : Nat} {cs : List Value} {x : DataW H × List MemPlace} (ht : P.underlying t = some (.slice e)) (he : P.underlying e = some (.int .u8)) (hc1 : P.cellsOf e = 1)
    (h : DataW.trod enc P w 0 spare held fuel t cs = some x) (hb : Rows.uptoBulk x.1 ≤ 1048576) : ∃ v : SV, cs = [sv v] ∧ ValOk w v := by
  rcases open_slice ht h with ⟨rfl, rfl⟩ | ⟨a, len, cap, m, n, D, Pl, rfl, _, _, _, hm, rfl, hi⟩
  · exact ⟨⟨none, 0, 0⟩, rfl, by decide, .inl rfl⟩
  · refine ⟨⟨some a, len, cap⟩, rfl, ?_, ?_⟩
    · have := bulk_len ((List.range len).map D)
      simp only [Rows.uptoBulk, List.length_map, List.length_range] at hb this
      show len ≤ 1048576
      omega
    · have hcell : ∀ j, j < len → ∃ c, w.cell? (a.add j) = some (.int .u8 c) := by
        intro j hj
        obtain ⟨cs', hc, hd⟩ := hi j (by split at hm <;> omega)
        obtain ⟨c, rfl, _⟩ := DataW.trod_int he hd
        obtain ⟨_, _, hat⟩ := World.cells?_some hc
        have := hat 0 (by omega)
        rw [hc1, Nat.mul_one, Addr.add_zero'] at this
        exact ⟨c, this⟩
      by_cases h0 : len = 0
      · exact .inl h0
      · right
        obtain ⟨c, hc⟩ := hcell 0 (by omega)
        rw [Addr.add_zero'] at hc
        obtain ⟨b, o, sp'⟩ := a
        have := cell_spot hc
        simp at this
        subst this
        refine ⟨b, o, rfl, cell_lt hc, fun j hj => ?_⟩
        obtain ⟨c, hc⟩ := hcell j hj
        rw [add_at] at hc
        exact ⟨c, hc⟩
end

theorem some_of {α : Type} {xs : List α} {n j : Nat} {o : Option α} (hl : xs.length = n) (h : o = xs[j]?) (hj : j < n) : ∃ x, xs[j]? = some x ∧ o = some x := by
  have : j < xs.length := by omega
  exact ⟨xs[j], List.getElem?_eq_getElem this, by rw [h, List.getElem?_eq_getElem this]⟩

section
variable {H : Type} {enc : TypeId × Value → H} {w : World} {spare : Nat → Bool} {held : Bool}

set_option maxRecDepth 100000 in
/-- A key, opened. -/
theorem open_key {fuel : Nat} {c0 c1 c2 c3 : Value} {x : DataW H × List MemPlace} (h : DataW.trod enc Try.prog w 0 spare held fuel 74 [c0, c1, c2, c3] = some x) : ∃ k : WK, [c0, c1, c2, c3] = [.int .i8 k.a, .int .u8 k.b0, .int .u8 k.b1, .string k.c] := by
  have hc71 : Try.prog.cellsOf 71 = 1 := by kernel_rfl
  have hc72 : Try.prog.cellsOf 72 = 2 := by kernel_rfl
  have hc9 : Try.prog.cellsOf 9 = 1 := by kernel_rfl
  have hc5 : Try.prog.cellsOf 5 = 1 := by kernel_rfl
  obtain ⟨xs, n, _, _, _, hxl, hf⟩ := DataW.trod_struct Try.underlying74 h
  have hxl3 : xs.length = 3 := hxl
  have f0 := hf 0 { name := "A", type := 71, offset := 0, embedded := false, tag := "", pkgPath := "", byteOffset := 0 } rfl
  dsimp only at f0
  rw [hc71] at f0
  change DataW.trod enc Try.prog w 0 spare held n 71 [c0] = _ at f0
  have f1 := hf 1 { name := "B", type := 72, offset := 1, embedded := false, tag := "", pkgPath := "", byteOffset := 1 } rfl
  dsimp only at f1
  rw [hc72] at f1
  change DataW.trod enc Try.prog w 0 spare held n 72 [c1, c2] = _ at f1
  have f2 := hf 2 { name := "C", type := 9, offset := 3, embedded := false, tag := "", pkgPath := "", byteOffset := 8 } rfl
  dsimp only at f2
  rw [hc9] at f2
  change DataW.trod enc Try.prog w 0 spare held n 9 [c3] = _ at f2
  obtain ⟨_, _, e0⟩ := some_of hxl3 f0 (by omega)
  obtain ⟨_, _, e1⟩ := some_of hxl3 f1 (by omega)
  obtain ⟨_, _, e2⟩ := some_of hxl3 f2 (by omega)
  obtain ⟨a, h0, _, g0⟩ := DataW.trod_int Try.underlying71 e0
  obtain ⟨ys, m, _, _, _, hyl, hy⟩ := DataW.trod_array Try.underlying72 e1
  have y0 := hy 0 (by omega)
  have y1 := hy 1 (by omega)
  rw [hc5] at y0 y1
  change DataW.trod enc Try.prog w 0 spare held m 5 [c1] = _ at y0
  change DataW.trod enc Try.prog w 0 spare held m 5 [c2] = _ at y1
  obtain ⟨_, _, z0⟩ := some_of hyl y0 (by omega)
  obtain ⟨_, _, z1⟩ := some_of hyl y1 (by omega)
  obtain ⟨b0, h1, _, g1⟩ := DataW.trod_int Try.underlying5 z0
  obtain ⟨b1, h2, _, g2⟩ := DataW.trod_int Try.underlying5 z1
  obtain ⟨c, h3, _, g3⟩ := DataW.trod_string Try.underlying9 e2
  cases h0; cases h1; cases h2; cases h3
  exact ⟨⟨a, b0, b1, c, g0, g1, g2, g3⟩, rfl⟩

set_option maxRecDepth 100000 in
/-- The script, opened. -/
theorem open_script {fuel : Nat} {cs : List Value} {x : DataW H × List MemPlace} (h : DataW.trod enc Try.prog w 0 spare held fuel 68 cs = some x) (hb : Rows.uptoBulk x.1 ≤ 1048576) :
    ∃ (ao : Option Addr) (len cap : Nat) (steps : List Wd), cs = [.slice ao len cap] ∧ len ≤ 1048576 ∧ len = steps.length ∧ ScriptAt w ao steps := by
  obtain ⟨ao, len, cap, es, sp, rfl, hx, hi⟩ := open_rows2 Try.underlying68 Try.underlying78 h
  have hc78 : Try.prog.cellsOf 78 = 6 := by kernel_rfl
  have hc74 : Try.prog.cellsOf 74 = 4 := by kernel_rfl
  have hc75 : Try.prog.cellsOf 75 = 1 := by kernel_rfl
  have hc4 : Try.prog.cellsOf 4 = 1 := by kernel_rfl
  have hc5 : Try.prog.cellsOf 5 = 1 := by kernel_rfl
  rw [hc78] at hi
  have hlen : len ≤ 1048576 := by
    rcases hx with ⟨_, q⟩ | ⟨q, q'⟩
    · omega
    · rw [q] at hb
      have := bulk_len es
      simp only [Rows.uptoBulk] at hb
      omega
  have hst : ∀ i, i < len → ∃ s : Wd, ∃ a : Addr, ao = some a ∧ ValOk w s.val ∧ w.cell? (a.add (i * 6)) = some (.int .i8 s.key.a) ∧ w.cell? (a.add (i * 6 + 1)) = some (.int .u8 s.key.b0) ∧ w.cell? (a.add (i * 6 + 2)) = some (.int .u8 s.key.b1) ∧ w.cell? (a.add (i * 6 + 3)) = some (.string s.key.c) ∧ w.cell? (a.add (i * 6 + 4)) = some (sv s.val) ∧ w.cell? (a.add (i * 6 + 5)) = some (.bool s.out) := by
    intro i hlt
    obtain ⟨a, cs', n, xs, ha, hl, hcell, hxl, hmem, hf⟩ := hi i hlt
    have hxl3 : xs.length = 3 := hxl
    obtain ⟨c0, c1, c2, c3, c4, c5, rfl⟩ := list6 hl
    have f0 := hf 0 { name := "Key", type := 74, offset := 0, embedded := false, tag := "", pkgPath := "", byteOffset := 0 } rfl
    dsimp only at f0
    rw [hc74] at f0
    change DataW.trod enc Try.prog w 0 spare held n 74 [c0, c1, c2, c3] = _ at f0
    have f1 := hf 1 { name := "Val", type := 75, offset := 4, embedded := false, tag := "", pkgPath := "", byteOffset := 24 } rfl
    dsimp only at f1
    rw [hc75] at f1
    change DataW.trod enc Try.prog w 0 spare held n 75 [c4] = _ at f1
    have f2 := hf 2 { name := "Out", type := 4, offset := 5, embedded := false, tag := "", pkgPath := "", byteOffset := 48 } rfl
    dsimp only at f2
    rw [hc4] at f2
    change DataW.trod enc Try.prog w 0 spare held n 4 [c5] = _ at f2
    obtain ⟨_, _, e0⟩ := some_of hxl3 f0 (by omega)
    obtain ⟨x1, hx1, e1⟩ := some_of hxl3 f1 (by omega)
    obtain ⟨_, _, e2⟩ := some_of hxl3 f2 (by omega)
    have hbv : Rows.uptoBulk x1.1 ≤ 1048576 := by
      rcases hx with ⟨_, q⟩ | ⟨q, _⟩
      · omega
      · rw [q] at hb
        have b1 := bulk_mem hmem
        have b2 := bulk_mem (List.mem_map.2 ⟨x1, List.mem_of_getElem? hx1, rfl⟩ : x1.1 ∈ xs.map (·.1))
        simp only [Rows.uptoBulk] at hb b1
        omega
    obtain ⟨k, hk⟩ := open_key e0
    obtain ⟨v, hv, hvo⟩ := open_bytes Try.underlying75 Try.underlying5 hc5 e1 hbv
    obtain ⟨o, ho, _⟩ := DataW.trod_bool Try.underlying4 e2
    cases hk; cases hv; cases ho
    exact ⟨⟨k, v, o⟩, a, ha, hvo, hcell 0 (by omega), hcell 1 (by omega), hcell 2 (by omega), hcell 3 (by omega), hcell 4 (by omega), hcell 5 (by omega)⟩
  obtain ⟨steps, hl, hs⟩ := list_of len hst
  refine ⟨ao, len, cap, steps, rfl, hlen, hl.symm, fun d hd => ?_, ?_⟩
  · obtain ⟨i, hi⟩ := List.getElem?_of_mem hd
    obtain ⟨_, _, hv, _⟩ := hs i d hi
    exact hv
  · by_cases h0 : len = 0
    · left; exact List.eq_nil_of_length_eq_zero (by omega)
    · right
      obtain ⟨s, a, ha, _, c0, _⟩ := hst 0 (by omega)
      rw [Nat.zero_mul, Addr.add_zero'] at c0
      obtain ⟨b, o, sp'⟩ := a
      have := cell_spot c0
      simp at this
      subst this
      refine ⟨b, o, ha, cell_lt c0, fun i s hi => ?_⟩
      obtain ⟨a', ha', _, q0, q1, q2, q3, q4, q5⟩ := hs i s hi
      rw [ha] at ha'; cases ha'
      rw [add_at] at q0 q1 q2 q3 q4 q5
      exact ⟨q0, q1, q2, q3, q4, q5⟩
end
end Go.Proofs.Ytaomaeobgfeoiaa.ZW
