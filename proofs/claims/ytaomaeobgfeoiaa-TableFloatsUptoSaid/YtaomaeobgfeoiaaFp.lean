/- TableFloats: the table and the two lists, side by side. -/
import Derived.Test.YtaomaeobgfeoiaaFn
import Derived.Test.YtaomaeobgfeoiaaPo
import Derived.Test.YtaomaeobgfeoiaaTd
namespace Go.Proofs.Ytaomaeobgfeoiaa.F
open Go.RowKit Pl

def encK (x : F64) : List Value := [.float .f64 x.1]
theorem info25 : (Try.prog.info? 25).map (fun i => (i.zero, i.size, i.bytes)) = some (some (.float .f64 0), 1, 8) := by kernel_rfl
theorem info3 : (Try.prog.info? 3).map (fun i => (i.zero, i.size, i.bytes)) = some (some (.int .i64 0), 1, 8) := by kernel_rfl

abbrev LF : KeyLaw F64 (Bool ⊕ Int) := LI (hashI hashFl 0)
abbrev hvF : Value := .func (.func 21) #[] #[]

/-- The last place at which a key like this stands, among the first so many. -/
def lastU (ks : List F64) (f : F64) : Nat → Int
  | 0 => -1
  | j + 1 => match ks[j]? with
    | some x => if feq x f then (j : Int) else lastU ks f j
    | none => lastU ks f j

theorem lastU_cases (ks : List F64) (f : F64) : ∀ n, (lastU ks f n = -1 ∧ ∀ (j : Nat) (x : F64), j < n → ks[j]? = some x → feq x f = false) ∨ ∃ (j : Nat) (x : F64), lastU ks f n = j ∧ j < n ∧ ks[j]? = some x ∧ feq x f = true
  | 0 => .inl ⟨rfl, fun j x h _ => by omega⟩
  | n + 1 => by
    unfold lastU
    cases hx : ks[n]? with
    | none =>
      rcases lastU_cases ks f n with ⟨h1, h2⟩ | ⟨j, x, h1, h2, h3, h4⟩
      · refine .inl ⟨h1, fun j x hj hjx => ?_⟩
        by_cases e : j = n
        · subst e; rw [hx] at hjx; cases hjx
        · exact h2 j x (by omega) hjx
      · exact .inr ⟨j, x, h1, by omega, h3, h4⟩
    | some y =>
      simp only
      by_cases q : feq y f = true
      · rw [if_pos q]; exact .inr ⟨n, y, rfl, by omega, hx, q⟩
      · rw [if_neg q]
        rcases lastU_cases ks f n with ⟨h1, h2⟩ | ⟨j, x, h1, h2, h3, h4⟩
        · refine .inl ⟨h1, fun j x hj hjx => ?_⟩
          by_cases e : j = n
          · subst e; rw [hx] at hjx; cases hjx; simpa using q
          · exact h2 j x (by omega) hjx
        · exact .inr ⟨j, x, h1, by omega, h3, h4⟩

theorem last_ok (ks : List F64) (f : F64) : IdxOk LF ks f (lastU ks f ks.length) := by
  rcases lastU_cases ks f ks.length with ⟨h1, h2⟩ | ⟨j, x, h1, _, h3, h4⟩
  · rw [h1]; exact .none fun j x hx => h2 j x (List.getElem?_eq_some_iff.1 hx).1 hx
  · rw [h1]; exact .some j x h3 h4

/-- Table and lists in memory, each in blocks of its own, at or beyond B. -/
structure MemF (w : World) (bt B ya ys oa os : Nat) (kv vv : Value) (T : Tab F64 Int) (ks : List F64) (vs : List Int) : Prop where
  tab : TabAt w hvF bt ya ys oa os T
  ko : Rep 25 1 encK w kv ks
  vo : RepI w vv vs
  ln : ks.length = vs.length
  dk : ∀ b ∈ [bt, ya, ys, oa, os], b ∉ fp kv
  dv : ∀ b ∈ [bt, ya, ys, oa, os], b ∉ fp vv
  n3 : ∀ b ∈ fp kv, b ∉ fp vv
  f1 : ∀ b ∈ [bt, ya, ys, oa, os], B ≤ b
  f2 : ∀ b ∈ fp kv, B ≤ b
  f3 : ∀ b ∈ fp vv, B ≤ b
  inv : Inv LF T
  hB : B ≤ w.heap.size

variable {w w' : World} {bt B ya ys oa os : Nat} {kv vv : Value} {T : Tab F64 Int} {ks : List F64} {vs : List Int}

theorem MemF.tab_lt (h : MemF w bt B ya ys oa os kv vv T ks vs) : ∀ b ∈ [bt, ya, ys, oa, os], b < w.heap.size := by
  intro b hb
  have l1 := h.tab.tb.lt
  have l2 := h.tab.yo.ha.lt
  have l3 := h.tab.yo.hs.lt
  simp only [List.mem_cons, List.not_mem_nil, or_false] at hb
  cases ho : T.old with
  | none => obtain ⟨rfl, rfl⟩ := h.tab.d3 ho; omega
  | some o =>
    have l4 := (h.tab.ol o ho).ha.lt
    have l5 := (h.tab.ol o ho).hs.lt
    omega

theorem MemF.keeps0 (h : MemF w bt B ya ys oa os kv vv T ks vs) (k : Keeps [] w w') : MemF w' bt B ya ys oa os kv vv T ks vs :=
  ⟨h.tab.keeps0 k, h.ko.keeps k (by simp), h.vo.keeps k (by simp), h.ln, h.dk, h.dv, h.n3, h.f1, h.f2, h.f3, h.inv, Nat.le_trans h.hB k.size⟩

theorem MemF.out (h : MemF w bt B ya ys oa os kv vv T ks vs) : ∃ c, c ∉ [bt, ya, ys, oa, os] := by
  refine ⟨bt + ya + ys + oa + os + 1, fun q => ?_⟩
  simp only [List.mem_cons, List.not_mem_nil, or_false] at q
  have := h.hB
  omega

theorem hok (w : World) (ct cm : Nat) : HOk w hashFl 0 ct cm := ⟨fun w k => clos_calls k w⟩

/-- Behind a change of the table alone. -/
theorem MemF.tabled {ya' ys' oa' os' : Nat} {T' : Tab F64 Int} (h : MemF w bt B ya ys oa os kv vv T ks vs)
    (ht : TabAt w' hvF bt ya' ys' oa' os' T') (hf : FreshOr [bt, ya, ys, oa, os] w [bt, ya', ys', oa', os']) (k : Keeps [bt, ya, ys, oa, os] w w') (hi : Inv LF T') :
    MemF w' bt B ya' ys' oa' os' kv vv T' ks vs ∧ Below B w w' := by
  refine ⟨⟨ht, h.ko.keeps k (fun b hb q => h.dk b q hb), h.vo.keeps k (fun b hb q => h.dv b q hb), h.ln, ?_, ?_, h.n3, ?_, h.f2, h.f3, hi, Nat.le_trans h.hB k.size⟩, k.below h.hB h.f1⟩
  · intro b hb q
    rcases hf b hb with r | r
    · exact h.dk b r q
    · have := h.ko.fp_lt b q; omega
  · intro b hb q
    rcases hf b hb with r | r
    · exact h.dv b r q
    · have := h.vo.fp_lt b q; omega
  · intro b hb
    rcases hf b hb with r | r
    · exact h.f1 b r
    · exact Nat.le_trans h.hB r

theorem MemF.get_at (h : MemF w bt B ya ys oa os kv vv T ks vs) (hr : Rel LF T ks vs) (f : F64) {i : Int} (hx : IdxOk LF ks f i) :
    Calls Try.prog 23 #[.pointer (some ⟨bt, 0, none⟩), .float .f64 f.1] w fun e w' => e = .returned (.tuple #[.int .i64 (valD vs i 0), .bool (decide (0 ≤ i))]) ∧ ∃ n, w' = w.drewN n := by
  have := get_calls (ct := 0) (cm := 0) h.tab (hok w 0 0) h.inv.a f
  rw [get_rel LF 0 h.inv hr hx] at this
  exact this

theorem MemF.len_at (h : MemF w bt B ya ys oa os kv vv T ks vs) : Calls Try.prog 24 #[.pointer (some ⟨bt, 0, none⟩)] w fun e w' => e = .returned (.int .i64 (lenM T)) ∧ w' = w := len_calls h.tab

theorem MemF.del_at (h : MemF w bt B ya ys oa os kv vv T ks vs) (hr : Rel LF T ks vs) (f : F64) {i : Int} (hx : IdxOk LF ks f i) :
    Calls Try.prog 12 #[.pointer (some ⟨bt, 0, none⟩), .float .f64 f.1] w fun e w' => e = .returned (.tuple #[.int .i64 (valD vs i 0), .bool (decide (0 ≤ i))]) ∧
      ∃ oa' os' T', MemF w' bt B ya ys oa' os' kv vv T' ks vs ∧ Below B w w' ∧ T'.young.length = T.young.length ∧ (0 ≤ i → Rel LF T' (ks.eraseIdx i.toNat) (vs.eraseIdx i.toNat)) ∧ (i < 0 → Rel LF T' ks vs) := by
  obtain ⟨c, hc⟩ := h.out
  obtain ⟨h1, h2, h3, h4⟩ := del_rel LF 0 0 h.inv hr hx
  have := del_calls (ct := c) (cm := c) h.tab (hok w c c) h.inv hc hc f
  rw [h2] at this
  refine this.mono ?_
  rintro e w' ⟨he, oa', os', ht, hf, k⟩
  obtain ⟨q1, q2⟩ := h.tabled ht hf k h1
  exact ⟨he, oa', os', _, q1, q2, del_young LF 0 0 h.inv f, h3, h4⟩

theorem MemF.put_at (h : MemF w bt B ya ys oa os kv vv T ks vs) (hr : Rel LF T ks vs) (hy : T.young.length ≤ 274877906944) (f : F64) (v : Int) {i : Int} (hx : IdxOk LF ks f i) :
    Calls Try.prog 14 #[.pointer (some ⟨bt, 0, none⟩), .float .f64 f.1, .int .i64 v] w fun e w' => e = .returned (.tuple #[.int .i64 (valD vs i 0), .bool (decide (0 ≤ i))]) ∧
      ∃ ya' ys' oa' os' T', MemF w' bt B ya' ys' oa' os' kv vv T' ks vs ∧ Below B w w' ∧ (T'.young.length = T.young.length ∨ T'.young.length ≤ 4 * ks.length + 8) ∧ (0 ≤ i → Rel LF T' ks (vs.set i.toNat v)) ∧ (i < 0 → Rel LF T' (ks ++ [f]) (vs ++ [v])) := by
  obtain ⟨c, hc⟩ := h.out
  obtain ⟨h1, h2, h3, h4⟩ := put_rel LF 0 0 h.inv hr v hx
  have hsz : ∃ e, e ≤ 38 ∧ T.young.length = 2 ^ e := by
    obtain ⟨e, he, hl⟩ := h.inv.ylen
    refine ⟨e, ?_, hl⟩
    rw [hl] at hy
    rcases Nat.lt_or_ge 38 e with q | q
    · have : 2 ^ 39 ≤ 2 ^ e := Nat.pow_le_pow_right (by decide) q
      omega
    · exact q
  have := put_calls (ct := c) (cm := c) h.tab (hok w c c) h.inv hc hc hsz f v
  rw [h2] at this
  refine this.mono ?_
  rintro e w' ⟨he, ya', ys', oa', os', ht, hf, k⟩
  obtain ⟨q1, q2⟩ := h.tabled ht hf k h1
  refine ⟨he, ya', ys', oa', os', _, q1, q2, ?_, h3, h4⟩
  have := put_young LF 0 0 h.inv f v
  rw [len_rel LF hr] at this
  exact this
end Go.Proofs.Ytaomaeobgfeoiaa.F
