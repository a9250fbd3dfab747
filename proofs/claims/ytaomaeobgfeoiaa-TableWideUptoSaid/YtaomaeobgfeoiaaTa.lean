/- The table's plain law: what find, lay, bury, step, Put, Del and Get make of lists of slots, and that this answers as a list of pairs does. No program. -/
import Derived.Test.YtaomaeobgfeoiaaPl
namespace Go.Proofs.Ytaomaeobgfeoiaa.Pl

section
variable {K V C : Type}

theorem split_at {α : Type} : ∀ (l : List α) (p : Nat) (s : α), l[p]? = some s → ∃ l1 l2, l = l1 ++ s :: l2 ∧ l1.length = p ∧ ∀ s', l.set p s' = l1 ++ s' :: l2
  | [], p, s, h => by simp at h
  | y :: l, 0, s, h => ⟨[], l, by simpa using h, rfl, fun _ => rfl⟩
  | y :: l, p + 1, s, h => by
    obtain ⟨l1, l2, h1, h2, h3⟩ := split_at l p s (by simpa using h)
    exact ⟨y :: l1, l2, by simp [h1], by simp [h2], fun s' => by simp [h3 s']⟩

def fullOf (s : Sl K V) : Option (K × V) := if s.st = 1 then some (s.key, s.val) else none
def fulls (sl : List (Sl K V)) : List (K × V) := sl.filterMap fullOf
def usedN (sl : List (Sl K V)) : Nat := (fulls sl).length
def tombN (sl : List (Sl K V)) : Nat := sl.countP fun s => s.st == 2

theorem usedN_le (sl : List (Sl K V)) : usedN sl ≤ sl.length := List.length_filterMap_le _ _
theorem tombN_le (sl : List (Sl K V)) : tombN sl ≤ sl.length := List.countP_le_length

theorem fulls_append (a b : List (Sl K V)) : fulls (a ++ b) = fulls a ++ fulls b := List.filterMap_append
theorem fulls_cons_full (s : Sl K V) (l : List (Sl K V)) (h : s.st = 1) : fulls (s :: l) = (s.key, s.val) :: fulls l := by
  simp [fulls, fullOf, h]
theorem fulls_cons_not (s : Sl K V) (l : List (Sl K V)) (h : ¬ s.st = 1) : fulls (s :: l) = fulls l := by
  simp [fulls, fullOf, h]

/-- A slot that is not full becomes full. -/
theorem fulls_lay {sl : List (Sl K V)} {p : Nat} {s s' : Sl K V} (h : sl[p]? = some s) (h0 : ¬ s.st = 1) (h1 : s'.st = 1) :
    (fulls (sl.set p s')).Perm ((s'.key, s'.val) :: fulls sl) := by
  obtain ⟨l1, l2, e1, _, e3⟩ := split_at sl p s h
  rw [e3, e1, fulls_append, fulls_append, fulls_cons_full _ _ h1, fulls_cons_not _ _ h0]
  exact List.perm_middle

/-- A full slot becomes one that is not. -/
theorem fulls_bury {sl : List (Sl K V)} {p : Nat} {s s' : Sl K V} (h : sl[p]? = some s) (h0 : s.st = 1) (h1 : ¬ s'.st = 1) :
    (fulls sl).Perm ((s.key, s.val) :: fulls (sl.set p s')) := by
  obtain ⟨l1, l2, e1, _, e3⟩ := split_at sl p s h
  rw [e3, e1, fulls_append, fulls_append, fulls_cons_full _ _ h0, fulls_cons_not _ _ h1]
  exact List.perm_middle

theorem usedN_lay {sl : List (Sl K V)} {p : Nat} {s s' : Sl K V} (h : sl[p]? = some s) (h0 : ¬ s.st = 1) (h1 : s'.st = 1) : usedN (sl.set p s') = usedN sl + 1 := by
  have := (fulls_lay h h0 h1).length_eq
  simpa [usedN] using this
theorem usedN_bury {sl : List (Sl K V)} {p : Nat} {s s' : Sl K V} (h : sl[p]? = some s) (h0 : s.st = 1) (h1 : ¬ s'.st = 1) : usedN sl = usedN (sl.set p s') + 1 := by
  have := (fulls_bury h h0 h1).length_eq
  simpa [usedN] using this
theorem usedN_keep {sl : List (Sl K V)} {p : Nat} {s s' : Sl K V} (h : sl[p]? = some s) (h0 : s.st = 1) (h1 : s'.st = 1) : usedN (sl.set p s') = usedN sl := by
  obtain ⟨l1, l2, e1, _, e3⟩ := split_at sl p s h
  simp only [usedN]
  rw [e3, e1, fulls_append, fulls_append, fulls_cons_full _ _ h1, fulls_cons_full _ _ h0]; simp
theorem tombN_set {sl : List (Sl K V)} {p : Nat} {s s' : Sl K V} (h : sl[p]? = some s) : tombN (sl.set p s') + (if s.st = 2 then 1 else 0) = tombN sl + (if s'.st = 2 then 1 else 0) := by
  obtain ⟨l1, l2, e1, _, e3⟩ := split_at sl p s h
  rw [e3, e1]
  simp only [tombN, List.countP_append, List.countP_cons, beq_iff_eq]
  omega

/-! ### ways -/
theorem way_surj {n h p : Nat} (hp : p < n) : ∃ i, i < n ∧ way n h i = p := by
  refine ⟨(p + (n - h % n)) % n, Nat.mod_lt _ (by omega), ?_⟩
  have hm : h % n < n := Nat.mod_lt _ (by omega)
  unfold way
  rw [Nat.add_mod_mod, ← Nat.mod_add_div h n]
  have e : h % n + n * (h / n) + (p + (n - (h % n + n * (h / n)) % n)) = p + n * (h / n + 1) := by
    rw [Nat.add_mul_mod_self_left, Nat.mod_mod, Nat.mul_add]; omega
  rw [e, Nat.add_mul_mod_self_left, Nat.mod_eq_of_lt hp]

theorem way_inj {n h i j : Nat} (hi : i < n) (hj : j < n) (e : way n h i = way n h j) : i = j := by
  unfold way at e
  have h1 : (h + i) % n = (h % n + i) % n := by rw [Nat.mod_add_mod]
  have h2 : (h + j) % n = (h % n + j) % n := by rw [Nat.mod_add_mod]
  rw [h1, h2] at e
  have hm : h % n < n := Nat.mod_lt _ (by omega)
  generalize h % n = a at *
  have c1 : (a + i) % n = if a + i < n then a + i else a + i - n := by
    split
    · rw [Nat.mod_eq_of_lt ‹_›]
    · rw [Nat.mod_eq_sub_mod (by omega), Nat.mod_eq_of_lt (by omega)]
  have c2 : (a + j) % n = if a + j < n then a + j else a + j - n := by
    split
    · rw [Nat.mod_eq_of_lt ‹_›]
    · rw [Nat.mod_eq_sub_mod (by omega), Nat.mod_eq_of_lt (by omega)]
  rw [c1, c2] at e
  split at e <;> split at e <;> omega

/-- Each full slot's way from its hash to it has no empty slot ahead of it. -/
def PI (hash : K → Nat) (sl : List (Sl K V)) : Prop :=
  ∀ p s, sl[p]? = some s → s.st = 1 → ∀ i, i < sl.length → way sl.length (hash s.key) i = p → ∀ j, j < i → ∀ s', sl[way sl.length (hash s.key) j]? = some s' → s'.st ≠ 0

theorem PI_set {hash : K → Nat} {sl : List (Sl K V)} {p : Nat} {s' : Sl K V} (h : PI hash sl) (h0 : s'.st ≠ 0)
    (hn : s'.st = 1 → ∀ i, i < sl.length → way sl.length (hash s'.key) i = p → ∀ j, j < i → ∀ s, sl[way sl.length (hash s'.key) j]? = some s → s.st ≠ 0) : PI hash (sl.set p s') := by
  intro q s hq hs i hi hw j hj t ht
  rw [List.length_set] at hi hw ht
  rw [List.getElem?_set] at hq ht
  by_cases e : p = way sl.length (hash s.key) j
  · rw [if_pos e] at ht
    split at ht
    · cases ht; exact h0
    · cases ht
  · rw [if_neg e] at ht
    by_cases e2 : p = q
    · subst e2
      simp only [if_true] at hq
      split at hq
      · cases hq; exact hn hs i hi hw j hj t ht
      · cases hq
    · rw [if_neg e2] at hq
      exact h q s hq hs i hi hw j hj t ht

/-- What find leaves of 'free', at the j-th place of the way. -/
def FreeOk (sl : List (Sl K V)) (h : Nat) (j : Nat) (fr : Int) : Prop :=
  (fr = -1 ∧ ∀ i, i < j → ∃ s, sl[way sl.length h i]? = some s ∧ s.st = 1) ∨
  (∃ i0, i0 < j ∧ fr = ((way sl.length h i0 : Nat) : Int) ∧ (∃ s, sl[way sl.length h i0]? = some s ∧ s.st ≠ 1) ∧ ∀ i, i < i0 → ∃ s, sl[way sl.length h i]? = some s ∧ s.st = 1)

structure FoundAt (eq : K → Bool) (sl : List (Sl K V)) (p : Nat) : Prop where
  at_ : ∃ s, sl[p]? = some s ∧ s.st = 1 ∧ eq s.key = true

structure Missed (eq : K → Bool) (sl : List (Sl K V)) (h : Nat) (fr : Int) : Prop where
  free : FreeOk sl h sl.length fr
  stop : ∃ e, e ≤ sl.length ∧ (∀ i, i < e → ∀ s, sl[way sl.length h i]? = some s → s.st = 1 → eq s.key = false) ∧ (e < sl.length → ∃ s, sl[way sl.length h e]? = some s ∧ s.st = 0)

theorem findGo_spec (eq : K → Bool) (sl : List (Sl K V)) (h : Nat) (hst : ∀ s ∈ sl, s.st ≤ 2) : ∀ f j fr, j + f = sl.length → FreeOk sl h j fr →
    (∀ i, i < j → ∀ s, sl[way sl.length h i]? = some s → s.st = 1 → eq s.key = false) →
    (0 ≤ (findGo eq sl h f j fr).2.2 ∧ (findGo eq sl h f j fr).2.2 ≤ sl.length) ∧
    ((∃ p, (findGo eq sl h f j fr).1 = ((p : Nat) : Int) ∧ FoundAt eq sl p) ∨ ((findGo eq sl h f j fr).1 = -1 ∧ Missed eq sl h (findGo eq sl h f j fr).2.1))
  | 0, j, fr, hj, hfr, hno => by
    have hj' : j = sl.length := by omega
    subst hj'
    simp only [findGo]
    exact ⟨⟨by omega, by omega⟩, .inr ⟨trivial, hfr, sl.length, Nat.le_refl _, hno, fun h => absurd h (by omega)⟩⟩
  | f + 1, j, fr, hj, hfr, hno => by
    have hw : way sl.length h j < sl.length := way_lt (by omega)
    obtain ⟨s, hs⟩ : ∃ s, sl[way sl.length h j]? = some s := ⟨_, List.getElem?_eq_getElem hw⟩
    have h2 := hst s (List.mem_of_getElem? hs)
    have hfr0 : fr < 0 → fr = -1 ∧ ∀ i, i < j → ∃ s, sl[way sl.length h i]? = some s ∧ s.st = 1 := by
      intro hlt
      rcases hfr with h | ⟨i0, _, e, _⟩
      · exact h
      · exfalso; rw [e] at hlt; omega
    simp only [findGo, hs]
    by_cases h0 : s.st = 0
    · simp only [h0, if_true]
      refine ⟨⟨by omega, by omega⟩, .inr ⟨trivial, ?_, ?_⟩⟩
      · split
        · exact .inr ⟨j, by omega, rfl, ⟨s, hs, by omega⟩, (hfr0 ‹_›).2⟩
        · rcases hfr with ⟨e, _⟩ | ⟨i0, h1, h3⟩
          · omega
          · exact .inr ⟨i0, by omega, h3⟩
      · exact ⟨j, by omega, hno, fun _ => ⟨s, hs, h0⟩⟩
    · rw [if_neg h0]
      by_cases ht : s.st = 2
      · rw [if_pos ht]
        refine findGo_spec eq sl h hst f (j + 1) _ (by omega) ?_ ?_
        · split
          · exact .inr ⟨j, by omega, rfl, ⟨s, hs, by omega⟩, (hfr0 ‹_›).2⟩
          · rcases hfr with ⟨e, _⟩ | ⟨i0, h1, h3⟩
            · omega
            · exact .inr ⟨i0, by omega, h3⟩
        · intro i hi t ht' h1
          by_cases e : i = j
          · subst e; rw [hs] at ht'; cases ht'; omega
          · exact hno i (by omega) t ht' h1
      · rw [if_neg ht]
        by_cases he : eq s.key = true
        · rw [if_pos he]
          exact ⟨⟨by simp only []; omega, by simp only []; omega⟩, .inl ⟨_, rfl, ⟨s, hs, by omega, he⟩⟩⟩
        · rw [if_neg he]
          refine findGo_spec eq sl h hst f (j + 1) _ (by omega) ?_ ?_
          · rcases hfr with ⟨e, hf⟩ | ⟨i0, h1, h3⟩
            · refine .inl ⟨e, fun i hi => ?_⟩
              by_cases e : i = j
              · subst e; exact ⟨s, hs, by omega⟩
              · exact hf i (by omega)
            · exact .inr ⟨i0, by omega, h3⟩
          · intro i hi t ht' h1
            by_cases e : i = j
            · subst e; rw [hs] at ht'; cases ht'; simpa using he
            · exact hno i (by omega) t ht' h1

theorem findM_spec (eq : K → Bool) (sl : List (Sl K V)) (h : Nat) (hst : ∀ s ∈ sl, s.st ≤ 2) :
    (0 ≤ (findM eq sl h).2.2 ∧ (findM eq sl h).2.2 ≤ sl.length) ∧
    ((∃ p, (findM eq sl h).1 = ((p : Nat) : Int) ∧ FoundAt eq sl p) ∨ ((findM eq sl h).1 = -1 ∧ Missed eq sl h (findM eq sl h).2.1)) :=
  findGo_spec eq sl h hst sl.length 0 (-1) (by omega) (.inl ⟨rfl, fun i hi => absurd hi (by omega)⟩) (fun i hi => absurd hi (by omega))

/-- Not found: nowhere. -/
theorem Missed.nowhere {eq : K → Bool} {hash : K → Nat} {sl : List (Sl K V)} {h : Nat} {fr : Int} (hm : Missed eq sl h fr) (hpi : PI hash sl) (hh : ∀ k, eq k = true → hash k = h) :
    ∀ (p : Nat) (s : Sl K V), sl[p]? = some s → s.st = 1 → eq s.key = false := by
  intro p s hp hs
  by_cases he : eq s.key = true
  · exfalso
    have hpl : p < sl.length := by
      by_cases hlt : p < sl.length
      · exact hlt
      · rw [List.getElem?_eq_none (by omega)] at hp; cases hp
    obtain ⟨i, hi, hw⟩ := way_surj (h := h) hpl
    obtain ⟨e, he1, he2, he3⟩ := hm.stop
    by_cases hie : i < e
    · have := he2 i hie s (by rw [hw]; exact hp) hs
      rw [this] at he; cases he
    · obtain ⟨t, ht, ht0⟩ := he3 (by omega)
      by_cases hee : e = i
      · subst hee
        rw [hw, hp] at ht; cases ht; omega
      · have hk := hh _ he
        exact hpi p s hp hs i hi (by rw [hk]; exact hw) e (by omega) t (by rw [hk]; exact ht) ht0
  · simpa using he

/-- Not found, and not every slot is full: there is a place for it. -/
theorem Missed.place {eq : K → Bool} {sl : List (Sl K V)} {h : Nat} {fr : Int} (hm : Missed eq sl h fr) (hu : usedN sl < sl.length) :
    ∃ q s, fr = ((q : Nat) : Int) ∧ sl[q]? = some s ∧ s.st ≠ 1 ∧ ∀ i, i < sl.length → way sl.length h i = q → ∀ j, j < i → ∀ t, sl[way sl.length h j]? = some t → t.st ≠ 0 := by
  rcases hm.free with ⟨_, hall⟩ | ⟨i0, h1, h2, ⟨s, h3, h4⟩, h5⟩
  · exfalso
    have : ∀ s ∈ sl, s.st = 1 := by
      intro s hs
      obtain ⟨p, hp, rfl⟩ := List.getElem_of_mem hs
      obtain ⟨i, hi, hw⟩ := way_surj (h := h) hp
      obtain ⟨t, ht, h1⟩ := hall i hi
      rw [hw, List.getElem?_eq_getElem hp] at ht
      cases ht; exact h1
    have : usedN sl = sl.length := by
      clear hall hm hu
      induction sl with
      | nil => rfl
      | cons a l ih =>
        have h1 := this a (by simp)
        have := ih (fun s hs => this s (by simp [hs]))
        simp only [usedN] at this ⊢
        rw [fulls_cons_full _ _ h1]; simp [this]
    omega
  · refine ⟨_, s, h2, h3, h4, ?_⟩
    intro i hi hw j hj t ht
    have := way_inj hi h1 hw
    subst this
    obtain ⟨t', ht', h1'⟩ := h5 j hj
    rw [ht'] at ht; cases ht; omega

end
end Go.Proofs.Ytaomaeobgfeoiaa.Pl
