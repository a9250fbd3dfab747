/- The table against a list of pairs. No program. -/
import Derived.Test.YtaomaeobgfeoiaaTc
namespace Go.Proofs.Ytaomaeobgfeoiaa.Pl

section
variable {K V C : Type} (L : KeyLaw K C)

/-- The list's pairs, by the keys' classes. -/
def LM (ks : List K) (vs : List V) : List (Option C × V) := (ks.zip vs).map (cp L)

theorem zip_erase : ∀ (ks : List K) (vs : List V) (i : Nat) (x : K) (y : V), ks[i]? = some x → vs[i]? = some y → (ks.zip vs).Perm ((x, y) :: (ks.eraseIdx i).zip (vs.eraseIdx i))
  | [], _, i, x, y, h, _ => by simp at h
  | a :: ks, [], i, x, y, _, h => by simp at h
  | a :: ks, b :: vs, 0, x, y, h, h' => by
    simp at h h'; subst h h'
    simp
  | a :: ks, b :: vs, i + 1, x, y, h, h' => by
    have := zip_erase ks vs i x y (by simpa using h) (by simpa using h')
    simp only [List.zip_cons_cons, List.eraseIdx_cons_succ]
    exact (List.Perm.cons _ this).trans (List.Perm.swap _ _ _)

theorem LM_erase {ks : List K} {vs : List V} {i : Nat} {x : K} {y : V} (h : ks[i]? = some x) (h' : vs[i]? = some y) : (LM L ks vs).Perm (cp L (x, y) :: LM L (ks.eraseIdx i) (vs.eraseIdx i)) := by
  unfold LM
  rw [← List.map_cons]
  exact (zip_erase ks vs i x y h h').map _

theorem eraseIdx_set : ∀ (vs : List V) (i : Nat) (v : V), (vs.set i v).eraseIdx i = vs.eraseIdx i
  | [], _, _ => rfl
  | a :: vs, 0, v => rfl
  | a :: vs, i + 1, v => by simp [eraseIdx_set vs i v]

theorem LM_set {ks : List K} {vs : List V} {i : Nat} {x : K} (h : ks[i]? = some x) (hi : i < vs.length) (v : V) : (LM L ks (vs.set i v)).Perm (cp L (x, v) :: LM L (ks.eraseIdx i) (vs.eraseIdx i)) := by
  have := LM_erase L h (vs := vs.set i v) (y := v) (by simp [hi])
  rwa [eraseIdx_set] at this

theorem LM_snoc {ks : List K} {vs : List V} (hl : ks.length = vs.length) (k : K) (v : V) : (LM L (ks ++ [k]) (vs ++ [v])).Perm (cp L (k, v) :: LM L ks vs) := by
  unfold LM
  rw [List.zip_append hl, List.map_append]
  exact List.perm_append_comm

theorem uniq_same : ∀ {M : List (Option C × V)} {x : C} {v v' : V}, Uniq M → (some x, v) ∈ M → (some x, v') ∈ M → v = v'
  | [], _, _, _, _, h, _ => by simp at h
  | q :: M, x, v, v', hu, h, h' => by
    by_cases hq : q.1 = some x
    · have hq' : q = (some x, q.2) := by rw [← hq]
      rw [hq'] at hu h h'
      have hn := hu.cons
      rcases List.mem_cons.1 h with e | e
      · rcases List.mem_cons.1 h' with e' | e'
        · cases e; cases e'; rfl
        · exact absurd rfl (hn _ e')
      · exact absurd rfl (hn _ e)
    · have hu' : Uniq M := by
        unfold Uniq at hu ⊢
        rw [List.filterMap_cons] at hu
        split at hu
        · exact hu
        · exact (List.nodup_cons.1 hu).2
      refine uniq_same (x := x) hu' ?_ ?_
      · rcases List.mem_cons.1 h with e | e
        · exact absurd (by rw [← e]) hq
        · exact e
      · rcases List.mem_cons.1 h' with e | e
        · exact absurd (by rw [← e]) hq
        · exact e

/-- Where a key stands in a list of keys. -/
inductive IdxOk (ks : List K) (k : K) : Int → Prop where
  | none (h : ∀ (j : Nat) (x : K), ks[j]? = some x → L.eqK x k = false) : IdxOk ks k (-1)
  | some (j : Nat) (x : K) (hx : ks[j]? = some x) (h : L.eqK x k = true) : IdxOk ks k (j : Int)

theorem noOne_idx {ks : List K} {vs : List V} {k : K} (h : ∀ (j : Nat) (x : K), ks[j]? = some x → L.eqK x k = false) : NoOne (LM L ks vs) (L.cls k) := by
  intro q hq x hx e
  obtain ⟨p, hp, rfl⟩ := List.mem_map.1 hq
  have hp1 : p.1 ∈ ks := (List.of_mem_zip (a := p.1) (b := p.2) hp).1
  obtain ⟨j, hj⟩ := List.getElem?_of_mem hp1
  have := h j p.1 hj
  rw [(L.eq_iff _ _).2 ⟨x, e, hx⟩] at this
  cases this

def valD (vs : List V) (i : Int) (zv : V) : V := if i < 0 then zv else vs.getD i.toNat zv

/-- Table and list have the same pairs. -/
structure Rel (T : Tab K V) (ks : List K) (vs : List V) : Prop where
  len : ks.length = vs.length
  perm : (T.M L).Perm (LM L ks vs)

theorem Rel.answer {T : Tab K V} {ks : List K} {vs : List V} (h : Rel L T ks vs) (hu : Uniq (T.M L)) {k : K} {i : Int} (hi : IdxOk L ks k i) {zv : V} {r : V × Bool} (ha : Answer (T.M L) (L.cls k) zv r) :
    r = (valD vs i zv, decide (0 ≤ i)) := by
  cases hi with
  | none hn =>
    have hno := (noOne_idx L (vs := vs) hn).perm h.perm.symm
    cases ha with
    | hit x v R hk hp => exact absurd rfl (hno _ (hp.mem_iff.2 (List.mem_cons_self)) x hk)
    | miss _ => simp [valD]
  | some j y hy he =>
    have hjl : j < ks.length := (List.getElem?_eq_some_iff.1 hy).1
    obtain ⟨u, huj⟩ : ∃ u, vs[j]? = some u := ⟨_, List.getElem?_eq_getElem (by rw [← h.len]; exact hjl)⟩
    obtain ⟨x, hx1, hx2⟩ := (L.eq_iff _ _).1 he
    have hm : ((some x, u) : Option C × V) ∈ T.M L := by
      refine h.perm.mem_iff.2 ((LM_erase L hy huj).mem_iff.2 ?_)
      unfold cp; rw [hx1]; simp
    have hv : valD vs (j : Int) zv = u := by
      unfold valD; rw [if_neg (by omega)]; simp [huj]
    cases ha with
    | hit x' v R hk hp =>
      rw [hx2] at hk; cases hk
      have := uniq_same hu hm (hp.mem_iff.2 (by simp) : (some x, v) ∈ T.M L)
      rw [hv, this]; simp
    | miss hno => exact absurd rfl (hno _ hm x hx2)

theorem Rel.put {T T' : Tab K V} {ks : List K} {vs : List V} (h : Rel L T ks vs) (hu : Uniq (T.M L)) {k : K} {v : V} {i : Int} (hi : IdxOk L ks k i) {zv : V} {r : V × Bool} (ha : PutRes (T.M L) (T'.M L) (L.cls k) v zv r) :
    r = (valD vs i zv, decide (0 ≤ i)) ∧ (0 ≤ i → Rel L T' ks (vs.set i.toNat v)) ∧ (i < 0 → Rel L T' (ks ++ [k]) (vs ++ [v])) := by
  cases hi with
  | none hn =>
    have hno := (noOne_idx L (vs := vs) hn).perm h.perm.symm
    cases ha with
    | hit x v0 R hk hp _ => exact absurd rfl (hno _ (hp.mem_iff.2 (List.mem_cons_self)) x hk)
    | miss _ hp' =>
      refine ⟨by simp [valD], fun h => absurd h (by omega), fun _ => ⟨by simp [h.len], ?_⟩⟩
      exact (hp'.trans (List.Perm.cons _ h.perm)).trans (LM_snoc L h.len k v).symm
  | some j y hy he =>
    have hjl : j < ks.length := (List.getElem?_eq_some_iff.1 hy).1
    have hjv : j < vs.length := by rw [← h.len]; exact hjl
    obtain ⟨u, huj⟩ : ∃ u, vs[j]? = some u := ⟨_, List.getElem?_eq_getElem hjv⟩
    obtain ⟨x, hx1, hx2⟩ := (L.eq_iff _ _).1 he
    have hpm : (T.M L).Perm ((some x, u) :: LM L (ks.eraseIdx j) (vs.eraseIdx j)) := by
      have := h.perm.trans (LM_erase L hy huj)
      unfold cp at this
      rw [hx1] at this; exact this
    have hm : ((some x, u) : Option C × V) ∈ T.M L := hpm.mem_iff.2 (by simp)
    have hv : valD vs (j : Int) zv = u := by
      unfold valD; rw [if_neg (by omega)]; simp [huj]
    cases ha with
    | hit x' v0 R hk hp hp' =>
      rw [hx2] at hk; cases hk
      have e := uniq_same hu hm (hp.mem_iff.2 (by simp) : (some x, v0) ∈ T.M L)
      subst e
      refine ⟨by rw [hv]; simp, fun _ => ⟨by simp [h.len], ?_⟩, fun h => absurd h (by omega)⟩
      have hR : R.Perm (LM L (ks.eraseIdx j) (vs.eraseIdx j)) := (hp.symm.trans hpm).cons_inv
      have hs := LM_set L hy hjv v
      unfold cp at hs
      rw [hx1] at hs
      rw [show ((j : Int)).toNat = j from by omega]
      exact (hp'.trans (List.Perm.cons _ hR)).trans hs.symm
    | miss hno _ => exact absurd rfl (hno _ hm x hx2)

theorem Rel.del {T T' : Tab K V} {ks : List K} {vs : List V} (h : Rel L T ks vs) (hu : Uniq (T.M L)) {k : K} {i : Int} (hi : IdxOk L ks k i) {zv : V} {r : V × Bool} (ha : DelRes (T.M L) (T'.M L) (L.cls k) zv r) :
    r = (valD vs i zv, decide (0 ≤ i)) ∧ (0 ≤ i → Rel L T' (ks.eraseIdx i.toNat) (vs.eraseIdx i.toNat)) ∧ (i < 0 → Rel L T' ks vs) := by
  cases hi with
  | none hn =>
    have hno := (noOne_idx L (vs := vs) hn).perm h.perm.symm
    cases ha with
    | hit x v0 R hk hp _ => exact absurd rfl (hno _ (hp.mem_iff.2 (List.mem_cons_self)) x hk)
    | miss _ hp' => exact ⟨by simp [valD], fun h => absurd h (by omega), fun _ => ⟨h.len, hp'.trans h.perm⟩⟩
  | some j y hy he =>
    have hjl : j < ks.length := (List.getElem?_eq_some_iff.1 hy).1
    have hjv : j < vs.length := by rw [← h.len]; exact hjl
    obtain ⟨u, huj⟩ : ∃ u, vs[j]? = some u := ⟨_, List.getElem?_eq_getElem hjv⟩
    obtain ⟨x, hx1, hx2⟩ := (L.eq_iff _ _).1 he
    have hpm : (T.M L).Perm ((some x, u) :: LM L (ks.eraseIdx j) (vs.eraseIdx j)) := by
      have := h.perm.trans (LM_erase L hy huj)
      unfold cp at this
      rw [hx1] at this; exact this
    have hm : ((some x, u) : Option C × V) ∈ T.M L := hpm.mem_iff.2 (by simp)
    have hv : valD vs (j : Int) zv = u := by
      unfold valD; rw [if_neg (by omega)]; simp [huj]
    cases ha with
    | hit x' v0 R hk hp hp' =>
      rw [hx2] at hk; cases hk
      have e := uniq_same hu hm (hp.mem_iff.2 (by simp) : (some x, v0) ∈ T.M L)
      subst e
      refine ⟨by rw [hv]; simp, fun _ => ⟨by rw [show ((j : Int)).toNat = j from by omega, List.length_eraseIdx, List.length_eraseIdx, h.len], ?_⟩, fun h => absurd h (by omega)⟩
      rw [show ((j : Int)).toNat = j from by omega]
      exact hp'.trans (hp.symm.trans hpm).cons_inv
    | miss hno _ => exact absurd rfl (hno _ hm x hx2)

/-! ### bounds -/
theorem len_le {T : Tab K V} (h : Inv L T) : lenM T ≤ T.young.length := by
  unfold lenM
  cases ho : T.old with
  | none =>
    have := (h.none_ ho).2
    have e : T.pairs.length = usedN T.young := by unfold Tab.pairs Tab.oldFulls; rw [ho]; rfl
    omega
  | some o =>
    obtain ⟨_, _, _, _, _, h6, _⟩ := h.olds o ho
    omega

theorem old_le {T : Tab K V} (h : Inv L T) : (T.old.getD []).length ≤ T.young.length := by
  cases ho : T.old with
  | none => simp
  | some o => exact (h.olds o ho).2.1

def leftT (T : Tab K V) : Nat := match T.old with | none => 0 | some o => o.length - T.mark

theorem step_perm_M (z : K) (zv : V) {T : Tab K V} (h : Inv L T) : ((stepM L z zv T).M L).Perm (T.M L) := (step_spec L z zv h).2.1.map _

theorem leftT_step (z : K) (zv : V) {T : Tab K V} (h : Inv L T) : leftT (stepM L z zv T) + 8 ≤ leftT T ∨ leftT T ≤ 8 := by
  cases ho : T.old with
  | none => right; unfold leftT; rw [ho]; simp
  | some o =>
    obtain ⟨h1, h2⟩ := (step_spec L z zv h).2.2.2 o ho
    have e : leftT T = o.length - T.mark := by unfold leftT; rw [ho]
    have hm := (h.olds o ho).2.2.2.2.1
    rw [e]
    by_cases hlt : T.mark + 8 < o.length
    · obtain ⟨g1, o', g2, g3⟩ := h1 hlt
      left
      have e2 : leftT (stepM L z zv T) = o'.length - (stepM L z zv T).mark := by unfold leftT; rw [g2]
      rw [e2, g1, g3]; omega
    · right; omega

theorem moving_step (z : K) (zv : V) {T : Tab K V} (h : Inv L T) (h8 : 8 < leftT T) : (stepM L z zv T).old ≠ none := by
  cases ho : T.old with
  | none => unfold leftT at h8; rw [ho] at h8; simp at h8
  | some o =>
    obtain ⟨h1, h2⟩ := (step_spec L z zv h).2.2.2 o ho
    have e : leftT T = o.length - T.mark := by unfold leftT; rw [ho]
    obtain ⟨_, o', g2, _⟩ := h1 (by omega)
    rw [g2]; simp

theorem leftT_putS (z : K) (zv : V) {T : Tab K V} (ho : T.old ≠ none) (k : K) (v : V) : leftT (putS L z zv T k v).1 = leftT T := by
  cases ho' : T.old with
  | none => exact absurd ho' ho
  | some o =>
    unfold putS
    split
    · split
      · unfold leftT; simp only [ho']
      · unfold leftT buryM; simp only [ho', Option.getD_some, List.length_set]
    · unfold growM; simp only [ho']; unfold leftT; simp only [ho']
theorem leftT_delS (z : K) (zv : V) {T : Tab K V} (ho : T.old ≠ none) (k : K) : leftT (delS L z zv T k).1 = leftT T := by
  cases ho' : T.old with
  | none => exact absurd ho' ho
  | some o =>
    unfold delS
    split
    · rfl
    · unfold Tab.setArr
      split
      · unfold leftT; simp only [ho']
      · unfold leftT buryM; rename_i hb
        have : (seekM L T k).1 = false := by simpa using hb
        simp only [ho', this, Tab.arr, Bool.false_eq_true, if_false, Option.getD_some, List.length_set]

theorem leftT_put (z : K) (zv : V) {T : Tab K V} (h : Inv L T) (k : K) (v : V) (h8 : 8 < leftT T) : leftT (putM L z zv T k v).1 ≤ leftT T := by
  unfold putM
  rw [leftT_putS L z zv (moving_step L z zv h h8)]
  rcases leftT_step L z zv h with q | q <;> omega
theorem leftT_del (z : K) (zv : V) {T : Tab K V} (h : Inv L T) (k : K) (h8 : 8 < leftT T) : leftT (delM L z zv T k).1 ≤ leftT T := by
  unfold delM
  rw [leftT_delS L z zv (moving_step L z zv h h8)]
  rcases leftT_step L z zv h with q | q <;> omega

/-- Put, Del, Get: what a step of a script makes. -/
theorem put_rel (z : K) (zv : V) {T : Tab K V} {ks : List K} {vs : List V} (hi : Inv L T) (h : Rel L T ks vs) {k : K} (v : V) {i : Int} (hx : IdxOk L ks k i) :
    Inv L (putM L z zv T k v).1 ∧ (putM L z zv T k v).2 = (valD vs i zv, decide (0 ≤ i)) ∧ (0 ≤ i → Rel L (putM L z zv T k v).1 ks (vs.set i.toNat v)) ∧ (i < 0 → Rel L (putM L z zv T k v).1 (ks ++ [k]) (vs ++ [v])) := by
  have hs := (step_spec L z zv hi).1
  obtain ⟨h1, h2⟩ := putS_spec L hs z zv k v
  have hp := step_perm_M L z zv hi
  obtain ⟨a, b, c⟩ := Rel.put L (T := stepM L z zv T) ⟨h.len, hp.trans h.perm⟩ hs.uniq hx h2
  exact ⟨h1, a, b, c⟩
theorem del_rel (z : K) (zv : V) {T : Tab K V} {ks : List K} {vs : List V} (hi : Inv L T) (h : Rel L T ks vs) {k : K} {i : Int} (hx : IdxOk L ks k i) :
    Inv L (delM L z zv T k).1 ∧ (delM L z zv T k).2 = (valD vs i zv, decide (0 ≤ i)) ∧ (0 ≤ i → Rel L (delM L z zv T k).1 (ks.eraseIdx i.toNat) (vs.eraseIdx i.toNat)) ∧ (i < 0 → Rel L (delM L z zv T k).1 ks vs) := by
  have hs := (step_spec L z zv hi).1
  obtain ⟨h1, h2⟩ := delS_spec L hs z zv k
  have hp := step_perm_M L z zv hi
  obtain ⟨a, b, c⟩ := Rel.del L (T := stepM L z zv T) ⟨h.len, hp.trans h.perm⟩ hs.uniq hx h2
  exact ⟨h1, a, b, c⟩
theorem get_rel (zv : V) {T : Tab K V} {ks : List K} {vs : List V} (hi : Inv L T) (h : Rel L T ks vs) {k : K} {i : Int} (hx : IdxOk L ks k i) :
    getM L zv T k = (valD vs i zv, decide (0 ≤ i)) := h.answer L hi.uniq hx (get_spec L hi.a zv k)
theorem len_rel {T : Tab K V} {ks : List K} {vs : List V} (h : Rel L T ks vs) : lenM T = ks.length := by
  have := h.perm.length_eq
  unfold Tab.M LM at this
  rw [List.length_map, List.length_map, List.length_zip, ← h.len] at this
  unfold lenM; omega

theorem layM_len (sl : List (Sl K V)) (k : K) (v : V) : (layM L sl k v).length = sl.length := by
  unfold layM; split <;> simp
theorem usedN_layM (sl : List (Sl K V)) (k : K) (v : V) : usedN (layM L sl k v) ≤ usedN sl + 1 := by
  unfold layM
  split
  · omega
  · generalize (findK L sl k).2.1.toNat = q
    cases hq : sl[q]? with
    | none =>
      have : sl.length ≤ q := List.getElem?_eq_none_iff.1 hq
      rw [List.set_eq_of_length_le this]; omega
    | some s =>
      by_cases h1 : s.st = 1
      · rw [usedN_keep hq h1 rfl]; omega
      · rw [usedN_lay hq h1 rfl]; omega
theorem growTo_le (n m : Nat) : growTo 2 n m = n ∨ growTo 2 n m ≤ 2 * m := by
  unfold growTo
  split
  · unfold growTo
    split
    · unfold growTo; right; omega
    · right; omega
  · exact .inl rfl
theorem put_young (z : K) (zv : V) {T : Tab K V} (hi : Inv L T) (k : K) (v : V) : (putM L z zv T k v).1.young.length = T.young.length ∨ (putM L z zv T k v).1.young.length ≤ 4 * lenM T + 8 := by
  obtain ⟨_, hp, hl, _⟩ := step_spec L z zv hi
  have hlm : lenM (stepM L z zv T) = lenM T := hp.length_eq
  unfold putM
  generalize stepM L z zv T = T1 at *
  rw [← hl]
  unfold putS
  split
  · left
    split
    · simp only [setVal]; split <;> simp
    · exact layM_len L _ _ _
  · unfold growM
    simp only
    split
    · left; exact layM_len L _ _ _
    · split
      · left; exact layM_len L _ _ _
      · simp only [List.length_replicate]
        have hle : lenM ({ T1 with young := layM L T1.young k v } : Tab K V) ≤ lenM T1 + 1 := by
          unfold lenM Tab.pairs
          rw [List.length_append, List.length_append]
          have := usedN_layM L T1.young k v
          unfold usedN at this
          show T1.oldFulls.length + (fulls (layM L T1.young k v)).length ≤ T1.oldFulls.length + (fulls T1.young).length + 1
          omega
        rcases growTo_le (layM L T1.young k v).length (2 * lenM ({ T1 with young := layM L T1.young k v } : Tab K V) + 2) with q | q
        · left; rw [q]; exact layM_len L _ _ _
        · right; omega
theorem del_young (z : K) (zv : V) {T : Tab K V} (hi : Inv L T) (k : K) : (delM L z zv T k).1.young.length = T.young.length := by
  obtain ⟨_, hp, hl, _⟩ := step_spec L z zv hi
  unfold delM
  generalize stepM L z zv T = T1 at *
  rw [← hl]
  unfold delS
  split
  · rfl
  · unfold Tab.setArr
    split
    · rename_i hb; simp only [hb, Tab.arr, if_true, buryM, List.length_set]
    · rfl
end
end Go.Proofs.Ytaomaeobgfeoiaa.Pl
