/- TableWide: the law's own list of what was put and taken out, against the table's pairs. No program. -/
import Derived.Test.YtaomaeobgfeoiaaWa
import Derived.Test.YtaomaeobgfeoiaaTd
namespace Go.Proofs.Ytaomaeobgfeoiaa.W
open Go.RowKit Pl

/-- Which key, which value; or it is taken out. -/
structure Wd where
  key : WK
  val : SV
  out : Bool

/-- The last place of a key among the first so many. -/
def lastW (P : List Wd) (k : WK) : Nat → Int
  | 0 => -1
  | j + 1 => match P[j]? with
    | some d => if eqW d.key k then (j : Int) else lastW P k j
    | none => lastW P k j
theorem lastW_hit {P : List Wd} {k : WK} {d : Wd} {j : Nat} (hd : P[j]? = some d) (h : eqW d.key k = true) : lastW P k (j + 1) = j := by
  show (match P[j]? with | some d => if eqW d.key k then (j : Int) else lastW P k j | none => lastW P k j) = _
  rw [hd]; simp only; rw [if_pos h]
theorem lastW_miss {P : List Wd} {k : WK} {d : Wd} {j : Nat} (hd : P[j]? = some d) (h : eqW d.key k = false) : lastW P k (j + 1) = lastW P k j := by
  show (match P[j]? with | some d => if eqW d.key k then (j : Int) else lastW P k j | none => lastW P k j) = _
  rw [hd]; simp only; rw [if_neg (by rw [h]; decide)]

theorem lastW_cases (P : List Wd) (k : WK) : ∀ n, (lastW P k n = -1 ∧ ∀ (j : Nat) (d : Wd), j < n → P[j]? = some d → d.key ≠ k) ∨ ∃ (j : Nat) (d : Wd), lastW P k n = j ∧ j < n ∧ P[j]? = some d ∧ d.key = k
  | 0 => .inl ⟨rfl, fun j d h _ => by omega⟩
  | n + 1 => by
    cases hd : P[n]? with
    | none =>
      have e : lastW P k (n + 1) = lastW P k n := by
        show (match P[n]? with | some d => if eqW d.key k then (n : Int) else lastW P k n | none => lastW P k n) = _
        rw [hd]
      rw [e]
      rcases lastW_cases P k n with ⟨h1, h2⟩ | ⟨j, d, h1, h2, h3, h4⟩
      · refine .inl ⟨h1, fun j d hj hjd => ?_⟩
        by_cases q : j = n
        · subst q; rw [hd] at hjd; cases hjd
        · exact h2 j d (by omega) hjd
      · exact .inr ⟨j, d, h1, by omega, h3, h4⟩
    | some y =>
      cases he : eqW y.key k with
      | true => exact .inr ⟨n, y, lastW_hit hd he, by omega, hd, eqW_eq.1 he⟩
      | false =>
        rw [lastW_miss hd he]
        rcases lastW_cases P k n with ⟨h1, h2⟩ | ⟨j, d, h1, h2, h3, h4⟩
        · refine .inl ⟨h1, fun j d hj hjd => ?_⟩
          by_cases q : j = n
          · subst q; rw [hd] at hjd; cases hjd
            intro e
            rw [eqW_eq.2 e] at he; cases he
          · exact h2 j d (by omega) hjd
        · exact .inr ⟨j, d, h1, by omega, h3, h4⟩

/-- What is put and not taken out stands in the table, and no other. -/
structure Link (P : List Wd) (ks : List WK) (vs : List SV) : Prop where
  len : ks.length = vs.length
  there : ∀ d ∈ P, d.out = false → (d.key, d.val) ∈ ks.zip vs
  gone : ∀ d ∈ P, d.out = true → d.key ∉ ks
  from_ : ∀ x ∈ ks, ∃ d ∈ P, d.key = x
  one : (P.map (·.key)).Nodup
  uniq : ks.Nodup

theorem Link.nil : Link [] [] [] := ⟨rfl, by simp, by simp, by simp, List.nodup_nil, List.nodup_nil⟩

variable {P : List Wd} {ks : List WK} {vs : List SV} {hash : WK → Nat}

/-- The equality of keys, as a law. -/
def LE (hash : WK → Nat) : KeyLaw WK WK where
  cls := some
  eqK := eqW
  hash := hash
  eq_iff := fun a b => by rw [eqW_eq]; exact ⟨fun h => ⟨a, rfl, by rw [h]⟩, fun ⟨x, h1, h2⟩ => (Option.some.inj h1).trans (Option.some.inj h2).symm⟩
  hash_eq := fun a b h => by rw [eqW_eq.1 h]

theorem idx_none {k : WK} (h : k ∉ ks) : IdxOk (LE hash) ks k (-1) := .none fun j x hx => by
  cases he : (LE hash).eqK x k with
  | false => rfl
  | true =>
    have : x = k := eqW_eq.1 he
    subst this
    exact absurd (List.mem_of_getElem? hx) h

theorem zip_at (hl : ks.length = vs.length) {x : WK} {v : SV} (h : (x, v) ∈ ks.zip vs) : ∃ i : Nat, ks[i]? = some x ∧ vs[i]? = some v := by
  obtain ⟨i, hi⟩ := List.getElem?_of_mem h
  rw [List.getElem?_zip_eq_some] at hi
  exact ⟨i, hi⟩
theorem zip_mem {i : Nat} {x : WK} {v : SV} (h1 : ks[i]? = some x) (h2 : vs[i]? = some v) : (x, v) ∈ ks.zip vs :=
  List.mem_of_getElem? (i := i) (by rw [List.getElem?_zip_eq_some]; exact ⟨h1, h2⟩)

theorem Link.look (h : Link P ks vs) (k : WK) : ∃ i : Int, IdxOk (LE hash) ks k i ∧
    ((lastW P k P.length = -1 ∧ i < 0) ∨ ∃ (j : Nat) (d : Wd), lastW P k P.length = j ∧ P[j]? = some d ∧ d.key = k ∧ (d.out = true ∧ i < 0 ∨ d.out = false ∧ 0 ≤ i ∧ valD vs i 0 = d.val)) := by
  rcases lastW_cases P k P.length with ⟨h1, h2⟩ | ⟨j, d, h1, _, h3, h4⟩
  · refine ⟨-1, idx_none (fun hm => ?_), .inl ⟨h1, by omega⟩⟩
    obtain ⟨d, hd, hk⟩ := h.from_ k hm
    obtain ⟨j, hj⟩ := List.getElem?_of_mem hd
    exact h2 j d (List.getElem?_eq_some_iff.1 hj).1 hj hk
  · have hm := List.mem_of_getElem? h3
    cases ho : d.out with
    | true => exact ⟨-1, idx_none (by rw [← h4]; exact h.gone d hm ho), .inr ⟨j, d, h1, h3, h4, .inl ⟨ho, by omega⟩⟩⟩
    | false =>
      obtain ⟨i, q1, q2⟩ := zip_at h.len (h.there d hm ho)
      refine ⟨(i : Int), .some i d.key q1 (eqW_eq.2 h4), .inr ⟨j, d, h1, h3, h4, .inr ⟨ho, by omega, ?_⟩⟩⟩
      unfold valD
      rw [if_neg (by omega), Int.toNat_natCast, List.getD_eq_getElem?_getD, q2]
      rfl

/-- The list behind a step. -/
def upd (P : List Wd) (x : Wd) : List Wd := if lastW P x.key P.length < 0 then P ++ [x] else P.set (lastW P x.key P.length).toNat x

theorem upd_cases (P : List Wd) (x : Wd) : (lastW P x.key P.length = -1 ∧ upd P x = P ++ [x] ∧ ∀ d ∈ P, d.key ≠ x.key) ∨ ∃ (j : Nat) (d : Wd), lastW P x.key P.length = j ∧ P[j]? = some d ∧ d.key = x.key ∧ upd P x = P.set j x := by
  unfold upd
  rcases lastW_cases P x.key P.length with ⟨h1, h2⟩ | ⟨j, d, h1, _, h3, h4⟩
  · refine .inl ⟨h1, by rw [if_pos (by omega)], fun d hd => ?_⟩
    obtain ⟨j, hj⟩ := List.getElem?_of_mem hd
    exact h2 j d (List.getElem?_eq_some_iff.1 hj).1 hj
  · exact .inr ⟨j, d, h1, h3, h4, by rw [if_neg (by omega), h1, Int.toNat_natCast]⟩

theorem upd_keys (h : (P.map (·.key)).Nodup) (x : Wd) : ((upd P x).map (·.key)).Nodup ∧ (∀ d ∈ upd P x, d = x ∨ (d ∈ P ∧ d.key ≠ x.key)) ∧ (∀ d ∈ P, ∃ d' ∈ upd P x, d'.key = d.key) ∧ x ∈ upd P x := by
  rcases upd_cases P x with ⟨_, e, hn⟩ | ⟨j, d0, _, h3, h4, e⟩
  · rw [e]
    refine ⟨?_, fun d hd => ?_, fun d hd => ⟨d, by simp [hd], rfl⟩, by simp⟩
    · rw [List.map_append, List.nodup_append]
      refine ⟨h, by simp, fun a ha b hb => ?_⟩
      obtain ⟨d, hd, rfl⟩ := List.mem_map.1 ha
      simp at hb
      subst hb
      exact hn d hd
    · rcases List.mem_append.1 hd with q | q
      · exact .inr ⟨q, hn d q⟩
      · exact .inl (by simpa using q)
  · rw [e]
    have hjl : j < P.length := (List.getElem?_eq_some_iff.1 h3).1
    have em : (P.set j x).map (·.key) = P.map (·.key) := by
      apply List.ext_getElem?
      intro m
      rw [List.getElem?_map, List.getElem?_map, List.getElem?_set]
      by_cases q : j = m
      · subst q
        rw [if_pos rfl, if_pos hjl, h3]
        simp [h4]
      · rw [if_neg q]
    refine ⟨by rw [em]; exact h, fun d hd => ?_, fun d hd => ?_, ?_⟩
    · obtain ⟨m, hm⟩ := List.getElem?_of_mem hd
      rw [List.getElem?_set] at hm
      by_cases q : j = m
      · rw [if_pos q, if_pos hjl] at hm
        cases hm
        exact .inl rfl
      · rw [if_neg q] at hm
        refine .inr ⟨List.mem_of_getElem? hm, fun hk => ?_⟩
        have g1 : (P.map (·.key))[j]? = some x.key := by rw [List.getElem?_map, h3]; simp [h4]
        have g2 : (P.map (·.key))[m]? = some x.key := by rw [List.getElem?_map, hm]; simp [hk]
        exact q ((List.getElem?_inj (by simpa using hjl) h).1 (g1.trans g2.symm))
    · have : d.key ∈ (P.set j x).map (·.key) := by rw [em]; exact List.mem_map.2 ⟨d, hd, rfl⟩
      obtain ⟨d', h1, h2⟩ := List.mem_map.1 this
      exact ⟨d', h1, h2⟩
    · exact List.mem_of_getElem? (i := j) (by rw [List.getElem?_set, if_pos rfl, if_pos hjl])

theorem Link.put (h : Link P ks vs) (x : Wd) (hx : x.out = false) {i : Int} (hi : IdxOk (LE hash) ks x.key i) :
    (0 ≤ i → Link (upd P x) ks (vs.set i.toNat x.val)) ∧ (i < 0 → Link (upd P x) (ks ++ [x.key]) (vs ++ [x.val])) := by
  obtain ⟨g1, g2, g3, g4⟩ := upd_keys h.one x
  cases hi with
  | none hn =>
    refine ⟨fun q => by omega, fun _ => ?_⟩
    have hk : x.key ∉ ks := fun hm => by
      obtain ⟨j, hj⟩ := List.getElem?_of_mem hm
      have := hn j x.key hj
      rw [show (LE hash).eqK x.key x.key = true from eqW_eq.2 rfl] at this
      cases this
    refine ⟨by simp [h.len], fun d hd ho => ?_, fun d hd ho hm => ?_, fun y hy => ?_, g1, ?_⟩
    · rw [List.zip_append h.len]
      rcases g2 d hd with rfl | ⟨q1, q2⟩
      · simp
      · exact List.mem_append.2 (.inl (h.there d q1 ho))
    · rcases g2 d hd with rfl | ⟨q1, q2⟩
      · rw [hx] at ho; cases ho
      · rcases List.mem_append.1 hm with r | r
        · exact h.gone d q1 ho r
        · exact q2 (by simpa using r)
    · rcases List.mem_append.1 hy with r | r
      · obtain ⟨d, hd, hk⟩ := h.from_ y r
        obtain ⟨d', h1, h2⟩ := g3 d hd
        exact ⟨d', h1, h2.trans hk⟩
      · exact ⟨x, g4, (List.mem_singleton.1 r).symm⟩
    · rw [List.nodup_append]
      refine ⟨h.uniq, by simp, fun a ha b hb => ?_⟩
      simp at hb
      subst hb
      exact fun e => hk (e ▸ ha)
  | some j y hy he =>
    refine ⟨fun _ => ?_, fun q => by omega⟩
    have hyk : y = x.key := eqW_eq.1 he
    subst hyk
    rw [Int.toNat_natCast]
    have hjl : j < vs.length := by rw [← h.len]; exact (List.getElem?_eq_some_iff.1 hy).1
    refine ⟨by simp [h.len], fun d hd ho => ?_, fun d hd ho hm => ?_, fun z hz => ?_, g1, h.uniq⟩
    · rcases g2 d hd with rfl | ⟨q1, q2⟩
      · exact zip_mem hy (by rw [List.getElem?_set, if_pos rfl, if_pos hjl])
      · obtain ⟨m, r1, r2⟩ := zip_at h.len (h.there d q1 ho)
        refine zip_mem r1 ?_
        rw [List.getElem?_set, if_neg ?_]
        · exact r2
        · intro e; subst e; rw [hy] at r1; exact q2 (Option.some.inj r1).symm
    · rcases g2 d hd with rfl | ⟨q1, q2⟩
      · rw [hx] at ho; cases ho
      · exact h.gone d q1 ho hm
    · obtain ⟨d, hd, hk⟩ := h.from_ z hz
      obtain ⟨d', h1, h2⟩ := g3 d hd
      exact ⟨d', h1, h2.trans hk⟩

theorem Link.del (h : Link P ks vs) (x : Wd) (hx : x.out = true) {i : Int} (hi : IdxOk (LE hash) ks x.key i) :
    (0 ≤ i → Link (upd P x) (ks.eraseIdx i.toNat) (vs.eraseIdx i.toNat)) ∧ (i < 0 → Link (upd P x) ks vs) := by
  obtain ⟨g1, g2, g3, g4⟩ := upd_keys h.one x
  cases hi with
  | none hn =>
    refine ⟨fun q => by omega, fun _ => ?_⟩
    have hk : x.key ∉ ks := fun hm => by
      obtain ⟨j, hj⟩ := List.getElem?_of_mem hm
      have := hn j x.key hj
      rw [show (LE hash).eqK x.key x.key = true from eqW_eq.2 rfl] at this
      cases this
    refine ⟨h.len, fun d hd ho => ?_, fun d hd ho hm => ?_, fun z hz => ?_, g1, h.uniq⟩
    · rcases g2 d hd with rfl | ⟨q1, q2⟩
      · rw [hx] at ho; cases ho
      · exact h.there d q1 ho
    · rcases g2 d hd with rfl | ⟨q1, q2⟩
      · exact hk hm
      · exact h.gone d q1 ho hm
    · obtain ⟨d, hd, hk⟩ := h.from_ z hz
      obtain ⟨d', h1, h2⟩ := g3 d hd
      exact ⟨d', h1, h2.trans hk⟩
  | some j y hy he =>
    refine ⟨fun _ => ?_, fun q => by omega⟩
    have hyk : y = x.key := eqW_eq.1 he
    subst hyk
    rw [Int.toNat_natCast]
    have hjk : j < ks.length := (List.getElem?_eq_some_iff.1 hy).1
    have hjl : j < vs.length := by rw [← h.len]; exact hjk
    have hp := zip_erase ks vs j x.key vs[j] hy (List.getElem?_eq_getElem hjl)
    have hkp : ks.Perm (x.key :: ks.eraseIdx j) := by
      have := hp.map Prod.fst
      rw [List.map_fst_zip (by rw [h.len]; exact Nat.le_refl _), List.map_cons, List.map_fst_zip (by rw [List.length_eraseIdx, List.length_eraseIdx, if_pos hjk, if_pos hjl, h.len]; exact Nat.le_refl _)] at this
      exact this
    have hu := hkp.nodup_iff.1 h.uniq
    obtain ⟨u1, u2⟩ := List.nodup_cons.1 hu
    refine ⟨by rw [List.length_eraseIdx, List.length_eraseIdx, if_pos hjk, if_pos hjl, h.len], fun d hd ho => ?_, fun d hd ho hm => ?_, fun z hz => ?_, g1, u2⟩
    · rcases g2 d hd with rfl | ⟨q1, q2⟩
      · rw [hx] at ho; cases ho
      · have := hp.mem_iff.1 (h.there d q1 ho)
        rcases List.mem_cons.1 this with r | r
        · exact absurd (congrArg Prod.fst r) q2
        · exact r
    · rcases g2 d hd with rfl | ⟨q1, q2⟩
      · exact u1 hm
      · exact h.gone d q1 ho (hkp.mem_iff.2 (List.mem_cons_of_mem _ hm))
    · obtain ⟨d, hd, hk⟩ := h.from_ z (hkp.mem_iff.2 (List.mem_cons_of_mem _ hz))
      obtain ⟨d', h1, h2⟩ := g3 d hd
      exact ⟨d', h1, h2.trans hk⟩
end Go.Proofs.Ytaomaeobgfeoiaa.W
