import Derived.Test.YtaomaeobgfeoiaaXo
namespace Go.Proofs.Ytaomaeobgfeoiaa.X
open Go.RowKit Pl

theorem mstep_any {w : World} {t m : Int} {ct cm bt bm B : Nat} {R : List Nat} {ya ys oa os : Nat} {kv vv : Value} {T : Tab Int Int} {ks vs : List Int} (h : LawAt w t m ct cm bt bm B R ya ys oa os kv vv T ks vs) (hb : ks.length ≤ 4398046511104)
    (hy : T.young.length ≤ 274877906944) (dd : Int) (oth : Bool) (key val : Int) :
    Calls Try.prog 27 #[.pointer (some ⟨bm, 0, none⟩), .pointer (some ⟨bt, 0, none⟩), .agg #[.int .i64 dd, .bool oth, .int .i64 key, .int .i64 val]] w fun e w' =>
      e = .returned (.bool true) ∧ StepPost w t m ct cm bt bm B R T ks w' := by
  by_cases h0 : dd = 0
  · subst h0
    obtain ⟨e, he, hl⟩ := h.inv.ylen
    refine mstep_put h hb ⟨e, ?_, hl⟩ oth key val
    rw [hl] at hy
    rcases Nat.lt_or_ge 38 e with q | q
    · have : 2 ^ 39 ≤ 2 ^ e := Nat.pow_le_pow_right (by decide) q
      omega
    · exact q
  · by_cases h1 : dd = 1
    · subst h1
      exact mstep_del h hb oth key val
    · exact mstep_get h dd oth key val (by simpa using h0) (by simpa using h1)

theorem pairs_at {w : World} {hv : Value} {bt ya ys oa os : Nat} {T : Tab Int Int} (hT : TabAt w hv bt ya ys oa os T) (hN : T.pairs.length ≤ 1099511627776) :
    Calls Try.prog 32 #[.pointer (some ⟨bt, 0, none⟩), .int .i64 0] w fun e w' => ∃ v, e = .returned v ∧ RepI w' v (flatP T.pairs) ∧ Keeps [] w w' ∧ ∀ b ∈ fp v, w.heap.size ≤ b := by
  refine (pairs_calls hT hN).mono ?_
  rintro e w' ⟨v, rfl, hr, hk⟩
  refine ⟨v, rfl, ?_, hk, ?_⟩
  · unfold RepI Rep
    have e1 : (flatP T.pairs).flatMap (fun x => [Value.int .i64 x]) = (flatP T.pairs).map (Value.int .i64) := by
      generalize flatP T.pairs = l
      induction l with
      | nil => rfl
      | cons a l ih => simp [ih]
    rw [e1]
    exact rowBase hr (Nat.zero_le _)
  · intro b hb
    rcases hr.2 with ⟨rfl, _⟩ | ⟨g, cap, cur, rfl, h1, _⟩
    · simp [fp, Value.ownBlock] at hb
    · simp [fp, Value.ownBlock] at hb; omega

/-- What is left of the list, when so many pairs are out. -/
structure Left (hash : Int → Nat) (rest : List (Int × Int)) (ks vs : List Int) : Prop where
  len : ks.length = vs.length
  perm : (rest.map (cp (LI hash))).Perm (LM (LI hash) ks vs)
  uniq : Uniq (rest.map (cp (LI hash)))

theorem Left.start {hash : Int → Nat} {T : Tab Int Int} {ks vs : List Int} (hi : Inv (LI hash) T) (h : Rel (LI hash) T ks vs) : Left hash T.pairs ks vs := ⟨h.len, h.perm, hi.uniq⟩

theorem Left.step {hash : Int → Nat} {k v : Int} {rest : List (Int × Int)} {ks vs : List Int} (h : Left hash ((k, v) :: rest) ks vs) :
    ∃ j : Nat, idxM ks k = j ∧ j < ks.length ∧ vs[j]? = some v ∧ Left hash rest (ks.eraseIdx j) (vs.eraseIdx j) := by
  have hm : (some k, v) ∈ LM (LI hash) ks vs := h.perm.mem_iff.1 (by simp [cp, LI])
  rcases idx_cases ks k with hi | ⟨j, hi, hj⟩
  · exfalso
    have hx := idx_ok hash ks k
    rw [hi] at hx
    cases hx with
    | none hn => exact noOne_idx (LI hash) (vs := vs) hn _ hm k rfl rfl
  · have hjv : j < vs.length := by rw [← h.len]; exact hj
    have hx := idx_ok hash ks k
    rw [hi] at hx
    have hkj : ks[j]? = some k := by
      generalize hq : ((j : Nat) : Int) = q at hx
      cases hx with
      | none hn => omega
      | some j' x hx hk =>
        obtain rfl : j = j' := by omega
        have : x = k := by simpa [LI] using hk
        rw [hx, this]
    have hvj : vs[j]? = some vs[j] := List.getElem?_eq_getElem hjv
    have hp := LM_erase (LI hash) hkj hvj
    have hu : Uniq (LM (LI hash) ks vs) := h.uniq.perm h.perm
    have hv : vs[j] = v := uniq_same hu (hp.mem_iff.2 (by simp [cp, LI])) hm
    rw [hv] at hp hvj
    refine ⟨j, hi, hj, hvj, ⟨by rw [List.length_eraseIdx, List.length_eraseIdx, if_pos hj, if_pos hjv, h.len], ?_, ?_⟩⟩
    · have := h.perm.trans hp
      rw [List.map_cons] at this
      exact (List.perm_cons _).1 this
    · have := h.uniq
      unfold Uniq at this ⊢
      simp only [List.map_cons, List.filterMap_cons] at this
      have e : (cp (LI hash) (k, v)).1 = some k := rfl
      rw [e] at this
      exact (List.nodup_cons.1 this).2

theorem Left.done {hash : Int → Nat} {ks vs : List Int} (h : Left hash [] ks vs) : ks = [] := by
  have := h.perm.length_eq
  unfold LM at this
  rw [List.length_map, List.length_map, List.length_zip, ← h.len] at this
  exact List.eq_nil_of_length_eq_zero (by simp at this; omega)

theorem Left.length {hash : Int → Nat} {rest : List (Int × Int)} {ks vs : List Int} (h : Left hash rest ks vs) : ks.length = rest.length := by
  have := h.perm.length_eq
  unfold LM at this
  rw [List.length_map, List.length_map, List.length_zip, ← h.len] at this
  omega
end Go.Proofs.Ytaomaeobgfeoiaa.X
