/- The table's plain law, third part: Get, Put and Del answer as a list of pairs does. No program. -/
import Derived.Test.YtaomaeobgfeoiaaTb
namespace Go.Proofs.Ytaomaeobgfeoiaa.Pl

section
variable {K V C : Type} (L : KeyLaw K C)

/-- Nobody in M has this class. -/
def NoOne (M : List (Option C × V)) (k : Option C) : Prop := ∀ q ∈ M, ∀ x, k = some x → q.1 ≠ some x

theorem NoOne.perm {M M' : List (Option C × V)} {k : Option C} (h : NoOne M k) (p : M.Perm M') : NoOne M' k := fun q hq => h q (p.mem_iff.2 hq)

theorem lacks_noOne {sl : List (Sl K V)} {k : K} (h : Lacks L sl k) : NoOne ((fulls sl).map (cp L)) (L.cls k) := by
  intro q hq x hx e
  obtain ⟨r, hr, rfl⟩ := List.mem_map.1 hq
  obtain ⟨p, s, h1, h2, rfl⟩ := of_mem_fulls hr
  have := h p s h1 h2
  rw [(L.eq_iff _ _).2 ⟨x, e, hx⟩] at this
  cases this

theorem noOne_lacks {sl : List (Sl K V)} {k : K} (h : NoOne ((fulls sl).map (cp L)) (L.cls k)) : Lacks L sl k := by
  intro p s hp hs
  by_cases he : L.eqK s.key k = true
  · exfalso
    obtain ⟨x, h1, h2⟩ := (L.eq_iff _ _).1 he
    exact h _ (List.mem_map_of_mem (mem_fulls hp hs)) x h2 h1
  · simpa using he

/-- Where seek finds a key. -/
structure Hit (T : Tab K V) (k : K) (b : Bool) (p : Nat) (s : Sl K V) : Prop where
  b_ : (seekM L T k).1 = b
  p_ : (seekM L T k).2.1 = ((p : Nat) : Int)
  old : b = false → ∃ o, T.old = some o ∧ Lacks L T.young k ∧ (findK L T.young k).1 = -1
  at_ : (T.arr b)[p]? = some s
  full : s.st = 1
  eq : L.eqK s.key k = true

structure InvA (T : Tab K V) : Prop where
  yok : ArrOk L T.young
  ook : ∀ o, T.old = some o → ArrOk L o
  uniq : Uniq (T.M L)

theorem Inv.a {T : Tab K V} (h : Inv L T) : InvA L T := ⟨h.yok, fun o ho => (h.olds o ho).2.2.1, h.uniq⟩
theorem InvS.a {T : Tab K V} (h : InvS L T) : InvA L T := h.inv.a

theorem M_eq (T : Tab K V) : T.M L = T.oldFulls.map (cp L) ++ (fulls T.young).map (cp L) := by unfold Tab.M Tab.pairs; rw [List.map_append]

theorem seek_spec {T : Tab K V} (h : InvA L T) (k : K) :
    (∃ b p s, Hit L T k b p s) ∨ ((seekM L T k).2.1 = -1 ∧ NoOne (T.M L) (L.cls k) ∧ Lacks L T.young k ∧ (findK L T.young k).1 = -1) := by
  rcases findK_cases L h.yok k with ⟨p, s, h1, h2, h3, h4⟩ | ⟨h1, h2⟩
  · have e : seekM L T k = (true, (findK L T.young k).1, (findK L T.young k).2.2) := by unfold seekM; rw [if_pos (by omega)]
    exact .inl ⟨true, p, s, by rw [e], by rw [e]; exact h1, fun e => (by cases e), h2, h3, h4⟩
  · cases ho : T.old with
    | none =>
      have e : seekM L T k = (true, (findK L T.young k).1, (findK L T.young k).2.2) := by unfold seekM; rw [if_neg (by omega), ho]
      refine .inr ⟨by rw [e]; exact h1, ?_, h2, h1⟩
      rw [M_eq]
      unfold Tab.oldFulls
      rw [ho]
      exact lacks_noOne L h2
    | some o =>
      have e : seekM L T k = (false, (findK L o k).1, (findK L T.young k).2.2 + (findK L o k).2.2) := by unfold seekM; rw [if_neg (by omega), ho]
      rcases findK_cases L (h.ook o ho) k with ⟨p, s, g1, g2, g3, g4⟩ | ⟨g1, g2⟩
      · exact .inl ⟨false, p, s, by rw [e], by rw [e]; exact g1, fun _ => ⟨o, ho, h2, h1⟩, by unfold Tab.arr; rw [ho]; exact g2, g3, g4⟩
      · refine .inr ⟨by rw [e]; exact g1, ?_, h2, h1⟩
        rw [M_eq]
        unfold Tab.oldFulls
        rw [ho]
        intro q hq
        rcases List.mem_append.1 hq with hq | hq
        · exact lacks_noOne L g2 q hq
        · exact lacks_noOne L h2 q hq

theorem looked_bounds {T : Tab K V} (h : InvA L T) (k : K) : 0 ≤ (seekM L T k).2.2 ∧ (seekM L T k).2.2 ≤ T.young.length + (T.old.getD []).length := by
  have h1 := findK_bounds L h.yok k
  unfold seekM
  split
  · simp only; omega
  · split
    · simp only; omega
    · rename_i o ho
      have h2 := findK_bounds L (h.ook o ho) k
      rw [ho]; simp only [Option.getD_some]
      omega

/-- The pair that was hit, and the others. -/
theorem Hit.parts {T : Tab K V} {k : K} {b : Bool} {p : Nat} {s : Sl K V} (h : Hit L T k b p s) :
    ∃ x, L.cls k = some x ∧ L.cls s.key = some x ∧ valAt s.val (T.arr b) (seekM L T k).2.1 = s.val ∧ ∀ zv, valAt zv (T.arr b) (seekM L T k).2.1 = s.val := by
  obtain ⟨x, h1, h2⟩ := (L.eq_iff _ _).1 h.eq
  have : ∀ zv, valAt zv (T.arr b) (seekM L T k).2.1 = s.val := by
    intro zv
    unfold valAt
    rw [h.p_, show ((p : Nat) : Int).toNat = p from by omega, h.at_]
  exact ⟨x, h2, h1, this _, this⟩

theorem arr_true (T : Tab K V) : T.arr true = T.young := rfl
theorem arr_false {T : Tab K V} {o : List (Sl K V)} (h : T.old = some o) : T.arr false = o := by unfold Tab.arr; rw [h]; rfl

/-- The one who was hit stands at the head. -/
theorem Hit.perm {T : Tab K V} {k : K} {b : Bool} {p : Nat} {s : Sl K V} (h : Hit L T k b p s) (hi : InvA L T) (z : K) (zv : V) :
    (T.M L).Perm (cp L (s.key, s.val) :: (T.setArr b (buryM z zv (T.arr b) p)).M L) := by
  cases b with
  | true =>
    have hb := buryM_spec L hi.yok z zv (p := p) (s := s) h.at_ h.full
    unfold Tab.M Tab.pairs Tab.setArr
    simp only [if_true]
    rw [← List.map_cons]
    refine List.Perm.map _ ?_
    refine (List.Perm.append_left _ hb.fulls).trans ?_
    exact List.perm_middle
  | false =>
    obtain ⟨o, ho, _⟩ := h.old rfl
    have ha := h.at_
    rw [arr_false ho] at ha ⊢
    have hb := buryM_spec L (hi.ook o ho) z zv ha h.full
    unfold Tab.M Tab.pairs Tab.setArr
    simp only [Bool.false_eq_true, if_false]
    rw [← List.map_cons]
    refine List.Perm.map _ ?_
    unfold Tab.oldFulls
    rw [ho]
    exact List.Perm.append_right _ hb.fulls

inductive Answer (M : List (Option C × V)) (kc : Option C) (zv : V) : V × Bool → Prop where
  | hit (x : C) (v : V) (R : List (Option C × V)) (hk : kc = some x) (hp : M.Perm ((some x, v) :: R)) : Answer M kc zv (v, true)
  | miss (h : NoOne M kc) : Answer M kc zv (zv, false)

theorem get_spec {T : Tab K V} (h : InvA L T) (zv : V) (k : K) : Answer (T.M L) (L.cls k) zv (getM L zv T k) := by
  rcases seek_spec L h k with ⟨b, p, s, hh⟩ | ⟨h1, h2, _⟩
  · obtain ⟨x, hx1, hx2, _, hv⟩ := hh.parts
    have hp := hh.perm L h s.key s.val
    unfold getM
    rw [if_neg (by rw [hh.p_]; omega), hh.b_, hv]
    have hcp : cp L (s.key, s.val) = (some x, s.val) := by unfold cp; rw [hx2]
    rw [hcp] at hp
    exact .hit x _ _ hx1 hp
  · unfold getM
    rw [if_pos (by omega)]
    exact .miss h2

theorem setVal_eq {sl : List (Sl K V)} {p : Nat} {s : Sl K V} (h : sl[p]? = some s) (v : V) : setVal sl p v = sl.set p ⟨s.st, s.key, v⟩ := by
  unfold setVal; rw [h]

/-- What Put leaves, of a table that is as behind a step. -/
inductive PutRes (M M' : List (Option C × V)) (kc : Option C) (v zv : V) : V × Bool → Prop where
  | hit (x : C) (v0 : V) (R : List (Option C × V)) (hk : kc = some x) (hp : M.Perm ((some x, v0) :: R)) (hp' : M'.Perm ((some x, v) :: R)) : PutRes M M' kc v zv (v0, true)
  | miss (h : NoOne M kc) (hp' : M'.Perm ((kc, v) :: M)) : PutRes M M' kc v zv (zv, false)

theorem growTo_two {n m : Nat} (h : m ≤ n * 2) : (growTo 2 n m = n ∧ m ≤ n) ∨ (growTo 2 n m = n * 2 ∧ n < m) := by
  unfold growTo
  split
  · unfold growTo
    split
    · omega
    · exact .inr ⟨rfl, by omega⟩
  · exact .inl ⟨rfl, by omega⟩

theorem uniq_cons_miss {M : List (Option C × V)} {k : Option C} {v : V} (h : Uniq M) (hn : NoOne M k) : Uniq ((k, v) :: M) := by
  unfold Uniq at h ⊢
  rw [List.filterMap_cons]
  cases k with
  | none => exact h
  | some x =>
    simp only [List.nodup_cons]
    refine ⟨?_, h⟩
    intro hm
    obtain ⟨q, hq, e⟩ := List.mem_filterMap.1 hm
    exact hn q hq x rfl e

theorem fulls_replicate (n : Nat) (z : K) (zv : V) : fulls (List.replicate n (⟨0, z, zv⟩ : Sl K V)) = [] :=
  fulls_none fun p s h => by
    have := List.mem_of_getElem? h
    rw [List.eq_of_mem_replicate this]; simp

theorem putS_spec {T : Tab K V} (h : InvS L T) (z : K) (zv : V) (k : K) (v : V) :
    Inv L (putS L z zv T k v).1 ∧ PutRes (T.M L) ((putS L z zv T k v).1.M L) (L.cls k) v zv (putS L z zv T k v).2 := by
  have ha := h.a
  obtain ⟨e, he, hyl⟩ := h.ylen
  have hy8 : 8 ≤ T.young.length := by
    have := pow8 he
    have : 0 < 2 ^ e := Nat.pow_pos (by simp)
    omega
  rcases seek_spec L ha k with ⟨b, p, s, hh⟩ | ⟨h1, h2, h3, h4⟩
  · obtain ⟨x, hx1, hx2, _, hv⟩ := hh.parts
    have hp := hh.perm L ha z zv
    have hcp : cp L (s.key, s.val) = (some x, s.val) := by unfold cp; rw [hx2]
    rw [hcp] at hp
    cases b with
    | true =>
      have ep : putS L z zv T k v = ({ T with young := setVal T.young (seekM L T k).2.1.toNat v }, valAt zv T.young (seekM L T k).2.1, true) := by
        unfold putS; rw [if_pos (by rw [hh.p_]; omega), hh.b_]; rfl
      have hv' := hv zv
      rw [arr_true] at hv'
      have hat := hh.at_
      rw [arr_true] at hat
      rw [ep, hv']
      have esv : setVal T.young (seekM L T k).2.1.toNat v = T.young.set p ⟨s.st, s.key, v⟩ := by
        rw [hh.p_, show ((p : Nat) : Int).toNat = p from by omega]; exact setVal_eq hat v
      rw [esv]
      obtain ⟨g1, g2, g3, f1, f2, g4, g5⟩ := setVal_spec L ha.yok v hat hh.full
      have hMM : (Tab.M L { T with young := T.young.set p ⟨s.st, s.key, v⟩ }).Perm ((some x, v) :: (T.setArr true (buryM z zv (T.arr true) p)).M L) := by
        have hp0 : (T.M L).Perm ((some x, s.val) :: (T.oldFulls ++ (f1 ++ f2)).map (cp L)) := by
          unfold Tab.M Tab.pairs
          rw [g4, ← hcp, ← List.map_cons]
          refine List.Perm.map _ ?_
          rw [← List.append_assoc, ← List.append_assoc]
          exact List.perm_middle
        have hR : ((T.oldFulls ++ (f1 ++ f2)).map (cp L)).Perm ((T.setArr true (buryM z zv (T.arr true) p)).M L) := by
          exact (hp0.symm.trans hp).cons_inv
        refine List.Perm.trans ?_ (List.Perm.cons _ hR)
        unfold Tab.M Tab.pairs
        show (List.map (cp L) (T.oldFulls ++ fulls (T.young.set p ⟨s.st, s.key, v⟩))).Perm _
        rw [g5, show ((some x, v) : Option C × V) = cp L (s.key, v) from by unfold cp; rw [hx2], ← List.map_cons]
        refine List.Perm.map _ ?_
        rw [← List.append_assoc, ← List.append_assoc]
        exact List.perm_middle
      have hlen : (Tab.pairs { T with young := T.young.set p ⟨s.st, s.key, v⟩ }).length = T.pairs.length := by
        unfold Tab.pairs
        show (T.oldFulls ++ fulls (T.young.set p ⟨s.st, s.key, v⟩)).length = _
        rw [g4, g5]; simp
      refine ⟨⟨⟨e, he, by simpa using hyl⟩, g1, ?_, ?_, ?_⟩, .hit x _ _ hx1 hp hMM⟩
      · intro o ho
        obtain ⟨a1, a2, a3, a4, a5, a6, a7⟩ := h.olds o ho
        refine ⟨a1, by simpa using a2, a3, a4, a5, ?_, a7⟩
        rw [hlen]; simp only [List.length_set]; show _ + (_ - T.mark) + _ ≤ _; omega
      · intro ho
        have := h.none_ ho
        refine ⟨this.1, ?_⟩
        show 4 * usedN (T.young.set p _) ≤ _
        rw [g2]; simpa using this.2
      · have hu := h.uniq.perm hp
        refine Uniq.perm ?_ hMM.symm
        unfold Uniq at hu ⊢
        simpa [List.filterMap_cons] using hu
    | false =>
      obtain ⟨o, ho, hlk, hfy⟩ := hh.old rfl
      have ep : putS L z zv T k v = (⟨layM L T.young k v, some (buryM z zv (T.old.getD []) (seekM L T k).2.1.toNat), T.mark⟩, valAt zv (T.old.getD []) (seekM L T k).2.1, true) := by
        unfold putS; rw [if_pos (by rw [hh.p_]; omega), hh.b_]; rfl
      have hv' := hv zv
      have hat := hh.at_
      rw [arr_false ho] at hv' hat
      rw [ep, ho, Option.getD_some, hv', hh.p_, show ((p : Nat) : Int).toNat = p from by omega]
      obtain ⟨a1, a2, a3, a4, a5, a6, a7⟩ := h.olds o ho
      have hb := buryM_spec L a3 z zv hat hh.full
      have hpl : T.pairs.length = usedN o + usedN T.young := by
        unfold Tab.pairs Tab.oldFulls; rw [ho, List.length_append]; rfl
      have hbu := hb.used
      have hl := layM_spec L ha.yok v hlk (by omega)
      have hpn : (Tab.pairs (⟨layM L T.young k v, some (buryM z zv o p), T.mark⟩ : Tab K V)).length = T.pairs.length := by
        rw [hpl]
        show (fulls (buryM z zv o p) ++ fulls (layM L T.young k v)).length = _
        rw [List.length_append]
        have := hl.used
        unfold usedN at *
        omega
      have hM : (Tab.M L (⟨layM L T.young k v, some (buryM z zv o p), T.mark⟩ : Tab K V)).Perm ((some x, v) :: (T.setArr false (buryM z zv (T.arr false) p)).M L) := by
        rw [show ((some x, v) : Option C × V) = cp L (k, v) from by unfold cp; rw [hx1]]
        unfold Tab.M
        rw [← List.map_cons]
        refine List.Perm.map _ ?_
        rw [arr_false ho]
        show (fulls (buryM z zv o p) ++ fulls (layM L T.young k v)).Perm ((k, v) :: (fulls (buryM z zv o p) ++ fulls T.young))
        exact (List.Perm.append_left _ hl.fulls).trans List.perm_middle
      refine ⟨⟨⟨e, he, by rw [← hyl]; exact hl.len⟩, hl.ok, ?_, fun e => (by cases e), ?_⟩, .hit x _ _ hx1 hp hM⟩
      · intro o1 h1
        cases h1
        have hll := hl.len
        have hbl := hb.len
        refine ⟨by obtain ⟨e, q1, q2⟩ := a1; exact ⟨e, q1, by rw [← q2]; exact hb.len⟩, by show _ ≤ (layM L T.young k v).length; omega, hb.ok, a4, by show T.mark < _; omega, ?_, ?_⟩
        · rw [hpn]; show _ + (_ - T.mark) + 8 ≤ 5 * (layM L T.young k v).length; omega
        · intro q t hq ht
          unfold buryM at ht
          rw [List.getElem?_set] at ht
          split at ht
          · split at ht
            · cases ht; simp
            · cases ht
          · exact a7 q t hq ht
      · have hu := h.uniq.perm hp
        refine Uniq.perm ?_ hM.symm
        unfold Uniq at hu ⊢
        simpa [List.filterMap_cons] using hu
  · have ep : putS L z zv T k v = (growM z zv { T with young := layM L T.young k v }, zv, false) := by
      unfold putS; rw [if_neg (by omega)]
    rw [ep]
    have hroom : usedN T.young < T.young.length := by
      cases ho : T.old with
      | none => have := (h.none_ ho).2; omega
      | some o =>
        obtain ⟨a1, a2, a3, a4, a5, a6, a7⟩ := h.olds o ho
        have hpl : T.pairs.length = usedN o + usedN T.young := by
          unfold Tab.pairs Tab.oldFulls; rw [ho, List.length_append]; rfl
        omega
    have hl := layM_spec L ha.yok v h3 hroom
    have hll := hl.len
    have hlu := hl.used
    have hM1 : (Tab.M L { T with young := layM L T.young k v }).Perm ((L.cls k, v) :: T.M L) := by
      rw [show ((L.cls k, v) : Option C × V) = cp L (k, v) from rfl]
      unfold Tab.M
      rw [← List.map_cons]
      refine List.Perm.map _ ?_
      show (T.oldFulls ++ fulls (layM L T.young k v)).Perm ((k, v) :: (T.oldFulls ++ fulls T.young))
      exact (List.Perm.append_left _ hl.fulls).trans List.perm_middle
    have hu1 : Uniq (Tab.M L { T with young := layM L T.young k v }) := (uniq_cons_miss h.uniq h2).perm hM1.symm
    have hp1 : (Tab.pairs { T with young := layM L T.young k v }).length = T.pairs.length + 1 := by
      have := hM1.length_eq
      unfold Tab.M at this
      simpa using this
    unfold growM
    cases ho : T.old with
    | some o =>
      simp only
      obtain ⟨a1, a2, a3, a4, a5, a6, a7⟩ := h.olds o ho
      have hp1' : (Tab.pairs (⟨layM L T.young k v, some o, T.mark⟩ : Tab K V)).length = T.pairs.length + 1 := by rw [← hp1, ← ho]
      rw [ho] at hM1 hu1
      refine ⟨⟨⟨e, he, by rw [← hyl]; exact hl.len⟩, hl.ok, ?_, fun e => (by cases e), hu1⟩, .miss h2 hM1⟩
      intro o1 h1
      cases h1
      refine ⟨a1, by show _ ≤ (layM L T.young k v).length; omega, a3, a4, a5, ?_, a7⟩
      rw [hp1']; show _ + (_ - T.mark) + 8 ≤ 5 * (layM L T.young k v).length; omega
    | none =>
      simp only
      have h0 := h.none_ ho
      have hpl : T.pairs.length = usedN T.young := by
        unfold Tab.pairs Tab.oldFulls; rw [ho, List.nil_append]; rfl
      rw [ho] at hM1 hu1
      rw [ho] at hp1
      split
      · rename_i hle
        refine ⟨⟨⟨e, he, by rw [← hyl]; exact hl.len⟩, hl.ok, fun o h => (by cases h), fun _ => ⟨h0.1, ?_⟩, hu1⟩, .miss h2 hM1⟩
        show 4 * usedN (layM L T.young k v) ≤ 3 * (layM L T.young k v).length
        have : 4 * (usedN (layM L T.young k v) + tombN (layM L T.young k v)) ≤ 3 * (layM L T.young k v).length := hle
        omega
      · rename_i hgt
        have hlm : lenM (⟨layM L T.young k v, none, T.mark⟩ : Tab K V) = T.pairs.length + 1 := hp1
        rw [hlm]
        have hpg : (Tab.pairs (⟨List.replicate (growTo 2 (layM L T.young k v).length (2 * (T.pairs.length + 1) + 2)) ⟨0, z, zv⟩, some (layM L T.young k v), 0⟩ : Tab K V)) = fulls (layM L T.young k v) := by
          unfold Tab.pairs Tab.oldFulls; simp only; rw [fulls_replicate, List.append_nil]
        have hpy : (Tab.pairs (⟨layM L T.young k v, none, T.mark⟩ : Tab K V)) = fulls (layM L T.young k v) := rfl
        have hMg : Tab.M L (⟨List.replicate (growTo 2 (layM L T.young k v).length (2 * (T.pairs.length + 1) + 2)) ⟨0, z, zv⟩, some (layM L T.young k v), 0⟩ : Tab K V) = Tab.M L (⟨layM L T.young k v, none, T.mark⟩ : Tab K V) := by
          unfold Tab.M; rw [hpg, hpy]
        have hg := growTo_two (n := (layM L T.young k v).length) (m := 2 * (T.pairs.length + 1) + 2) (by omega)
        have hple : T.pairs.length + 1 = (fulls (layM L T.young k v)).length := by rw [← hpy]; exact hp1.symm
        refine ⟨⟨?_, ⟨?_, ?_⟩, ?_, fun e => (by cases e), by rw [hMg]; exact hu1⟩, .miss h2 (by rw [hMg]; exact hM1)⟩
        · simp only [List.length_replicate]
          rcases hg with ⟨g, _⟩ | ⟨g, _⟩
          · exact ⟨e, he, by rw [g]; omega⟩
          · exact ⟨e + 1, by omega, by rw [g, Nat.pow_succ]; omega⟩
        · intro s hs; rw [List.eq_of_mem_replicate hs]; simp
        · intro q s hs h1
          have := List.mem_of_getElem? hs
          rw [List.eq_of_mem_replicate this] at h1; cases h1
        · intro o1 h1
          cases h1
          have hlo : 8 ≤ (layM L T.young k v).length := by omega
          refine ⟨⟨e, he, by omega⟩, ?_, hl.ok, rfl, by show 0 < _; omega, ?_, fun q s hq => (by cases hq)⟩
          · simp only [List.length_replicate]; rcases hg with ⟨g, _⟩ | ⟨g, _⟩ <;> rw [g] <;> omega
          · rw [hpg, ← hple]
            simp only [List.length_replicate]
            show 8 * (T.pairs.length + 1) + (_ - 0) + 8 ≤ _
            rcases hg with ⟨g, _⟩ | ⟨g, _⟩ <;> rw [g] <;> omega

/-- What Del leaves. -/
inductive DelRes (M M' : List (Option C × V)) (kc : Option C) (zv : V) : V × Bool → Prop where
  | hit (x : C) (v0 : V) (R : List (Option C × V)) (hk : kc = some x) (hp : M.Perm ((some x, v0) :: R)) (hp' : M'.Perm R) : DelRes M M' kc zv (v0, true)
  | miss (h : NoOne M kc) (hp' : M'.Perm M) : DelRes M M' kc zv (zv, false)

theorem delS_spec {T : Tab K V} (h : InvS L T) (z : K) (zv : V) (k : K) :
    Inv L (delS L z zv T k).1 ∧ DelRes (T.M L) ((delS L z zv T k).1.M L) (L.cls k) zv (delS L z zv T k).2 := by
  have ha := h.a
  rcases seek_spec L ha k with ⟨b, p, s, hh⟩ | ⟨h1, h2, h3, h4⟩
  · obtain ⟨x, hx1, hx2, _, hv⟩ := hh.parts
    have hp := hh.perm L ha z zv
    have hcp : cp L (s.key, s.val) = (some x, s.val) := by unfold cp; rw [hx2]
    rw [hcp] at hp
    have ep : delS L z zv T k = (T.setArr b (buryM z zv (T.arr b) p), s.val, true) := by
      unfold delS
      rw [if_neg (by rw [hh.p_]; omega), hh.b_, hv, hh.p_, show ((p : Nat) : Int).toNat = p from by omega]
    rw [ep]
    refine ⟨?_, .hit x _ _ hx1 hp (List.Perm.refl _)⟩
    have hu : Uniq ((T.setArr b (buryM z zv (T.arr b) p)).M L) := by
      have hu := h.uniq.perm hp
      unfold Uniq at hu ⊢
      rw [List.filterMap_cons] at hu
      simp only [List.nodup_cons] at hu
      exact hu.2
    have hlen : (T.setArr b (buryM z zv (T.arr b) p)).pairs.length + 1 = T.pairs.length := by
      have := hp.length_eq
      unfold Tab.M at this
      simpa using this.symm
    cases b with
    | true =>
      have hat := hh.at_
      rw [arr_true] at hat
      have hb := buryM_spec L ha.yok z zv hat hh.full
      rw [arr_true] at hu hlen ⊢
      have hbl := hb.len
      have hbu := hb.used
      refine ⟨?_, hb.ok, ?_, ?_, hu⟩
      · obtain ⟨e, he, hyl⟩ := h.ylen; exact ⟨e, he, by rw [← hyl]; exact hb.len⟩
      · intro o ho
        obtain ⟨a1, a2, a3, a4, a5, a6, a7⟩ := h.olds o ho
        refine ⟨a1, by show _ ≤ (buryM z zv T.young p).length; omega, a3, a4, a5, ?_, a7⟩
        show 8 * (T.setArr true _).pairs.length + (_ - T.mark) + 8 ≤ 5 * (buryM z zv T.young p).length
        omega
      · intro ho
        have := h.none_ ho
        refine ⟨this.1, ?_⟩
        show 4 * usedN (buryM z zv T.young p) ≤ 3 * (buryM z zv T.young p).length
        omega
    | false =>
      obtain ⟨o, ho, hlk, hfy⟩ := hh.old rfl
      have hat := hh.at_
      rw [arr_false ho] at hat
      rw [arr_false ho] at hu hlen ⊢
      obtain ⟨a1, a2, a3, a4, a5, a6, a7⟩ := h.olds o ho
      have hb := buryM_spec L a3 z zv hat hh.full
      have hbl := hb.len
      refine ⟨h.ylen, h.yok, ?_, fun e => (by cases e), hu⟩
      intro o1 h1
      cases h1
      refine ⟨by obtain ⟨e, q1, q2⟩ := a1; exact ⟨e, q1, by rw [← q2]; exact hb.len⟩, by show _ ≤ T.young.length; omega, hb.ok, a4, by show T.mark < _; omega, ?_, ?_⟩
      · show 8 * (T.setArr false _).pairs.length + (_ - T.mark) + 8 ≤ 5 * T.young.length
        omega
      · intro q t hq ht
        unfold buryM at ht
        rw [List.getElem?_set] at ht
        split at ht
        · split at ht
          · cases ht; simp
          · cases ht
        · exact a7 q t hq ht
  · have ep : delS L z zv T k = (T, zv, false) := by
      unfold delS; rw [if_pos (by omega)]
    rw [ep]
    exact ⟨h.inv, .miss h2 (List.Perm.refl _)⟩

end
end Go.Proofs.Ytaomaeobgfeoiaa.Pl
