/- The table's plain law, second part: lay, bury, step, Put, Del, Get over both arrays. No program. -/
import Derived.Test.YtaomaeobgfeoiaaTa
namespace Go.Proofs.Ytaomaeobgfeoiaa.Pl

/-- What keys are held against each other by: their class (none: unlike themselves), their hash. -/
structure KeyLaw (K C : Type) where
  cls : K → Option C
  eqK : K → K → Bool
  hash : K → Nat
  eq_iff : ∀ a b, eqK a b = true ↔ ∃ x, cls a = some x ∧ cls b = some x
  hash_eq : ∀ a b, eqK a b = true → hash a = hash b

section
variable {K V C : Type} (L : KeyLaw K C)

def findK (sl : List (Sl K V)) (k : K) : Int × Int × Int := findM (fun x => L.eqK x k) sl (L.hash k)

/-- lay -/
def layM (sl : List (Sl K V)) (k : K) (v : V) : List (Sl K V) :=
  if (findK L sl k).2.1 < 0 then sl else sl.set (findK L sl k).2.1.toNat ⟨1, k, v⟩

def buryM (z : K) (zv : V) (sl : List (Sl K V)) (p : Nat) : List (Sl K V) := sl.set p ⟨2, z, zv⟩

def cp (p : K × V) : Option C × V := (L.cls p.1, p.2)

/-- An array in order. -/
structure ArrOk (sl : List (Sl K V)) : Prop where
  st : ∀ s ∈ sl, s.st ≤ 2
  pi : PI L.hash sl

/-- No full slot has this key. -/
def Lacks (sl : List (Sl K V)) (k : K) : Prop := ∀ (p : Nat) (s : Sl K V), sl[p]? = some s → s.st = 1 → L.eqK s.key k = false

theorem findK_bounds {sl : List (Sl K V)} (h : ArrOk L sl) (k : K) : 0 ≤ (findK L sl k).2.2 ∧ (findK L sl k).2.2 ≤ sl.length := (findM_spec _ sl _ h.st).1

theorem findK_cases {sl : List (Sl K V)} (h : ArrOk L sl) (k : K) :
    (∃ p s, (findK L sl k).1 = ((p : Nat) : Int) ∧ sl[p]? = some s ∧ s.st = 1 ∧ L.eqK s.key k = true) ∨
    ((findK L sl k).1 = -1 ∧ Lacks L sl k) := by
  rcases (findM_spec (fun x => L.eqK x k) sl (L.hash k) h.st).2 with ⟨p, h1, ⟨s, h2, h3, h4⟩⟩ | ⟨h1, hm⟩
  · exact .inl ⟨p, s, h1, h2, h3, h4⟩
  · exact .inr ⟨h1, hm.nowhere h.pi (fun a ha => L.hash_eq a k ha)⟩

/-- Where it lacks, there is a place, if not all slots are full. -/
theorem findK_place {sl : List (Sl K V)} (h : ArrOk L sl) {k : K} (h1 : (findK L sl k).1 < 0) (hu : usedN sl < sl.length) :
    ∃ q s, (findK L sl k).2.1 = ((q : Nat) : Int) ∧ sl[q]? = some s ∧ s.st ≠ 1 ∧
      ∀ i, i < sl.length → way sl.length (L.hash k) i = q → ∀ j, j < i → ∀ t, sl[way sl.length (L.hash k) j]? = some t → t.st ≠ 0 := by
  rcases (findM_spec (fun x => L.eqK x k) sl (L.hash k) h.st).2 with ⟨p, h2, _⟩ | ⟨_, hm⟩
  · unfold findK at h1; omega
  · exact hm.place hu

theorem lacks_neg {sl : List (Sl K V)} (h : ArrOk L sl) {k : K} (hl : Lacks L sl k) : (findK L sl k).1 = -1 := by
  rcases findK_cases L h k with ⟨p, s, _, h2, h3, h4⟩ | ⟨h1, _⟩
  · rw [hl p s h2 h3] at h4; cases h4
  · exact h1

theorem mem_set {α : Type} {l : List α} {p : Nat} {a b : α} (h : b ∈ l.set p a) : b ∈ l ∨ b = a := List.mem_or_eq_of_mem_set h

structure Laid (sl : List (Sl K V)) (k : K) (v : V) (sl' : List (Sl K V)) : Prop where
  at_ : ∃ (q : Nat) (s : Sl K V), (findK L sl k).2.1 = ((q : Nat) : Int) ∧ sl[q]? = some s ∧ s.st ≠ 1 ∧ s.st ≤ 2 ∧ sl' = sl.set q ⟨1, k, v⟩
  ok : ArrOk L sl'
  fulls : (fulls sl').Perm ((k, v) :: fulls sl)
  used : usedN sl' = usedN sl + 1
  len : sl'.length = sl.length

theorem layM_spec {sl : List (Sl K V)} (h : ArrOk L sl) {k : K} (v : V) (hl : Lacks L sl k) (hu : usedN sl < sl.length) : Laid L sl k v (layM L sl k v) := by
  obtain ⟨q, s, h1, h2, h3, h4⟩ := findK_place L h (by rw [lacks_neg L h hl]; omega) hu
  have e : layM L sl k v = sl.set q ⟨1, k, v⟩ := by unfold layM; rw [h1, if_neg (by omega)]; rfl
  rw [e]
  have hs2 := h.st s (List.mem_of_getElem? h2)
  refine ⟨⟨q, s, h1, h2, h3, hs2, rfl⟩, ⟨?_, ?_⟩, ?_, ?_, by simp⟩
  · intro t ht
    rcases mem_set ht with ht | rfl
    · exact h.st t ht
    · simp
  · exact PI_set h.pi (by simp) (fun _ => h4)
  · exact fulls_lay h2 h3 rfl
  · exact usedN_lay h2 h3 rfl

structure Buried (sl : List (Sl K V)) (p : Nat) (s : Sl K V) (sl' : List (Sl K V)) : Prop where
  ok : ArrOk L sl'
  fulls : (fulls sl).Perm ((s.key, s.val) :: fulls sl')
  used : usedN sl = usedN sl' + 1
  tombs : tombN sl' = tombN sl + 1
  len : sl'.length = sl.length

theorem buryM_spec {sl : List (Sl K V)} (h : ArrOk L sl) (z : K) (zv : V) {p : Nat} {s : Sl K V} (hp : sl[p]? = some s) (hs : s.st = 1) : Buried L sl p s (buryM z zv sl p) := by
  refine ⟨⟨?_, ?_⟩, ?_, ?_, ?_, by simp [buryM]⟩
  · intro t ht
    rcases mem_set ht with ht | rfl
    · exact h.st t ht
    · simp
  · exact PI_set h.pi (by simp) (fun e => by cases e)
  · exact fulls_bury hp hs (by simp)
  · exact usedN_bury hp hs (by simp)
  · have := tombN_set (s' := (⟨2, z, zv⟩ : Sl K V)) hp
    simp only [hs, show ¬ (1 : Nat) = 2 from by omega, if_false, if_true] at this
    simp only [buryM]
    omega

/-- A value is put in the place of another. -/
theorem setVal_spec {sl : List (Sl K V)} (h : ArrOk L sl) (v : V) {p : Nat} {s : Sl K V} (hp : sl[p]? = some s) (hs : s.st = 1) :
    ArrOk L (sl.set p ⟨s.st, s.key, v⟩) ∧ usedN (sl.set p ⟨s.st, s.key, v⟩) = usedN sl ∧ tombN (sl.set p ⟨s.st, s.key, v⟩) = tombN sl ∧
    ∃ f1 f2, fulls sl = f1 ++ (s.key, s.val) :: f2 ∧ fulls (sl.set p ⟨s.st, s.key, v⟩) = f1 ++ (s.key, v) :: f2 := by
  have hpl : p < sl.length := by
    by_cases hlt : p < sl.length
    · exact hlt
    · rw [List.getElem?_eq_none (by omega)] at hp; cases hp
  refine ⟨⟨?_, ?_⟩, ?_, ?_, ?_⟩
  · intro t ht
    rcases mem_set ht with ht | rfl
    · exact h.st t ht
    · show s.st ≤ 2; omega
  · refine PI_set h.pi (by show s.st ≠ 0; omega) (fun _ i hi hw j hj t ht => ?_)
    exact h.pi p s hp hs i hi hw j hj t ht
  · exact usedN_keep hp hs hs
  · have := tombN_set (s' := (⟨s.st, s.key, v⟩ : Sl K V)) hp
    simp only at this
    omega
  · obtain ⟨l1, l2, e1, _, e3⟩ := split_at sl p s hp
    refine ⟨fulls l1, fulls l2, ?_, ?_⟩
    · rw [e1, fulls_append, fulls_cons_full _ _ hs]
    · rw [e3, fulls_append, fulls_cons_full ⟨s.st, s.key, v⟩ _ hs]

/-! ### the table -/
structure Tab (K V : Type) where
  young : List (Sl K V)
  old : Option (List (Sl K V))
  mark : Nat

def Tab.oldFulls (T : Tab K V) : List (K × V) := match T.old with | none => [] | some o => fulls o
def Tab.pairs (T : Tab K V) : List (K × V) := T.oldFulls ++ fulls T.young
/-- What stands in it, by the keys' classes. -/
def Tab.M (T : Tab K V) : List (Option C × V) := T.pairs.map (cp L)

/-- one slot of the elder array is gone through -/
def moveOne (z : K) (zv : V) (x : List (Sl K V) × List (Sl K V) × Nat) : List (Sl K V) × List (Sl K V) × Nat :=
  match x.2.1[x.2.2]? with
  | some s => if s.st = 1 then (layM L x.1 s.key s.val, buryM z zv x.2.1 x.2.2, x.2.2 + 1) else (x.1, x.2.1, x.2.2 + 1)
  | none => (x.1, x.2.1, x.2.2 + 1)

def moveN (z : K) (zv : V) : Nat → List (Sl K V) × List (Sl K V) × Nat → List (Sl K V) × List (Sl K V) × Nat
  | 0, x => x
  | n + 1, x => moveN z zv n (moveOne L z zv x)

def Tab.ended (y o : List (Sl K V)) (m : Nat) : Tab K V := if o.length ≤ m then ⟨y, none, 0⟩ else ⟨y, some o, m⟩

def stepM (z : K) (zv : V) (T : Tab K V) : Tab K V :=
  match T.old with
  | none => T
  | some o => Tab.ended (moveN L z zv 8 (T.young, o, T.mark)).1 (moveN L z zv 8 (T.young, o, T.mark)).2.1 (moveN L z zv 8 (T.young, o, T.mark)).2.2

def lenM (T : Tab K V) : Nat := T.pairs.length

def growTo : Nat → Nat → Nat → Nat
  | 0, n, _ => n
  | f + 1, n, m => if n < m then growTo f (n * 2) m else n

def growM (z : K) (zv : V) (T : Tab K V) : Tab K V :=
  match T.old with
  | some _ => T
  | none => if 4 * (usedN T.young + tombN T.young) ≤ 3 * T.young.length then T
    else ⟨List.replicate (growTo 2 T.young.length (2 * lenM T + 2)) ⟨0, z, zv⟩, some T.young, 0⟩

/-- seek: whether in the younger one, where, how many were looked at -/
def seekM (T : Tab K V) (k : K) : Bool × Int × Int :=
  if 0 ≤ (findK L T.young k).1 then (true, (findK L T.young k).1, (findK L T.young k).2.2)
  else match T.old with
    | none => (true, (findK L T.young k).1, (findK L T.young k).2.2)
    | some o => (false, (findK L o k).1, (findK L T.young k).2.2 + (findK L o k).2.2)

def Tab.arr (T : Tab K V) (b : Bool) : List (Sl K V) := if b then T.young else T.old.getD []
def Tab.setArr (T : Tab K V) (b : Bool) (sl : List (Sl K V)) : Tab K V := if b then { T with young := sl } else { T with old := some sl }

def valAt (zv : V) (sl : List (Sl K V)) (p : Int) : V := match sl[p.toNat]? with | some s => s.val | none => zv

def getM (zv : V) (T : Tab K V) (k : K) : V × Bool :=
  if (seekM L T k).2.1 < 0 then (zv, false) else (valAt zv (T.arr (seekM L T k).1) (seekM L T k).2.1, true)

def setVal (sl : List (Sl K V)) (p : Nat) (v : V) : List (Sl K V) := match sl[p]? with | some s => sl.set p ⟨s.st, s.key, v⟩ | none => sl

def putS (z : K) (zv : V) (T : Tab K V) (k : K) (v : V) : Tab K V × V × Bool :=
  if 0 ≤ (seekM L T k).2.1 then
    if (seekM L T k).1 then ({ T with young := setVal T.young (seekM L T k).2.1.toNat v }, valAt zv T.young (seekM L T k).2.1, true)
    else (⟨layM L T.young k v, some (buryM z zv (T.old.getD []) (seekM L T k).2.1.toNat), T.mark⟩, valAt zv (T.old.getD []) (seekM L T k).2.1, true)
  else (growM z zv { T with young := layM L T.young k v }, zv, false)

def putM (z : K) (zv : V) (T : Tab K V) (k : K) (v : V) : Tab K V × V × Bool := putS L z zv (stepM L z zv T) k v

def delS (z : K) (zv : V) (T : Tab K V) (k : K) : Tab K V × V × Bool :=
  if (seekM L T k).2.1 < 0 then (T, zv, false)
  else (T.setArr (seekM L T k).1 (buryM z zv (T.arr (seekM L T k).1) (seekM L T k).2.1.toNat), valAt zv (T.arr (seekM L T k).1) (seekM L T k).2.1, true)

def delM (z : K) (zv : V) (T : Tab K V) (k : K) : Tab K V × V × Bool := delS L z zv (stepM L z zv T) k

/-! ### what must hold of a table -/
def Uniq (l : List (Option C × V)) : Prop := (l.filterMap (·.1)).Nodup

structure Inv (T : Tab K V) : Prop where
  ylen : ∃ e, 3 ≤ e ∧ T.young.length = 2 ^ e
  yok : ArrOk L T.young
  olds : ∀ o, T.old = some o → (∃ e, 3 ≤ e ∧ o.length = 2 ^ e) ∧ o.length ≤ T.young.length ∧ ArrOk L o ∧ T.mark % 8 = 0 ∧ T.mark < o.length ∧
    8 * T.pairs.length + (o.length - T.mark) + 8 ≤ 5 * T.young.length ∧ (∀ (p : Nat) (s : Sl K V), p < T.mark → o[p]? = some s → s.st ≠ 1)
  none_ : T.old = none → T.mark = 0 ∧ 4 * usedN T.young ≤ 3 * T.young.length
  uniq : Uniq (T.M L)


/-- As behind a step: there is room for one more. -/
structure InvS (T : Tab K V) : Prop where
  ylen : ∃ e, 3 ≤ e ∧ T.young.length = 2 ^ e
  yok : ArrOk L T.young
  olds : ∀ o, T.old = some o → (∃ e, 3 ≤ e ∧ o.length = 2 ^ e) ∧ o.length ≤ T.young.length ∧ ArrOk L o ∧ T.mark % 8 = 0 ∧ T.mark < o.length ∧
    8 * T.pairs.length + (o.length - T.mark) + 16 ≤ 5 * T.young.length ∧ (∀ (p : Nat) (s : Sl K V), p < T.mark → o[p]? = some s → s.st ≠ 1)
  none_ : T.old = none → T.mark = 0 ∧ 4 * usedN T.young ≤ 3 * T.young.length
  uniq : Uniq (T.M L)

theorem InvS.inv {T : Tab K V} (h : InvS L T) : Inv L T :=
  ⟨h.ylen, h.yok, fun o ho => by obtain ⟨a, b, c, d, e, f, g⟩ := h.olds o ho; exact ⟨a, b, c, d, e, by omega, g⟩, h.none_, h.uniq⟩

theorem Uniq.perm {l l' : List (Option C × V)} (h : Uniq l) (p : l.Perm l') : Uniq l' := (p.filterMap (fun q : Option C × V => q.1)).nodup_iff.1 h

theorem Uniq.cons {x : C} {v : V} {l : List (Option C × V)} (h : Uniq ((some x, v) :: l)) : ∀ q ∈ l, q.1 ≠ some x := by
  unfold Uniq at h
  rw [List.filterMap_cons] at h
  simp only [List.nodup_cons, List.mem_filterMap] at h
  exact fun q hq e => h.1 ⟨q, hq, e⟩

theorem mem_fulls {sl : List (Sl K V)} {p : Nat} {s : Sl K V} (h : sl[p]? = some s) (hs : s.st = 1) : (s.key, s.val) ∈ fulls sl := by
  refine List.mem_filterMap.2 ⟨s, List.mem_of_getElem? h, ?_⟩
  simp [fullOf, hs]

theorem of_mem_fulls {sl : List (Sl K V)} {q : K × V} (h : q ∈ fulls sl) : ∃ (p : Nat) (s : Sl K V), sl[p]? = some s ∧ s.st = 1 ∧ q = (s.key, s.val) := by
  obtain ⟨s, hs, e⟩ := List.mem_filterMap.1 h
  obtain ⟨p, hp, rfl⟩ := List.getElem_of_mem hs
  refine ⟨p, sl[p], List.getElem?_eq_getElem hp, ?_⟩
  unfold fullOf at e
  split at e
  · exact ⟨‹_›, by cases e; rfl⟩
  · cases e

/-- Of two lists that are unlike throughout, a key that is full in the one is nowhere in the other. -/
theorem lacks_of_uniq {a : List (K × V)} {sl : List (Sl K V)} {k : K} {v : V} (h : Uniq ((a ++ fulls sl).map (cp L))) (hm : (k, v) ∈ a) : Lacks L sl k := by
  intro p s hp hs
  by_cases he : L.eqK s.key k = true
  · exfalso
    obtain ⟨x, h1, h2⟩ := (L.eq_iff _ _).1 he
    unfold Uniq at h
    rw [List.map_append, List.filterMap_append, List.nodup_append] at h
    refine h.2.2 x ?_ x ?_ rfl
    · exact List.mem_filterMap.2 ⟨cp L (k, v), List.mem_map_of_mem hm, h2⟩
    · exact List.mem_filterMap.2 ⟨cp L (s.key, s.val), List.mem_map_of_mem (mem_fulls hp hs), h1⟩
  · simpa using he

/-- What is kept while the elder array is gone through. -/
structure Moving (y0 o0 : List (Sl K V)) (x : List (Sl K V) × List (Sl K V) × Nat) : Prop where
  yok : ArrOk L x.1
  ook : ArrOk L x.2.1
  ylen : x.1.length = y0.length
  olen : x.2.1.length = o0.length
  perm : (fulls x.2.1 ++ fulls x.1).Perm (fulls o0 ++ fulls y0)
  below : ∀ (p : Nat) (s : Sl K V), p < x.2.2 → x.2.1[p]? = some s → s.st ≠ 1

theorem moveOne_keeps (z : K) (zv : V) {y0 o0 : List (Sl K V)} (hu : Uniq ((fulls o0 ++ fulls y0).map (cp L))) (hr : (fulls o0 ++ fulls y0).length ≤ y0.length)
    {x : List (Sl K V) × List (Sl K V) × Nat} (h : Moving L y0 o0 x) : Moving L y0 o0 (moveOne L z zv x) ∧ (moveOne L z zv x).2.2 = x.2.2 + 1 := by
  obtain ⟨y, o, m⟩ := x
  obtain ⟨yok, ook, ylen, olen, perm, below⟩ := h
  simp only at yok ook ylen olen perm below
  unfold moveOne
  simp only
  split
  · rename_i s hs
    split
    · rename_i h1
      have hu' : Uniq ((fulls o ++ fulls y).map (cp L)) := hu.perm (perm.symm.map _)
      have hl : Lacks L y s.key := lacks_of_uniq L hu' (mem_fulls hs h1)
      have hb := buryM_spec L ook z zv hs h1
      have hlen := perm.length_eq
      have e1 : (fulls o).length = usedN o := rfl
      have e2 : (fulls y).length = usedN y := rfl
      have e3 := hb.used
      rw [List.length_append, e1, e2] at hlen
      have hy := layM_spec L yok (v := s.val) hl (by omega)
      refine ⟨⟨hy.ok, hb.ok, by rw [← ylen]; exact hy.len, by rw [← olen]; exact hb.len, ?_, ?_⟩, rfl⟩
      · refine List.Perm.trans ?_ perm
        refine ((List.Perm.append_left _ hy.fulls).trans List.perm_middle).trans ?_
        exact (List.Perm.append_right _ hb.fulls.symm)
      · intro p t hp ht
        simp only at hp ht
        unfold buryM at ht
        rw [List.getElem?_set] at ht
        split at ht
        · split at ht
          · cases ht; simp
          · cases ht
        · exact below p t (by omega) ht
    · rename_i h1
      refine ⟨⟨yok, ook, ylen, olen, perm, ?_⟩, rfl⟩
      intro p t hp ht
      simp only at hp ht
      by_cases e : p = m
      · subst e; rw [hs] at ht; cases ht; exact h1
      · exact below p t (by omega) ht
  · rename_i hn
    refine ⟨⟨yok, ook, ylen, olen, perm, ?_⟩, rfl⟩
    intro p t hp ht
    simp only at hp ht
    by_cases e : p = m
    · subst e; rw [hn] at ht; cases ht
    · exact below p t (by omega) ht

theorem moveN_keeps (z : K) (zv : V) {y0 o0 : List (Sl K V)} (hu : Uniq ((fulls o0 ++ fulls y0).map (cp L))) (hr : (fulls o0 ++ fulls y0).length ≤ y0.length) : ∀ (n : Nat)
    {x : List (Sl K V) × List (Sl K V) × Nat}, Moving L y0 o0 x → Moving L y0 o0 (moveN L z zv n x) ∧ (moveN L z zv n x).2.2 = x.2.2 + n
  | 0, _, h => ⟨h, rfl⟩
  | n + 1, x, h => by
    obtain ⟨h1, h2⟩ := moveOne_keeps L z zv hu hr h
    obtain ⟨h3, h4⟩ := moveN_keeps z zv hu hr n h1
    exact ⟨h3, by show (moveN L z zv n _).2.2 = _; rw [h4, h2]; omega⟩

theorem fulls_none {sl : List (Sl K V)} (h : ∀ (p : Nat) (s : Sl K V), sl[p]? = some s → s.st ≠ 1) : fulls sl = [] := by
  cases hf : fulls sl with
  | nil => rfl
  | cons q l =>
    obtain ⟨p, s, h1, h2, _⟩ := of_mem_fulls (q := q) (by rw [hf]; simp : q ∈ fulls sl)
    exact absurd h2 (h p s h1)

theorem pow8 {e : Nat} (h : 3 ≤ e) : 2 ^ e % 8 = 0 := by
  obtain ⟨d, rfl⟩ := Nat.exists_eq_add_of_le h
  rw [Nat.pow_add]; omega

theorem step_spec (z : K) (zv : V) {T : Tab K V} (h : Inv L T) : InvS L (stepM L z zv T) ∧ (stepM L z zv T).pairs.Perm T.pairs ∧ (stepM L z zv T).young.length = T.young.length ∧
    (∀ o, T.old = some o → (T.mark + 8 < o.length → (stepM L z zv T).mark = T.mark + 8 ∧ ∃ o', (stepM L z zv T).old = some o' ∧ o'.length = o.length) ∧ (o.length ≤ T.mark + 8 → (stepM L z zv T).old = none)) := by
  unfold stepM
  split
  · rename_i ho
    exact ⟨⟨h.ylen, h.yok, fun o e => (by rw [ho] at e; cases e), h.none_, h.uniq⟩, List.Perm.refl _, rfl, fun o e => (by rw [ho] at e; cases e)⟩
  · rename_i o ho
    obtain ⟨⟨e, he, hol⟩, h2, h3, h4, h5, h6, h7⟩ := h.olds o ho
    have hp : T.pairs = fulls o ++ fulls T.young := by unfold Tab.pairs Tab.oldFulls; rw [ho]
    have hu : Uniq ((fulls o ++ fulls T.young).map (cp L)) := by have := h.uniq; unfold Tab.M at this; rwa [hp] at this
    rw [hp] at h6
    have hyl : 8 ≤ T.young.length := by
      have := pow8 he; omega
    obtain ⟨hm, hmk⟩ := moveN_keeps L z zv hu (by omega) 8 (x := (T.young, o, T.mark)) ⟨h.yok, h3, rfl, rfl, List.Perm.refl _, h7⟩
    generalize moveN L z zv 8 (T.young, o, T.mark) = x at *
    obtain ⟨y', o', m'⟩ := x
    simp only at hmk
    subst hmk
    have h8 := pow8 he
    have yl := hm.ylen
    have ol := hm.olen
    simp only at yl ol
    have hp2 := hm.perm
    simp only at hp2
    have hlen := hp2.length_eq
    unfold Tab.ended
    split
    · rename_i hend
      have hend' : o'.length ≤ T.mark + 8 := hend
      have ho' : fulls o' = [] := fulls_none fun p s hs => by
        refine hm.below p s ?_ hs
        have : p < o'.length := by
          by_cases hlt : p < o'.length
          · exact hlt
          · rw [List.getElem?_eq_none (by omega)] at hs; cases hs
        show p < T.mark + 8; omega
      rw [ho', List.nil_append] at hp2 hlen
      have hpe : (Tab.pairs (⟨y', none, 0⟩ : Tab K V)) = fulls y' := rfl
      refine ⟨⟨?_, hm.yok, fun o e => (by cases e), fun _ => ⟨rfl, ?_⟩, ?_⟩, ?_, yl, ?_⟩
      · obtain ⟨e, he, h⟩ := h.ylen; exact ⟨e, he, by show y'.length = _; rw [yl]; exact h⟩
      · show 4 * (fulls y').length ≤ 3 * y'.length
        omega
      · exact hu.perm (hp2.symm.map _)
      · rw [hpe, hp]; exact hp2
      · intro o1 h1
        rw [ho] at h1; cases h1
        exact ⟨fun hlt => by omega, fun _ => rfl⟩
    · rename_i hend
      have hend' : ¬ o'.length ≤ T.mark + 8 := hend
      have hpe : (Tab.pairs (⟨y', some o', T.mark + 8⟩ : Tab K V)) = fulls o' ++ fulls y' := rfl
      refine ⟨⟨?_, hm.yok, ?_, fun e => (by cases e), ?_⟩, ?_, yl, ?_⟩
      · obtain ⟨e, he, h⟩ := h.ylen; exact ⟨e, he, by show y'.length = _; rw [yl]; exact h⟩
      · intro o1 h1
        cases h1
        refine ⟨⟨e, he, by rw [ol]; exact hol⟩, by show o'.length ≤ y'.length; omega, hm.ook, by show (T.mark + 8) % 8 = 0; omega, by show T.mark + 8 < o'.length; omega, ?_, hm.below⟩
        rw [hpe]; show 8 * _ + (o'.length - (T.mark + 8)) + 16 ≤ 5 * y'.length
        omega
      · unfold Tab.M; rw [hpe]; exact hu.perm (hp2.symm.map _)
      · rw [hpe, hp]; exact hp2
      · intro o1 h1
        rw [ho] at h1; cases h1
        exact ⟨fun _ => ⟨rfl, o', rfl, ol⟩, fun hle => by omega⟩

end
end Go.Proofs.Ytaomaeobgfeoiaa.Pl
