/- TableWide: the table beside the law's list. -/
import Derived.Test.YtaomaeobgfeoiaaWn
import Derived.Test.YtaomaeobgfeoiaaWl
import Derived.Test.YtaomaeobgfeoiaaPo
namespace Go.Proofs.Ytaomaeobgfeoiaa.W
open Go.RowKit Pl

def encD (d : Wd) : List Value := [.int .i8 d.key.a, .int .u8 d.key.b0, .int .u8 d.key.b1, .string d.key.c, sv d.val, .bool d.out]

/-- The table of a list, away from a list's block and above a place. -/
def AT (X0 bt : Nat) (G : List Nat) (P : List Wd) (m : Nat) (W : World) : Prop := ∃ (ya ys oa os : Nat) (T : Tab WK SV) (ks : List WK) (vs : List SV),
  TabAt W bt ya ys oa os T ∧ Inv LW T ∧ Rel LW T ks vs ∧ Link P ks vs ∧ (∀ b ∈ [bt, ya, ys, oa, os], X0 < b ∧ b ∉ G) ∧ ks.length ≤ m ∧ T.young.length ≤ 4 * m + 8

/-- What Put and Del say: whether the key was there. -/
def Told (P : List Wd) (k : WK) (ok : Bool) : Prop := (lastW P k P.length = -1 ∧ ok = false) ∨ ∃ (j : Nat) (d : Wd), lastW P k P.length = j ∧ P[j]? = some d ∧ ok = !d.out

variable {X0 bt m : Nat} {G : List Nat} {P : List Wd} {W : World}

theorem young_pow {T : Tab WK SV} (hi : Inv LW T) (hy : T.young.length ≤ 274877906944) : ∃ e, e ≤ 38 ∧ T.young.length = 2 ^ e := by
  obtain ⟨e, he, hl⟩ := hi.ylen
  refine ⟨e, ?_, hl⟩
  rw [hl] at hy
  rcases Nat.lt_or_ge 38 e with q | q
  · have : 2 ^ 39 ≤ 2 ^ e := Nat.pow_le_pow_right (by decide) q
    omega
  · exact q

theorem AT.lt (h : AT X0 bt G P m W) : X0 < W.heap.size := by
  obtain ⟨ya, ys, oa, os, T, ks, vs, h1, _, _, _, h5, _⟩ := h
  have l := h1.lt bt (by simp)
  have := (h5 bt (by simp)).1
  omega

theorem AT.keeps {F : List Nat} {W' : World} (h : AT X0 bt G P m W) (k : Keeps F W W') (hF : ∀ b ∈ F, b ≤ X0 ∨ b ∈ G ∨ W.heap.size ≤ b) : AT X0 bt G P m W' := by
  obtain ⟨ya, ys, oa, os, T, ks, vs, h1, h2, h3, h4, h5, h6⟩ := h
  refine ⟨ya, ys, oa, os, T, ks, vs, h1.keeps k (fun b hb q => ?_), h2, h3, h4, h5, h6⟩
  have l := h1.lt b hb
  obtain ⟨g1, g2⟩ := h5 b hb
  rcases hF b q with r | r | r
  · omega
  · exact g2 r
  · omega

theorem AT.keeps0 {W' : World} (h : AT X0 bt G P m W) (k : Keeps [] W W') : AT X0 bt G P m W' := h.keeps k (by simp)

theorem AT.other {G' : List Nat} {W0 : World} (h : AT X0 bt G P m W) (k : ∃ F, Keeps F W0 W ) (hn : ∀ b ∈ G', b ∈ G) : AT X0 bt G' P m W := by
  obtain ⟨ya, ys, oa, os, T, ks, vs, h1, h2, h3, h4, h5, h6⟩ := h
  exact ⟨ya, ys, oa, os, T, ks, vs, h1, h2, h3, h4, fun b hb => ⟨(h5 b hb).1, fun q => (h5 b hb).2 (hn b q)⟩, h6⟩

/-- Behind an append: the list's block is its old one, or new. -/
theorem AT.moved {G' : List Nat} {W' : World} (h : AT X0 bt G P m W) (k : Keeps (G) W W') (hn : ∀ b ∈ G', b ∈ G ∨ W.heap.size ≤ b) : AT X0 bt G' P m W' := by
  obtain ⟨ya, ys, oa, os, T, ks, vs, h1, h2, h3, h4, h5, h6⟩ := h
  refine ⟨ya, ys, oa, os, T, ks, vs, h1.keeps k (fun b hb q => (h5 b hb).2 q), h2, h3, h4, fun b hb => ⟨(h5 b hb).1, fun q => ?_⟩, h6⟩
  rcases hn b q with r | r
  · exact (h5 b hb).2 r
  · have := h1.lt b hb; omega

theorem told_same {vs : List SV} {k : WK} {ok : Bool} (hc : Told P k ok) {i : Int} (hl : (lastW P k P.length = -1 ∧ i < 0) ∨ ∃ (j : Nat) (d : Wd), lastW P k P.length = j ∧ P[j]? = some d ∧ d.key = k ∧ (d.out = true ∧ i < 0 ∨ d.out = false ∧ 0 ≤ i ∧ valD vs i 0 = d.val)) : decide (0 ≤ i) = ok := by
  rcases hl with ⟨h1, h2⟩ | ⟨j, d, h1, h2, _, h4⟩
  · rcases hc with ⟨_, rfl⟩ | ⟨j', d', g1, _⟩
    · rw [decide_eq_false_iff_not]; omega
    · rw [h1] at g1; omega
  · rcases hc with ⟨g1, _⟩ | ⟨j', d', g1, g2, rfl⟩
    · rw [h1] at g1; omega
    · have : j = j' := by omega
      subst this
      rw [h2] at g2; cases g2
      rcases h4 with ⟨q1, q2⟩ | ⟨q1, q2, _⟩
      · rw [q1, Bool.not_true, decide_eq_false_iff_not]; omega
      · rw [q1, Bool.not_false, decide_eq_true_eq]; exact q2

theorem AT.put (h : AT X0 bt G P m W) (hm : m ≤ 2097152) (hfp : ∀ b ∈ G, b < W.heap.size) (x : Wd) (hx : x.out = false) {ok : Bool} (hc : Told P x.key ok) :
    Calls Try.prog 38 #[.pointer (some ⟨bt, 0, none⟩), aggK x.key, sv x.val] W fun e W' => (∃ v, e = .returned (.tuple #[v, .bool ok])) ∧ AT X0 bt G (upd P x) (m + 1) W' ∧ ∃ F, Keeps F W W' ∧ ∀ b ∈ F, X0 < b ∧ b ∉ G := by
  obtain ⟨ya, ys, oa, os, T, ks, vs, h1, h2, h3, h4, h5, h6, h7⟩ := h
  refine (put_calls h1 h2 (young_pow h2 (by omega)) x.key x.val).mono ?_
  rintro e W' ⟨rfl, ya', ys', oa', os', ht, hf, hk⟩
  obtain ⟨i, hi, hl⟩ := h4.look (hash := hashW) x.key
  have hi' : IdxOk LW ks x.key i := hi
  obtain ⟨g1, g2, g3, g4⟩ := put_rel LW 0 0 h2 h3 x.val hi'
  have hyg := put_young LW 0 0 h2 x.key x.val
  rw [len_rel LW h3] at hyg
  obtain ⟨f1, f2⟩ := h4.put x hx hi
  refine ⟨⟨sv (putM LW 0 0 T x.key x.val).2.1, ?_⟩, ?_, _, hk, h5⟩
  · rw [g2, told_same hc hl]
  · have hd : ∀ b ∈ [bt, ya', ys', oa', os'], X0 < b ∧ b ∉ G := by
      intro b hb
      rcases hf b hb with q | q
      · exact h5 b q
      · have l := h1.lt bt (by simp)
        have := (h5 bt (by simp)).1
        exact ⟨by omega, fun r => by have := hfp b r; omega⟩
    by_cases h0 : 0 ≤ i
    · exact ⟨ya', ys', oa', os', _, _, _, ht, g1, g3 h0, f1 h0, hd, by omega, by omega⟩
    · exact ⟨ya', ys', oa', os', _, _, _, ht, g1, g4 (by omega), f2 (by omega), hd, by simp; omega, by omega⟩

theorem AT.del (h : AT X0 bt G P m W) (hfp : ∀ b ∈ G, b < W.heap.size) (x : Wd) (hx : x.out = true) {ok : Bool} (hc : Told P x.key ok) :
    Calls Try.prog 37 #[.pointer (some ⟨bt, 0, none⟩), aggK x.key] W fun e W' => (∃ v, e = .returned (.tuple #[v, .bool ok])) ∧ AT X0 bt G (upd P x) (m + 1) W' ∧ ∃ F, Keeps F W W' ∧ ∀ b ∈ F, X0 < b ∧ b ∉ G := by
  obtain ⟨ya, ys, oa, os, T, ks, vs, h1, h2, h3, h4, h5, h6, h7⟩ := h
  refine (del_calls h1 h2 x.key).mono ?_
  rintro e W' ⟨rfl, oa', os', ht, hf, hk⟩
  obtain ⟨i, hi, hl⟩ := h4.look (hash := hashW) x.key
  have hi' : IdxOk LW ks x.key i := hi
  obtain ⟨g1, g2, g3, g4⟩ := del_rel LW 0 0 h2 h3 hi'
  have hyg := del_young LW 0 0 h2 x.key
  obtain ⟨f1, f2⟩ := h4.del x hx hi
  refine ⟨⟨sv (delM LW 0 0 T x.key).2.1, ?_⟩, ?_, _, hk, h5⟩
  · rw [g2, told_same hc hl]
  · have hd : ∀ b ∈ [bt, ya, ys, oa', os'], X0 < b ∧ b ∉ G := by
      intro b hb
      rcases hf b hb with q | q
      · exact h5 b q
      · have l := h1.lt bt (by simp)
        have := (h5 bt (by simp)).1
        exact ⟨by omega, fun r => by have := hfp b r; omega⟩
    by_cases h0 : 0 ≤ i
    · exact ⟨ya, ys, oa', os', _, _, _, ht, g1, g3 h0, f1 h0, hd, by have := List.length_eraseIdx_le ks i.toNat; omega, by omega⟩
    · exact ⟨ya, ys, oa', os', _, _, _, ht, g1, g4 (by omega), f2 (by omega), hd, by omega, by omega⟩

theorem lastW_of (h : (P.map (·.key)).Nodup) {d : Wd} (hd : d ∈ P) {j : Nat} {d' : Wd} (hj : P[j]? = some d') (hk : d'.key = d.key) : d' = d := by
  obtain ⟨m, hm⟩ := List.getElem?_of_mem hd
  have g1 : (P.map (·.key))[j]? = some d.key := by rw [List.getElem?_map, hj]; simp [hk]
  have g2 : (P.map (·.key))[m]? = some d.key := by rw [List.getElem?_map, hm]; rfl
  have hjl : j < (P.map (·.key)).length := (List.getElem?_eq_some_iff.1 g1).1
  have e := (List.getElem?_inj hjl h).1 (g1.trans g2.symm)
  subst e
  rw [hj] at hm; cases hm; rfl

theorem AT.get (h : AT X0 bt G P m W) {d : Wd} (hd : d ∈ P) :
    Calls Try.prog 39 #[.pointer (some ⟨bt, 0, none⟩), aggK d.key] W fun e W' => e = .returned (.tuple #[sv (if d.out then 0 else d.val), .bool (!d.out)]) ∧ Keeps [] W W' := by
  obtain ⟨ya, ys, oa, os, T, ks, vs, h1, h2, h3, h4, h5, h6, h7⟩ := h
  refine (get_calls h1 h2.a d.key).mono ?_
  rintro e W' ⟨rfl, hk⟩
  refine ⟨?_, hk⟩
  obtain ⟨i, hi, hl⟩ := h4.look (hash := hashW) d.key
  have hi' : IdxOk LW ks d.key i := hi
  rw [get_rel LW 0 h2 h3 hi']
  rcases hl with ⟨q1, q2⟩ | ⟨j, d', q1, q2, q3, q4⟩
  · exfalso
    rcases lastW_cases P d.key P.length with ⟨_, r⟩ | ⟨j, d', r, _⟩
    · obtain ⟨j, hj⟩ := List.getElem?_of_mem hd
      exact r j d (List.getElem?_eq_some_iff.1 hj).1 hj rfl
    · rw [q1] at r; omega
  · have := lastW_of h4.one hd q2 q3
    subst this
    rcases q4 with ⟨r1, r2⟩ | ⟨r1, r2, r3⟩
    · rw [r1, show decide (0 ≤ i) = false by rw [decide_eq_false_iff_not]; omega]
      unfold valD
      rw [if_pos r2]
      rfl
    · rw [r1, r3, show decide (0 ≤ i) = true by rw [decide_eq_true_eq]; exact r2]
      rfl
theorem AT.put_mem (h : AT X0 bt G P m W) (x : Wd) : x ∈ upd P x := by
  obtain ⟨ya, ys, oa, os, T, ks, vs, h1, h2, h3, h4, h5, h6, h7⟩ := h
  exact (upd_keys h4.one x).2.2.2
theorem AT.upd_from (h : AT X0 bt G P m W) (x : Wd) : ∀ d ∈ upd P x, d = x ∨ d ∈ P := by
  obtain ⟨ya, ys, oa, os, T, ks, vs, h1, h2, h3, h4, h5, h6, h7⟩ := h
  exact fun d hd => ((upd_keys h4.one x).2.1 d hd).imp id (·.1)
theorem told_ex (P : List Wd) (k : WK) : ∃ ok, Told P k ok := by
  rcases lastW_cases P k P.length with ⟨h, _⟩ | ⟨j, d, h1, _, h3, _⟩
  · exact ⟨false, .inl ⟨h, rfl⟩⟩
  · exact ⟨!d.out, .inr ⟨j, d, h1, h3, rfl⟩⟩
theorem AT.new {ya ys : Nat} (h : TabAt W bt ya ys ya ys tab0) (h5 : X0 < bt ∧ X0 < ya ∧ X0 < ys) : AT X0 bt [] [] 0 W :=
  ⟨ya, ys, ya, ys, tab0, [], [], h, inv0 _, ⟨rfl, by
    have : tab0.M LW = [] := by unfold Tab.M Tab.pairs Tab.oldFulls tab0; simp only; rw [fulls_replicate]; rfl
    rw [this]
    exact List.Perm.refl _⟩, Link.nil, fun b hb => by
      simp only [List.mem_cons, List.not_mem_nil, or_false] at hb
      exact ⟨by omega, by simp⟩, by simp, by simp [tab0]⟩
end Go.Proofs.Ytaomaeobgfeoiaa.W
