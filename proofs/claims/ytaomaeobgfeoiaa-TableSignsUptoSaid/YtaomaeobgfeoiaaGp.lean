/- TableSigns: table and document's table side by side; the float that stands for a key. -/
import Derived.Test.YtaomaeobgfeoiaaGn
import Derived.Test.YtaomaeobgfeoiaaRf
import Derived.Test.YtaomaeobgfeoiaaTd
namespace Go.Proofs.Ytaomaeobgfeoiaa.G
open Go.RowKit Pl R

theorem LG : LI (hashI hashD 0) = LD := rfl
abbrev hvG : Value := .func (.func 8) #[] #[]
theorem hok (w : World) (ct cm : Nat) : HOk w hashD 0 ct cm := ⟨fun w k => clos_calls k w⟩

theorem run_bits (b : Nat) (w : World) : (callFunc 20 #[.float .f64 b]).run Try.prog w = .ok (.value (.int .u64 b)) w := by kernel_rfl
theorem run_from (b : Nat) (w : World) : (callFunc 22 #[.int .u64 b]).run Try.prog w = .ok (.value (.float .f64 b)) w := by kernel_rfl

theorem copysign_calls (w : World) : Calls Try.prog 47 #[.float .f64 0, .float .f64 13830554455654793216] w fun e w' => e = .returned (.float .f64 9223372036854775808) ∧ w' = w := by
  have h1 := run_bits 0
  have h2 := run_bits 13830554455654793216
  have h3 : ∀ w, (callFunc 22 #[.int .u64 9223372036854775808]).run Try.prog w = .ok (.value (.float .f64 9223372036854775808)) w := fun w => by kernel_rfl
  have b1 : bits .andNot .u64 0 9223372036854775808 = 0 := by decide
  have b2 : bits .and .u64 13830554455654793216 9223372036854775808 = 9223372036854775808 := by decide
  have b3 : bits .or .u64 0 9223372036854775808 = 9223372036854775808 := by decide
  go_enter Try.func47, Try.ntmps47
  go_wp2
  go_ret
  exact ⟨rfl, rfl⟩

theorem fd_low {k : FD} (h : tagD k = 0) : FloatKind.f64.nearest ((keyD k : Nat) : Int) = k.1 := by
  have h1 := gB_back k.1 k.2
  have h2 := near_int (keyD k) (List.mem_range.2 (R.keyD_lt k))
  unfold gB at h1
  rw [if_neg (by intro q; exact q.2 h)] at h1
  rw [h2]
  exact h1
theorem fd_neg {k : FD} (h : ¬ tagD k = 0) : keyD k = 0 ∧ tagD k = 1 ∧ k.1 = 9223372036854775808 := by
  have e : k.1 = 9223372036854775808 := by
    rcases Nat.decEq k.1 9223372036854775808 with q | q
    · exact absurd (show tagN k.1 = 0 by unfold tagN; rw [if_neg q]) h
    · exact q
  refine ⟨?_, ?_, e⟩
  · show keyN k.1 = 0; rw [e]; decide
  · show tagN k.1 = 1; rw [e]; decide

theorem signed_calls (k : FD) (w : World) : Calls Try.prog 11 #[.int .i64 (keyD k : Nat), .int .i64 (tagD k : Nat)] w fun e w' => e = .returned (.float .f64 k.1) ∧ w' = w := by
  have HC := Lib.hid copysign_calls
  by_cases h : tagD k = 0
  · have hf := run_to_float (keyD k : Nat)
    rw [fd_low h] at hf
    rw [h]
    generalize keyD k = kk at *
    generalize k.1 = bb at *
    clear h
    by_cases h0 : kk = 0
    · have hb : ((kk : Int) == 0) = true := by rw [h0]; rfl
      clear h0
      go_enter Try.func11, Try.ntmps11
      go_wp2_with fail
      go_ret
      exact ⟨rfl, rfl⟩
    · have hb : ((kk : Int) == 0) = false := by rw [beq_eq_false_iff_ne]; omega
      clear h0
      go_enter Try.func11, Try.ntmps11
      go_wp2_with fail
      go_ret
      exact ⟨rfl, rfl⟩
  · obtain ⟨h1, h2, h3⟩ := fd_neg h
    rw [h1, h2, h3]
    clear h h1 h2 h3
    go_enter Try.func11, Try.ntmps11
    go_wp2_with fail
    refine (HC.out _).mono ?_
    rintro e w' ⟨rfl, rfl⟩
    go_wp2_with fail
    go_ret
    exact ⟨rfl, rfl⟩

theorem fd_of (k t : Nat) (hk : k < 32) (ht : t ≤ 1) (h : t = 1 → k = 0) : ∃ f : FD, keyD f = k ∧ tagD f = t := by
  by_cases h1 : t = 1
  · subst h1
    have := h rfl
    subst this
    exact ⟨⟨9223372036854775808, by decide⟩, by decide, by decide⟩
  · have : t = 0 := by omega
    subst this
    obtain ⟨m, h2, h3⟩ := gB_mem k (List.mem_range.2 hk)
    exact ⟨⟨_, m⟩, h2, h3⟩

theorem and31 (x : Int) : ∃ n : Nat, n < 32 ∧ bits .and .i64 x 31 = (n : Int) := by
  refine ⟨(BitVec.ofInt 64 x &&& BitVec.ofInt 64 31).toNat, ?_, ?_⟩
  · rw [BitVec.toNat_and]
    have h31 : (BitVec.ofInt 64 31).toNat = 31 := by decide
    rw [h31]
    exact Nat.lt_succ_of_le Nat.and_le_right
  · have hl : (BitVec.ofInt 64 x &&& BitVec.ofInt 64 31).toNat < 32 := by
      rw [BitVec.toNat_and]
      have h31 : (BitVec.ofInt 64 31).toNat = 31 := by decide
      rw [h31]
      exact Nat.lt_succ_of_le Nat.and_le_right
    show IntKind.i64.wrap (((BitVec.ofInt 64 x &&& BitVec.ofInt 64 31).toNat : Nat) : Int) = _
    rw [IntWalk.i64_left]
    exact IntWalk.wrap64_in _ (by omega)

/-- The table of model T and the document's of model T', each in blocks of its own, at or beyond B. -/
structure Two (w : World) (B bt ya ys oa os bm yb ob : Nat) (T T' : Tab FD Int) : Prop where
  tab : TabAt w hvG bt ya ys oa os T
  ref : RefAt w bm yb ob T'
  dis : ∀ b ∈ [bt, ya, ys, oa, os], b ∉ [bm, yb, ob]
  f1 : ∀ b ∈ [bt, ya, ys, oa, os], B ≤ b
  f2 : ∀ b ∈ [bm, yb, ob], B ≤ b
  hB : B ≤ w.heap.size

variable {w w' : World} {B bt ya ys oa os bm yb ob ya' ys' oa' os' yb' ob' : Nat} {T T' T2 : Tab FD Int}

theorem Two.keeps0 (h : Two w B bt ya ys oa os bm yb ob T T') (k : Keeps [] w w') : Two w' B bt ya ys oa os bm yb ob T T' :=
  ⟨h.tab.keeps0 k, h.ref.keeps k (by simp), h.dis, h.f1, h.f2, Nat.le_trans h.hB k.size⟩
theorem Two.ref_lt (h : Two w B bt ya ys oa os bm yb ob T T') : ∀ b ∈ [bm, yb, ob], b < w.heap.size := by
  intro b hb
  have l1 := h.ref.bk.lt
  have l2 := h.ref.yo.lt
  simp only [List.mem_cons, List.not_mem_nil, or_false] at hb
  cases ho : T'.old with
  | none => have := h.ref.d3 ho; omega
  | some o => have := (h.ref.ol o ho).lt; omega
theorem Two.tab_lt (h : Two w B bt ya ys oa os bm yb ob T T') : ∀ b ∈ [bt, ya, ys, oa, os], b < w.heap.size := by
  intro b hb
  have l1 := h.tab.tb.lt
  have l2 := h.tab.yo.ha.lt
  have l3 := h.tab.yo.hs.lt
  simp only [List.mem_cons, List.not_mem_nil, or_false] at hb
  cases ho : T.old with
  | none => obtain ⟨rfl, rfl⟩ := h.tab.d3 ho; omega
  | some o =>
    have l4 := (h.tab.ol o ho).ha.lt
    have l5 := (h.tab.ol o ho).hs.lt
    omega
theorem Two.tabbed (h : Two w B bt ya ys oa os bm yb ob T T') (ht : TabAt w' hvG bt ya' ys' oa' os' T2) (hf : FreshOr [bt, ya, ys, oa, os] w [bt, ya', ys', oa', os']) (k : Keeps [bt, ya, ys, oa, os] w w') :
    Two w' B bt ya' ys' oa' os' bm yb ob T2 T' ∧ Below B w w' := by
  refine ⟨⟨ht, h.ref.keeps k (fun b hb q => h.dis b q hb), ?_, ?_, h.f2, Nat.le_trans h.hB k.size⟩, k.below h.hB h.f1⟩
  · intro b hb q
    rcases hf b hb with r | r
    · exact h.dis b r q
    · have := h.ref_lt b q; omega
  · intro b hb
    rcases hf b hb with r | r
    · exact h.f1 b r
    · exact Nat.le_trans h.hB r
theorem Two.reffed (h : Two w B bt ya ys oa os bm yb ob T T') (hr : RefAt w' bm yb' ob' T2) (hf : FreshOr [bm, yb, ob] w [bm, yb', ob']) (k : Keeps [bm, yb, ob] w w') :
    Two w' B bt ya ys oa os bm yb' ob' T T2 ∧ Below B w w' := by
  have hd : ∀ b ∈ [bt, ya, ys, oa, os], b ∉ [bm, yb, ob] := h.dis
  refine ⟨⟨⟨k.blk h.tab.tb (hd bt (by simp)), h.tab.yo.keeps k (hd ya (by simp)) (hd ys (by simp)), fun o ho => (h.tab.ol o ho).keeps k (hd oa (by simp)) (hd os (by simp)), h.tab.d1, h.tab.d2, h.tab.d3⟩, hr, ?_, h.f1, ?_, Nat.le_trans h.hB k.size⟩, k.below h.hB h.f2⟩
  · intro b hb q
    rcases hf b q with r | r
    · exact h.dis b hb r
    · have := h.tab_lt b hb; omega
  · intro b hb
    rcases hf b hb with r | r
    · exact h.f2 b r
    · exact Nat.le_trans h.hB r

theorem Two.out (h : Two w B bt ya ys oa os bm yb ob T T') : ∃ c, c ∉ [bt, ya, ys, oa, os] := by
  refine ⟨bt + ya + ys + oa + os + 1, fun q => ?_⟩
  simp only [List.mem_cons, List.not_mem_nil, or_false] at q
  have := h.hB
  omega
theorem young_pow (hi : Inv LD T) (hy : T.young.length ≤ 274877906944) : ∃ e, e ≤ 38 ∧ T.young.length = 2 ^ e := by
  obtain ⟨e, he, hl⟩ := hi.ylen
  refine ⟨e, ?_, hl⟩
  rw [hl] at hy
  rcases Nat.lt_or_ge 38 e with q | q
  · have : 2 ^ 39 ≤ 2 ^ e := Nat.pow_le_pow_right (by decide) q
    omega
  · exact q

theorem Two.put_tab (h : Two w B bt ya ys oa os bm yb ob T T') (hi : Inv LD T) (hy : T.young.length ≤ 274877906944) (k : FD) (v : Int) :
    Calls Try.prog 14 #[.pointer (some ⟨bt, 0, none⟩), .float .f64 k.1, .int .i64 v] w fun e w' => e = .returned (.tuple #[.int .i64 (putM LD 0 0 T k v).2.1, .bool (putM LD 0 0 T k v).2.2]) ∧
      ∃ ya' ys' oa' os', Two w' B bt ya' ys' oa' os' bm yb ob (putM LD 0 0 T k v).1 T' ∧ Below B w w' := by
  obtain ⟨c, hc⟩ := h.out
  refine (put_calls (ct := c) (cm := c) h.tab (hok w c c) hi hc hc (young_pow hi hy) k v).mono ?_
  rintro e w' ⟨he, ya', ys', oa', os', ht, hf, k⟩
  obtain ⟨q1, q2⟩ := h.tabbed ht hf k
  exact ⟨he, ya', ys', oa', os', q1, q2⟩
theorem Two.del_tab (h : Two w B bt ya ys oa os bm yb ob T T') (hi : Inv LD T) (k : FD) :
    Calls Try.prog 12 #[.pointer (some ⟨bt, 0, none⟩), .float .f64 k.1] w fun e w' => e = .returned (.tuple #[.int .i64 (delM LD 0 0 T k).2.1, .bool (delM LD 0 0 T k).2.2]) ∧
      ∃ ya' ys' oa' os', Two w' B bt ya' ys' oa' os' bm yb ob (delM LD 0 0 T k).1 T' ∧ Below B w w' := by
  obtain ⟨c, hc⟩ := h.out
  refine (del_calls (ct := c) (cm := c) h.tab (hok w c c) hi hc hc k).mono ?_
  rintro e w' ⟨he, oa', os', ht, hf, k⟩
  obtain ⟨q1, q2⟩ := h.tabbed ht hf k
  exact ⟨he, ya, ys, oa', os', q1, q2⟩
theorem Two.put_ref (h : Two w B bt ya ys oa os bm yb ob T2 T) (hi : Inv LD T) (hy : T.young.length ≤ 274877906944) (k : FD) (v : Int) :
    Calls Try.prog 15 #[.pointer (some ⟨bm, 0, none⟩), .int .i64 (keyD k : Nat), .int .i64 (tagD k : Nat), .int .i64 v] w fun e w' => e = .returned (.tuple #[.int .i64 (putM LD 0 0 T k v).2.1, .bool (putM LD 0 0 T k v).2.2]) ∧
      ∃ yb' ob', Two w' B bt ya ys oa os bm yb' ob' T2 (putM LD 0 0 T k v).1 ∧ Below B w w' := by
  refine (R.put_calls h.ref hi (young_pow hi hy) k v).mono ?_
  rintro e w' ⟨he, yb', ob', ht, hf, k⟩
  obtain ⟨q1, q2⟩ := h.reffed ht hf k
  exact ⟨he, yb', ob', q1, q2⟩
theorem Two.del_ref (h : Two w B bt ya ys oa os bm yb ob T2 T) (hi : Inv LD T) (hy : T.young.length ≤ 274877906944) (k : FD) :
    Calls Try.prog 13 #[.pointer (some ⟨bm, 0, none⟩), .int .i64 (keyD k : Nat)] w fun e w' => e = .returned (.tuple #[.int .i64 (delM LD 0 0 T k).2.1, .bool (delM LD 0 0 T k).2.2]) ∧
      ∃ ob', Two w' B bt ya ys oa os bm yb ob' T2 (delM LD 0 0 T k).1 ∧ Below B w w' := by
  refine (R.del_calls h.ref hi (by omega) k).mono ?_
  rintro e w' ⟨he, ob', ht, ho, k⟩
  obtain ⟨q1, q2⟩ := h.reffed ht (fresh_sub (fun x hx => by simp only [List.mem_cons, List.not_mem_nil, or_false] at hx ⊢; omega)) k
  exact ⟨he, ob', q1, q2⟩

theorem idx_ex (ks : List FD) (k : FD) : ∃ i, IdxOk LD ks k i := by
  by_cases h : ∃ (j : Nat) (x : FD), ks[j]? = some x ∧ LD.eqK x k = true
  · obtain ⟨j, x, h1, h2⟩ := h
    exact ⟨j, .some j x h1 h2⟩
  · refine ⟨-1, .none fun j x hx => ?_⟩
    cases he : LD.eqK x k with
    | false => rfl
    | true => exact absurd ⟨j, x, hx, he⟩ h

theorem rel_put {ks : List FD} {vs : List Int} (hi : Inv LD T) (h : Rel LD T ks vs) (k : FD) (v : Int) :
    Inv LD (putM LD 0 0 T k v).1 ∧ (∃ ks' vs', Rel LD (putM LD 0 0 T k v).1 ks' vs' ∧ ks'.length ≤ ks.length + 1) ∧ ((putM LD 0 0 T k v).1.young.length = T.young.length ∨ (putM LD 0 0 T k v).1.young.length ≤ 4 * ks.length + 8) := by
  obtain ⟨i, hx⟩ := idx_ex ks k
  obtain ⟨h1, _, h3, h4⟩ := put_rel LD 0 0 hi h v hx
  have hyg := put_young LD 0 0 hi k v
  rw [len_rel LD h] at hyg
  refine ⟨h1, ?_, hyg⟩
  by_cases h0 : 0 ≤ i
  · exact ⟨_, _, h3 h0, by omega⟩
  · exact ⟨_, _, h4 (by omega), by simp⟩
theorem rel_del {ks : List FD} {vs : List Int} (hi : Inv LD T) (h : Rel LD T ks vs) (k : FD) :
    Inv LD (delM LD 0 0 T k).1 ∧ (∃ ks' vs', Rel LD (delM LD 0 0 T k).1 ks' vs' ∧ ks'.length ≤ ks.length + 1) ∧ (delM LD 0 0 T k).1.young.length = T.young.length := by
  obtain ⟨i, hx⟩ := idx_ex ks k
  obtain ⟨h1, _, h3, h4⟩ := del_rel LD 0 0 hi h hx
  refine ⟨h1, ?_, del_young LD 0 0 hi k⟩
  by_cases h0 : 0 ≤ i
  · exact ⟨_, _, h3 h0, by have := List.length_eraseIdx_le ks i.toNat; omega⟩
  · exact ⟨_, _, h4 (by omega), by omega⟩
theorem rel0 : Rel LD tab0 [] [] := ⟨rfl, by
  have : tab0.M LD = [] := by unfold Tab.M Tab.pairs Tab.oldFulls tab0; simp only; rw [fulls_replicate]; rfl
  rw [this]
  exact List.Perm.refl _⟩
end Go.Proofs.Ytaomaeobgfeoiaa.G
