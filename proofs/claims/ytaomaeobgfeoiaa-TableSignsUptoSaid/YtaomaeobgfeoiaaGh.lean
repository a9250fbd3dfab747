import Derived.Test.YtaomaeobgfeoiaaGg
import Derived.Test.YtaomaeobgfeoiaaPm
namespace Go.Proofs.Ytaomaeobgfeoiaa.G
open Go.RowKit Pl
attribute [local go_sem] run_store_float

theorem info118 : ∃ j, Try.prog.info? 106 = some j ∧ j.size ≠ 0 := by
  have h : (Try.prog.info? 106).map (fun i => decide (i.size ≠ 0)) = some true := by kernel_rfl
  obtain ⟨j, hj, h2⟩ := Option.map_eq_some_iff.1 h
  exact ⟨j, hj, of_decide_eq_true h2⟩
theorem eq_same (w : World) (a : Addr) : (binOp .eql 87 (.pointer (some a)) (.pointer (some a))).run Try.prog w = .ok (.bool true) w := by
  obtain ⟨j, hj, _⟩ := info118
  exact run_eql_ptr_same w a Try.underlying87 hj
theorem eq_other {w : World} {a b : Nat} {ca cb : List Value} {ta tb : TypeId} (hne : a ≠ b) (ha : Blk w a ca ta) (hb : Blk w b cb tb) (n : Nat) :
    (binOp .eql 87 (.pointer (some ⟨a, 0, none⟩)) (.pointer (some ⟨b, 0, none⟩))).run Try.prog (w.drewN n) = .ok (.bool false) (w.drewN n) := by
  obtain ⟨j, hj, hs⟩ := info118
  exact run_eql_ptr_other (w.drewN n) Try.underlying87 hj hs (by simp [hne]) (ha.drewN n) (hb.drewN n)

theorem sub_step {bt ya ys oa os oa' os' : Nat} (h : oa' = oa ∧ os' = os ∨ oa' = ya ∧ os' = ys) : ∀ x ∈ [bt, ya, ys, oa', os'], x ∈ [bt, ya, ys, oa, os] := by
  rcases h with ⟨rfl, rfl⟩ | ⟨rfl, rfl⟩
  · exact fun x h => h
  · intro x hx; simp only [List.mem_cons, List.not_mem_nil, or_false] at hx ⊢; omega

theorem stepM_len (L : KeyLaw FD Nat) {T : Tab FD Int} (hi : Inv L T) : (stepM L 0 0 T).young.length = T.young.length := (step_spec L 0 0 hi).2.2.1

theorem putS_hit_young {L : KeyLaw FD Nat} {T : Tab FD Int} {k : FD} {v : Int} {p : Nat} {s : Sl FD Int} (hh : Hit L T k true p s) :
    putS L 0 0 T k v = ({ T with young := T.young.set p ⟨s.st, s.key, v⟩ }, s.val, true) := by
  obtain ⟨x, _, _, _, hv⟩ := hh.parts
  have hv' := hv 0
  rw [arr_true] at hv'
  have hat := hh.at_
  rw [arr_true] at hat
  unfold putS
  rw [if_pos (by rw [hh.p_]; omega), hh.b_, if_pos rfl, hv', hh.p_, show ((p : Nat) : Int).toNat = p from by omega, setVal_eq hat]

theorem putS_hit_old {L : KeyLaw FD Nat} {T : Tab FD Int} {k : FD} {v : Int} {p : Nat} {s : Sl FD Int} (hh : Hit L T k false p s) {o : List (Sl FD Int)} (ho : T.old = some o) :
    putS L 0 0 T k v = (⟨layM L T.young k v, some (buryM 0 0 o p), T.mark⟩, s.val, true) := by
  obtain ⟨x, _, _, _, hv⟩ := hh.parts
  have hv' := hv 0
  rw [arr_false ho] at hv'
  unfold putS
  rw [if_pos (by rw [hh.p_]; omega), hh.b_, if_neg (by simp), ho, Option.getD_some, hv', hh.p_, show ((p : Nat) : Int).toNat = p from by omega]

theorem putS_miss {L : KeyLaw FD Nat} {T : Tab FD Int} {k : FD} {v : Int} (h : (seekM L T k).2.1 = -1) :
    putS L 0 0 T k v = (growM 0 0 { T with young := layM L T.young k v }, 0, false) := by
  unfold putS
  rw [if_neg (by omega)]

theorem used_old_young {L : KeyLaw FD Nat} {T : Tab FD Int} (h : InvS L T) : usedN T.young < T.young.length := by
  obtain ⟨e, he, hyl⟩ := h.ylen
  have hy8 : 8 ≤ T.young.length := by
    have := pow8 he
    have : 0 < 2 ^ e := Nat.pow_pos (by decide)
    omega
  cases ho : T.old with
  | none => have := (h.none_ ho).2; omega
  | some o =>
    obtain ⟨a1, a2, a3, a4, a5, a6, a7⟩ := h.olds o ho
    have hpl : T.pairs.length = usedN o + usedN T.young := by
      unfold Tab.pairs Tab.oldFulls; rw [ho, List.length_append]; rfl
    omega

theorem arr_setVal {w : World} {ya ys p : Nat} {sl : List (Sl FD Int)} {s : Sl FD Int} {v : Int} (h : ArrAt w ya ys sl) (hp : sl[p]? = some s) (hu : usedN (sl.set p ⟨s.st, s.key, v⟩) = usedN sl ∧ tombN (sl.set p ⟨s.st, s.key, v⟩) = tombN sl) :
    ArrAt (w.setCell ⟨ys, p * 3 + 2, none⟩ (.int .i64 v)) ya ys (sl.set p ⟨s.st, s.key, v⟩) := by
  refine ⟨?_, ?_, h.ne, by simpa using h.len⟩
  · rw [hu.1, hu.2, List.length_set]
    exact h.ha.set_other h.ne _ _
  · have := h.hs.set (p * 3 + 2) (.int .i64 v)
    rw [flat_set encS 3 (fun _ => rfl) sl p 2 s ⟨s.st, s.key, v⟩ _ hp (by omega) rfl] at this
    exact this

theorem fresh_sub {F F' : List Nat} {w : World} (h : ∀ x ∈ F', x ∈ F) : FreshOr F w F' := fun x hx => .inl (h x hx)

set_option maxRecDepth 100000 in
set_option maxHeartbeats 1600000 in
theorem put_calls {w : World} {t : FHashD} {m : Int} {ct cm bt ya ys oa os : Nat} {T : Tab FD Int} (h : TabAt w (hvI ct cm) bt ya ys oa os T) (hH : HOk w t m ct cm) (hi : Inv (LI (hashI t m)) T)
    (hct : ct ∉ [bt, ya, ys, oa, os]) (hcm : cm ∉ [bt, ya, ys, oa, os]) (hsz : ∃ e, e ≤ 38 ∧ T.young.length = 2 ^ e) (k : FD) (v : Int) :
    Calls Try.prog 14 #[.pointer (some ⟨bt,0,none⟩), .float .f64 k.1, .int .i64 v] w fun e w' =>
      e = .returned (.tuple #[.int .i64 (putM (LI (hashI t m)) 0 0 T k v).2.1, .bool (putM (LI (hashI t m)) 0 0 T k v).2.2]) ∧
      ∃ ya' ys' oa' os', TabAt w' (hvI ct cm) bt ya' ys' oa' os' (putM (LI (hashI t m)) 0 0 T k v).1 ∧ FreshOr [bt, ya, ys, oa, os] w [bt, ya', ys', oa', os'] ∧ Keeps [bt, ya, ys, oa, os] w w' := by
  have hm := made_calls h
  have hst := step_calls h hH hi hct hcm
  obtain ⟨hi1, hp1, hl1, hl2⟩ := step_spec (LI (hashI t m)) 0 0 hi
  unfold putM
  rw [← hl1] at hsz
  generalize stepM (LI (hashI t m)) 0 0 T = T1 at *
  have HM := Lib.hid hm
  have HST := Lib.hid hst
  have HI := Lib.hid hi1
  have HSZ := Lib.hid hsz
  clear hm hst hi1 hsz hp1 hl1 hl2
  go_enter Try.func14, Try.ntmps14
  go_wp2_with fail
  refine (HM.out).mono ?_
  rintro e w ⟨rfl, rfl⟩
  go_wp2_with fail
  refine (HST.out).mono ?_
  rintro e w1 ⟨rfl, oa1, os1, h1, hoo, hk1⟩
  have hsub := sub_step (bt := bt) hoo
  have hct1 : ct ∉ [bt, ya, ys, oa1, os1] := fun hq => hct (hsub _ hq)
  have hcm1 : cm ∉ [bt, ya, ys, oa1, os1] := fun hq => hcm (hsub _ hq)
  have hH1 := hH.keeps hk1 hct hcm
  obtain ⟨t0, t1, t2, t3⟩ := h1.cells
  simp only [hvI] at t0
  have HC := Lib.hid (hH1.calls k)
  have hi1 := HI.out
  have ha1 := hi1.a
  have hs := seek_calls (hashI t m) h1 ha1 k
  obtain ⟨d1, d2⟩ := h1.d1
  have HSUB := Lib.hid hsub
  have HK1 := Lib.hid hk1
  have HOO := Lib.hid hoo
  clear hsub hk1 hoo
  rcases seek_spec (LI (hashI t m)) ha1 k with ⟨b, p, s, hh⟩ | ⟨hm1, hm2, hm3, hm4⟩
  · rw [hh.b_, hh.p_] at hs
    generalize (seekM (LI (hashI t m)) T1 k).2.2 = r3 at *
    cases b with
    | true =>
      have hpe := putS_hit_young (v := v) hh
      have hat := hh.at_
      rw [arr_true] at hat
      obtain ⟨c2, hpl⟩ := arr_slot h1.yo hat
      have f2 := h1.yo.hs.frozen (p * 3 + 2)
      obtain ⟨a0, a1, a2⟩ := h1.yo.cells
      have hle := h1.yo.le
      simp only [if_true] at hs
      have hu := (setVal_spec (LI (hashI t m)) ha1.yok v hat hh.full)
      have HS := Lib.hid hs
      have HPE := Lib.hid hpe
      have HAT := Lib.hid hat
      have HU := Lib.hid (And.intro hu.2.1 hu.2.2.1)
      clear hs hpe hat hu hh
      have hb0 : (0 : Int) ≤ (p : Int) := by omega
      have heq := eq_same
      go_wp2_with fail
      refine (HC.out).mono ?_
      rintro e w1 ⟨rfl, rfl⟩
      go_wp2_with fail
      refine (HS.out).mono ?_
      rintro e w3 ⟨rfl, n, rfl⟩
      go_wp2
      go_ret2
      rw [HPE.out]
      have k : Keeps [bt, ya, ys, oa, os] w1 ((w1.setCell ⟨ys, p * 3 + 2, none⟩ (.int .i64 v)).drewN n) := (Keeps.setCell (Keeps.refl _ _) _ _ (by simp)).drewN n
      have k1 : Keeps [ys] w1 ((w1.setCell ⟨ys, p * 3 + 2, none⟩ (.int .i64 v)).drewN n) := (Keeps.setCell (Keeps.refl _ _) _ _ (by simp)).drewN n
      refine ⟨rfl, ya, ys, oa1, os1, ⟨k1.blk h1.tb (by simp [d2]), (arr_setVal h1.yo HAT.out HU.out).drewN n, fun o ho => ?_, ⟨d1, d2⟩, h1.d2, h1.d3⟩, fresh_sub HSUB.out, HK1.out.trans k (by simp)⟩
      obtain ⟨e1, e2, e3, e4, e5, e6⟩ := h1.d2 o ho
      exact (h1.ol o ho).keeps k1 (by simp [Ne.symm e5]) (by simp [Ne.symm e6])
    | false =>
      obtain ⟨o, ho, hlk, hfm⟩ := hh.old rfl
      have hpe := putS_hit_old (v := v) hh ho
      have hat := hh.at_
      rw [arr_false ho] at hat
      simp only [Bool.false_eq_true, if_false] at hs
      obtain ⟨e1, e2, e3, e4, e5, e6⟩ := h1.d2 o ho
      have hul := used_old_young hi1
      have heq := eq_other (Ne.symm e3) (h1.ol o ho).ha h1.yo.ha
      have e7 : opOf T1 oa1 = some ⟨oa1, 0, none⟩ := by unfold opOf; rw [ho]; rfl
      have HS := Lib.hid hs
      have HPE := Lib.hid hpe
      have HAT := Lib.hid hat
      have HFULL := Lib.hid hh.full
      have HLK := Lib.hid hlk
      have HUL := Lib.hid hul
      have HO := Lib.hid ho
      have HOP := Lib.hid e7
      clear hs hpe hat hh hlk hfm hul ho e7
      have hb0 : (0 : Int) ≤ (p : Int) := by omega
      go_wp2_with fail
      refine (HC.out).mono ?_
      rintro e w1 ⟨rfl, rfl⟩
      go_wp2_with fail
      refine (HS.out).mono ?_
      rintro e w3 ⟨rfl, n, rfl⟩
      go_wp2_with fail
      refine (bury_calls _ oa1 os1 o p s ((h1.ol o HO.out).drewN n) HAT.out HFULL.out).mono ?_
      rintro e w4 ⟨rfl, ol4, k4, hz4⟩
      have tb4 := k4.blk (h1.tb.drewN n) (by simp [e1, e2])
      have yo4 := (h1.yo.drewN n).keeps k4 (by simp [e3, e4]) (by simp [e5, e6])
      have c0 := tb4.cell 0
      have c1 := tb4.cell 1
      have c2 := tb4.cell 2
      have c3 := tb4.cell 3
      simp only [List.getElem?_cons_zero, List.getElem?_cons_succ, hvI] at c0 c1 c2 c3
      clear hz4 heq
      go_wp2_with fail
      refine (lay_calls (hashI t m) _ ya ys T1.young k v yo4 ha1.yok HLK.out HUL.out).mono ?_
      rintro e w5 ⟨rfl, yo5, k5, hz5⟩
      have tb5 := k5.blk tb4 (by simp [d1, d2])
      have ol5 := ol4.keeps k5 (by simp [Ne.symm e3, Ne.symm e5]) (by simp [Ne.symm e4, Ne.symm e6])
      clear hz5
      go_wp2
      go_ret2
      rw [HPE.out]
      have hsub := HSUB.out
      have k45 : Keeps [bt, ya, ys, oa, os] w w5 := by
        refine ((HK1.out.drewN n).trans k4 ?_).trans k5 ?_
        · intro x hx _; exact hsub x (by simp only [List.mem_cons, List.not_mem_nil, or_false] at hx ⊢; omega)
        · intro x hx _; exact hsub x (by simp only [List.mem_cons, List.not_mem_nil, or_false] at hx ⊢; omega)
      refine ⟨rfl, ya, ys, oa1, os1, ⟨?_, yo5, fun o1 h => ?_, ⟨d1, d2⟩, fun o1 _ => ⟨e1, e2, e3, e4, e5, e6⟩, fun h => (by cases h)⟩, fresh_sub hsub, k45⟩
      · rw [HOP.out] at tb5; exact tb5
      · cases h; exact ol5
  · have hpe := putS_miss (v := v) hm1
    have hul := used_old_young hi1
    rw [hm1] at hs
    generalize (seekM (LI (hashI t m)) T1 k).2.2 = r3 at *
    generalize (seekM (LI (hashI t m)) T1 k).1 = b at *
    generalize (if b then ya else oa1) = ba at *
    have hlay := layM_spec (LI (hashI t m)) ha1.yok v hm3 hul
    have hg1 : T1.old = none → T1.mark = 0 := fun h => (hi1.none_ h).1
    have hg2 : T1.old = none → 2 * lenM ({ T1 with young := layM (LI (hashI t m)) T1.young k v } : Tab FD Int) + 2 ≤ (layM (LI (hashI t m)) T1.young k v).length * 2 := by
      intro ho
      have h4 := (hi1.none_ ho).2
      have hlu := hlay.used
      have hll := hlay.len
      obtain ⟨e, he, hyl⟩ := hi1.ylen
      have hy8 : 8 ≤ T1.young.length := by
        have := pow8 he
        have : 0 < 2 ^ e := Nat.pow_pos (by decide)
        omega
      have e1 : lenM ({ T1 with young := layM (LI (hashI t m)) T1.young k v } : Tab FD Int) = usedN (layM (LI (hashI t m)) T1.young k v) := by
        rw [len_eq]; simp [ho, usedN, fulls]
      rw [e1]; omega
    have hg3 : ∃ e, e ≤ 38 ∧ (layM (LI (hashI t m)) T1.young k v).length = 2 ^ e := by
      obtain ⟨e, q1, q2⟩ := HSZ.out; exact ⟨e, q1, by rw [hlay.len]; exact q2⟩
    have hg4 : (layM (LI (hashI t m)) T1.young k v).length * 2 ≤ 1099511627776 := by
      obtain ⟨e, q1, q2⟩ := hg3
      have : 2 ^ e ≤ 2 ^ 38 := Nat.pow_le_pow_right (by decide) q1
      omega
    have HS := Lib.hid hs
    have HPE := Lib.hid hpe
    have HUL := Lib.hid hul
    have HLK := Lib.hid hm3
    have HG1 := Lib.hid hg1
    have HG2 := Lib.hid hg2
    have HG3 := Lib.hid hg3
    have HG4 := Lib.hid hg4
    clear hs hpe hul hlay hm1 hm2 hm3 hm4 hg1 hg2 hg3 hg4
    go_wp2_with fail
    refine (HC.out).mono ?_
    rintro e w1 ⟨rfl, rfl⟩
    go_wp2_with fail
    refine (HS.out).mono ?_
    rintro e w3 ⟨rfl, n, rfl⟩
    go_wp2_with fail
    refine (lay_calls (hashI t m) _ ya ys T1.young k v (h1.yo.drewN n) ha1.yok HLK.out HUL.out).mono ?_
    rintro e w5 ⟨rfl, yo5, k5, hz5⟩
    clear hz5
    have h5 : TabAt w5 (hvI ct cm) bt ya ys oa1 os1 { T1 with young := layM (LI (hashI t m)) T1.young k v } := by
      refine ⟨k5.blk (h1.tb.drewN n) (by simp [d1, d2]), yo5, fun o ho => ?_, ⟨d1, d2⟩, h1.d2, h1.d3⟩
      obtain ⟨e1, e2, e3, e4, e5, e6⟩ := h1.d2 o ho
      exact ((h1.ol o ho).drewN n).keeps k5 (by simp [Ne.symm e3, Ne.symm e5]) (by simp [Ne.symm e4, Ne.symm e6])
    have H5 := Lib.hid h5
    go_wp2_with fail
    refine (grow_calls H5.out HG4.out HG3.out HG1.out HG2.out).mono ?_
    rintro e w6 ⟨rfl, ya6, ys6, oa6, os6, h6, fr6, k6⟩
    go_wp2
    go_ret2
    rw [HPE.out]
    have hsub := HSUB.out
    have k15 : Keeps [bt, ya, ys, oa, os] w w5 := (HK1.out.drewN n).trans k5 (by intro x hx _; simp only [List.mem_cons, List.not_mem_nil, or_false] at hx ⊢; omega)
    refine ⟨rfl, ya6, ys6, oa6, os6, h6, ?_, k15.trans k6 (by simp)⟩
    intro x hx
    rcases fr6 x hx with q | q
    · exact .inl (hsub x q)
    · exact .inr (Nat.le_trans k15.size q)
end Go.Proofs.Ytaomaeobgfeoiaa.G
