/- TableWide: Put. -/
import Derived.Test.YtaomaeobgfeoiaaWg
import Derived.Test.YtaomaeobgfeoiaaPm
namespace Go.Proofs.Ytaomaeobgfeoiaa.W
open Go.RowKit Pl

theorem info135 : ∃ j, Try.prog.info? 135 = some j ∧ j.size ≠ 0 := by
  have h : (Try.prog.info? 135).map (fun i => decide (i.size ≠ 0)) = some true := by kernel_rfl
  obtain ⟨j, hj, h2⟩ := Option.map_eq_some_iff.1 h
  exact ⟨j, hj, of_decide_eq_true h2⟩
theorem eq_same (w : World) (a : Addr) : (binOp .eql 124 (.pointer (some a)) (.pointer (some a))).run Try.prog w = .ok (.bool true) w := by
  obtain ⟨j, hj, _⟩ := info135
  exact run_eql_ptr_same w a Try.underlying124 hj
theorem eq_other {w : World} {a b : Nat} {ca cb : List Value} {ta tb : TypeId} (hne : a ≠ b) (ha : Blk w a ca ta) (hb : Blk w b cb tb) :
    (binOp .eql 124 (.pointer (some ⟨a, 0, none⟩)) (.pointer (some ⟨b, 0, none⟩))).run Try.prog w = .ok (.bool false) w := by
  obtain ⟨j, hj, hs⟩ := info135
  exact run_eql_ptr_other w Try.underlying124 hj hs (by simp [hne]) ha hb

theorem sub_step {bt ya ys oa os oa' os' : Nat} (h : oa' = oa ∧ os' = os ∨ oa' = ya ∧ os' = ys) : ∀ x ∈ [bt, ya, ys, oa', os'], x ∈ [bt, ya, ys, oa, os] := by
  rcases h with ⟨rfl, rfl⟩ | ⟨rfl, rfl⟩
  · exact fun x h => h
  · intro x hx; simp only [List.mem_cons, List.not_mem_nil, or_false] at hx ⊢; omega

theorem stepM_len (L : KeyLaw WK WK) {T : Tab WK SV} (hi : Inv L T) : (stepM L 0 0 T).young.length = T.young.length := (step_spec L 0 0 hi).2.2.1

theorem putS_hit_young {L : KeyLaw WK WK} {T : Tab WK SV} {k : WK} {v : SV} {p : Nat} {s : Sl WK SV} (hh : Hit L T k true p s) :
    putS L 0 0 T k v = ({ T with young := T.young.set p ⟨s.st, s.key, v⟩ }, s.val, true) := by
  obtain ⟨x, _, _, _, hv⟩ := hh.parts
  have hv' := hv 0
  rw [arr_true] at hv'
  have hat := hh.at_
  rw [arr_true] at hat
  unfold putS
  rw [if_pos (by rw [hh.p_]; omega), hh.b_, if_pos rfl, hv', hh.p_, show ((p : Nat) : Int).toNat = p from by omega, setVal_eq hat]

theorem putS_hit_old {L : KeyLaw WK WK} {T : Tab WK SV} {k : WK} {v : SV} {p : Nat} {s : Sl WK SV} (hh : Hit L T k false p s) {o : List (Sl WK SV)} (ho : T.old = some o) :
    putS L 0 0 T k v = (⟨layM L T.young k v, some (buryM 0 0 o p), T.mark⟩, s.val, true) := by
  obtain ⟨x, _, _, _, hv⟩ := hh.parts
  have hv' := hv 0
  rw [arr_false ho] at hv'
  unfold putS
  rw [if_pos (by rw [hh.p_]; omega), hh.b_, if_neg (by simp), ho, Option.getD_some, hv', hh.p_, show ((p : Nat) : Int).toNat = p from by omega]

theorem putS_miss {L : KeyLaw WK WK} {T : Tab WK SV} {k : WK} {v : SV} (h : (seekM L T k).2.1 = -1) :
    putS L 0 0 T k v = (growM 0 0 { T with young := layM L T.young k v }, 0, false) := by
  unfold putS
  rw [if_neg (by omega)]

theorem used_old_young {L : KeyLaw WK WK} {T : Tab WK SV} (h : InvS L T) : usedN T.young < T.young.length := by
  obtain ⟨e, he, hyl⟩ := h.ylen
  have hy8 : 8 ≤ T.young.length := by
    have := pow8 he
    have : 0 < 2 ^ e := Nat.pow_pos (by decide)
    omega
  cases ho : T.old with
  | none => have := (h.none_ ho).2; omega
  | some o =>
    obtain ⟨a1, a2, a3, a4, a5, a6, a7⟩ := h.olds o ho
    have hpl : T.pairs.length = usedN o + usedN T.young := by
      unfold Tab.pairs Tab.oldFulls; rw [ho, List.length_append]; rfl
    omega

theorem fresh_sub {F F' : List Nat} {w : World} (h : ∀ x ∈ F', x ∈ F) : FreshOr F w F' := fun x hx => .inl (h x hx)

theorem arr_setVal {w : World} {ya ys p : Nat} {sl : List (Sl WK SV)} {s : Sl WK SV} {v : SV} (h : ArrAt w ya ys sl) (hp : sl[p]? = some s) (hu : usedN (sl.set p ⟨s.st, s.key, v⟩) = usedN sl ∧ tombN (sl.set p ⟨s.st, s.key, v⟩) = tombN sl) :
    ArrAt (w.setCell ⟨ys, p * 6 + 5, none⟩ (sv v)) ya ys (sl.set p ⟨s.st, s.key, v⟩) := by
  refine ⟨?_, ?_, h.ne, by simpa using h.len⟩
  · rw [hu.1, hu.2, List.length_set]
    exact h.ha.set_other h.ne _ _
  · have := h.hs.set (p * 6 + 5) (sv v)
    rw [flat_set encS 6 (fun _ => rfl) sl p 5 s ⟨s.st, s.key, v⟩ _ hp (by omega) rfl] at this
    exact this

theorem TabAt.lt {w : World} {bt ya ys oa os : Nat} {T : Tab WK SV} (h : TabAt w bt ya ys oa os T) : ∀ b ∈ [bt, ya, ys, oa, os], b < w.heap.size := by
  intro b hb
  have l1 := h.tb.lt
  have l2 := h.yo.ha.lt
  have l3 := h.yo.hs.lt
  simp only [List.mem_cons, List.not_mem_nil, or_false] at hb
  cases ho : T.old with
  | none => obtain ⟨rfl, rfl⟩ := h.d3 ho; omega
  | some o =>
    have l4 := (h.ol o ho).ha.lt
    have l5 := (h.ol o ho).hs.lt
    omega

set_option maxRecDepth 100000 in
set_option maxHeartbeats 6400000 in
theorem put_calls {w : World} {bt ya ys oa os : Nat} {T : Tab WK SV} (h : TabAt w bt ya ys oa os T) (hi : Inv LW T) (hsz : ∃ e, e ≤ 38 ∧ T.young.length = 2 ^ e) (k : WK) (v : SV) :
    Calls Try.prog 38 #[.pointer (some ⟨bt,0,none⟩), aggK k, sv v] w fun e w' =>
      e = .returned (.tuple #[sv (putM LW 0 0 T k v).2.1, .bool (putM LW 0 0 T k v).2.2]) ∧
      ∃ ya' ys' oa' os', TabAt w' bt ya' ys' oa' os' (putM LW 0 0 T k v).1 ∧ FreshOr [bt, ya, ys, oa, os] w [bt, ya', ys', oa', os'] ∧ Keeps [bt, ya, ys, oa, os] w w' := by
  obtain ⟨w0, hw0⟩ : ∃ w0, w0 = w.alloc (.cells #[.int .i8 k.a, .int .u8 k.b0, .int .u8 k.b1, .string k.c] 74) := ⟨_, rfl⟩
  have hk0 : Keeps [] w w0 := by rw [hw0]; exact (Keeps.refl _ _).alloc _
  have hkb : Blk w0 w.heap.size (cellsK k) 74 := by rw [hw0]; exact Blk.new w (cellsK k) 74
  have hT := h.keeps0 hk0
  have hm := made_calls hT
  have hst := step_calls hT hi
  have hlt := h.lt
  have hbk : w.heap.size ∉ [bt, ya, ys, oa, os] := fun q => by have := hlt _ q; omega
  obtain ⟨hi1, hp1, hl1, hl2⟩ := step_spec LW 0 0 hi
  unfold putM
  rw [← hl1] at hsz
  generalize stepM LW 0 0 T = T1 at *
  have HM := Lib.hid hm
  have HST := Lib.hid hst
  have HI := Lib.hid hi1
  have HSZ := Lib.hid hsz
  have HW0 := Lib.hid hw0
  have HK0 := Lib.hid hk0
  have HKB := Lib.hid hkb
  have HCM := Lib.hid (clos_more k)
  clear hm hst hi1 hsz hp1 hl1 hl2 hw0 hk0 hkb hT h hi hlt
  go_enter Try.func38, Try.ntmps38
  go_wp2_with fail
  have e0 : w.alloc (.cells #[.int .i8 k.a, .int .u8 k.b0, .int .u8 k.b1, .string k.c] 74) = w0 := HW0.out.symm
  rw [e0]
  clear e0 HW0
  generalize hbks : w.heap.size = bk at *
  have HBKS := Lib.hid hbks
  clear hbks
  refine (HM.out).mono ?_
  rintro e w' ⟨rfl, rfl⟩
  go_wp2_with fail
  refine (HST.out).mono ?_
  rintro e w1 ⟨rfl, oa1, os1, h1, hoo, hk1⟩
  have hsub := sub_step (bt := bt) hoo
  have hkb1 := hk1.blk HKB.out hbk
  have hbk1 : bk ∉ [bt, ya, ys, oa1, os1] := fun q => hbk (hsub _ q)
  have hcc := fun (W : World) (k' : Keeps [] w1 W) => And.intro (h1.keeps0 k').cells (kcells (k'.blk hkb1 (by simp)))
  have hi1 := HI.out
  have ha1 := hi1.a
  have hs := fun (W : World) (k' : Keeps [] w1 W) => seek_calls hashW (h1.keeps0 k') ha1 k
  obtain ⟨d1, d2⟩ := h1.d1
  have HSUB := Lib.hid hsub
  have HK1 := Lib.hid ((HK0.out.mono (G := [bt, ya, ys, oa, os]) (by simp)).trans hk1 (fun x hx _ => hx))
  have HCC := Lib.hid hcc
  have H1 := Lib.hid h1
  have HKB1 := Lib.hid hkb1
  have y0 := fun p => (hcc (Pt.more w1 p) (more_keeps w1 p)).1.1
  have x0 := fun p => (hcc (Pt.more w1 p) (more_keeps w1 p)).2.1
  have x1 := fun p => (hcc (Pt.more w1 p) (more_keeps w1 p)).2.2.1
  have x2 := fun p => (hcc (Pt.more w1 p) (more_keeps w1 p)).2.2.2.1
  have x3 := fun p => (hcc (Pt.more w1 p) (more_keeps w1 p)).2.2.2.2
  clear hsub hk1 hoo hcc hkb1
  rcases seek_spec LW ha1 k with ⟨b, p, s, hh⟩ | ⟨hm1, hm2, hm3, hm4⟩
  · rw [hh.b_, hh.p_] at hs
    generalize (seekM LW T1 k).2.2 = r3 at *
    cases b with
    | true =>
      have hpe := putS_hit_young (v := v) hh
      have hat := hh.at_
      rw [arr_true] at hat
      have hpl := (List.getElem?_eq_some_iff.1 hat).1
      have hle := h1.yo.le
      simp only [if_true] at hs
      have hu := (setVal_spec LW ha1.yok v hat hh.full)
      have HS := Lib.hid hs
      have HPE := Lib.hid hpe
      have HAT := Lib.hid hat
      have HU := Lib.hid (And.intro hu.2.1 hu.2.2.1)
      clear hs hpe hat hu hh h1 ha1
      have hb0 : (0 : Int) ≤ (p : Int) := by omega
      have heq := eq_same
      go_wp2_with fail
      refine Pt.region_quiet_at (C := fun W => ∃ p, W = Pt.more w1 p) (by kernel_rfl) (by kernel_rfl) ⟨⟨[], 1⟩, rfl⟩ ?_
      repeat (quiet_step (exact HCM.out _ _))
      refine wpQuiet_nil ?_
      rintro _ ⟨p0, rfl⟩
      have kp0 := more_keeps w1 p0
      generalize Pt.more w1 p0 = w2 at *
      obtain ⟨⟨z0, z1, z2, z3⟩, i0, i1, i2, i3⟩ := HCC.out w2 kp0
      have HSK := Lib.hid (HS.out w2 kp0)
      have KP0 := Lib.hid kp0
      clear kp0 y0 x0 x1 x2 x3
      go_wp2_with fail
      refine (HSK.out).mono ?_
      rintro e w3 ⟨rfl, ks⟩
      have k13 : Keeps [] w1 w3 := KP0.out.trans ks (by simp)
      obtain ⟨⟨u0, u1, u2, u3⟩, g0, g1, g2, g3⟩ := HCC.out w3 k13
      clear ks z0 z1 z2 z3 i0 i1 i2 i3
      have h3 := H1.out.keeps0 k13
      obtain ⟨a0, a1, a2⟩ := h3.yo.cells
      obtain ⟨_, _, _, _, _, c5⟩ := wcells h3.yo.hs HAT.out
      have f5 := h3.yo.hs.frozen (p * 6 + 5)
      have H3 := Lib.hid h3
      have K13 := Lib.hid k13
      clear h3 k13
      go_wp2
      go_ret2
      rw [HPE.out]
      have k4 : Keeps [ys] w3 (w3.setCell ⟨ys, p * 6 + 5, none⟩ (sv v)) := Keeps.setCell (Keeps.refl _ _) _ _ (by simp)
      refine ⟨rfl, ya, ys, oa1, os1, ⟨k4.blk H3.out.tb (by simp [d2]), arr_setVal H3.out.yo HAT.out HU.out, fun o ho => ?_, ⟨d1, d2⟩, H3.out.d2, H3.out.d3⟩, fresh_sub HSUB.out, (HK1.out.trans K13.out (by simp)).trans k4 (by simp)⟩
      obtain ⟨e1, e2, e3, e4, e5, e6⟩ := H3.out.d2 o ho
      exact (H3.out.ol o ho).keeps k4 (by simp [Ne.symm e5]) (by simp [Ne.symm e6])
    | false =>
      obtain ⟨o, ho, hlk, hfm⟩ := hh.old rfl
      have hpe := putS_hit_old (v := v) hh ho
      have hat := hh.at_
      rw [arr_false ho] at hat
      simp only [Bool.false_eq_true, if_false] at hs
      obtain ⟨e1, e2, e3, e4, e5, e6⟩ := h1.d2 o ho
      have hul := used_old_young hi1
      have HS := Lib.hid hs
      have HPE := Lib.hid hpe
      have HAT := Lib.hid hat
      have HFULL := Lib.hid hh.full
      have HLK := Lib.hid hlk
      have HUL := Lib.hid hul
      have HO := Lib.hid ho
      have HYOK := Lib.hid ha1.yok
      clear hs hpe hat hh hlk hfm hul ho h1 ha1
      have hb0 : (0 : Int) ≤ (p : Int) := by omega
      go_wp2_with fail
      refine Pt.region_quiet_at (C := fun W => ∃ p, W = Pt.more w1 p) (by kernel_rfl) (by kernel_rfl) ⟨⟨[], 1⟩, rfl⟩ ?_
      repeat (quiet_step (exact HCM.out _ _))
      refine wpQuiet_nil ?_
      rintro _ ⟨p0, rfl⟩
      have kp0 := more_keeps w1 p0
      generalize Pt.more w1 p0 = w2 at *
      obtain ⟨⟨z0, z1, z2, z3⟩, i0, i1, i2, i3⟩ := HCC.out w2 kp0
      have HSK := Lib.hid (HS.out w2 kp0)
      have KP0 := Lib.hid kp0
      clear kp0 y0 x0 x1 x2 x3
      go_wp2_with fail
      refine (HSK.out).mono ?_
      rintro e w3 ⟨rfl, ks⟩
      have k13 : Keeps [] w1 w3 := KP0.out.trans ks (by simp)
      obtain ⟨⟨u0, u1, u2, u3⟩, g0, g1, g2, g3⟩ := HCC.out w3 k13
      clear ks z0 z1 z2 z3 i0 i1 i2 i3
      have h3 := H1.out.keeps0 k13
      have heq := eq_other (Ne.symm e3) (h3.ol o HO.out).ha h3.yo.ha
      have HBURY := Lib.hid (bury_calls w3 oa1 os1 o p s (h3.ol o HO.out) HAT.out HFULL.out)
      have H3 := Lib.hid h3
      have K13 := Lib.hid k13
      clear h3 k13
      go_wp2_with fail
      refine (HBURY.out).mono ?_
      rintro e w4 ⟨rfl, ol4, k4⟩
      have tb4 := k4.blk H3.out.tb (by simp [e1, e2])
      have yo4 := H3.out.yo.keeps k4 (by simp [e3, e4]) (by simp [e5, e6])
      have kb4 := k4.blk (K13.out.blk HKB1.out (by simp)) (fun q => hbk1 (by simp only [List.mem_cons, List.not_mem_nil, or_false] at q ⊢; omega))
      have m1 := fun p => ((more_keeps w4 p).blk tb4 (by simp)).cell 1
      have m2 := fun p => kcells ((more_keeps w4 p).blk kb4 (by simp))
      simp only [List.getElem?_cons_zero, List.getElem?_cons_succ] at m1
      have n0 := fun p => (m2 p).1
      have n1 := fun p => (m2 p).2.1
      have n2 := fun p => (m2 p).2.2.1
      have n3 := fun p => (m2 p).2.2.2
      have TB4 := Lib.hid tb4
      have YO4 := Lib.hid yo4
      have OL4 := Lib.hid ol4
      have K4 := Lib.hid k4
      clear tb4 yo4 kb4 ol4 k4 m2 u0 u1 u2 u3 g0 g1 g2 g3 heq
      go_wp2_with fail
      refine Pt.region_tail_at (C := fun W => ∃ p, W = Pt.more w4 p) 7 76 rfl rfl rfl rfl (by kernel_rfl) (by kernel_rfl) (by kernel_rfl) (by kernel_rfl) (by kernel_rfl) ⟨⟨[], 1⟩, rfl⟩ ?_
      simp only [List.set_cons_succ, List.set_cons_zero, Pt.idle]
      repeat (quiet_step (fail))
      refine wpQuiet_nil ?_
      rintro _ ⟨p1, rfl⟩
      go_simp
      have k45 := more_keeps w4 p1
      refine (lay_calls hashW _ ya ys T1.young k v (YO4.out.keeps k45 (by simp) (by simp)) HYOK.out HLK.out HUL.out).mono ?_
      rintro e w6 ⟨rfl, yo6, k6⟩
      have tb6 := k6.blk (k45.blk TB4.out (by simp)) (by simp [d1, d2])
      have ol6 := (OL4.out.keeps k45 (by simp) (by simp)).keeps k6 (by simp [Ne.symm e3, Ne.symm e5]) (by simp [Ne.symm e4, Ne.symm e6])
      have TB6 := Lib.hid tb6
      have YO6 := Lib.hid yo6
      have OL6 := Lib.hid ol6
      have KL := Lib.hid k45
      have K6 := Lib.hid k6
      clear k45 k6 tb6 ol6 yo6 m1 n0 n1 n2 n3
      go_wp2
      go_ret2
      rw [HPE.out]
      have hsub := HSUB.out
      have k16 : Keeps [bt, ya, ys, oa, os] w w6 := by
        refine (((HK1.out.trans K13.out (by simp)).trans K4.out ?_).trans KL.out (by simp)).trans K6.out ?_
        · intro x hx _; exact hsub x (by simp only [List.mem_cons, List.not_mem_nil, or_false] at hx ⊢; omega)
        · intro x hx _; simp only [List.mem_cons, List.not_mem_nil, or_false] at hx ⊢; omega
      refine ⟨rfl, ya, ys, oa1, os1, ⟨?_, YO6.out, fun o1 h => ?_, ⟨d1, d2⟩, fun o1 _ => ⟨e1, e2, e3, e4, e5, e6⟩, fun h => (by cases h)⟩, fresh_sub hsub, k16⟩
      · have := TB6.out
        have e7 : opOf T1 oa1 = some ⟨oa1, 0, none⟩ := by unfold opOf; rw [HO.out]; rfl
        rw [e7] at this
        exact this
      · cases h; exact OL6.out
  · have hpe := putS_miss (v := v) hm1
    have hul := used_old_young hi1
    rw [hm1] at hs
    generalize (seekM LW T1 k).2.2 = r3 at *
    generalize (seekM LW T1 k).1 = b at *
    generalize (if b then ya else oa1) = ba at *
    have hlay := layM_spec LW ha1.yok v hm3 hul
    have hg1 : T1.old = none → T1.mark = 0 := fun h => (hi1.none_ h).1
    have hg2 : T1.old = none → 2 * lenM ({ T1 with young := layM LW T1.young k v } : Tab WK SV) + 2 ≤ (layM LW T1.young k v).length * 2 := by
      intro ho
      have h4 := (hi1.none_ ho).2
      have hlu := hlay.used
      have hll := hlay.len
      obtain ⟨e, he, hyl⟩ := hi1.ylen
      have hy8 : 8 ≤ T1.young.length := by
        have := pow8 he
        have : 0 < 2 ^ e := Nat.pow_pos (by decide)
        omega
      have e1 : lenM ({ T1 with young := layM LW T1.young k v } : Tab WK SV) = usedN (layM LW T1.young k v) := by
        rw [len_eq]; simp [ho, usedN, fulls]
      rw [e1]; omega
    have hg3 : ∃ e, e ≤ 38 ∧ (layM LW T1.young k v).length = 2 ^ e := by
      obtain ⟨e, q1, q2⟩ := HSZ.out; exact ⟨e, q1, by rw [hlay.len]; exact q2⟩
    have hg4 : (layM LW T1.young k v).length * 2 ≤ 1099511627776 := by
      obtain ⟨e, q1, q2⟩ := hg3
      have : 2 ^ e ≤ 2 ^ 38 := Nat.pow_le_pow_right (by decide) q1
      omega
    have HS := Lib.hid hs
    have HPE := Lib.hid hpe
    have HUL := Lib.hid hul
    have HLK := Lib.hid hm3
    have HG1 := Lib.hid hg1
    have HG2 := Lib.hid hg2
    have HG3 := Lib.hid hg3
    have HG4 := Lib.hid hg4
    have HYOK := Lib.hid ha1.yok
    clear hs hpe hul hlay hm1 hm2 hm3 hm4 hg1 hg2 hg3 hg4 h1 ha1
    go_wp2_with fail
    refine Pt.region_quiet_at (C := fun W => ∃ p, W = Pt.more w1 p) (by kernel_rfl) (by kernel_rfl) ⟨⟨[], 1⟩, rfl⟩ ?_
    repeat (quiet_step (exact HCM.out _ _))
    refine wpQuiet_nil ?_
    rintro _ ⟨p0, rfl⟩
    have kp0 := more_keeps w1 p0
    generalize Pt.more w1 p0 = w2 at *
    obtain ⟨⟨z0, z1, z2, z3⟩, i0, i1, i2, i3⟩ := HCC.out w2 kp0
    have HSK := Lib.hid (HS.out w2 kp0)
    have KP0 := Lib.hid kp0
    clear kp0 y0 x0 x1 x2 x3
    go_wp2_with fail
    refine (HSK.out).mono ?_
    rintro e w3 ⟨rfl, ks⟩
    have k13 : Keeps [] w1 w3 := KP0.out.trans ks (by simp)
    obtain ⟨⟨u0, u1, u2, u3⟩, g0, g1, g2, g3⟩ := HCC.out w3 k13
    clear ks z0 z1 z2 z3 i0 i1 i2 i3
    have h3 := H1.out.keeps0 k13
    have m1 := fun p => ((more_keeps w3 p).blk h3.tb (by simp)).cell 1
    have m2 := fun p => kcells ((more_keeps w3 p).blk (k13.blk HKB1.out (by simp)) (by simp))
    simp only [List.getElem?_cons_zero, List.getElem?_cons_succ] at m1
    have n0 := fun p => (m2 p).1
    have n1 := fun p => (m2 p).2.1
    have n2 := fun p => (m2 p).2.2.1
    have n3 := fun p => (m2 p).2.2.2
    have H3 := Lib.hid h3
    have K13 := Lib.hid k13
    clear h3 k13 m2 u0 u2 u3 g0 g1 g2 g3
    go_wp2_with fail
    refine Pt.region_tail_at (C := fun W => ∃ p, W = Pt.more w3 p) 7 85 rfl rfl rfl rfl (by kernel_rfl) (by kernel_rfl) (by kernel_rfl) (by kernel_rfl) (by kernel_rfl) ⟨⟨[], 1⟩, rfl⟩ ?_
    simp only [List.set_cons_succ, List.set_cons_zero, Pt.idle]
    repeat (quiet_step (fail))
    refine wpQuiet_nil ?_
    rintro _ ⟨p1, rfl⟩
    go_simp
    have k45 := more_keeps w3 p1
    refine (lay_calls hashW _ ya ys T1.young k v (H3.out.yo.keeps k45 (by simp) (by simp)) HYOK.out HLK.out HUL.out).mono ?_
    rintro e w6 ⟨rfl, yo6, k6⟩
    have h6 : TabAt w6 bt ya ys oa1 os1 { T1 with young := layM LW T1.young k v } := by
      have h45 := H3.out.keeps0 k45
      refine ⟨k6.blk h45.tb (by simp [d1, d2]), yo6, fun o ho => ?_, ⟨d1, d2⟩, h45.d2, h45.d3⟩
      obtain ⟨e1, e2, e3, e4, e5, e6⟩ := h45.d2 o ho
      exact (h45.ol o ho).keeps k6 (by simp [Ne.symm e3, Ne.symm e5]) (by simp [Ne.symm e4, Ne.symm e6])
    have K16 := Lib.hid (((HK1.out.trans K13.out (by simp)).trans k45 (by simp)).trans k6 (by simp))
    have H6 := Lib.hid h6
    clear k45 k6 yo6 h6 m1 n0 n1 n2 n3 u1
    go_wp2_with fail
    refine (grow_calls H6.out HG4.out HG3.out HG1.out HG2.out).mono ?_
    rintro e w7 ⟨rfl, ya7, ys7, oa7, os7, h7, fr7, k7⟩
    go_wp2
    go_ret2
    rw [HPE.out]
    have hsub := HSUB.out
    refine ⟨rfl, ya7, ys7, oa7, os7, h7, ?_, K16.out.trans k7 (by simp)⟩
    intro x hx
    rcases fr7 x hx with q | q
    · exact .inl (hsub x q)
    · exact .inr (Nat.le_trans K16.out.size q)
end Go.Proofs.Ytaomaeobgfeoiaa.W
