import Derived.Test.YtaomaeobgfeoiaaGe
import Derived.StillTailTactics
import Derived.BigRegion
namespace Go.Proofs.Ytaomaeobgfeoiaa.G
open Go.RowKit Pl
attribute [local go_sem] run_store_float

theorem moveN_succ (L : KeyLaw FD Nat) (z : FD) (zv : Int) : ∀ (n : Nat) (x : List (Sl FD Int) × List (Sl FD Int) × Nat), moveN L z zv (n + 1) x = moveOne L z zv (moveN L z zv n x)
  | 0, x => rfl
  | n + 1, x => by
    show moveN L z zv (n + 1) (moveOne L z zv x) = _
    rw [moveN_succ L z zv n]; rfl

/-- In the midst of a step. -/
structure StepAt (w : World) (t : FHashD) (m : Int) (ct cm bt ya ys oa os : Nat) (x : List (Sl FD Int) × List (Sl FD Int) × Nat) (wr : World) : Prop where
  tb : Blk wr bt [hvI ct cm, .pointer (some ⟨ya,0,none⟩), .pointer (some ⟨oa,0,none⟩), .int .i64 x.2.2] 90
  yo : ArrAt wr ya ys x.1
  ol : ArrAt wr oa os x.2.1
  hh : HOk wr t m ct cm
  kp : Keeps [bt, ya, ys, oa, os] w wr

set_option maxRecDepth 100000 in
set_option maxHeartbeats 1600000 in
theorem step_calls {w : World} {t : FHashD} {m : Int} {ct cm bt ya ys oa os : Nat} {T : Tab FD Int} (h : TabAt w (hvI ct cm) bt ya ys oa os T) (hH : HOk w t m ct cm) (hi : Inv (LI (hashI t m)) T)
    (hct : ct ∉ [bt, ya, ys, oa, os]) (hcm : cm ∉ [bt, ya, ys, oa, os]) :
    Calls Try.prog 49 #[.pointer (some ⟨bt,0,none⟩)] w fun e w' =>
      e = .returned (.tuple #[]) ∧ ∃ oa' os', TabAt w' (hvI ct cm) bt ya ys oa' os' (stepM (LI (hashI t m)) 0 0 T) ∧ (oa' = oa ∧ os' = os ∨ oa' = ya ∧ os' = ys) ∧ Keeps [bt, ya, ys, oa, os] w w' := by
  obtain ⟨t0, t1, t2, t3⟩ := h.cells
  cases ho : T.old with
  | none =>
    have e2 : opOf T oa = none := by unfold opOf; rw [ho]; rfl
    have e3 : stepM (LI (hashI t m)) 0 0 T = T := by unfold stepM; rw [ho]
    rw [e2] at t2
    rw [e3]
    clear ho e2 e3
    go_enter Try.func49, Try.ntmps49
    go_wp2
    exact bodyPost_ret (results_none rfl _ _ _) rfl ⟨rfl, oa, os, h, .inl ⟨rfl, rfl⟩, Keeps.refl _ _⟩
  | some o =>
    have e2 : opOf T oa = some ⟨oa, 0, none⟩ := by unfold opOf; rw [ho]; rfl
    have htb := h.tb
    rw [e2] at t2 htb
    have HO := Lib.hid ho
    clear ho e2
    go_enter Try.func49, Try.ntmps49
    go_wp2
    go_loopw [8] (fun i wr => ∃ j : Nat, j ≤ 8 ∧ i = .int .i64 j ∧ StepAt w t m ct cm bt ya ys oa os (moveN (LI (hashI t m)) 0 0 j (T.young, o, T.mark)) wr) (fun i _ => 8 - (intOf i).toNat)
    case atStart => exact ⟨0, by omega, rfl, htb, h.yo, h.ol o HO.out, hH, Keeps.refl _ _⟩
    case round =>
      obtain ⟨j, hj, rfl, hS⟩ := hrel
      by_cases hlt : j < 8
      · have c0 := hS.tb.cell 0
        have c1 := hS.tb.cell 1
        have c2 := hS.tb.cell 2
        have c3 := hS.tb.cell 3
        simp only [List.getElem?_cons_zero, List.getElem?_cons_succ] at c0 c1 c2 c3
        obtain ⟨a0, a1, a2⟩ := hS.yo.cells
        obtain ⟨o0, o1, o2⟩ := hS.ol.cells
        have hle := hS.yo.le
        have hle2 := hS.ol.le
        obtain ⟨⟨e, he, hel⟩, hi2, hi3, hi4, hi5, hi6, hi7⟩ := hi.olds o HO.out
        have hp : T.pairs = fulls o ++ fulls T.young := by unfold Tab.pairs Tab.oldFulls; rw [HO.out]
        have hu : Uniq ((fulls o ++ fulls T.young).map (cp (LI (hashI t m)))) := by have := hi.uniq; unfold Tab.M at this; rwa [hp] at this
        rw [hp] at hi6
        obtain ⟨hm, hmk⟩ := moveN_keeps (LI (hashI t m)) 0 0 hu (by omega) j (x := (T.young, o, T.mark)) ⟨hi.yok, hi3, rfl, rfl, List.Perm.refl _, hi7⟩
        have hsucc := moveN_succ (LI (hashI t m)) 0 0 j (T.young, o, T.mark)
        generalize moveN (LI (hashI t m)) 0 0 j (T.young, o, T.mark) = x at *
        have holen := hm.olen
        simp only at holen hmk
        have hpow := pow8 he
        have hxm : x.2.2 < x.2.1.length := by omega
        obtain ⟨s, hs⟩ : ∃ s, x.2.1[x.2.2]? = some s := ⟨_, List.getElem?_eq_getElem hxm⟩
        obtain ⟨s0, s1, s2⟩ := slot_cells hS.ol.hs hs
        have hu' : Uniq ((fulls x.2.1 ++ fulls x.1).map (cp (LI (hashI t m)))) := hu.perm (hm.perm.symm.map _)
        have hlen := hm.perm.length_eq
        have yln := hm.ylen
        try simp only at yln
        rw [List.length_append] at hlen
        have hul : 1 ≤ (fulls x.2.1).length → usedN x.1 < x.1.length := by
          intro hq; show (fulls x.1).length < _; omega
        have hyok := hm.yok
        have hook := hm.ook
        have HU := Lib.hid hu'
        have HUL := Lib.hid hul
        have HYO := Lib.hid hyok
        have HOO := Lib.hid hook
        clear hu' hul hyok hook hlen yln
        have HS := Lib.hid hs
        have HX := Lib.hid hsucc
        have HM := Lib.hid hm
        have HMK := Lib.hid hmk
        have HOL := Lib.hid holen
        clear hs hsucc hm hmk holen hp hu hel hi4 hi7 hpow
        have l1 := hS.tb.lt
        have l2 := hS.yo.ha.lt
        have l3 := hS.yo.hs.lt
        have l4 := hS.ol.ha.lt
        have l5 := hS.ol.hs.lt
        go_wp2
        by_cases h1 : s.st = 1
        · have hb1 : ((s.st : Int) == 1) = true := by simp [h1]
          have H1 := Lib.hid h1
          clear h1
          go_region
          obtain ⟨w1, hw1⟩ : ∃ w1, w1 = (wr.alloc (.cells [.int .u8 s.st, .float .f64 s.key.1, .int .i64 s.val].toArray 103)).drew := ⟨_, rfl⟩
          have hsb : Blk w1 wr.heap.size [.int .u8 s.st, .float .f64 s.key.1, .int .i64 s.val] 103 := by rw [hw1]; exact (Blk.new wr _ _).drew
          have hK1 : Keeps [] wr w1 := by rw [hw1]; exact (Keeps.alloc (Keeps.refl _ _) _).drew
          rw [← hw1]
          clear hw1
          obtain ⟨bb, hbb⟩ : ∃ bb, bb = wr.heap.size := ⟨_, rfl⟩
          rw [← hbb] at hsb l1 l2 l3 l4 l5 ⊢
          clear hbb
          have tb1 := hK1.blk hS.tb (by simp)
          have yo1 := hS.yo.keeps hK1 (by simp) (by simp)
          have ol1 := hS.ol.keeps hK1 (by simp) (by simp)
          have hh1 := hS.hh.keeps hK1 (by simp) (by simp)
          have n0 := hsb.cell 0
          have n1 := hsb.cell 1
          have n2 := hsb.cell 2
          have c0 := tb1.cell 0
          have c1 := tb1.cell 1
          have c2 := tb1.cell 2
          have c3 := tb1.cell 3
          simp only [List.getElem?_cons_zero, List.getElem?_cons_succ, hvI] at n0 n1 n2 c0 c1 c2 c3
          have hmem : (s.key, s.val) ∈ fulls x.2.1 := mem_fulls HS.out H1.out
          have hlk : Lacks (LI (hashI t m)) x.1 s.key := lacks_of_uniq _ HU.out hmem
          have huse : usedN x.1 < x.1.length := HUL.out (by have := List.length_pos_of_mem hmem; omega)
          have HLK := Lib.hid hlk
          have HUSE := Lib.hid huse
          clear hmem hlk huse
          have hash1 := (hh1.drewN 1).calls s.key
          have HH := Lib.hid hash1
          clear hash1
          go_wp2
          go_still_tail 15, (by kernel_rfl)
          refine wpStill_step (fun K hK => ?_)
          go_simp
          refine ⟨_, HH.out, hK _ ?_⟩
          clear hK K
          repeat still_step
          refine wpStill_nil ?_
          change wpList _ _ _ _ _ w1.drew
          obtain ⟨w2, hw2⟩ : ∃ w2, w2 = w1.drew := ⟨_, rfl⟩
          have hK2 : Keeps [] w1 w2 := by rw [hw2]; exact (Keeps.refl _ _).drew
          rw [← hw2]
          clear hw2 c0 c1 c2 c3 n0 n1 n2
          have tb2 := hK2.blk tb1 (by simp)
          have yo2 := yo1.keeps hK2 (by simp) (by simp)
          have ol2 := ol1.keeps hK2 (by simp) (by simp)
          have hh2 := hh1.keeps hK2 (by simp) (by simp)
          obtain ⟨d1, d2⟩ := h.d1
          obtain ⟨d3, d4, d5, d6, d7, d8⟩ := h.d2 o HO.out
          go_wp2_with fail
          refine (lay_calls (hashI t m) _ ya ys x.1 s.key s.val yo2 HYO.out HLK.out HUSE.out).mono ?_
          rintro e w3 ⟨rfl, yo3, hk3, hz3⟩
          clear hz3
          simp only [List.mem_cons, List.not_mem_nil, or_false, not_or] at hct hcm
          obtain ⟨ne1, ne2, ne3, ne4, ne5⟩ := hct
          obtain ⟨me1, me2, me3, me4, me5⟩ := hcm
          have tb3 := hk3.blk tb2 (by simp [d1, d2])
          have ol3 := ol2.keeps hk3 (by simp [Ne.symm d5, Ne.symm d7]) (by simp [Ne.symm d6, Ne.symm d8])
          have hh3 := hh2.keeps hk3 (by simp [ne2, ne3]) (by simp [me2, me3])
          have c0 := tb3.cell 0
          have c1 := tb3.cell 1
          have c2 := tb3.cell 2
          have c3 := tb3.cell 3
          simp only [List.getElem?_cons_zero, List.getElem?_cons_succ, hvI] at c0 c1 c2 c3
          go_wp2
          go_still_tail 8, (by kernel_rfl)
          change wpList _ _ _ _ _ w3.drew
          obtain ⟨w4, hw4⟩ : ∃ w4, w4 = w3.drew := ⟨_, rfl⟩
          have hK4 : Keeps [] w3 w4 := by rw [hw4]; exact (Keeps.refl _ _).drew
          rw [← hw4]
          clear hw4 c0 c1 c2 c3
          have tb4 := hK4.blk tb3 (by simp)
          have yo4 := yo3.keeps hK4 (by simp) (by simp)
          have ol4 := ol3.keeps hK4 (by simp) (by simp)
          have hh4 := hh3.keeps hK4 (by simp) (by simp)
          go_wp2_with fail
          refine (bury_calls _ oa os x.2.1 x.2.2 s ol4 HS.out H1.out).mono ?_
          rintro e w5 ⟨rfl, ol5, hk5, hz5⟩
          clear hz5
          have tb5 := hk5.blk tb4 (by simp [d3, d4])
          have yo5 := yo4.keeps hk5 (by simp [d5, d6]) (by simp [d7, d8])
          have hh5 := hh4.keeps hk5 (by simp [ne4, ne5]) (by simp [me4, me5])
          have hkk := (((hS.kp.trans hK1 (by simp)).trans hK2 (by simp)).trans hk3 (by simp)).trans hK4 (by simp)
          have hkk5 := hkk.trans hk5 (by simp)
          have c0 := tb5.cell 0
          have c1 := tb5.cell 1
          have c2 := tb5.cell 2
          have c3 := tb5.cell 3
          have f3 := tb5.frozen 3
          simp only [List.getElem?_cons_zero, List.getElem?_cons_succ, hvI] at c0 c1 c2 c3
          clear hkk
          have HKK := Lib.hid hkk5
          clear hkk5
          go_wp2
          go_roundw
          case rel =>
            refine ⟨j + 1, by omega, by go_num, ?_⟩
            have hx' : moveOne (LI (hashI t m)) 0 0 x = (layM (LI (hashI t m)) x.1 s.key s.val, buryM 0 0 x.2.1 x.2.2, x.2.2 + 1) := by
              unfold moveOne; simp only [HS.out, H1.out, if_true]
            rw [HX.out, hx']
            have k6 : Keeps [bt] w5 (w5.setCell ⟨bt, 3, none⟩ (.int .i64 (↑x.2.2 + 1))) := Keeps.setCell (Keeps.refl _ _) _ _ (by simp)
            refine ⟨?_, yo5.keeps k6 (by simp [Ne.symm d1]) (by simp [Ne.symm d2]), ol5.keeps k6 (by simp [Ne.symm d3]) (by simp [Ne.symm d4]), hh5.keeps k6 (by simp [ne1]) (by simp [me1]), HKK.out.trans k6 (by simp)⟩
            exact tb5.set 3 _
          case measure => simp [intOf]; omega
        · have hb1 : ((s.st : Int) == 1) = false := by rw [beq_eq_false_iff_ne]; omega
          have H1 := Lib.hid h1
          clear h1
          go_region
          obtain ⟨w1, hw1⟩ : ∃ w1, w1 = (wr.alloc (.cells [.int .u8 s.st, .float .f64 s.key.1, .int .i64 s.val].toArray 103)).drew := ⟨_, rfl⟩
          have hsb : Blk w1 wr.heap.size [.int .u8 s.st, .float .f64 s.key.1, .int .i64 s.val] 103 := by rw [hw1]; exact (Blk.new wr _ _).drew
          have hK1 : Keeps [] wr w1 := by rw [hw1]; exact (Keeps.alloc (Keeps.refl _ _) _).drew
          rw [← hw1]
          clear hw1
          obtain ⟨bb, hbb⟩ : ∃ bb, bb = wr.heap.size := ⟨_, rfl⟩
          rw [← hbb] at hsb l1 l2 l3 l4 l5 ⊢
          clear hbb
          have tb1 := hK1.blk hS.tb (by simp)
          have yo1 := hS.yo.keeps hK1 (by simp) (by simp)
          have ol1 := hS.ol.keeps hK1 (by simp) (by simp)
          have hh1 := hS.hh.keeps hK1 (by simp) (by simp)
          have n0 := hsb.cell 0
          have c0 := tb1.cell 0
          have c1 := tb1.cell 1
          have c2 := tb1.cell 2
          have c3 := tb1.cell 3
          have f3 := tb1.frozen 3
          simp only [List.getElem?_cons_zero, List.getElem?_cons_succ, hvI] at n0 c0 c1 c2 c3
          simp only [List.mem_cons, List.not_mem_nil, or_false, not_or] at hct hcm
          obtain ⟨ne1, ne2, ne3, ne4, ne5⟩ := hct
          obtain ⟨me1, me2, me3, me4, me5⟩ := hcm
          obtain ⟨d1, d2⟩ := h.d1
          obtain ⟨d3, d4, d5, d6, d7, d8⟩ := h.d2 o HO.out
          go_wp2
          go_roundw
          case rel =>
            refine ⟨j + 1, by omega, by go_num, ?_⟩
            have hx' : moveOne (LI (hashI t m)) 0 0 x = (x.1, x.2.1, x.2.2 + 1) := by
              unfold moveOne; simp only [HS.out, H1.out, if_false]
            rw [HX.out, hx']
            have k6 : Keeps [bt] w1 (w1.setCell ⟨bt, 3, none⟩ (.int .i64 (↑x.2.2 + 1))) := Keeps.setCell (Keeps.refl _ _) _ _ (by simp)
            refine ⟨?_, yo1.keeps k6 (by simp [Ne.symm d1]) (by simp [Ne.symm d2]), ol1.keeps k6 (by simp [Ne.symm d3]) (by simp [Ne.symm d4]), hh1.keeps k6 (by simp [ne1]) (by simp [me1]), (hS.kp.trans hK1 (by simp)).trans k6 (by simp)⟩
            exact tb1.set 3 _
          case measure => simp [intOf]; omega
      · have hj8 : j = 8 := by omega
        subst hj8
        have hst : stepM (LI (hashI t m)) 0 0 T = Tab.ended (moveN (LI (hashI t m)) 0 0 8 (T.young, o, T.mark)).1 (moveN (LI (hashI t m)) 0 0 8 (T.young, o, T.mark)).2.1 (moveN (LI (hashI t m)) 0 0 8 (T.young, o, T.mark)).2.2 := by
          unfold stepM; rw [HO.out]
        generalize moveN (LI (hashI t m)) 0 0 8 (T.young, o, T.mark) = x at *
        obtain ⟨y', o', m'⟩ := x
        have c0 := hS.tb.cell 0
        have c1 := hS.tb.cell 1
        have c2 := hS.tb.cell 2
        have c3 := hS.tb.cell 3
        have f2 := hS.tb.frozen 2
        have f3 := hS.tb.frozen 3
        simp only [List.getElem?_cons_zero, List.getElem?_cons_succ] at c0 c1 c2 c3
        obtain ⟨o0, o1, o2⟩ := hS.ol.cells
        have hle2 := hS.ol.le
        simp only at c3 o0 o1 o2 hle2 hst
        have yo := hS.yo
        have ol := hS.ol
        have htb := hS.tb
        have hkp := hS.kp
        simp only at yo ol htb
        obtain ⟨d1, d2⟩ := h.d1
        obtain ⟨d3, d4, d5, d6, d7, d8⟩ := h.d2 o HO.out
        have HST := Lib.hid hst
        clear hst
        by_cases hend : o'.length ≤ m'
        · have hend' : (o'.length : Int) ≤ (m' : Int) := by omega
          go_wp2
          go_quiet (fail)
          go_wp2
          refine bodyPost_end (results_none rfl _ _ _) rfl ⟨rfl, ya, ys, ?_, .inr ⟨rfl, rfl⟩, ?_⟩
          · rw [HST.out]
            unfold Tab.ended
            rw [if_pos hend]
            have k6 : Keeps [bt] wr (((wr.setCell ⟨bt, 2, none⟩ (.pointer none)).setCell ⟨bt, 3, none⟩ (.int .i64 0)).drewN nq) := (Keeps.setCell (Keeps.setCell (Keeps.refl _ _) _ _ (by simp)) _ _ (by simp)).drewN _
            refine ⟨?_, yo.keeps k6 (by simp [Ne.symm d1]) (by simp [Ne.symm d2]), fun o h => (by cases h), ⟨d1, d2⟩, fun o h => (by cases h), fun _ => ⟨rfl, rfl⟩⟩
            exact (htb.set 2 _).set 3 _
          · exact (Keeps.setCell (Keeps.setCell hkp _ _ (by simp)) _ _ (by simp)).drewN nq
        · have hend' : ¬ (o'.length : Int) ≤ (m' : Int) := by omega
          go_wp2
          go_quiet (fail)
          go_wp2
          refine bodyPost_end (results_none rfl _ _ _) rfl ⟨rfl, oa, os, ?_, .inl ⟨rfl, rfl⟩, ?_⟩
          · rw [HST.out]
            unfold Tab.ended
            rw [if_neg hend]
            exact ⟨htb, yo.drewN nq, fun o h => (by cases h; exact ol.drewN nq), ⟨d1, d2⟩, fun o h => ⟨d3, d4, d5, d6, d7, d8⟩, fun h => (by cases h)⟩
          · exact hkp.drewN nq
end Go.Proofs.Ytaomaeobgfeoiaa.G
