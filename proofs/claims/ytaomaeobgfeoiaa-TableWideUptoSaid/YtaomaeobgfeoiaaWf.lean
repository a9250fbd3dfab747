/- TableWide: step. -/
import Derived.Test.YtaomaeobgfeoiaaWe
import Derived.Test.YtaomaeobgfeoiaaPt
namespace Go.Proofs.Ytaomaeobgfeoiaa.W
open Go.RowKit Pl

theorem moveN_succ (z : WK) (zv : SV) : ∀ (n : Nat) (x : List (Sl WK SV) × List (Sl WK SV) × Nat), moveN LW z zv (n + 1) x = moveOne LW z zv (moveN LW z zv n x)
  | 0, x => rfl
  | n + 1, x => by
    show moveN LW z zv (n + 1) (moveOne LW z zv x) = _
    rw [moveN_succ z zv n]; rfl

theorem alloc_keeps : ∀ (os : List Obj) (w : World), Keeps [] w (os.foldl World.alloc w)
  | [], w => Keeps.refl _ _
  | o :: os, w => ((Keeps.refl [] w).alloc o).trans (alloc_keeps os (w.alloc o)) (by simp)
theorem more_keeps (w : World) (p : Pt.Pile) : Keeps [] w (Pt.more w p) := (alloc_keeps p.os w).drewN p.m

theorem clos_new (k : WK) (w : World) : Calls Try.prog 36 #[aggK k] w fun e w' => e = .returned (.int .u64 (hashW k)) ∧ w' = w.alloc (.cells #[.int .i8 k.a, .int .u8 k.b0, .int .u8 k.b1, .string k.c] 74) := by
  have hc := k.hc
  obtain ⟨hb1, hb2⟩ := u8_range k.h1
  go_enter Try.func36, Try.ntmps36
  go_wp2
  go_ret
  rw [hashW_cast]
  exact ⟨rfl, rfl⟩

theorem clos_more (k : WK) (w : World) (p : Pt.Pile) : Calls Try.prog 36 #[aggK k] (Pt.more w p) fun e w'' => e = .returned (.int .u64 (hashW k)) ∧ ∃ q, w'' = Pt.more w q :=
  (clos_new k _).mono fun e w'' ⟨he, hw⟩ => ⟨he, ⟨p.os ++ [.cells #[.int .i8 k.a, .int .u8 k.b0, .int .u8 k.b1, .string k.c] 74], p.m⟩, hw.trans (Pt.more_alloc _ _ _)⟩

/-- In the midst of a step. -/
structure StepAt (w : World) (bt ya ys oa os : Nat) (x : List (Sl WK SV) × List (Sl WK SV) × Nat) (wr : World) : Prop where
  tb : Blk wr bt [hvW, .pointer (some ⟨ya,0,none⟩), .pointer (some ⟨oa,0,none⟩), .int .i64 x.2.2] 127
  yo : ArrAt wr ya ys x.1
  ol : ArrAt wr oa os x.2.1
  kp : Keeps [bt, ya, ys, oa, os] w wr
theorem StepAt.keeps0 {w wr W : World} {bt ya ys oa os : Nat} {x : List (Sl WK SV) × List (Sl WK SV) × Nat} (h : StepAt w bt ya ys oa os x wr) (k : Keeps [] wr W) : StepAt w bt ya ys oa os x W :=
  ⟨k.blk h.tb (by simp), h.yo.keeps k (by simp) (by simp), h.ol.keeps k (by simp) (by simp), h.kp.trans k (by simp)⟩
theorem StepAt.cells {w wr : World} {bt ya ys oa os : Nat} {x : List (Sl WK SV) × List (Sl WK SV) × Nat} (h : StepAt w bt ya ys oa os x wr) :
    wr.cell? ⟨bt, 0, none⟩ = some hvW ∧ wr.cell? ⟨bt, 1, none⟩ = some (.pointer (some ⟨ya,0,none⟩)) ∧ wr.cell? ⟨bt, 2, none⟩ = some (.pointer (some ⟨oa,0,none⟩)) ∧ wr.cell? ⟨bt, 3, none⟩ = some (.int .i64 x.2.2) :=
  ⟨h.tb.cell 0, h.tb.cell 1, h.tb.cell 2, h.tb.cell 3⟩
theorem scells {w : World} {b : Nat} {s : Sl WK SV} (h : Blk w b (encS s) 132) : w.cell? ⟨b, 0, none⟩ = some (.int .u8 s.st) ∧ w.cell? ⟨b, 1, none⟩ = some (.int .i8 s.key.a) ∧ w.cell? ⟨b, 2, none⟩ = some (.int .u8 s.key.b0) ∧ w.cell? ⟨b, 3, none⟩ = some (.int .u8 s.key.b1) ∧ w.cell? ⟨b, 4, none⟩ = some (.string s.key.c) ∧ w.cell? ⟨b, 5, none⟩ = some (sv s.val) :=
  ⟨h.cell 0, h.cell 1, h.cell 2, h.cell 3, h.cell 4, h.cell 5⟩

set_option maxRecDepth 100000 in
set_option maxHeartbeats 6400000 in
theorem step_calls {w : World} {bt ya ys oa os : Nat} {T : Tab WK SV} (h : TabAt w bt ya ys oa os T) (hi : Inv LW T) :
    Calls Try.prog 69 #[.pointer (some ⟨bt,0,none⟩)] w fun e w' =>
      e = .returned (.tuple #[]) ∧ ∃ oa' os', TabAt w' bt ya ys oa' os' (stepM LW 0 0 T) ∧ (oa' = oa ∧ os' = os ∨ oa' = ya ∧ os' = ys) ∧ Keeps [bt, ya, ys, oa, os] w w' := by
  obtain ⟨t0, t1, t2, t3⟩ := h.cells
  cases ho : T.old with
  | none =>
    have e2 : opOf T oa = none := by unfold opOf; rw [ho]; rfl
    have e3 : stepM LW 0 0 T = T := by unfold stepM; rw [ho]
    rw [e2] at t2
    rw [e3]
    clear ho e2 e3
    go_enter Try.func69, Try.ntmps69
    go_wp2
    exact bodyPost_ret (results_none rfl _ _ _) rfl ⟨rfl, oa, os, h, .inl ⟨rfl, rfl⟩, Keeps.refl _ _⟩
  | some o =>
    have e2 : opOf T oa = some ⟨oa, 0, none⟩ := by unfold opOf; rw [ho]; rfl
    have htb := h.tb
    rw [e2] at t2 htb
    have hS0 : StepAt w bt ya ys oa os (T.young, o, T.mark) w := ⟨htb, h.yo, h.ol o ho, Keeps.refl _ _⟩
    obtain ⟨d1, d2⟩ := h.d1
    obtain ⟨d3, d4, d5, d6, d7, d8⟩ := h.d2 o ho
    obtain ⟨⟨e, he, hel⟩, hi2, hi3, hi4, hi5, hi6, hi7⟩ := hi.olds o ho
    have hpow := pow8 he
    have hM : ∀ j, Moving LW T.young o (moveN LW 0 0 j (T.young, o, T.mark)) ∧ (moveN LW 0 0 j (T.young, o, T.mark)).2.2 = T.mark + j := by
      intro j
      have hp : T.pairs = fulls o ++ fulls T.young := by unfold Tab.pairs Tab.oldFulls; rw [ho]
      have hu : Uniq ((fulls o ++ fulls T.young).map (cp LW)) := by have := hi.uniq; unfold Tab.M at this; rwa [hp] at this
      rw [hp] at hi6
      exact moveN_keeps LW 0 0 hu (by omega) j (x := (T.young, o, T.mark)) ⟨hi.yok, hi3, rfl, rfl, List.Perm.refl _, hi7⟩
    have hU : Uniq ((fulls o ++ fulls T.young).map (cp LW)) ∧ (fulls o ++ fulls T.young).length ≤ T.young.length := by
      have hp : T.pairs = fulls o ++ fulls T.young := by unfold Tab.pairs Tab.oldFulls; rw [ho]
      refine ⟨by have := hi.uniq; unfold Tab.M at this; rwa [hp] at this, ?_⟩
      rw [hp] at hi6; omega
    have hst : stepM LW 0 0 T = Tab.ended (moveN LW 0 0 8 (T.young, o, T.mark)).1 (moveN LW 0 0 8 (T.young, o, T.mark)).2.1 (moveN LW 0 0 8 (T.young, o, T.mark)).2.2 := by
      unfold stepM; rw [ho]
    have hm8 : T.mark + 8 ≤ o.length := by omega
    have HST := Lib.hid hst
    have HM := Lib.hid hM
    have HU := Lib.hid hU
    have HS0 := Lib.hid hS0
    have hol1 := (h.ol o ho).le
    have hyl1 := h.yo.le
    clear ho h hi hi3 hi7 hi6 hpow hel hi4 hi5 he hM hU hst hS0 htb e2
    go_enter Try.func69, Try.ntmps69
    go_wp2
    go_loopw [8] (fun i wr => ∃ j : Nat, j ≤ 8 ∧ i = .int .i64 j ∧ StepAt w bt ya ys oa os (moveN LW 0 0 j (T.young, o, T.mark)) wr) (fun i _ => 8 - (intOf i).toNat)
    case atStart => exact ⟨0, by omega, rfl, HS0.out⟩
    case round =>
      obtain ⟨j, hj, rfl, hS⟩ := hrel
      clear t0 t1 t2 t3
      obtain ⟨t0, t1, t2, t3⟩ := hS.cells
      obtain ⟨o0, o1, o2⟩ := hS.ol.cells
      obtain ⟨hm, hmk⟩ := HM.out j
      have hsucc := moveN_succ 0 0 j (T.young, o, T.mark)
      by_cases hlt : j < 8
      · generalize moveN LW 0 0 j (T.young, o, T.mark) = x at *
        have holen := hm.olen
        have hylen := hm.ylen
        have hxm : x.2.2 < x.2.1.length := by omega
        obtain ⟨s, hs⟩ : ∃ s, x.2.1[x.2.2]? = some s := ⟨_, List.getElem?_eq_getElem hxm⟩
        obtain ⟨s0, s1, s2, s3, s4, s5⟩ := wcells hS.ol.hs hs
        have hu' : Uniq ((fulls x.2.1 ++ fulls x.1).map (cp LW)) := HU.out.1.perm (hm.perm.symm.map _)
        have hul : 1 ≤ (fulls x.2.1).length → usedN x.1 < x.1.length := by
          intro hq
          have hlen := hm.perm.length_eq
          have := HU.out.2
          rw [List.length_append] at hlen
          show (fulls x.1).length < _; omega
        have hxo : x.2.1.length ≤ 1099511627776 := by omega
        have hxy : x.1.length ≤ 1099511627776 := by omega
        have l1 := hS.tb.lt
        have l2 := hS.yo.ha.lt
        have l3 := hS.yo.hs.lt
        have l4 := hS.ol.ha.lt
        have l5 := hS.ol.hs.lt
        have HUQ := Lib.hid hu'
        have HUL := Lib.hid hul
        have HYO := Lib.hid hm.yok
        have HSS := Lib.hid hs
        have HX := Lib.hid hsucc
        have HS := Lib.hid hS
        clear hu' hul hs hsucc hm hmk holen hylen hS
        go_wp2
        have hK1 : Keeps [] wr (wr.alloc (.cells (encS s).toArray 132)).drew := (Keeps.alloc (Keeps.refl _ _) _).drew
        have hsb : Blk (wr.alloc (.cells (encS s).toArray 132)).drew wr.heap.size (encS s) 132 := (Blk.new wr _ _).drew
        have HK1 := Lib.hid hK1
        have HSB := Lib.hid hsb
        clear hK1 hsb
        go_region
        obtain ⟨w1, hw1⟩ : ∃ w1, w1 = (wr.alloc (.cells (encS s).toArray 132)).drew := ⟨_, rfl⟩
        have hK1 := HK1.out
        have hsb := HSB.out
        change Exit.then _ _ _ _ (wr.alloc (.cells (encS s).toArray 132)).drew
        rw [← hw1] at hK1 hsb ⊢
        clear hw1 HK1 HSB
        obtain ⟨bb, hbb⟩ : ∃ bb, bb = wr.heap.size := ⟨_, rfl⟩
        rw [← hbb] at hsb l1 l2 l3 l4 l5 ⊢
        clear hbb t0 t1 t2 t3 s0 s1 s2 s3 s4 s5 o0 o1 o2
        have hS1 : StepAt w bt ya ys oa os x w1 := HS.out.keeps0 hK1
        obtain ⟨n0, n1, n2, n3, n4, n5⟩ := scells hsb
        have HS1 := Lib.hid hS1
        have HSB := Lib.hid hsb
        clear hK1 hsb hS1
        obtain ⟨t0, t1, t2, t3⟩ := HS1.out.cells
        by_cases h1 : s.st = 1
        · have H1 := Lib.hid h1
          rw [h1] at n0
          have hmem : (s.key, s.val) ∈ fulls x.2.1 := mem_fulls HSS.out H1.out
          have hlk : Lacks LW x.1 s.key := lacks_of_uniq _ HUQ.out hmem
          have huse : usedN x.1 < x.1.length := HUL.out (by have := List.length_pos_of_mem hmem; omega)
          have hlay := fun (W : World) (k : Keeps [] w1 W) => lay_calls hashW W ya ys x.1 s.key s.val (HS1.out.keeps0 k).yo HYO.out hlk huse
          have hcc := fun (W : World) (k : Keeps [] w1 W) => And.intro (HS1.out.keeps0 k).cells (scells (k.blk HSB.out (by simp)))
          have HLAY := Lib.hid hlay
          have HCC := Lib.hid hcc
          have HC := Lib.hid (clos_calls s.key)
          clear hmem hlk huse hlay h1 hcc
          have hmc := fun (p : Pt.Pile) => HCC.out (Pt.more w1 p) (more_keeps w1 p)
          have y0 := fun p => (hmc p).1.1
          have y1 := fun p => (hmc p).1.2.1
          have x1 := fun p => (hmc p).2.2.1
          have x2 := fun p => (hmc p).2.2.2.1
          have x3 := fun p => (hmc p).2.2.2.2.1
          have x4 := fun p => (hmc p).2.2.2.2.2.1
          have x5 := fun p => (hmc p).2.2.2.2.2.2
          have HCM := Lib.hid (clos_more s.key)
          clear hmc
          go_wp2_with fail
          refine Pt.region_tail_at (C := fun W => ∃ p, W = Pt.more w1 p) 15 41 rfl rfl rfl rfl (by kernel_rfl) (by kernel_rfl) (by kernel_rfl) (by kernel_rfl) (by kernel_rfl) ⟨⟨[], 1⟩, rfl⟩ ?_
          simp only [List.set_cons_succ, List.set_cons_zero, Pt.idle]
          repeat (quiet_step (exact HCM.out _ _))
          refine wpQuiet_nil ?_
          rintro _ ⟨p, rfl⟩
          go_simp
          have hk1p := more_keeps w1 p
          refine (HLAY.out _ hk1p).mono ?_
          rintro e w3 ⟨rfl, hy3, ks⟩
          have hS3 : StepAt w bt ya ys oa os (layM LW x.1 s.key s.val, x.2.1, x.2.2) w3 := by
            have h1 := HS1.out.keeps0 hk1p
            exact ⟨ks.blk h1.tb (by simp [d1, d2]), hy3, h1.ol.keeps ks (by simp [Ne.symm d5, Ne.symm d7]) (by simp [Ne.symm d6, Ne.symm d8]), h1.kp.trans ks (by simp)⟩
          have HS3 := Lib.hid hS3
          have HBURY := Lib.hid (bury_calls w3.drew oa os x.2.1 x.2.2 s (hS3.ol.keeps ((Keeps.refl [] _).drew) (by simp) (by simp)) HSS.out H1.out)
          clear hy3 ks hS3 hk1p y0 y1 x1 x2 x3 x4 x5 n0 n1 n2 n3 n4 n5 t0 t1 t2 t3 HLAY HCC HC HCM
          obtain ⟨t0, t1, t2, t3⟩ := HS3.out.cells
          simp only at t3
          go_wp2_with fail
          go_region_with (go_at_call 71; refine (HBURY.out).mono ?_; rintro e w5 ⟨rfl, ol5, k5⟩; have OL5 := Lib.hid ol5; have K5 := Lib.hid k5; clear ol5 k5)
          all_goals
            have k35 : Keeps [oa, os] w3 w5 := ((Keeps.refl [oa, os] w3).drew).trans K5.out (fun x hx _ => hx)
            have tb5 := k35.blk HS3.out.tb (by simp [d3, d4])
            have yo5 := HS3.out.yo.keeps k35 (by simp [d5, d6]) (by simp [d7, d8])
            have kp5 := HS3.out.kp.trans k35 (by simp)
            have TB5 := Lib.hid tb5
            have YO5 := Lib.hid yo5
            have KP5 := Lib.hid kp5
            clear t0 t1 t2 t3
            have t3 := tb5.cell 3
            simp only [List.getElem?_cons_zero, List.getElem?_cons_succ] at t3
            have f3 := tb5.frozen 3
            clear k35 tb5 yo5 kp5
            go_wp2
            go_roundw
            case rel =>
              refine ⟨j + 1, by omega, by go_num, ?_⟩
              have hx' : moveOne LW 0 0 x = (layM LW x.1 s.key s.val, buryM 0 0 x.2.1 x.2.2, x.2.2 + 1) := by
                unfold moveOne; simp only [HSS.out, H1.out, if_true]
              rw [HX.out, hx']
              have k6 : Keeps [bt] w5 (w5.setCell ⟨bt, 3, none⟩ (.int .i64 (↑x.2.2 + 1))) := Keeps.setCell (Keeps.refl _ _) _ _ (by simp)
              exact ⟨TB5.out.set 3 _, YO5.out.keeps k6 (by simpa using d1.symm) (by simpa using d2.symm), OL5.out.keeps k6 (by simpa using d3.symm) (by simpa using d4.symm), KP5.out.trans k6 (by simp)⟩
            case measure => simp [intOf]; omega
        · have hb1 : ((s.st : Int) == 1) = false := by rw [beq_eq_false_iff_ne]; omega
          have H1 := Lib.hid h1
          clear h1 n1 n2 n3 n4 n5
          have f3 := HS1.out.tb.frozen 3
          go_wp2_with fail
          go_roundw
          case rel =>
            refine ⟨j + 1, by omega, by go_num, ?_⟩
            have hx' : moveOne LW 0 0 x = (x.1, x.2.1, x.2.2 + 1) := by
              unfold moveOne; simp only [HSS.out, H1.out, if_false]
            rw [HX.out, hx']
            have k6 : Keeps [bt] w1 (w1.setCell ⟨bt, 3, none⟩ (.int .i64 (↑x.2.2 + 1))) := Keeps.setCell (Keeps.refl _ _) _ _ (by simp)
            exact ⟨HS1.out.tb.set 3 _, HS1.out.yo.keeps k6 (by simpa using d1.symm) (by simpa using d2.symm), HS1.out.ol.keeps k6 (by simpa using d3.symm) (by simpa using d4.symm), HS1.out.kp.trans k6 (by simp)⟩
          case measure => simp [intOf]; omega
      · obtain rfl : j = 8 := by omega
        have hst := HST.out
        generalize moveN LW 0 0 8 (T.young, o, T.mark) = x at *
        obtain ⟨y', o', m'⟩ := x
        have holen := hm.olen
        simp only at holen hmk t3 hst o0 o1 o2
        have HST2 := Lib.hid hst
        have hol' : o'.length ≤ 1099511627776 := by omega
        have f2 := hS.tb.frozen 2
        have f3 := hS.tb.frozen 3
        have HS := Lib.hid hS
        clear hm hmk holen hsucc hS hst
        by_cases he : o'.length ≤ m'
        · have he' : (o'.length : Int) ≤ (m' : Int) := by omega
          go_wp2
          go_quiet (fail)
          go_wp2
          refine bodyPost_end (results_none rfl _ _ _) rfl ⟨rfl, ya, ys, ?_, .inr ⟨rfl, rfl⟩, ?_⟩
          · have e : Tab.ended y' o' m' = ⟨y', none, 0⟩ := by unfold Tab.ended; rw [if_pos he]
            rw [HST2.out, e]
            have k6 : Keeps [bt] wr (((wr.drewN nq).setCell ⟨bt, 2, none⟩ (.pointer none)).setCell ⟨bt, 3, none⟩ (.int .i64 0)) := Keeps.setCell (Keeps.setCell ((Keeps.refl _ _).drewN _) _ _ (by simp)) _ _ (by simp)
            exact ⟨(HS.out.tb.set 2 _).set 3 _, HS.out.yo.keeps k6 (by simpa using d1.symm) (by simpa using d2.symm), fun o h => (by cases h), ⟨d1, d2⟩, fun o h => (by cases h), fun _ => ⟨rfl, rfl⟩⟩
          · exact Keeps.setCell (Keeps.setCell (HS.out.kp.drewN _) _ _ (by simp)) _ _ (by simp)
        · have he' : ¬ (o'.length : Int) ≤ (m' : Int) := by omega
          go_wp2
          go_quiet (fail)
          go_wp2
          refine bodyPost_end (results_none rfl _ _ _) rfl ⟨rfl, oa, os, ?_, .inl ⟨rfl, rfl⟩, ?_⟩
          · have e : Tab.ended y' o' m' = ⟨y', some o', m'⟩ := by unfold Tab.ended; rw [if_neg he]
            rw [HST2.out, e]
            have hq := HS.out.keeps0 ((Keeps.refl [] _).drewN nq)
            exact ⟨hq.tb, hq.yo, fun o h => (by cases h; exact hq.ol), ⟨d1, d2⟩, fun o h => ⟨d3, d4, d5, d6, d7, d8⟩, fun h => (by cases h)⟩
          · exact HS.out.kp.drewN nq
end Go.Proofs.Ytaomaeobgfeoiaa.W
