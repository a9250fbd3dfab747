/- TableSigns: the document's Step. -/
import Derived.Test.YtaomaeobgfeoiaaRb
import Derived.Test.YtaomaeobgfeoiaaTc
import Derived.StillTailTactics
import Derived.BigRegion
namespace Go.Proofs.Ytaomaeobgfeoiaa.R
open Go.RowKit Pl

theorem moveN_succ (z : FD) (zv : Int) : ∀ (n : Nat) (x : List (Sl FD Int) × List (Sl FD Int) × Nat), moveN LD z zv (n + 1) x = moveOne LD z zv (moveN LD z zv n x)
  | 0, x => rfl
  | n + 1, x => by
    show moveN LD z zv (n + 1) (moveOne LD z zv x) = _
    rw [moveN_succ z zv n]; rfl

/-- In the midst of a step. -/
structure StepAt (w : World) (bm yb ob : Nat) (x : List (Sl FD Int) × List (Sl FD Int) × Nat) (wr : World) : Prop where
  rf : RefAt wr bm yb ob ⟨x.1, some x.2.1, x.2.2⟩
  kp : Keeps [bm, yb, ob] w wr

theorem StepAt.cells {w wr : World} {bm yb ob : Nat} {x : List (Sl FD Int) × List (Sl FD Int) × Nat} (h : StepAt w bm yb ob x wr) :
    wr.cell? ⟨bm, 2, none⟩ = some (.slice (some ⟨yb, 0, none⟩) x.1.length x.1.length) ∧ wr.cell? ⟨bm, 3, none⟩ = some (.slice (some ⟨ob, 0, none⟩) x.2.1.length x.2.1.length) ∧ wr.cell? ⟨bm, 4, none⟩ = some (.bool true) ∧ wr.cell? ⟨bm, 5, none⟩ = some (.int .i64 x.2.2) :=
  ⟨h.rf.bk.cell 2, h.rf.bk.cell 3, h.rf.bk.cell 4, h.rf.bk.cell 5⟩

/-- What a slot's burying leaves. -/
abbrev buried (w : World) (b p : Nat) : World := (((w.setCell ⟨b, p * 4, none⟩ (.int .i64 2)).setCell ⟨b, p * 4 + 1, none⟩ (.int .i64 0)).setCell ⟨b, p * 4 + 2, none⟩ (.int .i64 0)).setCell ⟨b, p * 4 + 3, none⟩ (.int .i64 0)
theorem buried_keeps (w : World) (b p : Nat) : Keeps [b] w (buried w b p) := by
  refine Keeps.setCell (Keeps.setCell (Keeps.setCell (Keeps.setCell (Keeps.refl _ _) _ _ ?_) _ _ ?_) _ _ ?_) _ _ ?_ <;> simp
theorem buried_blk {w : World} {b p : Nat} {sl : List (Sl FD Int)} {s : Sl FD Int} (h : Blk w b (sl.flatMap encR) 101) (hs : sl[p]? = some s) : Blk (buried w b p) b ((buryM 0 0 sl p).flatMap encR) 101 := by
  have := (((h.set (p * 4) (.int .i64 2)).set (p * 4 + 1) (.int .i64 0)).set (p * 4 + 2) (.int .i64 0)).set (p * 4 + 3) (.int .i64 0)
  have e := flat4 hs 2 0 0
  unfold buryM
  rw [← e]
  exact this
theorem RefAt.buriedO {w : World} {bm yb ob p m : Nat} {y o : List (Sl FD Int)} {s : Sl FD Int} (h : RefAt w bm yb ob ⟨y, some o, m⟩) (hs : o[p]? = some s) :
    RefAt (buried w ob p) bm yb ob ⟨y, some (buryM 0 0 o p), m⟩ := by
  have k := buried_keeps w ob p
  obtain ⟨d2, d3⟩ := h.d2 o rfl
  refine ⟨?_, k.blk h.yo (by simpa using d3), fun o' e => ?_, h.d1, fun _ _ => ⟨d2, d3⟩, fun e => (by cases e)⟩
  · have := k.blk h.bk (by simpa using d2)
    have e : (buryM 0 0 o p).length = o.length := by unfold buryM; rw [List.length_set]
    simp only [oldV, e]
    exact this
  · cases e; exact buried_blk (h.ol o rfl) hs
theorem RefAt.buriedY {w : World} {bm yb ob p : Nat} {T : Tab FD Int} {s : Sl FD Int} (h : RefAt w bm yb ob T) (hs : T.young[p]? = some s) :
    RefAt (buried w yb p) bm yb ob { T with young := buryM 0 0 T.young p } := by
  have k := buried_keeps w yb p
  refine ⟨?_, buried_blk h.yo hs, fun o e => k.blk (h.ol o e) (by have := (h.d2 o e).2; simpa using this.symm), h.d1, h.d2, h.d3⟩
  have := k.blk h.bk (by simpa using h.d1)
  have e : (buryM 0 0 T.young p).length = T.young.length := by unfold buryM; rw [List.length_set]
  simp only [e]
  exact this
theorem RefAt.marked {w : World} {bm yb ob m m' : Nat} {y o : List (Sl FD Int)} (h : RefAt w bm yb ob ⟨y, some o, m⟩) (v : Int) (hv : v = (m' : Nat)) :
    RefAt (w.setCell ⟨bm, 5, none⟩ (.int .i64 v)) bm yb ob ⟨y, some o, m'⟩ ∧ Keeps [bm] w (w.setCell ⟨bm, 5, none⟩ (.int .i64 v)) := by
  subst hv
  have k6 : Keeps [bm] w (w.setCell ⟨bm, 5, none⟩ (.int .i64 (m' : Nat))) := Keeps.setCell (Keeps.refl _ _) _ _ (by simp)
  obtain ⟨d2, d3⟩ := h.d2 o rfl
  have d1 := h.d1
  exact ⟨⟨h.bk.set 5 _, k6.blk h.yo (by simpa using d1.symm), fun o e => k6.blk (h.ol o e) (by simpa using d2.symm), d1, fun _ _ => ⟨d2, d3⟩, fun e => (by cases e)⟩, k6⟩

set_option maxRecDepth 100000 in
set_option maxHeartbeats 3200000 in
theorem step_calls {w : World} {bm yb ob : Nat} {T : Tab FD Int} (h : RefAt w bm yb ob T) (hi : Inv LD T) (hy : T.young.length ≤ 1099511627776) :
    Calls Try.prog 52 #[.pointer (some ⟨bm, 0, none⟩)] w fun e w' =>
      e = .returned (.tuple #[]) ∧ ∃ ob', RefAt w' bm yb ob' (stepM LD 0 0 T) ∧ (ob' = ob ∨ ob' = yb) ∧ Keeps [bm, yb, ob] w w' := by
  cases ho : T.old with
  | none =>
    have e3 : stepM LD 0 0 T = T := by unfold stepM; rw [ho]
    have c4 : w.cell? ⟨bm, 4, none⟩ = some (.bool false) := by have := h.bk.cell 4; rw [ho] at this; exact this
    rw [e3]
    clear ho e3
    go_enter Try.func52, Try.ntmps52
    go_wp2
    exact bodyPost_ret (results_none rfl _ _ _) rfl ⟨rfl, ob, h, .inl rfl, Keeps.refl _ _⟩
  | some o =>
    have hS0 : StepAt w bm yb ob (T.young, o, T.mark) w := by
      refine ⟨⟨?_, h.yo, fun o' e => ?_, h.d1, fun o' e => ?_, fun e => (by cases e)⟩, Keeps.refl _ _⟩
      · have := h.bk; rw [ho] at this; exact this
      · cases e; exact h.ol o ho
      · exact h.d2 o ho
    obtain ⟨c2, c3, c4, c5⟩ := hS0.cells
    have d1 := h.d1
    obtain ⟨d2, d3⟩ := h.d2 o ho
    obtain ⟨⟨e, he, hel⟩, hi2, hi3, hi4, hi5, hi6, hi7⟩ := hi.olds o ho
    have hpow := pow8 he
    have hM : ∀ j, Moving LD T.young o (moveN LD 0 0 j (T.young, o, T.mark)) ∧ (moveN LD 0 0 j (T.young, o, T.mark)).2.2 = T.mark + j := by
      intro j
      have hp : T.pairs = fulls o ++ fulls T.young := by unfold Tab.pairs Tab.oldFulls; rw [ho]
      have hu : Uniq ((fulls o ++ fulls T.young).map (cp LD)) := by have := hi.uniq; unfold Tab.M at this; rwa [hp] at this
      rw [hp] at hi6
      exact moveN_keeps LD 0 0 hu (by omega) j (x := (T.young, o, T.mark)) ⟨hi.yok, hi3, rfl, rfl, List.Perm.refl _, hi7⟩
    have hU : Uniq ((fulls o ++ fulls T.young).map (cp LD)) ∧ (fulls o ++ fulls T.young).length ≤ T.young.length := by
      have hp : T.pairs = fulls o ++ fulls T.young := by unfold Tab.pairs Tab.oldFulls; rw [ho]
      refine ⟨by have := hi.uniq; unfold Tab.M at this; rwa [hp] at this, ?_⟩
      rw [hp] at hi6; omega
    have hst : stepM LD 0 0 T = Tab.ended (moveN LD 0 0 8 (T.young, o, T.mark)).1 (moveN LD 0 0 8 (T.young, o, T.mark)).2.1 (moveN LD 0 0 8 (T.young, o, T.mark)).2.2 := by
      unfold stepM; rw [ho]
    have hm8 : T.mark + 8 ≤ o.length := by omega
    have hol : o.length ≤ 1099511627776 := by omega
    have HST := Lib.hid hst
    have HM := Lib.hid hM
    have HU := Lib.hid hU
    have HS0 := Lib.hid hS0
    clear ho h hi hi3 hi7 hi6 hpow hel hi4 hi5 he hM hU hst hS0
    go_enter Try.func52, Try.ntmps52
    go_wp2
    go_loopw [2] (fun i wr => ∃ j : Nat, j ≤ 8 ∧ i = .int .i64 j ∧ StepAt w bm yb ob (moveN LD 0 0 j (T.young, o, T.mark)) wr) (fun i _ => 8 - (intOf i).toNat)
    case atStart => exact ⟨0, by omega, rfl, HS0.out⟩
    case round =>
      obtain ⟨j, hj, rfl, hS⟩ := hrel
      clear c2 c3 c4 c5
      obtain ⟨c2, c3, c4, c5⟩ := hS.cells
      obtain ⟨hm, hmk⟩ := HM.out j
      have hsucc := moveN_succ 0 0 j (T.young, o, T.mark)
      by_cases hlt : j < 8
      · generalize moveN LD 0 0 j (T.young, o, T.mark) = x at *
        have holen := hm.olen
        have hylen := hm.ylen
        have hxm : x.2.2 < x.2.1.length := by omega
        obtain ⟨s, hs⟩ : ∃ s, x.2.1[x.2.2]? = some s := ⟨_, List.getElem?_eq_getElem hxm⟩
        obtain ⟨s0, s1, s2, s3⟩ := rcell (hS.rf.ol _ rfl) hs
        have hu' : Uniq ((fulls x.2.1 ++ fulls x.1).map (cp LD)) := HU.out.1.perm (hm.perm.symm.map _)
        have hul : 1 ≤ (fulls x.2.1).length → usedN x.1 < x.1.length := by
          intro hq
          have hlen := hm.perm.length_eq
          have := HU.out.2
          rw [List.length_append] at hlen
          show (fulls x.1).length < _; omega
        have hxo : x.2.1.length ≤ 1099511627776 := by omega
        have hxy : x.1.length ≤ 1099511627776 := by omega
        have l1 := hS.rf.bk.lt
        have l2 := hS.rf.yo.lt
        have l3 := (hS.rf.ol _ rfl).lt
        have HUQ := Lib.hid hu'
        have HUL := Lib.hid hul
        have HYO := Lib.hid hm.yok
        have HSS := Lib.hid hs
        have HX := Lib.hid hsucc
        have HS := Lib.hid hS
        clear hu' hul hs hsucc hm hmk holen hylen hS
        go_wp2
        have hK1 : Keeps [] wr (wr.alloc (.cells [.int .i64 s.st, .int .i64 (keyD s.key : Nat), .int .i64 (tagD s.key : Nat), .int .i64 s.val].toArray 101)).drew := (Keeps.alloc (Keeps.refl _ _) _).drew
        have hsb : Blk (wr.alloc (.cells [.int .i64 s.st, .int .i64 (keyD s.key : Nat), .int .i64 (tagD s.key : Nat), .int .i64 s.val].toArray 101)).drew wr.heap.size [.int .i64 s.st, .int .i64 (keyD s.key : Nat), .int .i64 (tagD s.key : Nat), .int .i64 s.val] 101 := (Blk.new wr _ _).drew
        have HK1 := Lib.hid hK1
        have HSB := Lib.hid hsb
        clear hK1 hsb
        go_region
        obtain ⟨w1, hw1⟩ : ∃ w1, w1 = (wr.alloc (.cells [.int .i64 s.st, .int .i64 (keyD s.key : Nat), .int .i64 (tagD s.key : Nat), .int .i64 s.val].toArray 101)).drew := ⟨_, rfl⟩
        have hK1 := HK1.out
        have hsb := HSB.out
        rw [← hw1] at hK1 hsb ⊢
        clear hw1 HK1 HSB
        obtain ⟨bb, hbb⟩ : ∃ bb, bb = wr.heap.size := ⟨_, rfl⟩
        rw [← hbb] at hsb l1 l2 l3 ⊢
        clear hbb c2 c3 c4 c5 s0 s1 s2 s3
        have hS1 : StepAt w bm yb ob x w1 := ⟨HS.out.rf.keeps hK1 (by simp), HS.out.kp.trans hK1 (by simp)⟩
        have n0 := hsb.cell 0
        have n1 := hsb.cell 1
        have n2 := hsb.cell 2
        have n3 := hsb.cell 3
        simp only [List.getElem?_cons_zero, List.getElem?_cons_succ] at n0 n1 n2 n3
        have HS1 := Lib.hid hS1
        clear hK1 hsb hS1
        by_cases h1 : s.st = 1
        · have H1 := Lib.hid h1
          rw [h1] at n0
          have hmem : (s.key, s.val) ∈ fulls x.2.1 := mem_fulls HSS.out H1.out
          have hlk : Lacks LD x.1 s.key := lacks_of_uniq _ HUQ.out hmem
          have huse : usedN x.1 < x.1.length := HUL.out (by have := List.length_pos_of_mem hmem; omega)
          have hlay := lay_calls HS1.out.rf HYO.out hlk huse hxy s.val
          have HLAY := Lib.hid hlay
          clear hmem hlk huse hlay h1
          go_wp2_with fail
          refine (HLAY.out).mono ?_
          rintro e w3 ⟨rfl, hr3, hk3⟩
          have hS3 : StepAt w bm yb ob (layM LD x.1 s.key s.val, x.2.1, x.2.2) w3 := ⟨hr3, HS1.out.kp.trans hk3 (by simp)⟩
          obtain ⟨c2, c3, c4, c5⟩ := hS3.cells
          simp only at c3 c5
          obtain ⟨s0, s1, s2, s3⟩ := rcell (hS3.rf.ol _ rfl) HSS.out
          have f0 := (hS3.rf.ol _ rfl).frozen (x.2.2 * 4)
          have f1 := (hS3.rf.ol _ rfl).frozen (x.2.2 * 4 + 1)
          have f2 := (hS3.rf.ol _ rfl).frozen (x.2.2 * 4 + 2)
          have f3 := (hS3.rf.ol _ rfl).frozen (x.2.2 * 4 + 3)
          have HS3 := Lib.hid hS3
          clear hr3 hk3 hS3 n0 n1 n2 n3 c2 c4
          go_wp2_with fail
          go_region
          have hB := HS3.out.rf.buriedO HSS.out
          have hkB := buried_keeps w3 ob x.2.2
          obtain ⟨w4, hw4⟩ : ∃ w4, w4 = (buried w3 ob x.2.2).drew := ⟨_, rfl⟩
          have hk4 : Keeps [ob] w3 w4 := by rw [hw4]; exact hkB.drew
          have hr4 : RefAt w4 bm yb ob ⟨layM LD x.1 s.key s.val, some (buryM 0 0 x.2.1 x.2.2), x.2.2⟩ := by rw [hw4]; exact hB.keeps (Keeps.refl [] _).drew (by simp)
          change Exit.then _ _ _ _ (buried w3 ob x.2.2).drew
          rw [← hw4]
          clear hB hkB hw4 f0 f1 f2 f3 s0 s1 s2 s3 c3 c5
          have c5 : w4.cell? ⟨bm, 5, none⟩ = some (.int .i64 x.2.2) := hr4.bk.cell 5
          have f5 := hr4.bk.frozen 5
          have HR4 := Lib.hid hr4
          have HK4 := Lib.hid hk4
          clear hr4 hk4
          go_wp2_with fail
          go_roundw
          case rel =>
            refine ⟨j + 1, by omega, by go_num, ?_⟩
            have hx' : moveOne LD 0 0 x = (layM LD x.1 s.key s.val, buryM 0 0 x.2.1 x.2.2, x.2.2 + 1) := by
              unfold moveOne; simp only [HSS.out, H1.out, if_true]
            rw [HX.out, hx']
            obtain ⟨q1, q2⟩ := HR4.out.marked (m' := x.2.2 + 1) ((x.2.2 : Int) + 1) (by omega)
            exact ⟨q1, (HS3.out.kp.trans HK4.out (by simp)).trans q2 (by simp)⟩
          case measure => simp [intOf]; omega
        · have hb1 : ((s.st : Int) == 1) = false := by rw [beq_eq_false_iff_ne]; omega
          have H1 := Lib.hid h1
          clear h1 n1 n2 n3
          obtain ⟨c2, c3, c4, c5⟩ := HS1.out.cells
          have f5 := HS1.out.rf.bk.frozen 5
          go_wp2_with fail
          go_roundw
          case rel =>
            refine ⟨j + 1, by omega, by go_num, ?_⟩
            have hx' : moveOne LD 0 0 x = (x.1, x.2.1, x.2.2 + 1) := by
              unfold moveOne; simp only [HSS.out, H1.out, if_false]
            rw [HX.out, hx']
            obtain ⟨q1, q2⟩ := HS1.out.rf.marked (m' := x.2.2 + 1) ((x.2.2 : Int) + 1) (by omega)
            exact ⟨q1, HS1.out.kp.trans q2 (by simp)⟩
          case measure => simp [intOf]; omega
      · obtain rfl : j = 8 := by omega
        have hst := HST.out
        generalize moveN LD 0 0 8 (T.young, o, T.mark) = x at *
        obtain ⟨y', o', m'⟩ := x
        have holen := hm.olen
        simp only at holen hmk c2 c3 c4 c5 hst
        have HST2 := Lib.hid hst
        clear hst
        have hend : ¬ o'.length < m' := by omega
        have hol' : o'.length ≤ 1099511627776 := by omega
        have f3 := hS.rf.bk.frozen 3
        have f4 := hS.rf.bk.frozen 4
        have f5 := hS.rf.bk.frozen 5
        have HS := Lib.hid hS
        clear hm hmk holen hsucc hS
        by_cases he : o'.length ≤ m'
        · obtain rfl : m' = o'.length := by omega
          clear hend
          go_wp2
          go_quiet (fail)
          go_wp2
          refine bodyPost_end (results_none rfl _ _ _) rfl ⟨rfl, yb, ?_, .inr rfl, ?_⟩
          · have e : Tab.ended y' o' o'.length = ⟨y', none, 0⟩ := by unfold Tab.ended; rw [if_pos he]
            rw [HST2.out, e]
            have k6 : Keeps [bm] wr ((((wr.drewN nq).setCell ⟨bm, 4, none⟩ (.bool false)).setCell ⟨bm, 3, none⟩ (.slice none 0 0)).setCell ⟨bm, 5, none⟩ (.int .i64 0)) := Keeps.setCell (Keeps.setCell (Keeps.setCell ((Keeps.refl _ _).drewN _) _ _ (by simp)) _ _ (by simp)) _ _ (by simp)
            exact ⟨((HS.out.rf.bk.set 4 _).set 3 _).set 5 _, k6.blk HS.out.rf.yo (by simpa using d1.symm), fun o h => (by cases h), d1, fun o h => (by cases h), fun _ => rfl⟩
          · exact (Keeps.setCell (Keeps.setCell (Keeps.setCell (HS.out.kp.drewN _) _ _ (by simp)) _ _ (by simp)) _ _ (by simp))
        · have hne : ((m' : Int) == (o'.length : Int)) = false := by rw [beq_eq_false_iff_ne]; omega
          clear hend
          go_wp2
          go_quiet (fail)
          go_wp2
          refine bodyPost_end (results_none rfl _ _ _) rfl ⟨rfl, ob, ?_, .inl rfl, ?_⟩
          · have e : Tab.ended y' o' m' = ⟨y', some o', m'⟩ := by unfold Tab.ended; rw [if_neg he]
            rw [HST2.out, e]
            exact HS.out.rf.keeps ((Keeps.refl [] _).drewN nq) (by simp)
          · exact HS.out.kp.drewN nq
end Go.Proofs.Ytaomaeobgfeoiaa.R
