import Derived.Test.YtaomaeobgfeoiaaGh
namespace Go.Proofs.Ytaomaeobgfeoiaa.G
open Go.RowKit Pl
attribute [local go_sem] run_store_float

theorem delS_hit {L : KeyLaw FD Nat} {T : Tab FD Int} {k : FD} {b : Bool} {p : Nat} {s : Sl FD Int} (hh : Hit L T k b p s) :
    delS L 0 0 T k = (T.setArr b (buryM 0 0 (T.arr b) p), s.val, true) := by
  obtain ⟨x, _, _, _, hv⟩ := hh.parts
  unfold delS
  rw [if_neg (by rw [hh.p_]; omega), hh.b_, hv, hh.p_, show ((p : Nat) : Int).toNat = p from by omega]
theorem delS_miss {L : KeyLaw FD Nat} {T : Tab FD Int} {k : FD} (h : (seekM L T k).2.1 = -1) : delS L 0 0 T k = (T, 0, false) := by
  unfold delS
  rw [if_pos (by omega)]

theorem TabAt.setArr {w w' : World} {hv : Value} {bt ya ys oa os : Nat} {T : Tab FD Int} (h : TabAt w hv bt ya ys oa os T) {b : Bool} {sl : List (Sl FD Int)} (hb : b = false → ∃ o, T.old = some o)
    (ha : ArrAt w' (if b then ya else oa) (if b then ys else os) sl) (k : Keeps [if b then ya else oa, if b then ys else os] w w') : TabAt w' hv bt ya ys oa os (T.setArr b sl) := by
  obtain ⟨d1, d2⟩ := h.d1
  cases b with
  | true =>
    simp only [if_true] at ha k
    refine ⟨k.blk h.tb (by simp [d1, d2]), ha, fun o ho => ?_, ⟨d1, d2⟩, h.d2, h.d3⟩
    obtain ⟨e1, e2, e3, e4, e5, e6⟩ := h.d2 o ho
    exact (h.ol o ho).keeps k (by simp [Ne.symm e3, Ne.symm e5]) (by simp [Ne.symm e4, Ne.symm e6])
  | false =>
    obtain ⟨o, ho⟩ := hb rfl
    obtain ⟨e1, e2, e3, e4, e5, e6⟩ := h.d2 o ho
    simp only [Bool.false_eq_true, if_false] at ha k
    have e7 : opOf (T.setArr false sl) oa = opOf T oa := by unfold opOf Tab.setArr; simp [ho]
    refine ⟨?_, h.yo.keeps k (by simp [e3, e4]) (by simp [e5, e6]), fun o1 h1 => ?_, ⟨d1, d2⟩, fun o1 _ => ⟨e1, e2, e3, e4, e5, e6⟩, fun h => (by cases h)⟩
    · rw [e7]; exact k.blk h.tb (by simp [e1, e2])
    · cases h1; exact ha

set_option maxRecDepth 100000 in
set_option maxHeartbeats 1600000 in
theorem del_calls {w : World} {t : FHashD} {m : Int} {ct cm bt ya ys oa os : Nat} {T : Tab FD Int} (h : TabAt w (hvI ct cm) bt ya ys oa os T) (hH : HOk w t m ct cm) (hi : Inv (LI (hashI t m)) T)
    (hct : ct ∉ [bt, ya, ys, oa, os]) (hcm : cm ∉ [bt, ya, ys, oa, os]) (k : FD) :
    Calls Try.prog 12 #[.pointer (some ⟨bt,0,none⟩), .float .f64 k.1] w fun e w' =>
      e = .returned (.tuple #[.int .i64 (delM (LI (hashI t m)) 0 0 T k).2.1, .bool (delM (LI (hashI t m)) 0 0 T k).2.2]) ∧
      ∃ oa' os', TabAt w' (hvI ct cm) bt ya ys oa' os' (delM (LI (hashI t m)) 0 0 T k).1 ∧ FreshOr [bt, ya, ys, oa, os] w [bt, ya, ys, oa', os'] ∧ Keeps [bt, ya, ys, oa, os] w w' := by
  have hm := made_calls h
  have hst := step_calls h hH hi hct hcm
  obtain ⟨hi1, hp1, hl1, hl2⟩ := step_spec (LI (hashI t m)) 0 0 hi
  unfold delM
  generalize stepM (LI (hashI t m)) 0 0 T = T1 at *
  have HM := Lib.hid hm
  have HST := Lib.hid hst
  have HI := Lib.hid hi1
  clear hm hst hi1 hp1 hl1 hl2
  go_enter Try.func12, Try.ntmps12
  go_wp2_with fail
  refine (HM.out).mono ?_
  rintro e w ⟨rfl, rfl⟩
  go_wp2_with fail
  refine (HST.out).mono ?_
  rintro e w1 ⟨rfl, oa1, os1, h1, hoo, hk1⟩
  have hsub := sub_step (bt := bt) hoo
  have hH1 := hH.keeps hk1 hct hcm
  obtain ⟨t0, t1, t2, t3⟩ := h1.cells
  simp only [hvI] at t0
  have HC := Lib.hid (hH1.calls k)
  have hi1 := HI.out
  have ha1 := hi1.a
  have hs := seek_calls (hashI t m) h1 ha1 k
  have HSUB := Lib.hid hsub
  have HK1 := Lib.hid hk1
  have HOO := Lib.hid hoo
  clear hsub hk1 hoo
  rcases seek_spec (LI (hashI t m)) ha1 k with ⟨b, p, s, hh⟩ | ⟨hm1, _⟩
  · rw [hh.b_, hh.p_] at hs
    generalize (seekM (LI (hashI t m)) T1 k).2.2 = r3 at *
    have hpe := delS_hit hh
    have harr := h1.arr hh
    have hbo : b = false → ∃ o, T1.old = some o := fun e => by obtain ⟨o, ho, _⟩ := hh.old e; exact ⟨o, ho⟩
    have hsb : ∀ x ∈ [if b then ya else oa1, if b then ys else os1], x ∈ [bt, ya, ys, oa1, os1] := by
      intro x hx
      cases b <;> simp only [List.mem_cons, List.not_mem_nil, or_false, if_true, if_false, Bool.false_eq_true] at hx ⊢ <;> omega
    have hset := fun w' => TabAt.setArr (w' := w') (h1.drewN 0) (sl := buryM 0 0 (T1.arr b) p) hbo
    generalize (if b then ya else oa1) = ba at *
    generalize (if b then ys else os1) = bs at *
    have HS := Lib.hid hs
    have HPE := Lib.hid hpe
    have HAT := Lib.hid hh.at_
    have HFULL := Lib.hid hh.full
    have HARR := Lib.hid harr
    have HSET := Lib.hid hset
    have HSB := Lib.hid hsb
    clear hs hpe hh harr hset hsb hbo
    have hb0 : (0 : Int) ≤ (p : Int) := by omega
    go_wp2_with fail
    refine (HC.out).mono ?_
    rintro e w1 ⟨rfl, rfl⟩
    go_wp2_with fail
    refine (HS.out).mono ?_
    rintro e w3 ⟨rfl, n, rfl⟩
    go_wp2_with fail
    refine (bury_calls _ ba bs (T1.arr b) p s (HARR.out.drewN n) HAT.out HFULL.out).mono ?_
    rintro e w4 ⟨rfl, ol4, k4, hz4⟩
    go_wp2
    go_ret2
    rw [HPE.out]
    have k4' : Keeps [ba, bs] w1 w4 := ((Keeps.refl [ba, bs] w1).drewN n).trans k4 (fun x hx _ => hx)
    have hsub := HSUB.out
    have hsb := HSB.out
    exact ⟨rfl, oa1, os1, HSET.out w4 ol4 k4', fresh_sub hsub, HK1.out.trans k4' (fun x hx _ => hsub x (hsb x hx))⟩
  · rw [hm1] at hs
    have hpe := delS_miss hm1
    generalize (seekM (LI (hashI t m)) T1 k).2.2 = r3 at *
    generalize (seekM (LI (hashI t m)) T1 k).1 = b at *
    generalize (if b then ya else oa1) = ba at *
    have HS := Lib.hid hs
    have HPE := Lib.hid hpe
    clear hs hpe hm1
    go_wp2_with fail
    refine (HC.out).mono ?_
    rintro e w1 ⟨rfl, rfl⟩
    go_wp2_with fail
    refine (HS.out).mono ?_
    rintro e w3 ⟨rfl, n, rfl⟩
    go_wp2
    go_ret2
    rw [HPE.out]
    have hsub := HSUB.out
    exact ⟨rfl, oa1, os1, h1.drewN n, fresh_sub hsub, HK1.out.drewN n⟩

def tab0 : Tab FD Int := ⟨List.replicate 8 ⟨0, 0, 0⟩, none, 0⟩

theorem inv0 (L : KeyLaw FD Nat) : Inv L tab0 := by
  have hp : tab0.pairs = [] := by unfold Tab.pairs Tab.oldFulls tab0; simp only; rw [fulls_replicate]; rfl
  refine ⟨⟨3, by omega, by simp [tab0]⟩, ⟨?_, ?_⟩, fun o h => (by cases h), fun _ => ⟨rfl, ?_⟩, ?_⟩
  · intro s hs; simp only [tab0] at hs; rw [List.eq_of_mem_replicate hs]; simp
  · intro q s hs h1
    have := List.mem_of_getElem? hs
    simp only [tab0] at this
    rw [List.eq_of_mem_replicate this] at h1; cases h1
  · simp only [tab0]; rw [usedN_replicate]; omega
  · unfold Tab.M; rw [hp]; exact List.nodup_nil

theorem newArr_calls (w : World) (n : Nat) (hn : ∃ e, e ≤ 40 ∧ n = 2 ^ e) : Calls Try.prog 46 #[.int .i64 n] w fun e w' => ∃ na ns, e = .returned (.pointer (some ⟨na, 0, none⟩)) ∧ w.heap.size ≤ na ∧ w.heap.size ≤ ns ∧
      ArrAt w' na ns (List.replicate n ⟨0, 0, 0⟩) ∧ Keeps [] w w' := by
  have hn' : n ≤ 1099511627776 := by
    obtain ⟨e, he, rfl⟩ := hn
    have : 2 ^ e ≤ 2 ^ 40 := Nat.pow_le_pow_right (by decide) he
    omega
  refine (newArray_calls n w hn').mono ?_
  rintro e w' ⟨rfl, rfl⟩
  have k : Keeps [] w ((w.alloc (.cells ((List.replicate n (⟨0, 0, 0⟩ : Sl FD Int)).flatMap encS).toArray 103)).alloc (.cells #[.slice (some ⟨w.heap.size, 0, none⟩) n n, .int .i64 0, .int .i64 0] 106)) := ((Keeps.refl _ _).alloc _).alloc _
  refine ⟨_, w.heap.size, rfl, by omega, by omega, ⟨?_, ?_, by omega, ?_⟩, k⟩
  · rw [usedN_replicate, tombN_replicate, List.length_replicate]
    have := Blk.new (w.alloc (.cells ((List.replicate n (⟨0, 0, 0⟩ : Sl FD Int)).flatMap encS).toArray 103)) [.slice (some ⟨w.heap.size, 0, none⟩) n n, .int .i64 0, .int .i64 0] 106
    rw [World.size_alloc] at this
    exact this
  · exact (Blk.new w _ _).alloc _
  · obtain ⟨e, he, hl⟩ := hn
    exact ⟨e, he, by simpa using hl⟩

theorem new_calls (w : World) (ct cm : Nat) : Calls Try.prog 7 #[hvI ct cm] w fun e w' =>
    ∃ bt ya ys, e = .returned (.pointer (some ⟨bt, 0, none⟩)) ∧ TabAt w' (hvI ct cm) bt ya ys ya ys tab0 ∧ Keeps [] w w' ∧ w.heap.size ≤ bt ∧ w.heap.size ≤ ya ∧ w.heap.size ≤ ys := by
  have hn := newArr_calls w 8 ⟨3, by omega, rfl⟩
  have heq : ∀ w : World, (binOp .eql 28 (hvI ct cm) .nilFunc).run Try.prog w = .ok (.bool false) w := fun _ => by kernel_rfl
  simp only [hvI] at heq
  have HN := Lib.hid hn
  clear hn
  simp only [hvI]
  go_enter Try.func7, Try.ntmps7
  go_wp2_with fail
  refine (HN.out).mono ?_
  rintro e w' ⟨na, ns, rfl, g1, g2, g3, g4⟩
  go_wp2
  go_ret
  have l1 := g3.ha.lt
  have l2 := g3.hs.lt
  refine ⟨w'.heap.size, na, ns, rfl, ⟨Blk.new w' [hvI ct cm, .pointer (some ⟨na, 0, none⟩), .pointer none, .int .i64 0] 90, g3.keeps ((Keeps.refl [] w').alloc _) (by simp) (by simp), fun o h => (by cases h), ⟨by omega, by omega⟩, fun o h => (by cases h), fun _ => ⟨rfl, rfl⟩⟩, g4.alloc _, g4.size, g1, g2⟩
end Go.Proofs.Ytaomaeobgfeoiaa.G
