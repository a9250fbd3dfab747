/- TableWide: New, Del; what a nil table answers. -/
import Derived.Test.YtaomaeobgfeoiaaWh
namespace Go.Proofs.Ytaomaeobgfeoiaa.W
open Go.RowKit Pl

theorem delS_hit {L : KeyLaw WK WK} {T : Tab WK SV} {k : WK} {b : Bool} {p : Nat} {s : Sl WK SV} (hh : Hit L T k b p s) :
    delS L 0 0 T k = (T.setArr b (buryM 0 0 (T.arr b) p), s.val, true) := by
  obtain ⟨x, _, _, _, hv⟩ := hh.parts
  unfold delS
  rw [if_neg (by rw [hh.p_]; omega), hh.b_, hv, hh.p_, show ((p : Nat) : Int).toNat = p from by omega]
theorem delS_miss {L : KeyLaw WK WK} {T : Tab WK SV} {k : WK} (h : (seekM L T k).2.1 = -1) : delS L 0 0 T k = (T, 0, false) := by
  unfold delS
  rw [if_pos (by omega)]

theorem TabAt.setArr {w w' : World} {bt ya ys oa os : Nat} {T : Tab WK SV} (h : TabAt w bt ya ys oa os T) {b : Bool} {sl : List (Sl WK SV)} (hb : b = false → ∃ o, T.old = some o)
    (ha : ArrAt w' (if b then ya else oa) (if b then ys else os) sl) (k : Keeps [if b then ya else oa, if b then ys else os] w w') : TabAt w' bt ya ys oa os (T.setArr b sl) := by
  obtain ⟨d1, d2⟩ := h.d1
  cases b with
  | true =>
    simp only [if_true] at ha k
    refine ⟨k.blk h.tb (by simp [d1, d2]), ha, fun o ho => ?_, ⟨d1, d2⟩, h.d2, h.d3⟩
    obtain ⟨e1, e2, e3, e4, e5, e6⟩ := h.d2 o ho
    exact (h.ol o ho).keeps k (by simp [Ne.symm e3, Ne.symm e5]) (by simp [Ne.symm e4, Ne.symm e6])
  | false =>
    obtain ⟨o, ho⟩ := hb rfl
    obtain ⟨e1, e2, e3, e4, e5, e6⟩ := h.d2 o ho
    simp only [Bool.false_eq_true, if_false] at ha k
    have e7 : opOf (T.setArr false sl) oa = opOf T oa := by unfold opOf Tab.setArr; simp [ho]
    refine ⟨?_, h.yo.keeps k (by simp [e3, e4]) (by simp [e5, e6]), fun o1 h1 => ?_, ⟨d1, d2⟩, fun o1 _ => ⟨e1, e2, e3, e4, e5, e6⟩, fun h => (by cases h)⟩
    · rw [e7]; exact k.blk h.tb (by simp [e1, e2])
    · cases h1; exact ha

def tab0 : Tab WK SV := ⟨List.replicate 8 ⟨0, 0, 0⟩, none, 0⟩

theorem inv0 (L : KeyLaw WK WK) : Inv L tab0 := by
  have hp : tab0.pairs = [] := by unfold Tab.pairs Tab.oldFulls tab0; simp only; rw [fulls_replicate]; rfl
  refine ⟨⟨3, by omega, by simp [tab0]⟩, ⟨?_, ?_⟩, fun o h => (by cases h), fun _ => ⟨rfl, ?_⟩, ?_⟩
  · intro s hs; simp only [tab0] at hs; rw [List.eq_of_mem_replicate hs]; simp
  · intro q s hs h1
    have := List.mem_of_getElem? hs
    simp only [tab0] at this
    rw [List.eq_of_mem_replicate this] at h1; cases h1
  · simp only [tab0]; rw [usedN_replicate]; omega
  · unfold Tab.M; rw [hp]; exact List.nodup_nil

theorem newArr_calls (w : World) (n : Nat) (hn : ∃ e, e ≤ 40 ∧ n = 2 ^ e) : Calls Try.prog 67 #[.int .i64 n] w fun e w' => ∃ na ns, e = .returned (.pointer (some ⟨na, 0, none⟩)) ∧ w.heap.size ≤ na ∧ w.heap.size ≤ ns ∧
      ArrAt w' na ns (List.replicate n ⟨0, 0, 0⟩) ∧ Keeps [] w w' := by
  have hn' : n ≤ 1099511627776 := by
    obtain ⟨e, he, rfl⟩ := hn
    have : 2 ^ e ≤ 2 ^ 40 := Nat.pow_le_pow_right (by decide) he
    omega
  refine (newArray_calls n w hn').mono ?_
  rintro e w' ⟨rfl, rfl⟩
  have k : Keeps [] w ((w.alloc (.cells ((List.replicate n (⟨0, 0, 0⟩ : Sl WK SV)).flatMap encS).toArray 132)).alloc (.cells #[.slice (some ⟨w.heap.size, 0, none⟩) n n, .int .i64 0, .int .i64 0] 135)) := ((Keeps.refl _ _).alloc _).alloc _
  refine ⟨_, w.heap.size, rfl, by omega, by omega, ⟨?_, ?_, by omega, ?_⟩, k⟩
  · rw [usedN_replicate, tombN_replicate, List.length_replicate]
    have := Blk.new (w.alloc (.cells ((List.replicate n (⟨0, 0, 0⟩ : Sl WK SV)).flatMap encS).toArray 132)) [.slice (some ⟨w.heap.size, 0, none⟩) n n, .int .i64 0, .int .i64 0] 135
    rw [World.size_alloc] at this
    exact this
  · exact (Blk.new w _ _).alloc _
  · obtain ⟨e, he, hl⟩ := hn
    exact ⟨e, he, by simpa using hl⟩

theorem new_calls (w : World) : Calls Try.prog 35 #[hvW] w fun e w' =>
    ∃ bt ya ys, e = .returned (.pointer (some ⟨bt, 0, none⟩)) ∧ TabAt w' bt ya ys ya ys tab0 ∧ Keeps [] w w' ∧ w.heap.size ≤ bt ∧ w.heap.size ≤ ya ∧ w.heap.size ≤ ys := by
  have hn := newArr_calls w 8 ⟨3, by omega, rfl⟩
  have heq : ∀ w : World, (binOp .eql 76 hvW .nilFunc).run Try.prog w = .ok (.bool false) w := fun _ => by kernel_rfl
  have HN := Lib.hid hn
  clear hn
  go_enter Try.func35, Try.ntmps35
  go_wp2_with fail
  refine (HN.out).mono ?_
  rintro e w' ⟨na, ns, rfl, g1, g2, g3, g4⟩
  go_wp2
  go_ret
  have l1 := g3.ha.lt
  have l2 := g3.hs.lt
  refine ⟨w'.heap.size, na, ns, rfl, ⟨Blk.new w' [hvW, .pointer (some ⟨na, 0, none⟩), .pointer none, .int .i64 0] 127, g3.keeps ((Keeps.refl [] w').alloc _) (by simp) (by simp), fun o h => (by cases h), ⟨by omega, by omega⟩, fun o h => (by cases h), fun _ => ⟨rfl, rfl⟩⟩, g4.alloc _, g4.size, g1, g2⟩

theorem new_nil (w : World) : Calls Try.prog 35 #[.nilFunc] w fun e w' => e = .returned (.pointer none) ∧ w' = w := by
  have heq : ∀ w : World, (binOp .eql 76 .nilFunc .nilFunc).run Try.prog w = .ok (.bool true) w := fun _ => by kernel_rfl
  go_enter Try.func35, Try.ntmps35
  go_wp2
  go_ret
  exact ⟨rfl, rfl⟩

set_option maxRecDepth 100000 in
set_option maxHeartbeats 6400000 in
theorem del_calls {w : World} {bt ya ys oa os : Nat} {T : Tab WK SV} (h : TabAt w bt ya ys oa os T) (hi : Inv LW T) (k : WK) :
    Calls Try.prog 37 #[.pointer (some ⟨bt,0,none⟩), aggK k] w fun e w' =>
      e = .returned (.tuple #[sv (delM LW 0 0 T k).2.1, .bool (delM LW 0 0 T k).2.2]) ∧
      ∃ oa' os', TabAt w' bt ya ys oa' os' (delM LW 0 0 T k).1 ∧ FreshOr [bt, ya, ys, oa, os] w [bt, ya, ys, oa', os'] ∧ Keeps [bt, ya, ys, oa, os] w w' := by
  obtain ⟨w0, hw0⟩ : ∃ w0, w0 = w.alloc (.cells #[.int .i8 k.a, .int .u8 k.b0, .int .u8 k.b1, .string k.c] 74) := ⟨_, rfl⟩
  have hk0 : Keeps [] w w0 := by rw [hw0]; exact (Keeps.refl _ _).alloc _
  have hkb : Blk w0 w.heap.size (cellsK k) 74 := by rw [hw0]; exact Blk.new w (cellsK k) 74
  have hT := h.keeps0 hk0
  have hm := made_calls hT
  have hst := step_calls hT hi
  have hlt := h.lt
  have hbk : w.heap.size ∉ [bt, ya, ys, oa, os] := fun q => by have := hlt _ q; omega
  obtain ⟨hi1, hp1, hl1, hl2⟩ := step_spec LW 0 0 hi
  unfold delM
  generalize stepM LW 0 0 T = T1 at *
  have HM := Lib.hid hm
  have HST := Lib.hid hst
  have HI := Lib.hid hi1
  have HW0 := Lib.hid hw0
  have HK0 := Lib.hid hk0
  have HKB := Lib.hid hkb
  have HC := Lib.hid (clos_calls k)
  clear hm hst hi1 hp1 hl1 hl2 hw0 hk0 hkb hT h hi hlt
  go_enter Try.func37, Try.ntmps37
  go_wp2_with fail
  have e0 : w.alloc (.cells #[.int .i8 k.a, .int .u8 k.b0, .int .u8 k.b1, .string k.c] 74) = w0 := HW0.out.symm
  rw [e0]
  clear e0 HW0
  generalize hbks : w.heap.size = bk at *
  have HBKS := Lib.hid hbks
  clear hbks
  refine (HM.out).mono ?_
  rintro e w' ⟨rfl, rfl⟩
  go_wp2_with fail
  refine (HST.out).mono ?_
  rintro e w1 ⟨rfl, oa1, os1, h1, hoo, hk1⟩
  have hsub := sub_step (bt := bt) hoo
  have hkb1 := hk1.blk HKB.out hbk
  have hcc := fun (W : World) (k' : Keeps [] w1 W) => And.intro (h1.keeps0 k').cells (kcells (k'.blk hkb1 (by simp)))
  have hi1 := HI.out
  have ha1 := hi1.a
  have hs := fun (W : World) (k' : Keeps [] w1 W) => seek_calls hashW (h1.keeps0 k') ha1 k
  have HSUB := Lib.hid hsub
  have HK1 := Lib.hid ((HK0.out.mono (G := [bt, ya, ys, oa, os]) (by simp)).trans hk1 (fun x hx _ => hx))
  have HCC := Lib.hid hcc
  have H1 := Lib.hid h1
  obtain ⟨⟨t0, t1, t2, t3⟩, k0, k1, k2, k3⟩ := hcc w1 (Keeps.refl _ _)
  clear hsub hk1 hoo hcc hkb1
  rcases seek_spec LW ha1 k with ⟨b, p, s, hh⟩ | ⟨hm1, _⟩
  · rw [hh.b_, hh.p_] at hs
    generalize (seekM LW T1 k).2.2 = r3 at *
    have hpe := delS_hit hh
    have harr := h1.arr hh
    have hbo : b = false → ∃ o, T1.old = some o := fun e => by obtain ⟨o, ho, _⟩ := hh.old e; exact ⟨o, ho⟩
    have hsb : ∀ x ∈ [if b then ya else oa1, if b then ys else os1], x ∈ [bt, ya, ys, oa1, os1] := by
      intro x hx
      cases b <;> simp only [List.mem_cons, List.not_mem_nil, or_false, if_true, if_false, Bool.false_eq_true] at hx ⊢ <;> omega
    have hset := fun w' => TabAt.setArr (w' := w') h1 (sl := buryM 0 0 (T1.arr b) p) hbo
    generalize (if b then ya else oa1) = ba at *
    generalize (if b then ys else os1) = bs at *
    have HS := Lib.hid hs
    have HPE := Lib.hid hpe
    have HAT := Lib.hid hh.at_
    have HFULL := Lib.hid hh.full
    have HARR := Lib.hid harr
    have HSET := Lib.hid hset
    have HSB := Lib.hid hsb
    clear hs hpe hh harr hset hsb hbo h1 ha1
    have hb0 : (0 : Int) ≤ (p : Int) := by omega
    go_wp2_with fail
    go_region_with (first | (go_at_call 36; refine (HC.out _).mono ?_; rintro e w2 ⟨rfl, kc⟩; have k02 : Keeps [] w1 w2 := ((Keeps.refl [] w1).drew).trans kc (by simp); obtain ⟨⟨y0, y1, y2, y3⟩, x0, x1, x2, x3⟩ := HCC.out w2 k02; have K02 := Lib.hid k02; clear kc k02) | (go_at_call 70; refine (HS.out w2 K02.out).mono ?_; rintro e w3 ⟨rfl, ks⟩; have K03 := Lib.hid (K02.out.trans ks (by simp)); clear ks))
    all_goals
      have HBURY := Lib.hid (bury_calls w3 ba bs (T1.arr b) p s (HARR.out.keeps K03.out (by simp) (by simp)) HAT.out HFULL.out)
      clear t0 t1 t2 t3 k0 k1 k2 k3 y0 y1 y2 y3 x0 x1 x2 x3
      go_wp2_with fail
      refine (HBURY.out).mono ?_
      rintro e w4 ⟨rfl, ol4, k4⟩
      go_wp2
      go_ret2
      rw [HPE.out]
      have k14 : Keeps [ba, bs] w1 w4 := (K03.out.mono (G := [ba, bs]) (by simp)).trans k4 (fun x hx _ => hx)
      have hsub := HSUB.out
      have hsb := HSB.out
      exact ⟨rfl, oa1, os1, HSET.out w4 ol4 k14, fresh_sub hsub, HK1.out.trans k14 (fun x hx _ => hsub x (hsb x hx))⟩
  · rw [hm1] at hs
    have hpe := delS_miss hm1
    generalize (seekM LW T1 k).2.2 = r3 at *
    generalize (seekM LW T1 k).1 = b at *
    generalize (if b then ya else oa1) = ba at *
    have HS := Lib.hid hs
    have HPE := Lib.hid hpe
    clear hs hpe hm1 h1 ha1
    go_wp2_with fail
    go_region_with (first | (go_at_call 36; refine (HC.out _).mono ?_; rintro e w2 ⟨rfl, kc⟩; have k02 : Keeps [] w1 w2 := ((Keeps.refl [] w1).drew).trans kc (by simp); obtain ⟨⟨y0, y1, y2, y3⟩, x0, x1, x2, x3⟩ := HCC.out w2 k02; have K02 := Lib.hid k02; clear kc k02) | (go_at_call 70; refine (HS.out w2 K02.out).mono ?_; rintro e w3 ⟨rfl, ks⟩; have K03 := Lib.hid (K02.out.trans ks (by simp)); clear ks))
    all_goals
      clear t0 t1 t2 t3 k0 k1 k2 k3 y0 y1 y2 y3 x0 x1 x2 x3
      go_wp2
      go_ret2
      rw [HPE.out]
      have hsub := HSUB.out
      exact ⟨rfl, oa1, os1, H1.out.keeps0 K03.out, fresh_sub hsub, HK1.out.trans K03.out (by simp)⟩
end Go.Proofs.Ytaomaeobgfeoiaa.W
