/- TableWide: Get, Len. -/
import Derived.Test.YtaomaeobgfeoiaaWc
namespace Go.Proofs.Ytaomaeobgfeoiaa.W
open Go.RowKit Pl

theorem TabAt.arr {w : World} {bt ya ys oa os : Nat} {T : Tab WK SV} (h : TabAt w bt ya ys oa os T) {hash : WK → Nat} {k : WK} {b : Bool} {p : Nat} {s : Sl WK SV} (hh : Hit (LI hash) T k b p s) :
    ArrAt w (if b then ya else oa) (if b then ys else os) (T.arr b) := by
  cases b with
  | true => exact h.yo
  | false =>
    obtain ⟨o, ho, _⟩ := hh.old rfl
    rw [arr_false ho]
    exact h.ol o ho

abbrev LW : KeyLaw WK WK := LI hashW

set_option maxRecDepth 100000 in
set_option maxHeartbeats 6400000 in
theorem get_calls {w : World} {bt ya ys oa os : Nat} {T : Tab WK SV} (h : TabAt w bt ya ys oa os T) (hi : InvA LW T) (k : WK) :
    Calls Try.prog 39 #[.pointer (some ⟨bt,0,none⟩), aggK k] w fun e w' =>
      e = .returned (.tuple #[sv (getM LW 0 T k).1, .bool (getM LW 0 T k).2]) ∧ Keeps [] w w' := by
  obtain ⟨w0, hw0⟩ : ∃ w0, w0 = w.alloc (.cells #[.int .i8 k.a, .int .u8 k.b0, .int .u8 k.b1, .string k.c] 74) := ⟨_, rfl⟩
  have hk0 : Keeps [] w w0 := by rw [hw0]; exact (Keeps.refl _ _).alloc _
  have hkb : Blk w0 w.heap.size (cellsK k) 74 := by rw [hw0]; exact Blk.new w (cellsK k) 74
  have hT := h.keeps0 hk0
  have HT := Lib.hid hT
  have hm := made_calls hT
  have hcc := fun (W : World) (k' : Keeps [] w0 W) => And.intro (hT.keeps0 k').cells (kcells (k'.blk hkb (by simp)))
  have hss := fun (W : World) (k' : Keeps [] w0 W) => seek_calls hashW (hT.keeps0 k') hi k
  have hl1 := h.tb.lt
  have HW0 := Lib.hid hw0
  have HK0 := Lib.hid hk0
  have HCC := Lib.hid hcc
  have HM := Lib.hid hm
  have HC := Lib.hid (clos_calls k)
  obtain ⟨⟨t0, t1, t2, t3⟩, k0, k1, k2, k3⟩ := hcc w0 (Keeps.refl _ _)
  rcases seek_spec LW hi k with ⟨b, p, s, hh⟩ | ⟨h1, _⟩
  · have e1 : getM LW 0 T k = (s.val, true) := by
      unfold getM
      obtain ⟨x, _, _, _, hv⟩ := hh.parts
      rw [if_neg (by rw [hh.p_]; omega), hh.b_, hv]
    rw [e1]
    rw [hh.b_, hh.p_] at hss
    have harr := fun (W : World) (k' : Keeps [] w0 W) => And.intro ((hT.keeps0 k').arr hh).cells (wcells ((hT.keeps0 k').arr hh).hs hh.at_).2.2.2.2.2
    have hpl := (List.getElem?_eq_some_iff.1 hh.at_).1
    have hle := (hT.arr hh).le
    generalize (seekM LW T k).2.2 = r3 at *
    generalize (if b then ya else oa) = ba at *
    generalize (if b then ys else os) = bs at *
    generalize T.arr b = sl at *
    have HS := Lib.hid hss
    have HA := Lib.hid harr
    clear hss harr hm hcc hT hkb hk0 hw0 h e1 hh
    go_enter Try.func39, Try.ntmps39
    go_wp2_with fail
    have e0 : w.alloc (.cells #[.int .i8 k.a, .int .u8 k.b0, .int .u8 k.b1, .string k.c] 74) = w0 := HW0.out.symm
    rw [e0]
    clear e0 HW0
    generalize w.heap.size = bk at *
    refine (HM.out).mono ?_
    rintro e w' ⟨rfl, rfl⟩
    go_wp2_with fail
    go_region_with (first | (go_at_call 36; refine (HC.out _).mono ?_; rintro e w2 ⟨rfl, kc⟩; have k02 : Keeps [] w' w2 := ((Keeps.refl [] w').drew).trans kc (by simp); obtain ⟨⟨y0, y1, y2, y3⟩, x0, x1, x2, x3⟩ := HCC.out w2 k02; have K02 := Lib.hid k02; clear kc k02) | (go_at_call 70; refine (HS.out w2 K02.out).mono ?_; rintro e w3 ⟨rfl, ks⟩; have K03 := Lib.hid (K02.out.trans ks (by simp)); clear ks))
    all_goals
      obtain ⟨⟨a0, a1, a2⟩, v5⟩ := HA.out w3 K03.out
      clear t0 t1 t2 t3 k0 k1 k2 k3 y0 y1 y2 y3 x0 x1 x2 x3
      go_wp2
      go_ret2
      exact ⟨rfl, HK0.out.trans K03.out (by simp)⟩
  · have e1 : getM LW 0 T k = (0, false) := by
      unfold getM
      rw [if_pos (by omega)]
    rw [e1]
    rw [h1] at hss
    generalize (seekM LW T k).2.2 = r3 at *
    generalize (seekM LW T k).1 = b at *
    generalize (if b then ya else oa) = ba at *
    have HS := Lib.hid hss
    clear hss hm hcc hT hkb hk0 hw0 h e1 h1
    go_enter Try.func39, Try.ntmps39
    go_wp2_with fail
    have e0 : w.alloc (.cells #[.int .i8 k.a, .int .u8 k.b0, .int .u8 k.b1, .string k.c] 74) = w0 := HW0.out.symm
    rw [e0]
    clear e0 HW0
    generalize w.heap.size = bk at *
    refine (HM.out).mono ?_
    rintro e w' ⟨rfl, rfl⟩
    go_wp2_with fail
    go_region_with (first | (go_at_call 36; refine (HC.out _).mono ?_; rintro e w2 ⟨rfl, kc⟩; have k02 : Keeps [] w' w2 := ((Keeps.refl [] w').drew).trans kc (by simp); obtain ⟨⟨y0, y1, y2, y3⟩, x0, x1, x2, x3⟩ := HCC.out w2 k02; have K02 := Lib.hid k02; clear kc k02) | (go_at_call 70; refine (HS.out w2 K02.out).mono ?_; rintro e w3 ⟨rfl, ks⟩; have K03 := Lib.hid (K02.out.trans ks (by simp)); clear ks))
    all_goals
      clear t0 t1 t2 t3 k0 k1 k2 k3 y0 y1 y2 y3 x0 x1 x2 x3
      go_wp2
      go_ret2
      exact ⟨rfl, HK0.out.trans K03.out (by simp)⟩

theorem len_eq (T : Tab WK SV) : lenM T = usedN T.young + usedN (T.old.getD []) := by
  unfold lenM Tab.pairs Tab.oldFulls
  rw [List.length_append]
  cases T.old <;> simp [usedN, fulls] <;> omega

set_option maxHeartbeats 800000 in
theorem len_calls {w : World} {bt ya ys oa os : Nat} {T : Tab WK SV} (h : TabAt w bt ya ys oa os T) :
    Calls Try.prog 41 #[.pointer (some ⟨bt,0,none⟩)] w fun e w' => e = .returned (.int .i64 (lenM T)) ∧ w' = w := by
  obtain ⟨t0, t1, t2, t3⟩ := h.cells
  obtain ⟨a0, a1, a2⟩ := h.yo.cells
  have hle := h.yo.le
  have hu := usedN_le T.young
  have hm := made_calls h
  rw [len_eq]
  cases ho : T.old with
  | none =>
    have e2 : opOf T oa = none := by unfold opOf; rw [ho]; rfl
    rw [e2] at t2
    have e3 : usedN T.young + usedN ((none : Option (List (Sl WK SV))).getD []) = usedN T.young := by simp [usedN, fulls]
    rw [e3]
    have HM := Lib.hid hm
    clear hm ho e2 e3
    go_enter Try.func41, Try.ntmps41
    go_wp2_with fail
    refine (HM.out).mono ?_
    rintro e w' ⟨rfl, rfl⟩
    go_wp2
    go_ret
    exact ⟨rfl, rfl⟩
  | some o =>
    have e2 : opOf T oa = some ⟨oa, 0, none⟩ := by unfold opOf; rw [ho]; rfl
    rw [e2] at t2
    obtain ⟨o0, o1, o2⟩ := (h.ol o ho).cells
    have hle2 := (h.ol o ho).le
    have hu2 := usedN_le o
    have hne : (binOp .neq 124 (.pointer (some ⟨oa, 0, none⟩)) (.pointer none)).run Try.prog w = .ok (.bool true) w := by kernel_rfl
    have HM := Lib.hid hm
    clear hm ho e2
    simp only [Option.getD_some]
    go_enter Try.func41, Try.ntmps41
    go_wp2_with fail
    refine (HM.out).mono ?_
    rintro e w' ⟨rfl, rfl⟩
    go_wp2
    go_ret
    exact ⟨rfl, rfl⟩
end Go.Proofs.Ytaomaeobgfeoiaa.W
