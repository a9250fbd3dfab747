import Derived.Test.YtaomaeobgfeoiaaGd
namespace Go.Proofs.Ytaomaeobgfeoiaa.G
open Go.RowKit Pl
attribute [local go_sem] run_store_float

/-- A hash without captures. -/
abbrev hvI (_ct _cm : Nat) : Value := .func (.func 8) #[] #[]

/-- What the closure answers, in whatever world. -/
structure HOk (w : World) (t : FHashD) (m : Int) (ct cm : Nat) : Prop where
  all : ∀ (w : World) (k : FD), Calls Try.prog 8 #[.float .f64 k.1] w fun e w' => e = .returned (.int .u64 (t k)) ∧ w' = w
theorem HOk.drewN {w : World} {t : FHashD} {m : Int} {ct cm : Nat} (h : HOk w t m ct cm) (n : Nat) : HOk (w.drewN n) t m ct cm := ⟨h.all⟩
theorem HOk.alloc {w : World} {t : FHashD} {m : Int} {ct cm : Nat} (h : HOk w t m ct cm) (o : Obj) : HOk (w.alloc o) t m ct cm := ⟨h.all⟩
theorem HOk.keeps {F : List Nat} {w w' : World} {t : FHashD} {m : Int} {ct cm : Nat} (h : HOk w t m ct cm) (_ : Keeps F w w') (_ : ct ∉ F) (_ : cm ∉ F) : HOk w' t m ct cm := ⟨h.all⟩
theorem HOk.calls {w : World} {t : FHashD} {m : Int} {ct cm : Nat} (h : HOk w t m ct cm) (k : FD) :
    Calls Try.prog 8 #[.float .f64 k.1] w fun e w' => e = .returned (.int .u64 (t k)) ∧ w' = w := h.all w k
def hashI (t : FHashD) (_ : Int) : FHashD := t

theorem arr_slot {w : World} {ba bs : Nat} {sl : List (Sl FD Int)} (h : ArrAt w ba bs sl) {p : Nat} {s : Sl FD Int} (hp : sl[p]? = some s) : w.cell? ⟨bs, p * 3 + 2, none⟩ = some (.int .i64 s.val) ∧ p < sl.length :=
  ⟨(slot_cells h.hs hp).2.2, (List.getElem?_eq_some_iff.1 hp).1⟩

theorem TabAt.arr {w : World} {hv : Value} {bt ya ys oa os : Nat} {T : Tab FD Int} (h : TabAt w hv bt ya ys oa os T) {hash : FHashD} {k : FD} {b : Bool} {p : Nat} {s : Sl FD Int} (hh : Hit (LI hash) T k b p s) :
    ArrAt w (if b then ya else oa) (if b then ys else os) (T.arr b) := by
  cases b with
  | true => exact h.yo
  | false =>
    obtain ⟨o, ho, _⟩ := hh.old rfl
    rw [arr_false ho]
    exact h.ol o ho

set_option maxHeartbeats 800000 in
theorem get_calls {w : World} {t : FHashD} {m : Int} {ct cm bt ya ys oa os : Nat} {T : Tab FD Int} (h : TabAt w (hvI ct cm) bt ya ys oa os T) (hH : HOk w t m ct cm) (hi : InvA (LI (hashI t m)) T) (k : FD) :
    Calls Try.prog 23 #[.pointer (some ⟨bt,0,none⟩), .float .f64 k.1] w fun e w' =>
      e = .returned (.tuple #[.int .i64 (getM (LI (hashI t m)) 0 T k).1, .bool (getM (LI (hashI t m)) 0 T k).2]) ∧ ∃ n, w' = w.drewN n := by
  obtain ⟨t0, t1, t2, t3⟩ := h.cells
  have hm := made_calls h
  have hc := hH.calls k
  have hs := seek_calls (hashI t m) h hi k
  have HM := Lib.hid hm
  have HC := Lib.hid hc
  rcases seek_spec (LI (hashI t m)) hi k with ⟨b, p, s, hh⟩ | ⟨h1, _⟩
  · have e1 : getM (LI (hashI t m)) 0 T k = (s.val, true) := by
      unfold getM
      obtain ⟨x, _, _, _, hv⟩ := hh.parts
      rw [if_neg (by rw [hh.p_]; omega), hh.b_, hv]
    rw [e1]
    have ha := h.arr hh
    obtain ⟨v2, hpl⟩ := arr_slot ha hh.at_
    obtain ⟨a0, a1, a2⟩ := ha.cells
    have hle := ha.le
    rw [hh.b_, hh.p_] at hs
    generalize (seekM (LI (hashI t m)) T k).2.2 = r3 at *
    generalize (if b then ya else oa) = ba at *
    generalize (if b then ys else os) = bs at *
    generalize T.arr b = sl at *
    have HS := Lib.hid hs
    clear hm hc hs e1
    go_enter Try.func23, Try.ntmps23
    go_wp2_with fail
    refine (HM.out).mono ?_
    rintro e w' ⟨rfl, rfl⟩
    go_wp2_with fail
    refine (HC.out).mono ?_
    rintro e w' ⟨rfl, rfl⟩
    go_wp2_with fail
    refine (HS.out).mono ?_
    rintro e w' ⟨rfl, n, rfl⟩
    go_wp2
    go_ret2
    exact ⟨rfl, n, rfl⟩
  · have e1 : getM (LI (hashI t m)) 0 T k = (0, false) := by
      unfold getM
      rw [if_pos (by omega)]
    rw [e1]
    rw [h1] at hs
    generalize (seekM (LI (hashI t m)) T k).2.2 = r3 at *
    generalize (seekM (LI (hashI t m)) T k).1 = b at *
    generalize (if b then ya else oa) = ba at *
    have HS := Lib.hid hs
    clear hm hc hs e1 h1
    go_enter Try.func23, Try.ntmps23
    go_wp2_with fail
    refine (HM.out).mono ?_
    rintro e w' ⟨rfl, rfl⟩
    go_wp2_with fail
    refine (HC.out).mono ?_
    rintro e w' ⟨rfl, rfl⟩
    go_wp2_with fail
    refine (HS.out).mono ?_
    rintro e w' ⟨rfl, n, rfl⟩
    go_wp2
    go_ret2
    exact ⟨rfl, n, rfl⟩


theorem len_eq (T : Tab FD Int) : lenM T = usedN T.young + usedN (T.old.getD []) := by
  unfold lenM Tab.pairs Tab.oldFulls
  rw [List.length_append]
  cases T.old <;> simp [usedN, fulls] <;> omega

set_option maxHeartbeats 800000 in
theorem len_calls {w : World} {hv : Value} {bt ya ys oa os : Nat} {T : Tab FD Int} (h : TabAt w hv bt ya ys oa os T) :
    Calls Try.prog 24 #[.pointer (some ⟨bt,0,none⟩)] w fun e w' => e = .returned (.int .i64 (lenM T)) ∧ w' = w := by
  obtain ⟨t0, t1, t2, t3⟩ := h.cells
  obtain ⟨a0, a1, a2⟩ := h.yo.cells
  have hle := h.yo.le
  have hu := usedN_le T.young
  have hm := made_calls h
  rw [len_eq]
  cases ho : T.old with
  | none =>
    have e2 : opOf T oa = none := by unfold opOf; rw [ho]; rfl
    rw [e2] at t2
    have e3 : usedN T.young + usedN ((none : Option (List (Sl FD Int))).getD []) = usedN T.young := by simp [usedN, fulls]
    rw [e3]
    have HM := Lib.hid hm
    clear hm ho e2 e3
    go_enter Try.func24, Try.ntmps24
    go_wp2_with fail
    refine (HM.out).mono ?_
    rintro e w' ⟨rfl, rfl⟩
    go_wp2
    go_ret
    exact ⟨rfl, rfl⟩
  | some o =>
    have e2 : opOf T oa = some ⟨oa, 0, none⟩ := by unfold opOf; rw [ho]; rfl
    rw [e2] at t2
    obtain ⟨o0, o1, o2⟩ := (h.ol o ho).cells
    have hle2 := (h.ol o ho).le
    have hu2 := usedN_le o
    have HM := Lib.hid hm
    clear hm ho e2
    go_enter Try.func24, Try.ntmps24
    go_wp2_with fail
    refine (HM.out).mono ?_
    rintro e w' ⟨rfl, rfl⟩
    go_wp2
    go_ret
    exact ⟨rfl, rfl⟩


def leftM (T : Tab FD Int) : Nat := match T.old with | none => 0 | some o => o.length - T.mark


end Go.Proofs.Ytaomaeobgfeoiaa.G
