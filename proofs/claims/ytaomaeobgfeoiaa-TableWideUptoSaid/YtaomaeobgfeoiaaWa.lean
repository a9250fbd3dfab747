/- TableWide: keys of several parts, lists as values; find. -/
import Derived.Test.YtaomaeobgfeoiaaRows
import Derived.Test.YtaomaeobgfeoiaaTc
import Derived.WalkKit
import Derived.WalkLawsBesides
import Derived.WalkSpells
import Derived.Lib.Hide
import Derived.Deep.LoopGhost
import Derived.Deep.QuietTactic
import Derived.BigQuiet
import Derived.DeepKeys
namespace Go.Proofs.Ytaomaeobgfeoiaa.W
open Go.RowKit Pl

/-- A key of several parts. -/
structure WK where
  a : Int
  b0 : Int
  b1 : Int
  c : ByteArray
  ha : (Lit.int .i8 a).wf = true
  h0 : (Lit.int .u8 b0).wf = true
  h1 : (Lit.int .u8 b1).wf = true
  hc : c.size ≤ maxLen
instance : OfNat WK 0 := ⟨⟨0, 0, 0, ⟨#[]⟩, by decide, by decide, by decide, Nat.zero_le _⟩⟩
/-- A list as a value. -/
structure SV where
  ao : Option Addr
  len : Nat
  cap : Nat
instance : OfNat SV 0 := ⟨⟨none, 0, 0⟩⟩

abbrev aggK (k : WK) : Value := .agg #[.int .i8 k.a, .int .u8 k.b0, .int .u8 k.b1, .string k.c]
abbrev sv (v : SV) : Value := .slice v.ao v.len v.cap
def cellsK (k : WK) : List Value := [.int .i8 k.a, .int .u8 k.b0, .int .u8 k.b1, .string k.c]
def encS (s : Sl WK SV) : List Value := [.int .u8 s.st, .int .i8 s.key.a, .int .u8 s.key.b0, .int .u8 s.key.b1, .string s.key.c, sv s.val]

def litsK (k : WK) : List Lit := [.int .i8 k.a, .int .u8 k.b0, .int .u8 k.b1, .string k.c.data.toList]
def eqW (x y : WK) : Bool := decide (x.a = y.a ∧ x.b0 = y.b0 ∧ x.b1 = y.b1 ∧ x.c.data.toList = y.c.data.toList)
theorem eqW_lits (x y : WK) : eqW x y = true ↔ litsK x = litsK y := by
  unfold eqW litsK
  rw [decide_eq_true_eq]
  constructor
  · rintro ⟨h1, h2, h3, h4⟩
    rw [h1, h2, h3, h4]
  · intro h
    simp only [List.cons.injEq, Lit.int.injEq, Lit.string.injEq, true_and, and_true] at h
    exact h
theorem eqW_eq {x y : WK} : eqW x y = true ↔ x = y := by
  constructor
  · intro h
    have := of_decide_eq_true h
    obtain ⟨h1, h2, h3, h4⟩ := this
    obtain ⟨xa, xb, xc, xd, _, _, _, _⟩ := x
    obtain ⟨ya, yb, yc, yd, _, _, _, _⟩ := y
    obtain ⟨xd⟩ := xd
    obtain ⟨yd⟩ := yd
    obtain ⟨xd⟩ := xd
    obtain ⟨yd⟩ := yd
    simp only at h1 h2 h3 h4
    subst h1 h2 h3 h4
    rfl
  · rintro rfl
    exact decide_eq_true ⟨rfl, rfl, rfl, rfl⟩

theorem lits_at (k : WK) : Try.prog.keyLits 4 74 (cellsK k) = some (litsK k) := by
  have e : Try.prog.keyLits 4 74 (cellsK k) = ((if IntKind.i8 = IntKind.i8 ∧ (Lit.int .i8 k.a).wf = true then some [Lit.int .i8 k.a] else none).bind fun x0 =>
      ((((if IntKind.u8 = IntKind.u8 ∧ (Lit.int .u8 k.b0).wf = true then some [Lit.int .u8 k.b0] else none).bind fun y0 => (if IntKind.u8 = IntKind.u8 ∧ (Lit.int .u8 k.b1).wf = true then some [Lit.int .u8 k.b1] else none).bind fun y1 => some [y0, y1]).map List.flatten).bind fun x1 =>
        (if k.c.size ≤ maxLen then some [Lit.string k.c.data.toList] else none).bind fun x2 => some [x0, x1, x2])).map List.flatten := by kernel_rfl
  rw [e, if_pos ⟨rfl, k.ha⟩, if_pos ⟨rfl, k.h0⟩, if_pos ⟨rfl, k.h1⟩, if_pos k.hc]
  rfl

theorem formed_at (k : WK) : (aggK k).formed Try.prog 74 = true := by kernel_rfl

theorem eq_keys (x y : WK) (w : World) : (binOp .eql 74 (aggK x) (aggK y)).run Try.prog w = .ok (.bool (eqW x y)) w := by
  obtain ⟨r, hr, hiff⟩ := run_equalIn_deep (P := Try.prog) 9996 4 74 (by kernel_rfl) w _ _ (aggK x) (aggK y) (litsK x) (litsK y) (formed_at x) (formed_at y) (lits_at x) (lits_at y)
  have e : r = eqW x y := by
    cases r with
    | true => exact ((eqW_lits x y).2 (hiff.1 rfl)).symm
    | false =>
      cases h : eqW x y with
      | false => rfl
      | true => have := hiff.2 ((eqW_lits x y).1 h); cases this
  have hq : (Op.equal 74 (aggK x) (aggK y)).run Try.prog w = .ok r w := hr
  simp only [binOp, Sem.run_bind, hq, Result.andThen, e]
  rfl

theorem natz {n : Nat} (h : ((n : Int) == 0) = true) : n = 0 := by simpa using h
theorem kcells {w : World} {b : Nat} {k : WK} (h : Blk w b (cellsK k) 74) : w.cell? ⟨b, 0, none⟩ = some (.int .i8 k.a) ∧ w.cell? ⟨b, 1, none⟩ = some (.int .u8 k.b0) ∧ w.cell? ⟨b, 2, none⟩ = some (.int .u8 k.b1) ∧ w.cell? ⟨b, 3, none⟩ = some (.string k.c) :=
  ⟨h.cell 0, h.cell 1, h.cell 2, h.cell 3⟩
theorem wcells {w : World} {b : Nat} {sl : List (Sl WK SV)} (h : Blk w b (sl.flatMap encS) 132) {q : Nat} {s : Sl WK SV} (hq : sl[q]? = some s) :
    w.cell? ⟨b, q * 6, none⟩ = some (.int .u8 s.st) ∧ w.cell? ⟨b, q * 6 + 1, none⟩ = some (.int .i8 s.key.a) ∧ w.cell? ⟨b, q * 6 + 2, none⟩ = some (.int .u8 s.key.b0) ∧ w.cell? ⟨b, q * 6 + 3, none⟩ = some (.int .u8 s.key.b1) ∧ w.cell? ⟨b, q * 6 + 4, none⟩ = some (.string s.key.c) ∧ w.cell? ⟨b, q * 6 + 5, none⟩ = some (sv s.val) := by
  have g := fun c (hc : c < 6) => (h.cell (q * 6 + c)).trans (flat_get encS 6 (fun _ => rfl) sl _ c s hq hc)
  exact ⟨g 0 (by omega), g 1 (by omega), g 2 (by omega), g 3 (by omega), g 4 (by omega), g 5 (by omega)⟩

set_option maxHeartbeats 3200000 in
theorem find_calls (w : World) (ba bs e u t : Nat) (sl : List (Sl WK SV)) (h : Nat) (k : WK) (he : e ≤ 40) (hl : sl.length = 2 ^ e)
   (ha : Blk w ba [.slice (some ⟨bs,0,none⟩) (2 ^ e) (2 ^ e), .int .i64 u, .int .i64 t] 135)
   (hs : Blk w bs (sl.flatMap encS) 132) (hst : ∀ s ∈ sl, s.st ≤ 2) :
    Calls Try.prog 83 #[.pointer (some ⟨ba,0,none⟩), .int .u64 h, aggK k] w fun e w' =>
      e = .returned (.tuple #[.int .i64 (findM (fun x => eqW x k) sl h).1, .int .i64 (findM (fun x => eqW x k) sl h).2.1, .int .i64 (findM (fun x => eqW x k) sl h).2.2]) ∧ Keeps [] w w' := by
  obtain ⟨n, hn⟩ : ∃ n, n = 2 ^ e := ⟨_, rfl⟩
  have hn0 : 1 ≤ n := by rw [hn]; exact Nat.one_le_two_pow
  have hn2 : n ≤ 2 ^ 40 := by rw [hn]; exact Nat.pow_le_pow_right (by decide) he
  have hn2 : n ≤ 1099511627776 := hn2
  rw [← hn] at ha
  rw [← hn] at hl
  obtain ⟨w0, hw0⟩ : ∃ w0, w0 = w.alloc (.cells #[.int .i8 k.a, .int .u8 k.b0, .int .u8 k.b1, .string k.c] 74) := ⟨_, rfl⟩
  have hk0 : Keeps [] w w0 := by rw [hw0]; exact (Keeps.refl _ _).alloc _
  have hkb : Blk w0 w.heap.size (cellsK k) 74 := by rw [hw0]; exact Blk.new w (cellsK k) 74
  have HC := Lib.hid (fun (W : World) (k' : Keeps [] w0 W) => kcells (k'.blk hkb (by simp)))
  have HH1 := Lib.hid (fun (W : World) (k' : Keeps [] w0 W) => (show W.cell? ⟨ba, 0, none⟩ = some (.slice (some ⟨bs, 0, none⟩) n n) from ((hk0.trans k' (by simp)).blk ha (by simp)).cell 0))
  have HHS := Lib.hid (fun (W : World) (k' : Keeps [] w0 W) => (hk0.trans k' (by simp)).blk hs (by simp))
  have h1 : w.cell? ⟨ba, 0, none⟩ = some (.slice (some ⟨bs, 0, none⟩) n n) := ha.cell 0
  have hbl := ha.lt
  have HN := Lib.hid hn
  have HL := Lib.hid hl
  have HK0 := Lib.hid hk0
  have HW0 := Lib.hid hw0
  clear hn hl hk0 hkb ha hs hw0
  go_enter Try.func83, Try.ntmps83
  go_wp2
  have e0 : w.alloc (.cells #[.int .i8 k.a, .int .u8 k.b0, .int .u8 k.b1, .string k.c] 74) = w0 := HW0.out.symm
  rw [e0]
  clear e0 h1 HW0 hbl
  generalize w.heap.size = bk at *
  go_loopw [7, 25] (fun f i wr => ∃ (j : Nat) (fr : Int), j ≤ n ∧ i = .int .i64 j ∧ f = .int .i64 fr ∧ findGo (fun x => eqW x k) sl h (n - j) j fr = findM (fun x => eqW x k) sl h ∧ Keeps [] w0 wr) (fun _ i _ => n - (intOf i).toNat)
  case atStart => exact ⟨0, -1, by omega, rfl, rfl, by unfold findM; rw [HL.out]; rfl, Keeps.refl _ _⟩
  case round =>
    obtain ⟨j, fr, hj, rfl, rfl, hf, hkp⟩ := hrel
    have h1 := HH1.out wr hkp
    obtain ⟨k0, k1, k2, k3⟩ := HC.out wr hkp
    by_cases hlt : j < n
    · have hb := bits_way e h j (by omega)
      rw [← HN.out] at hb
      have hpl : way n h j < n := way_lt (by omega)
      obtain ⟨s, hsl⟩ : ∃ s, sl[way n h j]? = some s := by
        have := HL.out
        exact ⟨sl[way n h j], by rw [List.getElem?_eq_getElem]⟩
      have hm : s ∈ sl := List.mem_of_getElem? hsl
      have h2 := hst s hm
      obtain ⟨c0, c1, c2, c3, c4, c5⟩ := wcells (HHS.out wr hkp) hsl
      have hf' : findGo (fun x => eqW x k) sl h (n - j) j fr =
           if s.st = 0 then (-1, if fr < 0 then ((way n h j : Nat) : Int) else fr, (j : Int) + 1)
           else if s.st = 2 then findGo (fun x => eqW x k) sl h (n - (j + 1)) (j + 1) (if fr < 0 then ((way n h j : Nat) : Int) else fr)
           else if eqW s.key k then ((way n h j : Nat), fr, (j : Int) + 1) else findGo (fun x => eqW x k) sl h (n - (j + 1)) (j + 1) fr := by
        have e1 : n - j = (n - (j + 1)) + 1 := by omega
        rw [e1, findGo, HL.out, hsl]
      rw [hf] at hf'
      have hq := eq_keys s.key k
      have HF := Lib.hid hf'
      have HS := Lib.hid hsl
      have HKP := Lib.hid hkp
      clear hf hf' hsl hm hkp
      generalize way n h j = p at *
      have h3 : s.st = 0 ∨ s.st = 1 ∨ s.st = 2 := by omega
      clear h2
      rcases h3 with h3 | h3 | h3
      · rw [h3] at HF c0
        have HF2 := Lib.hid ((HF.out).trans (if_pos rfl))
        clear HF h3 hq k0 k1 k2 k3 c1 c2 c3 c4 c5
        by_cases hfr : fr < 0
        · have hF := HF2.out
          rw [if_pos hfr] at hF
          have HF3 := Lib.hid hF
          clear hF
          go_wp2
          go_ret3
          rw [HF3.out]
          (try rw [hb])
          exact ⟨rfl, HK0.out.trans HKP.out (by simp)⟩
        · have hF := HF2.out
          rw [if_neg hfr] at hF
          have HF3 := Lib.hid hF
          clear hF
          go_wp2
          go_ret3
          rw [HF3.out]
          (try rw [hb])
          exact ⟨rfl, HK0.out.trans HKP.out (by simp)⟩
      · rw [h3] at HF c0
        have hF := HF.out
        rw [if_neg (by decide), if_neg (by decide)] at hF
        by_cases hke : eqW s.key k = true
        · rw [if_pos hke] at hF
          rw [hke] at hq
          have HF2 := Lib.hid hF
          clear hF HF h3 hke
          go_wp2
          go_quiet (fail)
          go_wp2
          go_ret3
          rw [HF2.out]
          (try rw [hb])
          exact ⟨rfl, (HK0.out.trans HKP.out (by simp)).drewN nq⟩
        · have hke2 : eqW s.key k = false := by simpa using hke
          rw [if_neg hke] at hF
          rw [hke2] at hq
          have HF2 := Lib.hid hF
          clear hF HF h3 hke hke2
          go_wp2
          go_quiet (fail)
          go_wp2
          go_roundw
          case rel => exact ⟨j + 1, fr, by omega, by go_num, rfl, HF2.out.symm, HKP.out.drewN nq⟩
          case measure => simp [intOf]; omega
      · rw [h3] at HF c0
        have hF := HF.out
        rw [if_neg (by decide), if_pos rfl] at hF
        by_cases hfr : fr < 0
        · rw [if_pos hfr] at hF
          have HF2 := Lib.hid hF
          clear hF HF h3 hq
          go_wp2
          go_roundw
          case rel => exact ⟨j + 1, p, by omega, by go_num, by rw [hb], HF2.out.symm, HKP.out⟩
          case measure => simp [intOf]; omega
        · rw [if_neg hfr] at hF
          have HF2 := Lib.hid hF
          clear hF HF h3 hq
          go_wp2
          go_roundw
          case rel => exact ⟨j + 1, fr, by omega, by go_num, rfl, HF2.out.symm, HKP.out⟩
          case measure => simp [intOf]; omega
    · have e1 : j = n := by omega
      have HF := Lib.hid hf
      have HKP := Lib.hid hkp
      clear hf hkp k0 k1 k2 k3
      go_wp2
      go_quiet (fail)
      go_wp2
      go_ret3
      have hf := HF.out
      rw [show n - j = 0 from by omega, findGo] at hf
      rw [← hf, e1]
      exact ⟨rfl, (HK0.out.trans HKP.out (by simp)).drewN nq⟩
end Go.Proofs.Ytaomaeobgfeoiaa.W
