import Derived.Test.YtaomaeobgfeoiaaRows
import Derived.Test.YtaomaeobgfeoiaaPl
import Derived.Test.YtaomaeobgfeoiaaPd
import Derived.WalkKit
import Derived.WalkLawsBesides
import Derived.WalkSpells
import Derived.Lib.Hide
import Derived.Deep.LoopGhost
import Derived.Deep.QuietTactic
import Derived.BigQuiet
namespace Go.Proofs.Ytaomaeobgfeoiaa.G
open Go.RowKit Pl

theorem natz {n : Nat} (h : ((n : Int) == 0) = true) : n = 0 := by simpa using h
theorem natnz {n : Nat} (h : ((n : Int) == 0) = false) : ¬ n = 0 := by simpa using h
theorem nat2 {n : Nat} (h : ((n : Int) == 2) = true) : n = 2 := by have : (n : Int) = 2 := by simpa using h
                                                                   omega
theorem natn2 {n : Nat} (h : ((n : Int) == 2) = false) : ¬ n = 2 := by have : ¬ (n : Int) = 2 := by simpa using h
                                                                       omega
@[local go_sem] theorem run_store_float (P : Program) (w : World) (a : Addr) (m : Mode) (k : FloatKind) (b : Nat) : (store a (.float k b) m).run P w = stored P w a (.float k b) m := run_store P w a _ m rfl

def encS (s : Sl FD Int) : List Value := [.int .u8 s.st, .float .f64 s.key.1, .int .i64 s.val]

set_option maxHeartbeats 800000 in
theorem find_calls (w : World) (ba bs e u t : Nat) (sl : List (Sl FD Int)) (h : Nat) (k : FD) (he : e ≤ 40) (hl : sl.length = 2 ^ e)
   (ha : Blk w ba [.slice (some ⟨bs,0,none⟩) (2 ^ e) (2 ^ e), .int .i64 u, .int .i64 t] 106)
   (hs : Blk w bs (sl.flatMap encS) 103) (hst : ∀ s ∈ sl, s.st ≤ 2) :
    Calls Try.prog 75 #[.pointer (some ⟨ba,0,none⟩), .int .u64 h, .float .f64 k.1] w fun e w' => 
      e = .returned (.tuple #[.int .i64 (findM (fun x => feqD x k) sl h).1, .int .i64 (findM (fun x => feqD x k) sl h).2.1, .int .i64 (findM (fun x => feqD x k) sl h).2.2]) ∧ ∃ n, w' = w.drewN n := by
  have h1 := ha.cell 0
  simp only [List.getElem?_cons_zero] at h1
  obtain ⟨n, hn⟩ : ∃ n, n = 2 ^ e := ⟨_, rfl⟩
  have hn0 : 1 ≤ n := by rw [hn]; exact Nat.one_le_two_pow
  have hn2 : n ≤ 2 ^ 40 := by rw [hn]; exact Nat.pow_le_pow_right (by decide) he
  have hn2 : n ≤ 1099511627776 := hn2
  rw [← hn] at h1
  rw [← hn] at hl
  go_enter Try.func75, Try.ntmps75
  have HN := Lib.hid hn
  have HL := Lib.hid hl
  clear hn hl
  go_wp2
  go_loop [7, 25] (fun f i => ∃ (j : Nat) (fr : Int), j ≤ n ∧ i = .int .i64 j ∧ f = .int .i64 fr ∧ findGo (fun x => feqD x k) sl h (n - j) j fr = findM (fun x => feqD x k) sl h) (fun _ i => n - (intOf i).toNat)
  case atStart => exact ⟨0, -1, by omega, rfl, rfl, by unfold findM; rw [HL.out]; rfl⟩
  case round =>
    obtain ⟨j, fr, hj, rfl, rfl, hf⟩ := hrel
    by_cases hlt : j < n
    · have hb := bits_way e h j (by omega)
      rw [← HN.out] at hb
      have hpl : way n h j < n := way_lt (by omega)
      obtain ⟨s, hsl⟩ : ∃ s, sl[way n h j]? = some s := by
        have := HL.out
        exact ⟨sl[way n h j], by rw [List.getElem?_eq_getElem]⟩
      have hm : s ∈ sl := List.mem_of_getElem? hsl
      have h2 := hst s hm
      have c0 : w.cell? ⟨bs, way n h j * 3, none⟩ = some (.int .u8 s.st) := by
        have := hs.cell (way n h j * 3 + 0)
        rw [flat_get encS 3 (fun _ => rfl) sl _ 0 s hsl (by omega)] at this
        exact this
      have c1 : w.cell? ⟨bs, way n h j * 3 + 1, none⟩ = some (.float .f64 s.key.1) := by
        have := hs.cell (way n h j * 3 + 1)
        rw [flat_get encS 3 (fun _ => rfl) sl _ 1 s hsl (by omega)] at this
        exact this
      have hf' : findGo (fun x => feqD x k) sl h (n - j) j fr = 
           if s.st = 0 then (-1, if fr < 0 then ((way n h j : Nat) : Int) else fr, (j : Int) + 1)
           else if s.st = 2 then findGo (fun x => feqD x k) sl h (n - (j + 1)) (j + 1) (if fr < 0 then ((way n h j : Nat) : Int) else fr)
           else if feqD s.key k then ((way n h j : Nat), fr, (j : Int) + 1) else findGo (fun x => feqD x k) sl h (n - (j + 1)) (j + 1) fr := by
        have e1 : n - j = (n - (j + 1)) + 1 := by omega
        rw [e1, findGo, HL.out, hsl]
      rw [hf] at hf'
      have HF := Lib.hid hf'
      have HS := Lib.hid hsl
      clear hf hf' hsl hm
      generalize way n h j = p at *
      go_wp2
      · go_ret3
        have h0 : s.st = 0 := natz ‹_›
        have hf := HF.out
        rw [if_pos h0, if_pos ‹_›] at hf
        rw [hf]
        exact ⟨rfl, 0, rfl⟩
      · go_ret3
        have h0 : s.st = 0 := natz ‹_›
        have hf := HF.out
        rw [if_pos h0, if_neg (by omega)] at hf
        rw [hf]
        exact ⟨rfl, 0, rfl⟩
      · go_round
        case rel =>
          refine ⟨j + 1, p, by omega, by go_num, by rw [hb], ?_⟩
          have hf := HF.out
          rw [if_neg (natnz ‹_›), if_pos (nat2 ‹_›), if_pos ‹_›] at hf
          exact hf.symm
        case measure => simp [intOf]; omega
      · go_round
        case rel =>
          refine ⟨j + 1, fr, by omega, by go_num, rfl, ?_⟩
          have hf := HF.out
          rw [if_neg (natnz ‹_›), if_pos (nat2 ‹_›), if_neg (by omega)] at hf
          exact hf.symm
        case measure => simp [intOf]; omega
      · go_ret3
        have hf := HF.out
        rw [if_neg (natnz ‹_›), if_neg (natn2 ‹_›), if_pos ‹_›] at hf
        rw [hf]
        exact ⟨rfl, 0, rfl⟩
      · go_round
        case rel =>
          refine ⟨j + 1, fr, by omega, by go_num, rfl, ?_⟩
          have hf := HF.out
          rw [if_neg (natnz ‹_›), if_neg (natn2 ‹_›), if_neg (by rw [Bool.not_eq_true]; assumption)] at hf
          exact hf.symm
        case measure => simp [intOf]; omega
    · have e1 : j = n := by omega
      have HF := Lib.hid hf
      clear hf
      go_wp2
      go_quiet (fail)
      go_wp2
      go_ret3
      have hf := HF.out
      rw [show n - j = 0 from by omega, findGo] at hf
      rw [← hf, e1]
      exact ⟨rfl, nq, rfl⟩
end Go.Proofs.Ytaomaeobgfeoiaa.G
