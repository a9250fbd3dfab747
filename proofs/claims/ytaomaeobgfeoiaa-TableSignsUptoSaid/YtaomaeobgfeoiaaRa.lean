/- TableSigns: the document's table in memory; place, find, count. -/
import Derived.Test.YtaomaeobgfeoiaaXc
import Derived.Test.YtaomaeobgfeoiaaPd
import Derived.Test.YtaomaeobgfeoiaaTc
namespace Go.Proofs.Ytaomaeobgfeoiaa.R
open Go.RowKit Pl

/-- TableSigns' keys: equal as floats; hashed by the number. -/
def LD : KeyLaw FD Nat where
  cls := fun a => some (keyD a)
  eqK := feqD
  hash := hashD.1
  eq_iff := fun a b => feqD_iff a b
  hash_eq := fun a b h => hashD.2 a b h

def encR (s : Sl FD Int) : List Value := [.int .i64 s.st, .int .i64 (keyD s.key : Nat), .int .i64 (tagD s.key : Nat), .int .i64 s.val]

theorem hash_low : ∀ k ∈ List.range 32, X.hashI 1 (-1) ((k : Nat) : Int) = k := by decide +kernel

theorem keyD_lt (k : FD) : keyD k < 32 := keyN_lt k.1 k.2

theorem hash_at (k : FD) (w : World) : Calls Try.prog 9 #[.int .i64 (keyD k : Nat), .int .i64 1, .int .i64 (-1)] w fun e w' => e = .returned (.int .u64 (keyD k : Nat)) ∧ w' = w := by
  have := X.hash_calls (keyD k : Nat) 1 (-1) w
  rw [hash_low _ (List.mem_range.2 (keyD_lt k))] at this
  exact this

theorem way_rem (n k i : Nat) (hn : 0 < n) : ((k % n + i) % n : Nat) = way n k i := by unfold way; rw [Nat.mod_add_mod]

theorem place_num (k n i : Nat) (hn : 0 < n) (hn2 : n ≤ 1099511627776) (hi : i ≤ 1099511627776) (hk : k < 32) :
    wrap64 ((IntKind.u64.wrap (((k : Nat) : Int) % (n : Int) + (i : Int))).tmod (n : Int)) = ((way n k i : Nat) : Int) := by
  have hm : k % n ≤ k := Nat.mod_le _ _
  have e1 : ((k : Nat) : Int) % (n : Int) + (i : Int) = ((k % n + i : Nat) : Int) := by rw [Int.natCast_add, Int.natCast_emod]
  have e2 : IntKind.u64.wrap ((k % n + i : Nat) : Int) = ((k % n + i : Nat) : Int) := by
    simp [IntKind.wrap, IntKind.bits, IntKind.signed]
    omega
  rw [e1, e2, Int.tmod_eq_emod_of_nonneg (by omega), ← Int.natCast_emod, way_rem _ _ _ hn]
  have := way_lt (n := n) (h := k) (i := i) hn
  unfold wrap64
  omega

theorem place_calls {w : World} {bm : Nat} {y o mv mk : Value} (hb : Blk w bm [.int .i64 1, .int .i64 (-1), y, o, mv, mk] 93) (ao : Option Addr) (n cap : Nat) (k : FD) (i : Nat) (hn : 0 < n) (hn2 : n ≤ 1099511627776) (hi : i ≤ 1099511627776) :
    Calls Try.prog 76 #[.pointer (some ⟨bm, 0, none⟩), .slice ao n cap, .int .i64 (keyD k : Nat), .int .i64 i] w fun e w' => e = .returned (.int .i64 (way n (keyD k) i : Nat)) ∧ ∃ m, w' = w.drewN m := by
  have c0 := hb.cell 0
  have c1 := hb.cell 1
  simp only [List.getElem?_cons_zero, List.getElem?_cons_succ] at c0 c1
  have hk := keyD_lt k
  have HH := Lib.hid (hash_at k)
  have HW := Lib.hid (place_num (keyD k) n i hn hn2 hi hk)
  generalize keyD k = kk at *
  go_enter Try.func76, Try.ntmps76
  go_wp2
  go_quiet ((go_at_call 9; exact Calls.quiet_of_same (HH.out _)))
  go_wp2
  go_ret
  refine ⟨?_, nq, rfl⟩
  rw [← HW.out]
  rfl

theorem rcell {w : World} {b : Nat} {sl : List (Sl FD Int)} (h : Blk w b (sl.flatMap encR) 101) {q : Nat} {s : Sl FD Int} (hq : sl[q]? = some s) :
    w.cell? ⟨b, q * 4, none⟩ = some (.int .i64 s.st) ∧ w.cell? ⟨b, q * 4 + 1, none⟩ = some (.int .i64 (keyD s.key : Nat)) ∧ w.cell? ⟨b, q * 4 + 2, none⟩ = some (.int .i64 (tagD s.key : Nat)) ∧ w.cell? ⟨b, q * 4 + 3, none⟩ = some (.int .i64 s.val) := by
  have g := fun c (hc : c < 4) => (h.cell (q * 4 + c)).trans (flat_get encR 4 (fun _ => rfl) sl _ c s hq hc)
  exact ⟨g 0 (by omega), g 1 (by omega), g 2 (by omega), g 3 (by omega)⟩

set_option maxHeartbeats 1600000 in
theorem find_calls {w : World} {bm : Nat} {y o mv mk : Value} (hb : Blk w bm [.int .i64 1, .int .i64 (-1), y, o, mv, mk] 93) {b : Nat} {sl : List (Sl FD Int)} (hs : Blk w b (sl.flatMap encR) 101) (hst : ∀ s ∈ sl, s.st ≤ 2)
    (hn0 : 0 < sl.length) (hn2 : sl.length ≤ 1099511627776) (k : FD) :
    Calls Try.prog 53 #[.pointer (some ⟨bm, 0, none⟩), .slice (some ⟨b, 0, none⟩) sl.length sl.length, .int .i64 (keyD k : Nat)] w fun e w' =>
      e = .returned (.tuple #[.int .i64 (findK LD sl k).1, .int .i64 (findK LD sl k).2.2]) ∧ Keeps [] w w' := by
  obtain ⟨n, hn⟩ : ∃ n, n = sl.length := ⟨_, rfl⟩
  have hp := fun (W : World) (k' : Keeps [] w W) i (hi : i ≤ 1099511627776) => place_calls (k'.blk hb (by simp)) (some ⟨b, 0, none⟩) n n k i (by omega) (by omega) hi
  rw [← hn] at hn0 hn2 ⊢
  have HN := Lib.hid hn
  have HP := Lib.hid hp
  have HSB := Lib.hid hs
  clear hn hp hs hb
  have e0 : (findK LD sl k) = findM (fun x => feqD x k) sl (keyD k) := rfl
  rw [e0]
  clear e0
  have hk := keyD_lt k
  go_enter Try.func53, Try.ntmps53
  go_wp2
  go_loopw [8] (fun i wr => ∃ (j : Nat) (fr : Int), j ≤ n ∧ i = .int .i64 j ∧ findGo (fun x => feqD x k) sl (keyD k) (n - j) j fr = (findM (fun x => feqD x k) sl (keyD k)) ∧ Keeps [] w wr) (fun i _ => n - (intOf i).toNat)
  case atStart => exact ⟨0, -1, by omega, rfl, by unfold findM; rw [HN.out]; rfl, Keeps.refl _ _⟩
  case round =>
    obtain ⟨j, fr, hj, rfl, hf, hkp⟩ := hrel
    have HKP := Lib.hid hkp
    clear hkp
    by_cases hlt : j < n
    · have hpl : way n (keyD k) j < n := way_lt (by omega)
      obtain ⟨s, hsl⟩ : ∃ s, sl[way n (keyD k) j]? = some s := by
        have := HN.out
        exact ⟨sl[way n (keyD k) j], by rw [List.getElem?_eq_getElem]⟩
      have hm : s ∈ sl := List.mem_of_getElem? hsl
      have h2 := hst s hm
      have hpc := HP.out wr HKP.out j (by omega)
      have HC := Lib.hid (fun (W : World) (k' : Keeps [] w W) => rcell (k'.blk HSB.out (by simp)) hsl)
      have hf' : findGo (fun x => feqD x k) sl (keyD k) (n - j) j fr =
           if s.st = 0 then (-1, if fr < 0 then ((way n (keyD k) j : Nat) : Int) else fr, (j : Int) + 1)
           else if s.st = 2 then findGo (fun x => feqD x k) sl (keyD k) (n - (j + 1)) (j + 1) (if fr < 0 then ((way n (keyD k) j : Nat) : Int) else fr)
           else if feqD s.key k then ((way n (keyD k) j : Nat), fr, (j : Int) + 1) else findGo (fun x => feqD x k) sl (keyD k) (n - (j + 1)) (j + 1) fr := by
        have e1 : n - j = (n - (j + 1)) + 1 := by omega
        have e2 := hsl
        rw [HN.out] at e2
        rw [e1, findGo, e2, ← HN.out]
      rw [hf, feqD_keys] at hf'
      have HF := Lib.hid hf'
      have HPC := Lib.hid hpc
      clear hf hf' hsl hm hpc
      generalize hq : way n (keyD k) j = p at *
      clear hq
      have h3 : s.st = 0 ∨ s.st = 1 ∨ s.st = 2 := by omega
      clear h2
      rcases h3 with h3 | h3 | h3
      · rw [h3] at HF HC
        have hF := HF.out
        rw [if_pos rfl] at hF
        have HF2 := Lib.hid hF
        clear hF HF h3
        go_wp2_with fail
        refine (HPC.out).mono ?_
        rintro e w1 ⟨rfl, m, hw1⟩
        have k1 : Keeps [] w w1 := by rw [hw1]; exact HKP.out.drewN m
        obtain ⟨c0, c1, _, _⟩ := HC.out w1 k1
        have HK1 := Lib.hid k1
        clear k1 hw1
        go_wp2_with fail
        go_ret2
        rw [HF2.out]
        exact ⟨rfl, HK1.out⟩
      · rw [h3] at HF HC
        by_cases hke : keyD s.key = keyD k
        · have hF := HF.out
          rw [if_neg (by decide), if_neg (by decide), if_pos (by simp [hke])] at hF
          have HF2 := Lib.hid hF
          rw [hke] at HC
          clear hF HF h3 hke
          go_wp2_with fail
          refine (HPC.out).mono ?_
          rintro e w1 ⟨rfl, m, hw1⟩
          have k1 : Keeps [] w w1 := by rw [hw1]; exact HKP.out.drewN m
          obtain ⟨c0, c1, _, _⟩ := HC.out w1 k1
          have HK1 := Lib.hid k1
          clear k1 hw1
          go_wp2_with fail
          go_ret2
          rw [HF2.out]
          exact ⟨rfl, HK1.out⟩
        · have hF := HF.out
          rw [if_neg (by decide), if_neg (by decide), if_neg (by simp [hke])] at hF
          have HF2 := Lib.hid hF
          have hb : (((keyD s.key : Nat) : Int) == ((keyD k : Nat) : Int)) = false := by rw [beq_eq_false_iff_ne]; omega
          generalize keyD s.key = ks at *
          clear hF HF h3 hke
          go_wp2_with fail
          refine (HPC.out).mono ?_
          rintro e w1 ⟨rfl, m, hw1⟩
          have k1 : Keeps [] w w1 := by rw [hw1]; exact HKP.out.drewN m
          obtain ⟨c0, c1, _, _⟩ := HC.out w1 k1
          have HK1 := Lib.hid k1
          clear k1 hw1
          go_wp2_with fail
          go_roundw
          case rel => exact ⟨j + 1, fr, by omega, by go_num, HF2.out.symm, HK1.out⟩
          case measure => simp [intOf]; omega
      · rw [h3] at HF HC
        have hF := HF.out
        rw [if_neg (by decide), if_pos rfl] at hF
        have HF2 := Lib.hid hF
        clear hF HF h3
        go_wp2_with fail
        refine (HPC.out).mono ?_
        rintro e w1 ⟨rfl, m, hw1⟩
        have k1 : Keeps [] w w1 := by rw [hw1]; exact HKP.out.drewN m
        obtain ⟨c0, c1, _, _⟩ := HC.out w1 k1
        have HK1 := Lib.hid k1
        clear k1 hw1
        go_wp2_with fail
        go_roundw
        case rel => exact ⟨j + 1, _, by omega, by go_num, HF2.out.symm, HK1.out⟩
        case measure => simp [intOf]; omega
    · obtain rfl : j = n := by omega
      rw [show j - j = 0 from by omega, findGo] at hf
      have HF := Lib.hid hf
      clear hf
      go_wp2
      go_ret2
      rw [← HF.out]
      exact ⟨rfl, HKP.out⟩
end Go.Proofs.Ytaomaeobgfeoiaa.R
