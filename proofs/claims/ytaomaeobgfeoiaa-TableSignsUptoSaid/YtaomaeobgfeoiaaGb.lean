import Derived.Test.YtaomaeobgfeoiaaGa
import Derived.Test.YtaomaeobgfeoiaaTc
import Derived.StillTailTactics
namespace Go.Proofs.Ytaomaeobgfeoiaa.G
open Go.RowKit Pl
attribute [local go_sem] run_store_float

def LI (hash : FHashD) : KeyLaw FD Nat where
  cls := fun a => some (keyD a)
  eqK := feqD
  hash := hash.1
  eq_iff := fun a b => feqD_iff a b
  hash_eq := fun a b h => hash.2 a b h

/-- An array in memory: its struct in block ba, its slots in block bs. -/
structure ArrAt (w : World) (ba bs : Nat) (sl : List (Sl FD Int)) : Prop where
  ha : Blk w ba [.slice (some ⟨bs,0,none⟩) sl.length sl.length, .int .i64 (usedN sl), .int .i64 (tombN sl)] 106
  hs : Blk w bs (sl.flatMap encS) 103
  ne : ba ≠ bs
  len : ∃ e, e ≤ 40 ∧ sl.length = 2 ^ e

theorem ArrAt.drewN {w : World} {ba bs : Nat} {sl : List (Sl FD Int)} (h : ArrAt w ba bs sl) (n : Nat) : ArrAt (w.drewN n) ba bs sl := ⟨h.ha, h.hs, h.ne, h.len⟩
theorem ArrAt.keeps {F : List Nat} {w w' : World} {ba bs : Nat} {sl : List (Sl FD Int)} (h : ArrAt w ba bs sl) (k : Keeps F w w') (h1 : ba ∉ F) (h2 : bs ∉ F) : ArrAt w' ba bs sl :=
  ⟨k.blk h.ha h1, k.blk h.hs h2, h.ne, h.len⟩

theorem find_at {w : World} {ba bs : Nat} {sl : List (Sl FD Int)} (h : ArrAt w ba bs sl) (hst : ∀ s ∈ sl, s.st ≤ 2) (hash : FHashD) (k : FD) :
    Calls Try.prog 75 #[.pointer (some ⟨ba,0,none⟩), .int .u64 (hash k), .float .f64 k.1] w fun e w' =>
      e = .returned (.tuple #[.int .i64 (findK (LI hash) sl k).1, .int .i64 (findK (LI hash) sl k).2.1, .int .i64 (findK (LI hash) sl k).2.2]) ∧ ∃ n, w' = w.drewN n := by
  obtain ⟨e, he, hl⟩ := h.len
  have ha := h.ha
  rw [hl] at ha
  exact find_calls w ba bs e (usedN sl) (tombN sl) sl (hash k) k he hl ha h.hs hst

theorem flat3 {q : Nat} {sl : List (Sl FD Int)} {s : Sl FD Int} (hp : sl[q]? = some s) (a : Nat) (k : FD) (v : Int) :
    (((sl.flatMap encS).set (q * 3) (.int .u8 a)).set (q * 3 + 1) (.float .f64 k.1)).set (q * 3 + 2) (.int .i64 v) = (sl.set q ⟨a, k, v⟩).flatMap encS := by
  have hpl : q < sl.length := (List.getElem?_eq_some_iff.1 hp).1
  have e0 := flat_set encS 3 (fun _ => rfl) sl q 0 s ⟨a, s.key, s.val⟩ (.int .u8 a) hp (by omega) rfl
  rw [Nat.add_zero] at e0
  rw [e0,
    flat_set encS 3 (fun _ => rfl) _ q 1 ⟨a, s.key, s.val⟩ ⟨a, k, s.val⟩ _ (by simp [hpl]) (by omega) rfl,
    flat_set encS 3 (fun _ => rfl) _ q 2 ⟨a, k, s.val⟩ ⟨a, k, v⟩ _ (by simp [hpl]) (by omega) rfl]
  simp

theorem slot_cells {w : World} {bs p : Nat} {sl : List (Sl FD Int)} {s : Sl FD Int} (h : Blk w bs (sl.flatMap encS) 103) (hp : sl[p]? = some s) :
    w.cell? ⟨bs, p * 3, none⟩ = some (.int .u8 s.st) ∧ w.cell? ⟨bs, p * 3 + 1, none⟩ = some (.float .f64 s.key.1) ∧ w.cell? ⟨bs, p * 3 + 2, none⟩ = some (.int .i64 s.val) := by
  refine ⟨?_, ?_, ?_⟩
  · have := h.cell (p * 3 + 0)
    rw [flat_get encS 3 (fun _ => rfl) sl _ 0 s hp (by omega)] at this
    exact this
  · have := h.cell (p * 3 + 1)
    rw [flat_get encS 3 (fun _ => rfl) sl _ 1 s hp (by omega)] at this
    exact this
  · have := h.cell (p * 3 + 2)
    rw [flat_get encS 3 (fun _ => rfl) sl _ 2 s hp (by omega)] at this
    exact this

theorem ArrAt.le {w : World} {ba bs : Nat} {sl : List (Sl FD Int)} (h : ArrAt w ba bs sl) : sl.length ≤ 1099511627776 := by
  obtain ⟨e, he, hl⟩ := h.len
  have : 2 ^ e ≤ 2 ^ 40 := Nat.pow_le_pow_right (by decide) he
  omega

set_option maxHeartbeats 800000 in
theorem bury_calls (w : World) (ba bs : Nat) (sl : List (Sl FD Int)) (p : Nat) (s : Sl FD Int) (h : ArrAt w ba bs sl) (hp : sl[p]? = some s) (hs : s.st = 1) :
    Calls Try.prog 51 #[.pointer (some ⟨ba,0,none⟩), .int .i64 p] w fun e w' =>
      e = .returned (.int .i64 s.val) ∧ ArrAt w' ba bs (buryM 0 0 sl p) ∧ Keeps [ba, bs] w w' ∧ w'.heap.size = w.heap.size := by
  have hpl : p < sl.length := (List.getElem?_eq_some_iff.1 hp).1
  have hle := h.le
  have h1 := h.ha.cell 0
  have h2 := h.ha.cell 1
  have h3 := h.ha.cell 2
  have f1 := h.ha.frozen 1
  have f2 := h.ha.frozen 2
  have g0 := h.hs.frozen (p * 3)
  have g1 := h.hs.frozen (p * 3 + 1)
  have g2 := h.hs.frozen (p * 3 + 2)
  simp only [List.getElem?_cons_zero, List.getElem?_cons_succ] at h1 h2 h3
  obtain ⟨c0, c1, c2⟩ := slot_cells h.hs hp
  have hne := h.ne
  have hne' := hne.symm
  have hu1 := usedN_le sl
  have ht1 := tombN_le sl
  have hbu := usedN_bury (s' := (⟨2, 0, 0⟩ : Sl FD Int)) hp hs (by simp)
  have htb := tombN_set (s' := (⟨2, 0, 0⟩ : Sl FD Int)) hp
  simp only [hs, show ¬ (1 : Nat) = 2 from by omega, if_false, if_true, Nat.add_zero] at htb
  have hu0 : 1 ≤ usedN sl := by omega
  have HP := Lib.hid hp
  have HS := Lib.hid hs
  have HB := Lib.hid hbu
  have HT := Lib.hid htb
  clear hp hs hbu htb
  go_enter Try.func51, Try.ntmps51
  go_wp2
  go_ret
  refine ⟨rfl, ⟨?_, ?_, hne, ?_⟩, ?_, by simp⟩
  · apply Blk.of
    · repeat (with_reducible first | exact h.ha | apply Blk.set_other (hne := hne) | apply Blk.set)
    · have e1 : ((usedN sl : Int) - 1) = ((usedN (buryM 0 0 sl p) : Nat) : Int) := by have := HB.out; unfold buryM; omega
      have e2 : ((tombN sl : Int) + 1) = ((tombN (buryM 0 0 sl p) : Nat) : Int) := by have := HT.out; unfold buryM; omega
      rw [show (buryM 0 0 sl p).length = sl.length from by simp [buryM], ← e1, ← e2]
      rfl
  · apply Blk.of
    · repeat (with_reducible first | exact h.hs | apply Blk.set_other (hne := hne') | apply Blk.set)
    · exact flat3 HP.out 2 0 0
  · obtain ⟨e, he, hl⟩ := h.len
    exact ⟨e, he, by simp [buryM, hl]⟩
  · refine Keeps.setCell (Keeps.setCell (Keeps.setCell (Keeps.setCell (Keeps.setCell (Keeps.refl _ _) _ _ ?_) _ _ ?_) _ _ ?_) _ _ ?_) _ _ ?_ <;> simp

set_option maxHeartbeats 800000 in
theorem lay_calls (hash : FHashD) (w : World) (ba bs : Nat) (sl : List (Sl FD Int)) (k : FD) (v : Int) (h : ArrAt w ba bs sl) (hok : ArrOk (LI hash) sl) (hl : Lacks (LI hash) sl k) (hu : usedN sl < sl.length) :
    Calls Try.prog 54 #[.pointer (some ⟨ba,0,none⟩), .int .u64 (hash k), .float .f64 k.1, .int .i64 v] w fun e w' =>
      e = .returned (.tuple #[]) ∧ ArrAt w' ba bs (layM (LI hash) sl k v) ∧ Keeps [ba, bs] w w' ∧ w'.heap.size = w.heap.size := by
  have hL := layM_spec (LI hash) hok v hl hu
  obtain ⟨q, s, hq, hs, hs1, hs2, he⟩ := hL.at_
  have hf := find_at h hok.st hash k
  rw [hq] at hf
  have hul := hL.used
  have htl := tombN_set (s' := (⟨1, k, v⟩ : Sl FD Int)) hs
  simp only [show ¬ (1 : Nat) = 2 from by omega, if_false, Nat.add_zero] at htl
  rw [← he] at htl
  have hll := hL.len
  generalize layM (LI hash) sl k v = sl' at *
  generalize (findK (LI hash) sl k).1 = r1 at *
  generalize (findK (LI hash) sl k).2.2 = r3 at *
  have hpl : q < sl.length := (List.getElem?_eq_some_iff.1 hs).1
  have hle := h.le
  have h1 := h.ha.cell 0
  have h2 := h.ha.cell 1
  have h3 := h.ha.cell 2
  have f1 := h.ha.frozen 1
  have f2 := h.ha.frozen 2
  have g0 := h.hs.frozen (q * 3)
  have g1 := h.hs.frozen (q * 3 + 1)
  have g2 := h.hs.frozen (q * 3 + 2)
  simp only [List.getElem?_cons_zero, List.getElem?_cons_succ] at h1 h2 h3
  obtain ⟨c0, c1, c2⟩ := slot_cells h.hs hs
  have hne := h.ne
  have hne' := hne.symm
  have hu1 := usedN_le sl
  have ht1 := tombN_le sl
  have HS := Lib.hid hs
  have HE := Lib.hid he
  have HU := Lib.hid hul
  have HT := Lib.hid htl
  have HLL := Lib.hid hll
  have HF := Lib.hid hf
  clear hs he hul htl hL hll hf hq
  by_cases h2' : s.st = 2
  · have hst : (((s.st : Int) == 2)) = true := by simp [h2']
    have ht0 : 1 ≤ tombN sl := by have := HT.out; rw [if_pos h2'] at this; omega
    have HST := Lib.hid h2'
    clear h2'
    go_enter Try.func54, Try.ntmps54
    go_wp2_with (go_at_call 75; refine (HF.out).mono ?_; rintro e w' ⟨rfl, n, rfl⟩)
    go_end0
    refine ⟨rfl, ⟨?_, ?_, hne, ?_⟩, ?_, by simp⟩
    · apply Blk.of
      · repeat (with_reducible first | exact h.ha | apply Blk.set_other (hne := hne) | apply Blk.set | apply Blk.undrew)
      · have e1 : ((usedN sl : Int) + 1) = ((usedN sl' : Nat) : Int) := by have := HU.out; omega
        have e2 : ((tombN sl : Int) - 1) = ((tombN sl' : Nat) : Int) := by have := HT.out; rw [if_pos HST.out] at this; omega
        rw [HLL.out, ← e1, ← e2]
        rfl
    · apply Blk.of
      · repeat (with_reducible first | exact h.hs | apply Blk.set_other (hne := hne') | apply Blk.set | apply Blk.undrew)
      · rw [HE.out]; exact flat3 HS.out 1 k v
    · obtain ⟨e, he, hl⟩ := h.len
      exact ⟨e, he, by rw [HLL.out]; exact hl⟩
    · refine Keeps.setCell (Keeps.setCell (Keeps.setCell (Keeps.setCell (Keeps.setCell (Keeps.drewN (Keeps.refl _ _) _) _ _ ?_) _ _ ?_) _ _ ?_) _ _ ?_) _ _ ?_ <;> simp
  · have hst : (((s.st : Int) == 2)) = false := by rw [beq_eq_false_iff_ne]; omega
    have HST := Lib.hid h2'
    clear h2'
    go_enter Try.func54, Try.ntmps54
    go_wp2_with (go_at_call 75; refine (HF.out).mono ?_; rintro e w' ⟨rfl, n, rfl⟩)
    go_end0
    refine ⟨rfl, ⟨?_, ?_, hne, ?_⟩, ?_, by simp⟩
    · apply Blk.of
      · repeat (with_reducible first | exact h.ha | apply Blk.set_other (hne := hne) | apply Blk.set | apply Blk.undrew)
      · have e1 : ((usedN sl : Int) + 1) = ((usedN sl' : Nat) : Int) := by have := HU.out; omega
        have e2 : ((tombN sl : Int)) = ((tombN sl' : Nat) : Int) := by have := HT.out; rw [if_neg HST.out] at this; omega
        rw [HLL.out, ← e1, ← e2]
        rfl
    · apply Blk.of
      · repeat (with_reducible first | exact h.hs | apply Blk.set_other (hne := hne') | apply Blk.set | apply Blk.undrew)
      · rw [HE.out]; exact flat3 HS.out 1 k v
    · obtain ⟨e, he, hl⟩ := h.len
      exact ⟨e, he, by rw [HLL.out]; exact hl⟩
    · refine Keeps.setCell (Keeps.setCell (Keeps.setCell (Keeps.setCell (Keeps.drewN (Keeps.refl _ _) _) _ _ ?_) _ _ ?_) _ _ ?_) _ _ ?_ <;> simp
end Go.Proofs.Ytaomaeobgfeoiaa.G
