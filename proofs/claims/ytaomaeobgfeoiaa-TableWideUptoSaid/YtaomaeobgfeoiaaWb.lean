/- TableWide: bury, lay. -/
import Derived.Test.YtaomaeobgfeoiaaWa
import Derived.StillTailTactics
import Derived.BigRegion
namespace Go.Proofs.Ytaomaeobgfeoiaa.W
open Go.RowKit Pl

def LI (hash : WK → Nat) : KeyLaw WK WK where
  cls := some
  eqK := eqW
  hash := hash
  eq_iff := fun a b => by rw [eqW_eq]; exact ⟨fun h => ⟨a, rfl, by rw [h]⟩, fun ⟨x, h1, h2⟩ => (Option.some.inj h1).trans (Option.some.inj h2).symm⟩
  hash_eq := fun a b h => by rw [eqW_eq.1 h]

/-- An array in memory: its struct in block ba, its slots in block bs. -/
structure ArrAt (w : World) (ba bs : Nat) (sl : List (Sl WK SV)) : Prop where
  ha : Blk w ba [.slice (some ⟨bs,0,none⟩) sl.length sl.length, .int .i64 (usedN sl), .int .i64 (tombN sl)] 135
  hs : Blk w bs (sl.flatMap encS) 132
  ne : ba ≠ bs
  len : ∃ e, e ≤ 40 ∧ sl.length = 2 ^ e

theorem ArrAt.keeps {F : List Nat} {w w' : World} {ba bs : Nat} {sl : List (Sl WK SV)} (h : ArrAt w ba bs sl) (k : Keeps F w w') (h1 : ba ∉ F) (h2 : bs ∉ F) : ArrAt w' ba bs sl :=
  ⟨k.blk h.ha h1, k.blk h.hs h2, h.ne, h.len⟩
theorem ArrAt.drewN {w : World} {ba bs : Nat} {sl : List (Sl WK SV)} (h : ArrAt w ba bs sl) (n : Nat) : ArrAt (w.drewN n) ba bs sl := ⟨h.ha, h.hs, h.ne, h.len⟩

theorem find_at {w : World} {ba bs : Nat} {sl : List (Sl WK SV)} (h : ArrAt w ba bs sl) (hst : ∀ s ∈ sl, s.st ≤ 2) (hash : WK → Nat) (k : WK) :
    Calls Try.prog 83 #[.pointer (some ⟨ba,0,none⟩), .int .u64 (hash k), aggK k] w fun e w' =>
      e = .returned (.tuple #[.int .i64 (findK (LI hash) sl k).1, .int .i64 (findK (LI hash) sl k).2.1, .int .i64 (findK (LI hash) sl k).2.2]) ∧ Keeps [] w w' := by
  obtain ⟨e, he, hl⟩ := h.len
  have ha := h.ha
  rw [hl] at ha
  exact find_calls w ba bs e (usedN sl) (tombN sl) sl (hash k) k he hl ha h.hs hst

theorem ArrAt.le {w : World} {ba bs : Nat} {sl : List (Sl WK SV)} (h : ArrAt w ba bs sl) : sl.length ≤ 1099511627776 := by
  obtain ⟨e, he, hl⟩ := h.len
  have : 2 ^ e ≤ 2 ^ 40 := Nat.pow_le_pow_right (by decide) he
  omega
theorem ArrAt.cells {w : World} {ba bs : Nat} {sl : List (Sl WK SV)} (h : ArrAt w ba bs sl) :
    w.cell? ⟨ba, 0, none⟩ = some (.slice (some ⟨bs, 0, none⟩) sl.length sl.length) ∧ w.cell? ⟨ba, 1, none⟩ = some (.int .i64 (usedN sl)) ∧ w.cell? ⟨ba, 2, none⟩ = some (.int .i64 (tombN sl)) := ⟨h.ha.cell 0, h.ha.cell 1, h.ha.cell 2⟩

theorem flat6 {q : Nat} {sl : List (Sl WK SV)} {s : Sl WK SV} (hp : sl[q]? = some s) (a : Nat) (k : WK) (v : SV) :
    ((((((sl.flatMap encS).set (q * 6) (.int .u8 a)).set (q * 6 + 1) (.int .i8 k.a)).set (q * 6 + 2) (.int .u8 k.b0)).set (q * 6 + 3) (.int .u8 k.b1)).set (q * 6 + 4) (.string k.c)).set (q * 6 + 5) (sv v) = (sl.set q ⟨a, k, v⟩).flatMap encS := by
  obtain ⟨l1, l2, e1, e2, e3⟩ := split_at sl q s hp
  have hl : (l1.flatMap encS).length = q * 6 := by
    rw [← e2]; clear e1 e2 e3 hp
    induction l1 with
    | nil => rfl
    | cons x l ih => rw [List.flatMap_cons, List.length_append, ih, List.length_cons]; simp [encS]; omega
  rw [e3, e1, List.flatMap_append, List.flatMap_append, List.flatMap_cons, List.flatMap_cons]
  have g : ∀ (c : Nat) (A B : List Value) (u : Value), A.length = q * 6 → (A ++ B).set (q * 6 + c) u = A ++ B.set c u := by
    intro c A B u hA
    rw [List.set_append, if_neg (by omega), hA, Nat.add_sub_cancel_left]
  have g0 := fun (A B : List Value) (u : Value) (hA : A.length = q * 6) => g 0 A B u hA
  simp only [Nat.add_zero] at g0
  rw [g0 _ _ _ hl, g 1 _ _ _ hl, g 2 _ _ _ hl, g 3 _ _ _ hl, g 4 _ _ _ hl, g 5 _ _ _ hl]
  rfl

/-- A slot is written. -/
abbrev wrote (w : World) (bs p a : Nat) (k : WK) (v : SV) : World :=
  (((((w.setCell ⟨bs, p * 6, none⟩ (.int .u8 a)).setCell ⟨bs, p * 6 + 1, none⟩ (.int .i8 k.a)).setCell ⟨bs, p * 6 + 2, none⟩ (.int .u8 k.b0)).setCell ⟨bs, p * 6 + 3, none⟩ (.int .u8 k.b1)).setCell ⟨bs, p * 6 + 4, none⟩ (.string k.c)).setCell ⟨bs, p * 6 + 5, none⟩ (sv v)
theorem wrote_keeps (w : World) (bs p a : Nat) (k : WK) (v : SV) : Keeps [bs] w (wrote w bs p a k v) := by
  refine Keeps.setCell (Keeps.setCell (Keeps.setCell (Keeps.setCell (Keeps.setCell (Keeps.setCell (Keeps.refl _ _) _ _ ?_) _ _ ?_) _ _ ?_) _ _ ?_) _ _ ?_) _ _ ?_ <;> simp
theorem wrote_blk {w : World} {bs p a : Nat} {k : WK} {v : SV} {sl : List (Sl WK SV)} {s : Sl WK SV} (h : Blk w bs (sl.flatMap encS) 132) (hs : sl[p]? = some s) : Blk (wrote w bs p a k v) bs ((sl.set p ⟨a, k, v⟩).flatMap encS) 132 := by
  have := (((((h.set (p * 6) (.int .u8 a)).set (p * 6 + 1) (.int .i8 k.a)).set (p * 6 + 2) (.int .u8 k.b0)).set (p * 6 + 3) (.int .u8 k.b1)).set (p * 6 + 4) (.string k.c)).set (p * 6 + 5) (sv v)
  rw [← flat6 hs a k v]
  exact this

set_option maxHeartbeats 1600000 in
theorem bury_calls (w : World) (ba bs : Nat) (sl : List (Sl WK SV)) (p : Nat) (s : Sl WK SV) (h : ArrAt w ba bs sl) (hp : sl[p]? = some s) (hs : s.st = 1) :
    Calls Try.prog 71 #[.pointer (some ⟨ba,0,none⟩), .int .i64 p] w fun e w' =>
      e = .returned (sv s.val) ∧ ArrAt w' ba bs (buryM 0 0 sl p) ∧ Keeps [ba, bs] w w' := by
  have hpl : p < sl.length := (List.getElem?_eq_some_iff.1 hp).1
  have hle := h.le
  obtain ⟨h1, h2, h3⟩ := h.cells
  have f1 := h.ha.frozen 1
  have f2 := h.ha.frozen 2
  have g0 := h.hs.frozen (p * 6)
  have g1 := h.hs.frozen (p * 6 + 1)
  have g2 := h.hs.frozen (p * 6 + 2)
  have g3 := h.hs.frozen (p * 6 + 3)
  have g4 := h.hs.frozen (p * 6 + 4)
  have g5 := h.hs.frozen (p * 6 + 5)
  obtain ⟨c0, c1, c2, c3, c4, c5⟩ := wcells h.hs hp
  have hne := h.ne
  have hne' := hne.symm
  have hu1 := usedN_le sl
  have ht1 := tombN_le sl
  have hbu := usedN_bury (s' := (⟨2, 0, 0⟩ : Sl WK SV)) hp hs (by simp)
  have htb := tombN_set (s' := (⟨2, 0, 0⟩ : Sl WK SV)) hp
  simp only [hs, show ¬ (1 : Nat) = 2 from by omega, if_false, if_true, Nat.add_zero] at htb
  have hu0 : 1 ≤ usedN sl := by omega
  have HP := Lib.hid hp
  have HS := Lib.hid hs
  have HB := Lib.hid hbu
  have HT := Lib.hid htb
  have HH := Lib.hid h
  clear hp hs hbu htb h
  go_enter Try.func71, Try.ntmps71
  go_wp2
  go_ret
  have hb1 : Blk (wrote w bs p 2 0 0) ba [.slice (some ⟨bs,0,none⟩) sl.length sl.length, .int .i64 (usedN sl), .int .i64 (tombN sl)] 135 := (wrote_keeps w bs p 2 0 0).blk HH.out.ha (by simpa using hne)
  have hb2 : Blk (wrote w bs p 2 0 0) bs ((buryM 0 0 sl p).flatMap encS) 132 := wrote_blk HH.out.hs HP.out
  have e1 : ((usedN sl : Int) - 1) = ((usedN (buryM 0 0 sl p) : Nat) : Int) := by have := HB.out; unfold buryM; omega
  have e2 : ((tombN sl : Int) + 1) = ((tombN (buryM 0 0 sl p) : Nat) : Int) := by have := HT.out; unfold buryM; omega
  refine ⟨rfl, ⟨?_, ?_, hne, ?_⟩, ?_⟩
  · rw [show (buryM 0 0 sl p).length = sl.length from by simp [buryM], ← e1, ← e2]
    exact (hb1.set 1 _).set 2 _
  · exact (hb2.set_other hne' _ _).set_other hne' _ _
  · obtain ⟨e, he, hl⟩ := HH.out.len
    exact ⟨e, he, by simp [buryM, hl]⟩
  · exact Keeps.setCell (Keeps.setCell ((wrote_keeps w bs p 2 0 0).mono (by simp)) _ _ (by simp)) _ _ (by simp)

set_option maxRecDepth 100000 in
set_option maxHeartbeats 3200000 in
theorem lay_calls (hash : WK → Nat) (w : World) (ba bs : Nat) (sl : List (Sl WK SV)) (k : WK) (v : SV) (h : ArrAt w ba bs sl) (hok : ArrOk (LI hash) sl) (hl : Lacks (LI hash) sl k) (hu : usedN sl < sl.length) :
    Calls Try.prog 72 #[.pointer (some ⟨ba,0,none⟩), .int .u64 (hash k), aggK k, sv v] w fun e w' =>
      e = .returned (.tuple #[]) ∧ ArrAt w' ba bs (layM (LI hash) sl k v) ∧ Keeps [ba, bs] w w' := by
  have hL := layM_spec (LI hash) hok v hl hu
  obtain ⟨q, s, hq, hs, hs1, hs2, he⟩ := hL.at_
  obtain ⟨w0, hw0⟩ : ∃ w0, w0 = w.alloc (.cells #[.int .i8 k.a, .int .u8 k.b0, .int .u8 k.b1, .string k.c] 74) := ⟨_, rfl⟩
  have hk0 : Keeps [] w w0 := by rw [hw0]; exact (Keeps.refl _ _).alloc _
  have hkb : Blk w0 w.heap.size (cellsK k) 74 := by rw [hw0]; exact Blk.new w (cellsK k) 74
  have h0 := h.keeps hk0 (by simp) (by simp)
  have hf := find_at h0 hok.st hash k
  rw [hq] at hf
  have hul := hL.used
  have htl := tombN_set (s' := (⟨1, k, v⟩ : Sl WK SV)) hs
  simp only [show ¬ (1 : Nat) = 2 from by omega, if_false, Nat.add_zero] at htl
  rw [← he] at htl
  have hll := hL.len
  generalize layM (LI hash) sl k v = sl' at *
  generalize (findK (LI hash) sl k).1 = r1 at *
  generalize (findK (LI hash) sl k).2.2 = r3 at *
  have hpl : q < sl.length := (List.getElem?_eq_some_iff.1 hs).1
  have hle := h.le
  have hne := h.ne
  have hne' := hne.symm
  have hu1 := usedN_le sl
  have ht1 := tombN_le sl
  have hbal := h.ha.lt
  have hbsl := h.hs.lt
  have HS := Lib.hid hs
  have HE := Lib.hid he
  have HU := Lib.hid hul
  have HT := Lib.hid htl
  have HLL := Lib.hid hll
  have HF := Lib.hid hf
  have H0 := Lib.hid h0
  have HKB := Lib.hid hkb
  have HK0 := Lib.hid hk0
  have HLEN := Lib.hid h.len
  have HW0 := Lib.hid hw0
  have hkc := kcells hkb
  clear hs he hul htl hL hll hf hq hkb h0 hk0 h hw0 hok hl hu hkc
  go_enter Try.func72, Try.ntmps72
  go_wp2_with fail
  rw [← HW0.out]
  refine (HF.out).mono ?_
  rintro e w1 ⟨rfl, k1⟩
  have h1 := H0.out.keeps k1 (by simp) (by simp)
  obtain ⟨a1, a2, a3⟩ := h1.cells
  have f2 := h1.ha.frozen 2
  obtain ⟨c0, c1, c2, c3, c4, c5⟩ := wcells h1.hs HS.out
  have hb1 := k1.blk HKB.out (by simp)
  have hbk1 : w.heap.size ≠ ba := by omega
  have hbk2 : w.heap.size ≠ bs := by omega
  have H1 := Lib.hid h1
  have HB1 := Lib.hid hb1
  have HK1 := Lib.hid k1
  clear h1 hb1 k1 c1 c2 c3 c4 c5 HW0
  generalize w.heap.size = bk at *
  by_cases h2' : s.st = 2
  · rw [h2'] at c0
    have ht0 : 1 ≤ tombN sl := by have := HT.out; rw [if_pos h2'] at this; omega
    have e2 : ((tombN sl : Int) - 1) = ((tombN sl' : Nat) : Int) := by have := HT.out; rw [if_pos h2'] at this; omega
    have HTM := Lib.hid e2
    clear h2' e2
    go_wp2_with fail
    obtain ⟨w2, hw2⟩ : ∃ w2, w2 = w1.setCell ⟨ba, 2, none⟩ (.int .i64 ((tombN sl : Int) - 1)) := ⟨_, rfl⟩
    have b2 : Blk w2 ba [.slice (some ⟨bs,0,none⟩) sl.length sl.length, .int .i64 (usedN sl), .int .i64 ((tombN sl : Int) - 1)] 135 := by rw [hw2]; exact H1.out.ha.set 2 _
    have s2b : Blk w2 bs (sl.flatMap encS) 132 := by rw [hw2]; exact H1.out.hs.set_other hne' _ _
    have b3 : Blk w2 bk (cellsK k) 74 := by rw [hw2]; exact HB1.out.set_other hbk1 _ _
    have hk2 : Keeps [ba, bs] w1 w2 := by rw [hw2]; exact Keeps.setCell (Keeps.refl _ _) _ _ (by simp)
    rw [← hw2]
    clear a1 a2 a3 f2 c0
    clear hw2
    have m1 := b2.cell 0
    have m2 := b2.cell 1
    have m3 := b2.cell 2
    simp only [List.getElem?_cons_zero, List.getElem?_cons_succ] at m1 m2 m3
    have fu := b2.frozen 1
    obtain ⟨d0, d1, d2, d3, d4, d5⟩ := wcells s2b HS.out
    obtain ⟨k0, k1', k2', k3⟩ := kcells b3
    have g0 := s2b.frozen (q * 6)
    have g1 := s2b.frozen (q * 6 + 1)
    have g2 := s2b.frozen (q * 6 + 2)
    have g3 := s2b.frozen (q * 6 + 3)
    have g4 := s2b.frozen (q * 6 + 4)
    have g5 := s2b.frozen (q * 6 + 5)
    have B2 := Lib.hid b2
    have S2 := Lib.hid s2b
    have HK2 := Lib.hid hk2
    clear b2 b3 s2b hk2
    go_region
    obtain ⟨w3, hw3⟩ : ∃ w3, w3 = (wrote w2 bs q 1 k v).drew := ⟨_, rfl⟩
    have k3' : Keeps [bs] w2 w3 := by rw [hw3]; exact (wrote_keeps w2 bs q 1 k v).drew
    have s3 : Blk w3 bs (sl'.flatMap encS) 132 := by rw [hw3, HE.out]; exact (wrote_blk S2.out HS.out).drew
    have b4 := k3'.blk B2.out (by simpa using hne)
    change Exit.then _ _ _ _ (wrote w2 bs q 1 k v).drew
    rw [← hw3]
    clear hw3 m1 m2 m3 fu d0 d1 d2 d3 d4 d5 k0 k1' k2' k3 g0 g1 g2 g3 g4 g5
    have m2 := b4.cell 1
    simp only [List.getElem?_cons_zero, List.getElem?_cons_succ] at m2
    have fu := b4.frozen 1
    have B4 := Lib.hid b4
    have S3 := Lib.hid s3
    have HK3 := Lib.hid k3'
    clear b4 s3 k3'
    go_wp2_with fail
    go_end0
    refine ⟨rfl, ⟨?_, S3.out.set_other hne' _ _, hne, ?_⟩, ?_⟩
    · have e1 : ((usedN sl : Int) + 1) = ((usedN sl' : Nat) : Int) := by have := HU.out; omega
      rw [HLL.out, ← e1, ← HTM.out]
      exact B4.out.set 1 _
    · obtain ⟨e, he, hl⟩ := HLEN.out
      exact ⟨e, he, by rw [HLL.out]; exact hl⟩
    · exact Keeps.setCell ((((HK0.out.trans HK1.out (by simp)).mono (G := [ba, bs]) (by simp)).trans HK2.out (by simp)).trans HK3.out (by simp)) _ _ (by simp)
  · have hst : (((s.st : Int) == 2)) = false := by rw [beq_eq_false_iff_ne]; omega
    have e2 : (tombN sl : Int) = ((tombN sl' : Nat) : Int) := by have := HT.out; rw [if_neg h2'] at this; omega
    have HTM := Lib.hid e2
    clear h2' e2
    go_wp2_with fail
    obtain ⟨w2, hw2⟩ : ∃ w2, w2 = w1 := ⟨_, rfl⟩
    have b2 : Blk w2 ba [.slice (some ⟨bs,0,none⟩) sl.length sl.length, .int .i64 (usedN sl), .int .i64 (tombN sl)] 135 := by rw [hw2]; exact H1.out.ha
    have s2b : Blk w2 bs (sl.flatMap encS) 132 := by rw [hw2]; exact H1.out.hs
    have b3 : Blk w2 bk (cellsK k) 74 := by rw [hw2]; exact HB1.out
    have hk2 : Keeps [ba, bs] w1 w2 := by rw [hw2]; exact Keeps.refl _ _
    rw [← hw2]
    clear a1 a2 a3 f2 c0
    clear hw2
    have m1 := b2.cell 0
    have m2 := b2.cell 1
    have m3 := b2.cell 2
    simp only [List.getElem?_cons_zero, List.getElem?_cons_succ] at m1 m2 m3
    have fu := b2.frozen 1
    obtain ⟨d0, d1, d2, d3, d4, d5⟩ := wcells s2b HS.out
    obtain ⟨k0, k1', k2', k3⟩ := kcells b3
    have g0 := s2b.frozen (q * 6)
    have g1 := s2b.frozen (q * 6 + 1)
    have g2 := s2b.frozen (q * 6 + 2)
    have g3 := s2b.frozen (q * 6 + 3)
    have g4 := s2b.frozen (q * 6 + 4)
    have g5 := s2b.frozen (q * 6 + 5)
    have B2 := Lib.hid b2
    have S2 := Lib.hid s2b
    have HK2 := Lib.hid hk2
    clear b2 b3 s2b hk2
    go_region
    obtain ⟨w3, hw3⟩ : ∃ w3, w3 = (wrote w2 bs q 1 k v).drew := ⟨_, rfl⟩
    have k3' : Keeps [bs] w2 w3 := by rw [hw3]; exact (wrote_keeps w2 bs q 1 k v).drew
    have s3 : Blk w3 bs (sl'.flatMap encS) 132 := by rw [hw3, HE.out]; exact (wrote_blk S2.out HS.out).drew
    have b4 := k3'.blk B2.out (by simpa using hne)
    change Exit.then _ _ _ _ (wrote w2 bs q 1 k v).drew
    rw [← hw3]
    clear hw3 m1 m2 m3 fu d0 d1 d2 d3 d4 d5 k0 k1' k2' k3 g0 g1 g2 g3 g4 g5
    have m2 := b4.cell 1
    simp only [List.getElem?_cons_zero, List.getElem?_cons_succ] at m2
    have fu := b4.frozen 1
    have B4 := Lib.hid b4
    have S3 := Lib.hid s3
    have HK3 := Lib.hid k3'
    clear b4 s3 k3'
    go_wp2_with fail
    go_end0
    refine ⟨rfl, ⟨?_, S3.out.set_other hne' _ _, hne, ?_⟩, ?_⟩
    · have e1 : ((usedN sl : Int) + 1) = ((usedN sl' : Nat) : Int) := by have := HU.out; omega
      rw [HLL.out, ← e1, ← HTM.out]
      exact B4.out.set 1 _
    · obtain ⟨e, he, hl⟩ := HLEN.out
      exact ⟨e, he, by rw [HLL.out]; exact hl⟩
    · exact Keeps.setCell ((((HK0.out.trans HK1.out (by simp)).mono (G := [ba, bs]) (by simp)).trans HK2.out (by simp)).trans HK3.out (by simp)) _ _ (by simp)
end Go.Proofs.Ytaomaeobgfeoiaa.W
