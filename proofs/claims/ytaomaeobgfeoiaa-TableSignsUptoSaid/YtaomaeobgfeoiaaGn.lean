import Derived.RangeFuncNested
import Derived.RangeFuncBound
import Derived.RangeFuncCalls
import Derived.RangeFuncLeaves
import Derived.Shelf.Abstract
import Derived.Shelf.RegionOpen
import Derived.WalkKit
import Derived.OwnWalkIn
import Derived.TacticsInMore
import Derived.LoopNIn
import Derived.LoopIn
import Derived.Test.YtaomaeobgfeoiaaGk
namespace Go.Proofs.Ytaomaeobgfeoiaa.G
open Go.RowKit Pl Go.Shelf
attribute [local go_sem] run_store_float
attribute [local go_sem] Oper.semAt_some

/-- What a round of a loop over the table's pairs keeps: whatever block is no row of ints and no box of one. -/
def Kp (A B : World) : Prop := ∀ b cs t, t ≠ 3 → t ≠ 40 → Blk A b cs t → Blk B b cs t
theorem Kp.refl (A : World) : Kp A A := fun _ _ _ _ _ h => h
theorem Kp.trans {A B C : World} (h : Kp A B) (k : Kp B C) : Kp A C := fun b cs t h1 h2 hb => k b cs t h1 h2 (h b cs t h1 h2 hb)
theorem Kp.keeps0 {A B : World} (h : Keeps [] A B) : Kp A B := fun _ _ _ _ _ hb => h.blk hb (by simp)
theorem Kp.bk (W : World) (l : Nat) (o o' : Obj) (h : W.heap[l]? = some o) (ho : o.isCells = false) : Kp W (W.putObj l o') := fun b cs t _ _ hb => by
  unfold Blk at hb ⊢
  have hne : b ≠ l := fun e => by rw [e, h] at hb; cases hb; cases ho
  exact ((grownBy_putObj' W l o').block b (by rcases Nat.lt_or_ge b W.heap.size with q | q; exact q; rw [Array.getElem?_eq_none q] at hb; cases hb) (by intro e; cases e; exact hne rfl)).trans hb
theorem Kp.arr {A B : World} (h : Kp A B) {ba bs : Nat} {sl : List (Sl FD Int)} (ha : ArrAt A ba bs sl) : ArrAt B ba bs sl :=
  ⟨h _ _ _ (by decide) (by decide) ha.ha, h _ _ _ (by decide) (by decide) ha.hs, ha.ne, ha.len⟩

theorem grown0 {w w' : World} (k : Keeps [] w w') : w.grownBy w' none := ⟨k.os, k.tape, k.output, k.size, fun i hi _ => k.block i hi (by simp)⟩
theorem abides0 {β : Type} {B : Nat} {J : β → World → Prop} (hJ : AbidesFrom B J) {s : β} {w w' : World} (h : J s w) (k : Keeps [] w w') : J s w' := hJ s w w' none h (grown0 k) (by simp)

/-- What has come when so many of the two arrays are over. -/
def doneAt (T : Tab FD Int) : Nat → List (FD × Int)
  | 0 => []
  | 1 => T.oldFulls
  | _ => T.pairs

theorem all_in (w : World) (bt : Nat) : Calls Try.prog 19 #[.pointer (some ⟨bt, 0, none⟩)] w fun e w' => e = .returned (.func (.func 59) #[] #[.pointer (some ⟨w.heap.size, 0, none⟩)]) ∧ w' = w.alloc (.cells #[.pointer (some ⟨bt, 0, none⟩)] 23) := by
  go_enter Try.func19, Try.ntmps19
  go_wp2
  go_ret
  exact ⟨rfl, rfl⟩

set_option maxRecDepth 100000 in
set_option maxHeartbeats 2000000 in
theorem all1_in (n : Nat) (hn : 1 ≤ n) (l bx bt ya ys oa os : Nat) (hv : Value) (T : Tab FD Int) (J Jx : List (FD × Int) → World → Prop) (W : World) (hJ : AbidesFrom W.heap.size J)
    (hY : ∀ pre x W1, J pre W1 → pre.length < T.pairs.length → YieldAt Fence.wide (n - 1) Try.prog l #[.float .f64 x.1.1, .int .i64 x.2] W1 fun e W' =>
      (e = .returned (.bool true) ∧ J (pre ++ [x]) W' ∧ Kp W1 W') ∨ (e = .returned (.bool false) ∧ Jx (pre ++ [x]) W'))
    (hbx : Blk W bx [.pointer (some ⟨bt, 0, none⟩)] 23) (hT : TabAt W hv bt ya ys oa os T) (h0 : J [] W) :
    CallsIn Fence.wide n Try.prog 59 #[.func (.yield l) #[] #[], .pointer (some ⟨bx, 0, none⟩)] W fun e W' => (∃ v, e = .returned v) ∧
      ((∃ ys, ys = T.pairs ∧ J ys W') ∨ (∃ pre, pre <+: T.pairs ∧ Jx pre W')) := by
  have c0 := hbx.cell 0
  simp only [List.getElem?_cons_zero] at c0
  obtain ⟨t0, t1, t2, t3⟩ := hT.cells
  have hm := made_calls hT
  have HM := Lib.hid hm
  clear hm
  refine callsIn_of_wp Try.func59 rfl (by simp [Fence.wide]) ?_ (by rfl)
  simp only [Try.ntmps59, List.size_toArray, List.length_cons, List.length_nil, Nat.reduceAdd, Nat.reduceSub, Array.replicate_succ, Array.replicate_zero, List.push_toArray, List.append_toArray, List.nil_append, List.cons_append]
  gi_wp2_with (refine ⟨trivial, ?_⟩; gi_at_call 48; refine (callsIn_wide.2 HM.out).mono ?_; rintro e W ⟨rfl, rfl⟩)
  gi_region
  obtain ⟨sb, hsb⟩ : ∃ sb, sb = W.heap.size := ⟨_, rfl⟩
  have hLs : Blk ((W.alloc (Obj.cells #[Value.pointer (opOf T oa), Value.pointer (some { block := ya, off := 0 })] 87)).drew) W.heap.size [.pointer (opOf T oa), .pointer (some ⟨ya, 0, none⟩)] 87 := (Blk.new _ _ _).drew
  have hk0 : Keeps [] W ((W.alloc (Obj.cells #[Value.pointer (opOf T oa), Value.pointer (some { block := ya, off := 0 })] 87)).drew) := ((Keeps.refl _ _).alloc _).drew
  have hJ0 := abides0 hJ h0 hk0
  have hT0 := hT.keeps0 hk0
  rw [← hsb] at hLs ⊢
  generalize (W.alloc (Obj.cells #[Value.pointer (opOf T oa), Value.pointer (some { block := ya, off := 0 })] 87)).drew = W0 at *
  clear t0 t1 t2 t3 c0 hbx h0 hT hk0 hsb
  gi_wp2
  gi_loopw [20] (fun i wr => ∃ c : Nat, c ≤ 2 ∧ i = .int .i64 c ∧ J (doneAt T c) wr ∧ Kp W0 wr) (fun i _ => 2 - (intOf i).toNat)
  case atStart => exact ⟨0, by omega, rfl, hJ0, Kp.refl _⟩
  case round =>
    obtain ⟨c, hc, rfl, hJs, hkp⟩ := hrel
    by_cases hlt : c < 2
    · have hci : (c : Int) < 2 := by omega
      have hLw := hkp _ _ _ (by decide) (by decide) hLs
      obtain ⟨q, hq, hcase⟩ : ∃ q, wr.cell? ⟨sb, c, none⟩ = some (.pointer q) ∧ ((q = none ∧ doneAt T (c + 1) = doneAt T c) ∨ ∃ ba bs sl, q = some ⟨ba, 0, none⟩ ∧ ArrAt W0 ba bs sl ∧ doneAt T (c + 1) = doneAt T c ++ fulls sl ∧ ∀ pre x rest, fulls sl = pre ++ x :: rest → (doneAt T c ++ pre).length < T.pairs.length ∧ (doneAt T c ++ pre ++ [x]) <+: T.pairs) := by
        rcases (show c = 0 ∨ c = 1 by omega) with rfl | rfl
        · cases ho : T.old with
          | none => exact ⟨opOf T oa, hLw.cell 0, .inl ⟨by unfold opOf; rw [ho]; rfl, by simp [doneAt, Tab.oldFulls, ho]⟩⟩
          | some o => exact ⟨opOf T oa, hLw.cell 0, .inr ⟨oa, os, o, by unfold opOf; rw [ho]; rfl, hT0.ol o ho, by simp [doneAt, Tab.oldFulls, ho], fun pre x rest e => ⟨by simp [doneAt, Tab.pairs, Tab.oldFulls, ho, e], ⟨rest ++ fulls T.young, by simp [doneAt, Tab.pairs, Tab.oldFulls, ho, e]⟩⟩⟩⟩
        · exact ⟨_, hLw.cell 1, .inr ⟨ya, ys, T.young, rfl, hT0.yo, rfl, fun pre x rest e => ⟨by simp [doneAt, Tab.pairs, e], ⟨rest, by simp [doneAt, Tab.pairs, e]⟩⟩⟩⟩
      clear hLw
      rcases hcase with ⟨rfl, hd⟩ | ⟨ba, bs, sl, rfl, ha, hd, hN⟩
      · gi_wp2
        go_roundw
        case rel => exact ⟨c + 1, by omega, by simp, by rw [hd]; exact hJs, hkp⟩
        case measure => simp [intOf]; omega
      · obtain ⟨a0, a1, a2⟩ := (hkp.arr ha).cells
        have hle := ha.le
        gi_wp2
        gi_loopw [31] (fun i wr2 => ∃ j : Nat, j ≤ sl.length ∧ i = .int .i64 j ∧ J (doneAt T c ++ fulls (sl.take j)) wr2 ∧ Kp W0 wr2) (fun i _ => sl.length - (intOf i).toNat)
        case atStart => exact ⟨0, by omega, rfl, by simpa [fulls] using hJs, hkp⟩
        case round =>
          obtain ⟨j, hj, rfl, hJ2, hkp2⟩ := hrel
          rename World => w2
          by_cases hjl : j < sl.length
          · obtain ⟨s, hs⟩ : ∃ s, sl[j]? = some s := ⟨_, List.getElem?_eq_getElem hjl⟩
            have hsl := (hkp2.arr ha).hs
            have e0 : w2.cell? ⟨bs, j * 3, none⟩ = some (.int .u8 s.st) := by
              have := hsl.cell (j * 3 + 0)
              rw [flat_get encS 3 (fun _ => rfl) sl _ 0 s hs (by omega)] at this
              exact this
            have e1 : w2.cell? ⟨bs, j * 3 + 1, none⟩ = some (.float .f64 s.key.1) := by
              have := hsl.cell (j * 3 + 1)
              rw [flat_get encS 3 (fun _ => rfl) sl _ 1 s hs (by omega)] at this
              exact this
            have e2 : w2.cell? ⟨bs, j * 3 + 2, none⟩ = some (.int .i64 s.val) := by
              have := hsl.cell (j * 3 + 2)
              rw [flat_get encS 3 (fun _ => rfl) sl _ 2 s hs (by omega)] at this
              exact this
            have hlbs := hsl.lt
            have ht1 : fulls (sl.take (j + 1)) = fulls (sl.take j) ++ (fullOf s).toList := by
              rw [List.take_add_one, hs]; unfold fulls; rw [List.filterMap_append]; simp [List.filterMap_cons]; cases fullOf s <;> rfl
            have HSL := Lib.hid hsl
            clear hsl
            by_cases h1 : s.st = 1
            · have hb : ((s.st : Int) == 1) = true := by rw [h1]; rfl
              have HT1 := Lib.hid ht1
              have HS := Lib.hid hs
              have hka : Keeps [] w2 (w2.alloc (Obj.cells #[Value.int IntKind.u8 s.st, Value.float FloatKind.f64 s.key.1, Value.int IntKind.i64 s.val] 103)) := (Keeps.refl _ _).alloc _
              have hfo : fullOf s = some (s.key, s.val) := by unfold fullOf; rw [if_pos h1]
              have hNN : (doneAt T c ++ fulls (sl.take j)).length < T.pairs.length ∧ (doneAt T c ++ fulls (sl.take j) ++ [(s.key, s.val)]) <+: T.pairs := by
                refine hN _ (s.key, s.val) (fulls (sl.drop (j + 1))) ?_
                have e9 : sl = sl.take j ++ s :: sl.drop (j + 1) := by
                  obtain ⟨q1, q2⟩ := List.getElem?_eq_some_iff.1 hs
                  rw [← q2, ← List.drop_eq_getElem_cons q1, List.take_append_drop]
                conv => lhs; rw [e9]
                rw [fulls_append, fulls_cons_full _ _ h1]
              obtain ⟨fn, tmps, assign, body, hy, hR⟩ := hY _ (s.key, s.val) _ (abides0 hJ hJ2 hka) hNN.1
              have HPF := Lib.hid hNN.2
              dsimp only at hy
              have hKA := Lib.hid (hkp2.trans (Kp.keeps0 hka))
              clear ht1 hs h1 hka hNN hJ2
              gi_wp2
              refine hR.mono ?_
              rintro e w3 (⟨rfl, hJ3, hk3⟩ | ⟨rfl, hJx3⟩)
              · clear hy hR
                gi_wp2
                go_roundw
                case rel => exact ⟨j + 1, by omega, by simp, by rw [HT1.out, hfo, ← List.append_assoc]; exact hJ3, hKA.out.trans hk3⟩
                case measure => simp [intOf]; omega
              · clear hy hR
                gi_wp2
                refine bodyPost_ret (results_none rfl _ _ _) rfl ?_
                exact ⟨⟨_, rfl⟩, .inr ⟨_, HPF.out, hJx3⟩⟩
            · have hb : ((s.st : Int) == 1) = false := by
                rw [beq_eq_false_iff_ne]; omega
              have HT1 := Lib.hid ht1
              have HS := Lib.hid hs
              have H1 := Lib.hid h1
              clear ht1 hs h1
              have hfo : fullOf s = none := by unfold fullOf; rw [if_neg H1.out]
              have hka : Keeps [] w2 (w2.alloc (Obj.cells #[Value.int IntKind.u8 s.st, Value.float FloatKind.f64 s.key.1, Value.int IntKind.i64 s.val] 103)) := (Keeps.refl _ _).alloc _
              have HKA := Lib.hid hka
              clear hka
              gi_wp2
              refine ⟨fun _ h => (by cases h), ?_⟩
              gi_wp2
              go_roundw
              case rel => exact ⟨j + 1, by omega, by simp, by rw [HT1.out, hfo]; simpa using abides0 hJ hJ2 HKA.out, hkp2.trans (Kp.keeps0 HKA.out)⟩
              case measure => simp [intOf]; omega
          · obtain rfl : j = sl.length := by omega
            rw [List.take_length] at hJ2
            gi_wp2
            go_roundw
            case rel => exact ⟨c + 1, by omega, by simp, by rw [hd]; exact hJ2, hkp2⟩
            case measure => simp [intOf]; omega
    · obtain rfl : c = 2 := by omega
      gi_wp2
      go_end0
      exact ⟨⟨_, rfl⟩, .inl ⟨_, rfl, hJs⟩⟩
end Go.Proofs.Ytaomaeobgfeoiaa.G
