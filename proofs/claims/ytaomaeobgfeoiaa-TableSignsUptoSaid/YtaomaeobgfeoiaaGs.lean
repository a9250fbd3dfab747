/- TableSigns: the law whole. -/
import Derived.Test.YtaomaeobgfeoiaaGp
import Derived.Deep.RegionLaw
import Derived.RangeFuncWrites
import Derived.Test.YtaomaeobgfeoiaaPq
namespace Go.Proofs.Ytaomaeobgfeoiaa.G
open Go.RowKit Pl R Go.Shelf
attribute [local go_sem] Oper.semAt_some
attribute [local go_sem] run_store_float

/-- A step of a script: what, which table, key, value. -/
structure St where
  dd : Int
  oth : Bool
  key : Int
  val : Int

/-- The script in memory. -/
def ScriptAt (w : World) (ao : Option Addr) (steps : List St) : Prop :=
  steps = [] ∨ ∃ b off, ao = some ⟨b, off, none⟩ ∧ b < w.heap.size ∧ ∀ (i : Nat) (s : St), steps[i]? = some s →
    w.cell? ⟨b, off + i * 4, none⟩ = some (.int .i64 s.dd) ∧ w.cell? ⟨b, off + i * 4 + 1, none⟩ = some (.bool s.oth) ∧ w.cell? ⟨b, off + i * 4 + 2, none⟩ = some (.int .i64 s.key) ∧ w.cell? ⟨b, off + i * 4 + 3, none⟩ = some (.int .i64 s.val)

theorem ScriptAt.kept {w w' : World} {ao : Option Addr} {steps : List St} (h : ScriptAt w ao steps) (k : Below w.heap.size w w') : ScriptAt w' ao steps := by
  rcases h with h | ⟨b, off, h1, h2, h3⟩
  · exact .inl h
  · refine .inr ⟨b, off, h1, Nat.lt_of_lt_of_le h2 k.size, fun i s hs => ?_⟩
    obtain ⟨a0, a1, a2, a3⟩ := h3 i s hs
    exact ⟨(k.cell (p := ⟨b, _, none⟩) h2).trans a0, (k.cell (p := ⟨b, _, none⟩) h2).trans a1, (k.cell (p := ⟨b, _, none⟩) h2).trans a2, (k.cell (p := ⟨b, _, none⟩) h2).trans a3⟩

theorem all_stops (n : Nat) (hn : 1 ≤ n) (bx bt ya ys oa os : Nat) (hv : Value) (T : Tab FD Int) (w : World) (hbx : Blk w bx [.pointer (some ⟨bt, 0, none⟩)] 23) (hT : TabAt w hv bt ya ys oa os T) :
    SeqStopsK Fence.wide n Try.prog 59 #[.pointer (some ⟨bx, 0, none⟩)] (fun x : FD × Int => #[Value.float .f64 x.1.1, Value.int .i64 x.2]) Kp (fun ys => ys = T.pairs) (fun pre => pre <+: T.pairs) T.pairs.length w := fun l J Jx W hW hJ _ hY h0 => by
  have hk : Keeps [] w W := ⟨hW.os, hW.tape, hW.output, hW.size, fun k hk _ => hW.block k hk⟩
  exact all1_in n hn l bx bt ya ys oa os hv T J Jx W hJ hY (hk.blk hbx (by simp)) (hT.keeps0 hk) h0

theorem ownFrom_keeps {β : Type} {F : List Nat} {B : Nat} {w₀ : World} (hB : w₀.heap.size ≤ B) : OwnFrom B (fun (_ : β) W => Keeps F w₀ W) := fun _ W W' row hs hg hr => by
  refine ⟨hg.os.trans hs.os, hg.tape.trans hs.tape, hg.output.trans hs.output, Nat.le_trans hs.size hg.size, fun k hk hn => ?_⟩
  refine (hg.block k (Nat.lt_of_lt_of_le hk hs.size) (fun e => ?_)).trans (hs.block k hk hn)
  have := (hr k e.symm).1
  omega
theorem Kp.box {W : World} {B : Nat} {u : Value} (h : Boxed W B 3 u) (v : Value) : Kp W (W.setCell ⟨B, 0, none⟩ v) := fun b cs t h1 h2 hb => by
  refine hb.set_other (fun e => ?_) _ _
  subst e
  unfold Blk at hb
  rw [show W.heap[b]? = _ from h] at hb
  simp at hb
  exact h1 hb.2.symm

theorem flatA_get : ∀ (ps : List (FD × Int)) (j : Nat) (p : FD × Int), ps[j]? = some p → (flatA ps)[2 * j]? = some ((keyD p.1 : Nat) : Int) ∧ (flatA ps)[2 * j + 1]? = some p.2
  | [], j, p, h => by simp at h
  | q :: ps, 0, p, h => by
    simp at h; subst h
    exact ⟨rfl, rfl⟩
  | q :: ps, j + 1, p, h => by
    have := flatA_get ps j p (by simpa using h)
    have e : flatA (q :: ps) = ((keyD q.1 : Nat) : Int) :: q.2 :: flatA ps := rfl
    rw [e, show 2 * (j + 1) = 2 * j + 1 + 1 by omega]
    simpa using this
theorem prefix_next {α : Type} {pre P : List α} {x : α} (h : pre <+: P) (hx : P[pre.length]? = some x) : pre ++ [x] <+: P := by
  obtain ⟨r, rfl⟩ := h
  cases r with
  | nil => simp at hx
  | cons y r => simp at hx; subst hx; exact ⟨r, by simp⟩
theorem prefix_end {α : Type} {pre P : List α} {x y : α} (h : pre ++ [x] <+: P) (hy : P[pre.length]? = some y) : x = y := by
  obtain ⟨r, rfl⟩ := h
  simp at hy
  exact hy

theorem results_cell {fn : Func} {p : Tmp} (h : fn.results = #[.cell p 4]) (tmps : Array Value) (w : World) (b : Nat) (v : Bool) (hp : tmps.getD p undef = .pointer (some ⟨b, 0, none⟩)) (hc : w.cell? ⟨b, 0, none⟩ = some (.bool v)) :
    (results fn tmps).run Try.prog w = .ok (.bool v) w := by
  have hp' : tmps[p]?.getD undef = .pointer (some ⟨b, 0, none⟩) := by simpa using hp
  have hu := Try.underlying4
  simp [results, h, hp', asAddr, loadVar, Sem.run_bind, Result.andThen]
  rw [hc]

def fd5 : FD := ⟨4617315517961601024, by decide⟩

theorem tag_le (o b : Bool) : (if o && b then 1 else 0 : Nat) ≤ 1 := by cases o <;> cases b <;> decide
theorem tag_zero {o : Bool} {kk : Nat} (h : (if o && ((kk : Int) == 0) then 1 else 0 : Nat) = 1) : kk = 0 := by
  cases hb : ((kk : Int) == 0) with
  | true => have := eq_of_beq hb; omega
  | false => rw [hb] at h; cases o <;> simp at h

set_option maxRecDepth 100000 in
set_option maxHeartbeats 6400000 in
theorem signs_calls {w : World} {ao : Option Addr} {n cap : Nat} {steps : List St} (hs : ScriptAt w ao steps) (hn : n = steps.length) (hb : n ≤ 1048576) :
    Calls Try.prog 3 #[.slice ao n cap] w fun e w' => e = .returned (.bool true) ∧ Below w.heap.size w w' := by
  have HN := Lib.hid hn
  have HS := Lib.hid hs
  clear hn hs
  refine (callsIn_wide (n := 3)).1 ?_
  refine callsIn_of_wp_marks Try.func3 rfl trivial ?_ rfl
  refine wpIn_wide.2 ?_
  simp only [Try.ntmps3, List.size_toArray, List.length_cons, List.length_nil, Nat.reduceAdd, Nat.reduceSub, Array.replicate_succ, Array.replicate_zero, List.push_toArray, List.append_toArray, List.nil_append, List.cons_append]
  go_wp2_with fail
  obtain ⟨w0, hw0⟩ : ∃ w0, w0 = w.alloc (Obj.cells #[Value.bool false] 4) := ⟨_, rfl⟩
  have hx0 : Boxed w0 w.heap.size 4 (.bool false) := by rw [hw0]; exact Boxed.new w 4 (.bool false)
  have hk0 : Below w.heap.size w w0 := by rw [hw0]; exact (Below.refl _ w).alloc (Nat.le_refl _) _
  have hz0 : w0.heap.size = w.heap.size + 1 := by rw [hw0]; simp
  rw [← hw0]
  clear hw0
  refine (new_calls w0 0 0).mono ?_
  rintro e w1 ⟨bt, ya, ys, rfl, ht, k1, hbt, hya, hys⟩
  have HT1 := Lib.hid ht
  have HK1 := Lib.hid k1
  have HF1 := Lib.hid (And.intro hbt (And.intro hya hys))
  have HX0 := Lib.hid hx0
  have HK0 := Lib.hid hk0
  have HZ0 := Lib.hid hz0
  clear ht k1 hbt hya hys hx0 hk0 hz0
  go_wp2_with fail
  refine (R.new_calls w1).mono ?_
  rintro e w2 ⟨bm, yb, rfl, hr, k2, hbm, hyb⟩
  have hT : Two w2 (w.heap.size + 1) bt ya ys ya ys bm yb yb tab0 tab0 := by
    obtain ⟨h1, h2, h3⟩ := HF1.out
    have hz := HZ0.out
    have hs1 := HK1.out.size
    have l1 := HT1.out.tb.lt
    have l2 := HT1.out.yo.ha.lt
    have l3 := HT1.out.yo.hs.lt
    refine ⟨HT1.out.keeps0 k2, hr, ?_, ?_, ?_, by have := k2.size; omega⟩
    · intro b hb q
      simp only [List.mem_cons, List.not_mem_nil, or_false] at hb q
      omega
    · intro b hb
      simp only [List.mem_cons, List.not_mem_nil, or_false] at hb
      omega
    · intro b hb
      simp only [List.mem_cons, List.not_mem_nil, or_false] at hb
      omega
  have hX2 : Boxed w2 w.heap.size 4 (.bool false) := by
    have hz := HZ0.out
    have l := HX0.out.lt
    exact (k2.block _ (Nat.lt_of_lt_of_le l HK1.out.size) (by simp)).trans ((HK1.out.block _ l (by simp)).trans HX0.out)
  have hB2 : Below w.heap.size w w2 := HK0.out.trans ((HK1.out.trans k2 (by simp)).below (by have := HZ0.out; omega) (by simp))
  have HT2 := Lib.hid hT
  have HX2 := Lib.hid hX2
  have HB2 := Lib.hid hB2
  clear hr k2 hbm hyb hT hX2 hB2 HT1 HK1 HF1 HX0 HK0 HZ0
  go_wp2_with fail
  go_loopw [5] (fun iv wr => ∃ (i ya ys oa os yb ob : Nat) (T : Tab FD Int) (ks : List FD) (vs : List Int), i ≤ n ∧ iv = .int .i64 i ∧ Two wr (w.heap.size + 1) bt ya ys oa os bm yb ob T T ∧ Inv LD T ∧ Rel LD T ks vs ∧ Boxed wr w.heap.size 4 (.bool false) ∧ Below w.heap.size w wr ∧ ks.length ≤ i ∧ T.young.length ≤ 4 * i + 8) (fun iv _ => n - (intOf iv).toNat)
  case atStart => exact ⟨0, _, _, _, _, _, _, _, _, _, by omega, rfl, HT2.out, inv0 _, rel0, HX2.out, HB2.out, by simp, by simp [tab0]⟩
  case round =>
    obtain ⟨i, ya, ys, oa, os, yb, ob, T, ks, vs, hi, rfl, hT, hI, hR, hX, hBW, hks, hyl⟩ := hrel
    clear HT2 HX2 HB2
    by_cases hlt : i < n
    · obtain ⟨s, hsi⟩ : ∃ s, steps[i]? = some s := ⟨_, List.getElem?_eq_getElem (by rw [← HN.out]; exact hlt)⟩
      obtain ⟨sb, off, rfl, hsb, hcell⟩ : ∃ sb off, ao = some ⟨sb, off, none⟩ ∧ sb < w.heap.size ∧ ∀ W, Below w.heap.size w W → (W.cell? ⟨sb, off + i * 4, none⟩ = some (.int .i64 s.dd) ∧ W.cell? ⟨sb, off + i * 4 + 1, none⟩ = some (.bool s.oth) ∧ W.cell? ⟨sb, off + i * 4 + 2, none⟩ = some (.int .i64 s.key) ∧ W.cell? ⟨sb, off + i * 4 + 3, none⟩ = some (.int .i64 s.val)) := by
        rcases HS.out with h | ⟨b, o, h1, h2, _⟩
        · rw [h] at hsi; simp at hsi
        · refine ⟨b, o, h1, h2, fun W hW => ?_⟩
          rcases HS.out.kept hW with h | ⟨b', o', h1', h2', h3'⟩
          · rw [h] at hsi; simp at hsi
          · rw [h1] at h1'; cases h1'; exact h3' i s hsi
      obtain ⟨s0, s1, s2, s3⟩ := hcell wr hBW
      obtain ⟨kk, hkk, hand⟩ := and31 s.key
      obtain ⟨f, hfk, hft⟩ := fd_of kk (if s.oth && ((kk : Int) == 0) then 1 else 0) hkk (tag_le _ _) tag_zero
      obtain ⟨hI1, hR1, hY1⟩ := rel_put hI hR f s.val
      obtain ⟨hI2, hR2, hY2⟩ := rel_del hI hR f
      have hsig := fun W => signed_calls f W
      rw [hfk] at hsig
      have hput := hT.put_tab hI (by omega) f s.val
      have hputr := fun (W : World) (ya' ys' oa' os' : Nat) (T2 : Tab FD Int) (h : Two W (w.heap.size + 1) bt ya' ys' oa' os' bm yb ob T2 T) => h.put_ref hI (by omega) f s.val
      rw [hfk] at hputr
      have hdel := hT.del_tab hI f
      have hdelr := fun (W : World) (ya' ys' oa' os' : Nat) (T2 : Tab FD Int) (h : Two W (w.heap.size + 1) bt ya' ys' oa' os' bm yb ob T2 T) => h.del_ref hI (by omega) f
      rw [hfk] at hdelr
      have hbox := fun (W : World) (k : Below (w.heap.size + 1) wr W) => (show Boxed W w.heap.size 4 (.bool false) from (k.block _ (by omega)).trans hX)
      have hbel := fun (W : World) (k : Below (w.heap.size + 1) wr W) => hBW.trans (k.mono (by omega))
      have HC := Lib.hid hcell
      have HP1 := Lib.hid (And.intro hI1 (And.intro hR1 hY1))
      have HP2 := Lib.hid (And.intro hI2 (And.intro hR2 hY2))
      have HPUT := Lib.hid hput
      have HDEL := Lib.hid hdel
      have HDELR := Lib.hid hdelr
      have HBOX := Lib.hid hbox
      have HBEL := Lib.hid hbel
      have HKS := Lib.hid hks
      have HYL := Lib.hid hyl
      have HHK := Lib.hid hsb
      clear hcell hI1 hR1 hY1 hI2 hR2 hY2 hput hdel hdelr hbox hbel hT hI hR hX hBW hsi hks hyl
      generalize hob : s.oth = o at *
      generalize hbb : ((kk : Int) == 0) = b at *
      clear hob
      cases o <;> cases b
      all_goals
        simp only [Bool.and_true, Bool.and_false, Bool.false_and, Bool.true_and, Bool.false_eq_true, if_true, if_false] at hft
        rw [hft] at hsig hputr
        have HSIG := Lib.hid hsig
        have HPUTR := Lib.hid hputr
        clear hsig hputr hft hfk
        by_cases hd : s.dd = 1
        · rw [hd] at s0
          clear hd
          go_wp2_with fail
          refine (HSIG.out _).mono ?_
          rintro e w' ⟨rfl, rfl⟩
          go_wp2_with fail
          refine (HDEL.out).mono ?_
          rintro e w3 ⟨rfl, ya3, ys3, oa3, os3, hT3, hB3⟩
          have HDR := Lib.hid (HDELR.out w3 _ _ _ _ _ hT3)
          have HB3 := Lib.hid hB3
          clear hT3 hB3 s0 s1 s2 s3
          go_wp2_with fail
          refine (HDR.out).mono ?_
          rintro e w4 ⟨rfl, ob4, hT4, hB4⟩
          have HT4 := Lib.hid hT4
          have HB4 := Lib.hid (HB3.out.trans (hB4.mono (Nat.le_refl _)))
          clear hT4 hB4
          go_wp2_with fail
          go_roundw
          case rel =>
            obtain ⟨q1, ⟨ks', vs', q2, q3⟩, q4⟩ := HP2.out
            exact ⟨i + 1, _, _, _, _, _, _, _, ks', vs', by omega, by go_num, HT4.out, q1, q2, HBOX.out _ HB4.out, HBEL.out _ HB4.out, by have := HKS.out; omega, by have := HYL.out; omega⟩
          case measure => simp [intOf]; omega
        · have hd0 : (s.dd == 1) = false := by rw [beq_eq_false_iff_ne]; exact hd
          clear hd
          go_wp2_with fail
          refine (HSIG.out _).mono ?_
          rintro e w' ⟨rfl, rfl⟩
          go_wp2_with fail
          refine (HPUT.out).mono ?_
          rintro e w3 ⟨rfl, ya3, ys3, oa3, os3, hT3, hB3⟩
          have HDR := Lib.hid (HPUTR.out w3 _ _ _ _ _ hT3)
          obtain ⟨z0, z1, z2, z3⟩ := HC.out w3 (HBEL.out w3 hB3)
          have HB3 := Lib.hid hB3
          clear hT3 hB3 s0 s1 s2 s3 z0 z1 z2
          go_wp2_with fail
          refine (HDR.out).mono ?_
          rintro e w4 ⟨rfl, yb4, ob4, hT4, hB4⟩
          have HT4 := Lib.hid hT4
          have HB4 := Lib.hid (HB3.out.trans (hB4.mono (Nat.le_refl _)))
          clear hT4 hB4 z3
          go_wp2_with fail
          go_roundw
          case rel =>
            obtain ⟨q1, ⟨ks', vs', q2, q3⟩, q4⟩ := HP1.out
            exact ⟨i + 1, _, _, _, _, _, _, _, ks', vs', by omega, by go_num, HT4.out, q1, q2, HBOX.out _ HB4.out, HBEL.out _ HB4.out, by have := HKS.out; omega, by have := HYL.out; have := HKS.out; omega⟩
          case measure => simp [intOf]; omega
    · obtain rfl : i = n := by omega
      obtain ⟨hI5, ⟨ks5, vs5, hR5, hk5⟩, hY5⟩ := rel_put hI hR fd5 1
      have hput : Calls Try.prog 14 #[.pointer (some ⟨bt, 0, none⟩), .float .f64 4617315517961601024, .int .i64 1] wr _ := hT.put_tab hI (by omega) fd5 1
      have hputr := fun (W : World) (ya' ys' oa' os' : Nat) (T2 : Tab FD Int) (h : Two W (w.heap.size + 1) bt ya' ys' oa' os' bm yb ob T2 T) => R.put5_calls h.ref hI (young_pow hI (by omega)) fd5 (by decide) (by decide) 1
      have hold := old_le LD hI5
      have hlen5 := len_rel LD hR5
      generalize (putM LD 0 0 T fd5 1).1 = T5 at *
      have hyl5 : T5.young.length ≤ 4194312 := by omega
      have hol5 : (T5.old.getD []).length ≤ 4194312 := by omega
      have hN5 : T5.pairs.length ≤ 1048577 := by unfold lenM at hlen5; omega
      have HPUT := Lib.hid hput
      have HPUTR := Lib.hid hputr
      have HX := Lib.hid hX
      have HBW := Lib.hid hBW
      clear hput hputr hX hBW hI hR hT hI5 hR5 hY5 hold hlen5 hk5 hks hyl HS HN
      go_wp2_with fail
      refine (HPUT.out).mono ?_
      rintro e w3 ⟨rfl, ya3, ys3, oa3, os3, hT3, hB3⟩
      have HR3 := Lib.hid (HPUTR.out w3 _ _ _ _ _ hT3)
      have HT3 := Lib.hid hT3
      have HB3 := Lib.hid hB3
      clear hT3 hB3
      go_wp2_with fail
      refine (HR3.out).mono ?_
      rintro e w4 ⟨⟨px, rfl⟩, yb4, ob4, hr4, hf4, k4⟩
      obtain ⟨hT4, hB4⟩ := HT3.out.reffed hr4 hf4 k4
      have hX4 : Boxed w4 w.heap.size 4 (.bool false) := ((HB3.out.trans hB4).block _ (by omega)).trans HX.out
      have hBW4 : Below w.heap.size w w4 := HBW.out.trans ((HB3.out.trans hB4).mono (by omega))
      have hall := all_calls hT4.ref (by omega) (by omega)
      have HALL := Lib.hid hall
      have HT4 := Lib.hid hT4
      have HX4 := Lib.hid hX4
      have HBW4 := Lib.hid hBW4
      clear hr4 hf4 k4 hT4 hB4 hX4 hBW4 hall HR3 HT3 HB3 HPUT HPUTR HX HBW
      go_wp2_with fail
      refine (HALL.out).mono ?_
      rintro e w5 ⟨lv, rfl, hl5, hfl, k5⟩
      obtain ⟨la, lc, hlv, _, _, _⟩ := hl5.form
      rw [flatA_len] at hlv
      have HL5 := Lib.hid hl5
      have HFL := Lib.hid hfl
      have HK5 := Lib.hid k5
      have HLV := Lib.hid hlv
      rw [hlv]
      clear hl5 hfl k5 hlv HALL
      go_wp2_with fail
      obtain ⟨w6, hw6⟩ : ∃ w6, w6 = w5.alloc (Obj.cells #[Value.slice la (2 * T5.pairs.length) lc] 40) := ⟨_, rfl⟩
      have k6 : Keeps [] w4 w6 := by rw [hw6]; exact HK5.out.alloc _
      have hb6 : Boxed w6 w5.heap.size 40 (.slice la (2 * T5.pairs.length) lc) := by rw [hw6]; exact Boxed.new w5 40 _
      have hk56 : Keeps [] w5 w6 := by rw [hw6]; exact (Keeps.refl _ _).alloc _
      rw [← hw6]
      have htags := tags_calls (HT4.out.keeps0 k6).ref (by omega) (by omega)
      have HTG := Lib.hid htags
      have HK6 := Lib.hid k6
      have HB6 := Lib.hid hb6
      have HK56 := Lib.hid hk56
      clear k6 hb6 hk56 htags hw6
      generalize hbw : w5.heap.size = bw at *
      clear hbw
      refine (HTG.out).mono ?_
      rintro e w7 ⟨tv, rfl, ht7, hft, k7⟩
      obtain ⟨ta, tc, htv, _, _, _⟩ := ht7.form
      rw [tagsA_len] at htv
      have HT7 := Lib.hid ht7
      have HFT := Lib.hid hft
      have HK7 := Lib.hid k7
      have HTV := Lib.hid htv
      rw [htv]
      clear ht7 hft k7 htv HTG
      have heq : ∀ w bx, (binOp .eql 43 (.func (.func 59) #[] #[.pointer (some ⟨bx, 0, none⟩)]) .nilFunc).run Try.prog w = .ok (.bool false) w := fun _ _ => by kernel_rfl
      go_wp2_with (go_at_call 19; refine (all_in _ bt).mono ?_; rintro e w' ⟨rfl, rfl⟩)
      obtain ⟨w9, hw9⟩ : ∃ w9, w9 = (((w7.alloc (Obj.cells #[Value.slice ta T5.pairs.length tc] 40)).alloc (Obj.cells #[Value.int IntKind.i64 0] 3)).alloc (Obj.cells #[Value.pointer (some { block := bt, off := 0 })] 23)) := ⟨_, rfl⟩
      have hk9 : Keeps [] w7 w9 := by rw [hw9]; exact (((Keeps.refl _ _).alloc _).alloc _).alloc _
      have hz9 : w9.heap.size = w7.heap.size + 3 := by rw [hw9]; simp
      have bT : Boxed w9 w7.heap.size 40 (.slice ta T5.pairs.length tc) := by rw [hw9]; exact ((Boxed.new w7 40 _).alloc _).alloc _
      have bN : Boxed w9 (w7.heap.size + 1) 3 (.int .i64 0) := by
        rw [hw9]; have := (Boxed.new (w7.alloc (Obj.cells #[Value.slice ta T5.pairs.length tc] 40)) 3 (.int .i64 0)).alloc (Obj.cells #[Value.pointer (some { block := bt, off := 0 })] 23)
        rwa [World.size_alloc] at this
      have bA : Blk w9 (w7.heap.size + 1 + 1) [Value.pointer (some { block := bt, off := 0 })] 23 := by
        rw [hw9]; have := Blk.new ((w7.alloc (Obj.cells #[Value.slice ta T5.pairs.length tc] 40)).alloc (Obj.cells #[Value.int IntKind.i64 0] 3)) [Value.pointer (some { block := bt, off := 0 })] 23
        rwa [World.size_alloc, World.size_alloc] at this
      rw [← hw9]
      clear hw9
      have k49 : Keeps [] w4 w9 := (HK6.out.trans HK7.out (by simp)).trans hk9 (by simp)
      have k69 : Keeps [] w6 w9 := HK7.out.trans hk9 (by simp)
      have hT9 := HT4.out.keeps0 k49
      have hB9 : Below w.heap.size w w9 := HBW4.out.trans (k49.below HBW4.out.size (by simp))
      have hX9 : Boxed w9 w.heap.size 4 (.bool false) := (k49.block _ HX4.out.lt (by simp)).trans HX4.out
      have hW9 : Boxed w9 bw 40 (.slice la (2 * T5.pairs.length) lc) := (k69.block _ HB6.out.lt (by simp)).trans HB6.out
      have hL9 : RepI w9 (.slice la (2 * T5.pairs.length) lc) (flatA T5.pairs) := by rw [← HLV.out]; exact (HL5.out.keeps HK56.out (by simp)).keeps k69 (by simp)
      have hG9 : RepI w9 (.slice ta T5.pairs.length tc) (tagsA T5.pairs) := by rw [← HTV.out]; exact HT7.out.keeps hk9 (by simp)
      have hlL : ∀ b ∈ fp (Value.slice la (2 * T5.pairs.length) lc), b < w7.heap.size := by
        intro b hb; rw [← HLV.out] at hb
        have := HL5.out.fp_lt b hb
        have s1 := HK56.out.size
        have s2 := HK7.out.size
        omega
      have hlG : ∀ b ∈ fp (Value.slice ta T5.pairs.length tc), b < w7.heap.size := by
        intro b hb; rw [← HTV.out] at hb; exact HT7.out.fp_lt b hb
      have hbwl : bw < w7.heap.size := Nat.lt_of_lt_of_le HB6.out.lt HK7.out.size
      have hxl : w.heap.size < w7.heap.size := by have := HX4.out.lt; have s1 := HK6.out.size; have s2 := HK7.out.size; omega
      generalize hb7 : w7.heap.size = b7 at *
      have hFX : ∀ W, Keeps [b7 + 1] w9 W → Boxed W bw 40 (.slice la (2 * T5.pairs.length) lc) ∧ Boxed W b7 40 (.slice ta T5.pairs.length tc) ∧ RepI W (.slice la (2 * T5.pairs.length) lc) (flatA T5.pairs) ∧ RepI W (.slice ta T5.pairs.length tc) (tagsA T5.pairs) ∧ Boxed W w.heap.size 4 (.bool false) := by
        intro W k
        exact ⟨(k.block _ hW9.lt (by simp; omega)).trans hW9, (k.block _ bT.lt (by simp)).trans bT, hL9.keeps k (fun b hb q => by have := hlL b hb; simp only [List.mem_singleton] at q; omega),
          hG9.keeps k (fun b hb q => by have := hlG b hb; simp only [List.mem_singleton] at q; omega), (k.block _ hX9.lt (by simp; omega)).trans hX9⟩
      generalize hP : T5.pairs = P at *
      have HFX := Lib.hid hFX
      have HB9 := Lib.hid hB9
      have HZ9 := Lib.hid hz9
      have hwx : w.heap.size ≠ b7 + 1 := by omega
      have hstops := all_stops 2 (by omega) _ bt _ _ _ _ _ T5 w9 bA hT9.tab
      rw [hP] at hstops
      clear hFX hB9 hX9 hW9 hL9 hG9 hlL hlG bT k49 k69 hk9 hT9 bA HLV HTV HL5 HFL HK5 HK56 HB6 HK6 HT7 HFT HK7 HT4 HX4 HBW4 hP hb7 heq
      refine (wpIn_wide (n := 3)).1 ?_
      refine wpIn_rangeFunc_ownG rfl (by omega) (gf := 59) (lb := #[.pointer (some ⟨b7 + 1 + 1, 0, none⟩)]) rfl trivial (enters_of Try.func59 (by kernel_rfl) rfl)
        hstops Kp.trans (fun W l o o' _ h ho _ => Kp.bk W l o o' h ho) (Below.refl _ _) (fun _ => rfl)
        (fun pre W => (pre <+: P ∧ Boxed W (b7 + 1) 3 (.int .i64 (pre.length : Nat))) ∧ Keeps [b7 + 1] w9 W)
        (fun _ pre _ => ¬ pre <+: P)
        (OwnFrom.and (fun s X Y row hs hg hr => ⟨hs.1, Own.from (boxed_own (b7 + 1) 3 (fun s : List (FD × Int) => .int .i64 (s.length : Nat))) _ s X Y row hs.2 hg hr⟩) (ownFrom_keeps (Nat.le_refl _)))
        (fun _ _ _ _ _ hs _ _ => hs)
        ⟨⟨List.nil_prefix, bN⟩, Keeps.refl _ _⟩
        ?a1 ?assign ?body ?done ?stop
      case assign =>
        intro l x W K hK
        gi_wp2
        exact hK
      case body =>
        rintro l pre x W ⟨⟨hpre, bn⟩, hkk⟩ hlt
        obtain ⟨⟨k', v'⟩, hPx⟩ : ∃ p, P[pre.length]? = some p := ⟨_, List.getElem?_eq_getElem hlt⟩
        obtain ⟨hf0, hf1⟩ := flatA_get P pre.length _ hPx
        have ht0 : (tagsA P)[pre.length]? = some ((tagD k' : Nat) : Int) := by unfold tagsA; rw [List.getElem?_map, hPx]; rfl
        obtain ⟨x1, x2, x3, x4, x5⟩ := HFX.out W hkk
        obtain ⟨g, lc', hg, _, _⟩ := x3.ex (by rw [flatA_len]; omega)
        obtain ⟨g2, tc', hg2, _, _⟩ := x4.ex (by rw [tagsA_len]; omega)
        rw [flatA_len] at hg
        rw [tagsA_len] at hg2
        cases hg
        cases hg2
        have d0 := x3.cell1 (fun _ => rfl) (2 * pre.length) _ hf0
        have d1 := x3.cell1 (fun _ => rfl) (2 * pre.length + 1) _ hf1
        have d2 := x4.cell1 (fun _ => rfl) pre.length _ ht0
        have c1 := bn.cell
        have c2 := x1.cell
        have c3 := x2.cell
        have c4 := x5.cell
        have f1 := bn.frozen
        have f4 := x5.frozen
        have hb1 := run_bits x.1.1
        have hb2 := run_bits k'.1
        have HSIG := Lib.hid (fun W => signed_calls k' W)
        have hmx : Try.prog.follows .mixedOrders = true := by kernel_rfl
        have hd1 : 1 ≤ 3 - 1 - 1 := by omega
        have hlt' : pre.length < 1048577 := by omega
        have hltP : pre.length < P.length := hlt
        have BN := Lib.hid bn
        have X5 := Lib.hid x5
        have HKK := Lib.hid hkk
        have HPR := Lib.hid hpre
        have HPX := Lib.hid hPx
        have HFX2 := Lib.hid hwx
        clear x1 x2 x3 x4 x5 bn hkk hpre hPx hf0 hf1 ht0 hlt
        generalize hm : pre.length = m at *
        have HM := Lib.hid hm
        clear hm
        have h2m : 2 * m + 1 < 2 * P.length := by omega
        generalize hL2 : 2 * P.length = L2 at *
        generalize hLP : P.length = LP at *
        clear hL2 hLP
        have w1' : IntKind.i64.wrap (2 * (m : Int)) = 2 * (m : Int) := by rw [IntWalk.i64_left]; exact IntWalk.wrap64_in _ (by omega)
        have w2' : IntKind.i64.wrap (2 * (m : Int) + 1) = 2 * (m : Int) + 1 := by rw [IntWalk.i64_left]; exact IntWalk.wrap64_in _ (by omega)
        have q1 : (0 : Int) ≤ 2 * (m : Int) + 1 := by omega
        have q2 : 2 * (m : Int) + 1 < (L2 : Int) := by omega
        have q3 : (0 : Int) ≤ 2 * (m : Int) := by omega
        have q4 : 2 * (m : Int) < (L2 : Int) := by omega
        have q5 : (0 : Int) ≤ (m : Int) := by omega
        have q6 : (m : Int) < (LP : Int) := by omega
        have n1 : (2 * (m : Int) + 1).toNat = 2 * m + 1 := by omega
        have n2 : (2 * (m : Int)).toNat = 2 * m := by omega
        have hge : decide ((LP : Int) ≤ (m : Int)) = false := by rw [decide_eq_false_iff_not]; omega
        have hgeN : decide (LP ≤ m) = false := by rw [decide_eq_false_iff_not]; omega
        have hf20 : Fence.wide.fn 20 := trivial
        have hf11 : Fence.wide.fn 11 := trivial
        by_cases hv : x.2 = v'
        · by_cases hk : x.1 = k'
          · have hxe : x = (k', v') := by rw [← hk, ← hv]
            subst hxe
            clear hv hk hb1
            gi_wp2
            refine Pq.region_quiet (by kernel_rfl) hmx (by kernel_rfl) ?_
            repeat (gi_big_quiet_step ((gi_at_call 11; exact CallsIn.quiet_of_same (CallsIn.inRound l (callsIn_wide.2 (HSIG.out _))))))
            refine wpQuietIn_nil ?_
            rintro _ ⟨nq, rfl⟩
            gi_wp2
            refine ⟨((⟨Nat.le_refl _, fun _ _ h _ => h⟩ : KeepsOthers W (W.drewN nq)).trans (KeepsOthers.setCell _ _ _)).from _, (Kp.keeps0 ((Keeps.refl [] W).drewN nq)).trans (Kp.box (show Boxed (W.drewN nq) _ _ _ from BN.out) _), ⟨prefix_next HPR.out (by rw [HM.out]; exact HPX.out), ?_⟩, Keeps.setCell (HKK.out.drewN nq) _ _ (by simp)⟩
            rw [List.length_append, List.length_singleton, HM.out]
            exact (show Boxed (W.drewN nq) _ _ _ from BN.out).set (.int .i64 ((m : Int) + 1))
          · have hne : (((x.1.1 : Nat) : Int) != ((k'.1 : Nat) : Int)) = true := by
              rw [bne_iff_ne]
              intro e
              exact hk (Subtype.ext (by omega))
            subst hv
            have HNE := Lib.hid hk
            clear hk
            gi_wp2
            refine Pq.region_quiet (by kernel_rfl) hmx (by kernel_rfl) ?_
            repeat (gi_big_quiet_step ((gi_at_call 11; exact CallsIn.quiet_of_same (CallsIn.inRound l (callsIn_wide.2 (HSIG.out _))))))
            refine wpQuietIn_nil ?_
            rintro _ ⟨nq, rfl⟩
            gi_wp2
            exact ⟨((⟨Nat.le_refl _, fun _ _ h _ => h⟩ : KeepsOthers W (W.drewN nq)).trans (KeepsOthers.setCell _ _ _)).from _, fun q => HNE.out (by have := prefix_end q (by rw [HM.out]; exact HPX.out); rw [this])⟩
        · have hne : (x.2 != v') = true := by rw [bne_iff_ne]; exact hv
          have HNE := Lib.hid hv
          clear hv
          gi_wp2
          refine Pq.region_quiet (by kernel_rfl) hmx (by kernel_rfl) ?_
          repeat (gi_big_quiet_step ((gi_at_call 11; exact CallsIn.quiet_of_same (CallsIn.inRound l (callsIn_wide.2 (HSIG.out _))))))
          refine wpQuietIn_nil ?_
          rintro _ ⟨nq, rfl⟩
          gi_wp2
          exact ⟨((⟨Nat.le_refl _, fun _ _ h _ => h⟩ : KeepsOthers W (W.drewN nq)).trans (KeepsOthers.setCell _ _ _)).from _, fun q => HNE.out (by have := prefix_end q (by rw [HM.out]; exact HPX.out); rw [this])⟩
      case done =>
        rintro D ys' W hD rfl ⟨⟨hpre, bn⟩, hkk⟩ hK
        obtain ⟨x1, x2, x3, x4, x5⟩ := HFX.out W hkk
        have c1 := bn.cell
        have c2 := x2.cell
        have c3 := x5.cell
        have f3 := x5.frozen
        have hDl := (Array.getElem?_eq_some_iff.1 hK).1
        have hDn : D ≠ w.heap.size := by have := HZ9.out; omega
        have HKD := Lib.hid hK
        have HX5 := Lib.hid x5
        have HKK := Lib.hid hkk
        clear x1 x2 x3 x4 x5 bn hkk hK hpre
        go_wp2_with fail
        have hKD : (W.setCell ⟨w.heap.size, 0, none⟩ (.bool true)).heap[D]? = some (.deferred (some [])) := (Go.heap_setCell_other _ _ _ _ hDn).trans HKD.out
        refine ⟨by simp, .inl ⟨_, _, rfl, run_takeDeferred hKD, ?_⟩⟩
        have hbx : Boxed ((W.setCell ⟨w.heap.size, 0, none⟩ (.bool true)).putObj D (.deferred none)) w.heap.size 4 (.bool true) :=
          (HX5.out.set (.bool true)).kept (grownBy_putObj' _ D _) (fun e => hDn (by cases e; rfl))
        refine ⟨_, results_cell rfl _ _ w.heap.size true rfl hbx.cell, rfl, ?_⟩
        have hbe : Below w.heap.size w (W.setCell ⟨w.heap.size, 0, none⟩ (.bool true)) := by
          have h1 : Below w.heap.size w9 W := HKK.out.below HB9.out.size (by simp; omega)
          exact (HB9.out.trans h1).trans (Keeps.below (F := [w.heap.size]) (Keeps.setCell (Keeps.refl _ _) _ _ (by simp)) (by have := HX5.out.lt; omega) (by simp))
        exact hbe.trans (belowK_b (w := w) (Nat.le_refl _) _ D _ (.deferred none) (by have := HZ9.out; omega) hKD rfl rfl)
      case stop =>
        rintro D c pre W _ hp hix _
        exact absurd hp hix
end Go.Proofs.Ytaomaeobgfeoiaa.G
