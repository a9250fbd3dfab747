/- TableFloats: the law whole. -/
import Derived.Test.YtaomaeobgfeoiaaFq
import Derived.Deep.RegionLaw
import Derived.RangeFuncWrites
namespace Go.Proofs.Ytaomaeobgfeoiaa.F
open Go.RowKit Pl Go.Shelf
attribute [local go_sem] Oper.semAt_some
attribute [local go_sem] run_store_float

theorem lastU_hit {ks : List F64} {f x : F64} {j : Nat} (hx : ks[j]? = some x) (h : feq x f = true) : lastU ks f (j + 1) = j := by
  show (match ks[j]? with | some x => if feq x f then (j : Int) else lastU ks f j | none => lastU ks f j) = _
  rw [hx]; simp only; rw [if_pos h]
theorem lastU_miss {ks : List F64} {f x : F64} {j : Nat} (hx : ks[j]? = some x) (h : feq x f = false) : lastU ks f (j + 1) = lastU ks f j := by
  show (match ks[j]? with | some x => if feq x f then (j : Int) else lastU ks f j | none => lastU ks f j) = _
  rw [hx]; simp only; rw [if_neg (by rw [h]; decide)]
theorem lastU_at (ks : List F64) (f : F64) : lastU ks f ks.length = -1 ∨ ∃ j : Nat, lastU ks f ks.length = j ∧ j < ks.length := by
  rcases lastU_cases ks f ks.length with ⟨h, _⟩ | ⟨j, _, h1, h2, _⟩
  · exact .inl h
  · exact .inr ⟨j, h1, h2⟩
theorem maxLen_le {n : Nat} (h : n ≤ maxLen) : n ≤ 9223372036854775807 := by simpa [maxLen] using h

theorem all_stops (n : Nat) (hn : 1 ≤ n) (bx bt ya ys oa os : Nat) (hv : Value) (T : Tab F64 Int) (w : World) (hbx : Blk w bx [.pointer (some ⟨bt, 0, none⟩)] 23) (hT : TabAt w hv bt ya ys oa os T) :
    SeqStopsK Fence.wide n Try.prog 59 #[.pointer (some ⟨bx, 0, none⟩)] (fun x : F64 × Int => #[Value.float .f64 x.1.1, Value.int .i64 x.2]) Kp (fun ys => ys = T.pairs) (fun _ => True) T.pairs.length w := fun l J Jx W hW hJ _ hY h0 => by
  have hk : Keeps [] w W := ⟨hW.os, hW.tape, hW.output, hW.size, fun k hk _ => hW.block k hk⟩
  exact all1_in n hn l bx bt ya ys oa os hv T J Jx W hJ hY (hk.blk hbx (by simp)) (hT.keeps0 hk) h0

theorem ownFrom_keeps {β : Type} {F : List Nat} {B : Nat} {w₀ : World} (hB : w₀.heap.size ≤ B) : OwnFrom B (fun (_ : β) W => Keeps F w₀ W) := fun _ W W' row hs hg hr => by
  refine ⟨hg.os.trans hs.os, hg.tape.trans hs.tape, hg.output.trans hs.output, Nat.le_trans hs.size hg.size, fun k hk hn => ?_⟩
  refine (hg.block k (Nat.lt_of_lt_of_le hk hs.size) (fun e => ?_)).trans (hs.block k hk hn)
  have := (hr k e.symm).1
  omega

theorem Kp.box {W : World} {B : Nat} {u : Value} (h : Boxed W B 3 u) (v : Value) : Kp W (W.setCell ⟨B, 0, none⟩ v) := fun b cs t h1 h2 hb => by
  refine hb.set_other (fun e => ?_) _ _
  subst e
  unfold Blk at hb
  rw [show W.heap[b]? = _ from h] at hb
  simp at hb
  exact h1 hb.2.symm

theorem perm_sum {l m : List Int} (h : l.Perm m) : l.sum = m.sum := by
  induction h with
  | nil => rfl
  | cons x _ ih => simp [ih]
  | swap x y l => simp only [List.sum_cons]; omega
  | trans _ _ a b => exact a.trans b
theorem rel_sum {T : Tab F64 Int} {ks : List F64} {vs : List Int} (h : Rel LF T ks vs) : (T.pairs.map (·.2)).sum = vs.sum := by
  have hp := h.perm.map Prod.snd
  unfold Tab.M LM at hp
  rw [List.map_map, List.map_map] at hp
  have e1 : (Prod.snd ∘ cp LF : F64 × Int → Int) = Prod.snd := rfl
  rw [e1, List.map_snd_zip (by rw [h.len]; exact Nat.le_refl _)] at hp
  exact perm_sum hp

def seven : F64 := ⟨4619567317775286272, by decide⟩
theorem seven_self : feq seven seven = true := by kernel_rfl

/-- A last key goes in: then it is found; and it was there, or the table has one more. -/
theorem seven_calls {w : World} {bt ya ys oa os : Nat} {T : Tab F64 Int} {ks : List F64} {vs : List Int} (hT : TabAt w hvF bt ya ys oa os T) (hi : Inv LF T) (hr : Rel LF T ks vs) (hy : T.young.length ≤ 274877906944) :
    Calls Try.prog 14 #[.pointer (some ⟨bt, 0, none⟩), .float .f64 4619567317775286272, .int .i64 1] w fun e w' => ∃ (ok : Bool) (v v' : Int) (m : Nat), e = .returned (.tuple #[.int .i64 v, .bool ok]) ∧ Keeps [bt, ya, ys, oa, os] w w' ∧
      (∀ wx, Keeps [] w' wx → Calls Try.prog 23 #[.pointer (some ⟨bt, 0, none⟩), .float .f64 4619567317775286272] wx fun e w'' => e = .returned (.tuple #[.int .i64 v', .bool true]) ∧ ∃ n, w'' = wx.drewN n) ∧
      (∀ wx, Keeps [] w' wx → Calls Try.prog 24 #[.pointer (some ⟨bt, 0, none⟩)] wx fun e w'' => e = .returned (.int .i64 m) ∧ w'' = wx) ∧ (ok = true ∨ m = ks.length + 1) := by
  obtain ⟨c, hc⟩ : ∃ c, c ∉ [bt, ya, ys, oa, os] := by
    refine ⟨bt + ya + ys + oa + os + 1, fun q => ?_⟩
    simp only [List.mem_cons, List.not_mem_nil, or_false] at q
    omega
  have hsz : ∃ e, e ≤ 38 ∧ T.young.length = 2 ^ e := by
    obtain ⟨e, he, hl⟩ := hi.ylen
    refine ⟨e, ?_, hl⟩
    rw [hl] at hy
    rcases Nat.lt_or_ge 38 e with q | q
    · have : 2 ^ 39 ≤ 2 ^ e := Nat.pow_le_pow_right (by decide) q
      omega
    · exact q
  have hlk := last_ok ks seven
  obtain ⟨h1, h2, h3, h4⟩ := put_rel LF 0 0 hi hr (1 : Int) hlk
  have := put_calls (ct := c) (cm := c) hT (hok w c c) hi hc hc hsz seven 1
  rw [h2] at this
  refine this.mono ?_
  rintro e w' ⟨he, ya', ys', oa', os', ht, hf, k⟩
  have hR : ∃ ks' vs', Rel LF (putM LF 0 0 T seven 1).1 ks' vs' ∧ IdxOk LF ks' seven (lastU ks' seven ks'.length) ∧ 0 ≤ lastU ks' seven ks'.length ∧ (decide (0 ≤ lastU ks seven ks.length) = true ∨ ks'.length = ks.length + 1) := by
    rcases lastU_at ks seven with q | ⟨j, q, _⟩
    · refine ⟨ks ++ [seven], _, h4 (by omega), last_ok _ _, ?_, .inr (by simp)⟩
      rw [List.length_append, List.length_singleton, lastU_hit (x := seven) (by simp) seven_self]
      omega
    · exact ⟨ks, _, h3 (by omega), hlk, by omega, .inl (by rw [q]; simp)⟩
  obtain ⟨ks', vs', hr', hx', h0', hor⟩ := hR
  refine ⟨_, _, valD vs' (lastU ks' seven ks'.length) 0, ks'.length, he, k, fun wx kx => ?_, fun wx kx => ?_, hor⟩
  · have := get_calls (ct := 0) (cm := 0) (ht.keeps0 kx) (hok wx 0 0) h1.a seven
    rw [get_rel LF 0 h1 hr' hx', decide_eq_true h0'] at this
    exact this
  · have := len_calls (ht.keeps0 kx)
    rw [len_rel LF hr'] at this
    exact this

set_option maxRecDepth 100000 in
set_option maxHeartbeats 4000000 in
theorem floats_calls {w : World} {ao : Option Addr} {n cap : Nat} {steps : List Bt} (hs : ScriptAt w ao steps) (hn : n = steps.length) (hb : n ≤ 1048576) :
    Calls Try.prog 4 #[.slice ao n cap] w fun e w' => e = .returned (.bool true) ∧ Below w.heap.size w w' := by
  have HN := Lib.hid hn
  have HS := Lib.hid hs
  clear hn hs
  refine (callsIn_wide (n := 3)).1 ?_
  refine callsIn_of_wp_marks Try.func4 rfl trivial ?_ rfl
  refine wpIn_wide.2 ?_
  simp only [Try.ntmps4, List.size_toArray, List.length_cons, List.length_nil, Nat.reduceAdd, Nat.reduceSub, Array.replicate_succ, Array.replicate_zero, List.push_toArray, List.append_toArray, List.nil_append, List.cons_append]
  go_wp2_with fail
  refine (new_calls w 0 0).mono ?_
  rintro e w1 ⟨bt, ya, ys, rfl, ht, k1, hbt, hya, hys⟩
  have HM0 := Lib.hid (mem0 ht k1.size (by intro b hb; simp only [List.mem_cons, List.not_mem_nil, or_false] at hb; omega))
  have HB0 := Lib.hid (Keeps.below k1 (Nat.le_refl _) (by simp))
  clear ht k1 hbt hya hys
  go_wp2_with fail
  go_loopw [4, 5, 6] (fun kv vv iv wr => ∃ (i ya ys oa os : Nat) (T : Tab F64 Int) (ks : List F64) (vs : List Int), i ≤ n ∧ iv = .int .i64 i ∧ MemF wr bt w.heap.size ya ys oa os kv vv T ks vs ∧ Rel LF T ks vs ∧ Below w.heap.size w wr ∧ ks.length ≤ i ∧ T.young.length ≤ 4 * i + 8) (fun _ _ iv _ => n - (intOf iv).toNat)
  case atStart => exact ⟨0, _, _, _, _, _, _, _, by omega, rfl, HM0.out, rel0, HB0.out, by simp, by simp [tab0]⟩
  case round =>
    obtain ⟨i, ya, ys, oa, os, T, ks, vs, hi, rfl, hM, hR, hBW, hks, hyl⟩ := hrel
    obtain ⟨ak, ck, hkv, _, _, _⟩ := hM.ko.form
    obtain ⟨av, cv, hvv, _, _, _⟩ := hM.vo.form
    rw [← hM.ln] at hvv
    subst hkv hvv
    by_cases hlt : i < n
    · obtain ⟨s, hsi⟩ : ∃ s, steps[i]? = some s := ⟨_, List.getElem?_eq_getElem (by rw [← HN.out]; exact hlt)⟩
      obtain ⟨sb, off, rfl, hsb, hcell⟩ : ∃ sb off, ao = some ⟨sb, off, none⟩ ∧ sb < w.heap.size ∧ ∀ W, Below w.heap.size w W → (W.cell? ⟨sb, off + i * 3, none⟩ = some (.int .u64 (s.key.1 : Nat)) ∧ W.cell? ⟨sb, off + i * 3 + 1, none⟩ = some (.int .i64 s.val) ∧ W.cell? ⟨sb, off + i * 3 + 2, none⟩ = some (.bool s.out)) := by
        rcases HS.out with h | ⟨b, o, h1, h2, _⟩
        · rw [h] at hsi; simp at hsi
        · refine ⟨b, o, h1, h2, fun W hW => ?_⟩
          rcases HS.out.kept hW with h | ⟨b', o', h1', h2', h3'⟩
          · rw [h] at hsi; simp at hsi
          · rw [h1] at h1'; cases h1'; exact h3' i s hsi
      obtain ⟨s0, s1, s2⟩ := hcell wr hBW
      have hrf := run_from s.key.1
      have HC := Lib.hid hcell
      have HM := Lib.hid hM
      have HR := Lib.hid hR
      have HBW := Lib.hid hBW
      have hkn : ks.length ≤ 1048576 := by omega
      have HKS := Lib.hid hks
      have HYL := Lib.hid hyl
      clear hcell hM hR hBW hyl hsi hks HN HS HM0 HB0
      go_wp2_with fail
      go_loop [8, 9] (fun av' iv => ∃ j : Nat, j ≤ ks.length ∧ iv = .int .i64 j ∧ av' = .int .i64 (lastU ks s.key j)) (fun _ iv => ks.length - (intOf iv).toNat)
      case atStart => exact ⟨0, by omega, rfl, rfl⟩
      case round =>
        obtain ⟨j, hj, rfl, rfl⟩ := hrel
        by_cases hjl : j < ks.length
        · obtain ⟨x, hx⟩ : ∃ x, ks[j]? = some x := ⟨_, List.getElem?_eq_getElem hjl⟩
          obtain ⟨g, cap', hg, _, _⟩ := HM.out.ko.ex (by omega)
          cases hg
          have c := HM.out.ko.cell1 (u := fun x => .float .f64 x.1) (fun _ => rfl) j x hx
          have HX := Lib.hid hx
          clear hx s0 s1 s2 hrf
          go_wp2_with fail
          · go_round
            case rel => exact ⟨j + 1, by omega, by go_num, by rw [lastU_hit HX.out (by assumption)]⟩
            case measure => simp [intOf]; omega
          · go_round
            case rel => exact ⟨j + 1, by omega, by go_num, by rw [lastU_miss HX.out (by assumption)]⟩
            case measure => simp [intOf]; omega
        · obtain rfl : j = ks.length := by omega
          have hlk := last_ok ks s.key
          have hget := HM.out.get_at HR.out s.key hlk
          have HLK := Lib.hid hlk
          rcases lastU_at ks s.key with hi1 | ⟨a, hi1, ha⟩
          · have e1 : valD vs (-1) 0 = 0 := rfl
            have e2 : decide ((0 : Int) ≤ -1) = false := rfl
            rw [hi1, e1, e2] at hget
            rw [hi1]
            have HGET := Lib.hid hget
            have HI := Lib.hid hi1
            clear hget hi1 hlk s0 s1 s2 hrf
            go_wp2_with fail
            refine (HGET.out).mono ?_
            rintro e w1 ⟨rfl, n1, hw1⟩
            have k1 : Keeps [] wr w1 := by rw [hw1]; exact (Keeps.refl _ _).drewN n1
            have HM1 := Lib.hid (HM.out.keeps0 k1)
            have HB1 := Lib.hid (HBW.out.trans (k1.below HBW.out.size (by simp)))
            obtain ⟨s0, s1, s2⟩ := HC.out w1 HB1.out
            clear s0 k1 hw1
            by_cases ho : s.out = true
            · have hdel := HM1.out.del_at HR.out s.key HLK.out
              rw [HI.out, e1, e2] at hdel
              rw [ho] at s2
              have HDEL := Lib.hid hdel
              clear hdel e1 e2 ho s1
              go_wp2_with fail
              refine (HDEL.out).mono ?_
              rintro e w2 ⟨rfl, oa2, os2, T2, hM2, hB2, hy2, hr2, hr3⟩
              have hr3' := hr3 (by omega)
              have hlen := hM2.len_at
              rw [len_rel LF hr3'] at hlen
              have HLEN := Lib.hid hlen
              have HM2 := Lib.hid hM2
              have HR2 := Lib.hid hr3'
              have HB2 := Lib.hid (HB1.out.trans hB2)
              have HY2 := Lib.hid hy2
              clear hlen hM2 hr3 hr3' hr2 hB2 hy2 s2
              go_wp2_with (go_at_call 24; refine (HLEN.out).mono ?_; rintro e w3 ⟨rfl, rfl⟩)
              go_roundw
              case rel => exact ⟨i + 1, _, _, _, _, T2, ks, vs, by omega, by go_num, HM2.out, HR2.out, HB2.out, by have := HKS.out; omega, by have := HYL.out; have := HY2.out; omega⟩
              case measure => simp [intOf]; omega
            · have hof : s.out = false := by simpa using ho
              have hput := HM1.out.put_at HR.out (by have := HYL.out; omega) s.key s.val HLK.out
              rw [HI.out, e1, e2] at hput
              rw [hof] at s2
              have HPUT := Lib.hid hput
              clear hput e1 e2 ho hof
              go_wp2_with fail
              refine (HPUT.out).mono ?_
              rintro e w2 ⟨rfl, ya2, ys2, oa2, os2, T2, hM2, hB2, hy2, hr2, hr3⟩
              have hr3' := hr3 (by omega)
              obtain ⟨t0, t1, t2⟩ := HC.out w2 (HB1.out.trans hB2)
              have HM2 := Lib.hid hM2
              have HR2 := Lib.hid hr3'
              have HB2 := Lib.hid (HB1.out.trans hB2)
              have HY2 := Lib.hid hy2
              have hkv := hM2.ko.fp_lt
              have hkb : w.heap.size ≤ w2.heap.size := HB2.out.size
              have hra : ∀ o, Rep 25 1 encK (w2.alloc o) (.slice ak ks.length ck) ks := fun o => World.ownsRow.alloc hM2.ko o
              have hF1 : ∀ o w3, Keeps (fp (.slice ak ks.length ck)) (w2.alloc o) w3 → w3.cell? ⟨sb, off + i * 3 + 1, none⟩ = some (.int .i64 s.val) ∧ (∀ o', RepI (w3.alloc o') (.slice av ks.length cv) vs) ∧ w2.heap.size ≤ w3.heap.size := by
                intro o w3 k3
                have hb3 : Below w.heap.size w w3 := HB2.out.trans (((Below.refl _ _).alloc (o := o) hkb).trans (k3.below (by rw [World.size_alloc]; omega) (fun b hb => hM2.f2 b hb)))
                obtain ⟨u0, u1, u2⟩ := HC.out w3 hb3
                have hv2 : RepI (w2.alloc o) (.slice av ks.length cv) vs := World.ownsRow.alloc hM2.vo o
                refine ⟨u1, fun o' => World.ownsRow.alloc (hv2.keeps k3 (fun b hb hm => hM2.n3 b hm hb)) o', ?_⟩
                have := k3.size; rw [World.size_alloc] at this; omega
              have HRA := Lib.hid hra
              have HF1 := Lib.hid hF1
              have hlv := hM2.ln
              have HLV := Lib.hid hlv
              clear hM2 hr3 hr3' hr2 hB2 hy2 s1 s2 t0 t2 hra hF1 hkv hlv hkb
              go_wp2_with (first | (refine wpList_rep_append rfl (.tmp 134) (.tmp 136) 48 rfl (.float .f64 0) 8 Try.underlying48 info25 rfl (by decide) (.slice ak ks.length ck) ks rfl (HRA.out _) (fun _ => rfl) ⟨w2.heap.size, 0, none⟩ 1 1 [s.key] rfl rfl (cell_one_new _ _ _) (by simp [encK, Value.oneCell']) (by decide) (by unfold maxLen; omega) (by omega) ?_; intro h1 cap2 w3 r1 k1 a1 l1 q1; obtain ⟨t1, rv1, kk1⟩ := HF1.out _ _ k1; have RV1 := Lib.hid rv1; have R1 := Lib.hid r1; have K1 := Lib.hid k1; have A1 := Lib.hid a1; have KK1 := Lib.hid kk1; clear r1 k1 a1 rv1 kk1) | (refine wpList_rep_append rfl (.tmp 138) (.tmp 144) 40 rfl (.int .i64 0) 8 Try.underlying40 info3 rfl (by decide) (.slice av ks.length cv) vs rfl (RV1.out _) (fun _ => rfl) ⟨w3.heap.size, 0, none⟩ 1 1 [s.val] rfl rfl (cell_one_new _ _ _) (by simp [Value.oneCell']) (by decide) (by unfold maxLen; have := HLV.out; omega) (by have := HLV.out; omega) ?_; intro h2 cap3 w4 r2 k2 a2 l2 q2; have R2 := Lib.hid r2; have K2 := Lib.hid k2; have A2 := Lib.hid a2; clear r2 k2 a2) | (go_at_call 24; fail))
              obtain ⟨hM4, hB4⟩ := HM2.out.push ((Keeps.refl _ _).alloc _) R1.out K1.out A1.out l1 ((Keeps.refl _ _).alloc _) R2.out K2.out A2.out
              have hlen := hM4.len_at
              rw [len_rel LF HR2.out, List.length_append, List.length_singleton] at hlen
              have HM4 := Lib.hid hM4
              have HB4 := Lib.hid (HB2.out.trans hB4)
              clear hM4 hB4
              rw [← HLV.out] at HM4 ⊢
              refine hlen.mono ?_
              rintro e w5 ⟨rfl, rfl⟩
              clear hlen
              go_wp2_with fail
              go_roundw
              case rel => exact ⟨i + 1, _, _, _, _, T2, ks ++ [s.key], vs ++ [s.val], by omega, by go_num, HM4.out, HR2.out, HB4.out, by have := HKS.out; rw [List.length_append, List.length_singleton]; omega, by have := HYL.out; have := HY2.out; have := HKS.out; omega⟩
              case measure => simp [intOf]; omega
          · obtain ⟨u, hu⟩ : ∃ u, vs[a]? = some u := ⟨_, List.getElem?_eq_getElem (by rw [← HM.out.ln]; exact ha)⟩
            have e1 : valD vs ((a : Nat) : Int) 0 = u := by
              unfold valD; rw [if_neg (by omega)]; simp [hu]
            have e2 : decide ((0 : Int) ≤ ((a : Nat) : Int)) = true := by simp
            have e3 : ((a : Nat) : Int).toNat = a := by omega
            rw [hi1, e1, e2] at hget
            rw [hi1]
            obtain ⟨gv, cv', hg, _, _⟩ := HM.out.vo.ex (by rw [← HM.out.ln]; omega)
            rw [← HM.out.ln] at hg
            cases hg
            have cu := HM.out.vo.cell1 (fun _ => rfl) a u hu
            have ha0 : (0 : Int) ≤ (a : Int) := by omega
            have HGET := Lib.hid hget
            have HI := Lib.hid hi1
            have HU := Lib.hid hu
            have E1 := Lib.hid e1
            have E2 := Lib.hid e2
            have E3 := Lib.hid e3
            clear hget hi1 hlk hu s0 s1 s2 hrf e1 e2 e3
            go_wp2_with fail
            refine (HGET.out).mono ?_
            rintro e w1 ⟨rfl, n1, hw1⟩
            have k1 : Keeps [] wr w1 := by rw [hw1]; exact (Keeps.refl _ _).drewN n1
            have HM1 := Lib.hid (HM.out.keeps0 k1)
            have HB1 := Lib.hid (HBW.out.trans (k1.below HBW.out.size (by simp)))
            obtain ⟨s0, s1, s2⟩ := HC.out w1 HB1.out
            clear s0 k1 hw1 cu
            by_cases ho : s.out = true
            · have hdel := HM1.out.del_at HR.out s.key HLK.out
              rw [HI.out, E1.out, E2.out] at hdel
              rw [ho] at s2
              have HDEL := Lib.hid hdel
              clear hdel ho s1
              go_wp2_with fail
              refine (HDEL.out).mono ?_
              rintro e w2 ⟨rfl, oa2, os2, T2, hM2, hB2, hy2, hr2, hr3⟩
              have hr2' := hr2 (by omega)
              rw [E3.out] at hr2'
              have HM2 := Lib.hid hM2
              have HR2 := Lib.hid hr2'
              have HB2 := Lib.hid (HB1.out.trans hB2)
              have HY2 := Lib.hid hy2
              clear hM2 hr3 hr2' hr2 hB2 hy2 s2
              go_wp2_with fail
              go_loopw [13, 14, 15] (fun k v iv' wq => ∃ j : Nat, j ≤ ks.length ∧ iv' = .int .i64 j ∧ Rep 25 1 encK wq k (outTo ks a j) ∧ RepI wq v (outTo vs a j) ∧ (∀ b ∈ fp k, w2.heap.size ≤ b) ∧ (∀ b ∈ fp v, w2.heap.size ≤ b) ∧ (∀ b ∈ fp k, b ∉ fp v) ∧ Keeps [] w2 wq) (fun _ _ iv' _ => ks.length - (intOf iv').toNat)
              case atStart => exact ⟨0, by omega, rfl, by rw [outTo_zero]; exact Rep.nil, by rw [outTo_zero]; exact Rep.nil, by simp [fp, Value.ownBlock], by simp [fp, Value.ownBlock], by simp [fp, Value.ownBlock], Keeps.refl _ _⟩
              case round =>
                obtain ⟨j, hj, rfl, hrk, hrv, hfk, hfv, hd, hkp⟩ := hrel
                by_cases hjl : j < ks.length
                · obtain ⟨x, hx⟩ : ∃ x, ks[j]? = some x := ⟨_, List.getElem?_eq_getElem hjl⟩
                  obtain ⟨y, hy⟩ : ∃ y, vs[j]? = some y := ⟨_, List.getElem?_eq_getElem (by rw [← HM.out.ln]; exact hjl)⟩
                  have hko := HM2.out.ko.keeps hkp (by simp)
                  have hvo := HM2.out.vo.keeps hkp (by simp)
                  obtain ⟨gk, cap1, hg, _, _⟩ := hko.ex (by omega)
                  cases hg
                  have c := hko.cell1 (u := fun x => .float .f64 x.1) (fun _ => rfl) j x hx
                  have c' := hvo.cell1 (fun _ => rfl) j y hy
                  have lk := outTo_len (xs := ks) (i := a) hj
                  have lv := outTo_len (xs := vs) (i := a) (by rw [← HM.out.ln]; exact hj : j ≤ vs.length)
                  have HX := Lib.hid hx
                  have HY := Lib.hid hy
                  have HVO := Lib.hid hvo
                  have HRK := Lib.hid hrk
                  have HRV := Lib.hid hrv
                  have HFK := Lib.hid hfk
                  have HFV := Lib.hid hfv
                  have HD := Lib.hid hd
                  have hgw : gv < w2.heap.size := HM2.out.vo.fp_lt gv (by simp [fp, Value.ownBlock])
                  clear hx hy hko hvo hrk hrv hfk hfv hd
                  by_cases hji : j = a
                  · have hb : (((j : Int)) != (a : Int)) = false := by simp [hji]
                    have HKP := Lib.hid hkp
                    clear hkp
                    go_wp2_with fail
                    go_roundw
                    case rel =>
                      subst hji
                      exact ⟨j + 1, by omega, by go_num, by rw [outTo_succ_skip HX.out]; exact HRK.out, by rw [outTo_succ_skip HY.out]; exact HRV.out, HFK.out, HFV.out, HD.out, HKP.out⟩
                    case measure => simp [intOf]; omega
                  · have hb : (((j : Int)) != (a : Int)) = true := by simp; omega
                    have HJI := Lib.hid hji
                    clear hji
                    have hkps := hkp.size
                    have HKP := Lib.hid hkp
                    clear hkp
                    have hra : ∀ o, Rep 25 1 encK (wr.alloc o) u13 (outTo ks a j) := fun o => World.ownsRow.alloc HRK.out o
                    have F1 : ∀ o w1, Keeps (fp u13) (wr.alloc o) w1 → w1.cell? ⟨gv, j, none⟩ = some (.int .i64 y) ∧ (∀ o', RepI (w1.alloc o') u14 (outTo vs a j)) ∧ Keeps [] w2 w1 := by
                      intro o w1 k1
                      have hv : RepI (wr.alloc o) (.slice (some ⟨gv, 0, none⟩) ks.length cv) vs := World.ownsRow.alloc HVO.out o
                      have vo1 := hv.keeps k1 (fun b hb hm => by have := HFK.out _ hm; simp [fp, Value.ownBlock] at hb; omega)
                      have hv2 : RepI (wr.alloc o) u14 (outTo vs a j) := World.ownsRow.alloc HRV.out o
                      refine ⟨vo1.cell1 (fun _ => rfl) j y HY.out, fun o' => World.ownsRow.alloc (hv2.keeps k1 (fun b hb hm => HD.out b hm hb)) o', ?_⟩
                      exact (HKP.out.alloc o).trans k1 (fun x hx hlt => by have := HFK.out _ hx; omega)
                    have HRA := Lib.hid hra
                    have HF1 := Lib.hid F1
                    clear hra F1
                    go_wp2_with (first | (refine wpList_rep_append rfl (.tmp 97) (.tmp 102) 48 rfl (.float .f64 0) 8 Try.underlying48 info25 rfl (by decide) u13 (outTo ks a j) rfl (HRA.out _) (fun _ => rfl) ⟨wr.heap.size, 0, none⟩ 1 1 [x] rfl rfl (cell_one_new _ _ _) (by simp [encK, Value.oneCell']) (by decide) (by unfold maxLen; omega) (by omega) ?_; intro h1 cap2 w3 r1 k1 a1 l1 q1; obtain ⟨c1', rv1, kk1⟩ := HF1.out _ _ k1; have RV1 := Lib.hid rv1; have R1 := Lib.hid r1; have K1 := Lib.hid k1; have A1 := Lib.hid a1; have KK1 := Lib.hid kk1; clear r1 k1 a1 rv1 kk1) | (refine wpList_rep_append rfl (.tmp 104) (.tmp 109) 40 rfl (.int .i64 0) 8 Try.underlying40 info3 rfl (by decide) u14 (outTo vs a j) rfl (RV1.out _) (fun _ => rfl) ⟨w3.heap.size, 0, none⟩ 1 1 [y] rfl rfl (cell_one_new _ _ _) (by simp [Value.oneCell']) (by decide) (by unfold maxLen; omega) (by omega) ?_; intro h2 cap3 w4 r2 k2 a2 l2 q2; have R2 := Lib.hid r2; have K2 := Lib.hid k2; have A2 := Lib.hid a2; clear r2 k2 a2))
                    have hu5 := HRV.out.fp_lt
                    have hk1 := K1.out
                    have hk2 := K2.out
                    have hs1 := hk1.size
                    have hs2 := hk2.size
                    rw [World.size_alloc] at hs1 hs2
                    have ha1 := A1.out
                    have ha2 := A2.out
                    rw [World.size_alloc] at ha1 ha2
                    have hd := HD.out
                    have hfk := HFK.out
                    have hfv := HFV.out
                    have hn1 : h1 ∉ fp u14 := fun hm => by
                      rcases ha1 with q | q
                      · exact hd _ q hm
                      · have := hu5 _ hm; omega
                    have hf1 : fp (Value.slice (some (⟨h1, 0, none⟩ : Addr)) ((outTo ks a j).length + 1) cap2) = [h1] := rfl
                    have hf2 : fp (Value.slice (some (⟨h2, 0, none⟩ : Addr)) ((outTo vs a j).length + 1) cap3) = [h2] := rfl
                    go_roundw
                    case rel =>
                      refine ⟨j + 1, by omega, by go_num, ?_, ?_, ?_, ?_, ?_, ?_⟩
                      · rw [outTo_succ_keep HX.out HJI.out]
                        exact Rep.keeps (World.ownsRow.alloc R1.out _ : Rep _ _ _ _ _ _) hk2 (by rw [hf1]; simp; exact hn1)
                      · rw [outTo_succ_keep HY.out HJI.out]
                        exact R2.out
                      · rw [hf1]; intro b hb; simp only [List.mem_singleton] at hb; subst hb
                        rcases ha1 with q | q
                        · exact hfk _ q
                        · omega
                      · rw [hf2]; intro b hb; simp only [List.mem_singleton] at hb; subst hb
                        have := KK1.out.size
                        rcases ha2 with q | q
                        · exact hfv _ q
                        · omega
                      · rw [hf1, hf2]; intro b hb; simp only [List.mem_singleton] at hb ⊢; subst hb
                        rcases ha2 with q | q
                        · intro e; subst e; exact hn1 q
                        · omega
                      · exact (KK1.out.alloc _).trans hk2 (fun x hx hlt => by have := hfv _ hx; omega)
                    case measure => simp [intOf]; omega
                · obtain rfl : j = ks.length := by omega
                  have e4 : ks.length = vs.length := HM.out.ln
                  rw [outTo_end] at hrk
                  rw [e4, outTo_end] at hrv
                  have hM5 := HM2.out.taken hkp hrk hrv (by rw [List.length_eraseIdx, List.length_eraseIdx, e4]) hfk hfv hd
                  have hlen := hM5.len_at
                  rw [len_rel LF HR2.out] at hlen
                  obtain ⟨ak', ck', hu4, _, _, _⟩ := hrk.form
                  have HLEN := Lib.hid hlen
                  have HM5 := Lib.hid hM5
                  have HB5 := Lib.hid (HB2.out.trans (hkp.below HB2.out.size (by simp)))
                  clear hlen hM5 hrk hrv hfk hfv hd hkp e4
                  subst hu4
                  go_wp2_with (go_at_call 24; refine (HLEN.out).mono ?_; rintro e w5 ⟨rfl, rfl⟩)
                  go_roundw
                  case rel => exact ⟨i + 1, _, _, _, _, T2, ks.eraseIdx a, vs.eraseIdx a, by omega, by go_num, HM5.out, HR2.out, HB5.out, by have := HKS.out; have := List.length_eraseIdx_le ks a; omega, by have := HYL.out; have := HY2.out; omega⟩
                  case measure => simp [intOf]; omega
            · have hof : s.out = false := by simpa using ho
              have hput := HM1.out.put_at HR.out (by have := HYL.out; omega) s.key s.val HLK.out
              rw [HI.out, E1.out, E2.out] at hput
              rw [hof] at s2
              have HPUT := Lib.hid hput
              clear hput ho hof
              go_wp2_with fail
              refine (HPUT.out).mono ?_
              rintro e w2 ⟨rfl, ya2, ys2, oa2, os2, T2, hM2, hB2, hy2, hr2, hr3⟩
              have hr2' := hr2 (by omega)
              rw [E3.out] at hr2'
              obtain ⟨t0, t1, t2⟩ := HC.out w2 (HB1.out.trans hB2)
              obtain ⟨hM4, hB4⟩ := hM2.setV a s.val (by rw [← HM.out.ln]; exact ha)
              have hfz := hM2.vo.frozen a
              have cu := hM2.vo.cell1 (fun _ => rfl) a u HU.out
              have hlen := hM4.len_at
              rw [len_rel LF hr2'] at hlen
              have HLEN := Lib.hid hlen
              have HM4 := Lib.hid hM4
              have HR2 := Lib.hid hr2'
              have HB4 := Lib.hid ((HB1.out.trans hB2).trans hB4)
              have HY2 := Lib.hid hy2
              clear hlen hM4 hM2 hr3 hr2' hr2 hB2 hB4 hy2 s1 s2 t0 t2
              go_wp2_with (go_at_call 24; refine (HLEN.out).mono ?_; rintro e w5 ⟨rfl, rfl⟩)
              go_roundw
              case rel => exact ⟨i + 1, _, _, _, _, T2, ks, vs.set a s.val, by omega, by go_num, HM4.out, HR2.out, HB4.out, by have := HKS.out; omega, by have := HYL.out; have := HY2.out; have := HKS.out; omega⟩
              case measure => simp [intOf]; omega
    · obtain rfl : i = n := by omega
      have hpl : T.pairs.length = ks.length := len_rel LF hR
      have heq : ∀ w bx, (binOp .eql 43 (.func (.func 59) #[] #[.pointer (some ⟨bx, 0, none⟩)]) .nilFunc).run Try.prog w = .ok (.bool false) w := fun _ _ => by kernel_rfl
      have HM := Lib.hid hM
      have HR := Lib.hid hR
      have HBW := Lib.hid hBW
      have HPL := Lib.hid hpl
      have HYL := Lib.hid hyl
      clear hM hR hBW hpl HN HS HM0 HB0 hyl
      go_wp2_with (go_at_call 19; refine (all_in _ bt).mono ?_; rintro e w' ⟨rfl, rfl⟩)
      obtain ⟨w3, hw3⟩ : ∃ w3, w3 = (((wr.alloc (Obj.cells #[Value.int IntKind.i64 0] 3)).alloc (Obj.cells #[Value.int IntKind.i64 0] 3)).alloc (Obj.cells #[Value.pointer (some { block := bt, off := 0 })] 23)) := ⟨_, rfl⟩
      have hk3 : Keeps [] wr w3 := by rw [hw3]; exact (((Keeps.refl _ _).alloc _).alloc _).alloc _
      have hz3 : w3.heap.size = wr.heap.size + 3 := by rw [hw3]; simp
      have bN : Boxed w3 wr.heap.size 3 (.int .i64 0) := by rw [hw3]; exact ((Boxed.new wr 3 (.int .i64 0)).alloc _).alloc _
      have bS : Boxed w3 (wr.heap.size + 1) 3 (.int .i64 0) := by
        rw [hw3]; have := (Boxed.new (wr.alloc (Obj.cells #[Value.int IntKind.i64 0] 3)) 3 (.int .i64 0)).alloc (Obj.cells #[Value.pointer (some { block := bt, off := 0 })] 23)
        rwa [World.size_alloc] at this
      have bA : Blk w3 (wr.heap.size + 1 + 1) [Value.pointer (some { block := bt, off := 0 })] 23 := by
        rw [hw3]; have := Blk.new ((wr.alloc (Obj.cells #[Value.int IntKind.i64 0] 3)).alloc (Obj.cells #[Value.int IntKind.i64 0] 3)) [Value.pointer (some { block := bt, off := 0 })] 23
        rwa [World.size_alloc, World.size_alloc] at this
      rw [← hw3]
      have hT3 := HM.out.tab.keeps0 hk3
      have hB3 : Below w.heap.size w w3 := HBW.out.trans (hk3.below HBW.out.size (by simp))
      refine (wpIn_wide (n := 3)).1 ?_
      refine wpIn_rangeFunc_ownG rfl (by omega) (gf := 59) (lb := #[.pointer (some ⟨wr.heap.size + 1 + 1, 0, none⟩)]) rfl trivial (enters_of Try.func59 (by kernel_rfl) rfl)
        (all_stops 2 (by omega) _ bt ya ys oa os hvF T w3 bA hT3) Kp.trans (fun W l o o' _ h ho _ => Kp.bk W l o o' h ho) (Below.refl _ _) (fun _ => rfl)
        (fun pre W => ((Boxed W wr.heap.size 3 (.int .i64 (pre.length : Nat)) ∧ Boxed W (wr.heap.size + 1) 3 (.int .i64 (wrap64 (pre.map (·.2)).sum))) ∧ Keeps [wr.heap.size, wr.heap.size + 1] w3 W))
        (fun _ _ _ => False)
        (OwnFrom.and (OwnFrom.and (Own.from (boxed_own _ _ _) _) (Own.from (boxed_own _ _ _) _)) (ownFrom_keeps (Nat.le_refl _)))
        (fun _ _ _ _ _ hs _ _ => hs)
        ⟨⟨bN, by rw [show wrap64 (List.map (fun x : F64 × Int => x.snd) []).sum = 0 from by simp [wrap64]]; exact bS⟩, Keeps.refl _ _⟩
        ?a1 ?assign ?body ?done ?stop
      case assign =>
        intro l x W K hK
        gi_wp2
        exact hK
      case body =>
        rintro l pre x W ⟨⟨bn, bs⟩, hkk⟩ hlt
        have cn := bn.cell
        have cs := bs.cell
        have hnp : pre.length + 1 ≤ 1048576 + 1 := by have := HPL.out; omega
        have HA := Lib.hid (bs.other (by omega : wr.heap.size + 1 ≠ wr.heap.size))
        have hc1 : ∀ v, (W.setCell ⟨wr.heap.size, 0, none⟩ v).cell? ⟨wr.heap.size + 1, 0, none⟩ = some (.int .i64 (wrap64 (pre.map (·.2)).sum)) := fun v => (bs.other (by omega) v).cell
        have hf1 : ∀ v, (W.setCell ⟨wr.heap.size, 0, none⟩ v).frozen? ⟨wr.heap.size + 1, 0, none⟩ = false := fun v => (bs.other (by omega) v).frozen
        have hf0 := bn.frozen
        have HKK := Lib.hid hkk
        have BN := Lib.hid bn
        have BS := Lib.hid bs
        generalize hsg : wrap64 (pre.map (·.2)).sum = sg at *
        have HSG := Lib.hid hsg
        clear hkk bn bs hlt hsg
        gi_wp2
        refine ⟨((KeepsOthers.setCell _ _ _).trans (KeepsOthers.setCell _ _ _)).from _, (Kp.box BN.out _).trans (Kp.box (HA.out _) _), ⟨?_, ?_⟩, ?_⟩
        · rw [List.length_append, List.length_singleton]
          have := ((BN.out.set (.int .i64 ((pre.length : Int) + 1))).other (by omega : wr.heap.size ≠ wr.heap.size + 1) (.int .i64 (wrap64 (sg + x.2))))
          exact this
        · rw [List.map_append, List.sum_append, List.map_singleton, List.sum_singleton, show wrap64 ((pre.map (·.2)).sum + x.2) = wrap64 (sg + x.2) from by rw [← HSG.out]; unfold wrap64; omega]
          exact (HA.out _).set _
        · exact Keeps.setCell (Keeps.setCell HKK.out _ _ (by simp)) _ _ (by simp)
      case done =>
        rintro D ys' W hD rfl ⟨⟨bn, bs⟩, hkk⟩ hK
        rw [HPL.out] at bn
        rw [rel_sum HR.out] at bs
        have hKT : Keeps [wr.heap.size, wr.heap.size + 1] wr W := (hk3.mono (by simp)).trans hkk (fun x hx _ => hx)
        have hlt := HM.out.tab_lt
        have hTW := HM.out.tab.away hKT (fun b hb q => by have := hlt b hb; simp only [List.mem_cons, List.not_mem_nil, or_false] at q; omega)
        have hfv := HM.out.vo.fp_lt
        have hVW := HM.out.vo.keeps hKT (fun b hb q => by have := hfv b hb; simp only [List.mem_cons, List.not_mem_nil, or_false] at q; omega)
        have hBWr := HBW.out.size
        have hBD : Below w.heap.size w W := hB3.trans (hkk.below hB3.size (by simp; omega))
        have hinv := HM.out.inv
        have hrel := HR.out
        have hln := HM.out.ln
        have HF1 := Lib.hid HM.out.f1
        have hDW : D < W.heap.size := (Array.getElem?_eq_some_iff.1 hK).1
        generalize hb0 : wr.heap.size = b0 at *
        have HLT := Lib.hid hlt
        have HTW := Lib.hid hTW
        have HVW := Lib.hid hVW
        have HFV := Lib.hid hfv
        have HBD := Lib.hid hBD
        have HINV := Lib.hid hinv
        have HREL := Lib.hid hrel
        have HLN := Lib.hid hln
        have HK := Lib.hid hK
        have BN := Lib.hid bn
        have BS := Lib.hid bs
        have HZ3 := Lib.hid hz3
        have HD := Lib.hid (And.intro hD hDW)
        have HBB := Lib.hid hBWr
        clear hKT hlt hTW hfv hVW hBD hinv hrel hln hK bn bs hkk hk3 hT3 hB3 bA bN bS hb0 hw3 hD hDW hz3 HM HR HBW HPL heq hBWr
        go_wp2_with fail
        go_loopw [21] (fun iv wq => ∃ j : Nat, j ≤ ks.length ∧ iv = .int .i64 j ∧ Boxed wq (b0 + 1) 3 (.int .i64 (wrap64 (vs.sum - (vs.take j).sum))) ∧ Keeps [b0 + 1] W wq) (fun iv _ => ks.length - (intOf iv).toNat)
        case atStart => exact ⟨0, by omega, rfl, by simpa using BS.out, Keeps.refl _ _⟩
        case round =>
          obtain ⟨j, hj, rfl, hbx, hkq⟩ := hrel
          have cs := hbx.cell
          have fs := hbx.frozen
          have HVR := Lib.hid (HVW.out.keeps hkq (fun b hb q => by have := HFV.out b hb; simp only [List.mem_cons, List.not_mem_nil, or_false] at q; omega))
          have HBX := Lib.hid hbx
          have HKQ := Lib.hid hkq
          clear hbx hkq
          by_cases hjl : j < ks.length
          · obtain ⟨y, hy⟩ : ∃ y, vs[j]? = some y := ⟨_, List.getElem?_eq_getElem (by rw [← HLN.out]; exact hjl)⟩
            obtain ⟨g, cap', hg, _, _⟩ := HVR.out.ex (by rw [← HLN.out]; omega)
            rw [← HLN.out] at hg
            cases hg
            have c := HVR.out.cell1 (fun _ => rfl) j y hy
            have HY := Lib.hid hy
            clear hy
            generalize hsg : wrap64 (vs.sum - (vs.take j).sum) = sg at *
            have HSG := Lib.hid hsg
            clear hsg
            go_wp2_with fail
            go_region
            go_wp2_with fail
            go_roundw
            case rel =>
              refine ⟨j + 1, by omega, by go_num, ?_, ?_⟩
              · have e5 : wrap64 (vs.sum - (vs.take (j + 1)).sum) = wrap64 (sg - y) := by
                  rw [take_snoc HY.out, List.sum_append, List.sum_singleton, ← HSG.out]; unfold wrap64; omega
                rw [e5]
                exact HBX.out.set _
              · exact (Keeps.setCell HKQ.out _ _ (by simp)).drew
            case measure => simp [intOf]; omega
          · obtain rfl : j = ks.length := by omega
            have e6 : wrap64 (vs.sum - (vs.take ks.length).sum) = 0 := by
              rw [HLN.out, List.take_length, Int.sub_self]; simp [wrap64]
            rw [e6] at cs
            have hTq := HTW.out.away HKQ.out (fun b hb q => by have := HLT.out b hb; simp only [List.mem_cons, List.not_mem_nil, or_false] at q; omega)
            have hput := seven_calls hTq HINV.out HREL.out (by have := HYL.out; omega)
            have HPUT := Lib.hid hput
            clear hTq hput fs
            go_wp2_with fail
            refine (HPUT.out).mono ?_
            rintro e w4 ⟨ok, pv, gv, m, rfl, k4, hget, hlen, hor⟩
            have kall : Keeps [b0 + 1, bt, ya, ys, oa, os] W w4 := (HKQ.out.mono (by simp)).trans k4 (fun x hx _ => by simp only [List.mem_cons, List.not_mem_nil, or_false] at hx ⊢; omega)
            have hFX : ∀ wx, Keeps [] w4 wx → wx.cell? ⟨b0, 0, none⟩ = some (.int .i64 (ks.length : Nat)) ∧ wx.cell? ⟨b0 + 1, 0, none⟩ = some (.int .i64 0) ∧ wx.heap[D]? = some (.deferred (some [])) ∧ Below w.heap.size w wx := by
              intro wx kx
              have ka : Keeps [b0 + 1, bt, ya, ys, oa, os] W wx := kall.trans kx (by simp)
              have hl := HLT.out
              have l1 := BN.out.lt
              have hz := HZ3.out
              obtain ⟨d1, d2⟩ := HD.out
              have hbx := HBX.out
              rw [e6] at hbx
              have l2 := hbx.lt
              refine ⟨?_, ?_, (ka.block D d2 ?_).trans HK.out, HBD.out.trans (ka.below HBD.out.size ?_)⟩
              · exact Boxed.cell (t := 3) ((ka.block b0 l1 (fun q => by
                  simp only [List.mem_cons, List.not_mem_nil, or_false] at q
                  have l3 := hl bt (by simp)
                  have l4 := hl ya (by simp)
                  have l5 := hl ys (by simp)
                  have l6 := hl oa (by simp)
                  have l7 := hl os (by simp)
                  omega)).trans BN.out)
              · exact Boxed.cell (t := 3) ((kx.block (b0 + 1) (Nat.lt_of_lt_of_le l2 k4.size) (by simp)).trans ((k4.block (b0 + 1) l2 (fun q => by have := hl _ q; omega)).trans hbx))
              · intro q
                simp only [List.mem_cons, List.not_mem_nil, or_false] at q
                have l3 := hl bt (by simp)
                have l4 := hl ya (by simp)
                have l5 := hl ys (by simp)
                have l6 := hl oa (by simp)
                have l7 := hl os (by simp)
                omega
              · intro b q
                rcases List.mem_cons.1 q with q | q
                · have := HBB.out; omega
                · exact HF1.out b q
            have HGET := Lib.hid (hget w4 (Keeps.refl _ _))
            have HLEN := Lib.hid hlen
            have HOR := Lib.hid hor
            have HFX := Lib.hid hFX
            clear k4 kall hget hlen hor hFX cs
            go_wp2_with fail
            refine (HGET.out).mono ?_
            rintro e w5 ⟨rfl, n5, hw5⟩
            have k5 : Keeps [] w4 w5 := by rw [hw5]; exact (Keeps.refl _ _).drewN n5
            obtain ⟨x0, x1, x2, x3⟩ := HFX.out w5 k5
            have HX2 := Lib.hid x2
            have HX3 := Lib.hid x3
            have HLEN5 := Lib.hid (HLEN.out w5 k5)
            clear k5 hw5 x2 x3
            rcases HOR.out with rfl | rfl
            · go_wp2_with fail
              refine ⟨by simp, .inl ⟨_, _, rfl, run_takeDeferred HX2.out, ?_⟩⟩
              exact ⟨_, results_tmp rfl _ _ _, rfl, HX3.out.trans (belowK_b (w := w) (Nat.le_refl _) _ D _ (.deferred none) (by have := HD.out; have := HBB.out; have := HZ3.out; omega) HX2.out rfl rfl)⟩
            · cases ok
              · go_wp2_with (go_at_call 24; refine (HLEN5.out).mono ?_; rintro e w6 ⟨rfl, rfl⟩)
                refine ⟨by simp, .inl ⟨_, _, rfl, run_takeDeferred HX2.out, ?_⟩⟩
                exact ⟨_, results_tmp rfl _ _ _, rfl, HX3.out.trans (belowK_b (w := w) (Nat.le_refl _) _ D _ (.deferred none) (by have := HD.out; have := HBB.out; have := HZ3.out; omega) HX2.out rfl rfl)⟩
              · go_wp2_with fail
                refine ⟨by simp, .inl ⟨_, _, rfl, run_takeDeferred HX2.out, ?_⟩⟩
                exact ⟨_, results_tmp rfl _ _ _, rfl, HX3.out.trans (belowK_b (w := w) (Nat.le_refl _) _ D _ (.deferred none) (by have := HD.out; have := HBB.out; have := HZ3.out; omega) HX2.out rfl rfl)⟩
      case stop =>
        rintro D c pre W _ _ h _
        exact h.elim
end Go.Proofs.Ytaomaeobgfeoiaa.F
