import Derived.Test.YtaomaeobgfeoiaaXp
namespace Go.Proofs.Ytaomaeobgfeoiaa.X
open Go.RowKit Pl

/-- A step of a script: what, which table, key, value. -/
structure St where
  dd : Int
  oth : Bool
  key : Int
  val : Int

/-- The script in memory. -/
def ScriptAt (w : World) (ao : Option Addr) (steps : List St) : Prop :=
  steps = [] ∨ ∃ b off, ao = some ⟨b, off, none⟩ ∧ b < w.heap.size ∧ ∀ (i : Nat) (s : St), steps[i]? = some s →
    w.cell? ⟨b, off + i * 4, none⟩ = some (.int .i64 s.dd) ∧ w.cell? ⟨b, off + i * 4 + 1, none⟩ = some (.bool s.oth) ∧ w.cell? ⟨b, off + i * 4 + 2, none⟩ = some (.int .i64 s.key) ∧ w.cell? ⟨b, off + i * 4 + 3, none⟩ = some (.int .i64 s.val)

theorem ScriptAt.kept {w w' : World} {ao : Option Addr} {steps : List St} (h : ScriptAt w ao steps) (k : Below w.heap.size w w') : ScriptAt w' ao steps := by
  rcases h with h | ⟨b, off, h1, h2, h3⟩
  · exact .inl h
  · refine .inr ⟨b, off, h1, Nat.lt_of_lt_of_le h2 k.size, fun i s hs => ?_⟩
    obtain ⟨a0, a1, a2, a3⟩ := h3 i s hs
    exact ⟨(k.cell (p := ⟨b, _, none⟩) h2).trans a0, (k.cell (p := ⟨b, _, none⟩) h2).trans a1, (k.cell (p := ⟨b, _, none⟩) h2).trans a2, (k.cell (p := ⟨b, _, none⟩) h2).trans a3⟩

/-- Behind New and the list's making. -/
theorem law0 {w : World} {t m : Int} {ct cm bt ya ys B : Nat} {R : List Nat} (h : TabAt w (hvI ct cm) bt ya ys ya ys tab0) (hh : HOk w t m ct cm) (hct : ct ∈ R) (hcm : cm ∈ R) (f1 : ∀ b ∈ [bt, ya, ys], B ≤ b ∧ b ∉ R) (hres : ∀ b ∈ R, b < w.heap.size) (hB : B ≤ w.heap.size) :
    LawAt (w.alloc (.cells #[.slice none 0 0, .slice none 0 0] 62)) t m ct cm bt w.heap.size B R ya ys ya ys (.slice none 0 0) (.slice none 0 0) tab0 [] [] := by
  have k : Keeps [] w (w.alloc (.cells #[.slice none 0 0, .slice none 0 0] 62)) := (Keeps.refl _ _).alloc _
  have l1 := h.tb.lt
  have l2 := h.yo.ha.lt
  have l3 := h.yo.hs.lt
  have e : mfp w.heap.size (.slice none 0 0) (.slice none 0 0) = [w.heap.size] := rfl
  refine ⟨h.keeps0 k, ⟨Blk.new w [.slice none 0 0, .slice none 0 0] 62, Rep.nil, Rep.nil, rfl, by simp [fp, Value.ownBlock], by simp [fp, Value.ownBlock], by simp [fp, Value.ownBlock]⟩, ?_, ?_, ?_, hh.keeps k (by simp) (by simp), hct, hcm, inv0 _, ⟨rfl, ?_⟩, ?_, ?_⟩
  · intro b hb
    rw [e]
    simp only [List.mem_cons, List.not_mem_nil, or_false] at hb ⊢
    omega
  · intro b hb
    exact f1 b (by simp only [List.mem_cons, List.not_mem_nil, or_false] at hb ⊢; omega)
  · intro b hb
    rw [e] at hb
    simp only [List.mem_cons, List.not_mem_nil, or_false] at hb
    subst hb
    exact ⟨hB, fun q => by have := hres _ q; omega⟩
  · have : tab0.M (LI (hashI t m)) = [] := by unfold Tab.M Tab.pairs Tab.oldFulls tab0; simp only; rw [fulls_replicate]; rfl
    rw [this]
    exact List.Perm.refl _
  · intro b hb; rw [World.size_alloc]; have := hres b hb; omega
  · rw [World.size_alloc]; omega

theorem flatP_get : ∀ (ps : List (Int × Int)) (j : Nat) (p : Int × Int), ps[j]? = some p → (flatP ps)[2 * j]? = some p.1 ∧ (flatP ps)[2 * j + 1]? = some p.2
  | [], j, p, h => by simp at h
  | q :: ps, 0, p, h => by
    simp at h; subst h
    exact ⟨rfl, rfl⟩
  | q :: ps, j + 1, p, h => by
    have := flatP_get ps j p (by simpa using h)
    have e : flatP (q :: ps) = q.1 :: q.2 :: flatP ps := rfl
    rw [e, show 2 * (j + 1) = 2 * j + 1 + 1 by omega]
    simpa using this

set_option maxRecDepth 100000 in
set_option maxHeartbeats 4000000 in
theorem maps_calls {w : World} {t0 t1 m0 m1 : Int} {ao : Option Addr} {n cap : Nat} {steps : List St} (hs : ScriptAt w ao steps) (hn : n = steps.length) (hb : n ≤ 1048576) :
    Calls Try.prog 5 #[.agg #[.int .i64 t0, .int .i64 t1, .int .i64 m0, .int .i64 m1, .slice ao n cap]] w fun e w' => e = .returned (.bool true) ∧ Below w.heap.size w w' := by
  have HN := Lib.hid hn
  have HS := Lib.hid hs
  clear hn hs
  go_enter Try.func5, Try.ntmps5
  go_wp2_with fail
  obtain ⟨w0, hw0⟩ : ∃ w0, w0 = (((w.alloc (Obj.cells #[Value.int IntKind.i64 t0, Value.int IntKind.i64 t1, Value.int IntKind.i64 m0, Value.int IntKind.i64 m1, Value.slice ao n cap] 56)).alloc (Obj.cells #[Value.int IntKind.i64 t0] 3)).alloc (Obj.cells #[Value.int IntKind.i64 m0] 3)) := ⟨_, rfl⟩
  have kb0 : Below w.heap.size w w0 := by rw [hw0]; exact (((Below.refl _ w).alloc (Nat.le_refl _) _).alloc (by simp) _).alloc (by simp; omega) _
  have z0 : w0.heap.size = w.heap.size + 3 := by rw [hw0]; simp
  have x1 : Blk w0 w.heap.size [.int .i64 t0, .int .i64 t1, .int .i64 m0, .int .i64 m1, .slice ao n cap] 56 := by rw [hw0]; exact ((Blk.new w [.int .i64 t0, .int .i64 t1, .int .i64 m0, .int .i64 m1, .slice ao n cap] 56).alloc _).alloc _
  have x2 : Blk w0 (w.heap.size + 1) [.int .i64 t0] 3 := by
    rw [hw0]; have := (Blk.new (w.alloc (Obj.cells #[Value.int IntKind.i64 t0, Value.int IntKind.i64 t1, Value.int IntKind.i64 m0, Value.int IntKind.i64 m1, Value.slice ao n cap] 56)) [.int .i64 t0] 3).alloc (Obj.cells #[Value.int IntKind.i64 m0] 3)
    rwa [World.size_alloc] at this
  have x3 : Blk w0 (w.heap.size + 1 + 1) [.int .i64 m0] 3 := by
    rw [hw0]; have := Blk.new ((w.alloc (Obj.cells #[Value.int IntKind.i64 t0, Value.int IntKind.i64 t1, Value.int IntKind.i64 m0, Value.int IntKind.i64 m1, Value.slice ao n cap] 56)).alloc (Obj.cells #[Value.int IntKind.i64 t0] 3)) [.int .i64 m0] 3
    rwa [World.size_alloc, World.size_alloc] at this
  rw [← hw0]
  have HX1 := Lib.hid x1
  have HX2 := Lib.hid (HOk.mk x2 x3)
  have HB0 := Lib.hid kb0
  have HZ0 := Lib.hid z0
  clear x1 x2 x3 kb0 z0 hw0
  refine (new_calls w0 _ _).mono ?_
  rintro e w1 ⟨bt, ya, ys, rfl, ht, k1, hbt, hya, hys⟩
  have hL0 := law0 (R := [w.heap.size, w.heap.size + 1, w.heap.size + 1 + 1]) (B := w.heap.size) ht (HX2.out.keeps k1 (by simp) (by simp)) (by simp) (by simp)
    (fun b hb => by have := HZ0.out; simp only [List.mem_cons, List.not_mem_nil, or_false] at hb ⊢; omega) (fun b hb => by have := HZ0.out; have := k1.size; simp only [List.mem_cons, List.not_mem_nil, or_false] at hb; omega) (by have := HZ0.out; have := k1.size; omega)
  have k2 : Keeps [] w0 (w1.alloc (.cells #[.slice none 0 0, .slice none 0 0] 62)) := k1.alloc _
  have HK2 := Lib.hid k2
  have HL0 := Lib.hid hL0
  clear ht k1 hbt hya hys hL0 k2
  go_wp2
  obtain ⟨w2, hw2⟩ : ∃ w2, w2 = w1.alloc (Obj.cells #[Value.slice none 0 0, Value.slice none 0 0] 62) := ⟨_, rfl⟩
  rw [← hw2]
  have hk2 := HK2.out
  have hl0 := HL0.out
  rw [← hw2] at hk2 hl0
  clear HK2 HL0 hw2
  generalize w1.heap.size = bm at *
  have HK2 := Lib.hid hk2
  have HL0 := Lib.hid hl0
  clear hk2 hl0
  clear w1
  go_loopw [7, 8] (fun lst iv wr => ∃ (i ya ys oa os : Nat) (kv vv : Value) (T : Tab Int Int) (ks vs : List Int), i ≤ n ∧ iv = .int .i64 i ∧ lst = .int .i64 (leftT T) ∧
    LawAt wr t0 m0 (w.heap.size + 1) (w.heap.size + 1 + 1) bt bm w.heap.size [w.heap.size, w.heap.size + 1, w.heap.size + 1 + 1] ya ys oa os kv vv T ks vs ∧ Kept w.heap.size [w.heap.size, w.heap.size + 1, w.heap.size + 1 + 1] w0 wr ∧ ks.length ≤ i ∧ T.young.length ≤ 4 * i + 8)
    (fun _ i _ => n - (intOf i).toNat)
  case atStart => exact ⟨0, _, _, _, _, _, _, _, _, _, by omega, rfl, rfl, HL0.out, Kept.of HK2.out (by simp), by simp, by simp [tab0]⟩
  case round =>
    obtain ⟨i, ya, ys, oa, os, kv, vv, T, ks, vs, hi, rfl, rfl, hL, hK, hks, hyl⟩ := hrel
    have x4 := (hK.blk HX1.out (by simp)).cell 4
    simp only [List.getElem?_cons_zero, List.getElem?_cons_succ] at x4
    have hBW : Below w.heap.size w wr := HB0.out.trans (hK.below (by have := HZ0.out; omega))
    by_cases hlt : i < n
    · obtain ⟨s, hsi⟩ : ∃ s, steps[i]? = some s := ⟨_, List.getElem?_eq_getElem (by rw [← HN.out]; exact hlt)⟩
      obtain ⟨sb, off, rfl, hsb, hcell⟩ : ∃ sb off, ao = some ⟨sb, off, none⟩ ∧ sb < w.heap.size ∧ ∀ W, Below w.heap.size w W → (W.cell? ⟨sb, off + i * 4, none⟩ = some (.int .i64 s.dd) ∧ W.cell? ⟨sb, off + i * 4 + 1, none⟩ = some (.bool s.oth) ∧ W.cell? ⟨sb, off + i * 4 + 2, none⟩ = some (.int .i64 s.key) ∧ W.cell? ⟨sb, off + i * 4 + 3, none⟩ = some (.int .i64 s.val)) := by
        rcases HS.out with h | ⟨b, o, h1, h2, _⟩
        · rw [h] at hsi; simp at hsi
        · refine ⟨b, o, h1, h2, fun W hW => ?_⟩
          rcases HS.out.kept hW with h | ⟨b', o', h1', h2', h3'⟩
          · rw [h] at hsi; simp at hsi
          · rw [h1] at h1'; cases h1'; exact h3' i s hsi
      obtain ⟨s0, s1, s2, s3⟩ := hcell wr hBW
      have hst := mstep_any hL (by omega) (by omega) s.dd s.oth s.key s.val
      have HST := Lib.hid hst
      have HC := Lib.hid hcell
      have HK := Lib.hid hK
      have HL := Lib.hid hL
      have HBW := Lib.hid hBW
      have HKS := Lib.hid hks
      have HYL := Lib.hid hyl
      have HSI := Lib.hid hsi
      clear hst hcell hK hL hBW hks hyl hsi
      go_wp2_with fail
      refine (HST.out).mono ?_
      rintro e w3 ⟨rfl, ya3, ys3, oa3, os3, kv3, vv3, T3, ks3, vs3, hL3, hK3, hks3, hlf3, hyl3⟩
      have hleft := left_calls hL3.tab (fun o ho => (hL3.inv.olds o ho).2.2.2.2.1)
      have HL3 := Lib.hid hL3
      have HK3 := Lib.hid hK3
      have HLEFT := Lib.hid hleft
      have HX := Lib.hid (And.intro hks3 (And.intro hlf3 hyl3))
      clear hL3 hK3 hleft hks3 hlf3 hyl3 s0 s1 s2 s3 x4
      go_wp2_with fail
      refine (HLEFT.out).mono ?_
      rintro e w4 ⟨rfl, n4, hw4⟩
      have k4 : Keeps [] w3 w4 := by rw [hw4]; exact (Keeps.refl _ _).drewN n4
      clear hw4
      have hL4 := HL3.out.keeps0 k4
      have hlen := len_calls hL4.tab
      have hcap := fun k => cap_calls (hL4.tab.drewN k)
      have hcap0 := cap_calls hL4.tab
      have hpr := probes_calls hL4.tab hL4.hh hL4.inv.a s.key
      have hle := len_le _ hL4.inv
      have hpb := looked_bounds _ hL4.inv.a s.key
      have hol := old_le _ hL4.inv
      have hx := HX.out
      have hyl := HYL.out
      have hks := HKS.out
      have x4 := ((HK.out.trans HK3.out).trans (Kept.of k4 (by simp)))
      have HK4 := Lib.hid x4
      have HL4 := Lib.hid hL4
      have hBW4 := HB0.out.trans (x4.below (by have := HZ0.out; omega))
      obtain ⟨s0, s1, s2, s3⟩ := HC.out w4 hBW4
      have x4 := (x4.blk HX1.out (by simp)).cell 4
      simp only [List.getElem?_cons_zero, List.getElem?_cons_succ] at x4
      have elf : leftM T3 = leftT T3 := by unfold leftM leftT; cases T3.old <;> rfl
      rw [elf]
      clear elf hBW4 hL4
      have hyl4 : T3.young.length ≤ 4 * (i + 1) + 8 := by obtain ⟨_, _, q⟩ := hx; rcases q with q | q <;> omega
      have hks4 : ks3.length ≤ i + 1 := by obtain ⟨q, _⟩ := hx; omega
      have hlf := hx.2.1
      have HY4 := Lib.hid hyl4
      have HKS4 := Lib.hid hks4
      have HLO := Lib.hid (show leftT T3 ≤ T3.young.length by unfold leftT; cases ho : T3.old with | none => simp | some o => simp only; rw [ho] at hol; simp at hol; omega)
      generalize hg1 : leftT T3 = ln at *
      generalize hg2 : lenM T3 = le at *
      generalize hg3 : T3.young.length = cp at *
      generalize hg4 : (seekM (LI (hashI t0 m0)) T3 s.key).2.2 = pr at *
      generalize hg5 : leftT T = lo at *
      have HG1 := Lib.hid hg1
      have HG3 := Lib.hid hg3
      have HLEN := Lib.hid hlen
      have HCAP := Lib.hid hcap
      have HCAP0 := Lib.hid hcap0
      have HPR := Lib.hid hpr
      have hlo := HLO.out
      clear hg1 hg2 hg3 hg4 hg5 hx hlen hcap hcap0 hpr s0 s1 s3
      by_cases h8 : 8 < lo
      · have hq := hlf h8
        clear hlf hks4 hks hyl
        go_wp2_with (first | (go_at_call 29; refine (HLEN.out).mono ?_; rintro e w4 ⟨rfl, rfl⟩) | (go_at_call 30; refine (HCAP0.out).mono ?_; rintro e w4 ⟨rfl, rfl⟩))
        refine (HPR.out).mono ?_
        rintro e w5 ⟨rfl, n5, rfl⟩
        go_wp2_with ((go_at_call 30; refine (HCAP.out _).mono ?_; rintro e w5 ⟨rfl, rfl⟩))
        go_roundw
        case rel => exact ⟨i + 1, _, _, _, _, _, _, T3, ks3, vs3, by omega, by go_num, by rw [HG1.out], HL4.out.keeps0 ((Keeps.refl _ _).drewN _), HK4.out.trans (Kept.of (F := []) ((Keeps.refl _ _).drewN n5) (by simp)), HKS4.out, by rw [HG3.out]; exact HY4.out⟩
        case measure => simp [intOf]; omega
      · clear hlf hks4 hks hyl
        go_wp2_with (first | (go_at_call 29; refine (HLEN.out).mono ?_; rintro e w4 ⟨rfl, rfl⟩) | (go_at_call 30; refine (HCAP0.out).mono ?_; rintro e w4 ⟨rfl, rfl⟩))
        · refine (HPR.out).mono ?_
          rintro e w5 ⟨rfl, n5, rfl⟩
          go_wp2_with ((go_at_call 30; refine (HCAP.out _).mono ?_; rintro e w5 ⟨rfl, rfl⟩))
          go_roundw
          case rel => exact ⟨i + 1, _, _, _, _, _, _, T3, ks3, vs3, by omega, by go_num, by rw [HG1.out], HL4.out.keeps0 ((Keeps.refl _ _).drewN _), HK4.out.trans (Kept.of (F := []) ((Keeps.refl _ _).drewN n5) (by simp)), HKS4.out, by rw [HG3.out]; exact HY4.out⟩
          case measure => simp [intOf]; omega
        · refine (HPR.out).mono ?_
          rintro e w5 ⟨rfl, n5, rfl⟩
          go_wp2_with ((go_at_call 30; refine (HCAP.out _).mono ?_; rintro e w5 ⟨rfl, rfl⟩))
          go_roundw
          case rel => exact ⟨i + 1, _, _, _, _, _, _, T3, ks3, vs3, by omega, by go_num, by rw [HG1.out], HL4.out.keeps0 ((Keeps.refl _ _).drewN _), HK4.out.trans (Kept.of (F := []) ((Keeps.refl _ _).drewN n5) (by simp)), HKS4.out, by rw [HG3.out]; exact HY4.out⟩
          case measure => simp [intOf]; omega
    · obtain rfl : i = n := by omega
      have hst := mstep_any hL (by omega) (by omega) 0 false 1 2
      have HST := Lib.hid hst
      have HK := Lib.hid hK
      have HKS := Lib.hid hks
      clear hst hK hL hBW hks hyl
      go_wp2_with fail
      refine (HST.out).mono ?_
      rintro e w3 ⟨rfl, ya3, ys3, oa3, os3, kv3, vv3, T3, ks3, vs3, hL3, hK3, hks3, _, _⟩
      have hks4 : ks3.length ≤ i + 1 := by have := HKS.out; omega
      have hpl : T3.pairs.length = ks3.length := len_rel _ hL3.rel
      have hpa := pairs_at hL3.tab (by omega)
      have HL3 := Lib.hid hL3
      have HK3 := Lib.hid hK3
      have HPA := Lib.hid hpa
      clear hL3 hK3 hpa hks3 x4
      go_wp2_with fail
      refine (HPA.out).mono ?_
      rintro e w4 ⟨lv, rfl, hrl, k4, hfl⟩
      have hL4 := HL3.out.keeps0 k4
      have hll := flatP_len T3.pairs
      obtain ⟨la, lc, hlv, _, _, _⟩ := hrl.form
      rw [hll, hpl] at hlv
      have q0 := hL4.mod.bk.cell 0
      simp only [List.getElem?_cons_zero, List.getElem?_cons_succ] at q0
      obtain ⟨ak, ck, hkv, _, _, _⟩ := hL4.mod.ko.form
      rw [hkv] at q0
      have HLV := Lib.hid hlv
      have HRL := Lib.hid hrl
      have HFL := Lib.hid hfl
      have HL4 := Lib.hid hL4
      have HK4 := Lib.hid ((HK.out.trans HK3.out).trans (Kept.of k4 (by simp)))
      have HPL := Lib.hid hpl
      rw [hlv]
      clear hlv hrl hfl hL4 hkv hll hpl k4
      go_wp2_with fail
      go_loopw [11] (fun iv wr => ∃ (i j : Nat) (rest : List (Int × Int)) (kv vv : Value) (ks vs : List Int), i = 2 * j ∧ iv = .int .i64 i ∧ T3.pairs.drop j = rest ∧ j ≤ ks3.length ∧ MAt wr bm kv vv ks vs ∧ Left (hashI t0 m0) rest ks vs ∧ ks.length ≤ ks3.length ∧
        RepI wr lv (flatP T3.pairs) ∧ (∀ b ∈ fp lv, b ∉ mfp bm kv vv) ∧ (∀ b ∈ mfp bm kv vv, w.heap.size ≤ b) ∧ Below w.heap.size w wr) (fun iv _ => 2 * ks3.length - (intOf iv).toNat)
      case atStart =>
        refine ⟨0, 0, _, _, _, _, _, rfl, rfl, rfl, by omega, HL4.out.mod, Left.start HL4.out.inv HL4.out.rel, by omega, HRL.out, fun b hb q => ?_, fun b hb => (HL4.out.f2 b hb).1, HB0.out.trans (HK4.out.below (by have := HZ0.out; omega))⟩
        have h1 := HFL.out b hb
        have h2 := HL3.out.mod.lt b q
        omega
      case round =>
        obtain ⟨i, j, rest, kv, vv, ks, vs, hij, rfl, hrest, hj, hM, hLf, hkl, hR, hd1, hd2, hBw⟩ := hrel
        by_cases hlt : j < ks3.length
        · obtain ⟨⟨k, v⟩, hkvp⟩ : ∃ p, T3.pairs[j]? = some p := ⟨_, List.getElem?_eq_getElem (by rw [HPL.out]; exact hlt)⟩
          have hcons : rest = (k, v) :: T3.pairs.drop (j + 1) := by
            obtain ⟨q1, q2⟩ := List.getElem?_eq_some_iff.1 hkvp
            rw [← hrest, List.drop_eq_getElem_cons q1, q2]
          rw [hcons] at hLf
          obtain ⟨jj, hjj, hjl, hvj, hLf'⟩ := hLf.step
          have hat := at_calls hM k
          rw [hjj] at hat
          have hout := fun q : Nat => out_calls (hM.keeps (F := []) ((Keeps.refl [] wr).drewN q) (by simp)) jj (by omega)
          obtain ⟨hf0, hf1⟩ := flatP_get _ _ _ hkvp
          rw [← hij] at hf0 hf1
          obtain ⟨g, lcap, hlv2, hg, _⟩ := hR.ex (by rw [flatP_len, HPL.out]; omega)
          have hla : la = some ⟨g, 0, none⟩ := by
            have := HLV.out.symm.trans hlv2
            simp only [Value.slice.injEq] at this
            exact this.1
          subst hla
          have hR' := hR
          rw [HLV.out] at hR'
          have c0 : wr.cell? ⟨g, i, none⟩ = some (.int .i64 k) := hR'.cell1 (fun _ => rfl) i k hf0
          have c1 : wr.cell? ⟨g, i + 1, none⟩ = some (.int .i64 v) := hR'.cell1 (fun _ => rfl) (i + 1) v hf1
          obtain ⟨gv, cv, hvv, _, _⟩ := hM.vo.ex (by rw [← hM.ln]; omega)
          have q1 := hM.bk.cell 1
          simp only [List.getElem?_cons_zero, List.getElem?_cons_succ] at q1
          rw [hvv, ← hM.ln] at q1
          have hvr := hM.vo
          rw [hvv] at hvr
          have cu := hvr.cell1 (fun _ => rfl) jj v hvj
          have HAT := Lib.hid hat
          have HOUT := Lib.hid hout
          have HM := Lib.hid hM
          have HR := Lib.hid hR
          have HLF := Lib.hid hLf'
          have HD1 := Lib.hid hd1
          have HD2 := Lib.hid hd2
          have HBw := Lib.hid hBw
          have HE := Lib.hid hij
          have hi2 : i + 1 < 2 * ks3.length := by omega
          clear hat hout hM hR hR' hLf hLf' hd1 hd2 hBw hlv2 hvv hvr hvj hf0 hf1 hkvp hcons hjj hrest hij
          have hnn : decide ((jj : Int) < 0) = false := by simp
          go_wp2_with (go_at_call 33; refine (HAT.out).mono ?_; rintro e wr ⟨rfl, rfl⟩)
          go_quiet (fail)
          go_wp2_with (go_at_call 34; fail)
          refine (HOUT.out nq).mono ?_
          rintro e w6 ⟨rfl, kv6, vv6, hM6, hF6, k6⟩
          have HM6 := Lib.hid hM6
          have HF6 := Lib.hid hF6
          have HK6 := Lib.hid k6
          clear hM6 hF6 k6 c0 c1 q1 cu
          go_wp2_with fail
          go_roundw
          case rel =>
            have hbm : bm ∈ mfp bm kv vv := by simp [mfp]
            refine ⟨i + 2, j + 1, _, kv6, vv6, _, _, by have := HE.out; omega, by go_num, rfl, by omega, HM6.out, HLF.out, ?_, ?_, ?_, ?_, ?_⟩
            · rw [List.length_eraseIdx]; split <;> omega
            · exact (HR.out.keeps (F := []) ((Keeps.refl [] wr).drewN nq) (by simp)).keeps HK6.out (fun b hb q => by simp only [List.mem_cons, List.not_mem_nil, or_false] at q; subst q; exact HD1.out _ hb hbm)
            · intro b hb q
              rcases HF6.out b q with q | q
              · exact HD1.out b hb q
              · have := HR.out.fp_lt b hb
                have e : (wr.drewN nq).heap.size = wr.heap.size := rfl
                omega
            · intro b q
              rcases HF6.out b q with q | q
              · exact HD2.out b q
              · have := HBw.out.size
                have e : (wr.drewN nq).heap.size = wr.heap.size := rfl
                omega
            · exact (HBw.out.trans (Keeps.below (F := []) ((Keeps.refl [] wr).drewN nq) HBw.out.size (by simp))).trans (HK6.out.below HBw.out.size (fun x hx => by simp only [List.mem_cons, List.not_mem_nil, or_false] at hx; subst hx; exact HD2.out _ hbm))
          case measure => simp [intOf]; omega
        · obtain rfl : j = ks3.length := by omega
          have hnil : rest = [] := by rw [← hrest]; exact List.drop_eq_nil_of_le (by rw [HPL.out]; omega)
          rw [hnil] at hLf
          have hke := hLf.done
          subst hke
          have q0 := hM.bk.cell 0
          simp only [List.getElem?_cons_zero, List.getElem?_cons_succ] at q0
          obtain ⟨ak, ck, hkv, _, _, _⟩ := hM.ko.form
          rw [hkv] at q0
          clear hkv
          go_wp2_with fail
          go_ret
          exact ⟨rfl, hBw⟩
end Go.Proofs.Ytaomaeobgfeoiaa.X
