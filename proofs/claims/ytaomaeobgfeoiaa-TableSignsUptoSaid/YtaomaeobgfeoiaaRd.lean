/- TableSigns: the document's Len and Del. -/
import Derived.Test.YtaomaeobgfeoiaaRc
import Derived.Test.YtaomaeobgfeoiaaGi
import Derived.Deep.QuietTactic
import Derived.BigQuiet
namespace Go.Proofs.Ytaomaeobgfeoiaa.R
open Go.RowKit Pl

theorem count_full {w : World} {b : Nat} {sl : List (Sl FD Int)} (hs : Blk w b (sl.flatMap encR) 101) (hn2 : sl.length ≤ 1099511627776) :
    Calls Try.prog 57 #[.slice (some ⟨b, 0, none⟩) sl.length sl.length, .int .i64 1] w fun e w' => e = .returned (.int .i64 (usedN sl)) ∧ w' = w := by
  have := count_calls hs hn2 1
  rw [← usedN_count] at this
  exact this
theorem count_tomb {w : World} {b : Nat} {sl : List (Sl FD Int)} (hs : Blk w b (sl.flatMap encR) 101) (hn2 : sl.length ≤ 1099511627776) :
    Calls Try.prog 57 #[.slice (some ⟨b, 0, none⟩) sl.length sl.length, .int .i64 2] w fun e w' => e = .returned (.int .i64 (tombN sl)) ∧ w' = w := count_calls hs hn2 2

theorem len_calls {w : World} {bm yb ob : Nat} {T : Tab FD Int} (h : RefAt w bm yb ob T) (hy : T.young.length ≤ 1099511627776) (ho : (T.old.getD []).length ≤ 1099511627776) :
    Calls Try.prog 58 #[.pointer (some ⟨bm, 0, none⟩)] w fun e w' => e = .returned (.int .i64 (lenM T)) ∧ ∃ n, w' = w.drewN n := by
  have c2 : w.cell? ⟨bm, 2, none⟩ = some (.slice (some ⟨yb, 0, none⟩) T.young.length T.young.length) := h.bk.cell 2
  have c3 : w.cell? ⟨bm, 3, none⟩ = some (oldV ob T.old) := h.bk.cell 3
  have hq1 := fun n => count_full (h.yo.drewN n) hy
  have hu1 := usedN_le T.young
  have hu2 := usedN_le (T.old.getD [])
  rw [G.len_eq]
  have HQ1 := Lib.hid hq1
  clear hq1
  cases hO : T.old with
  | none =>
    rw [hO] at c3
    simp only [oldV] at c3
    have HQ2 := Lib.hid (count_nil 1)
    rw [hO] at hu2 ho
    have e : usedN (([] : List (Sl FD Int))) = 0 := rfl
    simp only [Option.getD_none, e]
    generalize usedN T.young = u at *
    clear hu2 ho
    go_enter Try.func58, Try.ntmps58
    go_wp2
    go_quiet (first | (go_at_call 57; with_reducible exact Calls.quiet_of_same (HQ1.out _)) | (go_at_call 57; with_reducible exact Calls.quiet_of_same (HQ2.out _)))
    go_wp2
    go_ret
    exact ⟨rfl, nq, rfl⟩
  | some o =>
    rw [hO] at c3
    simp only [oldV] at c3
    rw [hO] at hu2 ho
    simp only [Option.getD_some] at hu2 ho ⊢
    have hq2 := fun n => count_full ((h.ol o hO).drewN n) ho
    have HQ2 := Lib.hid hq2
    clear hq2
    generalize usedN T.young = u at *
    generalize usedN o = u2 at *
    go_enter Try.func58, Try.ntmps58
    go_wp2
    go_quiet (first | (go_at_call 57; with_reducible exact Calls.quiet_of_same (HQ1.out _)) | (go_at_call 57; with_reducible exact Calls.quiet_of_same (HQ2.out _)))
    go_wp2
    go_ret
    exact ⟨rfl, nq, rfl⟩

theorem hit_young {T : Tab FD Int} {k : FD} {p : Nat} {s : Sl FD Int} (hh : Hit LD T k true p s) : (findK LD T.young k).1 = p := by
  have h1 := hh.p_
  have h2 := hh.b_
  unfold seekM at h1 h2
  split at h1
  · exact h1
  · rename_i q
    rw [if_neg q] at h2
    split at h1
    · exact h1
    · rename_i o ho
      rw [ho] at h2
      cases h2
theorem hit_old {T : Tab FD Int} {k : FD} {p : Nat} {s : Sl FD Int} {o : List (Sl FD Int)} (hh : Hit LD T k false p s) (ho : T.old = some o) : (findK LD T.young k).1 = -1 ∧ (findK LD o k).1 = p := by
  obtain ⟨o', ho', _, h4⟩ := hh.old rfl
  rw [ho] at ho'; cases ho'
  have h1 := hh.p_
  unfold seekM at h1
  rw [if_neg (by omega), ho] at h1
  exact ⟨h4, h1⟩
theorem miss_old {T : Tab FD Int} {k : FD} {o : List (Sl FD Int)} (h1 : (seekM LD T k).2.1 = -1) (h4 : (findK LD T.young k).1 = -1) (ho : T.old = some o) : (findK LD o k).1 = -1 := by
  unfold seekM at h1
  rw [if_neg (by omega), ho] at h1
  exact h1

theorem InvS.ypos {T : Tab FD Int} (h : InvS LD T) : 0 < T.young.length := by
  obtain ⟨e, _, h2⟩ := h.ylen
  rw [h2]; exact Nat.pow_pos (by decide)
theorem InvS.opos {T : Tab FD Int} (h : InvS LD T) {o : List (Sl FD Int)} (ho : T.old = some o) : 0 < o.length ∧ o.length ≤ T.young.length ∧ ArrOk LD o := by
  obtain ⟨⟨e, _, h2⟩, h3, h4, _⟩ := h.olds o ho
  exact ⟨by rw [h2]; exact Nat.pow_pos (by decide), h3, h4⟩

set_option maxRecDepth 100000 in
set_option maxHeartbeats 3200000 in
theorem del_calls {w : World} {bm yb ob : Nat} {T : Tab FD Int} (h : RefAt w bm yb ob T) (hi : Inv LD T) (hy : T.young.length ≤ 1099511627776) (k : FD) :
    Calls Try.prog 13 #[.pointer (some ⟨bm, 0, none⟩), .int .i64 (keyD k : Nat)] w fun e w' =>
      e = .returned (.tuple #[.int .i64 (delM LD 0 0 T k).2.1, .bool (delM LD 0 0 T k).2.2]) ∧
      ∃ ob', RefAt w' bm yb ob' (delM LD 0 0 T k).1 ∧ (ob' = ob ∨ ob' = yb) ∧ Keeps [bm, yb, ob] w w' := by
  have hst := step_calls h hi hy
  obtain ⟨hi1, hp1, hl1, hl2⟩ := step_spec LD 0 0 hi
  unfold delM
  rw [← hl1] at hy
  generalize stepM LD 0 0 T = T1 at *
  have HST := Lib.hid hst
  have HI := Lib.hid hi1
  clear hst hi1 hp1 hl1 hl2
  go_enter Try.func13, Try.ntmps13
  go_wp2_with fail
  refine (HST.out).mono ?_
  rintro e w1 ⟨rfl, ob1, h1, hoo, hk1⟩
  have hi1 := HI.out
  have ha1 := hi1.a
  have hypos := InvS.ypos hi1
  have hf := find_calls h1.bk h1.yo ha1.yok.st hypos hy k
  have c2 : w1.cell? ⟨bm, 2, none⟩ = some (.slice (some ⟨yb, 0, none⟩) T1.young.length T1.young.length) := h1.bk.cell 2
  have HOO := Lib.hid hoo
  have HK1 := Lib.hid hk1
  have HR1 := Lib.hid h1
  clear hoo hk1 h
  rcases seek_spec LD ha1 k with ⟨b, p, s, hh⟩ | ⟨hm1, hm2, hm3, hm4⟩
  · cases b with
    | true =>
      rw [hit_young hh] at hf
      have hpe := G.delS_hit hh
      have hat := hh.at_
      rw [arr_true] at hat
      have hpl : p < T1.young.length := (List.getElem?_eq_some_iff.1 hat).1
      generalize (findK LD T1.young k).2.2 = r3 at *
      have HF := Lib.hid hf
      have HPE := Lib.hid hpe
      have HAT := Lib.hid hat
      clear hf hpe hat hh h1 ha1
      go_wp2_with fail
      refine (HF.out).mono ?_
      rintro e w2 ⟨rfl, k2⟩
      have h2 := HR1.out.keeps k2 (by simp)
      obtain ⟨s0, s1, s2, s3⟩ := rcell h2.yo HAT.out
      have f0 := h2.yo.frozen (p * 4)
      have f1 := h2.yo.frozen (p * 4 + 1)
      have f2 := h2.yo.frozen (p * 4 + 2)
      have f3 := h2.yo.frozen (p * 4 + 3)
      clear c2
      have c2 : w2.cell? ⟨bm, 2, none⟩ = some (.slice (some ⟨yb, 0, none⟩) T1.young.length T1.young.length) := h2.bk.cell 2
      have hd1 := h2.d1
      have H2 := Lib.hid h2
      have HK2 := Lib.hid k2
      clear h2 k2
      go_wp2_with fail
      go_ret2
      rw [HPE.out]
      refine ⟨rfl, ob1, H2.out.buriedY HAT.out, HOO.out, ?_⟩
      exact (HK1.out.trans HK2.out (by simp)).trans (buried_keeps w2 yb p) (by simp)
    | false =>
      obtain ⟨o, ho, _, _⟩ := hh.old rfl
      obtain ⟨hy1, hp1⟩ := hit_old hh ho
      obtain ⟨o1, o2, o3⟩ := InvS.opos hi1 ho
      rw [hy1] at hf
      have hpe := G.delS_hit hh
      have hat := hh.at_
      rw [arr_false ho] at hat
      have hpl : p < o.length := (List.getElem?_eq_some_iff.1 hat).1
      have hol : o.length ≤ 1099511627776 := by omega
      have hf2 := fun (W : World) (k' : Keeps [] w1 W) => find_calls (h1.keeps k' (by simp)).bk (k'.blk (h1.ol o ho) (by simp)) o3.st o1 hol k
      rw [hp1] at hf2
      generalize (findK LD T1.young k).2.2 = r3 at *
      generalize (findK LD o k).2.2 = r4 at *
      have hcc : ∀ W, Keeps [] w1 W → W.cell? ⟨bm, 3, none⟩ = some (.slice (some ⟨ob1, 0, none⟩) o.length o.length) ∧ W.cell? ⟨bm, 4, none⟩ = some (.bool true) := by
        intro W k'
        have c3 := (h1.keeps k' (by simp)).bk.cell 3
        have c4 := (h1.keeps k' (by simp)).bk.cell 4
        rw [ho] at c3 c4
        exact ⟨c3, c4⟩
      have HCC := Lib.hid hcc
      have HF := Lib.hid hf
      have HF2 := Lib.hid hf2
      have HPE := Lib.hid hpe
      have HAT := Lib.hid hat
      have HO := Lib.hid ho
      clear hf hf2 hpe hat hh h1 ha1 hcc ho o3
      go_wp2_with fail
      refine (HF.out).mono ?_
      rintro e w2 ⟨rfl, k2⟩
      clear c2
      obtain ⟨c3, c4⟩ := HCC.out w2 k2
      have HK2 := Lib.hid k2
      clear k2
      go_wp2_with fail
      refine (HF2.out w2 HK2.out).mono ?_
      rintro e w3 ⟨rfl, k3⟩
      have k13 : Keeps [] w1 w3 := HK2.out.trans k3 (by simp)
      clear c3 c4 k3
      obtain ⟨c3, c4⟩ := HCC.out w3 k13
      have h3 := HR1.out.keeps k13 (by simp)
      obtain ⟨s0, s1, s2, s3⟩ := rcell (h3.ol o HO.out) HAT.out
      have f0 := (h3.ol o HO.out).frozen (p * 4)
      have f1 := (h3.ol o HO.out).frozen (p * 4 + 1)
      have f2 := (h3.ol o HO.out).frozen (p * 4 + 2)
      have f3 := (h3.ol o HO.out).frozen (p * 4 + 3)
      obtain ⟨hd2, hd3⟩ := h3.d2 o HO.out
      have H3 := Lib.hid h3
      have HK13 := Lib.hid k13
      clear h3 k13
      go_wp2_with fail
      go_ret2
      rw [HPE.out]
      have e : T1.setArr false (buryM 0 0 (T1.arr false) p) = ⟨T1.young, some (buryM 0 0 o p), T1.mark⟩ := by unfold Tab.setArr; rw [arr_false HO.out]; rfl
      rw [e]
      have h3' : RefAt w3 bm yb ob1 ⟨T1.young, some o, T1.mark⟩ := by have := H3.out; rwa [show T1 = ⟨T1.young, some o, T1.mark⟩ from by rw [← HO.out]] at this
      refine ⟨rfl, ob1, h3'.buriedO HAT.out, HOO.out, ?_⟩
      refine (HK1.out.trans HK13.out (by simp)).trans (buried_keeps w3 ob1 p) ?_
      intro x hx _
      have := HOO.out
      simp only [List.mem_cons, List.not_mem_nil, or_false] at hx ⊢
      omega
  · rw [hm4] at hf
    have hpe := G.delS_miss hm1
    generalize (findK LD T1.young k).2.2 = r3 at *
    cases ho : T1.old with
    | none =>
      have HCC := Lib.hid (fun (W : World) (k' : Keeps [] w1 W) => (show W.cell? ⟨bm, 4, none⟩ = some (.bool false) from by have := (h1.keeps k' (by simp)).bk.cell 4; rw [ho] at this; exact this))
      have HF := Lib.hid hf
      have HPE := Lib.hid hpe
      clear hf hpe h1 ha1 ho hm1 hm2 hm3 hm4
      go_wp2_with fail
      refine (HF.out).mono ?_
      rintro e w2 ⟨rfl, k2⟩
      clear c2
      have c4 := HCC.out w2 k2
      have HK2 := Lib.hid k2
      clear k2
      go_wp2_with fail
      go_ret2
      rw [HPE.out]
      exact ⟨rfl, ob1, HR1.out.keeps HK2.out (by simp), HOO.out, HK1.out.trans HK2.out (by simp)⟩
    | some o =>
      have hp1 := miss_old hm1 hm4 ho
      obtain ⟨o1, o2, o3⟩ := InvS.opos hi1 ho
      have hol : o.length ≤ 1099511627776 := by omega
      have hf2 := fun (W : World) (k' : Keeps [] w1 W) => find_calls (h1.keeps k' (by simp)).bk (k'.blk (h1.ol o ho) (by simp)) o3.st o1 hol k
      rw [hp1] at hf2
      generalize (findK LD o k).2.2 = r4 at *
      have hcc : ∀ W, Keeps [] w1 W → W.cell? ⟨bm, 3, none⟩ = some (.slice (some ⟨ob1, 0, none⟩) o.length o.length) ∧ W.cell? ⟨bm, 4, none⟩ = some (.bool true) := by
        intro W k'
        have c3 := (h1.keeps k' (by simp)).bk.cell 3
        have c4 := (h1.keeps k' (by simp)).bk.cell 4
        rw [ho] at c3 c4
        exact ⟨c3, c4⟩
      have HCC := Lib.hid hcc
      have HF := Lib.hid hf
      have HF2 := Lib.hid hf2
      have HPE := Lib.hid hpe
      clear hf hf2 hpe h1 ha1 hcc ho o3 hm1 hm2 hm3 hm4
      go_wp2_with fail
      refine (HF.out).mono ?_
      rintro e w2 ⟨rfl, k2⟩
      clear c2
      obtain ⟨c3, c4⟩ := HCC.out w2 k2
      have HK2 := Lib.hid k2
      clear k2
      go_wp2_with fail
      refine (HF2.out w2 HK2.out).mono ?_
      rintro e w3 ⟨rfl, k3⟩
      have HK13 := Lib.hid (HK2.out.trans k3 (by simp))
      clear c3 c4 k3
      go_wp2_with fail
      go_ret2
      rw [HPE.out]
      exact ⟨rfl, ob1, HR1.out.keeps HK13.out (by simp), HOO.out, HK1.out.trans HK13.out (by simp)⟩
end Go.Proofs.Ytaomaeobgfeoiaa.R
