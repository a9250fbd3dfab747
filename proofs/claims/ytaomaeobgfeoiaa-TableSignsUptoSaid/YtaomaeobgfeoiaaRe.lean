/- TableSigns: the document's PutAs and Put. -/
import Derived.Test.YtaomaeobgfeoiaaRd
namespace Go.Proofs.Ytaomaeobgfeoiaa.R
open Go.RowKit Pl

theorem info101 : (Try.prog.info? 101).map (fun i => (i.zero, i.size, i.bytes)) = some (some (.agg #[.int .i64 0, .int .i64 0, .int .i64 0, .int .i64 0]), 4, 32) := by kernel_rfl

theorem RefAt.valued {w : World} {bm yb ob p : Nat} {T : Tab FD Int} {s : Sl FD Int} (h : RefAt w bm yb ob T) (hs : T.young[p]? = some s) (v : Int) :
    RefAt (w.setCell ⟨yb, p * 4 + 3, none⟩ (.int .i64 v)) bm yb ob { T with young := T.young.set p ⟨s.st, s.key, v⟩ } ∧ Keeps [yb] w (w.setCell ⟨yb, p * 4 + 3, none⟩ (.int .i64 v)) := by
  have k : Keeps [yb] w (w.setCell ⟨yb, p * 4 + 3, none⟩ (.int .i64 v)) := Keeps.setCell (Keeps.refl _ _) _ _ (by simp)
  refine ⟨⟨?_, ?_, fun o e => k.blk (h.ol o e) (by have := (h.d2 o e).2; simpa using this.symm), h.d1, h.d2, h.d3⟩, k⟩
  · have := k.blk h.bk (by simpa using h.d1)
    simp only [List.length_set]
    exact this
  · have := h.yo.set (p * 4 + 3) (.int .i64 v)
    rw [flat_set encR 4 (fun _ => rfl) T.young p 3 s ⟨s.st, s.key, v⟩ _ hs (by omega) rfl] at this
    exact this

/-- Behind the making of a younger array. -/
abbrev grownW (w : World) (bm yb l n : Nat) : World :=
  ((((w.setCell ⟨bm, 3, none⟩ (.slice (some ⟨yb, 0, none⟩) l l)).setCell ⟨bm, 4, none⟩ (.bool true)).setCell ⟨bm, 5, none⟩ (.int .i64 0)).setCell ⟨bm, 2, none⟩ (.slice (some ⟨w.heap.size, 0, none⟩) n n)).alloc (.cells ((List.replicate n (⟨0, 0, 0⟩ : Sl FD Int)).flatMap encR).toArray 101)
theorem RefAt.grown {w : World} {bm yb ob : Nat} {T : Tab FD Int} (h : RefAt w bm yb ob T) (n : Nat) :
    RefAt (grownW w bm yb T.young.length n) bm w.heap.size yb ⟨List.replicate n ⟨0, 0, 0⟩, some T.young, 0⟩ ∧ Keeps [bm] w (grownW w bm yb T.young.length n) := by
  have l1 := h.bk.lt
  have l2 := h.yo.lt
  have k : Keeps [bm] w (grownW w bm yb T.young.length n) := (Keeps.setCell (Keeps.setCell (Keeps.setCell (Keeps.setCell (Keeps.refl _ _) _ _ (by simp)) _ _ (by simp)) _ _ (by simp)) _ _ (by simp)).alloc _
  refine ⟨⟨?_, ?_, fun o e => ?_, by omega, fun o e => ⟨h.d1, by omega⟩, fun e => (by cases e)⟩, k⟩
  · have := ((((h.bk.set 3 (.slice (some ⟨yb, 0, none⟩) T.young.length T.young.length)).set 4 (.bool true)).set 5 (.int .i64 0)).set 2 (.slice (some ⟨w.heap.size, 0, none⟩) n n)).alloc (.cells ((List.replicate n (⟨0, 0, 0⟩ : Sl FD Int)).flatMap encR).toArray 101)
    rw [List.length_replicate]
    exact this
  · have hn := Blk.new ((((w.setCell ⟨bm, 3, none⟩ (.slice (some ⟨yb, 0, none⟩) T.young.length T.young.length)).setCell ⟨bm, 4, none⟩ (.bool true)).setCell ⟨bm, 5, none⟩ (.int .i64 0)).setCell ⟨bm, 2, none⟩ (.slice (some ⟨w.heap.size, 0, none⟩) n n)) ((List.replicate n (⟨0, 0, 0⟩ : Sl FD Int)).flatMap encR) 101
    rw [World.size_setCell, World.size_setCell, World.size_setCell, World.size_setCell] at hn
    exact hn
  · cases e; exact k.blk h.yo (by simpa using h.d1.symm)

set_option maxRecDepth 100000 in
set_option maxHeartbeats 3200000 in
theorem put_calls {w : World} {bm yb ob : Nat} {T : Tab FD Int} (h : RefAt w bm yb ob T) (hi : Inv LD T) (hsz : ∃ e, e ≤ 38 ∧ T.young.length = 2 ^ e) (k : FD) (v : Int) :
    Calls Try.prog 15 #[.pointer (some ⟨bm, 0, none⟩), .int .i64 (keyD k : Nat), .int .i64 (tagD k : Nat), .int .i64 v] w fun e w' =>
      e = .returned (.tuple #[.int .i64 (putM LD 0 0 T k v).2.1, .bool (putM LD 0 0 T k v).2.2]) ∧
      ∃ yb' ob', RefAt w' bm yb' ob' (putM LD 0 0 T k v).1 ∧ G.FreshOr [bm, yb, ob] w [bm, yb', ob'] ∧ Keeps [bm, yb, ob] w w' := by
  have hy38 : T.young.length ≤ 274877906944 := by
    obtain ⟨e, he, hl⟩ := hsz
    have : 2 ^ e ≤ 2 ^ 38 := Nat.pow_le_pow_right (by decide) he
    omega
  have hst := step_calls h hi (by omega)
  obtain ⟨hi1, hp1, hl1, hl2⟩ := step_spec LD 0 0 hi
  unfold putM
  rw [← hl1] at hy38 hsz
  generalize stepM LD 0 0 T = T1 at *
  have HST := Lib.hid hst
  have HI := Lib.hid hi1
  have HSZ := Lib.hid hsz
  clear hst hi1 hp1 hl1 hl2 hsz
  go_enter Try.func15, Try.ntmps15
  go_wp2_with fail
  refine (HST.out).mono ?_
  rintro e w1 ⟨rfl, ob1, h1, hoo, hk1⟩
  have hi1 := HI.out
  have ha1 := hi1.a
  have hypos := InvS.ypos hi1
  have hf := find_calls h1.bk h1.yo ha1.yok.st hypos (by omega) k
  have c2 : w1.cell? ⟨bm, 2, none⟩ = some (.slice (some ⟨yb, 0, none⟩) T1.young.length T1.young.length) := h1.bk.cell 2
  have HOO := Lib.hid hoo
  have HK1 := Lib.hid hk1
  have HR1 := Lib.hid h1
  clear hoo hk1 h
  rcases seek_spec LD ha1 k with ⟨b, p, s, hh⟩ | ⟨hm1, hm2, hm3, hm4⟩
  · cases b with
    | true =>
      rw [hit_young hh] at hf
      have hpe := G.putS_hit_young (v := v) hh
      have hat := hh.at_
      rw [arr_true] at hat
      have hpl : p < T1.young.length := (List.getElem?_eq_some_iff.1 hat).1
      generalize (findK LD T1.young k).2.2 = r3 at *
      have HF := Lib.hid hf
      have HPE := Lib.hid hpe
      have HAT := Lib.hid hat
      clear hf hpe hat hh h1 ha1
      go_wp2_with fail
      refine (HF.out).mono ?_
      rintro e w2 ⟨rfl, k2⟩
      have h2 := HR1.out.keeps k2 (by simp)
      obtain ⟨s0, s1, s2, s3⟩ := rcell h2.yo HAT.out
      have f3 := h2.yo.frozen (p * 4 + 3)
      clear c2
      have c2 : w2.cell? ⟨bm, 2, none⟩ = some (.slice (some ⟨yb, 0, none⟩) T1.young.length T1.young.length) := h2.bk.cell 2
      have hd1 := h2.d1
      have H2 := Lib.hid h2
      have HK2 := Lib.hid k2
      clear h2 k2
      go_wp2_with fail
      go_ret2
      rw [HPE.out]
      obtain ⟨q1, q2⟩ := H2.out.valued HAT.out v
      refine ⟨rfl, yb, ob1, q1, G.fresh_sub (fun x hx => ?_), (HK1.out.trans HK2.out (by simp)).trans q2 (by simp)⟩
      have := HOO.out
      simp only [List.mem_cons, List.not_mem_nil, or_false] at hx ⊢
      omega
    | false =>
      obtain ⟨o, ho, hlk, _⟩ := hh.old rfl
      obtain ⟨hy1, hp1⟩ := hit_old hh ho
      obtain ⟨o1, o2, o3⟩ := InvS.opos hi1 ho
      rw [hy1] at hf
      have hpe := G.putS_hit_old (v := v) hh ho
      have hat := hh.at_
      rw [arr_false ho] at hat
      have hpl : p < o.length := (List.getElem?_eq_some_iff.1 hat).1
      have hol : o.length ≤ 1099511627776 := by omega
      have hul := G.used_old_young hi1
      have hf2 := fun (W : World) (k' : Keeps [] w1 W) => find_calls (h1.keeps k' (by simp)).bk (k'.blk (h1.ol o ho) (by simp)) o3.st o1 hol k
      rw [hp1] at hf2
      generalize (findK LD T1.young k).2.2 = r3 at *
      generalize (findK LD o k).2.2 = r4 at *
      have hcc : ∀ W, Keeps [] w1 W → W.cell? ⟨bm, 3, none⟩ = some (.slice (some ⟨ob1, 0, none⟩) o.length o.length) ∧ W.cell? ⟨bm, 4, none⟩ = some (.bool true) := by
        intro W k'
        have c3 := (h1.keeps k' (by simp)).bk.cell 3
        have c4 := (h1.keeps k' (by simp)).bk.cell 4
        rw [ho] at c3 c4
        exact ⟨c3, c4⟩
      have HCC := Lib.hid hcc
      have HF := Lib.hid hf
      have HF2 := Lib.hid hf2
      have HPE := Lib.hid hpe
      have HAT := Lib.hid hat
      have HO := Lib.hid ho
      have HLK := Lib.hid hlk
      have HUL := Lib.hid hul
      have HYK := Lib.hid ha1.yok
      clear hf hf2 hpe hat hh h1 ha1 hcc ho o3 hlk hul
      go_wp2_with fail
      refine (HF.out).mono ?_
      rintro e w2 ⟨rfl, k2⟩
      clear c2
      obtain ⟨c3, c4⟩ := HCC.out w2 k2
      have HK2 := Lib.hid k2
      clear k2
      go_wp2_with fail
      refine (HF2.out w2 HK2.out).mono ?_
      rintro e w3 ⟨rfl, k3⟩
      have k13 : Keeps [] w1 w3 := HK2.out.trans k3 (by simp)
      clear c3 c4 k3
      obtain ⟨c3, c4⟩ := HCC.out w3 k13
      have h3 := HR1.out.keeps k13 (by simp)
      obtain ⟨s0, s1, s2, s3⟩ := rcell (h3.ol o HO.out) HAT.out
      have f0 := (h3.ol o HO.out).frozen (p * 4)
      have f1 := (h3.ol o HO.out).frozen (p * 4 + 1)
      have f2 := (h3.ol o HO.out).frozen (p * 4 + 2)
      have f3 := (h3.ol o HO.out).frozen (p * 4 + 3)
      obtain ⟨hd2, hd3⟩ := h3.d2 o HO.out
      have h3' : RefAt w3 bm yb ob1 ⟨T1.young, some o, T1.mark⟩ := by have := h3; rwa [show T1 = ⟨T1.young, some o, T1.mark⟩ from by rw [← HO.out]] at this
      have hb4 := h3'.buriedO HAT.out
      have hlay := lay_calls hb4 HYK.out HLK.out HUL.out (by simp only; omega) v
      have HLAY := Lib.hid hlay
      have HK13 := Lib.hid k13
      clear h3 k13 h3' hb4 hlay
      go_wp2_with fail
      refine (HLAY.out).mono ?_
      rintro e w5 ⟨rfl, h5, k5⟩
      clear c3 c4 f0 f1 f2 f3 s0 s1 s2 s3
      go_wp2_with fail
      go_ret2
      rw [HPE.out]
      refine ⟨rfl, yb, ob1, h5, G.fresh_sub (fun x hx => ?_), ((HK1.out.trans HK13.out (by simp)).trans (buried_keeps w3 ob1 p) (fun x hx _ => ?_)).trans k5 (by simp)⟩
      · have := HOO.out
        simp only [List.mem_cons, List.not_mem_nil, or_false] at hx ⊢
        omega
      · have := HOO.out
        simp only [List.mem_cons, List.not_mem_nil, or_false] at hx ⊢
        omega
  · rw [hm4] at hf
    have hpe := G.putS_miss (v := v) hm1
    have hul := G.used_old_young hi1
    have hlay := layM_spec LD ha1.yok v hm3 hul
    have hll := hlay.len
    have hlu := hlay.used
    have hY38 : (layM LD T1.young k v).length ≤ 274877906944 := by omega
    generalize (findK LD T1.young k).2.2 = r3 at *
    have hLAY := fun (W : World) (k' : Keeps [] w1 W) => lay_calls (h1.keeps k' (by simp)) ha1.yok hm3 hul (by omega) v
    cases ho : T1.old with
    | some o =>
      have hp1 := miss_old hm1 hm4 ho
      obtain ⟨o1, o2, o3⟩ := InvS.opos hi1 ho
      have hol : o.length ≤ 1099511627776 := by omega
      have hf2 := fun (W : World) (k' : Keeps [] w1 W) => find_calls (h1.keeps k' (by simp)).bk (k'.blk (h1.ol o ho) (by simp)) o3.st o1 hol k
      rw [hp1] at hf2
      generalize (findK LD o k).2.2 = r4 at *
      have hcc : ∀ W, Keeps [] w1 W → W.cell? ⟨bm, 3, none⟩ = some (.slice (some ⟨ob1, 0, none⟩) o.length o.length) ∧ W.cell? ⟨bm, 4, none⟩ = some (.bool true) := by
        intro W k'
        have c3 := (h1.keeps k' (by simp)).bk.cell 3
        have c4 := (h1.keeps k' (by simp)).bk.cell 4
        rw [ho] at c3 c4
        exact ⟨c3, c4⟩
      have HCC := Lib.hid hcc
      have HF := Lib.hid hf
      have HF2 := Lib.hid hf2
      have HPE := Lib.hid hpe
      have HLAY := Lib.hid hLAY
      have HO := Lib.hid ho
      clear hf hf2 hpe h1 ha1 hcc ho o3 hm1 hm2 hm3 hm4 hlay hLAY hll hlu hul
      go_wp2_with fail
      refine (HF.out).mono ?_
      rintro e w2 ⟨rfl, k2⟩
      clear c2
      obtain ⟨c3, c4⟩ := HCC.out w2 k2
      have HK2 := Lib.hid k2
      clear k2
      go_wp2_with fail
      refine (HF2.out w2 HK2.out).mono ?_
      rintro e w3 ⟨rfl, k3⟩
      have k13 : Keeps [] w1 w3 := HK2.out.trans k3 (by simp)
      have HK13 := Lib.hid k13
      clear c3 c4 k3 k13
      go_wp2_with fail
      refine (HLAY.out w3 HK13.out).mono ?_
      rintro e w5 ⟨rfl, h5, k5⟩
      have c4 : w5.cell? ⟨bm, 4, none⟩ = some (.bool true) := by have := h5.bk.cell 4; simp only [HO.out] at this; exact this
      have H5 := Lib.hid h5
      have HK5 := Lib.hid k5
      clear h5 k5
      go_wp2_with fail
      go_quiet (fail)
      go_wp2
      go_ret2
      rw [HPE.out]
      have e : growM 0 0 ({ T1 with young := layM LD T1.young k v } : Tab FD Int) = { T1 with young := layM LD T1.young k v } := by unfold growM; simp only [HO.out]
      rw [e]
      refine ⟨rfl, yb, ob1, H5.out.keeps ((Keeps.refl [] _).drewN nq) (by simp), G.fresh_sub (fun x hx => ?_), ((HK1.out.trans HK13.out (by simp)).trans HK5.out (by simp)).drewN nq⟩
      have := HOO.out
      simp only [List.mem_cons, List.not_mem_nil, or_false] at hx ⊢
      omega
    | none =>
      have hob : ob1 = yb := h1.d3 ho
      have hcc : ∀ W, Keeps [] w1 W → W.cell? ⟨bm, 4, none⟩ = some (.bool false) := by
        intro W k'
        have c4 := (h1.keeps k' (by simp)).bk.cell 4
        rw [ho] at c4
        exact c4
      have h4 := (hi1.none_ ho).2
      have hlm : lenM ({ T1 with young := layM LD T1.young k v } : Tab FD Int) = usedN (layM LD T1.young k v) := by
        rw [G.len_eq]; simp [ho, usedN, fulls]
      obtain ⟨e, he, hel⟩ := HSZ.out
      obtain ⟨e', he3, hel'⟩ := hi1.ylen
      have hee : e' = e := by
        rw [hel] at hel'
        rcases Nat.lt_trichotomy e e' with q | q | q
        · have := Nat.pow_lt_pow_right (a := 2) (by omega) q; omega
        · exact q.symm
        · have := Nat.pow_lt_pow_right (a := 2) (by omega) q; omega
      rw [hee] at he3
      have hY8 : 8 ≤ (layM LD T1.young k v).length := by
        have : 2 ^ 3 ≤ 2 ^ e := Nat.pow_le_pow_right (by decide) he3
        omega
      have HYL := Lib.hid (show (layM LD T1.young k v).length = 2 ^ e by rw [hll]; exact hel)
      have hul2 := usedN_le (layM LD T1.young k v)
      have htl2 := tombN_le (layM LD T1.young k v)
      have hg2 : 2 * usedN (layM LD T1.young k v) + 2 ≤ (layM LD T1.young k v).length * 2 := by omega
      have HCC := Lib.hid hcc
      have HF := Lib.hid hf
      have HPE := Lib.hid hpe
      have HLAY := Lib.hid hLAY
      have HO := Lib.hid ho
      have HLM := Lib.hid hlm
      clear hf hpe h1 ha1 hcc ho hm1 hm2 hm3 hm4 hlay hLAY hll hlu hul h4 hlm hel hel' hee hypos hy38
      go_wp2_with fail
      refine (HF.out).mono ?_
      rintro e w2 ⟨rfl, k2⟩
      clear c2
      have c4 := HCC.out w2 k2
      have HK2 := Lib.hid k2
      clear k2
      go_wp2_with fail
      refine (HLAY.out w2 HK2.out).mono ?_
      rintro e w5 ⟨rfl, h5, k5⟩
      clear c4
      have c4 : w5.cell? ⟨bm, 4, none⟩ = some (.bool false) := by have := h5.bk.cell 4; simp only [HO.out] at this; exact this
      have c2 : w5.cell? ⟨bm, 2, none⟩ = some (.slice (some ⟨yb, 0, none⟩) (layM LD T1.young k v).length (layM LD T1.young k v).length) := h5.bk.cell 2
      have hq1 := fun n => count_full (h5.yo.drewN n) (by simp only; omega)
      have hq2 := fun n => count_tomb (h5.yo.drewN n) (by simp only; omega)
      have hlen := fun (W : World) (k' : Keeps [] w5 W) => len_calls (h5.keeps k' (by simp)) (by simp only; omega) (by simp only [HO.out]; simp)
      rw [HLM.out] at hlen
      simp only at hq1 hq2
      have hgw : ∀ W, Keeps [] w5 W → ∀ n, RefAt (grownW W bm yb (layM LD T1.young k v).length n) bm W.heap.size yb ⟨List.replicate n ⟨0, 0, 0⟩, some (layM LD T1.young k v), 0⟩ ∧ Keeps [bm] W (grownW W bm yb (layM LD T1.young k v).length n) :=
        fun W k' n => (h5.keeps k' (by simp)).grown n
      have HGR := Lib.hid (fun hg : 3 * (layM LD T1.young k v).length < 4 * (usedN (layM LD T1.young k v) + tombN (layM LD T1.young k v)) => (show growM 0 0 ({ T1 with young := layM LD T1.young k v } : Tab FD Int) = ⟨List.replicate (growTo 2 (layM LD T1.young k v).length (2 * usedN (layM LD T1.young k v) + 2)) ⟨0, 0, 0⟩, some (layM LD T1.young k v), 0⟩ by
        have hlm2 := HLM.out
        simp only [HO.out] at hlm2
        unfold growM; simp only [HO.out]; rw [if_neg (by omega), hlm2]))
      have HGN := Lib.hid (fun hg : ¬ 3 * (layM LD T1.young k v).length < 4 * (usedN (layM LD T1.young k v) + tombN (layM LD T1.young k v)) => (show growM 0 0 ({ T1 with young := layM LD T1.young k v } : Tab FD Int) = { T1 with young := layM LD T1.young k v } by
        unfold growM; simp only [HO.out]; rw [if_pos (by omega)]))
      have HQ1 := Lib.hid hq1
      have HQ2 := Lib.hid hq2
      have HLEN := Lib.hid hlen
      have HGW := Lib.hid hgw
      have H5 := Lib.hid h5
      have HK5 := Lib.hid k5
      clear h5 k5 hq1 hq2 hlen hgw
      by_cases hg : 3 * (layM LD T1.young k v).length < 4 * (usedN (layM LD T1.young k v) + tombN (layM LD T1.young k v))
      · have hg' : 3 * (((layM LD T1.young k v).length : Nat) : Int) < 4 * (((usedN (layM LD T1.young k v) : Nat) : Int) + ((tombN (layM LD T1.young k v) : Nat) : Int)) := by omega
        have HG := Lib.hid hg
        clear hg
        generalize hYg : layM LD T1.young k v = Y at *
        clear hYg
        go_wp2_with fail
        go_quiet (first | (go_at_call 57; with_reducible exact Calls.quiet_of_same (HQ1.out _)) | (go_at_call 57; with_reducible exact Calls.quiet_of_same (HQ2.out _)))
        go_wp2_with fail
        have k50 : Keeps [] w5 (w5.drewN nq) := (Keeps.refl _ _).drewN nq
        have hgrow := HGR.out HG.out
        have hmk : Try.prog = Try.prog := rfl
        generalize usedN Y = u at *
        generalize hng : Y.length = n0 at *
        have HNG := Lib.hid hng
        have hgt := growTo_two (n := n0) (m := 2 * u + 2) (by omega)
        generalize growTo 2 n0 (2 * u + 2) = gt at *
        have HGT := Lib.hid hgt
        have HGROW := Lib.hid hgrow
        clear hmk hgrow hgt hg' hng
        go_loopw [14] (fun nv wr => ∃ (f nn : Nat), nv = .int .i64 (nn : Nat) ∧ nn = 2 ^ f ∧ (f < e ∨ nn = n0 ∨ (nn = 2 * n0 ∧ n0 < 2 * u + 2)) ∧ 8 ≤ nn ∧ nn ≤ 2 * n0 ∧ Keeps [] w5 wr) (fun nv _ => 4 * n0 - (intOf nv).toNat)
        case atStart =>
          refine ⟨3, 8, rfl, rfl, ?_, by omega, by omega, k50⟩
          rcases Nat.lt_or_ge 3 e with q | q
          · exact .inl q
          · have : e = 3 := by omega
            subst this
            exact .inr (.inl (by have := HYL.out; omega))
        case round =>
          obtain ⟨f, nn, rfl, hf, hc, h8, h2n, hkp⟩ := hrel
          have hrf := H5.out.keeps hkp (by simp)
          clear c2 c4
          have c2 : wr.cell? ⟨bm, 2, none⟩ = some (.slice (some ⟨yb, 0, none⟩) n0 n0) := by have := hrf.bk.cell 2; simp only [HNG.out] at this; exact this
          have HKP := Lib.hid hkp
          have HF := Lib.hid hf
          clear hkp hf
          by_cases hlt : nn < n0
          · have hfe : f < e := by
              have h1 := HF.out
              have h2 := HYL.out
              rcases Nat.lt_or_ge f e with q | q
              · exact q
              · have := Nat.pow_le_pow_right (n := 2) (by decide) q
                omega
            have hnx : f + 1 < e ∨ nn * 2 = n0 ∨ (nn * 2 = 2 * n0 ∧ n0 < 2 * u + 2) := by
              have h1 := HF.out
              have h2 := HYL.out
              rcases Nat.lt_or_ge (f + 1) e with q | q
              · exact .inl q
              · have : e = f + 1 := by omega
                subst this
                rw [Nat.pow_succ] at h2
                exact .inr (.inl (by omega))
            have h2n' : nn * 2 ≤ 2 * n0 := by omega
            have HNX := Lib.hid hnx
            clear hnx hc hfe
            go_wp2_with fail
            go_roundw
            case rel => exact ⟨f + 1, nn * 2, by go_num, by rw [Nat.pow_succ, ← HF.out], HNX.out, by omega, h2n', HKP.out⟩
            case measure => simp [intOf]; omega
          · have hge : n0 ≤ nn := by omega
            by_cases hlm : nn < 2 * u + 2
            · have hne : nn = n0 := by
                rcases hc with q | q | q
                · have h1 := HF.out
                  have h2 := HYL.out
                  have := Nat.pow_lt_pow_right (a := 2) (by omega) q
                  omega
                · exact q
                · omega
              subst hne
              clear hc
              have hlm' : (nn : Int) < 2 * (u : Int) + 2 := by omega
              go_wp2_with fail
              refine (HLEN.out wr HKP.out).mono ?_
              rintro e' w6 ⟨rfl, n6, hw6⟩
              have HK6 := Lib.hid (show Keeps [] w5 w6 by rw [hw6]; exact HKP.out.drewN n6)
              clear hw6
              go_wp2_with fail
              go_roundw
              case rel => exact ⟨f + 1, nn * 2, by go_num, by rw [Nat.pow_succ, ← HF.out], .inr (.inr ⟨by omega, hlm⟩), by omega, by omega, HK6.out⟩
              case measure => simp [intOf]; omega
            · have hgte : gt = nn := by
                have := HGT.out
                rcases hc with q | q | q
                · have h1 := HF.out
                  have h2 := HYL.out
                  have := Nat.pow_lt_pow_right (a := 2) (by omega) q
                  omega
                · omega
                · omega
              have hlm' : ¬ (nn : Int) < 2 * (u : Int) + 2 := by omega
              have HGTE := Lib.hid hgte
              clear hc hgte
              go_wp2_with fail
              refine (HLEN.out wr HKP.out).mono ?_
              rintro e' w6 ⟨rfl, n6, hw6⟩
              have k6 : Keeps [] w5 w6 := by rw [hw6]; exact HKP.out.drewN n6
              clear hw6
              have h6 := H5.out.keeps k6 (by simp)
              clear c2
              have c2 : w6.cell? ⟨bm, 2, none⟩ = some (.slice (some ⟨yb, 0, none⟩) n0 n0) := by have := h6.bk.cell 2; simp only [HNG.out] at this; exact this
              have f2 := h6.bk.frozen 2
              have f3 := h6.bk.frozen 3
              have f4 := h6.bk.frozen 4
              have f5 := h6.bk.frozen 5
              have c3 : w6.cell? ⟨bm, 3, none⟩ = some (.slice none 0 0) := by have := h6.bk.cell 3; simp only [HO.out, oldV] at this; exact this
              have c4 : w6.cell? ⟨bm, 4, none⟩ = some (.bool false) := by have := h6.bk.cell 4; simp only [HO.out] at this; exact this
              have c5 : w6.cell? ⟨bm, 5, none⟩ = some (.int .i64 T1.mark) := h6.bk.cell 5
              have hbl := h6.bk.lt
              obtain ⟨g1, g2⟩ := HGW.out w6 k6 nn
              have hmade : madeCells (Value.cells (.agg #[.int .i64 0, .int .i64 0, .int .i64 0, .int .i64 0])) (nn * 4) = ((List.replicate nn (⟨0, 0, 0⟩ : Sl FD Int)).flatMap encR).toArray :=
                made_eq encR ⟨0, 0, 0⟩ _ rfl (by decide) nn
              have HMADE := Lib.hid hmade
              have HG1 := Lib.hid g1
              have HG2 := Lib.hid g2
              have HK6 := Lib.hid k6
              clear h6 g1 g2 k6 hmade
              go_wp2_with (refine wpList_make_cells _ rfl _ _ 91 rfl 101 _ 4 32 Try.underlying91 info101 _ _ _ _ nn rfl rfl rfl rfl (by omega) (by omega) ?_)
              go_ret2
              rw [HPE.out, HGROW.out, HGTE.out]
              have hg1 := HG1.out
              have hg2 := HG2.out
              unfold grownW at hg1 hg2
              rw [← HMADE.out] at hg1 hg2
              refine ⟨rfl, _, _, hg1, ?_, (((HK1.out.trans HK2.out (by simp)).trans HK5.out (by simp)).trans HK6.out (by simp)).trans hg2 (by simp)⟩
              intro x hx
              simp only [List.mem_cons, List.not_mem_nil, or_false] at hx ⊢
              rcases hx with rfl | rfl | rfl
              · exact .inl (.inl rfl)
              · right
                have := (((HK1.out.trans HK2.out (by simp)).trans HK5.out (by simp)).trans HK6.out (by simp)).size
                exact this
              · exact .inl (.inr (.inl rfl))
      · have hg' : ¬ 3 * (((layM LD T1.young k v).length : Nat) : Int) < 4 * (((usedN (layM LD T1.young k v) : Nat) : Int) + ((tombN (layM LD T1.young k v) : Nat) : Int)) := by omega
        have HG := Lib.hid hg
        clear hg
        go_wp2_with fail
        go_quiet (first | (go_at_call 57; with_reducible exact Calls.quiet_of_same (HQ1.out _)) | (go_at_call 57; with_reducible exact Calls.quiet_of_same (HQ2.out _)))
        go_wp2_with fail
        go_ret2
        rw [HPE.out, HGN.out HG.out]
        refine ⟨rfl, yb, ob1, H5.out.keeps ((Keeps.refl [] _).drewN nq) (by simp), G.fresh_sub (fun x hx => ?_), ((HK1.out.trans HK2.out (by simp)).trans HK5.out (by simp)).drewN nq⟩
        have := HOO.out
        simp only [List.mem_cons, List.not_mem_nil, or_false] at hx ⊢
        omega
end Go.Proofs.Ytaomaeobgfeoiaa.R
