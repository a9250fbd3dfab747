/- TableWide: grow. -/
import Derived.Test.YtaomaeobgfeoiaaWf
import Derived.Deep.RegionWith
namespace Go.Proofs.Ytaomaeobgfeoiaa.W
open Go.RowKit Pl

/-- The old blocks, or new ones. -/
def FreshOr (F : List Nat) (w : World) (F' : List Nat) : Prop := ∀ x ∈ F', x ∈ F ∨ w.heap.size ≤ x

theorem FreshOr.refl (F : List Nat) (w : World) : FreshOr F w F := fun _ h => .inl h

theorem usedN_replicate (n : Nat) : usedN (List.replicate n (⟨0, 0, 0⟩ : Sl WK SV)) = 0 := by
  unfold usedN; rw [fulls_replicate]; rfl
theorem tombN_replicate (n : Nat) : tombN (List.replicate n (⟨0, 0, 0⟩ : Sl WK SV)) = 0 := by
  unfold tombN; rw [List.countP_replicate]; simp

theorem TabAt.drewN {w : World} {bt ya ys oa os : Nat} {T : Tab WK SV} (h : TabAt w bt ya ys oa os T) (n : Nat) : TabAt (w.drewN n) bt ya ys oa os T := h.keeps0 ((Keeps.refl _ _).drewN n)

theorem newArray_for {w0 w : World} {bt ya ys oa os : Nat} {T : Tab WK SV} (h : TabAt w bt ya ys oa os T) (hk : Keeps [] w0 w) (n : Nat) (hn : ∃ e, e ≤ 40 ∧ n = 2 ^ e) :
    Calls Try.prog 67 #[.int .i64 n] w fun e w' => ∃ na ns, e = .returned (.pointer (some ⟨na, 0, none⟩)) ∧ w0.heap.size ≤ na ∧ w0.heap.size ≤ ns ∧
      ArrAt w' na ns (List.replicate n ⟨0, 0, 0⟩) ∧ TabAt w' bt ya ys oa os T ∧ Keeps [] w0 w' ∧
      w'.cell? ⟨bt, 1, none⟩ = some (.pointer (some ⟨ya,0,none⟩)) ∧ w'.cell? ⟨bt, 2, none⟩ = some (.pointer (opOf T oa)) ∧ w'.cell? ⟨bt, 3, none⟩ = some (.int .i64 T.mark) ∧
      w'.frozen? ⟨bt, 1, none⟩ = false ∧ w'.frozen? ⟨bt, 2, none⟩ = false ∧ w'.frozen? ⟨bt, 3, none⟩ = false := by
  have hn' : n ≤ 1099511627776 := by
    obtain ⟨e, he, rfl⟩ := hn
    have : 2 ^ e ≤ 2 ^ 40 := Nat.pow_le_pow_right (by decide) he
    omega
  refine (newArray_calls n w hn').mono ?_
  rintro e w' ⟨rfl, rfl⟩
  have k : Keeps [] w ((w.alloc (.cells ((List.replicate n (⟨0, 0, 0⟩ : Sl WK SV)).flatMap encS).toArray 132)).alloc (.cells #[.slice (some ⟨w.heap.size, 0, none⟩) n n, .int .i64 0, .int .i64 0] 135)) := ((Keeps.refl _ _).alloc _).alloc _
  have h' := h.keeps0 k
  refine ⟨_, w.heap.size, rfl, by have := hk.size; omega, hk.size, ⟨?_, ?_, by omega, ?_⟩, h', hk.trans k (by simp), h'.tb.cell 1, h'.tb.cell 2, h'.tb.cell 3, h'.tb.frozen 1, h'.tb.frozen 2, h'.tb.frozen 3⟩
  · rw [usedN_replicate, tombN_replicate, List.length_replicate]
    have := Blk.new (w.alloc (.cells ((List.replicate n (⟨0, 0, 0⟩ : Sl WK SV)).flatMap encS).toArray 132)) [.slice (some ⟨w.heap.size, 0, none⟩) n n, .int .i64 0, .int .i64 0] 135
    rw [World.size_alloc] at this
    exact this
  · exact (Blk.new w _ _).alloc _
  · obtain ⟨e, he, hl⟩ := hn
    exact ⟨e, he, by simpa using hl⟩

theorem grow_end {w w' : World} {bt ya ys oa os na ns n : Nat} {T : Tab WK SV} (hw : TabAt w bt ya ys oa os T) (hO : T.old = none) (h1 : w.heap.size ≤ na) (h2 : w.heap.size ≤ ns)
    (ha : ArrAt w' na ns (List.replicate n ⟨0, 0, 0⟩)) (ht : TabAt w' bt ya ys oa os T) (hk : Keeps [] w w') :
    TabAt (((w'.setCell ⟨bt, 2, none⟩ (.pointer (some ⟨ya, 0, none⟩))).setCell ⟨bt, 1, none⟩ (.pointer (some ⟨na, 0, none⟩))).setCell ⟨bt, 3, none⟩ (.int .i64 0)) bt na ns ya ys ⟨List.replicate n ⟨0, 0, 0⟩, some T.young, 0⟩ ∧
    FreshOr [bt, ya, ys, oa, os] w [bt, na, ns, ya, ys] ∧ Keeps [bt] w (((w'.setCell ⟨bt, 2, none⟩ (.pointer (some ⟨ya, 0, none⟩))).setCell ⟨bt, 1, none⟩ (.pointer (some ⟨na, 0, none⟩))).setCell ⟨bt, 3, none⟩ (.int .i64 0)) := by
  have k : Keeps [bt] w' (((w'.setCell ⟨bt, 2, none⟩ (.pointer (some ⟨ya, 0, none⟩))).setCell ⟨bt, 1, none⟩ (.pointer (some ⟨na, 0, none⟩))).setCell ⟨bt, 3, none⟩ (.int .i64 0)) :=
    Keeps.setCell (Keeps.setCell (Keeps.setCell (Keeps.refl _ _) _ _ (by simp)) _ _ (by simp)) _ _ (by simp)
  have l1 := hw.tb.lt
  have l2 := hw.yo.ha.lt
  have l3 := hw.yo.hs.lt
  obtain ⟨d1, d2⟩ := hw.d1
  have d3 := hw.yo.ne
  refine ⟨⟨?_, ha.keeps k (by simp; omega) (by simp; omega), fun o ho => ?_, ⟨by omega, by omega⟩, fun o ho => ⟨d1, d2, by omega, by omega, by omega, by omega⟩, fun h => (by cases h)⟩, ?_, (hk.mono (G := [bt]) (by simp)).trans k (by simp)⟩
  · exact ((ht.tb.set 2 _).set 1 _).set 3 _
  · cases ho
    exact ht.yo.keeps k (by simp; omega) (by simp; omega)
  · intro x hx
    simp only [List.mem_cons, List.not_mem_nil, or_false] at hx ⊢
    rcases hx with rfl | rfl | rfl | rfl | rfl
    · exact .inl (.inl rfl)
    · exact .inr h1
    · exact .inr h2
    · exact .inl (.inr (.inl rfl))
    · exact .inl (.inr (.inr (.inl rfl)))

set_option maxRecDepth 100000 in
set_option maxHeartbeats 1600000 in
theorem grow_calls {w : World} {bt ya ys oa os : Nat} {T : Tab WK SV} (h : TabAt w bt ya ys oa os T) (hb : T.young.length * 2 ≤ 1099511627776) (hpow : ∃ e, e ≤ 38 ∧ T.young.length = 2 ^ e) (hm : T.old = none → T.mark = 0) (hlen : T.old = none → 2 * lenM T + 2 ≤ T.young.length * 2) :
    Calls Try.prog 73 #[.pointer (some ⟨bt,0,none⟩)] w fun e w' =>
      e = .returned (.tuple #[]) ∧ ∃ ya' ys' oa' os', TabAt w' bt ya' ys' oa' os' (growM 0 0 T) ∧ FreshOr [bt, ya, ys, oa, os] w [bt, ya', ys', oa', os'] ∧ Keeps [bt] w w' := by
  obtain ⟨t0, t1, t2, t3⟩ := h.cells
  obtain ⟨a0, a1, a2⟩ := h.yo.cells
  have hle := h.yo.le
  have hu := usedN_le T.young
  have ht := tombN_le T.young
  have f1 := h.tb.frozen 1
  have f2 := h.tb.frozen 2
  have f3 := h.tb.frozen 3
  have l1 := h.tb.lt
  have l2 := h.yo.ha.lt
  cases ho : T.old with
  | some o =>
    have e2 : opOf T oa = some ⟨oa, 0, none⟩ := by unfold opOf; rw [ho]; rfl
    have e3 : growM 0 0 T = T := by unfold growM; rw [ho]
    rw [e2] at t2
    rw [e3]
    have HP := Lib.hid hpow
    have HM := Lib.hid hm
    have HL := Lib.hid hlen
    clear ho e2 e3 hpow hm hlen
    have hg : ((some (⟨oa, 0, none⟩ : Addr)) == none) = false := rfl
    go_enter Try.func73, Try.ntmps73
    go_wp2
    go_quiet (fail)
    go_wp2
    exact bodyPost_ret (results_none rfl _ _ _) rfl ⟨rfl, ya, ys, oa, os, h.drewN nq, FreshOr.refl _ _, (Keeps.refl _ _).drewN nq⟩
  | none =>
    have e2 : opOf T oa = none := by unfold opOf; rw [ho]; rfl
    rw [e2] at t2
    by_cases hg : 4 * (usedN T.young + tombN T.young) ≤ 3 * T.young.length
    · have e3 : growM 0 0 T = T := by unfold growM; rw [ho]; simp only [if_pos hg]
      rw [e3]
      have hg' : 4 * ((usedN T.young : Int) + (tombN T.young : Int)) ≤ 3 * (T.young.length : Int) := by omega
      have HP := Lib.hid hpow
      have HM := Lib.hid hm
      have HL := Lib.hid hlen
      clear ho e2 e3 hpow hm hlen hg
      go_enter Try.func73, Try.ntmps73
      go_wp2
      go_quiet (fail)
      go_wp2
      exact bodyPost_ret (results_none rfl _ _ _) rfl ⟨rfl, ya, ys, oa, os, h.drewN nq, FreshOr.refl _ _, (Keeps.refl _ _).drewN nq⟩
    · have hg' : 3 * (T.young.length : Int) < 4 * ((usedN T.young : Int) + (tombN T.young : Int)) := by omega
      have e3 : growM 0 0 T = ⟨List.replicate (growTo 2 T.young.length (2 * lenM T + 2)) ⟨0, 0, 0⟩, some T.young, 0⟩ := by unfold growM; rw [ho]; simp only [if_neg hg]
      rw [e3]
      have hl := hlen ho
      have hlc := fun n => len_calls (h.drewN n)
      have HP := Lib.hid hpow
      have HM := Lib.hid (hm ho)
      have HLC := Lib.hid hlc
      have HO := Lib.hid ho
      have HH := Lib.hid h
      generalize hn : lenM T = ln at *
      have HN := Lib.hid hn
      clear e2 e3 hpow hm hlen hlc hg hn ho
      go_enter Try.func73, Try.ntmps73
      go_wp2
      go_quiet (fail)
      go_wp2
      have hln : ln = usedN T.young := by
        have := len_eq T
        rw [HN.out] at this
        have e0 : T.old.getD [] = [] := by rw [HO.out]; rfl
        rw [e0] at this
        simpa [usedN, fulls] using this
      have hln2 : ln ≤ T.young.length := by omega
      have HLN := Lib.hid hln
      clear hln
      go_loop [2] (fun n => (n = .int .i64 (T.young.length : Nat)) ∨ (n = .int .i64 ((T.young.length * 2 : Nat)) ∧ T.young.length < 2 * ln + 2)) (fun n => T.young.length * 2 - (intOf n).toNat)
      case atStart => exact .inl rfl
      case round =>
        have hgr := growTo_two (n := T.young.length) (m := 2 * ln + 2) (by omega)
        rcases hrel with rfl | ⟨rfl, hlt⟩
        · by_cases hlt : T.young.length < 2 * ln + 2
          · have hlt' : (T.young.length : Int) < 2 * (ln : Int) + 2 := by omega
            clear hgr
            have hpos : 1 ≤ T.young.length := by obtain ⟨e, _, he⟩ := HP.out; rw [he]; exact Nat.one_le_two_pow
            go_wp2_with (go_at_call 41; refine (HLC.out _).mono ?_; rintro e w' ⟨rfl, rfl⟩)
            go_round
            case rel => exact .inr ⟨by go_num, hlt⟩
            case measure => simp [intOf]; omega
          · have hlt' : ¬ (T.young.length : Int) < 2 * (ln : Int) + 2 := by omega
            have hg2 : growTo 2 T.young.length (2 * ln + 2) = T.young.length := by omega
            have HG2 := Lib.hid hg2
            clear hgr hg2
            go_wp2_with (go_at_call 41; refine (HLC.out _).mono ?_; rintro e w' ⟨rfl, rfl⟩)
            have hn40 : ∃ e, e ≤ 40 ∧ T.young.length = 2 ^ e := by obtain ⟨e, h1, h2⟩ := HP.out; exact ⟨e, by omega, h2⟩
            have HN40 := Lib.hid hn40
            clear hn40
            go_region_with (go_at_call 67; refine (newArray_for (w0 := w) (HH.out.drewN _) ((Keeps.refl _ _).drewN _) _ HN40.out).mono ?_; rintro e w' ⟨na, ns, rfl, g1, g2, g3, g4, g5, g6, g7, g8, g9, g10, g11⟩)
            all_goals
              go_wp2
              refine bodyPost_end (results_none rfl _ _ _) rfl ⟨rfl, na, ns, ya, ys, ?_⟩
              rw [HG2.out]
              exact grow_end HH.out HO.out g1 g2 g3 g4 g5
        · have hlt' : ¬ ((T.young.length * 2 : Nat) : Int) < 2 * (ln : Int) + 2 := by omega
          have hg2 : growTo 2 T.young.length (2 * ln + 2) = T.young.length * 2 := by omega
          have HG2 := Lib.hid hg2
          clear hgr hg2
          have hn40 : ∃ e, e ≤ 40 ∧ T.young.length * 2 = 2 ^ e := by obtain ⟨e, h1, h2⟩ := HP.out; exact ⟨e + 1, by omega, by rw [h2, Nat.pow_succ]⟩
          generalize T.young.length * 2 = n2 at *
          have HN40 := Lib.hid hn40
          clear hn40
          go_wp2_with (go_at_call 41; refine (HLC.out _).mono ?_; rintro e w' ⟨rfl, rfl⟩)
          go_region_with (go_at_call 67; refine (newArray_for (w0 := w) (HH.out.drewN _) ((Keeps.refl _ _).drewN _) _ HN40.out).mono ?_; rintro e w' ⟨na, ns, rfl, g1, g2, g3, g4, g5, g6, g7, g8, g9, g10, g11⟩)
          all_goals
            go_wp2
            refine bodyPost_end (results_none rfl _ _ _) rfl ⟨rfl, na, ns, ya, ys, ?_⟩
            rw [HG2.out]
            exact grow_end HH.out HO.out g1 g2 g3 g4 g5
end Go.Proofs.Ytaomaeobgfeoiaa.W
