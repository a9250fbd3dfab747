/- TableSigns: the document's New, Put, All and Tags. -/
import Derived.Test.YtaomaeobgfeoiaaRe
import Derived.Test.YtaomaeobgfeoiaaPo
import Derived.Deep.RegionLaw
namespace Go.Proofs.Ytaomaeobgfeoiaa.R
open Go.RowKit Pl

theorem info3 : (Try.prog.info? 3).map (fun i => (i.zero, i.size, i.bytes)) = some (some (.int .i64 0), 1, 8) := by kernel_rfl

theorem new_calls (w : World) : Calls Try.prog 10 #[.int .i64 1, .int .i64 (-1)] w fun e w' => ∃ bm yb, e = .returned (.pointer (some ⟨bm, 0, none⟩)) ∧ RefAt w' bm yb yb G.tab0 ∧ Keeps [] w w' ∧ w.heap.size ≤ bm ∧ w.heap.size ≤ yb := by
  have hmade : madeCells #[.int .i64 0, .int .i64 0, .int .i64 0, .int .i64 0] 32 = ((List.replicate 8 (⟨0, 0, 0⟩ : Sl FD Int)).flatMap encR).toArray :=
    made_eq encR ⟨0, 0, 0⟩ _ rfl (by decide) 8
  have HM := Lib.hid hmade
  clear hmade
  go_enter Try.func10, Try.ntmps10
  go_wp2_with (refine wpList_make_cells _ rfl _ _ 91 rfl 101 _ 4 32 Try.underlying91 info101 _ _ _ _ 8 rfl rfl rfl rfl (by omega) (by omega) ?_)
  go_ret
  rw [HM.out]
  have b1 := (Blk.new w ((List.replicate 8 (⟨0, 0, 0⟩ : Sl FD Int)).flatMap encR) 101).alloc (.cells #[.int .i64 1, .int .i64 (-1), .slice (some ⟨w.heap.size, 0, none⟩) 8 8, .slice none 0 0, .bool false, .int .i64 0] 93)
  have b2 := Blk.new (w.alloc (.cells ((List.replicate 8 (⟨0, 0, 0⟩ : Sl FD Int)).flatMap encR).toArray 101)) [.int .i64 1, .int .i64 (-1), .slice (some ⟨w.heap.size, 0, none⟩) 8 8, .slice none 0 0, .bool false, .int .i64 0] 93
  rw [World.size_alloc] at b2
  exact ⟨w.heap.size + 1, w.heap.size, rfl, ⟨b2, b1, fun o h => (by cases h), by omega, fun o h => (by cases h), fun _ => rfl⟩, ((Keeps.refl _ _).alloc _).alloc _, by omega, Nat.le_refl _⟩

theorem put5_calls {w : World} {bm yb ob : Nat} {T : Tab FD Int} (h : RefAt w bm yb ob T) (hi : Inv LD T) (hsz : ∃ e, e ≤ 38 ∧ T.young.length = 2 ^ e) (k : FD) (hk : keyD k = 5) (hk0 : tagD k = 0) (v : Int) :
    Calls Try.prog 16 #[.pointer (some ⟨bm, 0, none⟩), .int .i64 5, .int .i64 v] w fun e w' =>
      (∃ x, e = .returned x) ∧ ∃ yb' ob', RefAt w' bm yb' ob' (putM LD 0 0 T k v).1 ∧ G.FreshOr [bm, yb, ob] w [bm, yb', ob'] ∧ Keeps [bm, yb, ob] w w' := by
  have hp := put_calls h hi hsz k v
  rw [hk, hk0] at hp
  generalize putM LD 0 0 T k v = r at *
  have HP := Lib.hid hp
  clear hp
  go_enter Try.func16, Try.ntmps16
  go_wp2_with fail
  refine (HP.out).mono ?_
  rintro e w1 ⟨rfl, yb', ob', h1, f1, k1⟩
  go_wp2_with fail
  go_ret2
  exact ⟨⟨_, rfl⟩, yb', ob', h1, f1, k1⟩

def flatA (ps : List (FD × Int)) : List Int := ps.flatMap fun p => [((keyD p.1 : Nat) : Int), p.2]
def tagsA (ps : List (FD × Int)) : List Int := ps.map fun p => ((tagD p.1 : Nat) : Int)

theorem fulls_take {sl : List (Sl FD Int)} {j : Nat} {s : Sl FD Int} (hs : sl[j]? = some s) : fulls (sl.take (j + 1)) = fulls (sl.take j) ++ (if s.st = 1 then [(s.key, s.val)] else []) := by
  have hjl : j < sl.length := (List.getElem?_eq_some_iff.1 hs).1
  rw [List.take_succ_eq_append_getElem hjl, fulls_append]
  rw [List.getElem?_eq_getElem hjl] at hs
  cases hs
  by_cases h : sl[j].st = 1
  · rw [if_pos h, fulls_cons_full _ _ h]; rfl
  · rw [if_neg h, fulls_cons_not _ _ h]; rfl

theorem flatA_len (ps : List (FD × Int)) : (flatA ps).length = 2 * ps.length := by
  induction ps with
  | nil => rfl
  | cons p ps ih => simp only [flatA, List.flatMap_cons, List.length_append, List.length_cons, List.length_nil] at ih ⊢; omega
theorem flatA_append (a b : List (FD × Int)) : flatA (a ++ b) = flatA a ++ flatA b := List.flatMap_append
theorem fulls_take_le (sl : List (Sl FD Int)) (j : Nat) : (fulls (sl.take j)).length ≤ j := by
  have := usedN_le (sl.take j)
  rw [List.length_take] at this
  unfold usedN at this
  omega

theorem cells_two (W : World) (a b : Value) (t : TypeId) : ∀ j u, [a, b][j]? = some u → (W.alloc (.cells #[a, b] t)).cell? ((⟨W.heap.size, 0, none⟩ : Addr).add j) = some u := fun j u hu => by
  have := (Blk.new W [a, b] t).cell j
  rw [hu] at this
  have e : (⟨W.heap.size, 0, none⟩ : Addr).add j = ⟨W.heap.size, j, none⟩ := by
    simp only [Addr.add]; split
    · rename_i h; subst h; rfl
    · simp
  rw [e]
  exact this

theorem RefAt.olds {w : World} {bm yb ob : Nat} {T : Tab FD Int} (h : RefAt w bm yb ob T) : ∃ oa, oldV ob T.old = .slice oa (T.old.getD []).length (T.old.getD []).length ∧ (0 < (T.old.getD []).length → oa = some ⟨ob, 0, none⟩) ∧ (∀ W, Keeps [] w W → ∀ p s, (T.old.getD [])[p]? = some s → W.cell? ⟨ob, p * 4, none⟩ = some (.int .i64 s.st) ∧ W.cell? ⟨ob, p * 4 + 1, none⟩ = some (.int .i64 (keyD s.key : Nat)) ∧ W.cell? ⟨ob, p * 4 + 2, none⟩ = some (.int .i64 (tagD s.key : Nat)) ∧ W.cell? ⟨ob, p * 4 + 3, none⟩ = some (.int .i64 s.val)) := by
  cases ho : T.old with
  | none => exact ⟨none, rfl, fun h => by simp at h, fun W k p s hs => by simp at hs⟩
  | some o => exact ⟨_, rfl, fun _ => rfl, fun W k p s hs => rcell (k.blk (h.ol o ho) (by simp)) hs⟩

theorem tagsA_append (a b : List (FD × Int)) : tagsA (a ++ b) = tagsA a ++ tagsA b := List.map_append
theorem tagsA_len (ps : List (FD × Int)) : (tagsA ps).length = ps.length := List.length_map _

set_option maxRecDepth 100000 in
set_option maxHeartbeats 6400000 in
theorem all_calls {w : World} {bm yb ob : Nat} {T : Tab FD Int} (h : RefAt w bm yb ob T) (hy : T.young.length ≤ 274877906944) (ho : (T.old.getD []).length ≤ 274877906944) :
    Calls Try.prog 17 #[.pointer (some ⟨bm, 0, none⟩)] w fun e w' => ∃ v, e = .returned v ∧ RepI w' v (flatA T.pairs) ∧ (∀ b ∈ fp v, w.heap.size ≤ b) ∧ Keeps [] w w' := by
  obtain ⟨oa, hoa, hop, hoc⟩ := h.olds
  have hcc : ∀ W, Keeps [] w W → W.cell? ⟨bm, 2, none⟩ = some (.slice (some ⟨yb, 0, none⟩) T.young.length T.young.length) ∧ W.cell? ⟨bm, 3, none⟩ = some (.slice oa (T.old.getD []).length (T.old.getD []).length) := by
    intro W k
    have c3 := (h.keeps k (by simp)).bk.cell 3
    have c2 := (h.keeps k (by simp)).bk.cell 2
    simp only [List.getElem?_cons_zero, List.getElem?_cons_succ, hoa] at c2 c3
    exact ⟨c2, c3⟩
  have hyc := fun (W : World) (k : Keeps [] w W) (p : Nat) (s : Sl FD Int) (hs : T.young[p]? = some s) => rcell (k.blk h.yo (by simp)) hs
  have hpp : T.pairs = fulls (T.old.getD []) ++ fulls T.young := by unfold Tab.pairs Tab.oldFulls; cases T.old <;> rfl
  rw [hpp]
  have HCC := Lib.hid hcc
  have HYC := Lib.hid hyc
  have HOC := Lib.hid hoc
  have HOP := Lib.hid hop
  clear hcc hyc hoc hop hoa hpp h
  generalize T.old.getD [] = ol at *
  generalize T.young = yl at *
  generalize hn1 : ol.length = n1 at *
  generalize hn2 : yl.length = n2 at *
  have HN1 := Lib.hid hn1
  have HN2 := Lib.hid hn2
  clear hn1 hn2
  go_enter Try.func17, Try.ntmps17
  go_wp2
  go_loopw [3, 4] (fun lv iv wr => ∃ j : Nat, j ≤ n1 ∧ iv = .int .i64 j ∧ RepI wr lv (flatA (fulls (ol.take j))) ∧ (∀ b ∈ fp lv, w.heap.size ≤ b) ∧ Keeps [] w wr) (fun _ iv _ => n1 - (intOf iv).toNat)
  case atStart => exact ⟨0, by omega, rfl, Rep.nil, by simp [fp, Value.ownBlock], Keeps.refl _ _⟩
  case round =>
    obtain ⟨j, hj, rfl, hr, hf, hkp⟩ := hrel
    obtain ⟨c2, c3⟩ := HCC.out wr hkp
    by_cases hlt : j < n1
    · obtain ⟨s, hs⟩ : ∃ s, ol[j]? = some s := ⟨_, List.getElem?_eq_getElem (by rw [HN1.out]; exact hlt)⟩
      obtain ⟨s0, s1, s2, s3⟩ := HOC.out wr hkp j s hs
      obtain rfl := HOP.out (by omega)
      have ht := fulls_take hs
      have hlen := fulls_take_le ol j
      have hfl := flatA_len (fulls (ol.take j))
      have HS := Lib.hid hs
      have HKP := Lib.hid hkp
      have HR := Lib.hid hr
      have HF := Lib.hid hf
      clear hs hkp hr hf
      by_cases h1 : s.st = 1
      · rw [if_pos h1] at ht
        rw [h1] at s0
        have HT := Lib.hid (show flatA (fulls (ol.take (j + 1))) = flatA (fulls (ol.take j)) ++ [((keyD s.key : Nat) : Int), s.val] by rw [ht, flatA_append]; rfl)
        clear ht h1
        generalize flatA (fulls (ol.take j)) = L at *
        have hLl : L.length ≤ 1649267441664 := by (try simp only [List.length_append] at hfl); have := hlen; omega
        have HRD := Lib.hid (fun (W : World) (k : Keeps [] wr W) => HR.out.keeps k (by simp))
        clear hfl hlen
        go_wp2
        go_region_law (refine step_rep_append rfl (.tmp 24) (.tmp 41) 40 rfl (.int .i64 0) 8 Try.underlying40 info3 rfl (by decide) u3 L (by simp [Act.eval, Act.put]) (HRD.out _ ((Keeps.refl _ _).alloc _).drew) (fun _ => rfl) ⟨wr.heap.size, 0, none⟩ 2 2 [((keyD s.key : Nat) : Int), s.val] (by simp [Act.eval, Act.put]) rfl (cells_two _ _ _ _) (by simp [Value.oneCell']) (by decide) (by unfold maxLen; omega) (by omega) ?_; intro g2 cap2 w2 r2 k2 a2 lg q2; have R2 := Lib.hid r2; have K2 := Lib.hid k2; have A2 := Lib.hid a2; clear r2 k2 a2)
        all_goals
          go_wp2
          go_roundw
          case rel =>
            have ha := A2.out
            have hff := HF.out
            have hsz := HKP.out.size
            refine ⟨j + 1, by omega, by go_num, by rw [HT.out]; exact R2.out, ?_, ((HKP.out.alloc _).drew).trans K2.out (fun x hx hlt => by have := hff x hx; omega)⟩
            intro b hb
            have e : fp (Value.slice (some (⟨g2, 0, none⟩ : Addr)) (L.length + 2) cap2) = [g2] := rfl
            rw [e] at hb
            simp only [List.mem_singleton] at hb
            subst hb
            rcases ha with q | q
            · exact hff _ q
            · have e2 : ∀ (W : World), W.drew.heap.size = W.heap.size := fun _ => rfl
              try rw [e2] at q
              rw [World.size_alloc] at q
              omega
          case measure => simp [intOf]; omega
      · have hb : ((s.st : Int) == 1) = false := by rw [beq_eq_false_iff_ne]; omega
        rw [if_neg h1, List.append_nil] at ht
        have HT := Lib.hid ht
        clear ht h1 hfl hlen
        go_wp2
        go_roundw
        case rel => exact ⟨j + 1, by omega, by go_num, by rw [HT.out]; exact HR.out, HF.out, HKP.out⟩
        case measure => simp [intOf]; omega
    · obtain rfl : j = n1 := by omega
      have e1 : ol.take j = ol := by rw [← HN1.out]; exact List.take_length
      rw [e1] at hr
      have HOL := Lib.hid (show (fulls ol).length ≤ 274877906944 by have := usedN_le ol; unfold usedN at this; have := HN1.out; omega)
      have HR0 := Lib.hid hr
      have HF0 := Lib.hid hf
      have HKP0 := Lib.hid hkp
      clear hr hf hkp e1 hlt
      go_wp2
      go_loopw [3, 5] (fun lv iv wr => ∃ j : Nat, j ≤ n2 ∧ iv = .int .i64 j ∧ RepI wr lv (flatA (fulls ol ++ fulls (yl.take j))) ∧ (∀ b ∈ fp lv, w.heap.size ≤ b) ∧ Keeps [] w wr) (fun _ iv _ => n2 - (intOf iv).toNat)
      case atStart => exact ⟨0, by omega, rfl, by rw [show fulls ol ++ fulls (yl.take 0) = fulls ol by simp [fulls]]; exact HR0.out, HF0.out, HKP0.out⟩
      case round =>
        obtain ⟨j, hj, rfl, hr, hf, hkp⟩ := hrel
        clear c2 c3
        obtain ⟨c2, c3⟩ := HCC.out wr hkp
        by_cases hlt : j < n2
        · obtain ⟨s, hs⟩ : ∃ s, yl[j]? = some s := ⟨_, List.getElem?_eq_getElem (by rw [HN2.out]; exact hlt)⟩
          obtain ⟨s0, s1, s2, s3⟩ := HYC.out wr hkp j s hs
          have ht := fulls_take hs
          have hlen := fulls_take_le yl j
          have hfl := flatA_len (fulls ol ++ fulls (yl.take j))
          have HS := Lib.hid hs
          have HKP := Lib.hid hkp
          have HR := Lib.hid hr
          have HF := Lib.hid hf
          clear hs hkp hr hf
          by_cases h1 : s.st = 1
          · rw [if_pos h1] at ht
            rw [h1] at s0
            have HT := Lib.hid (show flatA (fulls ol ++ fulls (yl.take (j + 1))) = flatA (fulls ol ++ fulls (yl.take j)) ++ [((keyD s.key : Nat) : Int), s.val] by rw [ht, ← List.append_assoc, flatA_append]; rfl)
            clear ht h1
            generalize flatA (fulls ol ++ fulls (yl.take j)) = L at *
            have hLl : L.length ≤ 1649267441664 := by (try simp only [List.length_append] at hfl); have := hlen; have := HOL.out; omega
            have HRD := Lib.hid (fun (W : World) (k : Keeps [] wr W) => HR.out.keeps k (by simp))
            clear hfl hlen
            go_wp2
            go_region_law (refine step_rep_append rfl (.tmp 61) (.tmp 78) 40 rfl (.int .i64 0) 8 Try.underlying40 info3 rfl (by decide) u3 L (by simp [Act.eval, Act.put]) (HRD.out _ ((Keeps.refl _ _).alloc _).drew) (fun _ => rfl) ⟨wr.heap.size, 0, none⟩ 2 2 [((keyD s.key : Nat) : Int), s.val] (by simp [Act.eval, Act.put]) rfl (cells_two _ _ _ _) (by simp [Value.oneCell']) (by decide) (by unfold maxLen; omega) (by omega) ?_; intro g2 cap2 w2 r2 k2 a2 lg q2; have R2 := Lib.hid r2; have K2 := Lib.hid k2; have A2 := Lib.hid a2; clear r2 k2 a2)
            all_goals
              go_wp2
              go_roundw
              case rel =>
                have ha := A2.out
                have hff := HF.out
                have hsz := HKP.out.size
                refine ⟨j + 1, by omega, by go_num, by rw [HT.out]; exact R2.out, ?_, ((HKP.out.alloc _).drew).trans K2.out (fun x hx hlt => by have := hff x hx; omega)⟩
                intro b hb
                have e : fp (Value.slice (some (⟨g2, 0, none⟩ : Addr)) (L.length + 2) cap2) = [g2] := rfl
                rw [e] at hb
                simp only [List.mem_singleton] at hb
                subst hb
                rcases ha with q | q
                · exact hff _ q
                · have e2 : ∀ (W : World), W.drew.heap.size = W.heap.size := fun _ => rfl
                  try rw [e2] at q
                  rw [World.size_alloc] at q
                  omega
              case measure => simp [intOf]; omega
          · have hb : ((s.st : Int) == 1) = false := by rw [beq_eq_false_iff_ne]; omega
            rw [if_neg h1, List.append_nil] at ht
            have HT := Lib.hid ht
            clear ht h1 hfl hlen
            go_wp2
            go_roundw
            case rel => exact ⟨j + 1, by omega, by go_num, by rw [HT.out]; exact HR.out, HF.out, HKP.out⟩
            case measure => simp [intOf]; omega
        · obtain rfl : j = n2 := by omega
          have e1 : yl.take j = yl := by rw [← HN2.out]; exact List.take_length
          rw [e1] at hr
          have HR := Lib.hid hr
          clear hr
          go_wp2
          go_ret
          exact ⟨_, rfl, HR.out, hf, hkp⟩

set_option maxRecDepth 100000 in
set_option maxHeartbeats 6400000 in
theorem tags_calls {w : World} {bm yb ob : Nat} {T : Tab FD Int} (h : RefAt w bm yb ob T) (hy : T.young.length ≤ 274877906944) (ho : (T.old.getD []).length ≤ 274877906944) :
    Calls Try.prog 18 #[.pointer (some ⟨bm, 0, none⟩)] w fun e w' => ∃ v, e = .returned v ∧ RepI w' v (tagsA T.pairs) ∧ (∀ b ∈ fp v, w.heap.size ≤ b) ∧ Keeps [] w w' := by
  obtain ⟨oa, hoa, hop, hoc⟩ := h.olds
  have hcc : ∀ W, Keeps [] w W → W.cell? ⟨bm, 2, none⟩ = some (.slice (some ⟨yb, 0, none⟩) T.young.length T.young.length) ∧ W.cell? ⟨bm, 3, none⟩ = some (.slice oa (T.old.getD []).length (T.old.getD []).length) := by
    intro W k
    have c3 := (h.keeps k (by simp)).bk.cell 3
    have c2 := (h.keeps k (by simp)).bk.cell 2
    simp only [List.getElem?_cons_zero, List.getElem?_cons_succ, hoa] at c2 c3
    exact ⟨c2, c3⟩
  have hyc := fun (W : World) (k : Keeps [] w W) (p : Nat) (s : Sl FD Int) (hs : T.young[p]? = some s) => rcell (k.blk h.yo (by simp)) hs
  have hpp : T.pairs = fulls (T.old.getD []) ++ fulls T.young := by unfold Tab.pairs Tab.oldFulls; cases T.old <;> rfl
  rw [hpp]
  have HCC := Lib.hid hcc
  have HYC := Lib.hid hyc
  have HOC := Lib.hid hoc
  have HOP := Lib.hid hop
  clear hcc hyc hoc hop hoa hpp h
  generalize T.old.getD [] = ol at *
  generalize T.young = yl at *
  generalize hn1 : ol.length = n1 at *
  generalize hn2 : yl.length = n2 at *
  have HN1 := Lib.hid hn1
  have HN2 := Lib.hid hn2
  clear hn1 hn2
  go_enter Try.func18, Try.ntmps18
  go_wp2
  go_loopw [3, 4] (fun lv iv wr => ∃ j : Nat, j ≤ n1 ∧ iv = .int .i64 j ∧ RepI wr lv (tagsA (fulls (ol.take j))) ∧ (∀ b ∈ fp lv, w.heap.size ≤ b) ∧ Keeps [] w wr) (fun _ iv _ => n1 - (intOf iv).toNat)
  case atStart => exact ⟨0, by omega, rfl, Rep.nil, by simp [fp, Value.ownBlock], Keeps.refl _ _⟩
  case round =>
    obtain ⟨j, hj, rfl, hr, hf, hkp⟩ := hrel
    obtain ⟨c2, c3⟩ := HCC.out wr hkp
    by_cases hlt : j < n1
    · obtain ⟨s, hs⟩ : ∃ s, ol[j]? = some s := ⟨_, List.getElem?_eq_getElem (by rw [HN1.out]; exact hlt)⟩
      obtain ⟨s0, s1, s2, s3⟩ := HOC.out wr hkp j s hs
      obtain rfl := HOP.out (by omega)
      have ht := fulls_take hs
      have hlen := fulls_take_le ol j
      have hfl := tagsA_len (fulls (ol.take j))
      have HS := Lib.hid hs
      have HKP := Lib.hid hkp
      have HR := Lib.hid hr
      have HF := Lib.hid hf
      clear hs hkp hr hf
      by_cases h1 : s.st = 1
      · rw [if_pos h1] at ht
        rw [h1] at s0
        have HT := Lib.hid (show tagsA (fulls (ol.take (j + 1))) = tagsA (fulls (ol.take j)) ++ [((tagD s.key : Nat) : Int)] by rw [ht, tagsA_append]; rfl)
        clear ht h1
        generalize tagsA (fulls (ol.take j)) = L at *
        have hLl : L.length ≤ 1649267441664 := by (try simp only [List.length_append] at hfl); have := hlen; omega
        have HRD := Lib.hid (fun (W : World) (k : Keeps [] wr W) => HR.out.keeps k (by simp))
        clear hfl hlen
        go_wp2_with (refine wpList_rep_append rfl (.tmp 24) (.tmp 33) 40 rfl (.int .i64 0) 8 Try.underlying40 info3 rfl (by decide) u3 L rfl (HRD.out _ ((Keeps.refl _ _).alloc _)) (fun _ => rfl) ⟨wr.heap.size, 0, none⟩ 1 1 [((tagD s.key : Nat) : Int)] rfl rfl (cell_one_new _ _ _) (by simp [Value.oneCell']) (by decide) (by unfold maxLen; omega) (by omega) ?_; intro g2 cap2 w2 r2 k2 a2 lg q2; have R2 := Lib.hid r2; have K2 := Lib.hid k2; have A2 := Lib.hid a2; clear r2 k2 a2)
        go_roundw
        case rel =>
          have ha := A2.out
          have hff := HF.out
          have hsz := HKP.out.size
          refine ⟨j + 1, by omega, by go_num, by rw [HT.out]; exact R2.out, ?_, (HKP.out.alloc _).trans K2.out (fun x hx hlt => by have := hff x hx; omega)⟩
          intro b hb
          have e : fp (Value.slice (some (⟨g2, 0, none⟩ : Addr)) (L.length + 1) cap2) = [g2] := rfl
          rw [e] at hb
          simp only [List.mem_singleton] at hb
          subst hb
          rcases ha with q | q
          · exact hff _ q
          · have e2 : ∀ (W : World), W.drew.heap.size = W.heap.size := fun _ => rfl
            try rw [e2] at q
            rw [World.size_alloc] at q
            omega
        case measure => simp [intOf]; omega
      · have hb : ((s.st : Int) == 1) = false := by rw [beq_eq_false_iff_ne]; omega
        rw [if_neg h1, List.append_nil] at ht
        have HT := Lib.hid ht
        clear ht h1 hfl hlen
        go_wp2
        go_roundw
        case rel => exact ⟨j + 1, by omega, by go_num, by rw [HT.out]; exact HR.out, HF.out, HKP.out⟩
        case measure => simp [intOf]; omega
    · obtain rfl : j = n1 := by omega
      have e1 : ol.take j = ol := by rw [← HN1.out]; exact List.take_length
      rw [e1] at hr
      have HOL := Lib.hid (show (fulls ol).length ≤ 274877906944 by have := usedN_le ol; unfold usedN at this; have := HN1.out; omega)
      have HR0 := Lib.hid hr
      have HF0 := Lib.hid hf
      have HKP0 := Lib.hid hkp
      clear hr hf hkp e1 hlt
      go_wp2
      go_loopw [3, 5] (fun lv iv wr => ∃ j : Nat, j ≤ n2 ∧ iv = .int .i64 j ∧ RepI wr lv (tagsA (fulls ol ++ fulls (yl.take j))) ∧ (∀ b ∈ fp lv, w.heap.size ≤ b) ∧ Keeps [] w wr) (fun _ iv _ => n2 - (intOf iv).toNat)
      case atStart => exact ⟨0, by omega, rfl, by rw [show fulls ol ++ fulls (yl.take 0) = fulls ol by simp [fulls]]; exact HR0.out, HF0.out, HKP0.out⟩
      case round =>
        obtain ⟨j, hj, rfl, hr, hf, hkp⟩ := hrel
        clear c2 c3
        obtain ⟨c2, c3⟩ := HCC.out wr hkp
        by_cases hlt : j < n2
        · obtain ⟨s, hs⟩ : ∃ s, yl[j]? = some s := ⟨_, List.getElem?_eq_getElem (by rw [HN2.out]; exact hlt)⟩
          obtain ⟨s0, s1, s2, s3⟩ := HYC.out wr hkp j s hs
          have ht := fulls_take hs
          have hlen := fulls_take_le yl j
          have hfl := tagsA_len (fulls ol ++ fulls (yl.take j))
          have HS := Lib.hid hs
          have HKP := Lib.hid hkp
          have HR := Lib.hid hr
          have HF := Lib.hid hf
          clear hs hkp hr hf
          by_cases h1 : s.st = 1
          · rw [if_pos h1] at ht
            rw [h1] at s0
            have HT := Lib.hid (show tagsA (fulls ol ++ fulls (yl.take (j + 1))) = tagsA (fulls ol ++ fulls (yl.take j)) ++ [((tagD s.key : Nat) : Int)] by rw [ht, ← List.append_assoc, tagsA_append]; rfl)
            clear ht h1
            generalize tagsA (fulls ol ++ fulls (yl.take j)) = L at *
            have hLl : L.length ≤ 1649267441664 := by (try simp only [List.length_append] at hfl); have := hlen; have := HOL.out; omega
            have HRD := Lib.hid (fun (W : World) (k : Keeps [] wr W) => HR.out.keeps k (by simp))
            clear hfl hlen
            go_wp2_with (refine wpList_rep_append rfl (.tmp 53) (.tmp 62) 40 rfl (.int .i64 0) 8 Try.underlying40 info3 rfl (by decide) u3 L rfl (HRD.out _ ((Keeps.refl _ _).alloc _)) (fun _ => rfl) ⟨wr.heap.size, 0, none⟩ 1 1 [((tagD s.key : Nat) : Int)] rfl rfl (cell_one_new _ _ _) (by simp [Value.oneCell']) (by decide) (by unfold maxLen; omega) (by omega) ?_; intro g2 cap2 w2 r2 k2 a2 lg q2; have R2 := Lib.hid r2; have K2 := Lib.hid k2; have A2 := Lib.hid a2; clear r2 k2 a2)
            go_roundw
            case rel =>
              have ha := A2.out
              have hff := HF.out
              have hsz := HKP.out.size
              refine ⟨j + 1, by omega, by go_num, by rw [HT.out]; exact R2.out, ?_, (HKP.out.alloc _).trans K2.out (fun x hx hlt => by have := hff x hx; omega)⟩
              intro b hb
              have e : fp (Value.slice (some (⟨g2, 0, none⟩ : Addr)) (L.length + 1) cap2) = [g2] := rfl
              rw [e] at hb
              simp only [List.mem_singleton] at hb
              subst hb
              rcases ha with q | q
              · exact hff _ q
              · have e2 : ∀ (W : World), W.drew.heap.size = W.heap.size := fun _ => rfl
                try rw [e2] at q
                rw [World.size_alloc] at q
                omega
            case measure => simp [intOf]; omega
          · have hb : ((s.st : Int) == 1) = false := by rw [beq_eq_false_iff_ne]; omega
            rw [if_neg h1, List.append_nil] at ht
            have HT := Lib.hid ht
            clear ht h1 hfl hlen
            go_wp2
            go_roundw
            case rel => exact ⟨j + 1, by omega, by go_num, by rw [HT.out]; exact HR.out, HF.out, HKP.out⟩
            case measure => simp [intOf]; omega
        · obtain rfl : j = n2 := by omega
          have e1 : yl.take j = yl := by rw [← HN2.out]; exact List.take_length
          rw [e1] at hr
          have HR := Lib.hid hr
          clear hr
          go_wp2
          go_ret
          exact ⟨_, rfl, HR.out, hf, hkp⟩

end Go.Proofs.Ytaomaeobgfeoiaa.R
