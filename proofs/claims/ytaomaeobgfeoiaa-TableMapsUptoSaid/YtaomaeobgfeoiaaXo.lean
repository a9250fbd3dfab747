import Derived.Maps.AppendAt
import Derived.Test.YtaomaeobgfeoiaaXn
namespace Go.Proofs.Ytaomaeobgfeoiaa.X
open Go.RowKit Pl Go.Shelf
attribute [local go_sem] Oper.semAt_some

def flatP (ps : List (Int × Int)) : List Int := ps.flatMap fun p => [p.1, p.2]
theorem flatP_snoc (ps : List (Int × Int)) (x : Int × Int) : flatP (ps ++ [x]) = flatP ps ++ [x.1, x.2] := by simp [flatP]
theorem flatP_len (ps : List (Int × Int)) : (flatP ps).length = 2 * ps.length := by
  induction ps with
  | nil => rfl
  | cons p ps ih => simp only [flatP, List.flatMap_cons, List.length_append, List.length_cons, List.length_nil] at ih ⊢; omega

theorem all_stops (n : Nat) (hn : 1 ≤ n) (bx bt ya ys oa os : Nat) (hv : Value) (T : Tab Int Int) (w : World) (hbx : Blk w bx [.pointer (some ⟨bt, 0, none⟩)] 57) (hT : TabAt w hv bt ya ys oa os T) :
    SeqStopsK Fence.wide n Try.prog 82 #[.pointer (some ⟨bx, 0, none⟩)] (fun x : Int × Int => #[Value.int .i64 x.1, Value.int .i64 x.2]) Kp (fun ys => ys = T.pairs) (fun _ => True) T.pairs.length w := fun l J Jx W hW hJ _ hY h0 => by
  have hk : Keeps [] w W := ⟨hW.os, hW.tape, hW.output, hW.size, fun k hk _ => hW.block k hk⟩
  exact all1_in n hn l bx bt ya ys oa os hv T J Jx W hJ hY (hk.blk hbx (by simp)) (hT.keeps0 hk) h0

theorem cells_new (W : World) (cs : List Value) (t : TypeId) : ∀ j u, cs[j]? = some u → (W.alloc (.cells cs.toArray t)).cell? ((⟨W.heap.size, 0, none⟩ : Addr).add j) = some u := fun j u hu => by
  have := (Blk.new W cs t).cell j
  rw [hu] at this
  have e : (⟨W.heap.size, 0, none⟩ : Addr).add j = ⟨W.heap.size, j, none⟩ := by
    simp only [Addr.add]; split
    · rename_i h; subst h; rfl
    · simp
  rw [e, this]

theorem cell_back {w1 : World} {A B : Nat} {v u : Value} (h : (w1.setCell ⟨B, 0, none⟩ v).cell? ⟨A, 0, none⟩ = some u) (hne : A ≠ B) : w1.cell? ⟨A, 0, none⟩ = some u := by
  unfold World.cell? at h ⊢
  rwa [Go.heap_setCell_other _ _ _ _ hne] at h

theorem rowBase {W : World} {base base' m k : Nat} {e : TypeId} {v : Value} {xs : List Value} (h : W.ownsRow base e m v k xs) (hb : base' ≤ base) : W.ownsRow base' e m v k xs := by
  refine ⟨h.1, ?_⟩
  rcases h.2 with q | ⟨g, cap, cur, h1, h2, r⟩
  · exact .inl q
  · exact .inr ⟨g, cap, cur, h1, Nat.le_trans hb h2, r⟩

/-- Behind an append to a row and its store. -/
theorem Kp.appended {W w1 : World} {base B m : Nat} {v v' u : Value} {k : Nat} {xs : List Value} {tmp : Obj} (hrow : W.ownsRow base 3 m v k xs) (hgrow : (W.alloc tmp).grownBy w1 v.ownBlock) (hB : Boxed W B 40 u) : Kp W (w1.setCell ⟨B, 0, none⟩ v') := by
  intro b cs t h1 h2 hb
  have hb1 : Blk (W.alloc tmp) b cs t := hb.alloc _
  have hne : some b ≠ v.ownBlock := by
    rcases hrow.2 with ⟨rfl, _⟩ | ⟨g, cap, cur, rfl, _, hgb, _⟩
    · simp [Value.ownBlock]
    · intro e'
      obtain rfl : b = g := by simpa [Value.ownBlock] using e'
      have hb' := hb
      unfold Blk at hb'
      rw [hgb] at hb'
      simp at hb'
      exact h1 hb'.2.symm
  have hb2 : Blk w1 b cs t := (hgrow.block b hb1.lt hne).trans hb1
  refine hb2.set_other (fun e => ?_) _ _
  subst e
  have hb' := hb
  unfold Blk at hb'
  rw [show W.heap[b]? = _ from hB] at hb'
  simp at hb'
  exact h2 hb'.2.symm

set_option maxRecDepth 100000 in
set_option maxHeartbeats 2000000 in
theorem pairs_calls {w : World} {hv : Value} {bt ya ys oa os : Nat} {T : Tab Int Int} (hT : TabAt w hv bt ya ys oa os T) (hN : T.pairs.length ≤ 1099511627776) :
    Calls Try.prog 32 #[.pointer (some ⟨bt, 0, none⟩), .int .i64 0] w fun e w' => ∃ v, e = .returned v ∧ w'.ownsRow w.heap.size 3 1 v (flatP T.pairs).length ((flatP T.pairs).map (Value.int .i64)) ∧ Keeps [] w w' := by
  obtain ⟨i0, hi, hz0, hz1, hz2⟩ := info_parts info3
  have heq : ∀ w bx, (binOp .eql 122 (.func (.func 82) #[] #[.pointer (some ⟨bx, 0, none⟩)]) .nilFunc).run Try.prog w = .ok (.bool false) w := fun _ _ => by kernel_rfl
  refine (callsIn_wide (n := 3)).1 ?_
  refine callsIn_of_wp_marks Try.func32 rfl trivial ?_ rfl
  simp only [Try.ntmps32, List.size_toArray, List.length_cons, List.length_nil, Nat.reduceAdd, Nat.reduceSub, Array.replicate_succ, Array.replicate_zero, List.push_toArray, List.append_toArray, List.nil_append, List.cons_append]
  gi_wp2_with (refine ⟨trivial, ?_⟩; gi_at_call 66; refine (callsIn_wide.2 (all_in _ bt)).mono ?_; rintro e w' ⟨rfl, rfl⟩)
  have hk2 : Keeps [] w (((w.alloc (Obj.cells #[Value.int IntKind.i64 0] 3)).alloc (Obj.cells #[Value.slice none 0 0] 40)).alloc (Obj.cells #[Value.pointer (some { block := bt, off := 0 })] 57)) := (((Keeps.refl _ _).alloc _).alloc _).alloc _
  have bS := ((Boxed.new w 3 (.int .i64 0)).alloc (Obj.cells #[Value.slice none 0 0] 40)).alloc (Obj.cells #[Value.pointer (some { block := bt, off := 0 })] 57)
  have bO := (Boxed.new (w.alloc (Obj.cells #[Value.int IntKind.i64 0] 3)) 40 (.slice none 0 0)).alloc (Obj.cells #[Value.pointer (some { block := bt, off := 0 })] 57)
  have bA := Blk.new ((w.alloc (Obj.cells #[Value.int IntKind.i64 0] 3)).alloc (Obj.cells #[Value.slice none 0 0] 40)) [Value.pointer (some { block := bt, off := 0 })] 57
  rw [World.size_alloc] at bO bA
  rw [World.size_alloc] at bA
  have hT2 := hT.keeps0 hk2
  have hB0 : Below w.heap.size w (((w.alloc (Obj.cells #[Value.int IntKind.i64 0] 3)).alloc (Obj.cells #[Value.slice none 0 0] 40)).alloc (Obj.cells #[Value.pointer (some { block := bt, off := 0 })] 57)) := (((Below.refl _ w).alloc (Nat.le_refl _) _).alloc (by simp) _).alloc (by simp; omega) _
  refine wpIn_rangeFunc_ownG rfl (by omega) (gf := 82) (lb := #[.pointer (some ⟨w.heap.size + 1 + 1, 0, none⟩)]) rfl trivial (enters_of Try.func82 (by kernel_rfl) rfl)
    (all_stops 2 (by omega) _ bt ya ys oa os hv T _ bA hT2) Kp.trans (fun W l o o' _ h ho _ => Kp.bk W l o o' h ho) (Below.refl _ _) (fun _ => rfl)
    (fun pre W => ((∃ v, Boxed W (w.heap.size + 1) 40 v ∧ W.ownsRow (w.heap.size + 1) 3 1 v (flatP pre).length ((flatP pre).map (Value.int .i64)) ∧ True) ∧ Boxed W w.heap.size 3 (.int .i64 0)) ∧ Below w.heap.size w W)
    (fun _ _ _ => False)
    (OwnFrom.and (OwnFrom.and (Own.from (holdsRow_own (w.heap.size + 1) (w.heap.size + 1) 40 3 1 (fun pre => (flatP pre).length) (fun pre => (flatP pre).map (Value.int .i64)) (fun _ _ => True)) _) (Own.from (boxed_own _ _ _) _)) (ownFrom_below (Nat.le_refl _) (by simp; omega)))
    (fun _ _ _ _ _ hs _ _ => hs)
    ⟨⟨⟨_, bO, World.ownsRow_nil _ _ _ _, trivial⟩, bS⟩, hB0⟩
    (fun x => { tmps := #[Value.pointer (some { block := bt, off := 0 }), Value.int IntKind.i64 0, undef,
          Value.pointer (some { block := w.heap.size, off := 0 }), Value.slice none 0 0,
          Value.pointer (some { block := w.heap.size + 1, off := 0 }),
          Value.func (Fn.func 82) #[] #[Value.pointer (some { block := w.heap.size + 1 + 1, off := 0 })], .int .i64 x.1, .int .i64 x.2,
          Value.pointer (some { block := bt, off := 0 }),
          Value.func (Fn.func 82) #[] #[Value.pointer (some { block := w.heap.size + 1 + 1, off := 0 })],
          Value.func (Fn.func 82) #[] #[Value.pointer (some { block := w.heap.size + 1 + 1, off := 0 })],
          Value.bool false, undef,
          Value.func (Fn.func 82) #[] #[Value.pointer (some { block := w.heap.size + 1 + 1, off := 0 })], .int .i64 x.1, .int .i64 x.2,
          undef, undef, undef, undef, undef, undef, undef, undef, undef, undef, undef], defers := [] }) ?assign ?body ?done ?stop
  case assign =>
    intro l x W K hK
    gi_wp2
    exact hK
  case body =>
    rintro l pre x W ⟨⟨⟨v, hv', hrow, _⟩, hs⟩, hB⟩ hlt
    have hc := hv'.cell
    have hln := flatP_len pre
    obtain ⟨k, hk⟩ : ∃ k, k = (flatP pre).length := ⟨_, rfl⟩
    rw [← hk] at hrow hln
    have hsz := hB.size
    have hsc := hs.cell
    have hpk : pre.length ≤ 1099511627776 := by omega
    clear hN hlt
    have hml : k + 2 ≤ maxLen := by unfold maxLen; omega
    have hby : (k + 2) * 8 ≤ 140737488355328 := by omega
    have hWs := hv'.lt
    have hbs : ∀ o, w.heap.size + 1 ≤ (W.alloc o).heap.size := fun o => by rw [World.size_alloc]; omega
    have hone : ∀ u ∈ [Value.int .i64 x.1, Value.int .i64 x.2], u.oneCell' = true := by simp [Value.oneCell']
    gi_wp2_with (gi_at_builtin; refine wpListIn_append_own _ rfl _ _ 40 rfl (w.heap.size + 1) 3 i0 (.int .i64 0) 1 8 Try.underlying40 hi hz0 hz1 hz2 rfl (by decide) v k _ rfl (hrow.alloc _) ⟨W.heap.size, 0, none⟩ 2 2 [.int .i64 x.1, .int .i64 x.2] rfl rfl (cells_new _ _ _) hone hml hby (hbs _) ?_; intro v' w1 hown' hgrow _; obtain ⟨g', cap', rfl⟩ := ownsRow_succ hown'; obtain ⟨hv1, hv2, hr2, hk2, hb2⟩ := hv'.appended (by decide) hrow (by omega) (Nat.le_refl _) hown' hgrow; have hkp := fun v' => Kp.appended (v' := v') hrow hgrow hv'; have hc1 := hv1.cell; have hf1 := hv1.frozen; have hs1 := cell_back (B := w.heap.size + 1) ((hb2.cell (p := ⟨w.heap.size, 0, none⟩) (by simp)).trans hsc) (by simp))
    rw [← hln]
    refine ⟨hk2.from _, hkp _, ⟨⟨_, hv2, ?_, trivial⟩, (hb2.block w.heap.size (by omega)).trans hs⟩, hB.trans (hb2.mono (by omega))⟩
    rw [flatP_snoc, List.length_append, ← hk, List.map_append]
    exact rowBase hr2 (Nat.le_refl _)
  case done =>
    rintro D ys W hD rfl ⟨⟨⟨v, hv', hrow, _⟩, hs⟩, hB⟩ hK
    have hc := hv'.cell
    gi_wp2
    refine ⟨by simp, .inl ⟨_, _, rfl, run_takeDeferred hK, ?_⟩⟩
    have hBB := hB.trans (belowK_b (w := w) (Nat.le_refl _) W D _ (.deferred none) (by simp at hD; omega) hK rfl rfl)
    exact ⟨_, results_tmp rfl _ _ _, v, rfl, rowBase (ownsRow_putObj hrow _ hK rfl) (by omega), ⟨hBB.os, hBB.tape, hBB.output, hBB.size, fun k hk _ => hBB.block k hk⟩⟩
  case stop =>
    rintro D c pre W _ _ h _
    exact h.elim
end Go.Proofs.Ytaomaeobgfeoiaa.X
