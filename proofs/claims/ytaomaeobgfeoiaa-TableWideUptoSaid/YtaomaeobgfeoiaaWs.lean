/- TableWide: the law whole. -/
import Derived.Test.YtaomaeobgfeoiaaWt
import Derived.Deep.RegionLaw
import Derived.RangeFuncWrites
namespace Go.Proofs.Ytaomaeobgfeoiaa.W
open Go.RowKit Pl Go.Shelf
attribute [local go_sem] Oper.semAt_some

theorem keeps0_trans {F : List Nat} {a b c : World} (h : Keeps [] a b) (k : Keeps F b c) : Keeps F a c :=
  (h.mono (G := F) (by simp)).trans k (fun _ q _ => q)

theorem ownFrom_keeps0 {β : Type} {F : List Nat} {B : Nat} {w₀ : World} (hB : w₀.heap.size ≤ B) : OwnFrom B (fun (_ : β) W => Keeps F w₀ W) := fun _ W W' row hs hg hr => by
  refine ⟨hg.os.trans hs.os, hg.tape.trans hs.tape, hg.output.trans hs.output, Nat.le_trans hs.size hg.size, fun k hk hn => ?_⟩
  refine (hg.block k (Nat.lt_of_lt_of_le hk hs.size) (fun e => ?_)).trans (hs.block k hk hn)
  have := (hr k e.symm).1
  omega

theorem AT.get_lit {X0 bt : Nat} {G : List Nat} {P : List Wd} {m : Nat} {W : World} (h : AT X0 bt G P m W) {d : Wd} (hd : d ∈ P) (ho : d.out = false) {ao : Option Addr} {len cap : Nat} (hv : d.val = ⟨ao, len, cap⟩) :
    Calls Try.prog 39 #[.pointer (some ⟨bt, 0, none⟩), aggK d.key] W fun e W' => e = .returned (.tuple #[.slice ao len cap, .bool true]) ∧ Keeps [] W W' := by
  have := h.get hd
  rw [ho, hv] at this
  exact this

theorem mem_upd {P Q S : List Wd} {s : Wd} (h : ∀ d ∈ Q, d = s ∨ d ∈ P) (h1 : s ∈ S) (h2 : ∀ d ∈ P, d ∈ S) : ∀ d ∈ Q, d ∈ S := fun d hd => (h d hd).elim (fun q => q ▸ h1) (h2 d)

/-- The state of the law's loop. -/
structure Lp (w : World) (bt : Nat) (pv : Value) (P : List Wd) (i : Nat) (W : World) : Prop where
  R : RepD W pv P
  A : AT w.heap.size bt (fp pv) P i W
  X : Boxed W w.heap.size 4 (.bool false)
  B : Below w.heap.size w W
  fl : ∀ b ∈ fp pv, w.heap.size < b
theorem Lp.keeps0 {w : World} {bt : Nat} {pv : Value} {P : List Wd} {i : Nat} {W W' : World} (h : Lp w bt pv P i W) (k : Keeps [] W W') : Lp w bt pv P i W' :=
  ⟨h.R.keeps k (by simp), h.A.keeps0 k, (k.block _ h.X.lt (by simp)).trans h.X, h.B.trans (k.below h.B.size (by simp)), h.fl⟩

/-- In the midst of a round: the table has turned, the list has not. -/
structure Mid (w : World) (bt xb : Nat) (pv : Value) (P P' : List Wd) (s : Wd) (i : Nat) (W : World) : Prop where
  R : RepD W pv P
  A : AT w.heap.size bt (xb :: fp pv) P' i W
  X : Boxed W w.heap.size 4 (.bool false)
  B : Below w.heap.size w W
  D : Blk W xb (encD s) 78
  fl : ∀ b ∈ fp pv, w.heap.size < b

/-- The element is copied into a block of its own. -/
theorem Lp.copied {w : World} {bt : Nat} {pv : Value} {P : List Wd} {i : Nat} {W W' : World} (h : Lp w bt pv P i W) (s : Wd) (hw : W' = W.alloc (.cells (encD s).toArray 78)) : Mid w bt W.heap.size pv P P s i W' := by
  have k : Keeps [] W W' := by rw [hw]; exact (Keeps.refl _ _).alloc _
  have h' := h.keeps0 k
  refine ⟨h'.R, h.A.moved (k.mono (by simp)) (fun b hb => ?_), h'.X, h'.B, by rw [hw]; exact Blk.new _ _ _, h.fl⟩
  rcases List.mem_cons.1 hb with rfl | q
  · exact .inr (Nat.le_refl _)
  · exact .inl q
theorem Mid.keeps0 {w : World} {bt xb : Nat} {pv : Value} {P P' : List Wd} {s : Wd} {i : Nat} {W W' : World} (h : Mid w bt xb pv P P' s i W) (k : Keeps [] W W') : Mid w bt xb pv P P' s i W' :=
  ⟨h.R.keeps k (by simp), h.A.keeps0 k, (k.block _ h.X.lt (by simp)).trans h.X, h.B.trans (k.below h.B.size (by simp)), k.blk h.D (by simp), h.fl⟩
theorem Mid.lt {w : World} {bt xb : Nat} {pv : Value} {P P' : List Wd} {s : Wd} {i : Nat} {W : World} (h : Mid w bt xb pv P P' s i W) : ∀ b ∈ xb :: fp pv, b < W.heap.size := by
  intro b hb
  rcases List.mem_cons.1 hb with rfl | q
  · exact h.D.lt
  · exact h.R.fp_lt b q

/-- The table turns. -/
theorem Mid.turned {w : World} {bt xb : Nat} {pv : Value} {P P' P'' : List Wd} {s : Wd} {i i' : Nat} {W W' : World} {F : List Nat} (h : Mid w bt xb pv P P' s i W) (hA : AT w.heap.size bt (xb :: fp pv) P'' i' W') (k : Keeps F W W') (hF : ∀ b ∈ F, w.heap.size < b ∧ b ∉ xb :: fp pv) :
    Mid w bt xb pv P P'' s i' W' := by
  refine ⟨h.R.keeps k (fun b hb q => (hF b q).2 (by simp [hb])), hA, (k.block _ h.X.lt (fun q => by have := (hF _ q).1; omega)).trans h.X, h.B.trans (k.below h.B.size (fun b hb => by have := (hF b hb).1; omega)), k.blk h.D (fun q => (hF _ q).2 (by simp)), h.fl⟩

/-- The element is stored where its key's lay. -/
theorem Mid.stored {w : World} {bt xb g n cap a : Nat} {P P' : List Wd} {s d : Wd} {i : Nat} {W : World} (h : Mid w bt xb (.slice (some ⟨g, 0, none⟩) n cap) P P' s i W) (hP : P' = upd P s) (hd : P[a]? = some d) (hl : lastW P s.key P.length = a) :
    Lp w bt (.slice (some ⟨g, 0, none⟩) n cap) P' i (wroteD W g a s) := by
  have k := wroteD_keeps W g a s
  have hg : g ∈ fp (.slice (some ⟨g, 0, none⟩) n cap) := by simp [fp, Value.ownBlock]
  have hgl := h.fl g hg
  refine ⟨?_, (h.A.other (G' := fp (.slice (some ⟨g, 0, none⟩) n cap)) ⟨[], Keeps.refl _ W⟩ (fun b hb => by simp [hb])).keeps k (fun b hb => ?_), (k.block _ h.X.lt (by simp; omega)).trans h.X, h.B.trans (k.below h.B.size (by simp; omega)), h.fl⟩
  · rw [hP, upd_at hl]
    exact h.R.put a d s hd
  · rw [List.mem_singleton] at hb
    rw [hb]
    exact .inr (.inl hg)

/-- The element is appended. -/
theorem Mid.appended {w : World} {bt xb g n cap : Nat} {pv : Value} {P P' : List Wd} {s : Wd} {i : Nat} {W w3 : World} {o : Obj} (h : Mid w bt xb pv P P' s i W) (hP : P' = upd P s) (hl : lastW P s.key P.length = -1)
    (r : RepD w3 (.slice (some ⟨g, 0, none⟩) n cap) (P ++ [s])) (k : Keeps (fp pv) (W.alloc o) w3) (ha : g ∈ fp pv ∨ g = (W.alloc o).heap.size) : Lp w bt (.slice (some ⟨g, 0, none⟩) n cap) P' i w3 := by
  have k0 : Keeps [] W (W.alloc o) := (Keeps.refl _ _).alloc _
  have k3 : Keeps (fp pv) W w3 := keeps0_trans k0 k
  have hf : ∀ b, b ∈ fp (.slice (some ⟨g, 0, none⟩) n cap) → b = g := by
    intro b hb
    simpa [fp, Value.ownBlock] using hb
  have hA : AT w.heap.size bt (fp pv) P' i W := h.A.other ⟨[], Keeps.refl _ W⟩ (fun b hb => by simp [hb])
  have hz : (W.alloc o).heap.size = W.heap.size + 1 := by simp
  refine ⟨by rw [hP, upd_end hl]; exact r, hA.moved k3 (fun b hb => ?_), (k3.block _ h.X.lt (fun q => by have := h.fl _ q; omega)).trans h.X, h.B.trans (k3.below h.B.size (fun b hb => by have := h.fl b hb; omega)), fun b hb => ?_⟩
  · rw [hf b hb]
    rcases ha with q | q
    · exact .inl q
    · exact .inr (by omega)
  · rw [hf b hb]
    rcases ha with q | q
    · exact h.fl g q
    · have := h.B.size; omega

set_option maxRecDepth 100000 in
set_option maxHeartbeats 6400000 in
theorem wide_calls {w : World} {ao : Option Addr} {n cap : Nat} {steps : List Wd} (hs : ScriptAt w ao steps) (hn : n = steps.length) (hb : n ≤ 1048576) :
    Calls Try.prog 6 #[.slice ao n cap] w fun e w' => e = .returned (.bool true) ∧ Below w.heap.size w w' := by
  have HN := Lib.hid hn
  have HS := Lib.hid hs
  clear hn hs
  refine (callsIn_wide (n := 3)).1 ?_
  refine callsIn_of_wp_marks Try.func6 rfl trivial ?_ rfl
  refine wpIn_wide.2 ?_
  simp only [Try.ntmps6, List.size_toArray, List.length_cons, List.length_nil, Nat.reduceAdd, Nat.reduceSub, Array.replicate_succ, Array.replicate_zero, List.push_toArray, List.append_toArray, List.nil_append, List.cons_append]
  go_wp2_with fail
  obtain ⟨w0, hw0⟩ : ∃ w0, w0 = w.alloc (Obj.cells #[Value.bool false] 4) := ⟨_, rfl⟩
  have hx0 : Boxed w0 w.heap.size 4 (.bool false) := by rw [hw0]; exact Boxed.new w 4 (.bool false)
  have hk0 : Below w.heap.size w w0 := by rw [hw0]; exact (Below.refl _ w).alloc (Nat.le_refl _) _
  have hz0 : w0.heap.size = w.heap.size + 1 := by rw [hw0]; simp
  rw [← hw0]
  clear hw0
  refine (new_calls w0).mono ?_
  rintro e w1 ⟨bt, ya, ys, rfl, ht, k1, hbt, hya, hys⟩
  have hA1 : AT w.heap.size bt [] [] 0 w1 := AT.new ht ⟨by omega, by omega, by omega⟩
  have hX1 : Boxed w1 w.heap.size 4 (.bool false) := (k1.block _ hx0.lt (by simp)).trans hx0
  have hB1 : Below w.heap.size w w1 := hk0.trans (k1.below (by omega) (by simp))
  have HA1 := Lib.hid hA1
  have HX1 := Lib.hid hX1
  have HB1 := Lib.hid hB1
  clear ht k1 hbt hya hys hx0 hk0 hz0 hA1 hX1 hB1
  go_wp2_with fail
  refine (new_nil w1).mono ?_
  rintro e w' ⟨rfl, rfl⟩
  go_wp2_with fail
  have HL1 : Lp w bt (.slice none 0 0) [] 0 w' := ⟨Rep.nil, HA1.out, HX1.out, HB1.out, by simp [fp, Value.ownBlock]⟩
  have HL := Lib.hid HL1
  clear HL1 HA1 HX1 HB1
  go_loopw [5, 6] (fun pv iv wr => ∃ (i : Nat) (P : List Wd), i ≤ n ∧ iv = .int .i64 i ∧ P.length ≤ i ∧ Lp w bt pv P i wr ∧ (∀ d ∈ P, d ∈ steps)) (fun _ iv _ => n - (intOf iv).toNat)
  case atStart => exact ⟨0, [], by omega, rfl, by simp, HL.out, by simp⟩
  case round =>
    obtain ⟨i, P, hi, rfl, hPi, hL, hPs⟩ := hrel
    obtain ⟨pa, pc, hpv, _, _, _⟩ := hL.R.form
    subst hpv
    clear HL
    by_cases hlt : i < n
    · obtain ⟨s, hsi⟩ : ∃ s, steps[i]? = some s := ⟨_, List.getElem?_eq_getElem (by rw [← HN.out]; exact hlt)⟩
      have hsm : s ∈ steps := List.mem_of_getElem? hsi
      obtain ⟨sb, off, rfl, hcell⟩ : ∃ sb off, ao = some ⟨sb, off, none⟩ ∧ (wr.cell? ⟨sb, off + i * 6, none⟩ = some (.int .i8 s.key.a) ∧ wr.cell? ⟨sb, off + i * 6 + 1, none⟩ = some (.int .u8 s.key.b0) ∧ wr.cell? ⟨sb, off + i * 6 + 2, none⟩ = some (.int .u8 s.key.b1) ∧ wr.cell? ⟨sb, off + i * 6 + 3, none⟩ = some (.string s.key.c) ∧ wr.cell? ⟨sb, off + i * 6 + 4, none⟩ = some (sv s.val) ∧ wr.cell? ⟨sb, off + i * 6 + 5, none⟩ = some (.bool s.out)) := by
        rcases (HS.out.kept hL.B).2 with h | ⟨b, o, h1, h2, h3⟩
        · rw [h] at hsi; simp at hsi
        · exact ⟨b, o, h1, h3 i s hsi⟩
      obtain ⟨s0, s1, s2, s3, s4', s5⟩ := hcell
      have s4 : wr.cell? ⟨sb, off + i * 6 + 4, none⟩ = some (.slice s.val.ao s.val.len s.val.cap) := s4'
      have HL := Lib.hid hL
      have HPS := Lib.hid hPs
      have HPI := Lib.hid hPi
      have HSM := Lib.hid hsm
      have hP20 : P.length ≤ 1048576 := by omega
      clear s4' hL hPs hPi hsi hsm
      go_wp2_with fail
      obtain ⟨w0, hw0⟩ : ∃ w0, w0 = wr.alloc (.cells (encD s).toArray 78) := ⟨_, rfl⟩
      have HM0 := Lib.hid (HL.out.copied s hw0)
      have e0 : wr.alloc (Obj.cells #[Value.int IntKind.i8 s.key.a, Value.int IntKind.u8 s.key.b0, Value.int IntKind.u8 s.key.b1, Value.string s.key.c, Value.slice s.val.ao s.val.len s.val.cap, Value.bool s.out] 78) = w0 := hw0.symm
      rw [e0]
      clear e0 hw0 HL s0 s1 s2 s3 s4 s5
      generalize wr.heap.size = xb at *
      go_loopw [8, 9] (fun av jv wq => ∃ j : Nat, j ≤ P.length ∧ jv = .int .i64 j ∧ av = .int .i64 (lastW P s.key j) ∧ Keeps [] w0 wq) (fun _ jv _ => P.length - (intOf jv).toNat)
      case atStart => exact ⟨0, by omega, rfl, rfl, Keeps.refl _ _⟩
      case round =>
        obtain ⟨j, hj, rfl, rfl, hk⟩ := hrel
        have HM := Lib.hid (HM0.out.keeps0 hk)
        have HK := Lib.hid hk
        obtain ⟨x0, x1, x2, x3, x4', x5⟩ := dcells HM.out.D
        have x4 : wr.cell? ⟨xb, 4, none⟩ = some (.slice s.val.ao s.val.len s.val.cap) := x4'
        clear hk x4'
        by_cases hjl : j < P.length
        · obtain ⟨x, hx⟩ : ∃ x, P[j]? = some x := ⟨_, List.getElem?_eq_getElem hjl⟩
          obtain ⟨g, cap', hg, _, _⟩ := HM.out.R.ex (by omega)
          cases hg
          obtain ⟨c0, c1, c2, c3, c4, c5⟩ := RepD.cells HM.out.R hx
          have hq := eq_keys x.key s.key
          have HX := Lib.hid hx
          clear hx c4 c5 x4 x5
          cases he : eqW x.key s.key
          · rw [he] at hq
            have HE := Lib.hid he
            clear he
            go_wp2
            go_quiet (fail)
            go_wp2
            go_roundw
            case rel => exact ⟨j + 1, by omega, by go_num, by rw [lastW_miss HX.out HE.out], HK.out.drewN nq⟩
            case measure => simp [intOf]; omega
          · rw [he] at hq
            have HE := Lib.hid he
            clear he
            go_wp2
            go_quiet (fail)
            go_wp2
            go_roundw
            case rel => exact ⟨j + 1, by omega, by go_num, by rw [lastW_hit HX.out HE.out], HK.out.drewN nq⟩
            case measure => simp [intOf]; omega
        · obtain rfl : j = P.length := by omega
          have hP20' : (P.length : Int) ≤ 1048576 := by omega
          have HUF := Lib.hid (HM.out.A.upd_from s)
          have hn20 : i ≤ 1048576 := by omega
          rcases lastW_cases P s.key P.length with ⟨hlk, _⟩ | ⟨a, d, hlk, ha, hd, hkk⟩
          · have HTOLD : Hid (Told P s.key false) := Lib.hid (.inl ⟨hlk, rfl⟩)
            have HLK := Lib.hid hlk
            rw [hlk]
            clear hlk
            cases ho : s.out
            · have HO := Lib.hid ho
              rw [ho] at x5
              clear ho
              have hcall := HM.out.A.put (by omega) HM.out.lt s HO.out HTOLD.out
              have HCALL := Lib.hid hcall
              clear hcall
              go_wp2_with fail
              refine (HCALL.out).mono ?_
              rintro e w2 ⟨⟨v, rfl⟩, hA2, F, hk2, hF2⟩
              have hM2 := HM.out.turned hA2 hk2 hF2
              obtain ⟨x0, x1, x2, x3, x4', x5⟩ := dcells hM2.D
              have x4 : w2.cell? ⟨xb, 4, none⟩ = some (.slice s.val.ao s.val.len s.val.cap) := x4'
              have hra : ∀ o, Rep 78 6 encD (w2.alloc o) (.slice pa P.length pc) P := fun o => World.ownsRow.alloc hM2.R o
              have hcn : ∀ j u, ([s].flatMap encD)[j]? = some u → (w2.alloc (.cells (encD s).toArray 78)).cell? ((⟨w2.heap.size, 0, none⟩ : Addr).add j) = some u := fun j u h => cells_new w2 (encD s) 78 j u (by simpa using h)
              have HRA := Lib.hid hra
              have HCN := Lib.hid hcn
              have HM2 := Lib.hid hM2
              clear hra hcn hM2 hA2 hk2 hF2 x4'
              go_wp2_with (refine wpList_rep_append rfl (.tmp 108) (.tmp 110) 68 rfl _ 56 Try.underlying68 info78 rfl (by decide) (.slice pa P.length pc) P rfl (HRA.out _) encD_len ⟨w2.heap.size, 0, none⟩ 1 1 [s] rfl rfl HCN.out (by simp [encD, Value.oneCell']) (by decide) (by unfold maxLen; omega) (by omega) ?_; intro h1 cap2 w3 r1 k1 a1 l1 q1; have R1 := Lib.hid r1; have K1 := Lib.hid k1; have A1 := Lib.hid a1; clear r1 k1 a1)
              go_roundw
              case rel => exact ⟨i + 1, upd P s, by omega, by go_num, by rw [upd_end HLK.out, List.length_append, List.length_singleton]; have := HPI.out; omega, HM2.out.appended rfl HLK.out R1.out K1.out A1.out, mem_upd HUF.out HSM.out HPS.out⟩
              case measure => simp [intOf]; omega
            · have HO := Lib.hid ho
              rw [ho] at x5
              clear ho
              have hcall := HM.out.A.del HM.out.lt s HO.out HTOLD.out
              have HCALL := Lib.hid hcall
              clear hcall
              go_wp2_with fail
              refine (HCALL.out).mono ?_
              rintro e w2 ⟨⟨v, rfl⟩, hA2, F, hk2, hF2⟩
              have hM2 := HM.out.turned hA2 hk2 hF2
              obtain ⟨x0, x1, x2, x3, x4', x5⟩ := dcells hM2.D
              have x4 : w2.cell? ⟨xb, 4, none⟩ = some (.slice s.val.ao s.val.len s.val.cap) := x4'
              have hra : ∀ o, Rep 78 6 encD (w2.alloc o) (.slice pa P.length pc) P := fun o => World.ownsRow.alloc hM2.R o
              have hcn : ∀ j u, ([s].flatMap encD)[j]? = some u → (w2.alloc (.cells (encD s).toArray 78)).cell? ((⟨w2.heap.size, 0, none⟩ : Addr).add j) = some u := fun j u h => cells_new w2 (encD s) 78 j u (by simpa using h)
              have HRA := Lib.hid hra
              have HCN := Lib.hid hcn
              have HM2 := Lib.hid hM2
              clear hra hcn hM2 hA2 hk2 hF2 x4'
              go_wp2_with (refine wpList_rep_append rfl (.tmp 108) (.tmp 110) 68 rfl _ 56 Try.underlying68 info78 rfl (by decide) (.slice pa P.length pc) P rfl (HRA.out _) encD_len ⟨w2.heap.size, 0, none⟩ 1 1 [s] rfl rfl HCN.out (by simp [encD, Value.oneCell']) (by decide) (by unfold maxLen; omega) (by omega) ?_; intro h1 cap2 w3 r1 k1 a1 l1 q1; have R1 := Lib.hid r1; have K1 := Lib.hid k1; have A1 := Lib.hid a1; clear r1 k1 a1)
              go_roundw
              case rel => exact ⟨i + 1, upd P s, by omega, by go_num, by rw [upd_end HLK.out, List.length_append, List.length_singleton]; have := HPI.out; omega, HM2.out.appended rfl HLK.out R1.out K1.out A1.out, mem_upd HUF.out HSM.out HPS.out⟩
              case measure => simp [intOf]; omega
          · have HTOLD : Hid (Told P s.key (!d.out)) := Lib.hid (.inr ⟨a, d, hlk, hd, rfl⟩)
            obtain ⟨g, cap', hg, _, _⟩ := HM.out.R.ex (by omega)
            cases hg
            have HLK := Lib.hid hlk
            have HD := Lib.hid hd
            rw [hlk]
            clear hlk hd hkk
            cases ho : s.out
            · have HO := Lib.hid ho
              rw [ho] at x5
              clear ho
              have hcall := HM.out.A.put (by omega) HM.out.lt s HO.out HTOLD.out
              have HCALL := Lib.hid hcall
              clear hcall
              go_wp2_with fail
              refine (HCALL.out).mono ?_
              rintro e w2 ⟨⟨v, rfl⟩, hA2, F, hk2, hF2⟩
              have hM2 := HM.out.turned hA2 hk2 hF2
              obtain ⟨x0, x1, x2, x3, x4', x5⟩ := dcells hM2.D
              have x4 : w2.cell? ⟨xb, 4, none⟩ = some (.slice s.val.ao s.val.len s.val.cap) := x4'
              obtain ⟨c0, c1, c2, c3, c4, c5⟩ := RepD.cells hM2.R HD.out
              have f0 := hM2.R.frozen (a * 6)
              have f1 := hM2.R.frozen (a * 6 + 1)
              have f2 := hM2.R.frozen (a * 6 + 2)
              have f3 := hM2.R.frozen (a * 6 + 3)
              have f4 := hM2.R.frozen (a * 6 + 4)
              have f5 := hM2.R.frozen (a * 6 + 5)
              have c4' : w2.cell? ⟨g, a * 6 + 4, none⟩ = some (.slice d.val.ao d.val.len d.val.cap) := c4
              have HM2 := Lib.hid hM2
              clear hM2 hA2 hk2 hF2 x4' c4
              go_wp2_with fail
              have hst := HM2.out.stored (P' := upd P s) rfl HD.out HLK.out
              go_roundw
              case rel => exact ⟨i + 1, upd P s, by omega, by go_num, by rw [upd_at HLK.out, List.length_set]; have := HPI.out; omega, hst, mem_upd HUF.out HSM.out HPS.out⟩
              case measure => simp [intOf]; omega
            · have HO := Lib.hid ho
              rw [ho] at x5
              clear ho
              have hcall := HM.out.A.del HM.out.lt s HO.out HTOLD.out
              have HCALL := Lib.hid hcall
              clear hcall
              go_wp2_with fail
              refine (HCALL.out).mono ?_
              rintro e w2 ⟨⟨v, rfl⟩, hA2, F, hk2, hF2⟩
              have hM2 := HM.out.turned hA2 hk2 hF2
              obtain ⟨x0, x1, x2, x3, x4', x5⟩ := dcells hM2.D
              have x4 : w2.cell? ⟨xb, 4, none⟩ = some (.slice s.val.ao s.val.len s.val.cap) := x4'
              obtain ⟨c0, c1, c2, c3, c4, c5⟩ := RepD.cells hM2.R HD.out
              have f0 := hM2.R.frozen (a * 6)
              have f1 := hM2.R.frozen (a * 6 + 1)
              have f2 := hM2.R.frozen (a * 6 + 2)
              have f3 := hM2.R.frozen (a * 6 + 3)
              have f4 := hM2.R.frozen (a * 6 + 4)
              have f5 := hM2.R.frozen (a * 6 + 5)
              have c4' : w2.cell? ⟨g, a * 6 + 4, none⟩ = some (.slice d.val.ao d.val.len d.val.cap) := c4
              have HM2 := Lib.hid hM2
              clear hM2 hA2 hk2 hF2 x4' c4
              go_wp2_with fail
              have hst := HM2.out.stored (P' := upd P s) rfl HD.out HLK.out
              go_roundw
              case rel => exact ⟨i + 1, upd P s, by omega, by go_num, by rw [upd_at HLK.out, List.length_set]; have := HPI.out; omega, hst, mem_upd HUF.out HSM.out HPS.out⟩
              case measure => simp [intOf]; omega
    · obtain rfl : i = n := by omega
      have hV : ∀ W, Keeps [] wr W → ∀ d ∈ P, ValOk W d.val := fun W k d hd => (HS.out.kept (hL.B.trans (k.below hL.B.size (by simp)))).1 d (hPs d hd)
      have HLW := Lib.hid (fun W (k : Keeps [] wr W) => hL.keeps0 k)
      have HV := Lib.hid hV
      have hP20 : P.length ≤ 1048576 := by omega
      clear hL hPs hV HS HN
      go_wp2_with fail
      go_loopw [14] (fun kv wq => ∃ k : Nat, k ≤ P.length ∧ kv = .int .i64 k ∧ Keeps [] wr wq) (fun kv _ => P.length - (intOf kv).toNat)
      case atStart => exact ⟨0, by omega, rfl, Keeps.refl _ _⟩
      case round =>
        obtain ⟨k, hk, rfl, hkp⟩ := hrel
        have HK := Lib.hid hkp
        have HL := Lib.hid (HLW.out _ hkp)
        clear hkp
        by_cases hkl : k < P.length
        · obtain ⟨d, hd⟩ : ∃ d, P[k]? = some d := ⟨_, List.getElem?_eq_getElem hkl⟩
          have hdm : d ∈ P := List.mem_of_getElem? hd
          have hget := HL.out.A.get hdm
          have hvk := fun W (q : Keeps [] wr W) => HV.out W (keeps0_trans HK.out q) d hdm
          obtain ⟨g, cap', hg, _, _⟩ := HL.out.R.ex (by omega)
          cases hg
          have hce := fun W (q : Keeps [] wr W) => RepD.cells (HL.out.keeps0 q).R hd
          obtain ⟨c0, c1, c2, c3, _, _⟩ := hce wr (Keeps.refl _ _)
          have HCE := Lib.hid hce
          have HVK := Lib.hid hvk
          have HGET := Lib.hid hget
          clear hd hdm hget hvk hce
          obtain ⟨dk, ⟨dao, dlen, dcap⟩, dout⟩ := d
          cases dout
          · have HGET2 : Hid (Calls Try.prog 39 #[.pointer (some ⟨bt, 0, none⟩), aggK dk] wr fun e W' => e = .returned (.tuple #[.slice dao dlen dcap, .bool true]) ∧ Keeps [] wr W') := HGET
            clear HGET
            go_wp2_with fail
            refine (HGET2.out).mono ?_
            rintro e w2 ⟨rfl, hk2⟩
            obtain ⟨z0, z1, z2, z3, z4', z5⟩ := HCE.out w2 hk2
            have z4 : w2.cell? ⟨g, k * 6 + 4, none⟩ = some (.slice dao dlen dcap) := z4'
            have hlv : dlen ≤ 1048576 := (HVK.out w2 hk2).1
            have HK2 := Lib.hid hk2
            have HV2 := Lib.hid (HVK.out w2 hk2).2
            clear hk2 z4' c0 c1 c2 c3 z0 z1 z2 z3 HGET2
            go_wp2_with fail
            go_loopw [17] (fun iv wq => ∃ m : Nat, m ≤ dlen ∧ iv = .int .i64 m ∧ Keeps [] w2 wq) (fun iv _ => dlen - (intOf iv).toNat)
            case atStart => exact ⟨0, by omega, rfl, Keeps.refl _ _⟩
            case round =>
              obtain ⟨m, hm, rfl, hk3⟩ := hrel
              have hk4 := keeps0_trans HK2.out hk3
              obtain ⟨_, _, _, _, c4', _⟩ := HCE.out wr hk4
              have HK4 := Lib.hid hk4
              have HK3 := Lib.hid hk3
              clear hk3 hk4 z4 z5
              by_cases hml : m < dlen
              · obtain ⟨vb, vo, hao, hcm⟩ : ∃ vb vo, dao = some ⟨vb, vo, none⟩ ∧ ∃ c, wr.cell? ⟨vb, vo + m, none⟩ = some (.int .u8 c) := by
                  rcases (HVK.out wr HK4.out).2 with h | ⟨b, o, h1, _, h3⟩
                  · simp only at h; omega
                  · exact ⟨b, o, h1, h3 m hml⟩
                subst hao
                obtain ⟨c, hc⟩ := hcm
                have c4 : wr.cell? ⟨g, k * 6 + 4, none⟩ = some (.slice (some ⟨vb, vo, none⟩) dlen dcap) := c4'
                clear c4'
                go_wp2_with fail
                go_quiet (fail)
                go_wp2
                go_roundw
                case rel => exact ⟨m + 1, by omega, by go_num, HK3.out.drewN nq⟩
                case measure => simp [intOf]; omega
              · obtain rfl : m = dlen := by omega
                clear c4'
                go_wp2_with fail
                go_roundw
                case rel => exact ⟨k + 1, by omega, by go_num, keeps0_trans HK.out HK4.out⟩
                case measure => simp [intOf]; omega
          · have HGET2 : Hid (Calls Try.prog 39 #[.pointer (some ⟨bt, 0, none⟩), aggK dk] wr fun e W' => e = .returned (.tuple #[.slice none 0 0, .bool false]) ∧ Keeps [] wr W') := HGET
            clear HGET
            go_wp2_with fail
            refine (HGET2.out).mono ?_
            rintro e w2 ⟨rfl, hk2⟩
            obtain ⟨z0, z1, z2, z3, z4', z5⟩ := HCE.out w2 hk2
            have z4 : w2.cell? ⟨g, k * 6 + 4, none⟩ = some (.slice dao dlen dcap) := z4'
            have HK2 := Lib.hid hk2
            clear hk2 z4' c0 c1 c2 c3 z0 z1 z2 z3 HGET2
            go_wp2_with fail
            go_loopw [17] (fun iv wq => iv = .int .i64 0 ∧ Keeps [] w2 wq) (fun iv _ => 0)
            case atStart => exact ⟨rfl, Keeps.refl _ _⟩
            case round =>
              obtain ⟨rfl, hk3⟩ := hrel
              have HK4 := Lib.hid (keeps0_trans HK2.out hk3)
              clear hk3 z4 z5
              go_wp2_with fail
              go_roundw
              case rel => exact ⟨k + 1, by omega, by go_num, keeps0_trans HK.out HK4.out⟩
              case measure => simp [intOf]; omega
        · obtain rfl : k = P.length := by omega
          have hA : AT w.heap.size bt (fp (.slice pa P.length pc)) P i wr := HL.out.A
          have HLE := HL
          clear HLW HV HK HL
          have heq : ∀ w bx, (binOp .eql 83 (.func (.func 74) #[] #[.pointer (some ⟨bx, 0, none⟩)]) .nilFunc).run Try.prog w = .ok (.bool false) w := fun _ _ => by kernel_rfl
          clear hA
          obtain ⟨n0, hn0⟩ : ∃ n0, n0 = wr.heap.size := ⟨_, rfl⟩
          go_wp2_with fail
          refine (put_nil 0 ⟨some ⟨wr.heap.size, 0, none⟩, 1, 1⟩ _).mono ?_
          rintro e w1 ⟨rfl, hk1⟩
          have HK1 := Lib.hid (((Keeps.refl [] wr).alloc (Obj.cells #[Value.int IntKind.u8 1] 5)).trans hk1 (by simp))
          clear hk1
          go_wp2_with fail
          refine (get_nil 0 _).mono ?_
          rintro e w2 ⟨rfl, hk2⟩
          have HK2 := Lib.hid (HK1.out.trans hk2 (by simp))
          clear hk2 HK1
          go_wp2_with fail
          refine (del_nil 0 _).mono ?_
          rintro e w3 ⟨rfl, hk3⟩
          have HK3 := Lib.hid (HK2.out.trans hk3 (by simp))
          clear hk3 HK2
          go_wp2_with fail
          refine (all_nil _).mono ?_
          rintro e w4 ⟨rfl, hw4⟩
          have hbA : Blk w4 w3.heap.size [.pointer none] 69 := by rw [hw4]; exact Blk.new w3 [.pointer none] 69
          have hk4 : Keeps [] wr w4 := HK3.out.trans (G := []) (by rw [hw4]; exact (Keeps.refl _ _).alloc _) (by simp)
          have HL4 := Lib.hid (HLE.out.keeps0 hk4)
          have hstops := all_nil_stops 2 (by omega) _ w4 hbA
          clear hw4 hbA hk4 HK3 HLE
          generalize w3.heap.size = ba at *
          go_wp2_with fail
          refine (wpIn_wide (n := 3)).1 ?_
          refine wpIn_rangeFunc_ownG rfl (by omega) (gf := 74) (lb := #[.pointer (some ⟨ba, 0, none⟩)]) rfl trivial (enters_of Try.func74 (by kernel_rfl) rfl)
            hstops (fun _ _ => trivial) (fun _ _ _ _ _ _ _ _ => trivial) (Below.refl _ _) (fun _ => rfl)
            (fun pre W => pre = [] ∧ Keeps [] w4 W)
            (fun _ _ _ => False)
            (fun s X Y row hs hg hr => ⟨hs.1, ownFrom_keeps0 (Nat.le_refl _) s X Y row hs.2 hg hr⟩)
            (fun _ _ _ _ _ hs _ _ => hs)
            ⟨rfl, Keeps.refl _ _⟩
            ?a1 ?assign ?body ?done ?stop
          case assign =>
            intro l x W K hK
            gi_wp2
            exact hK
          case body =>
            rintro l pre x W _ hlt
            omega
          case done =>
            rintro D ys' W hD rfl ⟨_, hkk⟩ hK
            have hL5 := HL4.out.keeps0 hkk
            have hA5 : AT w.heap.size bt (D :: W.heap.size :: fp (.slice pa P.length pc)) P i (W.alloc (.cells #[.int .u8 9] 5)) := by
              refine HL4.out.A.moved ((keeps0_trans hkk (Keeps.alloc (Keeps.refl [] W) _)).mono (by simp)) (fun b hb => ?_)
              rcases List.mem_cons.1 hb with rfl | hb
              · exact .inr hD
              · rcases List.mem_cons.1 hb with rfl | hb
                · exact .inr hkk.size
                · exact .inl hb
            obtain ⟨ok, htold⟩ := told_ex P endK
            have hDl := (Array.getElem?_eq_some_iff.1 hK).1
            have hlt : ∀ b ∈ D :: W.heap.size :: fp (.slice pa P.length pc), b < (W.alloc (.cells #[.int .u8 9] 5)).heap.size := by
              intro b hb
              rw [World.size_alloc]
              rcases List.mem_cons.1 hb with rfl | hb
              · omega
              · rcases List.mem_cons.1 hb with rfl | hb
                · omega
                · have := hL5.R.fp_lt b hb; omega
            have hput := hA5.put (by omega) hlt ⟨endK, ⟨some ⟨W.heap.size, 0, none⟩, 1, 1⟩, false⟩ rfl htold
            have hb9 : Blk (W.alloc (.cells #[.int .u8 9] 5)) W.heap.size [.int .u8 9] 5 := Blk.new W [.int .u8 9] 5
            have hKD : (W.alloc (.cells #[.int .u8 9] 5)).heap[D]? = some (.deferred (some [])) := (Below.heap_alloc _ _ _ hDl).trans hK
            have hL6 := hL5.keeps0 (Keeps.alloc (Keeps.refl [] W) (.cells #[.int .u8 9] 5))
            have hXD : D ≠ w.heap.size := fun e => by have := hL6.X; unfold Boxed at this; rw [← e, hKD] at this; cases this
            have HPUT := Lib.hid hput
            have HB9 := Lib.hid hb9
            have HKD := Lib.hid hKD
            have HL6 := Lib.hid hL6
            have HLT := Lib.hid hlt
            have HL8 := Lib.hid (Nat.le_trans HL4.out.B.size hD)
            have HPM := Lib.hid (hA5.put_mem ⟨endK, ⟨some ⟨W.heap.size, 0, none⟩, 1, 1⟩, false⟩)
            clear hkk hK hL5 hA5 htold hDl hlt hput hb9 hKD hL6 HL4
            go_wp2_with fail
            refine (HPUT.out).mono ?_
            rintro e w5 ⟨⟨v, rfl⟩, hA7, F, hk7, hF7⟩
            have hx := HLT.out W.heap.size (by simp)
            have hb9 := hk7.blk HB9.out (fun q => (hF7 _ q).2 (by simp))
            have hKD := (hk7.block D (HLT.out D (by simp)) (fun q => (hF7 _ q).2 (by simp))).trans HKD.out
            have hX := (hk7.block _ HL6.out.X.lt (fun q => by have := (hF7 _ q).1; omega)).trans HL6.out.X
            have hB := HL6.out.B.trans (hk7.below HL6.out.B.size (fun b hb => by have := (hF7 b hb).1; omega))
            have hget := hA7.get_lit HPM.out rfl rfl
            have HGET := Lib.hid hget
            have HK5 := Lib.hid hKD
            have HX5 : Hid (Boxed w5 w.heap.size 4 (.bool false)) := hX
            have HB5 := Lib.hid hB
            have HB9' := Lib.hid hb9
            clear hget hKD hX hB hb9 hA7 hk7 hF7 HPM HB9 HKD HL6 HPUT
            have hW9 : W.heap.size ≠ w.heap.size := by
              intro e
              have h1 := HB9'.out
              have h2 := HX5.out
              unfold Blk at h1
              unfold Boxed at h2
              rw [e] at h1
              rw [h1] at h2
              simp at h2
            generalize W.heap.size = b9 at *
            go_wp2_with fail
            refine (HGET.out).mono ?_
            rintro e w6 ⟨rfl, hk6⟩
            have HB6 := Lib.hid (hk6.blk HB9'.out (by simp))
            have HX6 : Hid (Boxed w6 w.heap.size 4 (.bool false)) := ((hk6.block _ HX5.out.lt (by simp)).trans HX5.out)
            have HK6 := Lib.hid ((hk6.block D (Array.getElem?_eq_some_iff.1 HK5.out).1 (by simp)).trans HK5.out)
            have HBW6 := Lib.hid (HB5.out.trans (hk6.below HB5.out.size (by simp)))
            have hpr := probes_nil 0 w6
            have HPR := Lib.hid hpr
            clear hk6 hpr HGET HB9' HX5 HK5 HB5
            go_wp2_with fail
            refine (len_nil _).mono ?_
            rintro e w7 ⟨rfl, hw7⟩
            subst hw7
            go_wp2_with fail
            refine (cap_nil _).mono ?_
            rintro e w8 ⟨rfl, hw8⟩
            subst hw8
            go_wp2_with fail
            refine (tombs_nil _).mono ?_
            rintro e w9 ⟨rfl, hw9⟩
            subst hw9
            go_wp2_with fail
            refine (left_nil _).mono ?_
            rintro e w10 ⟨rfl, hw10⟩
            subst hw10
            go_wp2_with fail
            refine (HPR.out).mono ?_
            rintro e w11 ⟨rfl, hk11⟩
            have c9 := (hk11.blk HB6.out (by simp)).cell 0
            simp only [List.getElem?_cons_zero] at c9
            have hX11 : Boxed w11 w.heap.size 4 (.bool false) := (hk11.block _ HX6.out.lt (by simp)).trans HX6.out
            have cx := Boxed.cell hX11
            have fx := Boxed.frozen hX11
            have HX11 := Lib.hid hX11
            have HK11 := Lib.hid ((hk11.block D (Array.getElem?_eq_some_iff.1 HK6.out).1 (by simp)).trans HK6.out)
            have HB11 := Lib.hid (HBW6.out.trans (hk11.below HBW6.out.size (by simp)))
            clear hX11 hk11 HPR
            go_wp2_with fail
            have hKD : (w11.setCell ⟨w.heap.size, 0, none⟩ (.bool true)).heap[D]? = some (.deferred (some [])) := (Go.heap_setCell_other _ _ _ _ hXD).trans HK11.out
            refine ⟨by simp, .inl ⟨_, _, rfl, run_takeDeferred hKD, ?_⟩⟩
            have hbx : Boxed ((w11.setCell ⟨w.heap.size, 0, none⟩ (.bool true)).putObj D (.deferred none)) w.heap.size 4 (.bool true) :=
              (Boxed.set (.bool true) HX11.out).kept (grownBy_putObj' _ D _) (fun e => hXD (by cases e; rfl))
            refine ⟨_, results_cell rfl _ _ w.heap.size true rfl hbx.cell, rfl, ?_⟩
            have hbe : Below w.heap.size w (w11.setCell ⟨w.heap.size, 0, none⟩ (.bool true)) :=
              HB11.out.trans (Keeps.below (F := [w.heap.size]) (Keeps.setCell (Keeps.refl _ _) _ _ (by simp)) HB11.out.size (by simp))
            exact hbe.trans (belowK_b (w := w) (Nat.le_refl _) _ D _ (.deferred none) (by have := HL8.out; omega) hKD rfl rfl)
          case stop =>
            rintro D c pre W _ _ hix _
            exact hix.elim
end Go.Proofs.Ytaomaeobgfeoiaa.W
