/- A region that draws its order and ends in one operation that waits for all others (a call that writes): the others keep to a class of worlds: one walk in the order of the text serves every order. No program. -/
import Derived.StillTail
import Derived.Deep.Quiet
namespace Go.Proofs.Ytaomaeobgfeoiaa.Pt
open Go
variable {P : Program} {ops ops2 : Array Oper} {md : Region.Mode} {C : World → Prop} {n d : Nat} {s : Oper}

/-- The last operation, done by nothing: it hands its slot on. -/
def idle (s : Oper) (d : Nat) : Oper := { s with op := .move (.tmp d) }

/-- Each operation waits for earlier ones alone. -/
def topoB (ops : Array Oper) : Bool := (List.range ops.size).all fun j => match ops[j]? with | some o => o.after.all fun e => decide (e.on < j) | none => true

structure Ends (md : Region.Mode) (ops ops2 : Array Oper) (n d : Nat) (s : Oper) : Prop where
  size : ops.size = n + 1
  size2 : ops2.size = n + 1
  last : ops[n]? = some s
  last2 : ops2[n]? = some (idle s d)
  same : ∀ i, i ≠ n → ops2[i]? = ops[i]?
  dst : s.dst = some d
  guard : s.guard = none
  sink : Region.sinkB md ops n = true
  chain : Region.chainB md ops n = true
  topo : topoB ops = true

theorem Ends.ready (h : Ends md ops ops2 n d s) (listed : Array Bool) : Region.ready md ops2 listed = Region.ready md ops listed := by
  unfold Region.ready
  rw [h.size, h.size2]
  apply List.filter_congr
  intro i _
  by_cases e : i = n
  · subst e
    rw [h.last, h.last2]
    rfl
  · rw [h.same i e]

theorem Ends.yields (h : Ends md ops ops2 n d s) (tmps : Array Value) : yielded ops2 tmps = yielded ops tmps := by
  funext j
  unfold yielded
  by_cases e : j = n
  · subst e
    rw [h.last, h.last2]
    rfl
  · rw [h.same j e]

theorem put_same (a : Act) (d : Nat) : a.put (some d) (a.eval (.tmp d)) = a := by
  obtain ⟨tmps, ds⟩ := a
  simp only [Act.put, Act.eval]
  congr 1
  apply Array.ext_getElem?
  intro i
  rw [Array.getElem?_setIfInBounds]
  split
  · rename_i e
    subst e
    split
    · rename_i hlt
      simp [Array.getD, hlt]
    · rename_i hlt
      rw [Array.getElem?_eq_none (by omega)]
  · rfl

theorem Ends.first (h : Ends md ops ops2 n d s) {listed : Array Bool} (inv : HeadInv md ops n listed) : Region.ready md ops listed ≠ [] := by
  intro h0
  have key : ∀ k, k ≤ n → listed.getD k true = true := by
    intro k
    induction k using Nat.strongRecOn with
    | _ k ih =>
      intro hk
      cases hl : listed.getD k true with
      | true => rfl
      | false =>
        exfalso
        obtain ⟨o, ho⟩ : ∃ o, ops[k]? = some o := ⟨_, Array.getElem?_eq_getElem (by rw [h.size]; omega)⟩
        have : k ∈ Region.ready md ops listed := by
          refine mem_ready.2 ⟨hl, o, ho, fun e he _ => ?_⟩
          have ht := List.all_eq_true.1 h.topo k (List.mem_range.2 (by rw [h.size]; omega))
          rw [ho] at ht
          have hlt := of_decide_eq_true (Array.all_eq_true_iff_forall_mem.1 ht e he)
          have hle := ih e.on hlt (by omega)
          cases hf : listed.getD e.on false with
          | true => rfl
          | false =>
            have := getD_in (by rw [inv.size, h.size]; omega) hf
            rw [this] at hle; cases hle
        rw [h0] at this
        cases this
  have := inv.tail n (Nat.le_refl _) (by rw [h.size]; omega)
  rw [key n (Nat.le_refl _)] at this
  cases this

theorem count_set {l : List Bool} {i : Nat} (hi : l[i]? = some false) : (l.set i true).count false + 1 = l.count false := by
  induction l generalizing i with
  | nil => simp at hi
  | cons b l ih =>
    cases i with
    | zero => simp at hi; subst hi; simp
    | succ i =>
      have := ih (by simpa using hi)
      cases b <;> simp [List.count_cons] at this ⊢ <;> omega

theorem any_tail {Q2 : Act → Prop} {Q : Exit → Act → World → Prop} (h : Ends md ops ops2 n d s) (hQ : ∀ a w, C w → Q2 a → s.wp P a w (fun a' w' => Q .normal a' w') Q) :
    ∀ (fuel : Nat) (listed : Array Bool) (a : Act) (w : World), HeadInv md ops n listed → listed.toList.count false = fuel → C w → wpAnyQ P md ops2 C Q2 fuel listed a → wpAny P md ops Q fuel listed a w
  | 0, listed, a, w, inv, hc, _, _ => by
    exfalso
    have h1 := inv.tail n (Nat.le_refl _) (by rw [h.size]; omega)
    have hlt : n < listed.size := by rw [inv.size, h.size]; omega
    have h2 : listed.toList[n]? = some false := by
      rw [Array.getElem?_toList, Array.getElem?_eq_getElem hlt]
      simp [Array.getD, hlt] at h1
      rw [h1]
    have := count_set h2
    omega
  | fuel + 1, listed, a, w, inv, hc, hw, hh => by
    refine ⟨fun h0 => absurd h0 (h.first inv), fun i hi => ?_⟩
    have hq := hh.2 i (by rw [h.ready]; exact hi)
    by_cases e : i = n
    · subst e
      have hall : ∀ j, j < i → listed.getD j true = true := by
        intro j hj
        cases hl : listed.getD j true with
        | true => rfl
        | false => exact absurd hi (tail_waits h.sink h.chain (by rw [h.size]; omega) inv (i - j) j rfl hj hl i (Nat.le_refl _))
      have hdone : Region.ready md ops (listed.setIfInBounds i true) = [] := by
        apply List.eq_nil_iff_forall_not_mem.2
        intro j hj
        obtain ⟨g1, o, g2, _⟩ := mem_ready.1 hj
        have hjs : j < ops.size := (Array.getElem?_eq_some_iff.1 g2).1
        rw [h.size] at hjs
        by_cases e2 : i = j
        · subst e2
          have hlt : i < listed.size := by rw [inv.size, h.size]; omega
          simp [Array.getD, hlt] at g1
        · rw [getD_set_ne true e2] at g1
          rw [hall j (by omega)] at g1
          cases g1
      unfold qOp at hq
      simp only [h.last2] at hq
      have hwn : ∀ o : Oper, o.guard = none → Region.wanted o (yielded ops2 a.tmps) = true := fun o ho => by simp [Region.wanted, ho]
      rw [if_pos (hwn _ (show (idle s d).guard = none from h.guard))] at hq
      obtain ⟨v, hv, hnext⟩ := hq
      have hv' := hv w hw
      have hev : v = a.eval (.tmp d) := by
        unfold Oper.quietAt at hv'
        have hr : (execOp a.eval (idle s d)).run P w = .ok (.value (a.eval (.tmp d))) w := by
          unfold idle
          simp [execOp, Sem.run_bind]
        rw [hr] at hv'
        exact hv'.2.symm
      have hq2 : Q2 a := by
        have hp : a.put (idle s d).dst v = a := by
          rw [hev, show (idle s d).dst = some d from h.dst]
          exact put_same a d
        rw [hp] at hnext
        cases fuel with
        | zero => exact hnext.2
        | succ f => exact hnext.1 (by rw [h.ready]; exact hdone)
      unfold wpOp
      simp only [h.last]
      rw [if_pos (by simp [Region.wanted, h.guard])]
      refine .inl (Oper.wp_mono (fun a' w' hk => ?_) (hQ a w hw hq2))
      cases fuel with
      | zero => exact ⟨hdone, hk⟩
      | succ f => exact ⟨fun _ => hk, fun j hj => by rw [hdone] at hj; cases hj⟩
    · have hin : i < n := by
        obtain ⟨_, o, g2, _⟩ := mem_ready.1 hi
        have hjs : i < ops.size := (Array.getElem?_eq_some_iff.1 g2).1
        rw [h.size] at hjs
        omega
      have hq' : qOp P ops C i (wpAnyQ P md ops2 C Q2 fuel (listed.setIfInBounds i true)) a := by
        unfold qOp at hq ⊢
        rw [h.same i e, h.yields] at hq
        exact hq
      refine wpOp_of_qOp hw (fun a' w' hw' hk => any_tail h hQ fuel _ a' w' (inv.set hi hin) ?_ hw' hk) hq'
      obtain ⟨g1, _⟩ := mem_ready.1 hi
      have hlt : i < listed.size := by rw [inv.size, h.size]; omega
      have h2 : listed.toList[i]? = some false := by
        rw [Array.getElem?_toList, Array.getElem?_eq_getElem hlt]
        simp [Array.getD, hlt] at g1
        rw [g1]
      have := count_set h2
      rw [Array.toList_setIfInBounds]
      omega

/-- The law: l the operations ahead of the last, s the last. -/
theorem region_tail {id : Nat} {Q : Exit → Act → World → Prop} {a : Act} {w : World} {l : List Oper} (d : Nat) (hd : s.dst = some d) (hg : s.guard = none) (hm : P.follows .mixedOrders = true)
    (hB : Region.lexB .any (l ++ [idle s d]).toArray = true) (hs : Region.sinkB .any (l ++ [s]).toArray l.length = true) (hc : Region.chainB .any (l ++ [s]).toArray l.length = true) (ht : topoB (l ++ [s]).toArray = true)
    (hC : C { w with drawn := w.drawn + 1 })
    (h : wpQuiet P (l ++ [idle s d]).toArray C (fun a' => ∀ w', C w' → s.wp P a' w' (fun a'' w'' => Q .normal a'' w'') Q) (l ++ [idle s d]) a) : (Code.region id (l ++ [s]).toArray true).wp P Q a w := by
  have he : Ends .any (l ++ [s]).toArray (l ++ [idle s d]).toArray l.length d s := by
    refine ⟨by simp, by simp, by simp, by simp, fun i hi => ?_, hd, hg, hs, hc, ht⟩
    simp only [List.getElem?_toArray]
    rcases Nat.lt_or_ge i l.length with q | q
    · rw [List.getElem?_append_left q, List.getElem?_append_left q]
    · rw [List.getElem?_eq_none (by simp; omega), List.getElem?_eq_none (by simp; omega)]
  simp only [Region.lexB, Bool.and_eq_true] at hB
  have H := wpAnyQ_lex (C := C) (md := .any) hB.1 (l ++ [idle s d]) 0 (Array.replicate (l ++ [idle s d]).toArray.size false) a (by simp) (by simpa using hB.2) h
  have e1 : (l ++ [idle s d]).length = (l ++ [s]).toArray.size := by simp
  have e2 : (l ++ [idle s d]).toArray.size = (l ++ [s]).toArray.size := by simp
  rw [e1, e2] at H
  refine wp_region_any hm (any_tail he (fun a w hw hq => hq w hw) _ _ a _ ?_ (by simp [List.count_replicate_self]) hC H)
  exact ⟨by simp, fun j oj _ hl => (by rw [getD_replicate_false] at hl; cases hl), fun t _ ht => getD_in (by simpa using ht) (getD_replicate_false _ _)⟩

/-- The law, at a list: n the place of the last operation. -/
theorem region_tail_at {id : Nat} {Q : Exit → Act → World → Prop} {a : Act} {w : World} {L : List Oper} (n d : Nat) (hs : L[n]? = some s) (hl : L.length = n + 1) (hd : s.dst = some d) (hg : s.guard = none) (hm : P.follows .mixedOrders = true)
    (hB : Region.lexB .any (L.set n (idle s d)).toArray = true) (hk : Region.sinkB .any L.toArray n = true) (hc : Region.chainB .any L.toArray n = true) (ht : topoB L.toArray = true)
    (hC : C { w with drawn := w.drawn + 1 })
    (h : wpQuiet P (L.set n (idle s d)).toArray C (fun a' => ∀ w', C w' → s.wp P a' w' (fun a'' w'' => Q .normal a'' w'') Q) (L.set n (idle s d)) a) : (Code.region id L.toArray true).wp P Q a w := by
  have hnl : n < L.length := by omega
  have he : Ends .any L.toArray (L.set n (idle s d)).toArray n d s := by
    refine ⟨by simpa using hl, by simpa using hl, by simpa using hs, by simp [hnl], fun i hi => ?_, hd, hg, hk, hc, ht⟩
    simp only [List.getElem?_toArray]
    rw [List.getElem?_set_ne (by omega)]
  simp only [Region.lexB, Bool.and_eq_true] at hB
  have H := wpAnyQ_lex (C := C) (md := .any) hB.1 (L.set n (idle s d)) 0 (Array.replicate (L.set n (idle s d)).toArray.size false) a (by simp) (by simpa using hB.2) h
  have e1 : (L.set n (idle s d)).length = L.toArray.size := by simp
  have e2 : (L.set n (idle s d)).toArray.size = L.toArray.size := by simp
  rw [e1, e2] at H
  refine wp_region_any hm (any_tail he (fun a w hw hq => hq w hw) _ _ a _ ?_ (by simp [List.count_replicate_self]) hC H)
  exact ⟨by simp, fun j oj _ hl => (by rw [getD_replicate_false] at hl; cases hl), fun t _ ht => getD_in (by simpa using ht) (getD_replicate_false _ _)⟩

/-- New blocks, and draws. -/
structure Pile where
  os : List Obj
  m : Nat
instance : Inhabited Pile := ⟨⟨[], 0⟩⟩
/-- A world behind some new blocks and some draws. -/
def more (w : World) (p : Pile) : World := (p.os.foldl World.alloc w).drewN p.m
theorem more_alloc (w : World) (p : Pile) (o : Obj) : (more w p).alloc o = more w ⟨p.os ++ [o], p.m⟩ := by
  unfold more
  rw [List.foldl_append]
  rfl

/-- A region all of whose operations keep to a class of worlds, at a list. -/
theorem region_quiet_at {id : Nat} {Q : Exit → Act → World → Prop} {a : Act} {w : World} {L : List Oper} (hm : P.follows .mixedOrders = true) (hB : Region.lexB .any L.toArray = true) (hC : C { w with drawn := w.drawn + 1 })
    (h : wpQuiet P L.toArray C (fun a' => ∀ w', C w' → Q .normal a' w') L a) : (Code.region id L.toArray true).wp P Q a w :=
  wp_region_quiet (C := C) hm hB hC (by simpa using h)
end Go.Proofs.Ytaomaeobgfeoiaa.Pt
