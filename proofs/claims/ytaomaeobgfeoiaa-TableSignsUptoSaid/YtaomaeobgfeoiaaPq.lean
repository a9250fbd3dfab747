/- A quiet region inside a round of a range over a function: one walk in the order of the text serves every order, where no operation defers. No program. -/
import Derived.Sort.QuietIn
namespace Go.Proofs.Ytaomaeobgfeoiaa.Pq
open Go
variable {F : Fence} {n : Nat} {P : Program} {ops : Array Oper} {md : Region.Mode} {C : World → Prop}

/-- No operation of a list defers. -/
def noDefer (l : List Oper) : Bool := l.all fun o => match o.op with | .defer _ => false | _ => true

theorem noDefer_at {l : List Oper} (h : noDefer l = true) {o : Oper} (ho : o ∈ l) : ∀ c, o.op ≠ .defer c := by
  intro c e
  have := List.all_eq_true.1 h o ho
  rw [e] at this
  cases this

theorem oper_quiet {o : Oper} {a : Act} {K : Act → Prop} {K' : Act → World → Prop} {Q' : Exit → Act → World → Prop} {w : World} (hd : ∀ c, o.op ≠ .defer c) (hw : C w) (hK : ∀ a w', C w' → K a → K' a w')
    (ha : o.askedIn F P a C) (hq : o.quietIn F n P a C K) : o.wpIn F n P a w K' Q' := by
  obtain ⟨v, q1, q2⟩ := hq
  have q3 := q1 w hw
  refine ⟨ha w hw, ?_⟩
  rw [Oper.semAt_eq _ _ _ hd]
  revert q3
  unfold Oper.quietAtIn
  generalize (execOp a.eval o).run P w = r
  intro q3
  match r, q3 with
  | .ok (.value u) w', q3 =>
    obtain ⟨rfl, rfl⟩ := q3
    exact hK _ _ hw q2
  | .ok .skip w', q3 =>
    obtain ⟨rfl, rfl⟩ := q3
    exact hK _ _ hw q2
  | .ok (.enter f args) w', q3 =>
    obtain ⟨rfl, d1, d2⟩ := q3
    exact ⟨d1, d2.mono fun e w'' ⟨he, hw''⟩ => by subst he; exact hK _ _ hw'' q2⟩

theorem any_quiet {Q : Act → Prop} {Q' : Exit → Act → World → Prop} (hd : ∀ (i : Nat) (o : Oper), ops[i]? = some o → ∀ c, o.op ≠ .defer c) (hQ : ∀ a w, C w → Q a → Q' .normal a w) :
    ∀ (fuel : Nat) (listed : Array Bool) (a : Act) (w : World), C w → wpAnyQIn F n P md ops C Q fuel listed a → wpAnyIn F n P md ops Q' fuel listed a w
  | 0, _, _, _, hw, h => ⟨h.1, hQ _ _ hw h.2⟩
  | fuel + 1, listed, a, w, hw, h => ⟨fun h0 => hQ _ _ hw (h.1 h0), fun i hi => by
    have hi2 := h.2 i hi
    have ih := fun a' w' hw' => any_quiet hd hQ fuel (listed.setIfInBounds i true) a' w' hw'
    unfold qOpIn at hi2
    unfold wpOpIn
    cases ho : ops[i]? with
    | none => simp only [ho] at hi2; exact ih _ _ hw hi2
    | some o =>
      simp only [ho] at hi2
      obtain ⟨h1, h2⟩ := hi2
      by_cases hwn : Region.wanted o (yielded ops a.tmps) = true
      · simp only [hwn, if_true] at h2 ⊢
        exact oper_quiet (hd i o ho) hw ih h1 h2
      · simp only [hwn] at h2 ⊢
        exact ⟨h1 w hw, ih _ _ hw h2⟩⟩

theorem region_quiet {id : Nat} {Q : Exit → Act → World → Prop} {a : Act} {w : World} {l : List Oper} (hn : noDefer l = true) (hm : P.follows .mixedOrders = true) (hB : Region.lexB .any l.toArray = true)
    (h : wpQuietIn F n P l.toArray (fun w' => ∃ n, w' = w.drewN n) (fun a' => ∀ w', (∃ n, w' = w.drewN n) → Q .normal a' w') l a) : (Code.region id l.toArray true).wpIn F n P Q a w := by
  have hB' := hB
  simp only [Region.lexB, Bool.and_eq_true] at hB'
  have hd : ∀ (i : Nat) (o : Oper), l.toArray[i]? = some o → ∀ c, o.op ≠ .defer c := fun i o ho => noDefer_at hn (List.mem_of_getElem? (by simpa using ho))
  refine wpIn_region_any hm (any_quiet (C := fun w' => ∃ n, w' = w.drewN n) (Q := fun a' => ∀ w', (∃ n, w' = w.drewN n) → Q .normal a' w') hd (fun _ w' hw' h => h w' hw') _ _ _ _ ⟨1, rfl⟩ ?_)
  have := wpAnyQIn_lex (F := F) (n := n) (C := fun w' => ∃ n, w' = w.drewN n) (md := .any) hB'.1 l 0 (Array.replicate l.toArray.size false) a (by simp) (by simpa using hB'.2) h
  simpa using this
end Go.Proofs.Ytaomaeobgfeoiaa.Pq
