/- Floats as keys: which are equal. No program. -/
import GoSem.Op.Equal
import Derived.Test.YtaomaeobgfeoiaaTa
namespace Go.Proofs.Ytaomaeobgfeoiaa.Pl
open Go.RowKit

/-- A float's bits. -/
abbrev F64 := { b : Nat // b < 18446744073709551616 }
instance : OfNat F64 0 := ⟨⟨0, by decide⟩⟩

abbrev feq (a b : F64) : Bool := Op.floatEq .f64 a.1 b.1

theorem shl_eq (m k : Nat) : m <<< k = m * 2 ^ k := Nat.shiftLeft_eq m k

theorem signed_add (s : Bool) (m a c : Nat) : Ieee.signed s m (a + c) = Ieee.signed s m a * ((2 ^ c : Nat) : Int) := by
  unfold Ieee.signed
  rw [shl_eq, shl_eq, Nat.pow_add, ← Nat.mul_assoc]
  cases s <;> simp [Int.natCast_mul, Int.neg_mul]

theorem signed_cmp (s t : Bool) (m n : Nat) (i j lp : Int) (hi : lp ≤ i) (hj : lp ≤ j) :
    compare (Ieee.signed s m (i - min i j).toNat) (Ieee.signed t n (j - min i j).toNat) = .eq ↔ Ieee.signed s m (i - lp).toNat = Ieee.signed t n (j - lp).toNat := by
  have e1 : (i - lp).toNat = (i - min i j).toNat + (min i j - lp).toNat := by omega
  have e2 : (j - lp).toNat = (j - min i j).toNat + (min i j - lp).toNat := by omega
  rw [e1, e2, signed_add, signed_add]
  generalize Ieee.signed s m (i - min i j).toNat = x
  generalize Ieee.signed t n (j - min i j).toNat = y
  have hp : ((2 ^ (min i j - lp).toNat : Nat) : Int) ≠ 0 := by
    have : 0 < 2 ^ (min i j - lp).toNat := Nat.two_pow_pos _
    omega
  generalize ((2 ^ (min i j - lp).toNat : Nat) : Int) = p at hp
  constructor
  · intro h
    have : x = y := by
      rcases Int.lt_trichotomy x y with q | q | q
      · simp [compare, compareOfLessAndEq, q] at h
      · exact q
      · have h1 : ¬ x < y := by omega
        have h2 : ¬ x = y := by omega
        simp [compare, compareOfLessAndEq, h1, h2] at h
    rw [this]
  · intro h
    have : x = y := Int.eq_of_mul_eq_mul_right hp h
    subst this
    simp [compare, compareOfLessAndEq]

/-- A datum's class: none for a NaN. -/
def dcls (lp : Int) : Ieee.Datum → Option (Bool ⊕ Int)
  | .number s m p => some (.inr (Ieee.signed s m (p - lp).toNat))
  | .infinity s => some (.inl s)
  | .nan _ _ => none

theorem order_eq (lp : Int) (x y : Ieee.Datum) (hx : ∀ s m p, x = .number s m p → lp ≤ p) (hy : ∀ s m p, y = .number s m p → lp ≤ p) :
    (x.order y == some .eq) = true ↔ ∃ c, dcls lp x = some c ∧ dcls lp y = some c := by
  cases x with
  | nan s t => simp [Ieee.Datum.order, dcls]
  | infinity s =>
    cases y with
    | nan => simp [Ieee.Datum.order, dcls]
    | infinity t => cases s <;> cases t <;> simp [Ieee.Datum.order, dcls] <;> decide
    | number t n j => cases s <;> simp [Ieee.Datum.order, dcls]
  | number s m i =>
    cases y with
    | nan => simp [Ieee.Datum.order, dcls]
    | infinity t => cases t <;> simp [Ieee.Datum.order, dcls]
    | number t n j =>
      have := signed_cmp s t m n i j lp (hx _ _ _ rfl) (hy _ _ _ rfl)
      simp only [Ieee.Datum.order, dcls, beq_iff_eq, Option.some.injEq]
      constructor
      · intro h
        refine ⟨_, rfl, ?_⟩
        rw [this.1 h]
      · rintro ⟨c, rfl, h⟩
        apply this.2
        simpa using h.symm

def lpD : Int := -1074

theorem read_place (b : Nat) : ∀ s m p, Ieee.double.read b = .number s m p → lpD ≤ p := by
  intro s m p h
  have hl : Ieee.double.leastPlace = lpD := by decide
  unfold Ieee.Format.read at h
  simp only [hl] at h
  split at h
  · cases h; omega
  · split at h
    · cases h; omega
    · split at h <;> cases h

def fcls (a : F64) : Option (Bool ⊕ Int) := dcls lpD (Ieee.double.read a.1)

theorem feq_iff (a b : F64) : feq a b = true ↔ ∃ c, fcls a = some c ∧ fcls b = some c :=
  order_eq lpD _ _ (read_place a.1) (read_place b.1)

/-- What a rung weighs. -/
def rungW (r : Nat) : Nat := if r < 4503599627370496 then r else (4503599627370496 + r % 4503599627370496) * 2 ^ (r / 4503599627370496 - 1)

theorem rungW_big {r : Nat} (h : ¬ r < 4503599627370496) : 4503599627370496 * 2 ^ (r / 4503599627370496 - 1) ≤ rungW r ∧ rungW r < 4503599627370496 * 2 ^ (r / 4503599627370496) := by
  unfold rungW
  rw [if_neg h]
  have h1 : r % 4503599627370496 < 4503599627370496 := Nat.mod_lt _ (by decide)
  have h2 : 1 ≤ r / 4503599627370496 := by omega
  refine ⟨Nat.mul_le_mul_right _ (by omega), ?_⟩
  have e : 2 ^ (r / 4503599627370496) = 2 * 2 ^ (r / 4503599627370496 - 1) := by
    rw [← Nat.pow_succ']; congr 1; omega
  rw [e, ← Nat.mul_assoc]
  exact Nat.mul_lt_mul_of_pos_right (by omega) (Nat.two_pow_pos _)

theorem rungW_inj {r r' : Nat} (h : rungW r = rungW r') : r = r' := by
  by_cases q : r < 4503599627370496
  · by_cases q' : r' < 4503599627370496
    · unfold rungW at h; rwa [if_pos q, if_pos q'] at h
    · exfalso
      have h1 := (rungW_big q').1
      have h2 : 1 ≤ 2 ^ (r' / 4503599627370496 - 1) := Nat.one_le_two_pow
      have e : rungW r = r := by unfold rungW; rw [if_pos q]
      have : 4503599627370496 * 1 ≤ 4503599627370496 * 2 ^ (r' / 4503599627370496 - 1) := Nat.mul_le_mul_left _ h2
      omega
  · by_cases q' : r' < 4503599627370496
    · exfalso
      have h1 := (rungW_big q).1
      have h2 : 1 ≤ 2 ^ (r / 4503599627370496 - 1) := Nat.one_le_two_pow
      have e : rungW r' = r' := by unfold rungW; rw [if_pos q']
      have : 4503599627370496 * 1 ≤ 4503599627370496 * 2 ^ (r / 4503599627370496 - 1) := Nat.mul_le_mul_left _ h2
      omega
    · have a := rungW_big q
      have b := rungW_big q'
      have key : ∀ x y : Nat, x < y → 4503599627370496 * 2 ^ x ≤ 4503599627370496 * 2 ^ (y - 1) := fun x y hxy => Nat.mul_le_mul_left _ (Nat.pow_le_pow_right (by decide) (by omega))
      have he : r / 4503599627370496 = r' / 4503599627370496 := by
        rcases Nat.lt_trichotomy (r / 4503599627370496) (r' / 4503599627370496) with z | z | z
        · have := key _ _ z; omega
        · exact z
        · have := key _ _ z; omega
      have hm : r % 4503599627370496 = r' % 4503599627370496 := by
        unfold rungW at h
        rw [if_neg q, if_neg q', he] at h
        have := Nat.eq_of_mul_eq_mul_right (Nat.two_pow_pos _) h
        omega
      omega

/-- The class of a float, by its sign and its rung. -/
theorem fcls_eq (a : F64) : fcls a = if a.1 % 9223372036854775808 < 9218868437227405312 then some (.inr (if a.1 / 9223372036854775808 % 2 == 1 then -((rungW (a.1 % 9223372036854775808) : Nat) : Int) else ((rungW (a.1 % 9223372036854775808) : Nat) : Int)))
    else if a.1 % 9223372036854775808 = 9218868437227405312 then some (.inl (a.1 / 9223372036854775808 % 2 == 1)) else none := by
  have h1 : Ieee.double.signWeight = 9223372036854775808 := by decide
  have h2 : Ieee.double.binade = 4503599627370496 := by decide
  have h3 : Ieee.double.infRung = 9218868437227405312 := by decide
  have h4 : Ieee.double.leastPlace = lpD := by decide
  unfold fcls Ieee.Format.read
  simp only [h1, h2, h3, h4]
  generalize a.1 % 9223372036854775808 = r
  generalize (a.1 / 9223372036854775808 % 2 == 1) = sg
  by_cases q : r < 4503599627370496
  · have q2 : r < 9218868437227405312 := by omega
    rw [if_pos q, if_pos q2]
    simp only [dcls, Int.sub_self, Int.toNat_zero, Ieee.signed, Nat.shiftLeft_zero]
    unfold rungW
    rw [if_pos q]
  · rw [if_neg q]
    by_cases q2 : r < 9218868437227405312
    · rw [if_pos q2, if_pos q2]
      have e : (lpD + ((r / 4503599627370496 - 1 : Nat) : Int) - lpD).toNat = r / 4503599627370496 - 1 := by omega
      simp only [dcls, e, Ieee.signed, shl_eq]
      unfold rungW
      rw [if_neg q]
    · rw [if_neg q2, if_neg q2]
      by_cases q3 : r = 9218868437227405312
      · rw [if_pos q3, if_pos q3]; rfl
      · rw [if_neg q3, if_neg q3]; rfl

/-- Equal floats are one, or both nought. -/
theorem feq_cases {a b : F64} (h : feq a b = true) : a = b ∨ (feq a 0 = true ∧ feq b 0 = true) := by
  obtain ⟨c, ha, hb⟩ := (feq_iff a b).1 h
  rw [fcls_eq] at ha hb
  have la := a.2
  have lb := b.2
  have h0 : fcls 0 = some (.inr 0) := by rw [fcls_eq]; rfl
  by_cases q : a.1 % 9223372036854775808 < 9218868437227405312
  · rw [if_pos q] at ha
    by_cases q' : b.1 % 9223372036854775808 < 9218868437227405312
    · rw [if_pos q'] at hb
      have e := ha.trans hb.symm
      simp only [Option.some.injEq, Sum.inr.injEq] at e
      by_cases hz : rungW (a.1 % 9223372036854775808) = 0
      · right
        have hz' : rungW (b.1 % 9223372036854775808) = 0 := by
          rw [hz] at e; split at e <;> split at e <;> omega
        refine ⟨(feq_iff _ _).2 ⟨.inr 0, ?_, h0⟩, (feq_iff _ _).2 ⟨.inr 0, ?_, h0⟩⟩
        · rw [fcls_eq, if_pos q, hz]; split <;> rfl
        · rw [fcls_eq, if_pos q', hz']; split <;> rfl
      · left
        have hw : rungW (a.1 % 9223372036854775808) = rungW (b.1 % 9223372036854775808) := by split at e <;> split at e <;> omega
        have hr := rungW_inj hw
        have hs : a.1 / 9223372036854775808 % 2 = b.1 / 9223372036854775808 % 2 := by
          split at e <;> split at e <;> rename_i s1 s2 <;> simp only [beq_iff_eq] at s1 s2 <;> omega
        apply Subtype.ext
        omega
    · rw [if_neg q'] at hb
      split at hb
      · rw [← ha] at hb; cases hb
      · cases hb
  · rw [if_neg q] at ha
    split at ha
    · by_cases q' : b.1 % 9223372036854775808 < 9218868437227405312
      · rw [if_pos q', ← ha] at hb; cases hb
      · rw [if_neg q'] at hb
        split at hb
        · left
          rename_i r1 r2
          have e := ha.trans hb.symm
          simp only [Option.some.injEq, Sum.inl.injEq] at e
          apply Subtype.ext
          have h1 : a.1 / 9223372036854775808 % 2 = b.1 / 9223372036854775808 % 2 := by
            have h2 : (a.1 / 9223372036854775808 % 2 = 1) ↔ (b.1 / 9223372036854775808 % 2 = 1) := ⟨fun h => beq_iff_eq.1 (e.symm.trans (beq_iff_eq.2 h)), fun h => beq_iff_eq.1 (e.trans (beq_iff_eq.2 h))⟩
            omega
          omega
        · cases hb
    · cases ha

/-- A hash that equal keys share. -/
def FHash := { h : F64 → Nat // ∀ a b, feq a b = true → h a = h b }
instance : CoeFun FHash (fun _ => F64 → Nat) := ⟨fun h => h.1⟩

theorem feq_trans {a b c : F64} (h : feq a b = true) (k : feq b c = true) : feq a c = true := by
  obtain ⟨x, h1, h2⟩ := (feq_iff _ _).1 h
  obtain ⟨y, k1, k2⟩ := (feq_iff _ _).1 k
  rw [h2] at k1; cases k1
  exact (feq_iff _ _).2 ⟨x, h1, k2⟩
theorem feq_symm {a b : F64} (h : feq a b = true) : feq b a = true := by
  obtain ⟨x, h1, h2⟩ := (feq_iff _ _).1 h
  exact (feq_iff _ _).2 ⟨x, h2, h1⟩

/-- A hash of the bits, but for the noughts. -/
def hashOf (f : F64 → Nat) (hf : ∀ a b, feq a 0 = true → feq b 0 = true → f a = f b) : FHash := ⟨f, fun a b h => by
  rcases feq_cases h with rfl | ⟨h1, h2⟩
  · rfl
  · exact hf a b h1 h2⟩
end Go.Proofs.Ytaomaeobgfeoiaa.Pl
