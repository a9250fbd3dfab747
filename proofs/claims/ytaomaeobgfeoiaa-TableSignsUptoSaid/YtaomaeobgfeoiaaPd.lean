/- The floats that TableSigns lays under: 0 to 31, and the nought with a sign. No program. -/
import GoSem.Op.Equal
import GoSem.Dispatch
import Derived.Test.YtaomaeobgfeoiaaTb
namespace Go.Proofs.Ytaomaeobgfeoiaa.Pl

def fdBits : List Nat := [0, 4607182418800017408, 4611686018427387904, 4613937818241073152, 4616189618054758400, 4617315517961601024, 4618441417868443648, 4619567317775286272, 4620693217682128896, 4621256167635550208, 4621819117588971520, 4622382067542392832, 4622945017495814144, 4623507967449235456, 4624070917402656768, 4624633867356078080, 4625196817309499392, 4625478292286210048, 4625759767262920704, 4626041242239631360, 4626322717216342016, 4626604192193052672, 4626885667169763328, 4627167142146473984, 4627448617123184640, 4627730092099895296, 4628011567076605952, 4628293042053316608, 4628574517030027264, 4628855992006737920, 4629137466983448576, 4629418941960159232, 9223372036854775808]
def FD := { b : Nat // b ∈ fdBits }
instance : OfNat FD 0 := ⟨⟨0, by decide⟩⟩
def keyN (b : Nat) : Nat := if b = 9223372036854775808 then 0 else fdBits.idxOf b
def tagN (b : Nat) : Nat := if b = 9223372036854775808 then 1 else 0
def gB (k t : Nat) : Nat := if k = 0 ∧ t ≠ 0 then 9223372036854775808 else fdBits.getD k 0
abbrev feqD (a b : FD) : Bool := Op.floatEq .f64 a.1 b.1
abbrev keyD (a : FD) : Nat := keyN a.1
abbrev tagD (a : FD) : Nat := tagN a.1

theorem gB_back : ∀ b ∈ fdBits, gB (keyN b) (tagN b) = b := by decide
theorem keyN_lt : ∀ b ∈ fdBits, keyN b < 32 := by decide
theorem tagN_le : ∀ b ∈ fdBits, tagN b ≤ 1 := by decide
theorem eq_keys : ∀ a ∈ fdBits, ∀ b ∈ fdBits, Op.floatEq .f64 a b = decide (keyN a = keyN b) := by decide +kernel
theorem to_int : ∀ b ∈ fdBits, (FloatKind.f64.decode b).toInt .zero = some ((keyN b : Nat) : Int) := by decide +kernel
theorem near_int : ∀ k ∈ List.range 32, FloatKind.f64.nearest ((k : Nat) : Int) = fdBits.getD k 0 := by decide +kernel
theorem gB_mem : ∀ k ∈ List.range 32, fdBits.getD k 0 ∈ fdBits ∧ keyN (fdBits.getD k 0) = k ∧ tagN (fdBits.getD k 0) = 0 := by decide

theorem feqD_keys (a b : FD) : feqD a b = decide (keyD a = keyD b) := eq_keys a.1 a.2 b.1 b.2

/-- A hash that equal keys share. -/
def FHashD := { h : FD → Nat // ∀ a b, feqD a b = true → h a = h b }
instance : CoeFun FHashD (fun _ => FD → Nat) := ⟨fun h => h.1⟩
theorem feqD_iff (a b : FD) : feqD a b = true ↔ ∃ c, some (keyD a) = some c ∧ some (keyD b) = some c := by
  rw [feqD_keys, decide_eq_true_eq]
  exact ⟨fun h => ⟨_, rfl, by rw [h]⟩, fun ⟨c, h1, h2⟩ => (Option.some.inj h1).trans (Option.some.inj h2).symm⟩
def hashD : FHashD := ⟨fun a => keyD a, fun a b h => by rw [feqD_keys, decide_eq_true_eq] at h; exact h⟩
end Go.Proofs.Ytaomaeobgfeoiaa.Pl
