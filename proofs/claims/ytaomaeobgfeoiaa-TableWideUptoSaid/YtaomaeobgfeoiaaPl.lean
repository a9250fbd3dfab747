/- Plain facts on blocks of cells, and the model of the table's arrays. No program. -/
import Derived.WalkKit
import Derived.Deep.Draws
namespace Go.Proofs.Ytaomaeobgfeoiaa.Pl
open Go.RowKit

/-- A block of cells, whole. -/
def Blk (w : World) (b : Nat) (cs : List Value) (t : TypeId) : Prop := w.heap[b]? = some (.cells cs.toArray t (0, 0))

theorem Blk.cell {w : World} {b : Nat} {cs : List Value} {t : TypeId} (h : Blk w b cs t) (i : Nat) : w.cell? ⟨b, i, none⟩ = cs[i]? := by
  unfold Blk at h
  simp [World.cell?, h]

theorem Blk.frozen {w : World} {b : Nat} {cs : List Value} {t : TypeId} (h : Blk w b cs t) (i : Nat) : w.frozen? ⟨b, i, none⟩ = false := by
  unfold Blk at h
  simp [World.frozen?, h]

theorem Blk.lt {w : World} {b : Nat} {cs : List Value} {t : TypeId} (h : Blk w b cs t) : b < w.heap.size := by
  unfold Blk at h
  by_cases hb : b < w.heap.size
  · exact hb
  · rw [Array.getElem?_eq_none (by omega)] at h; cases h

theorem Blk.set {w : World} {b : Nat} {cs : List Value} {t : TypeId} (h : Blk w b cs t) (i : Nat) (v : Value) : Blk (w.setCell ⟨b, i, none⟩ v) b (cs.set i v) t := by
  unfold Blk at h ⊢
  simp [World.setCell, Array.getElem?_modify, h]

theorem Blk.set_other {w : World} {b b' : Nat} {cs : List Value} {t : TypeId} (h : Blk w b cs t) (hne : b ≠ b') (i : Nat) (v : Value) : Blk (w.setCell ⟨b', i, none⟩ v) b cs t := by
  unfold Blk at h ⊢
  rw [Go.heap_setCell_other _ _ _ _ hne]; exact h

theorem flat_get {α : Type} (f : α → List Value) (m : Nat) (hm : ∀ x, (f x).length = m) : ∀ (l : List α) (i c : Nat) (x : α), l[i]? = some x → c < m →
    (l.flatMap f)[i * m + c]? = (f x)[c]?
  | [], i, c, x, h, _ => by simp at h
  | y :: l, 0, c, x, h, hc => by
    simp at h; subst h
    simp [List.getElem?_append, hm, hc]
  | y :: l, i + 1, c, x, h, hc => by
    have h' : l[i]? = some x := by simpa using h
    have := flat_get f m hm l i c x h' hc
    rw [List.flatMap_cons, List.getElem?_append, if_neg (by rw [hm, Nat.add_mul]; omega), hm]
    rw [← this]; congr 1; rw [Nat.add_mul]; omega

/-- A slot of an array. -/
structure Sl (K V : Type) where
  st : Nat
  key : K
  val : V

/-- The way of a hash: the i-th place in an array of n slots. -/
def way (n h i : Nat) : Nat := (h + i) % n

/-- find, from the j-th slot of the way on, with so much fuel: where it lies; where it would be laid; how many were looked at. -/
def findGo {K V : Type} (eq : K → Bool) (sl : List (Sl K V)) (h : Nat) : Nat → Nat → Int → Int × Int × Int
  | 0, j, fr => (-1, fr, (j : Int))
  | f + 1, j, fr => match sl[way sl.length h j]? with
    | none => (-1, fr, (j : Int))
    | some s =>
      if s.st = 0 then (-1, if fr < 0 then ((way sl.length h j : Nat) : Int) else fr, (j : Int) + 1)
      else if s.st = 2 then findGo eq sl h f (j + 1) (if fr < 0 then ((way sl.length h j : Nat) : Int) else fr)
      else if eq s.key then ((way sl.length h j : Nat), fr, (j : Int) + 1) else findGo eq sl h f (j + 1) fr

def findM {K V : Type} (eq : K → Bool) (sl : List (Sl K V)) (h : Nat) : Int × Int × Int := findGo eq sl h sl.length 0 (-1)

theorem way_lt {n h i : Nat} (hn : 0 < n) : way n h i < n := Nat.mod_lt _ hn

theorem bits_way (e h j : Nat) (he : e ≤ 62) :
    wrap64 (bits BinOp.and IntKind.u64 (IntKind.u64.wrap ((h : Int) + (j : Int))) (((2 ^ e : Nat) : Int) - 1)) = ((way (2 ^ e) h j : Nat) : Int) := by
  have hp : 2 ^ e ≤ 2 ^ 62 := Nat.pow_le_pow_right (by decide) he
  have hp1 : 1 ≤ 2 ^ e := Nat.one_le_two_pow
  have hd : 2 ^ e ∣ 2 ^ 64 := Nat.pow_dvd_pow 2 (by omega)
  have hw : IntKind.u64.wrap ((h : Int) + (j : Int)) = (((h + j) % 2 ^ 64 : Nat) : Int) := by
    simp [IntKind.wrap, IntKind.bits, IntKind.signed]
  have h1 : ((2 ^ e : Nat) : Int) - 1 = ((2 ^ e - 1 : Nat) : Int) := by omega
  have hb : bits BinOp.and IntKind.u64 (IntKind.u64.wrap ((h : Int) + (j : Int))) (((2 ^ e : Nat) : Int) - 1) = ((way (2 ^ e) h j : Nat) : Int) := by
    rw [hw, h1]
    have hlt := way_lt (n := 2 ^ e) (h := h) (i := j) (by omega)
    have key : (BitVec.ofNat 64 ((h + j) % 2 ^ 64) &&& BitVec.ofNat 64 (2 ^ e - 1)).toNat = way (2 ^ e) h j := by
      rw [BitVec.toNat_and, BitVec.toNat_ofNat, BitVec.toNat_ofNat, Nat.mod_eq_of_lt (a := 2 ^ e - 1) (by omega), Nat.and_two_pow_sub_one_eq_mod, Nat.mod_mod, Nat.mod_mod_of_dvd _ hd]
      rfl
    show IntKind.u64.wrap (((BitVec.ofInt 64 (((h + j) % 2 ^ 64 : Nat) : Int) &&& BitVec.ofInt 64 ((2 ^ e - 1 : Nat) : Int)).toNat : Nat) : Int) = _
    rw [BitVec.ofInt_natCast, BitVec.ofInt_natCast, key]
    exact IntWalk.u64_in _ (by omega)
  rw [hb]
  have hlt := way_lt (n := 2 ^ e) (h := h) (i := j) (by omega)
  exact IntWalk.wrap64_in _ (by omega)
end Go.Proofs.Ytaomaeobgfeoiaa.Pl
namespace Go.Proofs.Ytaomaeobgfeoiaa.Pl
open Go.RowKit
/-- A cell of an element in a row is written: the element is another. -/
theorem flat_set {α : Type} (f : α → List Value) (m : Nat) (hm : ∀ x, (f x).length = m) : ∀ (l : List α) (i c : Nat) (x y : α) (v : Value), l[i]? = some x → c < m → f y = (f x).set c v →
    (l.flatMap f).set (i * m + c) v = (l.set i y).flatMap f
  | [], i, c, x, y, v, h, _, _ => by simp at h
  | z :: l, 0, c, x, y, v, h, hc, e => by
    simp at h; subst h
    simp [hm, hc, e]
  | z :: l, i + 1, c, x, y, v, h, hc, e => by
    have := flat_set f m hm l i c x y v (by simpa using h) hc e
    rw [List.flatMap_cons, List.set_append, if_neg (by rw [hm, Nat.add_mul]; omega), hm, List.set_cons_succ, List.flatMap_cons, ← this]
    congr 2; rw [Nat.add_mul]; omega

/-- What was there and is no block of F lies as it lay. -/
structure Keeps (F : List Nat) (w w' : World) : Prop where
  os : w'.os = w.os
  tape : w'.tape = w.tape
  output : w'.output = w.output
  size : w.heap.size ≤ w'.heap.size
  block : ∀ k, k < w.heap.size → k ∉ F → w'.heap[k]? = w.heap[k]?

theorem Keeps.refl (F : List Nat) (w : World) : Keeps F w w := ⟨rfl, rfl, rfl, Nat.le_refl _, fun _ _ _ => rfl⟩
theorem Keeps.trans {F G : List Nat} {a b c : World} (h : Keeps F a b) (k : Keeps G b c) (hs : ∀ x ∈ G, x < a.heap.size → x ∈ F) : Keeps F a c :=
  ⟨k.os.trans h.os, k.tape.trans h.tape, k.output.trans h.output, Nat.le_trans h.size k.size,
    fun i hi hn => (k.block i (Nat.lt_of_lt_of_le hi h.size) (fun hm => hn (hs i hm hi))).trans (h.block i hi hn)⟩
theorem Keeps.mono {F G : List Nat} {a b : World} (h : Keeps F a b) (hs : ∀ x ∈ F, x < a.heap.size → x ∈ G) : Keeps G a b :=
  ⟨h.os, h.tape, h.output, h.size, fun i hi hn => h.block i hi fun hm => hn (hs i hm hi)⟩
theorem Keeps.drewN {F : List Nat} {a b : World} (h : Keeps F a b) (n : Nat) : Keeps F a (b.drewN n) := ⟨h.os, h.tape, h.output, h.size, h.block⟩
theorem Keeps.drew {F : List Nat} {a b : World} (h : Keeps F a b) : Keeps F a b.drew := ⟨h.os, h.tape, h.output, h.size, h.block⟩
theorem Keeps.alloc {F : List Nat} {a b : World} (h : Keeps F a b) (o : Obj) : Keeps F a (b.alloc o) :=
  ⟨h.os, h.tape, h.output, Nat.le_trans h.size (by simp), fun k hk hn => (Below.heap_alloc b o k (Nat.lt_of_lt_of_le hk h.size)).trans (h.block k hk hn)⟩
theorem Keeps.setCell {F : List Nat} {a b : World} (h : Keeps F a b) (p : Addr) (v : Value) (hp : p.block < a.heap.size → p.block ∈ F) : Keeps F a (b.setCell p v) :=
  ⟨h.os, h.tape, h.output, Nat.le_trans h.size (by simp), fun k hk hn => (Below.heap_setCell b p v k (fun e => hn (by rw [e]; exact hp (by rw [← e]; exact hk)))).trans (h.block k hk hn)⟩
theorem Keeps.blk {F : List Nat} {w w' : World} (h : Keeps F w w') {b : Nat} {cs : List Value} {t : TypeId} (hb : Blk w b cs t) (hn : b ∉ F) : Blk w' b cs t :=
  (h.block b hb.lt hn).trans hb
theorem Keeps.below {F : List Nat} {w w' : World} (h : Keeps F w w') {B : Nat} (hB : B ≤ w.heap.size) (hF : ∀ x ∈ F, B ≤ x) : Below B w w' :=
  ⟨h.os, h.tape, h.output, h.size, fun k hk => h.block k (by omega) fun hm => by have := hF k hm; omega⟩
theorem Blk.of {w : World} {b : Nat} {cs cs' : List Value} {t : TypeId} (h : Blk w b cs t) (e : cs = cs') : Blk w b cs' t := e ▸ h
theorem Blk.undrew {w : World} {n : Nat} {b : Nat} {cs : List Value} {t : TypeId} (h : Blk w b cs t) : Blk (w.drewN n) b cs t := h
theorem Blk.drewN {w : World} {b : Nat} {cs : List Value} {t : TypeId} (h : Blk w b cs t) (n : Nat) : Blk (w.drewN n) b cs t := h
theorem Blk.drew {w : World} {b : Nat} {cs : List Value} {t : TypeId} (h : Blk w b cs t) : Blk w.drew b cs t := h
theorem Blk.alloc {w : World} {b : Nat} {cs : List Value} {t : TypeId} (h : Blk w b cs t) (o : Obj) : Blk (w.alloc o) b cs t :=
  (Below.heap_alloc w o b h.lt).trans h
theorem Blk.new (w : World) (cs : List Value) (t : TypeId) : Blk (w.alloc (.cells cs.toArray t)) w.heap.size cs t := by
  unfold Blk
  show (w.heap.push _)[w.heap.size]? = _
  simp
end Go.Proofs.Ytaomaeobgfeoiaa.Pl
namespace Go.Proofs.Ytaomaeobgfeoiaa.Pl
open Go.RowKit
theorem made_eq {α : Type} (f : α → List Value) (x0 : α) (z : Array Value) (hz : z.toList = f x0) (_hp : 0 < z.size) : ∀ n, madeCells z (n * z.size) = ((List.replicate n x0).flatMap f).toArray := by
  have h1 : (List.range z.size).map (fun i => z[i % z.size]!) = f x0 := by
    rw [← hz]
    apply List.ext_getElem
    · simp
    · intro i h1 h2
      have hi : i < z.size := by simpa using h1
      simp [Nat.mod_eq_of_lt hi, getElem!_pos, hi]
  have key : ∀ n, (List.range (n * z.size)).map (fun i => z[i % z.size]!) = (List.replicate n x0).flatMap f := by
    intro n
    induction n with
    | zero => simp
    | succ n ih =>
      rw [Nat.succ_mul, List.range_add, List.map_append, ih, List.map_map, List.replicate_succ']
      rw [List.flatMap_append]
      congr 1
      simp only [List.flatMap_cons, List.flatMap_nil, List.append_nil]
      rw [← h1]
      apply List.map_congr_left
      intro i hi
      simp only [Function.comp]
      rw [Nat.mul_add_mod_self_right]
  intro n
  unfold madeCells
  apply Array.ext'
  rw [Array.toList_map, Array.toList_range]
  exact key n

theorem wpList_make_cells {P : Program} (w : World) {ops : Array Oper} {rest : List Oper} {o : Oper} {a : Act} {Q : Exit → Act → World → Prop}
    (hg : o.guard = none) (l c : Operand) (t : TypeId) (hop : o.op = Op.makeSlice t l c)
    (e : TypeId) (z : Value) (size bytes : Nat) (ht : P.underlying t = some (.slice e)) (hinfo : (P.info? e).map (fun i => (i.zero, i.size, i.bytes)) = some (some z, size, bytes))
    (kl kc : IntKind) (L C : Int) (n : Nat) (hl : a.eval l = .int kl L) (hc : a.eval c = .int kc C) (hL : L = (n : Int)) (hC : C = (n : Int)) (hbytes : bytes * n ≤ 281474976710656) (h63 : n ≤ 9223372036854775807)
    (hK : wpList P ops Q rest (a.put o.dst (.slice (some ⟨w.heap.size, 0, none⟩) n n)) (w.alloc (.cells (madeCells z.cells (n * size)) e))) :
    wpList P ops Q (o :: rest) a w := by
  refine wpList_plain hg fun K hK' => ?_
  obtain ⟨i, hi, hzz⟩ := Option.map_eq_some_iff.1 hinfo
  simp only [Prod.mk.injEq] at hzz
  obtain ⟨hz, hs, hb⟩ := hzz
  subst hL hC
  have hb' : (i.bytes : Int) * (n : Int) ≤ 281474976710656 := by
    have h : ((i.bytes * n : Nat) : Int) ≤ 281474976710656 := by rw [hb]; omega
    rwa [Int.natCast_mul] at h
  have hrun := run_make (P := P) w t e i z ht hi hz kl kc n n (by omega) (Int.le_refl _) hb' (by omega)
  simp only [Int.toNat_natCast, hs] at hrun
  unfold Oper.wp
  simp [execOp, hop, hl, hc, hrun, Result.andThen]
  exact hK' _ _ hK
end Go.Proofs.Ytaomaeobgfeoiaa.Pl
