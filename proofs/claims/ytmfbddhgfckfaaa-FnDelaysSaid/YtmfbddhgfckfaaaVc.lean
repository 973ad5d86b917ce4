/- V-logic, part 3: the arithmetic that 'Ops' stands for, and types. -/
import Derived.Test.YtmfbddhgfckfaaaVb
import Derived.Laws.FloatArith
namespace Go.Desk
open Go
set_option linter.all false
set_option linter.unusedVariables false

def fa (op : BinOp) (k : FloatKind) (x y : Nat) : Option Nat :=
  match op with
  | .add => k.format.add x y
  | .sub => k.format.sub x y
  | .mul => k.format.mul x y
  | .quo => k.format.div x y
  | _ => none
def fc (op : BinOp) (k : FloatKind) (x y : Nat) : Bool :=
  let c := k.format.order x y
  match op with
  | .eql => c == some .eq
  | .neq => c != some .eq
  | .lss => c == some .lt
  | .leq => c == some .lt || c == some .eq
  | .gtr => c == some .gt
  | .geq => c == some .gt || c == some .eq
  | _ => false
def fcv (j k : FloatKind) (n : Nat) : Nat :=
  if j = k then n else
  match j.decode n with
  | .nan _ _ => nanOf k
  | d => k.encode d
def bitsOf (op : BinOp) (k : IntKind) (a b : Int) : Int :=
  match op with
  | .and => k.wrap (BitVec.ofInt k.bits a &&& BitVec.ofInt k.bits b).toNat
  | .or => k.wrap (BitVec.ofInt k.bits a ||| BitVec.ofInt k.bits b).toNat
  | .xor => k.wrap (BitVec.ofInt k.bits a ^^^ BitVec.ofInt k.bits b).toNat
  | .andNot => k.wrap (BitVec.ofInt k.bits a &&& ~~~(BitVec.ofInt k.bits b)).toNat
  | .shl => k.wrap (a * 2 ^ (min b.toNat k.bits))
  | .shr => a.fdiv (2 ^ (min b.toNat k.bits))
  | _ => 0

def std : Ops where
  iadd a b := a + b
  isub a b := a - b
  imul a b := a * b
  idiv a b := a.tdiv b
  irem a b := a.tmod b
  ineg a := -a
  wrap k n := k.wrap n
  ilt a b := decide (a < b)
  ile a b := decide (a ≤ b)
  ieq a b := a == b
  bits := bitsOf
  toN n := n.toNat
  ofN n := (n : Int)
  imin a b := if b < a then b else a
  imax a b := if b > a then b else a
  nadd a b := a + b
  nsub a b := a - b
  nlt a b := decide (a < b)
  neq a b := a == b
  band a b := a && b
  beq a b := a == b
  pIn k n := k.min ≤ n ∧ n ≤ k.max
  pIdx i n := 0 ≤ i ∧ i < (n : Int)
  pLe a b := a ≤ b
  pNe a b := a ≠ b
  pNle a b := a ≤ b
  pNlt a b := a < b
  pNeq a b := a = b
  pSmall n := n ≤ 1073741824
  fop op k a b := ((fa op k a b).map (canon k)).getD (nanOf k)
  fcmp := fc
  fneg k n := canon k (Op.negFloat k n)
  fconv j k n := canon k (fcv j k n)
  fofI k n := canon k (k.nearest n)
  ftoI k n := ((k.decode n).toInt .zero).getD 0
  pConv j k n := j = k ∨ match j.decode n with
    | .number s m e => (k.decode (k.encode (.number s m e))).isInfinity = false
    | _ => True
  pToI j k n := ∃ m, (j.decode n).toInt .zero = some m ∧ k.min ≤ m ∧ m ≤ k.max
  pNum k n := (k.decode n).isNaN = false
  funary _ n := n
  slen l := l.length
  sidx l i := (((l.getD i 0).toNat : Nat) : Int)
  ssub l a b := (l.drop a).take (b - a)
  sapp a b := a ++ b
  scmp op a b := match op with
    | .eql => a == b
    | _ => !(a == b)
  llen l := l.length
  lget l i d := l.getD i d
  lapp a b := a ++ b
  lset l i x := l.set i x
  lsub l a b := (l.drop a).take (b - a)
  lrep n x := List.replicate n x

theorem blt_f {a b : Nat} (h : ¬ a < b) : nblt a b = false := by
  cases hh : nblt a b
  · rfl
  · exact absurd (by simpa [nblt_eq] using hh) h

/- NaNs -/
theorem nan_iff (k : FloatKind) (b : Nat) : (k.decode b).isNaN = (match k with | .f32 => nblt 2139095040 (b % 2147483648) | .f64 => nblt 9218868437227405312 (b % 9223372036854775808)) := by
  cases k
  · have e1 : Ieee.single.signWeight = 2147483648 := by decide
    have e2 : Ieee.single.infRung = 2139095040 := by decide
    have e3 : Ieee.single.binade = 8388608 := by decide
    simp only [FloatKind.decode, FloatKind.format, Ieee.Format.read, e1, e2, e3]
    by_cases h1 : b % 2147483648 < 8388608
    · simp only [h1, if_true, Ieee.Datum.isNaN]
      exact (blt_f (by omega)).symm
    · simp only [h1, if_false]
      by_cases h2 : b % 2147483648 < 2139095040
      · simp only [h2, if_true, Ieee.Datum.isNaN]
        exact (blt_f (by omega)).symm
      · simp only [h2, if_false]
        by_cases h3 : b % 2147483648 = 2139095040
        · simp only [h3, if_true, Ieee.Datum.isNaN]; rfl
        · simp only [h3, if_false, Ieee.Datum.isNaN]
          symm; rw [nblt_eq]; omega
  · have e1 : Ieee.double.signWeight = 9223372036854775808 := by decide
    have e2 : Ieee.double.infRung = 9218868437227405312 := by decide
    have e3 : Ieee.double.binade = 4503599627370496 := by decide
    simp only [FloatKind.decode, FloatKind.format, Ieee.Format.read, e1, e2, e3]
    by_cases h1 : b % 9223372036854775808 < 4503599627370496
    · simp only [h1, if_true, Ieee.Datum.isNaN]
      exact (blt_f (by omega)).symm
    · simp only [h1, if_false]
      by_cases h2 : b % 9223372036854775808 < 9218868437227405312
      · simp only [h2, if_true, Ieee.Datum.isNaN]
        exact (blt_f (by omega)).symm
      · simp only [h2, if_false]
        by_cases h3 : b % 9223372036854775808 = 9218868437227405312
        · simp only [h3, if_true, Ieee.Datum.isNaN]; rfl
        · simp only [h3, if_false, Ieee.Datum.isNaN]
          symm; rw [nblt_eq]; omega
theorem blt_dec (a b : Nat) : decide (a < b) = nblt a b := by
  rw [Bool.eq_iff_iff]; simp [nblt_eq]
theorem canon_eq (k : FloatKind) (b : Nat) : canon k b = if (k.decode b).isNaN = true then nanOf k else b := by
  rw [nan_iff]
  cases k
  · simp only [canon, nanOf, blt_dec]; cases nblt 2139095040 (b % 2147483648) <;> rfl
  · simp only [canon, nanOf, blt_dec]; cases nblt 9218868437227405312 (b % 9223372036854775808) <;> rfl
theorem canon_of_num {k : FloatKind} {b : Nat} (h : (k.decode b).isNaN = false) : canon k b = b := by rw [canon_eq]; simp [h]
theorem canon_of_nan {k : FloatKind} {b : Nat} (h : (k.decode b).isNaN = true) : canon k b = nanOf k := by rw [canon_eq]; simp [h]
theorem nanOf_nan (k : FloatKind) : (k.decode (nanOf k)).isNaN = true := by rw [nan_iff]; cases k <;> rfl
theorem nan_canon (k : FloatKind) (b : Nat) : (k.decode (canon k b)).isNaN = (k.decode b).isNaN := by
  cases h : (k.decode b).isNaN
  · rw [canon_of_num h, h]
  · rw [canon_of_nan h, nanOf_nan]
theorem canon_canon (k : FloatKind) (b : Nat) : canon k (canon k b) = canon k b := by
  cases h : (k.decode b).isNaN
  · rw [canon_of_num h, canon_of_num h]
  · rw [canon_of_nan h, canon_of_nan (nanOf_nan k)]
theorem canon_lt {k : FloatKind} {b : Nat} (h : b < 2 ^ k.format.width) : canon k b < 2 ^ k.format.width := by
  rw [canon_eq]; split
  · cases k <;> decide
  · exact h
theorem isNaN_elim {d : Ieee.Datum} (h : d.isNaN = true) : ∃ s t, d = .nan s t := by cases d <;> simp [Ieee.Datum.isNaN] at h; exact ⟨_, _, rfl⟩
theorem fa_nan_l (op : BinOp) (k : FloatKind) (x y : Nat) (h : (k.decode x).isNaN = true) : fa op k x y = none := by
  obtain ⟨s, t, e⟩ := isNaN_elim h
  have e' : k.format.read x = .nan s t := e
  cases op <;> simp only [fa, Ieee.Format.add, Ieee.Format.sub, Ieee.Format.mul, Ieee.Format.div, e']
  all_goals first | rfl | (cases k.format.read y <;> rfl)
theorem fa_nan_r (op : BinOp) (k : FloatKind) (x y : Nat) (h : (k.decode y).isNaN = true) : fa op k x y = none := by
  obtain ⟨s, t, e⟩ := isNaN_elim h
  have e' : k.format.read y = .nan s t := e
  cases op <;> simp only [fa, Ieee.Format.add, Ieee.Format.sub, Ieee.Format.mul, Ieee.Format.div, e', Ieee.Datum.opposite]
  all_goals first | rfl | (cases k.format.read x <;> rfl)
theorem fa_canon (op : BinOp) (k : FloatKind) (x y : Nat) : fa op k (canon k x) (canon k y) = fa op k x y := by
  cases hx : (k.decode x).isNaN
  · rw [canon_of_num hx]
    cases hy : (k.decode y).isNaN
    · rw [canon_of_num hy]
    · rw [fa_nan_r op k x y hy, fa_nan_r op k x _ (by rw [nan_canon]; exact hy)]
  · rw [fa_nan_l op k x y hx, fa_nan_l op k _ _ (by rw [nan_canon]; exact hx)]
theorem order_nan_l {k : FloatKind} {x y : Nat} (h : (k.decode x).isNaN = true) : k.format.order x y = none := by
  obtain ⟨s, t, e⟩ := isNaN_elim h
  have e' : k.format.read x = .nan s t := e
  simp only [Ieee.Format.order, e']; cases k.format.read y <;> rfl
theorem order_nan_r {k : FloatKind} {x y : Nat} (h : (k.decode y).isNaN = true) : k.format.order x y = none := by
  obtain ⟨s, t, e⟩ := isNaN_elim h
  have e' : k.format.read y = .nan s t := e
  simp only [Ieee.Format.order, e']; cases k.format.read x <;> rfl
theorem order_canon (k : FloatKind) (x y : Nat) : k.format.order (canon k x) (canon k y) = k.format.order x y := by
  cases hx : (k.decode x).isNaN
  · rw [canon_of_num hx]
    cases hy : (k.decode y).isNaN
    · rw [canon_of_num hy]
    · rw [order_nan_r hy, order_nan_r (by rw [nan_canon]; exact hy)]
  · rw [order_nan_l hx, order_nan_l (by rw [nan_canon]; exact hx)]
theorem fc_canon (op : BinOp) (k : FloatKind) (x y : Nat) : fc op k (canon k x) (canon k y) = fc op k x y := by
  simp only [fc, order_canon]
theorem fa_lt {op : BinOp} {k : FloatKind} {x y r : Nat} (h : fa op k x y = some r) : r < 2 ^ k.format.width := by
  unfold fa at h
  split at h
  · exact k.format.add_lt h
  · exact k.format.sub_lt h
  · exact k.format.mul_lt h
  · exact k.format.div_lt h
  · cases h
theorem neg_mod (k : FloatKind) (b : Nat) : (k.decode (Op.negFloat k b)).isNaN = (k.decode b).isNaN := by
  rw [nan_iff, nan_iff]
  cases k
  · have : (b ^^^ 2 ^ 31) % 2 ^ 31 = b % 2 ^ 31 := by rw [Nat.xor_mod_two_pow]; simp
    simp only [Op.negFloat, FloatKind.format, Ieee.single]
    exact congrArg _ this
  · have : (b ^^^ 2 ^ 63) % 2 ^ 63 = b % 2 ^ 63 := by rw [Nat.xor_mod_two_pow]; simp
    simp only [Op.negFloat, FloatKind.format, Ieee.double]
    exact congrArg _ this
theorem fneg_canon (k : FloatKind) (b : Nat) : canon k (Op.negFloat k (canon k b)) = canon k (Op.negFloat k b) := by
  cases h : (k.decode b).isNaN
  · rw [canon_of_num h]
  · rw [canon_of_nan (b := Op.negFloat k (canon k b)) (by rw [neg_mod, nan_canon]; exact h), canon_of_nan (by rw [neg_mod]; exact h)]
theorem fneg_lt {k : FloatKind} {b : Nat} (h : b < 2 ^ k.format.width) : Op.negFloat k b < 2 ^ k.format.width := by
  unfold Op.negFloat
  refine Nat.xor_lt_two_pow h ?_
  cases k <;> decide
theorem fcv_canon (j k : FloatKind) (n : Nat) : canon k (fcv j k (canon j n)) = canon k (fcv j k n) := by
  cases h : (j.decode n).isNaN
  · rw [canon_of_num h]
  · unfold fcv
    by_cases e : j = k
    · subst e; simp [canon_canon]
    · simp only [e, if_false]
      obtain ⟨s, t, h1⟩ := isNaN_elim h
      obtain ⟨s', t', h2⟩ := isNaN_elim ((nan_canon j n).trans h)
      rw [h1, h2]

end Go.Desk
