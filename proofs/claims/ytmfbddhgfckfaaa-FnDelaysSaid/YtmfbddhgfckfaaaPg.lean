/- Plain laws: the program flushes as the reference does. -/
import Derived.Test.YtmfbddhgfckfaaaPe
namespace Go.Desk
open Go Go.IntWalk
set_option linter.all false
set_option maxRecDepth 100000

theorem fa_add_comm (k : FloatKind) (x y : Nat) : fa .add k x y = fa .add k y x := by
  have : ∀ a b : Ieee.Datum, a.sum b = b.sum a := by
    intro a b
    rcases a with ⟨s, m, i⟩ | ⟨s⟩ | ⟨s, m⟩ <;> rcases b with ⟨t, n, j⟩ | ⟨t⟩ | ⟨t, n⟩ <;> simp only [Ieee.Datum.sum]
    · rw [Int.add_comm, Bool.and_comm]
      have : min i j = min j i := by omega
      rw [this]
    · by_cases h : s = t
      · subst h; rfl
      · have h2 : ¬ t = s := fun e => h e.symm
        simp only [h, h2, if_false]
  show ((k.format.read x).sum (k.format.read y)).map k.format.write = ((k.format.read y).sum (k.format.read x)).map k.format.write
  rw [this]
theorem add_comm32 (x y : Nat) : std.fop .add .f32 x y = std.fop .add .f32 y x := by
  show ((fa .add .f32 x y).map (canon .f32)).getD (nanOf .f32) = ((fa .add .f32 y x).map (canon .f32)).getD (nanOf .f32)
  rw [fa_add_comm]

/- reading -/
theorem read_lo {x : Nat} (h : x % 2147483648 < 8388608) : Ieee.single.read x = .number (x / 2147483648 % 2 == 1) (x % 2147483648) (-149) := by
  obtain ⟨c1, c2, c3, c4, c5⟩ := s_consts
  simp only [Ieee.Format.read, c1, c2, c3, c4, h, if_true]
theorem read_mid {x : Nat} (h : ¬ x % 2147483648 < 8388608) (h2 : x % 2147483648 < 2139095040) :
    Ieee.single.read x = .number (x / 2147483648 % 2 == 1) (8388608 + x % 2147483648 % 8388608) (-149 + ((x % 2147483648 / 8388608 - 1 : Nat) : Int)) := by
  obtain ⟨c1, c2, c3, c4, c5⟩ := s_consts
  simp only [Ieee.Format.read, c1, c2, c3, c4, h, h2, if_true, if_false]
theorem read_inf {x : Nat} (h : x % 2147483648 = 2139095040) : Ieee.single.read x = .infinity (x / 2147483648 % 2 == 1) := by
  obtain ⟨c1, c2, c3, c4, c5⟩ := s_consts
  have h1 : ¬ (2139095040 < 8388608) := by decide
  have h2 : ¬ (2139095040 < 2139095040) := by decide
  simp only [Ieee.Format.read, c1, c2, c3, c4, h, h1, h2, if_true, if_false]

theorem cmpN (a b : Int) : compare a b = if a < b then .lt else if a = b then .eq else .gt := rfl
theorem cmp_lt {a b : Int} (h : a < b) : compare a b = .lt := by rw [cmpN, if_pos h]
theorem cmp_eq {a b : Int} (h : a = b) : compare a b = .eq := by rw [cmpN, if_neg (by omega), if_pos h]
theorem cmp_gt {a b : Int} (h : b < a) : compare a b = .gt := by rw [cmpN, if_neg (by omega), if_neg (by omega)]
theorem chain (v : Int) : (cond (some (compare v 0) != some .eq) (cond (some (compare v 8388608) == some .lt) (some (some (compare v (-8388608)) == some .gt)) (some false)) (some false) : Option Bool) =
    some (decide (v ≠ 0 ∧ v < 8388608 ∧ -8388608 < v)) := by
  by_cases h0 : v = 0
  · rw [cmp_eq h0]; simp [h0]
  · have n0 : (some (compare v 0) != some Ordering.eq) = true := by
      rcases Int.lt_or_gt_of_ne h0 with h | h
      · rw [cmp_lt h]; rfl
      · rw [cmp_gt h]; rfl
    rw [n0]
    simp only [cond_true]
    by_cases h1 : v < 8388608
    · rw [cmp_lt h1]
      by_cases h2 : -8388608 < v
      · rw [cmp_gt h2]; simp [h0, h1, h2]
      · have : (some (compare v (-8388608)) == some Ordering.gt) = false := by
          by_cases h3 : v = -8388608
          · rw [cmp_eq h3]; rfl
          · rw [cmp_lt (by omega)]; rfl
        rw [this]; simp [h2]
    · have : (some (compare v 8388608) == some Ordering.lt) = false := by
        by_cases h3 : v = 8388608
        · rw [cmp_eq h3]; rfl
        · rw [cmp_gt (by omega)]; rfl
      rw [this]; simp [h1]

theorem sub_cases {x : Nat} (hn : isN .f32 x = false) : F_impl_IsSubnormal std x = some (decide (x % 2147483648 ≠ 0 ∧ x % 2147483648 < 8388608)) := by
  have r0 : Ieee.single.read 0 = .number false 0 (-149) := by decide
  have r1 : Ieee.single.read 8388608 = .number false 8388608 (-149) := by decide
  have r2 : Ieee.single.read 2155872256 = .number true 8388608 (-149) := by decide
  have f1 : std.fcmp .neq .f32 x 0 = ((Ieee.single.read x).order (Ieee.single.read 0) != some .eq) := rfl
  have f2 : std.fcmp .lss .f32 x 8388608 = ((Ieee.single.read x).order (Ieee.single.read 8388608) == some .lt) := rfl
  have f3 : std.fcmp .gtr .f32 x 2155872256 = ((Ieee.single.read x).order (Ieee.single.read 2155872256) == some .gt) := rfl
  unfold F_impl_IsSubnormal
  rw [f1, f2, f3, r0, r1, r2]
  have num : ∀ (s : Bool) (m e : Nat), Ieee.single.read x = .number s m (-149 + (e : Int)) →
      (cond ((Ieee.single.read x).order (.number false 0 (-149)) != some .eq) (cond ((Ieee.single.read x).order (.number false 8388608 (-149)) == some .lt) (some ((Ieee.single.read x).order (.number true 8388608 (-149)) == some .gt)) (some false)) (some false) : Option Bool) =
        some (decide (Ieee.signed s m e ≠ 0 ∧ Ieee.signed s m e < 8388608 ∧ -8388608 < Ieee.signed s m e)) := by
    intro s m e hr
    rw [hr, ← chain]
    have hmin : min (-149 + (e : Int)) (-149) = -149 := by omega
    have h0 : (-149 + (e : Int) - (-149)).toNat = e := by omega
    have h1 : ((-149 : Int) - (-149)).toNat = 0 := by omega
    have s1 : Ieee.signed false 0 0 = 0 := by decide
    have s2 : Ieee.signed false 8388608 0 = 8388608 := by decide
    have s3 : Ieee.signed true 8388608 0 = -8388608 := by decide
    simp only [Ieee.Datum.order, hmin, h0, h1, s1, s2, s3]
  by_cases h1 : x % 2147483648 < 8388608
  · have := num (x / 2147483648 % 2 == 1) (x % 2147483648) 0 (by rw [read_lo h1]; rfl)
    rw [this]
    generalize x % 2147483648 = m at h1
    congr 1
    rw [Bool.eq_iff_iff]
    simp only [decide_eq_true_eq]
    cases (x / 2147483648 % 2 == 1)
    · have : Ieee.signed false m 0 = (m : Int) := by unfold Ieee.signed; simp
      rw [this]; omega
    · have : Ieee.signed true m 0 = -(m : Int) := by unfold Ieee.signed; simp
      rw [this]; omega
  · have hd : decide (x % 2147483648 ≠ 0 ∧ x % 2147483648 < 8388608) = false := by simp [h1]
    rw [hd]
    by_cases h2 : x % 2147483648 < 2139095040
    · have := num (x / 2147483648 % 2 == 1) (8388608 + x % 2147483648 % 8388608) (x % 2147483648 / 8388608 - 1) (read_mid h1 h2)
      rw [this]
      have hbig : 8388608 ≤ (8388608 + x % 2147483648 % 8388608) <<< (x % 2147483648 / 8388608 - 1) := by
        rw [Nat.shiftLeft_eq]
        exact Nat.le_trans (Nat.le_add_right _ _) (Nat.le_mul_of_pos_right _ (Nat.two_pow_pos _))
      congr 1
      simp only [decide_eq_false_iff_not]
      generalize (8388608 + x % 2147483648 % 8388608) = m at hbig
      generalize (x % 2147483648 / 8388608 - 1) = e at hbig
      unfold Ieee.signed
      generalize m <<< e = w at hbig
      cases (x / 2147483648 % 2 == 1)
      · rintro ⟨_, g, _⟩
        have g : (w : Int) < 8388608 := g
        omega
      · rintro ⟨_, _, g⟩
        have g : -8388608 < -(w : Int) := g
        omega
    · have h3 : x % 2147483648 = 2139095040 := by
        have : (Ieee.single.read x).isNaN = false := hn
        obtain ⟨c1, c2, c3, c4, c5⟩ := s_consts
        simp only [Ieee.Format.read, c1, c2, c3, c4, h1, h2, if_false] at this
        by_cases h4 : x % 2147483648 = 2139095040
        · exact h4
        · simp only [h4, if_false] at this; cases this
      rw [read_inf h3]
      cases (x / 2147483648 % 2 == 1) <;> decide

/-- a subnormal number or a zero, as a number of 64 bits, has its sign -/
theorem conv_sign {x : Nat} (h : x < 4294967296) (h1 : x % 2147483648 < 8388608) : ∃ r, r < Ieee.double.infRung ∧ std.fconv .f32 .f64 x = Ieee.double.word (x / 2147483648 % 2 == 1) r := by
  obtain ⟨r, hr, hw⟩ := nearest64 (x / 2147483648 % 2 == 1) (x % 2147483648) (-149) (by omega) (by omega) (by omega)
  refine ⟨r, hr, ?_⟩
  have hn : (Ieee.double.read (Ieee.double.word (x / 2147483648 % 2 == 1) r)).isNaN = false := (read_word hr).2
  show canon .f64 (fcv .f32 .f64 x) = _
  unfold fcv
  simp only [reduceCtorEq, if_false]
  have hd : FloatKind.f32.decode x = Ieee.single.read x := rfl
  rw [hd, read_lo h1]
  show canon .f64 (Ieee.double.nearest _ _ _) = _
  rw [hw]
  exact canon_of_num hn

theorem sign_or (s : Bool) {r : Nat} (hr : r < 9223372036854775808) : std.bits .or .u64 (std.bits .andNot .u64 0 9223372036854775808) (std.bits .and .u64 ((if s then 9223372036854775808 + r else r : Nat) : Int) 9223372036854775808) =
    if s then 9223372036854775808 else 0 := by
  have h0 : std.bits .andNot .u64 0 9223372036854775808 = 0 := by decide
  rw [h0]
  have h1 : ∀ v : Nat, v < 18446744073709551616 → std.bits .and .u64 (v : Int) 9223372036854775808 = IntKind.u64.wrap ((v &&& 2 ^ 63 : Nat) : Int) := by
    intro v hv
    show IntKind.u64.wrap ((BitVec.ofInt 64 (v : Int) &&& BitVec.ofInt 64 9223372036854775808).toNat : Int) = _
    rw [BitVec.toNat_and]
    have e : (BitVec.ofInt 64 9223372036854775808).toNat = 2 ^ 63 := by decide
    have e2 : (BitVec.ofInt 64 (v : Int)).toNat = v := by
      rw [BitVec.toNat_ofInt]; simp; omega
    rw [e, e2]
  have h2 : ∀ v : Nat, v &&& 2 ^ 63 = if v.testBit 63 then 2 ^ 63 else 0 := by
    intro v
    refine Nat.eq_of_testBit_eq fun j => ?_
    rw [Nat.testBit_and, Nat.testBit_two_pow]
    cases hb : v.testBit 63
    · by_cases hj : 63 = j
      · subst hj; simp [hb]
      · simp [hj]
    · by_cases hj : 63 = j
      · subst hj; simp only [hb, Bool.true_and]; decide
      · have : (2 ^ 63).testBit j = false := by rw [Nat.testBit_two_pow]; simp [hj]
        simp only [if_true]
        rw [this]; simp [hj]
  cases s
  · simp only [if_false, Bool.false_eq_true]
    rw [h1 r (by omega), h2]
    have : r.testBit 63 = false := Nat.testBit_lt_two_pow (by omega)
    rw [this]; decide
  · simp only [if_true]
    rw [h1 _ (by omega), h2]
    have : (9223372036854775808 + r).testBit 63 = true := by
      rw [show (9223372036854775808 : Nat) = 2 ^ 63 from rfl, Nat.testBit_two_pow_add_eq, Nat.testBit_lt_two_pow (by omega)]; rfl
    rw [this]; decide

noncomputable def flushV (x : Nat) : Nat := if isN .f32 x = false ∧ x % 2147483648 < 8388608 then (if (x / 2147483648 % 2 == 1) = true then 2147483648 else 0) else x
theorem flush_eq (x : Nat) (h : x < 4294967296) : F_impl_FlushNumber std x = some (flushV x) := by
  unfold F_impl_FlushNumber
  cases hn : isN .f32 x with
  | true =>
    obtain ⟨b, e1, e2⟩ := sub_some x
    have hb : b = false := by
      cases b with
      | false => rfl
      | true => have := e2 rfl; rw [hn] at this; cases this
    rw [e1, hb]
    unfold flushV
    simp [hn]
  | false =>
    rw [sub_cases hn]
    simp only [Option.bind_some]
    by_cases h0 : x % 2147483648 ≠ 0 ∧ x % 2147483648 < 8388608
    · simp only [h0, ne_eq, not_false_eq_true, and_self, decide_true, Bool.not_true, cond_false]
      rw [gdt (pConv64 x)]
      obtain ⟨r, hr, hw⟩ := conv_sign h h0.2
      have hr2 : r < 9223372036854775808 := Nat.lt_trans hr (by decide)
      have hc : isN .f64 (std.fconv .f32 .f64 x) = false := conv64_num hn
      have hword : Ieee.double.word (x / 2147483648 % 2 == 1) r = (if (x / 2147483648 % 2 == 1) = true then 9223372036854775808 + r else r : Nat) := by
        have : Ieee.double.signWeight = 9223372036854775808 := by decide
        unfold Ieee.Format.word; rw [this]
      unfold F_math_Copysign F_math_Float64bits F_math_Float64frombits
      rw [gdt (by decide), gdt hc]
      simp only [Option.bind_some]
      rw [hw, hword, show ((0 : Nat) : Int) = 0 from rfl, sign_or _ hr2]
      unfold flushV
      simp only [hn, h0.2, and_self, if_true]
      cases (x / 2147483648 % 2 == 1)
      · simp only [Bool.false_eq_true, if_false]
        rw [gdt (by decide)]
        simp only [Option.bind_some]
        rw [show canon .f64 (Int.toNat 0) = 0 by decide, gdt (.inr (show (FloatKind.f32.decode (FloatKind.f32.encode (.number false 0 (-1074)))).isInfinity = false by decide))]
        decide
      · simp only [if_true]
        rw [gdt (by decide)]
        simp only [Option.bind_some]
        rw [show canon .f64 (Int.toNat 9223372036854775808) = 9223372036854775808 by decide, gdt (.inr (show (FloatKind.f32.decode (FloatKind.f32.encode (.number true 0 (-1074)))).isInfinity = false by decide))]
        decide
    · have hd : decide (x % 2147483648 ≠ 0 ∧ x % 2147483648 < 8388608) = false := by simpa using h0
      rw [hd]
      simp only [Bool.not_false, cond_true]
      unfold flushV
      congr 1
      by_cases h1 : x % 2147483648 < 8388608
      · have : x % 2147483648 = 0 := by omega
        simp only [hn, h1, and_self, if_true]
        by_cases hs : x / 2147483648 % 2 = 1
        · simp [hs]; omega
        · simp [hs]; omega
      · simp [h1]

theorem and_exp (v : Nat) (h : v < 4294967296) : std.ieq (std.bits .and .i64 (v : Int) 2139095040) 0 = decide (v % 2147483648 < 8388608) := by
  have e : std.bits .and .i64 (v : Int) 2139095040 = IntKind.i64.wrap ((v &&& 2139095040 : Nat) : Int) := by
    show IntKind.i64.wrap ((BitVec.ofInt 64 (v : Int) &&& BitVec.ofInt 64 2139095040).toNat : Int) = _
    rw [BitVec.toNat_and]
    have e : (BitVec.ofInt 64 2139095040).toNat = 2139095040 := by decide
    have e2 : (BitVec.ofInt 64 (v : Int)).toNat = v := by
      rw [BitVec.toNat_ofInt]; simp; omega
    rw [e, e2]
  have hle : v &&& 2139095040 ≤ 2139095040 := Nat.and_le_right
  rw [e, i64_in _ (by omega)]
  have key : v &&& 2139095040 = (v / 8388608 % 256) * 8388608 := by
    have m : (2139095040 : Nat) = (2 ^ 8 - 1) <<< 23 := by decide
    refine Nat.eq_of_testBit_eq fun j => ?_
    rw [Nat.testBit_and, m, Nat.testBit_shiftLeft, show (v / 8388608 % 256) * 8388608 = (v / 2 ^ 23 % 2 ^ 8) <<< 23 by rw [Nat.shiftLeft_eq], Nat.testBit_shiftLeft, Nat.testBit_two_pow_sub_one, Nat.testBit_mod_two_pow, Nat.testBit_div_two_pow]
    by_cases hj : 23 ≤ j
    · simp only [hj, decide_true, Bool.true_and]
      rw [show j - 23 + 23 = j by omega]
      cases v.testBit j <;> simp
    · simp [hj]
  rw [key, Bool.eq_iff_iff]
  simp only [sio, beq_iff_eq, decide_eq_true_eq]
  omega

theorem and_sign (v : Nat) (h : v < 4294967296) : std.bits .and .i64 (v : Int) 2147483648 = (if (v / 2147483648 % 2 == 1) = true then 2147483648 else 0 : Int) := by
  have e : std.bits .and .i64 (v : Int) 2147483648 = IntKind.i64.wrap ((v &&& 2 ^ 31 : Nat) : Int) := by
    show IntKind.i64.wrap ((BitVec.ofInt 64 (v : Int) &&& BitVec.ofInt 64 2147483648).toNat : Int) = _
    rw [BitVec.toNat_and]
    have e : (BitVec.ofInt 64 2147483648).toNat = 2 ^ 31 := by decide
    have e2 : (BitVec.ofInt 64 (v : Int)).toNat = v := by
      rw [BitVec.toNat_ofInt]; simp; omega
    rw [e, e2]
  have key : v &&& 2 ^ 31 = (v / 2147483648 % 2) * 2147483648 := by
    refine Nat.eq_of_testBit_eq fun j => ?_
    rw [Nat.testBit_and, show (v / 2147483648 % 2) * 2147483648 = (v / 2 ^ 31 % 2 ^ 1) <<< 31 by rw [Nat.shiftLeft_eq], Nat.testBit_shiftLeft, Nat.testBit_mod_two_pow, Nat.testBit_div_two_pow, Nat.testBit_two_pow]
    by_cases hj : 31 = j
    · subst hj; simp
    · by_cases hj2 : 31 ≤ j
      · have : ¬ (j - 31 < 1) := by omega
        simp [hj, this]
      · simp [hj, hj2]
  rw [e, key]
  have : v / 2147483648 % 2 = 0 ∨ v / 2147483648 % 2 = 1 := by omega
  rcases this with g | g <;> rw [g] <;> decide

theorem specBits_eq (x : Nat) : F_spec_l01Bits std x = some (if isN .f32 x = true then 2143289344 else std.wrap .i64 (x : Int)) := by
  unfold F_spec_l01Bits
  cases hn : isN .f32 x with
  | true => rw [neq_nan hn]; rfl
  | false =>
    rw [neq_num hn]
    unfold F_math_Float32bits
    simp only [cond_false]
    rw [gdt hn]
    simp
theorem specFlush_eq (x : Nat) (h : x < 4294967296) : F_spec_l01Flush std x = some (flushV x) := by
  unfold F_spec_l01Flush
  rw [specBits_eq]
  simp only [Option.bind_some]
  cases hn : isN .f32 x with
  | true =>
    simp only [if_true]
    have : std.ieq (std.bits .and .i64 2143289344 2139095040) 0 = false := by decide
    rw [this]
    unfold flushV
    simp [hn]
  | false =>
    simp only [Bool.false_eq_true, if_false]
    have hw : std.wrap .i64 (x : Int) = (x : Int) := i64_in _ (by omega)
    rw [hw, and_exp x h, and_sign x h]
    unfold flushV F_spec_l01From F_math_Float32frombits
    simp only [hn, true_and]
    by_cases h1 : x % 2147483648 < 8388608
    · simp only [h1, decide_true, cond_true, if_true]
      cases (x / 2147483648 % 2 == 1)
      · simp only [Bool.false_eq_true, if_false]
        rw [gdt (by decide)]; decide
      · simp only [if_true]
        rw [gdt (by decide)]; decide
    · simp only [h1, decide_false, cond_false, if_false]
theorem fluN_flush (x : Nat) (h : x < 4294967296) : fluN x true = flushV x := by
  unfold fluN F_impl_flushed
  simp only [cond_true]
  rw [flush_eq x h]; rfl
theorem fluN_not (x : Nat) : fluN x false = x := by
  unfold fluN F_impl_flushed
  rfl

end Go.Desk
