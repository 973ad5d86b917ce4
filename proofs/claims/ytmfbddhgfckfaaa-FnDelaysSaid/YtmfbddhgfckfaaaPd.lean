/- Plain laws: what is exact among floats of 32 bits. -/
import Derived.Test.YtmfbddhgfckfaaaPc
namespace Go.Desk
open Go Go.IntWalk
set_option linter.all false
set_option linter.unusedVariables false
set_option linter.unusedSimpArgs false
set_option maxRecDepth 100000

theorem log2_shift {n : Nat} (hn : n ≠ 0) (k : Nat) : (n <<< k).log2 = n.log2 + k := by
  rw [Nat.shiftLeft_eq]
  have h1 : 2 ^ n.log2 ≤ n := Nat.log2_self_le hn
  have h2 : n < 2 ^ (n.log2 + 1) := Nat.lt_log2_self
  have hne : n * 2 ^ k ≠ 0 := Nat.mul_ne_zero hn (Nat.ne_of_gt (Nat.two_pow_pos k))
  have h3 : n.log2 + k ≤ (n * 2 ^ k).log2 := by
    rw [Nat.le_log2 hne, Nat.pow_add]
    exact Nat.mul_le_mul_right _ h1
  have h4 : (n * 2 ^ k).log2 < n.log2 + k + 1 := by
    rw [Nat.log2_lt hne, show n.log2 + k + 1 = (n.log2 + 1) + k by omega, Nat.pow_add]
    exact Nat.mul_lt_mul_of_pos_right h2 (Nat.two_pow_pos k)
  omega

theorem cut_shift (neg : Bool) {n : Nat} (hn : n ≠ 0) (drop k : Nat) : Ieee.Toward.even.cut neg (n <<< k) (drop + k) = Ieee.Toward.even.cut neg n drop := by
  unfold Ieee.Toward.cut
  have e1 : min (drop + k) ((n <<< k).log2 + 2) = min drop (n.log2 + 2) + k := by rw [log2_shift hn]; omega
  rw [e1]
  have hp : 0 < 2 ^ k := Nat.two_pow_pos k
  have e2 : 1 <<< (min drop (n.log2 + 2) + k) = (1 <<< min drop (n.log2 + 2)) * 2 ^ k := by simp only [Nat.shiftLeft_eq, Nat.one_mul, Nat.pow_add]
  have e3 : n <<< k = n * 2 ^ k := Nat.shiftLeft_eq _ _
  simp only [e2, e3]
  generalize 1 <<< min drop (n.log2 + 2) = g
  rw [Nat.mul_div_mul_right _ _ hp, Nat.mul_mod_mul_right]
  have a1 : (g * 2 ^ k < 2 * (n % g * 2 ^ k)) = (g < 2 * (n % g)) := by
    rw [← Nat.mul_assoc]
    exact propext (Nat.mul_lt_mul_right hp)
  have a2 : (g * 2 ^ k == 2 * (n % g * 2 ^ k)) = (g == 2 * (n % g)) := by
    rw [← Nat.mul_assoc, Bool.eq_iff_iff]
    simp only [beq_iff_eq]
    exact Nat.mul_left_inj (Nat.ne_of_gt hp)
  simp only [a1, a2]

theorem nearest_shift (f : Ieee.Format) (neg : Bool) (m k : Nat) (e : Int) : f.nearest neg (m <<< k) (e - k) = f.nearest neg m e := by
  unfold Ieee.Format.nearest
  by_cases h0 : m = 0
  · subst h0; simp
  · have h1 : m <<< k ≠ 0 := by
      rw [Nat.shiftLeft_eq]; exact Nat.mul_ne_zero h0 (Nat.ne_of_gt (Nat.two_pow_pos k))
    simp only [h0, h1, if_false]
    have hl : max (e - (k : Int) + ((m <<< k).log2 : Int) - (f.fractionBits : Int)) f.leastPlace = max (e + (m.log2 : Int) - (f.fractionBits : Int)) f.leastPlace := by
      rw [log2_shift h0]; congr 1; omega
    simp only [hl]
    generalize max (e + (m.log2 : Int) - (f.fractionBits : Int)) f.leastPlace = last
    have hk : Ieee.Toward.even.cut neg ((m <<< k) <<< (e - (k : Int) - last).toNat) (last - (e - (k : Int))).toNat = Ieee.Toward.even.cut neg (m <<< (e - last).toNat) (last - e).toNat := by
      by_cases hc : e ≤ last
      · have a1 : (e - (k : Int) - last).toNat = 0 := by omega
        have a2 : (last - (e - (k : Int))).toNat = (last - e).toNat + k := by omega
        have a3 : (e - last).toNat = 0 := by omega
        rw [a1, a2, a3]
        simp only [Nat.shiftLeft_zero]
        exact cut_shift neg h0 _ _
      · obtain ⟨t, ht⟩ : ∃ t : Nat, (e - last).toNat = t := ⟨_, rfl⟩
        have a3 : (last - e).toNat = 0 := by omega
        rw [ht, a3, cut0]
        by_cases hk : k ≤ t
        · have a1 : (e - (k : Int) - last).toNat = t - k := by omega
          have a2 : (last - (e - (k : Int))).toNat = 0 := by omega
          rw [a1, a2, cut0, ← Nat.shiftLeft_add]
          congr 1; omega
        · have a1 : (e - (k : Int) - last).toNat = 0 := by omega
          have a2 : (last - (e - (k : Int))).toNat = 0 + (k - t) := by omega
          have a4 : (m <<< k) <<< 0 = (m <<< t) <<< (k - t) := by
            rw [Nat.shiftLeft_zero, ← Nat.shiftLeft_add]; congr 1; omega
          have h2 : m <<< t ≠ 0 := by
            rw [Nat.shiftLeft_eq]; exact Nat.mul_ne_zero h0 (Nat.ne_of_gt (Nat.two_pow_pos t))
          rw [a1, a2, a4, cut_shift neg h2, cut0]
    rw [hk]

theorem s_consts : Ieee.single.signWeight = 2147483648 ∧ Ieee.single.infRung = 2139095040 ∧ Ieee.single.binade = 8388608 ∧ Ieee.single.leastPlace = -149 ∧ Ieee.single.fractionBits = 23 := by decide

theorem near32 (neg : Bool) (m : Nat) (e : Int) (hm : m < 16777216) (h1 : -149 ≤ e) (h2 : e ≤ 104) (hn : e = -149 ∨ 8388608 ≤ m) : Ieee.single.nearest neg m e = Ieee.single.word neg ((e + 149).toNat * 8388608 + m) := by
  obtain ⟨c1, c2, c3, c4, c5⟩ := s_consts
  unfold Ieee.Format.nearest
  by_cases h0 : m = 0
  · subst h0
    have : e = -149 := by rcases hn with h | h <;> omega
    subst this
    simp
  · simp only [h0, if_false, c2, c3, c4, c5]
    have hl : m.log2 < 24 := (Nat.log2_lt h0).2 (by omega)
    have hlast : max (e + (m.log2 : Int) - ((23 : Nat) : Int)) (-149 : Int) = e := by
      rcases hn with h | h
      · subst h; omega
      · have : 23 ≤ m.log2 := (Nat.le_log2 h0).2 (by omega)
        omega
    rw [hlast]
    have e0 : (e - e).toNat = 0 := by omega
    rw [e0, cut0, Nat.shiftLeft_zero]
    have e1 : (e - (-149)).toNat = (e + 149).toNat := by omega
    rw [e1]
    congr 1
    refine Nat.min_eq_left ?_
    have : (e + 149).toNat ≤ 253 := by omega
    omega

theorem word_parts {n : Nat} (h : n < 4294967296) : Ieee.single.word (n / 2147483648 % 2 == 1) (n % 2147483648) = n := by
  obtain ⟨c1, _⟩ := s_consts
  unfold Ieee.Format.word
  rw [c1]
  by_cases hs : n / 2147483648 % 2 = 1
  · simp [hs]; omega
  · simp [hs]; omega

/-- a number is written as it was read -/
theorem write_read {n : Nat} (h : n < 4294967296) (hn : isN .f32 n = false) : Ieee.single.write (Ieee.single.read n) = n := by
  obtain ⟨c1, c2, c3, c4, c5⟩ := s_consts
  have hw := word_parts h
  have hn' : (Ieee.single.read n).isNaN = false := hn
  simp only [Ieee.Format.read, c1, c2, c3, c4] at hn' ⊢
  by_cases h1 : n % 2147483648 < 8388608
  · simp only [h1, if_true]
    show Ieee.single.nearest _ _ _ = n
    rw [near32 _ _ _ (by omega) (by omega) (by omega) (.inl rfl)]
    simpa using hw
  · simp only [h1, if_false] at hn' ⊢
    by_cases h2 : n % 2147483648 < 2139095040
    · simp only [h2, if_true]
      show Ieee.single.nearest _ _ _ = n
      rw [near32 _ _ _ (by omega) (by omega) (by omega) (.inr (by omega))]
      have : (-149 + ((n % 2147483648 / 8388608 - 1 : Nat) : Int) + 149).toNat * 8388608 + (8388608 + n % 2147483648 % 8388608) = n % 2147483648 := by omega
      rw [this]; exact hw
    · simp only [h2, if_false] at hn' ⊢
      by_cases h3 : n % 2147483648 = 2139095040
      · simp only [h3, if_true]
        show Ieee.single.word _ Ieee.single.infRung = n
        rw [c2, ← h3]; exact hw
      · simp only [h3, if_false] at hn'
        cases hn'

theorem read_inj_zero {n : Nat} (h : n < 4294967296) {s : Bool} {e : Int} (hr : Ieee.single.read n = .number s 0 e) : n = 0 ∨ n = 2147483648 := by
  have hn : isN .f32 n = false := by show (Ieee.single.read n).isNaN = false; rw [hr]; rfl
  have := write_read h hn
  rw [hr] at this
  have e : Ieee.single.write (.number s 0 e) = Ieee.single.word s 0 := by
    show Ieee.single.nearest s 0 e = _
    unfold Ieee.Format.nearest
    simp
  rw [e] at this
  cases s
  · left; rw [← this]; rfl
  · right; rw [← this]; decide

theorem fop_of {op : BinOp} {x y r : Nat} (h : fa op .f32 x y = some r) (hr : isN .f32 r = false) : std.fop op .f32 x y = r := by
  show ((fa op .f32 x y).map (canon .f32)).getD (nanOf .f32) = r
  rw [h]
  exact canon_of_num hr
theorem fop_lt (op : BinOp) (x y : Nat) : std.fop op .f32 x y < 4294967296 := by
  show ((fa op .f32 x y).map (canon .f32)).getD (nanOf .f32) < 4294967296
  cases h : fa op .f32 x y with
  | none => decide
  | some r => exact canon_lt (k := .f32) (fa_lt h)
theorem fop_nan {op : BinOp} {x y : Nat} (h : isN .f32 x = true ∨ isN .f32 y = true) : std.fop op .f32 x y = nanOf .f32 := by
  show ((fa op .f32 x y).map (canon .f32)).getD (nanOf .f32) = nanOf .f32
  rcases h with h | h
  · rw [fa_nan_l op .f32 x y h]; rfl
  · rw [fa_nan_r op .f32 x y h]; rfl

/-- 1 times a number is this number -/
theorem one_mul {y : Nat} (h : y < 4294967296) (hn : isN .f32 y = false) : std.fop .mul .f32 1065353216 y = y := by
  refine fop_of ?_ hn
  show (((Ieee.single.read 1065353216).product (Ieee.single.read y)).map Ieee.single.write) = some y
  have e1 : Ieee.single.read 1065353216 = .number false 8388608 (-23) := by decide
  rw [e1]
  have hw := write_read h hn
  rcases hr : Ieee.single.read y with ⟨t, n, j⟩ | ⟨t⟩ | ⟨t, q⟩
  · rw [hr] at hw
    simp only [Ieee.Datum.product, Option.map_some]
    congr 1
    rw [← hw]
    show Ieee.single.nearest (false ^^ t) (8388608 * n) (-23 + j) = Ieee.single.nearest t n j
    have e2 : 8388608 * n = n <<< 23 := by rw [Nat.shiftLeft_eq]; omega
    rw [e2, show (-23 + j : Int) = j - ((23 : Nat) : Int) by omega, nearest_shift]
    simp
  · rw [hr] at hw
    simp only [Ieee.Datum.product]
    simp only [show ¬ (8388608 = 0) by decide, if_false, Option.map_some]
    congr 1
    rw [← hw]
    simp
  · have : (Ieee.single.read y).isNaN = false := hn
    rw [hr] at this; cases this

theorem signed_facts (t : Bool) {n sh : Nat} (h : n <<< sh ≠ 0) : Ieee.signed t n sh ≠ 0 ∧ decide (Ieee.signed t n sh < 0) = t ∧ (Ieee.signed t n sh).natAbs = n <<< sh := by
  unfold Ieee.signed
  generalize n <<< sh = w at h ⊢
  cases t
  · refine ⟨?_, ?_, ?_⟩
    · show (w : Int) ≠ 0; omega
    · show decide ((w : Int) < 0) = false; simp only [decide_eq_false_iff_not]; omega
    · show (w : Int).natAbs = w; omega
  · refine ⟨?_, ?_, ?_⟩
    · show -(w : Int) ≠ 0; omega
    · show decide (-(w : Int) < 0) = true; simp only [decide_eq_true_eq]; omega
    · show (-(w : Int)).natAbs = w; omega
/-- a zero and a number make this number, or a zero -/
theorem zero_add {z y : Nat} (hz : z = 0 ∨ z = 2147483648) (h : y < 4294967296) (hn : isN .f32 y = false) :
    std.fop .add .f32 z y = y ∨ ((y = 0 ∨ y = 2147483648) ∧ (std.fop .add .f32 z y = 0 ∨ std.fop .add .f32 z y = 2147483648)) := by
  obtain ⟨zs, e1⟩ : ∃ zs, Ieee.single.read z = .number zs 0 (-149) := by
    rcases hz with rfl | rfl
    · exact ⟨false, by decide⟩
    · exact ⟨true, by decide⟩
  have hw := write_read h hn
  have r32 := read32 y
  rcases hr : Ieee.single.read y with ⟨t, n, j⟩ | ⟨t⟩ | ⟨t, q⟩
  · by_cases h0 : n = 0
    · subst h0
      have hy := read_inj_zero h hr
      right
      refine ⟨hy, ?_⟩
      rcases hz with rfl | rfl <;> rcases hy with rfl | rfl <;> decide
    · left
      refine fop_of ?_ hn
      show (((Ieee.single.read z).sum (Ieee.single.read y)).map Ieee.single.write) = some y
      rw [e1, hr]
      have hj : -149 ≤ j := by
        rw [hr] at r32
        rcases r32 with ⟨_, _, g⟩ | ⟨_, g⟩ | ⟨s, m, e, g, _, g1, _⟩
        · cases g
        · cases g
        · cases g; exact g1
      have hmin : min (-149 : Int) j = -149 := by omega
      obtain ⟨sh, hsh⟩ : ∃ sh : Nat, j = -149 + sh := ⟨(j + 149).toNat, by omega⟩
      have a1 : (j - (-149)).toNat = sh := by omega
      have a2 : Ieee.signed zs 0 (-149 - (-149 : Int)).toNat = 0 := by cases zs <;> rfl
      have hm : n <<< sh ≠ 0 := by rw [Nat.shiftLeft_eq]; exact Nat.mul_ne_zero h0 (Nat.ne_of_gt (Nat.two_pow_pos sh))
      simp only [Ieee.Datum.sum, hmin, a1, a2, Int.zero_add, Option.map_some]
      congr 1
      rw [← hw, hr]
      obtain ⟨a3, a4, a5⟩ := signed_facts t hm
      simp only [a3, if_false, a4, a5]
      show Ieee.single.nearest t (n <<< sh) (-149) = Ieee.single.nearest t n j
      rw [show (-149 : Int) = j - (sh : Int) by omega, nearest_shift]
  · left
    refine fop_of ?_ hn
    show (((Ieee.single.read z).sum (Ieee.single.read y)).map Ieee.single.write) = some y
    rw [e1, hr]
    rw [hr] at hw
    simp only [Ieee.Datum.sum, Option.map_some, hw]
  · have : (Ieee.single.read y).isNaN = false := hn
    rw [hr] at this; cases this

/-- finite: what is taken from itself is zero -/
theorem finite_num {x : Nat} (h : std.fcmp .eql .f32 (std.fop .sub .f32 x x) 0 = true) : ∃ s m e, Ieee.single.read x = .number s m e := by
  have h1 := (fcmp_num h (.inr (.inl rfl))).1
  rcases hr : Ieee.single.read x with ⟨t, n, j⟩ | ⟨t⟩ | ⟨t, q⟩
  · exact ⟨t, n, j, rfl⟩
  · exfalso
    have : fa .sub .f32 x x = none := by
      show (((Ieee.single.read x).sum (Ieee.single.read x).opposite).map Ieee.single.write) = none
      rw [hr]
      cases t <;> rfl
    have e : std.fop .sub .f32 x x = nanOf .f32 := by
      show ((fa .sub .f32 x x).map (canon .f32)).getD (nanOf .f32) = nanOf .f32
      rw [this]; rfl
    rw [e] at h1
    exact absurd h1 (by decide)
  · exfalso
    have hx : isN .f32 x = true := by show (Ieee.single.read x).isNaN = true; rw [hr]; rfl
    rw [fop_nan (.inl hx)] at h1
    exact absurd h1 (by decide)

/-- 0 times a finite number is a zero -/
theorem zero_mul {x : Nat} (h : ∃ s m e, Ieee.single.read x = .number s m e) : std.fop .mul .f32 0 x = 0 ∨ std.fop .mul .f32 0 x = 2147483648 := by
  obtain ⟨s, m, e, hr⟩ := h
  have e1 : Ieee.single.read 0 = .number false 0 (-149) := by decide
  have : fa .mul .f32 0 x = some (Ieee.single.word s 0) := by
    show (((Ieee.single.read 0).product (Ieee.single.read x)).map Ieee.single.write) = _
    rw [e1, hr]
    simp only [Ieee.Datum.product, Option.map_some, Nat.zero_mul]
    congr 1
    show Ieee.single.nearest (false ^^ s) 0 _ = _
    unfold Ieee.Format.nearest
    simp
  cases s
  · left; exact fop_of this (by decide)
  · right; exact fop_of this (by decide)

theorem eql_refl {x : Nat} (h : isN .f32 x = false) : std.fcmp .eql .f32 x x = true := by
  have h' : (Ieee.single.read x).isNaN = false := h
  show ((Ieee.single.read x).order (Ieee.single.read x) == some .eq) = true
  rcases hr : Ieee.single.read x with ⟨t, n, j⟩ | ⟨t⟩ | ⟨t, q⟩
  · simp [Ieee.Datum.order]
  · cases t <;> rfl
  · rw [hr] at h'; cases h'
theorem neq_nan {x : Nat} (h : isN .f32 x = true) : std.fcmp .neq .f32 x x = true := by
  show fc .neq .f32 x x = true
  unfold fc
  rw [order_nan_l h]; rfl
theorem neq_num {x : Nat} (h : isN .f32 x = false) : std.fcmp .neq .f32 x x = false := by
  have := eql_refl h
  show (FloatKind.f32.format.order x x != some .eq) = false
  have h2 : (FloatKind.f32.format.order x x == some .eq) = true := this
  simp only [beq_iff_eq] at h2
  rw [h2]; rfl

end Go.Desk
