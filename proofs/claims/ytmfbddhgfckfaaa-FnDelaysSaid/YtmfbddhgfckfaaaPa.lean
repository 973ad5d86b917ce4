/- Plain laws: floats between the kinds, draws. -/
import Derived.Test.YtmfbddhgfckfaaaGf
namespace Go.Desk
open Go
set_option linter.all false
set_option linter.unusedVariables false
set_option linter.unusedSimpArgs false

theorem sio : (∀ a b, std.iadd a b = a + b) ∧ (∀ a b, std.isub a b = a - b) ∧ (∀ a b, std.imul a b = a * b) ∧ (∀ a b, std.idiv a b = a.tdiv b) ∧ (∀ a b, std.irem a b = a.tmod b) ∧ (∀ a, std.ineg a = -a) ∧
    (∀ k n, std.wrap k n = k.wrap n) ∧ (∀ a b, std.ilt a b = decide (a < b)) ∧ (∀ a b, std.ile a b = decide (a ≤ b)) ∧ (∀ a b : Int, std.ieq a b = (a == b)) ∧ (∀ n, std.toN n = n.toNat) ∧ (∀ n : Nat, std.ofN n = (n : Int)) ∧
    (∀ a b, std.imin a b = if b < a then b else a) ∧ (∀ a b, std.imax a b = if b > a then b else a) ∧ (∀ a b, std.nadd a b = a + b) ∧ (∀ a b, std.nsub a b = a - b) ∧ (∀ a b, std.nlt a b = decide (a < b)) ∧
    (∀ k n, std.pIn k n = (k.min ≤ n ∧ n ≤ k.max)) ∧ (∀ (i : Int) (n : Nat), std.pIdx i n = (0 ≤ i ∧ i < (n : Int))) ∧ (∀ a b, std.pLe a b = (a ≤ b)) ∧ (∀ a b : Int, std.pNe a b = (a ≠ b)) ∧ (∀ a b, std.pNle a b = (a ≤ b)) ∧
    (∀ a b, std.pNlt a b = (a < b)) ∧ (∀ a b : Nat, std.pNeq a b = (a = b)) ∧ (∀ n, std.pSmall n = (n ≤ 1073741824)) ∧
    (∀ {α : Type} (l : List α), std.llen l = l.length) ∧ (∀ {α : Type} (l : List α) i d, std.lget l i d = l.getD i d) ∧ (∀ {α : Type} (a b : List α), std.lapp a b = a ++ b) ∧ (∀ {α : Type} (l : List α) i x, std.lset l i x = l.set i x) ∧
    (∀ {α : Type} (l : List α) a b, std.lsub l a b = (l.drop a).take (b - a)) ∧ (∀ {α : Type} n (x : α), std.lrep n x = List.replicate n x) :=
  ⟨fun _ _ => rfl, fun _ _ => rfl, fun _ _ => rfl, fun _ _ => rfl, fun _ _ => rfl, fun _ => rfl, fun _ _ => rfl, fun _ _ => rfl, fun _ _ => rfl, fun _ _ => rfl, fun _ => rfl, fun _ => rfl, fun _ _ => rfl, fun _ _ => rfl, fun _ _ => rfl, fun _ _ => rfl, fun _ _ => rfl,
   fun _ _ => rfl, fun _ _ => rfl, fun _ _ => rfl, fun _ _ => rfl, fun _ _ => rfl, fun _ _ => rfl, fun _ _ => rfl, fun _ => rfl, fun _ => rfl, fun _ _ _ => rfl, fun _ _ => rfl, fun _ _ _ => rfl, fun _ _ _ => rfl, fun _ _ => rfl⟩
theorem gdt {α : Type} {p : Prop} {x : Option α} (h : p) : gd p x = x := gd_pos h
theorem i64mm : IntKind.i64.min = -9223372036854775808 ∧ IntKind.i64.max = 9223372036854775807 := ⟨rfl, rfl⟩
theorem in64' {n : Int} (h : -9223372036854775808 ≤ n ∧ n ≤ 9223372036854775807) : std.pIn .i64 n := h

/- floats of 32 bits as floats of 64 bits -/
theorem cut0 (neg : Bool) (n : Nat) : Ieee.Toward.even.cut neg n 0 = n := by
  unfold Ieee.Toward.cut
  simp [Nat.mod_one]
theorem read_word {f : Ieee.Format} {neg : Bool} {r : Nat} (h : r < f.infRung) : (f.read (f.word neg r)).isInfinity = false ∧ (f.read (f.word neg r)).isNaN = false := by
  have h0 : f.infRung < f.signWeight := Ieee.Format.infRung_lt f
  have hr : f.word neg r % f.signWeight = r := by
    unfold Ieee.Format.word
    cases neg
    · simp; exact Nat.mod_eq_of_lt (by omega)
    · simp; exact Nat.mod_eq_of_lt (by omega)
  by_cases hb : r < f.binade
  · simp only [Ieee.Format.read, hr, hb, if_true]; exact ⟨rfl, rfl⟩
  · simp only [Ieee.Format.read, hr, hb, h, if_true, if_false]; exact ⟨rfl, rfl⟩
theorem nearest64 (neg : Bool) (m : Nat) (e : Int) (hm : m < 2 ^ 24) (h1 : -149 ≤ e) (h2 : e ≤ 104) : ∃ r, r < Ieee.double.infRung ∧ Ieee.double.nearest neg m e = Ieee.double.word neg r := by
  unfold Ieee.Format.nearest
  by_cases h0 : m = 0
  · simp only [h0, if_true]; exact ⟨0, by decide, rfl⟩
  · simp only [h0, if_false]
    have hl : m.log2 < 24 := (Nat.log2_lt h0).2 hm
    have e1 : Ieee.double.fractionBits = 52 := rfl
    have e2 : Ieee.double.leastPlace = -1074 := by decide
    have e3 : Ieee.double.infRung = 2047 * 2 ^ 52 := by decide
    have e4 : Ieee.double.binade = 2 ^ 52 := by decide
    have hmax : max (e + (m.log2 : Int) - ((52 : Nat) : Int)) (-1074 : Int) = e + m.log2 - 52 := by omega
    rw [e1, e2, hmax]
    have hd : (e + (m.log2 : Int) - 52 - e).toNat = 0 := by omega
    rw [hd, cut0]
    refine ⟨_, ?_, rfl⟩
    have hs : (e - (e + (m.log2 : Int) - 52)).toNat = 52 - m.log2 := by omega
    rw [hs, e3, e4]
    have hk : m <<< (52 - m.log2) < 2 ^ 53 := by
      rw [Nat.shiftLeft_eq]
      have : m < 2 ^ (m.log2 + 1) := Nat.lt_log2_self
      calc m * 2 ^ (52 - m.log2) < 2 ^ (m.log2 + 1) * 2 ^ (52 - m.log2) := Nat.mul_lt_mul_of_pos_right this (Nat.two_pow_pos _)
        _ = 2 ^ 53 := by rw [← Nat.pow_add]; congr 1; omega
    refine Nat.lt_of_le_of_lt (Nat.min_le_left _ _) ?_
    have ha : (e + (m.log2 : Int) - 52 - (-1074)).toNat ≤ 1149 := by omega
    generalize (e + (m.log2 : Int) - 52 - (-1074)).toNat = a at ha ⊢
    generalize m <<< (52 - m.log2) = t at hk ⊢
    have hb : a * 2 ^ 52 ≤ 1149 * 2 ^ 52 := Nat.mul_le_mul_right _ ha
    have h53 : 2 ^ 53 = 2 * 2 ^ 52 := rfl
    have hlast : 1149 * 2 ^ 52 + 2 * 2 ^ 52 ≤ 2047 * 2 ^ 52 := by decide
    exact Nat.lt_of_lt_of_le (Nat.add_lt_add_of_le_of_lt hb (h53 ▸ hk)) hlast
theorem read32 (n : Nat) : (∃ s t, Ieee.single.read n = .nan s t) ∨ (∃ s, Ieee.single.read n = .infinity s) ∨ ∃ s m e, Ieee.single.read n = .number s m e ∧ m < 2 ^ 24 ∧ -149 ≤ e ∧ e ≤ 104 := by
  have e1 : Ieee.single.signWeight = 2147483648 := by decide
  have e2 : Ieee.single.infRung = 2139095040 := by decide
  have e3 : Ieee.single.binade = 8388608 := by decide
  have e4 : Ieee.single.leastPlace = -149 := by decide
  simp only [Ieee.Format.read, e1, e2, e3, e4]
  split
  · exact .inr (.inr ⟨_, _, _, rfl, by omega, by omega, by omega⟩)
  · split
    · exact .inr (.inr ⟨_, _, _, rfl, by omega, by omega, by omega⟩)
    · split
      · exact .inr (.inl ⟨_, rfl⟩)
      · exact .inl ⟨_, _, rfl⟩
theorem pConv64 (n : Nat) : std.pConv .f32 .f64 n := by
  right
  have := read32 n
  show match Ieee.single.read n with | .number s m e => (FloatKind.f64.decode (FloatKind.f64.encode (.number s m e))).isInfinity = false | _ => True
  rcases this with ⟨s, t, h⟩ | ⟨s, h⟩ | ⟨s, m, e, h, h1, h2, h3⟩
  · rw [h]; trivial
  · rw [h]; trivial
  · rw [h]
    obtain ⟨r, hr, hw⟩ := nearest64 s m e h1 h2 h3
    show (Ieee.double.read (Ieee.double.nearest s m e)).isInfinity = false
    rw [hw]; exact (read_word hr).1
theorem conv64_num {n : Nat} (h : isN .f32 n = false) : isN .f64 (std.fconv .f32 .f64 n) = false := by
  have := read32 n
  show (FloatKind.f64.decode (canon .f64 (fcv .f32 .f64 n))).isNaN = false
  rw [nan_canon]
  have hd : FloatKind.f32.decode n = Ieee.single.read n := rfl
  unfold fcv
  simp only [reduceCtorEq, if_false]
  rw [hd]
  unfold isN at h
  rw [hd] at h
  rcases this with ⟨s, t, h1⟩ | ⟨s, h1⟩ | ⟨s, m, e, h1, h2, h3, h4⟩
  · rw [h1] at h; cases h
  · rw [h1]; cases s <;> rfl
  · rw [h1]
    obtain ⟨r, hr, hw⟩ := nearest64 s m e h2 h3 h4
    show (Ieee.double.read (Ieee.double.nearest s m e)).isNaN = false
    rw [hw]; exact (read_word hr).2

end Go.Desk
