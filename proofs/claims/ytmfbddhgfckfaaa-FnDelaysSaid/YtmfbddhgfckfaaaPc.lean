/- Plain laws: filters. -/
import Derived.Test.YtmfbddhgfckfaaaPb
namespace Go.Desk
open Go Go.IntWalk
set_option linter.all false
set_option linter.unusedVariables false
set_option linter.unusedSimpArgs false
set_option maxRecDepth 100000

theorem sign_bits (v : Int) : std.bits .or .u64 (std.bits .andNot .u64 0 9223372036854775808) (std.bits .and .u64 v 9223372036854775808) = 0 ∨
    std.bits .or .u64 (std.bits .andNot .u64 0 9223372036854775808) (std.bits .and .u64 v 9223372036854775808) = 9223372036854775808 := by
  have h0 : std.bits .andNot .u64 0 9223372036854775808 = 0 := by decide
  rw [h0]
  have h1 : std.bits .and .u64 v 9223372036854775808 = IntKind.u64.wrap ((BitVec.ofInt 64 v &&& BitVec.ofInt 64 9223372036854775808).toNat : Int) := rfl
  have h2 : (BitVec.ofInt 64 v &&& BitVec.ofInt 64 9223372036854775808).toNat = 0 ∨ (BitVec.ofInt 64 v &&& BitVec.ofInt 64 9223372036854775808).toNat = 9223372036854775808 := by
    rw [BitVec.toNat_and]
    have e : (BitVec.ofInt 64 9223372036854775808).toNat = 2 ^ 63 := by decide
    rw [e]
    generalize (BitVec.ofInt 64 v).toNat = a
    cases hb : a.testBit 63
    · left
      refine Nat.eq_of_testBit_eq fun j => ?_
      rw [Nat.testBit_and, Nat.testBit_two_pow]
      by_cases hj : 63 = j
      · subst hj; simp [hb]
      · simp [hj]
    · right
      show a &&& 2 ^ 63 = 2 ^ 63
      refine Nat.eq_of_testBit_eq fun j => ?_
      rw [Nat.testBit_and, Nat.testBit_two_pow]
      by_cases hj : 63 = j
      · subst hj; simp [hb]
      · simp [hj]
  rw [h1]
  rcases h2 with h | h
  · left; rw [h]; decide
  · right; rw [h]; decide

theorem fcmp_num {op : BinOp} {k : FloatKind} {x y : Nat} (h : std.fcmp op k x y = true) (ho : op = .lss ∨ op = .eql ∨ op = .leq ∨ op = .gtr ∨ op = .geq) : isN k x = false ∧ isN k y = false := by
  have h' : fc op k x y = true := h
  constructor
  · cases hx : isN k x with
    | false => rfl
    | true =>
      unfold fc at h'
      rw [order_nan_l hx] at h'
      rcases ho with rfl | rfl | rfl | rfl | rfl <;> cases h'
  · cases hx : isN k y with
    | false => rfl
    | true =>
      unfold fc at h'
      rw [order_nan_r hx] at h'
      rcases ho with rfl | rfl | rfl | rfl | rfl <;> cases h'

theorem sub_some (x : Nat) : ∃ b, F_impl_IsSubnormal std x = some b ∧ (b = true → isN .f32 x = false) := by
  unfold F_impl_IsSubnormal
  cases h1 : std.fcmp .neq .f32 x 0
  · exact ⟨_, rfl, fun h => by cases h⟩
  · cases h2 : std.fcmp .lss .f32 x 8388608
    · exact ⟨_, rfl, fun h => by cases h⟩
    · exact ⟨_, rfl, fun _ => (fcmp_num h2 (.inl rfl)).1⟩

theorem flush_ok (x : Nat) : Ok (F_impl_FlushNumber std x) fun _ => True := by
  unfold F_impl_FlushNumber
  obtain ⟨b, h1, h2⟩ := sub_some x
  rw [h1]
  show Ok (cond (!b) (some x) _) _
  refine ok_cond (fun _ => ok_some trivial) (fun hb => ?_)
  have hb : b = true := by simpa using hb
  refine ok_gd (pConv64 x) ?_
  refine ok_bind (P := fun r => r = 0 ∨ r = 9223372036854775808) ?_ ?_
  · unfold F_math_Copysign F_math_Float64bits F_math_Float64frombits
    refine ok_bind (P := fun r => r = 0) (ok_gd (by decide) (ok_some rfl)) ?_
    rintro _ rfl
    refine ok_bind (P := fun _ => True) (ok_gd (conv64_num (h2 hb)) (ok_some trivial)) ?_
    rintro v _
    rcases sign_bits v with e | e
    · rw [e]
      exact ok_bind (P := fun r => r = 0) (ok_gd (by decide) (ok_some (by decide))) fun r hr => ok_some (.inl hr)
    · rw [e]
      exact ok_bind (P := fun r => r = 9223372036854775808) (ok_gd (by decide) (ok_some (by decide))) fun r hr => ok_some (.inr hr)
  · rintro r (rfl | rfl)
    · exact ok_gd (.inr (show (FloatKind.f32.decode (FloatKind.f32.encode (.number false 0 (-1074)))).isInfinity = false by decide)) (ok_some trivial)
    · exact ok_gd (.inr (show (FloatKind.f32.decode (FloatKind.f32.encode (.number true 0 (-1074)))).isInfinity = false by decide)) (ok_some trivial)

noncomputable def fluN (x : Nat) (b : Bool) : Nat := (F_impl_flushed std x b).getD 0
theorem flu_eq (x : Nat) (b : Bool) : F_impl_flushed std x b = some (fluN x b) := by
  have : Ok (F_impl_flushed std x b) fun _ => True := by
    unfold F_impl_flushed
    exact ok_cond (fun _ => ok_bind (flush_ok x) fun _ _ => ok_some trivial) (fun _ => ok_some trivial)
  obtain ⟨r, hr, _⟩ := this
  unfold fluN
  rw [hr]; rfl

noncomputable def stepN (f : GFilter) (form : Int) (fl : Bool) (m : GMemory) (x : Nat) : Nat × GMemory := (F_impl_Filter_step std f form fl m x).getD (0, m)
theorem step_eq (f : GFilter) (form : Int) (fl : Bool) (m : GMemory) (x : Nat) : F_impl_Filter_step std f form fl m x = some (stepN f form fl m x) := by
  have : Ok (F_impl_Filter_step std f form fl m x) fun _ => True := by
    unfold F_impl_Filter_step
    simp only [flu_eq, Option.bind_some]
    exact ok_cond (fun _ => ok_some trivial) (fun _ => ok_cond (fun _ => ok_some trivial) (fun _ => ok_some trivial))
  obtain ⟨r, hr, _⟩ := this
  unfold stepN
  rw [hr]; rfl

noncomputable def runN (f : GFilter) (form : Int) (fl : Bool) : GMemory → List Nat → List Nat × GMemory
  | m, [] => ([], m)
  | m, x :: xs => ((stepN f form fl m x).1 :: (runN f form fl (stepN f form fl m x).2 xs).1, (runN f form fl (stepN f form fl m x).2 xs).2)
theorem runN_len (f : GFilter) (form : Int) (fl : Bool) : ∀ (xs : List Nat) (m : GMemory), (runN f form fl m xs).1.length = xs.length
  | [], m => rfl
  | x :: xs, m => by simp only [runN, List.length_cons]; rw [runN_len f form fl xs]

theorem getD_mid {α : Type} (pre xs : List α) (x d : α) : (pre ++ x :: xs).getD pre.length d = x := by
  rw [List.getD_eq_getElem?_getD, List.getElem?_append_right (Nat.le_refl _), Nat.sub_self]; rfl

theorem run_l (f : GFilter) (form : Int) (fl : Bool) : ∀ (xs pre out : List Nat) (k : Nat) (m : GMemory), xs.length < k → out.length + xs.length ≤ 1000000 → pre.length + xs.length ≤ 1000000 →
    F_impl_Filter_run_l0 std f form fl (pre ++ xs) k out (pre.length : Int) m.A m.B m.C m.D =
      some ((runN f form fl m xs).2.A, (runN f form fl m xs).2.B, (runN f form fl m xs).2.C, (runN f form fl m xs).2.D, out ++ (runN f form fl m xs).1)
  | _, _, _, 0, _, h, _, _ => absurd h (Nat.not_lt_zero _)
  | [], pre, out, k + 1, m, h, h1, h2 => by
    rw [F_impl_Filter_run_l0.eq_2]
    have : std.ilt (pre.length : Int) (std.ofN (std.llen (pre ++ []))) = false := by simp [std]
    rw [this]
    simp [runN]
  | x :: xs, pre, out, k + 1, m, h, h1, h2 => by
    rw [F_impl_Filter_run_l0.eq_2]
    simp only [List.length_cons] at h h1 h2
    have e1 : std.ilt (pre.length : Int) (std.ofN (std.llen (pre ++ x :: xs))) = true := by
      simp only [sio, decide_eq_true_eq, List.length_append, List.length_cons]; omega
    rw [e1]
    simp only [cond_true]
    rw [gdt (by simp only [sio, List.length_append, List.length_cons]; omega)]
    have e2 : std.lget (pre ++ x :: xs) (std.toN (pre.length : Int)) 0 = x := by simp only [sio, Int.toNat_natCast]; exact getD_mid _ _ _ _
    rw [e2, step_eq]
    simp only [Option.bind_some]
    rw [gdt (by simp only [sio]; omega), gdt (pin_i64 (by simp only [sio]; omega) (by simp only [sio]; omega))]
    have := run_l f form fl xs (pre ++ [x]) (out ++ [(stepN f form fl m x).1]) k (stepN f form fl m x).2 (by omega) (by simp; omega) (by simp; omega)
    simp only [List.append_assoc, List.singleton_append, List.length_append, List.length_singleton] at this
    simp only [sio]
    rw [show ((pre.length : Int) + 1) = ((pre.length + 1 : Nat) : Int) by omega, this]
    simp only [runN]

theorem run_eq (f : GFilter) (form : Int) (fl : Bool) (m : GMemory) (xs : List Nat) (h : xs.length ≤ 1000) : F_impl_Filter_run std f form fl m xs = some (runN f form fl m xs) := by
  unfold F_impl_Filter_run
  have := run_l f form fl xs [] [] KK m (by unfold KK; omega) (by simp; omega) (by simp; omega)
  simp only [List.nil_append, List.length_nil] at this
  rw [show ((0 : Nat) : Int) = 0 from rfl] at this
  rw [this]
  rfl

theorem form_eq (form : Int) (h : 0 ≤ form ∧ form ≤ 2) : F_impl_isForm std form = some true := by
  unfold F_impl_isForm F_impl_within
  simp [sio, h.1, h.2]
theorem runFilter_eq (f : GFilter) (form : Int) (fl : Bool) (m : GMemory) (xs : List Nat) (hf : 0 ≤ form ∧ form ≤ 2) (h : xs.length ≤ 256) :
    F_impl_RunFilter std f form fl m xs = some ((runN f form fl m xs).1, (runN f form fl m xs).2, true) := by
  unfold F_impl_RunFilter F_impl_areSamples
  rw [form_eq form hf]
  have e : std.ile (std.ofN (std.llen xs)) 256 = true := by simp only [sio, decide_eq_true_eq]; omega
  simp only [Option.bind_some, e, Bool.not_true, cond_false]
  rw [run_eq _ _ _ _ _ (by omega)]
  rfl

theorem same_refl (x : Nat) : F_impl_SameNumber std x x = some true := by
  unfold F_impl_SameNumber
  cases h : std.fcmp .neq .f32 x x
  · simp only [cond_false]
    have hn : isN .f32 x = false := by
      cases hx : isN .f32 x with
      | false => rfl
      | true =>
        have h' : fc .neq .f32 x x = false := h
        unfold fc at h'
        rw [order_nan_l hx] at h'
        cases h'
    unfold F_math_Float32bits
    rw [gdt hn]
    simp [sio]
  · rfl
theorem sameMem_refl (m : GMemory) : F_impl_SameMemory std m m = some true := by
  unfold F_impl_SameMemory
  simp only [same_refl, Option.bind_some, cond_true]

theorem r8same_l (l : List Nat) : ∀ (j k i : Nat), j < k → l.length = i + j → l.length ≤ 1000000 → F_laws_r8Same_l0 std l l k (i : Int) = some (.inr ())
  | _, 0, _, h, _, _ => absurd h (Nat.not_lt_zero _)
  | 0, k + 1, i, h, h1, h2 => by
    rw [F_laws_r8Same_l0.eq_2]
    have : std.ilt (i : Int) (std.ofN (std.llen l)) = false := by simp only [sio, decide_eq_false_iff_not]; omega
    rw [this]; rfl
  | j + 1, k + 1, i, h, h1, h2 => by
    rw [F_laws_r8Same_l0.eq_2]
    have e1 : std.ilt (i : Int) (std.ofN (std.llen l)) = true := by simp only [sio, decide_eq_true_eq]; omega
    rw [e1]
    simp only [cond_true]
    rw [gdt (by simp only [sio]; omega), gdt (by simp only [sio]; omega), same_refl]
    simp only [Option.bind_some, Bool.not_true, cond_false]
    rw [gdt (pin_i64 (by simp only [sio]; omega) (by simp only [sio]; omega))]
    have := r8same_l l j k (i + 1) (by omega) (by omega) h2
    simp only [sio]
    rw [show ((i : Int) + 1) = ((i + 1 : Nat) : Int) by omega, this]
theorem r8same_eq (l : List Nat) (h : l.length ≤ 1000) : F_laws_r8Same std l l = some true := by
  unfold F_laws_r8Same
  have : std.ieq (std.ofN (std.llen l)) (std.ofN (std.llen l)) = true := by simp [sio]
  rw [this]
  simp only [Bool.not_true, cond_false]
  have := r8same_l l l.length KK 0 (by unfold KK; omega) (by omega) (by omega)
  rw [show ((0 : Nat) : Int) = 0 from rfl] at this
  rw [this]; rfl

theorem turned_l (l : List Nat) : ∀ (j k : Nat) (out : List Nat), j < k → j ≤ l.length → out.length + j ≤ 1000000 → l.length ≤ 1000000 →
    F_laws_r8Turned_l0 std l k out ((j : Int) - 1) = some (out ++ (l.take j).reverse)
  | _, 0, _, h, _, _, _ => absurd h (Nat.not_lt_zero _)
  | 0, k + 1, out, h, h1, h2, h3 => by
    rw [F_laws_r8Turned_l0.eq_2]
    have : std.ile 0 (((0 : Nat) : Int) - 1) = false := by decide
    rw [this]; simp
  | j + 1, k + 1, out, h, h1, h2, h3 => by
    rw [F_laws_r8Turned_l0.eq_2]
    have e0 : (((j + 1 : Nat) : Int) - 1) = (j : Int) := by omega
    rw [e0]
    have e1 : std.ile 0 (j : Int) = true := by simp [sio]
    rw [e1]
    simp only [cond_true]
    rw [gdt (by simp only [sio]; omega), gdt (by simp only [sio]; omega), gdt (pin_i64 (by simp only [sio]; omega) (by simp only [sio]; omega))]
    simp only [sio, Int.toNat_natCast]
    rw [turned_l l j k (out ++ [l.getD j 0]) (by omega) (by omega) (by simp; omega) h3]
    have : l.take (j + 1) = l.take j ++ [l.getD j 0] := by
      rw [List.take_succ_eq_append_getElem (by omega), List.getD_eq_getElem?_getD, List.getElem?_eq_getElem (by omega)]; rfl
    rw [this, List.reverse_append]
    simp
theorem turned_eq (l : List Nat) (h : l.length ≤ 1000) : F_laws_r8Turned std l = some l.reverse := by
  unfold F_laws_r8Turned
  rw [gdt (pin_i64 (by simp only [sio]; omega) (by simp only [sio]; omega))]
  have := turned_l l l.length KK [] (by unfold KK; omega) (Nat.le_refl _) (by simp; omega) (by omega)
  simp only [sio]
  rw [this]
  simp

end Go.Desk
