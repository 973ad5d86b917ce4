/- V-logic, part 12: arithmetic. -/
import Derived.Test.YtmfbddhgfckfaaaVk
import Derived.Laws.Strings
namespace Go.Desk
open Go
set_option linter.all false
set_option linter.unusedVariables false

variable {c : Ctx} {L : LMap} {I : Nat → Prop} {s : St} {a : Act} {w : World} {P : Program} {T : Nat → TI} {B : Nat}

/-- a float operation: a number, or a NaN of whatever bits -/
theorem run_fop (op : BinOp) (k : FloatKind) (x y : Nat) (hop : op = .add ∨ op = .sub ∨ op = .mul ∨ op = .quo) (w : World) :
    ∃ r w', (Op.floatArith op k x y).run P w = .ok (.float k r) w' ∧ (w' = w ∨ w' = w.drew) ∧ canon k r = ((fa op k x y).map (canon k)).getD (nanOf k) ∧ r < 2 ^ k.format.width := by
  have key : (Op.floatArith op k x y).run P w = (match fa op k x y with | some r => Result.ok (.float k r) w | none => (Sem.run P (do pure (.float k (← choose (.nanBits k x y)))) w)) := by
    rcases hop with e | e | e | e <;> subst e <;> simp only [Op.floatArith, fa, Sem.run_bind, Sem.run_pure, Result.andThen_ok]
    · cases k.format.add x y <;> rfl
    · cases k.format.sub x y <;> rfl
    · cases k.format.mul x y <;> rfl
    · cases k.format.div x y <;> rfl
  rw [key]
  cases hfa : fa op k x y with
  | some r => exact ⟨r, w, rfl, .inl rfl, rfl, fa_lt hfa⟩
  | none =>
    refine ⟨Question.cut (.nanBits k x y) (w.tape w.drawn (.nanBits k x y)), w.drew, by simp [Question.forced], .inr rfl, ?_, ?_⟩
    · simp only [Option.map_none, Option.getD_none]
      generalize w.tape w.drawn (.nanBits k x y) = t
      refine canon_of_nan ?_
      rw [nan_iff]
      cases k
      · simp only [Question.cut]
        have h1 := Nat.mod_lt (t / 2) (show 0 < 2 ^ 23 - 1 by decide)
        have : (t % 2 * 2 ^ 31 + 0x7f800000 + 1 + t / 2 % (2 ^ 23 - 1)) % 2147483648 = 0x7f800000 + 1 + t / 2 % (2 ^ 23 - 1) := by
          rw [show t % 2 * 2 ^ 31 + 0x7f800000 + 1 + t / 2 % (2 ^ 23 - 1) = (0x7f800000 + 1 + t / 2 % (2 ^ 23 - 1)) + 2147483648 * (t % 2) from by omega, Nat.add_mul_mod_self_left]
          exact Nat.mod_eq_of_lt (by omega)
        rw [this, nblt_eq]; omega
      · simp only [Question.cut]
        have h1 := Nat.mod_lt (t / 2) (show 0 < 2 ^ 52 - 1 by decide)
        have : (t % 2 * 2 ^ 63 + 0x7ff0000000000000 + 1 + t / 2 % (2 ^ 52 - 1)) % 9223372036854775808 = 0x7ff0000000000000 + 1 + t / 2 % (2 ^ 52 - 1) := by
          rw [show t % 2 * 2 ^ 63 + 0x7ff0000000000000 + 1 + t / 2 % (2 ^ 52 - 1) = (0x7ff0000000000000 + 1 + t / 2 % (2 ^ 52 - 1)) + 9223372036854775808 * (t % 2) from by omega, Nat.add_mul_mod_self_left]
          exact Nat.mod_eq_of_lt (by omega)
        rw [this, nblt_eq]; omega
    · generalize w.tape w.drawn (.nanBits k x y) = t
      cases k
      · simp only [Question.cut, FloatKind.format]
        have h1 := Nat.mod_lt (t / 2) (show 0 < 2 ^ 23 - 1 by decide)
        have h2 := Nat.mod_lt t (show 0 < 2 by decide)
        show _ < 4294967296
        omega
      · simp only [Question.cut, FloatKind.format]
        have h1 := Nat.mod_lt (t / 2) (show 0 < 2 ^ 52 - 1 by decide)
        have h2 := Nat.mod_lt t (show 0 < 2 by decide)
        show _ < 18446744073709551616
        omega

theorem Gives.of_two (h : Sim c L I s a w) (d : Option Nat) (hd : ∀ x, d = some x → x < c.N) {v : V} {x : Value} {M : Sem Value} {ok : List Prop} {w' : World}
    (hr : M.run P w = .ok x w') (hw : w' = w ∨ w' = w.drew) (hv : ∀ w, Rel w L c.B v I x) : Gives P c a w M s d ⟨ok, v, [], []⟩ := by
  rcases hw with e | e
  · subst e; exact Gives.val h d hd hr (hv _)
  · subst e; exact Gives.val_drew h d hd hr hv

theorem eqGuard_int (op : BinOp) (t : TypeId) (x y : Operand) (k k' : IntKind) (m n : Int) (w : World) : (eqGuard op t x y (.int k m) (.int k' n)).run P w = .ok () w := by
  cases op <;> simp [eqGuard]
theorem eqGuard_flt (op : BinOp) (t : TypeId) (x y : Operand) (k k' : FloatKind) (m n : Nat) (w : World) : (eqGuard op t x y (.float k m) (.float k' n)).run P w = .ok () w := by
  cases op <;> simp [eqGuard]
theorem eqGuard_str (op : BinOp) (t : TypeId) (x y : Operand) (m n : ByteArray) (w : World) : (eqGuard op t x y (.string m) (.string n)).run P w = .ok () w := by
  cases op <;> simp [eqGuard]
theorem eqGuard_bool (op : BinOp) (t : TypeId) (x y : Operand) (m n : Bool) (w : World) : (eqGuard op t x y (.bool m) (.bool n)).run P w = .ok () w := by
  cases op <;> simp [eqGuard]

theorem run_equal_bool {t : TypeId} (ht : P.underlying t = some .bool) (m n : Bool) (w : World) : (Op.equal t (.bool m) (.bool n)).run P w = .ok (m == n) w := by
  have key : ∀ d, (Op.equalIn (d + 1) t (.bool m) (.bool n)).run P w = .ok (m == n) w := by
    intro d
    simp only [Op.equalIn, Sem.run_bind, run_underlying ht, Result.andThen_ok, Sem.run_pure]
  exact key 9999

theorem wrap_i64 {n : Int} (h : IntKind.i64.min ≤ n ∧ n ≤ IntKind.i64.max) : IntKind.i64.wrap n = n := by
  simp [IntKind.min, IntKind.max, IntKind.signed, IntKind.bits] at h
  simp [IntKind.wrap, IntKind.signed, IntKind.bits]
  omega
theorem wrap_in {k : IntKind} {n : Int} (h : k.min ≤ n ∧ n ≤ k.max) : k.wrap n = n := by
  unfold IntKind.wrap
  cases k <;> simp [IntKind.min, IntKind.max, IntKind.signed, IntKind.bits] at h ⊢ <;> omega

theorem str_eq {a b : ByteArray} : (a.toList == b.toList) = (a.data.toList == b.data.toList) := by
  rw [ByteArray.toList_eq, ByteArray.toList_eq]

theorem bin_sound (hT : TOk P T) (h : Sim c L I s a w) (d : Option Nat) (hd : ∀ x, d = some x → x < c.N) {op : BinOp} {t : Nat} {v u : V} {x y : Value} {ox oy : Operand} (hv : Rel w L c.B v I x) (hu : Rel w L c.B u I y)
    (hns : isShift op = false) (hok : AllOk ((effBin ⟨std, T⟩ op t v u).run s.ob).ok) :
    Gives P c a w (do eqGuard op t ox oy x y; binOp op t x y) s d ((effBin ⟨std, T⟩ op t v u).run s.ob) := by
  unfold effBin at hok ⊢
  cases v <;> cases u <;> simp only [Rd.run] at hok ⊢ <;> first | exact fail_elim hok | skip
  · -- bools
    rename_i m n
    simp only [Rel] at hv hu; subst hv; subst hu
    cases op <;> cases hk : (T t).k <;> simp only [hk, Rd.run, Eff.v] at hok ⊢ <;> first | exact fail_elim hok | skip
    · refine Gives.val h d hd (x := .bool (m == n)) ?_ (by simp [Rel, std])
      simp [eqGuard_bool, binOp, run_equal_bool (T_bool hT hk)]
    · refine Gives.val h d hd (x := .bool (!(m == n))) ?_ (by simp [Rel, std])
      simp [eqGuard_bool, binOp, run_equal_bool (T_bool hT hk)]
  · -- ints
    rename_i k m k' n
    simp only [Rel] at hv hu; subst hv; subst hu
    by_cases hkk : k = k'
    · subst hkk
      simp only [decide_true] at hok ⊢
      have base : ∀ (M : Sem Value), binOp op t (.int k m) (.int k n) = M → (do eqGuard op t ox oy (.int k m) (.int k n); binOp op t (.int k m) (.int k n) : Sem Value).run P w = M.run P w := by
        intro M hM; simp [eqGuard_int, hM]
      cases op <;> simp only [isShift] at hns <;> first | (cases hns; done) | skip
      all_goals simp only [Rd.run, Eff.v, Eff.vc] at hok ⊢
      case add =>
        cases k <;> simp only [Rd.run] at hok ⊢
        all_goals refine Gives.val h d hd (by rw [base _ rfl]; simp [binOp, Op.intArith]; rfl) ?_
        all_goals simp only [Rel, std]
        exact congrArg (Value.int .i64) (wrap_i64 hok.1)
      case sub =>
        cases k <;> simp only [Rd.run] at hok ⊢
        all_goals refine Gives.val h d hd (by rw [base _ rfl]; simp [binOp, Op.intArith]; rfl) ?_
        all_goals simp only [Rel, std]
        exact congrArg (Value.int .i64) (wrap_i64 hok.1)
      case mul =>
        cases k <;> simp only [Rd.run] at hok ⊢
        all_goals refine Gives.val h d hd (by rw [base _ rfl]; simp [binOp, Op.intArith]; rfl) ?_
        all_goals simp only [Rel, std]
        exact congrArg (Value.int .i64) (wrap_i64 hok.1)
      case quo =>
        have h0 : n ≠ 0 := hok.1
        refine Gives.val h d hd (by rw [base _ rfl]; simp [binOp, Op.intDiv, h0]; rfl) ?_
        simp only [Rel, std]
        exact congrArg (Value.int k) (wrap_in hok.2.1)
      case rem =>
        have h0 : n ≠ 0 := hok.1
        refine Gives.val h d hd (by rw [base _ rfl]; simp [binOp, Op.intDiv, h0]; rfl) ?_
        simp only [Rel, std]
      case and => exact Gives.val h d hd (by rw [base _ rfl]; simp [binOp, Op.intBits]; rfl) (by simp [Rel, std, bitsOf])
      case or => exact Gives.val h d hd (by rw [base _ rfl]; simp [binOp, Op.intBits]; rfl) (by simp [Rel, std, bitsOf])
      case xor => exact Gives.val h d hd (by rw [base _ rfl]; simp [binOp, Op.intBits]; rfl) (by simp [Rel, std, bitsOf])
      case andNot => exact Gives.val h d hd (by rw [base _ rfl]; simp [binOp, Op.intBits]; rfl) (by simp [Rel, std, bitsOf])
      case lss => exact Gives.val h d hd (x := .bool (decide (m < n))) (by rw [base _ rfl]; simp [binOp, Op.intCmp]) (by simp [Rel, std])
      case leq => exact Gives.val h d hd (x := .bool (decide (m ≤ n))) (by rw [base _ rfl]; simp [binOp, Op.intCmp]) (by simp [Rel, std])
      case gtr => exact Gives.val h d hd (x := .bool (decide (m > n))) (by rw [base _ rfl]; simp [binOp, Op.intCmp]) (by simp [Rel, std])
      case geq => exact Gives.val h d hd (x := .bool (decide (m ≥ n))) (by rw [base _ rfl]; simp [binOp, Op.intCmp]) (by simp [Rel, std])
      case eql => exact Gives.val h d hd (x := .bool (m == n)) (by rw [base _ rfl]; simp [binOp, Op.intCmp]) (by simp [Rel, std])
      case neq => exact Gives.val h d hd (x := .bool (m != n)) (by rw [base _ rfl]; simp [binOp, Op.intCmp]) (by simp [Rel, std, bne])
    · simp only [hkk, decide_false, Rd.run] at hok; exact fail_elim hok
  · -- floats
    rename_i k m k' n
    simp only [Rel] at hv hu
    obtain ⟨b, rfl, hm, hb⟩ := hv
    obtain ⟨b', rfl, hn, hb'⟩ := hu
    subst hm; subst hn
    by_cases hkk : k = k'
    · subst hkk
      simp only [decide_true] at hok ⊢
      have arith : (op = .add ∨ op = .sub ∨ op = .mul ∨ op = .quo) → Gives P c a w (do eqGuard op t ox oy (.float k b) (.float k b'); binOp op t (.float k b) (.float k b')) s d ⟨[], .flt k (std.fop op k (canon k b) (canon k b')), [], []⟩ := by
        intro hop
        obtain ⟨r, w', r1, r2, r3, r4⟩ := run_fop (P := P) op k b b' hop w
        refine Gives.of_two h d hd (x := .float k r) (w' := w') ?_ r2 (fun w => ?_)
        · have hb0 : binOp op t (.float k b) (.float k b') = Op.floatArith op k b b' := by rcases hop with e | e | e | e <;> subst e <;> simp [binOp]
          simp [eqGuard_flt, hb0, r1]
        · simp only [Rel, std, fa_canon]
          exact ⟨r, rfl, r3, r4⟩
      have cmp : (op = .eql ∨ op = .neq ∨ op = .lss ∨ op = .leq ∨ op = .gtr ∨ op = .geq) → Gives P c a w (do eqGuard op t ox oy (.float k b) (.float k b'); binOp op t (.float k b) (.float k b')) s d ⟨[], .bool (std.fcmp op k (canon k b) (canon k b')), [], []⟩ := by
        intro hop
        refine Gives.val h d hd (x := .bool (fc op k b b')) ?_ (by simp only [Rel, std, fc_canon])
        rcases hop with e | e | e | e | e | e <;> subst e <;> simp [eqGuard_flt, binOp, Op.floatCmp, fc]
      cases op <;> simp only [Rd.run, Eff.v] at hok ⊢ <;> first | exact fail_elim hok | exact arith (by simp) | exact cmp (by simp)
    · simp only [hkk, decide_false, Rd.run] at hok; exact fail_elim hok
  · -- strings
    rename_i m n
    simp only [Rel] at hv hu
    obtain ⟨sa, rfl, ha⟩ := hv
    obtain ⟨sb, rfl, hb⟩ := hu
    cases op <;> simp only [Rd.run, Eff.v, Eff.vc] at hok ⊢ <;> first | exact fail_elim hok | skip
    · have h1 : m.length ≤ 1073741824 := hok.1
      have h2 : n.length ≤ 1073741824 := hok.2.1
      have l1 : sa.size = m.length := by rw [← ha]; rfl
      have l2 : sb.size = n.length := by rw [← hb]; rfl
      have hno : ¬ (((sa.size + sb.size : Nat) : Int) > IntKind.i64.max) := by simp [IntKind.max, IntKind.signed, IntKind.bits]; omega
      refine Gives.val h d hd (x := .string (sa ++ sb)) ?_ ?_
      · simp only [Sem.run_bind, eqGuard_str, Result.andThen_ok, binOp, Op.stringOp]
        rw [if_neg hno]; rfl
      · simp only [Rel, std]; exact ⟨_, rfl, by simp [ha, hb]⟩
    · refine Gives.val h d hd (x := .bool (sa.toList == sb.toList)) (by simp [eqGuard_str, binOp, Op.stringOp]) ?_
      simp only [Rel, std, str_eq, ha, hb]
    · refine Gives.val h d hd (x := .bool (!(sa.toList == sb.toList))) (by simp [eqGuard_str, binOp, Op.stringOp]) ?_
      simp only [Rel, std, str_eq, ha, hb]

end Go.Desk
