/- The plain law behind FnDelays: blocks, a delay without feedback, and when silence comes. -/
import Derived.Test.YtmfbddhgfckfaaaPg
namespace Go.Desk
open Go Go.IntWalk
set_option linter.all false
set_option maxRecDepth 100000

/- zeros and finite numbers in lists -/
def zB (v : Nat) : Bool := !(std.fcmp .neq .f32 v 0)
def fB (v : Nat) : Bool := std.fcmp .eql .f32 (std.fop .sub .f32 v v) 0
def found (b : Bool) : Sum Unit Unit := if b = true then .inr () else .inl ()

theorem areZeros_l : ∀ (xs pre : List Nat) (k : Nat), xs.length < k → pre.length + xs.length ≤ 1000 → F_impl_areZeros_l0 std (pre ++ xs) k (pre.length : Int) = some (found (xs.all zB))
  | _, _, 0, h, _ => absurd h (Nat.not_lt_zero _)
  | [], pre, k + 1, h, h1 => by
    rw [F_impl_areZeros_l0.eq_2]
    have : std.ilt (pre.length : Int) (std.ofN (std.llen (pre ++ []))) = false := by simp [std]
    rw [this]; rfl
  | x :: xs, pre, k + 1, h, h1 => by
    rw [F_impl_areZeros_l0.eq_2]
    simp only [List.length_cons] at h h1
    have e1 : std.ilt (pre.length : Int) (std.ofN (std.llen (pre ++ x :: xs))) = true := by
      simp only [sio, decide_eq_true_eq, List.length_append, List.length_cons]; omega
    rw [e1]
    simp only [cond_true]
    have e2 : std.lget (pre ++ x :: xs) (std.toN (pre.length : Int)) 0 = x := by simp only [sio, Int.toNat_natCast]; exact getD_mid _ _ _ _
    rw [gdt (by simp only [sio, List.length_append, List.length_cons]; omega), e2, gdt (pin_i64 (by simp only [sio]; omega) (by simp only [sio]; omega))]
    have := areZeros_l xs (pre ++ [x]) k (by omega) (by simp; omega)
    simp only [List.append_assoc, List.singleton_append, List.length_append, List.length_singleton] at this
    rw [show (std.iadd (pre.length : Int) 1) = ((pre.length + 1 : Nat) : Int) by simp only [sio]; omega, this]
    simp only [List.all_cons, zB]
    cases std.fcmp .neq .f32 x 0 <;> rfl
theorem specZeros_l : ∀ (xs pre : List Nat) (k : Nat), xs.length < k → pre.length + xs.length ≤ 1000 → F_spec_l03Zeros_l0 std (pre ++ xs) k (pre.length : Int) = some (found (xs.all zB))
  | _, _, 0, h, _ => absurd h (Nat.not_lt_zero _)
  | [], pre, k + 1, h, h1 => by
    rw [F_spec_l03Zeros_l0.eq_2]
    have : std.ilt (pre.length : Int) (std.ofN (std.llen (pre ++ []))) = false := by simp [std]
    rw [this]; rfl
  | x :: xs, pre, k + 1, h, h1 => by
    rw [F_spec_l03Zeros_l0.eq_2]
    simp only [List.length_cons] at h h1
    have e1 : std.ilt (pre.length : Int) (std.ofN (std.llen (pre ++ x :: xs))) = true := by
      simp only [sio, decide_eq_true_eq, List.length_append, List.length_cons]; omega
    rw [e1]
    simp only [cond_true]
    have e2 : std.lget (pre ++ x :: xs) (std.toN (pre.length : Int)) 0 = x := by simp only [sio, Int.toNat_natCast]; exact getD_mid _ _ _ _
    rw [gdt (by simp only [sio, List.length_append, List.length_cons]; omega), e2, gdt (pin_i64 (by simp only [sio]; omega) (by simp only [sio]; omega))]
    have := specZeros_l xs (pre ++ [x]) k (by omega) (by simp; omega)
    simp only [List.append_assoc, List.singleton_append, List.length_append, List.length_singleton] at this
    rw [show (std.iadd (pre.length : Int) 1) = ((pre.length + 1 : Nat) : Int) by simp only [sio]; omega, this]
    simp only [List.all_cons, zB]
    cases std.fcmp .neq .f32 x 0 <;> rfl
theorem rest_l : ∀ (xs pre : List Nat) (k : Nat), xs.length < k → pre.length + xs.length ≤ 1000 → F_laws_FnDelays_l1 std (pre ++ xs) k (pre.length : Int) = some (found (xs.all zB))
  | _, _, 0, h, _ => absurd h (Nat.not_lt_zero _)
  | [], pre, k + 1, h, h1 => by
    rw [F_laws_FnDelays_l1.eq_2]
    have : std.ilt (pre.length : Int) (std.ofN (std.llen (pre ++ []))) = false := by simp [std]
    rw [this]; rfl
  | x :: xs, pre, k + 1, h, h1 => by
    rw [F_laws_FnDelays_l1.eq_2]
    simp only [List.length_cons] at h h1
    have e1 : std.ilt (pre.length : Int) (std.ofN (std.llen (pre ++ x :: xs))) = true := by
      simp only [sio, decide_eq_true_eq, List.length_append, List.length_cons]; omega
    rw [e1]
    simp only [cond_true]
    have e2 : std.lget (pre ++ x :: xs) (std.nadd 0 (std.toN (pre.length : Int))) 0 = x := by simp only [sio, Int.toNat_natCast, Nat.zero_add]; exact getD_mid _ _ _ _
    rw [gdt (by simp only [sio, List.length_append, List.length_cons]; omega), gdt (by simp only [sio, Int.toNat_natCast, List.length_append, List.length_cons]; omega), e2, gdt (pin_i64 (by simp only [sio]; omega) (by simp only [sio]; omega))]
    have := rest_l xs (pre ++ [x]) k (by omega) (by simp; omega)
    simp only [List.append_assoc, List.singleton_append, List.length_append, List.length_singleton] at this
    rw [show (std.iadd (pre.length : Int) 1) = ((pre.length + 1 : Nat) : Int) by simp only [sio]; omega, this]
    simp only [List.all_cons, zB]
    cases std.fcmp .neq .f32 x 0 <;> rfl
theorem loud_l : ∀ (xs pre : List Nat) (b : Bool) (k : Nat), xs.length < k → pre.length + xs.length ≤ 1000 → F_laws_FnDelays_l2 std (pre ++ xs) k b (pre.length : Int) = some (b || !(xs.all zB))
  | _, _, _, 0, h, _ => absurd h (Nat.not_lt_zero _)
  | [], pre, b, k + 1, h, h1 => by
    rw [F_laws_FnDelays_l2.eq_2]
    have : std.ilt (pre.length : Int) (std.ofN (std.llen (pre ++ []))) = false := by simp [std]
    rw [this]; simp
  | x :: xs, pre, b, k + 1, h, h1 => by
    rw [F_laws_FnDelays_l2.eq_2]
    simp only [List.length_cons] at h h1
    have e1 : std.ilt (pre.length : Int) (std.ofN (std.llen (pre ++ x :: xs))) = true := by
      simp only [sio, decide_eq_true_eq, List.length_append, List.length_cons]; omega
    rw [e1]
    simp only [cond_true]
    have e2 : std.lget (pre ++ x :: xs) (std.nadd 0 (std.toN (pre.length : Int))) 0 = x := by simp only [sio, Int.toNat_natCast, Nat.zero_add]; exact getD_mid _ _ _ _
    have p1 : std.pIn .i64 (std.iadd (pre.length : Int) 1) := pin_i64 (by simp only [sio]; omega) (by simp only [sio]; omega)
    have p2 : std.pIdx (pre.length : Int) (std.llen (pre ++ x :: xs)) := by simp only [sio, List.length_append, List.length_cons]; omega
    have p3 : std.pNlt (std.nadd 0 (std.toN (pre.length : Int))) (std.llen (pre ++ x :: xs)) := by simp only [sio, Int.toNat_natCast, List.length_append, List.length_cons]; omega
    have ih := fun b => loud_l xs (pre ++ [x]) b k (by omega) (by simp; omega)
    simp only [List.append_assoc, List.singleton_append, List.length_append, List.length_singleton] at ih
    rw [gdt p1, gdt p2, gdt p3, gdt p1, e2, show (std.iadd (pre.length : Int) 1) = ((pre.length + 1 : Nat) : Int) by simp only [sio]; omega, ih, ih]
    simp only [List.all_cons, zB]
    cases b <;> cases std.fcmp .neq .f32 x 0 <;> simp
theorem areFinite_l : ∀ (xs pre : List Nat) (k : Nat), xs.length < k → pre.length + xs.length ≤ 1000 → F_impl_areFinite_l0 std (pre ++ xs) k (pre.length : Int) = some (found (xs.all fB))
  | _, _, 0, h, _ => absurd h (Nat.not_lt_zero _)
  | [], pre, k + 1, h, h1 => by
    rw [F_impl_areFinite_l0.eq_2]
    have : std.ilt (pre.length : Int) (std.ofN (std.llen (pre ++ []))) = false := by simp [std]
    rw [this]; rfl
  | x :: xs, pre, k + 1, h, h1 => by
    rw [F_impl_areFinite_l0.eq_2]
    simp only [List.length_cons] at h h1
    have e1 : std.ilt (pre.length : Int) (std.ofN (std.llen (pre ++ x :: xs))) = true := by
      simp only [sio, decide_eq_true_eq, List.length_append, List.length_cons]; omega
    rw [e1]
    simp only [cond_true]
    have e2 : std.lget (pre ++ x :: xs) (std.toN (pre.length : Int)) 0 = x := by simp only [sio, Int.toNat_natCast]; exact getD_mid _ _ _ _
    rw [gdt (by simp only [sio, List.length_append, List.length_cons]; omega), e2]
    unfold F_impl_IsFinite
    simp only [Option.bind_some]
    rw [gdt (pin_i64 (by simp only [sio]; omega) (by simp only [sio]; omega))]
    have := areFinite_l xs (pre ++ [x]) k (by omega) (by simp; omega)
    simp only [List.append_assoc, List.singleton_append, List.length_append, List.length_singleton] at this
    rw [show (std.iadd (pre.length : Int) 1) = ((pre.length + 1 : Nat) : Int) by simp only [sio]; omega, this]
    simp only [List.all_cons, fB]
    cases std.fcmp .eql .f32 (std.fop .sub .f32 x x) 0 <;> rfl
theorem specFinite_l : ∀ (xs pre : List Nat) (k : Nat), xs.length < k → pre.length + xs.length ≤ 1000 → F_spec_SilentFrom_l0 std (pre ++ xs) k (pre.length : Int) = some (found (xs.all fB))
  | _, _, 0, h, _ => absurd h (Nat.not_lt_zero _)
  | [], pre, k + 1, h, h1 => by
    rw [F_spec_SilentFrom_l0.eq_2]
    have : std.ilt (pre.length : Int) (std.ofN (std.llen (pre ++ []))) = false := by simp [std]
    rw [this]; rfl
  | x :: xs, pre, k + 1, h, h1 => by
    rw [F_spec_SilentFrom_l0.eq_2]
    simp only [List.length_cons] at h h1
    have e1 : std.ilt (pre.length : Int) (std.ofN (std.llen (pre ++ x :: xs))) = true := by
      simp only [sio, decide_eq_true_eq, List.length_append, List.length_cons]; omega
    rw [e1]
    simp only [cond_true]
    have e2 : std.lget (pre ++ x :: xs) (std.toN (pre.length : Int)) 0 = x := by simp only [sio, Int.toNat_natCast]; exact getD_mid _ _ _ _
    rw [gdt (by simp only [sio, List.length_append, List.length_cons]; omega), e2]
    unfold F_spec_l01Finite
    simp only [Option.bind_some]
    rw [gdt (pin_i64 (by simp only [sio]; omega) (by simp only [sio]; omega))]
    have := specFinite_l xs (pre ++ [x]) k (by omega) (by simp; omega)
    simp only [List.append_assoc, List.singleton_append, List.length_append, List.length_singleton] at this
    rw [show (std.iadd (pre.length : Int) 1) = ((pre.length + 1 : Nat) : Int) by simp only [sio]; omega, this]
    simp only [List.all_cons, fB]
    cases std.fcmp .eql .f32 (std.fop .sub .f32 x x) 0 <;> rfl
theorem areZeros_eq (l : List Nat) (h : l.length ≤ 1000) : F_impl_areZeros std l = some (l.all zB) := by
  unfold F_impl_areZeros
  have := areZeros_l l [] KK (by unfold KK; omega) (by simp; omega)
  simp only [List.nil_append] at this
  rw [show ((([] : List Nat).length : Nat) : Int) = 0 from rfl] at this
  rw [this]
  cases l.all zB <;> rfl
theorem specZeros_eq (l : List Nat) (h : l.length ≤ 1000) : F_spec_l03Zeros std l = some (l.all zB) := by
  unfold F_spec_l03Zeros
  have := specZeros_l l [] KK (by unfold KK; omega) (by simp; omega)
  simp only [List.nil_append] at this
  rw [show ((([] : List Nat).length : Nat) : Int) = 0 from rfl] at this
  rw [this]
  cases l.all zB <;> rfl
theorem areFinite_eq (l : List Nat) (h : l.length ≤ 1000) : F_impl_areFinite std l = some (l.all fB) := by
  unfold F_impl_areFinite
  have := areFinite_l l [] KK (by unfold KK; omega) (by simp; omega)
  simp only [List.nil_append] at this
  rw [show ((([] : List Nat).length : Nat) : Int) = 0 from rfl] at this
  rw [this]
  cases l.all fB <;> rfl

/- the reference's delay -/
theorem sset_mid (x y : Nat) (R : List Nat) : ∀ A : List Nat, (A ++ x :: R).set A.length y = A ++ y :: R
  | [] => rfl
  | a :: A => by simp [sset_mid x y R A]
theorem stake_l : ∀ (R B : List Nat) (y k : Nat), R.length < k → B.length + R.length ≤ 1000 → ∃ q, F_spec_l03Take_l0 std k (B ++ y :: R) ((B.length + 1 : Nat) : Int) = some (B ++ R ++ [q])
  | _, _, _, 0, h, _ => absurd h (Nat.not_lt_zero _)
  | [], B, y, k + 1, h, h1 => by
    refine ⟨y, ?_⟩
    rw [F_spec_l03Take_l0.eq_2]
    have : std.ilt ((B.length + 1 : Nat) : Int) (std.ofN (std.llen (B ++ [y]))) = false := by simp [std]
    rw [this]; simp
  | z :: R, B, y, k + 1, h, h1 => by
    simp only [List.length_cons] at h h1
    obtain ⟨q, hq⟩ := stake_l R (B ++ [z]) z k (by omega) (by simp; omega)
    refine ⟨q, ?_⟩
    rw [F_spec_l03Take_l0.eq_2]
    have hl : (B ++ y :: z :: R).length = B.length + (R.length + 2) := by simp
    have e1 : std.ilt ((B.length + 1 : Nat) : Int) (std.ofN (std.llen (B ++ y :: z :: R))) = true := by simp only [sio, decide_eq_true_eq]; omega
    rw [e1]
    simp only [cond_true]
    have ei : std.isub ((B.length + 1 : Nat) : Int) 1 = (B.length : Int) := by simp only [sio]; omega
    have e2 : std.lget (B ++ y :: z :: R) (std.nadd 0 (std.toN ((B.length + 1 : Nat) : Int))) 0 = z := by
      simp only [sio, Int.toNat_natCast, Nat.zero_add]
      have : B ++ y :: z :: R = (B ++ [y]) ++ z :: R := by simp
      rw [this, show B.length + 1 = (B ++ [y]).length by simp]
      exact getD_mid _ _ _ _
    rw [ei, gdt (pin_i64 (by omega) (by omega)), gdt (by simp only [sio]; omega), gdt (by simp only [sio, Int.toNat_natCast]; omega), gdt (by simp only [sio]; omega), gdt (by simp only [sio, Int.toNat_natCast]; omega), gdt (pin_i64 (by simp only [sio]; omega) (by simp only [sio]; omega)), e2]
    have e3 : std.lset (B ++ y :: z :: R) (std.nadd 0 (std.toN (B.length : Int))) z = (B ++ [z]) ++ z :: R := by
      simp only [sio, Int.toNat_natCast, Nat.zero_add]; rw [sset_mid]; simp
    rw [e3, show std.iadd ((B.length + 1 : Nat) : Int) 1 = (((B ++ [z]).length + 1 : Nat) : Int) by simp only [sio, List.length_append, List.length_singleton]; omega, hq]
    simp
theorem stake_eq (l : List Nat) (x : Nat) (h1 : 1 ≤ l.length) (h2 : l.length ≤ 1000) : F_spec_l03Take std l x = some (takeN l x) := by
  obtain ⟨y, R, rfl⟩ : ∃ y R, l = y :: R := by
    cases l with
    | nil => simp at h1
    | cons y R => exact ⟨y, R, rfl⟩
  simp only [List.length_cons] at h2
  unfold F_spec_l03Take
  obtain ⟨q, hq⟩ := stake_l R [] y KK (by unfold KK; omega) (by simp; omega)
  simp only [List.nil_append, List.length_nil] at hq
  rw [show (((0 : Nat) + 1 : Nat) : Int) = 1 from rfl] at hq
  rw [hq]
  simp only [Option.bind_some]
  have hl : (R ++ [q]).length = R.length + 1 := by simp
  have ei : std.isub (std.ofN (std.llen (R ++ [q]))) 1 = (R.length : Int) := by simp only [sio]; omega
  have e3 : std.lset (R ++ [q]) (std.nadd 0 (std.toN (R.length : Int))) x = R ++ [x] := by
    simp only [sio, Int.toNat_natCast, Nat.zero_add]; exact sset_mid q x [] R
  rw [ei, gdt (pin_i64 (by omega) (by omega)), gdt (by simp only [sio]; omega), gdt (by simp only [sio, Int.toNat_natCast]; omega), e3, gdt (by simp [sio])]
  rfl
theorem sdelay_eq (d : GDelay) (l : List Nat) (h1 : 1 ≤ l.length) (h2 : l.length ≤ 1000) : F_spec_l03Delay std d l 0 = some ((dstep d l 0).1, d, (dstep d l 0).2) := by
  unfold F_spec_l03Delay
  have e0 : std.lget l (std.nadd 0 (std.toN 0)) 0 = l.getD 0 0 := by simp only [sio]; rfl
  rw [gdt (by simp only [sio]; omega), gdt (by simp only [sio, Int.toNat_zero]; omega), e0]
  cases hf : d.Flush with
  | true =>
    simp only [cond_true]
    rw [specFlush_eq _ (fop_lt _ _ _)]
    simp only [Option.bind_some]
    rw [stake_eq _ _ h1 h2]
    simp only [Option.bind_some]
    rw [gdt (by simp only [sio]; exact takeN_len h1), gdt (by simp only [sio]; exact takeN_len h1)]
    unfold dstep
    rw [hf, fluN_flush _ (fop_lt _ _ _)]
  | false =>
    simp only [cond_false]
    rw [stake_eq _ _ h1 h2]
    simp only [Option.bind_some]
    rw [gdt (by simp only [sio]; exact takeN_len h1), gdt (by simp only [sio]; exact takeN_len h1)]
    unfold dstep
    rw [hf, fluN_not]

/- silence -/
noncomputable def silN (d : GDelay) : Nat → List Nat → Nat → Option Nat
  | 0, _, _ => none
  | j + 1, l, i => if l.all zB = true then some i else silN d j (dstep d l 0).2 (i + 1)
def silR (o : Option Nat) : Sum Int Unit := match o with | some n => .inl (n : Int) | none => .inr ()
theorem isil_l (d : GDelay) : ∀ (j k : Nat) (l : List Nat) (i : Nat), i + j = 257 → j < k → 1 ≤ l.length → l.length ≤ 1000 → F_impl_SilentFrom_l0 std d k l (i : Int) = some (silR (silN d j l i))
  | _, 0, _, _, _, h, _, _ => absurd h (Nat.not_lt_zero _)
  | 0, k + 1, l, i, hi, h, h1, h2 => by
    rw [F_impl_SilentFrom_l0.eq_2]
    have : std.ile (i : Int) 256 = false := by simp only [sio, decide_eq_false_iff_not]; omega
    rw [this]; rfl
  | j + 1, k + 1, l, i, hi, h, h1, h2 => by
    rw [F_impl_SilentFrom_l0.eq_2]
    have : std.ile (i : Int) 256 = true := by simp only [sio, decide_eq_true_eq]; omega
    rw [this, areZeros_eq _ h2]
    simp only [cond_true, Option.bind_some, silN]
    cases l.all zB with
    | true => rfl
    | false =>
      simp only [cond_false, Bool.false_eq_true, if_false]
      rw [dstep_eq _ _ _ h1 h2]
      simp only [Option.bind_some]
      rw [gdt (pin_i64 (by simp only [sio]; omega) (by simp only [sio]; omega)), show std.iadd (i : Int) 1 = ((i + 1 : Nat) : Int) by simp only [sio]; omega]
      exact isil_l d j k (dstep d l 0).2 (i + 1) (by omega) (by omega) (by rw [dstep_len h1]; exact h1) (by rw [dstep_len h1]; exact h2)
theorem ssil_l (d : GDelay) : ∀ (j k : Nat) (l : List Nat) (i : Nat), i + j = 257 → j < k → 1 ≤ l.length → l.length ≤ 1000 → F_spec_SilentFrom_l1 std k l (i : Int) d.Length d.Feedback d.Dry d.Wet d.Flush = some (silR (silN d j l i))
  | _, 0, _, _, _, h, _, _ => absurd h (Nat.not_lt_zero _)
  | 0, k + 1, l, i, hi, h, h1, h2 => by
    rw [F_spec_SilentFrom_l1.eq_2]
    have : std.ile (i : Int) 256 = false := by simp only [sio, decide_eq_false_iff_not]; omega
    rw [this]; rfl
  | j + 1, k + 1, l, i, hi, h, h1, h2 => by
    rw [F_spec_SilentFrom_l1.eq_2]
    have : std.ile (i : Int) 256 = true := by simp only [sio, decide_eq_true_eq]; omega
    rw [this, specZeros_eq _ h2]
    simp only [cond_true, Option.bind_some, silN]
    cases l.all zB with
    | true => rfl
    | false =>
      simp only [cond_false, Bool.false_eq_true, if_false]
      rw [show (GDelay.mk d.Length d.Feedback d.Dry d.Wet d.Flush) = d from rfl, sdelay_eq _ _ h1 h2]
      simp only [Option.bind_some]
      rw [gdt (by simp only [sio]; exact dstep_len h1), gdt (pin_i64 (by simp only [sio]; omega) (by simp only [sio]; omega)), show std.iadd (i : Int) 1 = ((i + 1 : Nat) : Int) by simp only [sio]; omega]
      exact ssil_l d j k (dstep d l 0).2 (i + 1) (by omega) (by omega) (by rw [dstep_len h1]; exact h1) (by rw [dstep_len h1]; exact h2)

noncomputable def after (d : GDelay) (l : List Nat) (n : Nat) : List Nat := (runS (dstep d) l (List.replicate n 0)).2
theorem sil_spec (d : GDelay) : ∀ (j : Nat) (l : List Nat) (i n : Nat), silN d j l i = some n → ∃ m, n = i + m ∧ m < j ∧ (after d l m).all zB = true ∧ ∀ q, q < m → (after d l q).all zB = false
  | 0, l, i, n, h => by cases h
  | j + 1, l, i, n, h => by
    simp only [silN] at h
    by_cases hz : l.all zB = true
    · rw [if_pos hz] at h
      cases h
      exact ⟨0, by omega, by omega, hz, fun q hq => absurd hq (Nat.not_lt_zero _)⟩
    · rw [if_neg hz] at h
      obtain ⟨m, e1, e2, e3, e4⟩ := sil_spec d j _ _ _ h
      refine ⟨m + 1, by omega, by omega, e3, ?_⟩
      intro q hq
      cases q with
      | zero => show l.all zB = false; simpa using hz
      | succ q => exact e4 q (by omega)
theorem silent_same (d : GDelay) (l : List Nat) (h1 : 1 ≤ d.Length) (h2 : d.Length ≤ 64) (hl : (l.length : Int) = d.Length) :
    ∃ at_ ok, F_impl_SilentFrom std d l = some (at_, ok) ∧ F_spec_SilentFrom std d l = some (at_, ok) ∧ (ok = true → ∃ n : Nat, at_ = (n : Int) ∧ n ≤ 256 ∧ (after d l n).all zB = true ∧ ∀ q, q < n → (after d l q).all zB = false) := by
  unfold F_impl_SilentFrom F_spec_SilentFrom F_impl_ValidDelay F_spec_l03Length F_spec_l00In
  have a1 : std.ile 1 d.Length = true := by simp only [sio, decide_eq_true_eq]; exact h1
  have a2 : std.ile d.Length 64 = true := by simp only [sio, decide_eq_true_eq]; exact h2
  have a3 : std.ieq (std.ofN (std.llen l)) d.Length = true := by simp only [sio, beq_iff_eq]; exact hl
  rw [isLength_eq _ h1 h2]
  simp only [Option.bind_some, Bool.not_true, cond_false, F_impl_size, a1, a2, a3, cond_true, F_impl_IsFinite, F_spec_l01Finite]
  cases hf : std.fcmp .eql .f32 (std.fop .sub .f32 d.Feedback d.Feedback) 0 with
  | false => exact ⟨0, false, rfl, rfl, fun h => by cases h⟩
  | true =>
    simp only [Bool.not_true, cond_false]
    have b1 := specFinite_l l [] KK (by unfold KK; omega) (by simp; omega)
    simp only [List.nil_append] at b1
    rw [show ((([] : List Nat).length : Nat) : Int) = 0 from rfl] at b1
    rw [areFinite_eq _ (by omega), b1]
    simp only [Option.bind_some]
    cases hfin : l.all fB with
    | false => exact ⟨0, false, rfl, rfl, fun h => by cases h⟩
    | true =>
      simp only [Bool.not_true, cond_false, found, if_true]
      have hown : F_spec_l03Own std l = some l := by
        unfold F_spec_l03Own
        rw [gdt (by simp only [sio]; omega)]; simp [sio]
      rw [copyN_eq _ (by omega), hown]
      simp only [Option.bind_some]
      have c1 := isil_l d 257 KK l 0 (by omega) (by unfold KK; omega) (by omega) (by omega)
      have c2 := ssil_l d 257 KK l 0 (by omega) (by unfold KK; omega) (by omega) (by omega)
      rw [show ((0 : Nat) : Int) = 0 from rfl] at c1 c2
      rw [c1, c2]
      simp only [Option.bind_some]
      cases hs : silN d 257 l 0 with
      | none => exact ⟨0, false, rfl, rfl, fun h => by cases h⟩
      | some n =>
        obtain ⟨m, e1, e2, e3, e4⟩ := sil_spec d 257 l 0 n hs
        refine ⟨(n : Int), true, rfl, rfl, fun _ => ⟨n, rfl, by omega, ?_, ?_⟩⟩
        · rw [e1, Nat.zero_add]; exact e3
        · intro q hq; exact e4 q (by omega)

/- whole numbers -/
def wchk (i : Nat) : Bool :=
  decide (std.fofI .f32 ((i : Int) - 1000) < 4294967296) && (match Ieee.single.read (std.fofI .f32 ((i : Int) - 1000)) with | .number .. => true | _ => false) && !(std.fofI .f32 ((i : Int) - 1000) == 2147483648)
theorem wchk_all : ∀ i, i < 2001 → wchk i = true := by decide +kernel
structure Wh (x : Nat) : Prop where
  lt : x < 4294967296
  num : ∃ s m e, Ieee.single.read x = .number s m e
  pos : x ≠ 2147483648
theorem Wh.notN {x : Nat} (h : Wh x) : isN .f32 x = false := by
  obtain ⟨s, m, e, hr⟩ := h.num
  show (Ieee.single.read x).isNaN = false
  rw [hr]; rfl
theorem wh_zero : Wh 0 := ⟨by decide, ⟨false, 0, -149, by decide⟩, by decide⟩
theorem wh_of {n : Int} (h1 : -1000 ≤ n) (h2 : n ≤ 1000) : Wh (std.fofI .f32 n) := by
  have := wchk_all (n + 1000).toNat (by omega)
  unfold wchk at this
  have e : (((n + 1000).toNat : Nat) : Int) - 1000 = n := by omega
  rw [e] at this
  simp only [Bool.and_eq_true, decide_eq_true_eq] at this
  obtain ⟨⟨a, b⟩, c⟩ := this
  refine ⟨a, ?_, by simpa using c⟩
  rcases hr : Ieee.single.read (std.fofI .f32 n) with ⟨s, m, e⟩ | ⟨s⟩ | ⟨s, m⟩
  · exact ⟨s, m, e, rfl⟩
  · rw [hr] at b; cases b
  · rw [hr] at b; cases b
theorem wh_add_zero {x z : Nat} (h : Wh x) (hz : z = 0 ∨ z = 2147483648) : std.fop .add .f32 x z = x := by
  rw [add_comm32]
  rcases zero_add hz h.lt h.notN with e | ⟨e1, _⟩
  · exact e
  · rcases e1 with e1 | e1
    · subst e1
      rcases hz with rfl | rfl <;> decide
    · exact absurd e1 h.pos
theorem nearest_rung (f : Ieee.Format) (neg : Bool) (m : Nat) (p : Int) : ∃ r, r ≤ f.infRung ∧ f.nearest neg m p = f.word neg r := by
  unfold Ieee.Format.nearest
  by_cases h : m = 0
  · simp only [h, if_true]; exact ⟨0, Nat.zero_le _, rfl⟩
  · simp only [h, if_false]; exact ⟨_, Nat.min_le_right _ _, rfl⟩
theorem word_num {neg : Bool} {r : Nat} (h : r ≤ Ieee.single.infRung) : isN .f32 (Ieee.single.word neg r) = false := by
  rcases Nat.lt_or_ge r Ieee.single.infRung with g | g
  · exact (read_word g).2
  · have : r = Ieee.single.infRung := by omega
    subst this
    cases neg <;> decide
theorem add_num {x y : Nat} (hx : ∃ s m e, Ieee.single.read x = .number s m e) (hy : ∃ s m e, Ieee.single.read y = .number s m e) : isN .f32 (std.fop .add .f32 x y) = false := by
  obtain ⟨s, m, e, hr⟩ := hx
  obtain ⟨t, n, j, hq⟩ := hy
  have : ∃ r, fa .add .f32 x y = some r ∧ isN .f32 r = false := by
    show ∃ r, (((Ieee.single.read x).sum (Ieee.single.read y)).map Ieee.single.write) = some r ∧ _
    rw [hr, hq]
    simp only [Ieee.Datum.sum, Option.map_some]
    obtain ⟨r, h1, h2⟩ := nearest_rung Ieee.single (if Ieee.signed s m (e - min e j).toNat + Ieee.signed t n (j - min e j).toNat = 0 then s && t else decide (Ieee.signed s m (e - min e j).toNat + Ieee.signed t n (j - min e j).toNat < 0)) (Ieee.signed s m (e - min e j).toNat + Ieee.signed t n (j - min e j).toNat).natAbs (min e j)
    refine ⟨_, rfl, ?_⟩
    show isN .f32 (Ieee.single.nearest _ _ _) = false
    rw [h2]
    exact word_num h1
  obtain ⟨r, h1, h2⟩ := this
  rw [fop_of h1 h2]; exact h2

theorem plain_runs (L : Int) : ∀ (xs line : List Nat), (∀ x ∈ xs, Wh x) → (∀ b ∈ line, Wh b) → 1 ≤ line.length →
    (runS (dstep ⟨L, 0, 1065353216, 1065353216, false⟩) line xs).1 = List.zipWith (fun x b => std.fop .add .f32 x b) xs (line ++ xs)
  | [], line, _, _, _ => rfl
  | x :: xs, [], _, _, h => by simp at h
  | x :: xs, b :: bs, hx, hb, h => by
    have wx := hx x (by simp)
    have wb := hb b (by simp)
    simp only [runS, List.cons_append, List.zipWith_cons_cons]
    have e1 : (dstep ⟨L, 0, 1065353216, 1065353216, false⟩ (b :: bs) x).1 = std.fop .add .f32 x b := by
      show std.fop .add .f32 (std.fop .mul .f32 1065353216 x) (std.fop .mul .f32 1065353216 b) = _
      rw [one_mul wx.lt wx.notN, one_mul wb.lt wb.notN]
    have e2 : (dstep ⟨L, 0, 1065353216, 1065353216, false⟩ (b :: bs) x).2 = bs ++ [x] := by
      show takeN (b :: bs) (fluN (std.fop .add .f32 x (std.fop .mul .f32 0 b)) false) = _
      rw [fluN_not, wh_add_zero wx (zero_mul wb.num)]
      rfl
    rw [e1, e2, plain_runs L xs (bs ++ [x]) (fun q hq => hx q (by simp [hq])) (fun q hq => by
      rcases List.mem_append.1 hq with g | g
      · exact hb q (by simp [g])
      · rw [List.mem_singleton.1 g]; exact wx) (by simp)]
    simp

theorem whole_draw : ∀ (j k : Nat) (m : Int) (out : List Nat) (s : Gl00Src) (n : Int), SrcOk s n → n + 2 * j ≤ 1000000000000 → m.toNat ≤ j → j < k → out.length + j ≤ 1000 → m ≤ 1000 → (∀ x ∈ out, Wh x) →
    Ok (F_spec_B10Whole_l0 std 1000 k m out s.code s.pos s.seed) fun r => r.length = out.length + m.toNat ∧ ∀ x ∈ r, Wh x
  | j, 0, m, out, s, n, h, hn, hj, hk, hl, hm, ho => absurd hk (Nat.not_lt_zero _)
  | j, k + 1, m, out, s, n, h, hn, hj, hk, hl, hm, ho => by
    rw [F_spec_B10Whole_l0.eq_2]
    refine ok_cond (fun hb => ?_) (fun hb => ?_)
    · have hm0 : 0 < m := by simpa [std] using hb
      obtain ⟨i, rfl⟩ : ∃ i, j = i + 1 := ⟨j - 1, by omega⟩
      refine ok_gd (pin_i64 (by decide) (by decide)) (ok_gd (pin_i64 (by decide) (by decide)) ?_)
      refine ok_bind (pick_ok (s := s) h (by omega) _) ?_
      rintro ⟨v, s1⟩ ⟨⟨v0, v1⟩, h1⟩
      have v0 : 0 ≤ v := v0
      have v1 : v < 2 * 1000 + 1 ∨ v = 0 := v1
      refine ok_gd (pin_i64 (by show _ ≤ v - 1000; omega) (by show v - 1000 ≤ _; omega)) ?_
      refine ok_gd (by show out.length + 1 ≤ 1073741824; omega) (ok_gd (pin_i64 (by show _ ≤ m - 1; omega) (by show m - 1 ≤ _; omega)) ?_)
      have := whole_draw i k (m - 1) (out ++ [std.fofI .f32 (v - 1000)]) s1 (n + 2) h1 (by omega) (by omega) (by omega) (by simp; omega) (by omega) (by
        intro q hq; rcases List.mem_append.1 hq with g | g
        · exact ho q g
        · rw [List.mem_singleton.1 g]; exact wh_of (by omega) (by omega))
      refine ok_mono this ?_
      rintro l ⟨e1, e2⟩
      refine ⟨?_, e2⟩
      rw [e1, List.length_append, List.length_singleton]; omega
    · have hm0 : ¬ 0 < m := by simpa [std] using hb
      exact ok_some ⟨by omega, ho⟩
theorem whole_ok {l : List Int} (h : ∀ x ∈ l, 0 ≤ x ∧ x ≤ 255) (n : Int) (hn : n ≤ 100) : Ok (F_spec_B10Whole std l n 1000) fun r => r.length = n.toNat ∧ ∀ x ∈ r, Wh x := by
  unfold F_spec_B10Whole F_spec_l00From
  simp only [Option.bind_some]
  refine ok_bind (whole_draw n.toNat KK n [] ⟨l, 0, 0⟩ 0 (src0 h) (by omega) (Nat.le_refl _) (by unfold KK; omega) (by simp; omega) (by omega) (by simp)) ?_
  rintro r ⟨e1, e2⟩
  exact ok_some ⟨by simpa using e1, e2⟩

theorem plain_l (d : GDelay) (L n : Nat) (hL : d.Length = (L : Int)) (w y : List Nat) (hw : w.length = n) (hW : ∀ x ∈ w, Wh x) (hn : n ≤ 1000) (hy : y = List.zipWith (fun x b => std.fop .add .f32 x b) w (List.replicate L 0 ++ w)) :
    ∀ (j k i : Nat), j < k → n = i + j → F_laws_FnDelays_l0 std d (n : Int) w y k (i : Int) = some (.inr ())
  | _, 0, _, h, _ => absurd h (Nat.not_lt_zero _)
  | 0, k + 1, i, h, h1 => by
    rw [F_laws_FnDelays_l0.eq_2]
    have : std.ilt (i : Int) (n : Int) = false := by simp only [sio, decide_eq_false_iff_not]; omega
    rw [this]; rfl
  | j + 1, k + 1, i, h, h1 => by
    have ih := plain_l d L n hL w y hw hW hn hy j k (i + 1) (by omega) (by omega)
    have hyl : y.length = n := by rw [hy]; simp; omega
    have hi : i < w.length := by omega
    have hiy : i < y.length := by omega
    have hc : i < (List.replicate L 0 ++ w).length := by simp; omega
    have qy : std.lget y (std.nadd 0 (std.toN (i : Int))) 0 = std.fop .add .f32 w[i] (List.replicate L 0 ++ w)[i] := by
      simp only [sio, Int.toNat_natCast, Nat.zero_add]
      subst hy
      rw [List.getD_eq_getElem?_getD, List.getElem?_eq_getElem hiy, Option.getD_some, List.getElem_zipWith]
    have qw : std.lget w (std.nadd 0 (std.toN (i : Int))) 0 = w[i] := by
      simp only [sio, Int.toNat_natCast, Nat.zero_add]; rw [List.getD_eq_getElem?_getD, List.getElem?_eq_getElem hi]; rfl
    have wi := hW w[i] (List.getElem_mem hi)
    rw [F_laws_FnDelays_l0.eq_2]
    have e1 : std.ilt (i : Int) (n : Int) = true := by simp only [sio, decide_eq_true_eq]; omega
    have p1 : std.pIdx (i : Int) (std.llen w) := by simp only [sio]; omega
    have p2 : std.pNlt (std.nadd 0 (std.toN (i : Int))) (std.llen w) := by simp only [sio, Int.toNat_natCast]; omega
    have p3 : std.pIdx (i : Int) (std.llen y) := by simp only [sio]; omega
    have p4 : std.pNlt (std.nadd 0 (std.toN (i : Int))) (std.llen y) := by simp only [sio, Int.toNat_natCast]; omega
    have p5 : std.pIn .i64 (std.iadd (i : Int) 1) := pin_i64 (by simp only [sio]; omega) (by simp only [sio]; omega)
    have ei : std.iadd (i : Int) 1 = ((i + 1 : Nat) : Int) := by simp only [sio]; omega
    rw [e1]
    simp only [cond_true]
    rw [gdt p1, gdt p2]
    by_cases hc2 : L ≤ i
    · have e2 : std.ile d.Length (i : Int) = true := by simp only [sio, decide_eq_true_eq]; omega
      have es : std.isub (i : Int) d.Length = ((i - L : Nat) : Int) := by simp only [sio]; omega
      have hil : i - L < w.length := by omega
      have qs : std.lget w (std.nadd 0 (std.toN ((i - L : Nat) : Int))) 0 = w[i - L] := by
        simp only [sio, Int.toNat_natCast, Nat.zero_add]; rw [List.getD_eq_getElem?_getD, List.getElem?_eq_getElem hil]; rfl
      have qr : (List.replicate L 0 ++ w)[i] = w[i - L] := by
        rw [List.getElem_append_right (by simp; omega)]
        simp
      rw [e2]
      simp only [cond_true]
      rw [es, gdt (pin_i64 (by omega) (by omega)), gdt (by simp only [sio]; omega), gdt (by simp only [sio, Int.toNat_natCast]; omega), gdt p3, gdt p4, qy, qw, qs, qr]
      have : std.fcmp .neq .f32 (std.fop .add .f32 w[i] w[i - L]) (std.fop .add .f32 w[i] w[i - L]) = false := neq_num (add_num wi.num (hW _ (List.getElem_mem hil)).num)
      rw [this]
      simp only [cond_false]
      rw [gdt p5, ei, ih]
    · have e2 : std.ile d.Length (i : Int) = false := by simp only [sio, decide_eq_false_iff_not]; omega
      have qr : (List.replicate L 0 ++ w)[i] = 0 := by
        rw [List.getElem_append_left (by simp; omega)]
        simp
      rw [e2]
      simp only [cond_false]
      rw [gdt p3, gdt p4, qy, qw, qr, wh_add_zero wi (.inl rfl), neq_num wi.notN]
      simp only [cond_false]
      rw [gdt p5, ei, ih]

theorem pure_FnDelays (l0 l1 : List Int) (w0 : ∀ x ∈ l0, (Lit.int .u8 x).wf = true) (w1 : ∀ x ∈ l1, (Lit.int .u8 x).wf = true) (n0 : l0.length ≤ maxLen) (n1 : l1.length ≤ maxLen) :
    F_laws_FnDelays std l0 l1 = some true := by
  have b0 := wf_u8 w0
  have b1 := wf_u8 w1
  unfold F_laws_FnDelays
  obtain ⟨b, hb⟩ := b10Long_some l0 l1
  rw [hb]
  cases b with
  | true => rfl
  | false =>
  simp only [Option.bind_some, cond_false]
  obtain ⟨d, hd, hd1, hd2⟩ : Ok (F_spec_B10Delay std l0) fun d => 1 ≤ d.Length ∧ d.Length ≤ 64 := by
    unfold F_spec_B10Delay F_spec_l00From
    simp only [Option.bind_some]
    refine ok_bind (drawDelay_ok (src0 b0) (by omega)) ?_
    rintro ⟨d, s⟩ ⟨h, _⟩
    exact ok_some h
  obtain ⟨m, hm, hm0, hm1⟩ := b10At_ok b1 0 20 (by omega) (by omega) (by omega)
  obtain ⟨N, rfl⟩ : ∃ N : Nat, m = (N : Int) := ⟨m.toNat, by omega⟩
  obtain ⟨xs, hx, hxl⟩ := numbers_ok b1 (N : Int) (by omega)
  have hxl : xs.length = N := by rw [hxl]; omega
  obtain ⟨line, hli, hll⟩ := numbers_ok b0 d.Length (by omega)
  have hll2 : (line.length : Int) = d.Length := by omega
  have eN2 : std.iadd (N : Int) 1 = ((N + 1 : Nat) : Int) := by simp only [sio]; omega
  rw [hd, hm]
  simp only [Option.bind_some]
  rw [hx, hli]
  simp only [Option.bind_some, eN2]
  rw [gdt (pin_i64 (by omega) (by omega))]
  obtain ⟨c, hc, hc0, hc1⟩ := b10At_ok b1 1 ((N + 1 : Nat) : Int) (by omega) (by omega) (by omega)
  obtain ⟨C, rfl⟩ : ∃ C : Nat, c = (C : Int) := ⟨c.toNat, by omega⟩
  have hCN : C ≤ N := by omega
  have cut1 : std.lsub xs (std.nadd 0 0) (std.nadd (std.nadd 0 0) (std.nsub (std.toN (C : Int)) 0)) = xs.take C := by simp [sio]
  have cut2 : std.lsub xs (std.nadd 0 (std.toN (C : Int))) (std.nadd (std.nadd 0 (std.toN (C : Int))) (std.nsub (std.llen xs) (std.toN (C : Int)))) = xs.drop C := by
    simp only [sio, Int.toNat_natCast, Nat.zero_add]
    rw [List.take_of_length_le (by rw [List.length_drop]; omega)]
  have g1 : std.pLe 0 (C : Int) := by simp only [sio]; omega
  have g2 : std.pNle (std.toN (C : Int)) (std.llen xs) := by simp only [sio, Int.toNat_natCast]; omega
  have hT : (xs.take C).length ≤ 256 := by rw [List.length_take]; omega
  have hD : (xs.drop C).length ≤ 256 := by rw [List.length_drop]; omega
  have hline1 : 1 ≤ line.length := by omega
  have keep : ∀ ys : List Nat, (runS (dstep d) line ys).2.length = line.length := fun ys =>
    runS_inv (dstep d) (fun l => l.length = line.length) (fun s x h => by rw [dstep_len (by omega)]; exact h) ys line rfl
  have keepP : ∀ (p : GPass) (ys : List Nat), (runS (pstep p) line ys).2.length = line.length := fun p ys =>
    runS_inv (pstep p) (fun l => l.length = line.length) (fun s x h => by rw [pstep_len (by omega)]; exact h) ys line rfl
  rw [hc]
  simp only [Option.bind_some, cut1, cut2, gdt g1, gdt g2]
  rw [runDelay_eq d line xs hd1 hd2 hll2 (by omega)]
  simp only [Option.bind_some]
  rw [runDelay_eq d line _ hd1 hd2 hll2 hT]
  simp only [Option.bind_some]
  rw [runDelay_eq d _ _ hd1 hd2 (by rw [keep]; exact hll2) hD]
  simp only [Option.bind_some, Bool.not_true, cond_false]
  have hv : F_impl_ValidDelay std d = some true := by unfold F_impl_ValidDelay; rw [isLength_eq _ hd1 hd2]; rfl
  rw [hv]
  simp only [Option.bind_some, Bool.not_true, cond_false]
  have app := runS_append (dstep d) (xs.take C) (xs.drop C) line
  rw [List.take_append_drop] at app
  have app1 : std.lapp (std.lapp [] (runS (dstep d) line (xs.take C)).1) (runS (dstep d) (runS (dstep d) line (xs.take C)).2 (xs.drop C)).1 = (runS (dstep d) line xs).1 := by
    rw [app]; simp [sio]
  have app2 : (runS (dstep d) (runS (dstep d) line (xs.take C)).2 (xs.drop C)).2 = (runS (dstep d) line xs).2 := by rw [app]
  rw [gdt (by simp only [sio]; rw [runS_len, List.length_take]; omega), gdt (by simp only [sio]; rw [runS_len, runS_len, List.length_take, List.length_drop]; omega), app1, b10same_eq _ (by rw [runS_len]; omega)]
  simp only [Option.bind_some, Bool.not_true, cond_false, app2]
  rw [b10same_eq _ (by rw [keep]; omega)]
  simp only [Option.bind_some, Bool.not_true, cond_false]
  have e1 : std.ieq (std.ofN (std.llen (runS (dstep d) line xs).1)) (N : Int) = true := by simp only [sio, beq_iff_eq]; rw [runS_len]; omega
  rw [e1]
  simp only [Bool.not_true, cond_false]
  -- the pass
  have hP1 : 1 ≤ (GPass.mk d.Length d.Wet).Length := hd1
  have hP2 : (GPass.mk d.Length d.Wet).Length ≤ 64 := hd2
  rw [runPass_eq (GPass.mk d.Length d.Wet) line xs hP1 hP2 hll2 (by omega)]
  simp only [Option.bind_some]
  rw [runPass_eq (GPass.mk d.Length d.Wet) line _ hP1 hP2 hll2 hT]
  simp only [Option.bind_some]
  rw [runPass_eq (GPass.mk d.Length d.Wet) _ _ hP1 hP2 (by rw [keepP]; exact hll2) hD]
  simp only [Option.bind_some, Bool.not_true, cond_false]
  have appP := runS_append (pstep (GPass.mk d.Length d.Wet)) (xs.take C) (xs.drop C) line
  rw [List.take_append_drop] at appP
  have app3 : std.lapp (std.lapp [] (runS (pstep (GPass.mk d.Length d.Wet)) line (xs.take C)).1) (runS (pstep (GPass.mk d.Length d.Wet)) (runS (pstep (GPass.mk d.Length d.Wet)) line (xs.take C)).2 (xs.drop C)).1 = (runS (pstep (GPass.mk d.Length d.Wet)) line xs).1 := by
    rw [appP]; simp [sio]
  have app4 : (runS (pstep (GPass.mk d.Length d.Wet)) (runS (pstep (GPass.mk d.Length d.Wet)) line (xs.take C)).2 (xs.drop C)).2 = (runS (pstep (GPass.mk d.Length d.Wet)) line xs).2 := by rw [appP]
  rw [gdt (by simp only [sio]; rw [runS_len, List.length_take]; omega), gdt (by simp only [sio]; rw [runS_len, runS_len, List.length_take, List.length_drop]; omega), app3, b10same_eq _ (by rw [runS_len]; omega)]
  simp only [Option.bind_some, Bool.not_true, cond_false, app4]
  rw [b10same_eq _ (by rw [keepP]; omega)]
  simp only [Option.bind_some, Bool.not_true, cond_false]
  -- without feedback
  obtain ⟨L, hL⟩ : ∃ L : Nat, d.Length = (L : Int) := ⟨d.Length.toNat, by omega⟩
  have hempty : F_impl_EmptyLine std d.Length = some (List.replicate L 0, true) := by
    unfold F_impl_EmptyLine F_impl_zeros
    rw [isLength_eq _ hd1 hd2]
    simp only [Option.bind_some, Bool.not_true, cond_false]
    rw [gdt (by simp only [sio]; omega), gdt (by simp only [sio]; omega), gdt (by simp only [sio]; omega), hL]
    rfl
  obtain ⟨w, hw, hwl, hWw⟩ := whole_ok b1 (N : Int) (by omega)
  have hwl : w.length = N := by rw [hwl]; omega
  rw [hempty, hw]
  simp only [Option.bind_some]
  rw [runDelay_eq ⟨d.Length, 0, 1065353216, 1065353216, false⟩ (List.replicate L 0) w hd1 hd2 (by simp only [List.length_replicate]; exact hL.symm) (by omega)]
  simp only [Option.bind_some, Bool.not_true, cond_false]
  have e3 : std.ieq (std.ofN (std.llen (runS (dstep ⟨d.Length, 0, 1065353216, 1065353216, false⟩) (List.replicate L 0) w).1)) (N : Int) = true := by simp only [sio, beq_iff_eq]; rw [runS_len]; omega
  rw [e3]
  simp only [Bool.not_true, cond_false]
  have pl := plain_l d L N hL w _ hwl hWw (by omega) (plain_runs d.Length w (List.replicate L 0) hWw (fun b hb => by rw [(List.mem_replicate.1 hb).2]; exact wh_zero) (by simp; omega)) N KK 0 (by unfold KK; omega) (by omega)
  rw [show ((0 : Nat) : Int) = 0 from rfl] at pl
  rw [pl]
  simp only [Option.bind_some]
  -- silence
  obtain ⟨a, ok, s1, s2, s3⟩ := silent_same d line hd1 hd2 hll2
  rw [s1, s2]
  simp only [Option.bind_some]
  have ebeq : std.beq ok ok = true := by cases ok <;> rfl
  rw [ebeq]
  simp only [Bool.not_true, cond_false]
  cases ok with
  | false => rfl
  | true =>
    obtain ⟨n, rfl, hn, z1, z2⟩ := s3 rfl
    simp only [Bool.not_true, cond_false]
    have hz : std.lrep (std.toN (n : Int)) 0 = List.replicate n 0 := by simp only [sio, Int.toNat_natCast]
    rw [gdt (by simp only [sio]; omega), gdt (by simp only [sio]; omega), gdt (by simp only [sio]; omega), hz]
    rw [runDelay_eq d line _ hd1 hd2 hll2 (by rw [List.length_replicate]; exact hn)]
    simp only [Option.bind_some, Bool.not_true, cond_false]
    have i1 : std.ilt (n : Int) 0 = false := by simp only [sio, decide_eq_false_iff_not]; omega
    have i2 : std.ilt 256 (n : Int) = false := by simp only [sio, decide_eq_false_iff_not]; omega
    rw [i1, i2]
    simp only [cond_false]
    have r1 := rest_l (after d line n) [] KK (by unfold after; rw [keep]; unfold KK; omega) (by unfold after; rw [keep]; simp; omega)
    simp only [List.nil_append] at r1
    rw [show ((([] : List Nat).length : Nat) : Int) = 0 from rfl, z1] at r1
    rw [show (runS (dstep d) line (List.replicate n 0)).2 = after d line n from rfl, r1]
    simp only [Option.bind_some, found, if_true]
    cases n with
    | zero => rfl
    | succ q =>
      have i3 : std.ieq ((q + 1 : Nat) : Int) 0 = false := by
        simp only [sio]
        rw [Bool.eq_false_iff]; simp only [ne_eq, beq_iff_eq]; omega
      rw [i3]
      simp only [cond_false]
      have hcut : std.lsub (List.replicate (q + 1) 0) (std.nadd 0 (std.toN 1)) (std.nadd (std.nadd 0 (std.toN 1)) (std.nsub (std.llen (List.replicate (q + 1) 0)) (std.toN 1))) = List.replicate q 0 := by
        simp only [sio]
        rw [List.take_of_length_le (by simp)]
        simp
      rw [gdt (by simp only [sio]; omega), gdt (by simp only [sio, List.length_replicate]; show (1 : Int).toNat ≤ q + 1; omega), hcut]
      rw [runDelay_eq d line _ hd1 hd2 hll2 (by rw [List.length_replicate]; omega)]
      simp only [Option.bind_some]
      have r2 := loud_l (after d line q) [] false KK (by unfold after; rw [keep]; unfold KK; omega) (by unfold after; rw [keep]; simp; omega)
      simp only [List.nil_append] at r2
      rw [show ((([] : List Nat).length : Nat) : Int) = 0 from rfl, z2 q (by omega)] at r2
      rw [show (runS (dstep d) line (List.replicate q 0)).2 = after d line q from rfl, r2]
      rfl

end Go.Desk
