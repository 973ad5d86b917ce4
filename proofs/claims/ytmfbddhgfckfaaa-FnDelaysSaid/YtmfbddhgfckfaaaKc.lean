/- Functions of the library without a body, in the words of the printed functions. -/
import Derived.Test.YtmfbddhgfckfaaaKb
namespace Go.Desk
open Go
set_option linter.all false
set_option linter.unusedVariables false

noncomputable def F_math_Float32bits (O : Ops) (x : Nat) : Option Int := gd (isN .f32 x = false) (some (x : Int))
noncomputable def F_math_Float64bits (O : Ops) (x : Nat) : Option Int := gd (isN .f64 x = false) (some (x : Int))
noncomputable def F_math_Float32frombits (O : Ops) (n : Int) : Option Nat := gd (n.toNat < 2 ^ 32) (some (canon .f32 n.toNat))
noncomputable def F_math_Float64frombits (O : Ops) (n : Int) : Option Nat := gd (n.toNat < 2 ^ 64) (some (canon .f64 n.toNat))
noncomputable def F_math_archFloor (O : Ops) (x : Nat) : Option Nat := gd (isN .f64 x = false ∧ isN .f64 (integralV .down x) = false ∧ integralV .down x < 2 ^ 64) (some (integralV .down x))
noncomputable def F_math_archTrunc (O : Ops) (x : Nat) : Option Nat := gd (isN .f64 x = false ∧ isN .f64 (integralV .zero x) = false ∧ integralV .zero x < 2 ^ 64) (some (integralV .zero x))
noncomputable def F_math_sqrt (O : Ops) (x : Nat) : Option Nat := gd (isN .f64 x = false ∧ FloatKind.f64.format.sqrt x = some (sqrtV x) ∧ isN .f64 (sqrtV x) = false ∧ sqrtV x < 2 ^ 64) (some (sqrtV x))

theorem gd_some {α : Type} {p : Prop} {x : α} {r : α} (h : gd p (some x) = some r) : p ∧ x = r := by
  unfold gd at h
  split at h
  · cases h; exact ⟨‹_›, rfl⟩
  · cases h

theorem c_math_Float32bits {O : Ops} (hO : O = std) {P : Program} (hP : P = Prg) {x : Nat} {r : Int} (h : F_math_Float32bits O x = some r) : Con P 81 [] [.flt .f32 x] (.int .u32 r) [] := by
  obtain ⟨h1, rfl⟩ := gd_some h
  subst hP
  exact con_f32bits Go.Proofs.Try.func81 (by kernel_rfl) (by kernel_rfl) (by kernel_rfl) (by kernel_rfl) h1
theorem c_math_Float64bits {O : Ops} (hO : O = std) {P : Program} (hP : P = Prg) {x : Nat} {r : Int} (h : F_math_Float64bits O x = some r) : Con P 144 [] [.flt .f64 x] (.int .u64 r) [] := by
  obtain ⟨h1, rfl⟩ := gd_some h
  subst hP
  exact con_f64bits Go.Proofs.Try.func144 (by kernel_rfl) (by kernel_rfl) (by kernel_rfl) (by kernel_rfl) h1
theorem c_math_Float32frombits {O : Ops} (hO : O = std) {P : Program} (hP : P = Prg) {x : Int} {r : Nat} (h : F_math_Float32frombits O x = some r) : Con P 147 [] [.int .u32 x] (.flt .f32 r) [] := by
  obtain ⟨h1, rfl⟩ := gd_some h
  subst hP
  exact con_f32from Go.Proofs.Try.func147 (by kernel_rfl) (by kernel_rfl) (by kernel_rfl) (by kernel_rfl) h1
theorem c_math_Float64frombits {O : Ops} (hO : O = std) {P : Program} (hP : P = Prg) {x : Int} {r : Nat} (h : F_math_Float64frombits O x = some r) : Con P 130 [] [.int .u64 x] (.flt .f64 r) [] := by
  obtain ⟨h1, rfl⟩ := gd_some h
  subst hP
  exact con_f64from Go.Proofs.Try.func130 (by kernel_rfl) (by kernel_rfl) (by kernel_rfl) (by kernel_rfl) h1
theorem c_math_archFloor {O : Ops} (hO : O = std) {P : Program} (hP : P = Prg) {x : Nat} {r : Nat} (h : F_math_archFloor O x = some r) : Con P 138 [] [.flt .f64 x] (.flt .f64 r) [] := by
  obtain ⟨⟨h1, h2, h3⟩, rfl⟩ := gd_some h
  subst hP
  exact con_integral (name := "math.archFloor") (way := .down) Go.Proofs.Try.func138 (by kernel_rfl) (by kernel_rfl) (by kernel_rfl) (by kernel_rfl) h1 h2 h3
theorem c_math_archTrunc {O : Ops} (hO : O = std) {P : Program} (hP : P = Prg) {x : Nat} {r : Nat} (h : F_math_archTrunc O x = some r) : Con P 153 [] [.flt .f64 x] (.flt .f64 r) [] := by
  obtain ⟨⟨h1, h2, h3⟩, rfl⟩ := gd_some h
  subst hP
  exact con_integral (name := "math.archTrunc") (way := .zero) Go.Proofs.Try.func153 (by kernel_rfl) (by kernel_rfl) (by kernel_rfl) (by kernel_rfl) h1 h2 h3
theorem c_math_sqrt {O : Ops} (hO : O = std) {P : Program} (hP : P = Prg) {x : Nat} {r : Nat} (h : F_math_sqrt O x = some r) : Con P 133 [] [.flt .f64 x] (.flt .f64 r) [] := by
  obtain ⟨⟨h1, h2, h3, h4⟩, rfl⟩ := gd_some h
  subst hP
  exact con_sqrt Go.Proofs.Try.func133 (by kernel_rfl) (by kernel_rfl) (by kernel_rfl) (by kernel_rfl) h1 h2 h3 h4

end Go.Desk
