/- What all contracts of this program's functions begin with. -/
import Derived.Test.YtmfbddhgfckfaaaVx
import Derived.Test.YtmfbddhgfckfaaaTy
namespace Go.Desk
open Go
set_option linter.all false

noncomputable abbrev Prg : Program := Go.Proofs.Try.prog
theorem follows : Prg.follows .mixedOrders = true := by kernel_rfl

theorem con_of {g : Nat} {fn : Func} (hf : Prg.funcs[g]? = some fn) (hname : (fn.name == "runtime.NumGoroutine") = false) {bor : List AObj} {args : List V} {res : V} {out : List AObj}
    (h : ∀ O, O = std → ∀ P, P = Prg → fwp ⟨O, tyT⟩ P fn bor args res out) : Con Prg g bor args res out :=
  con_of_fwp tyT_ok follows hf hname (h std rfl Prg rfl)

/-- a call to which nothing is lent, and that takes plain data -/
theorem call0 {E : Env} {P : Program} {g : Nat} {s : St} {d : Nat} {args : List V} {res : V} {out : List AObj} {K : List Nat → List AObj → List V → V → List AObj → Bool → List (Nat × AObj) → Prop}
    (h : Con P g [] args res out) (hk : callOk E s d [] [] args args res out false (K [] [] args res out false)) :
    ∃ (bids : List Nat) (bor : List AObj) (cargs : List V) (res : V) (out : List AObj) (fz : Bool), Con P g bor cargs res out ∧ callOk E s d bids bor args cargs res out fz (K bids bor cargs res out fz) :=
  ⟨[], [], args, res, out, false, h, hk⟩

theorem bnot_t {b : Bool} (h : (!b) = true) : b = false := by cases b <;> simp_all
theorem bnot_f {b : Bool} (h : (!b) = false) : b = true := by cases b <;> simp_all
theorem in64 {n : Int} (h1 : -9223372036854775808 ≤ n) (h2 : n ≤ 9223372036854775807) : IntKind.i64.min ≤ n ∧ n ≤ IntKind.i64.max := ⟨h1, h2⟩

end Go.Desk
