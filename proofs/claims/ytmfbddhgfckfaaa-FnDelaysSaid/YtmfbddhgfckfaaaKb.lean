/- What the printed functions and their contracts begin with. -/
import Derived.Test.YtmfbddhgfckfaaaK
namespace Go.Desk
open Go
set_option linter.all false
set_option linter.unusedVariables false

/-- a goal that no tactic looks into -/
structure Wp (p : Prop) : Prop where
  out : p
theorem con_of2 {O : Ops} (hO : O = std) {P : Program} (hP : P = Prg) {g : Nat} {fn : Func} (hf : Prg.funcs[g]? = some fn) (hname : (fn.name == "runtime.NumGoroutine") = false) {bor : List AObj} {args : List V} {res : V} {out : List AObj}
    (h : Wp (fwp ⟨O, tyT⟩ P fn bor args res out)) : Con P g bor args res out := by
  subst hO hP
  exact con_of_fwp tyT_ok follows hf hname h.out

/-- how many rounds a loop is given -/
def KK : Nat := 1099511627776
/-- on if -/
noncomputable def gd {α : Type} (p : Prop) (x : Option α) : Option α := open Classical in if p then x else none
theorem gd_pos {α : Type} {p : Prop} {x : Option α} (h : p) : gd p x = x := by unfold gd; rw [if_pos h]
section
variable {α β γ : Type} {R : α → Option β} {r : β}
theorem startb {x : Option β} (h : x = some r) : x.bind some = some r := by rw [h]; rfl
theorem endb {e : β} (h : (some e).bind some = some r) : e = r := by cases h; rfl
theorem gdb {p : Prop} {x : Option α} (h : (gd p x).bind R = some r) : p ∧ x.bind R = some r := by
  unfold gd at h
  split at h
  · exact ⟨‹_›, h⟩
  · cases h
theorem condt {b : Bool} {x y : Option α} (h : (cond b x y).bind R = some r) (hb : b = true) : x.bind R = some r := by subst hb; exact h
theorem condf {b : Bool} {x y : Option α} (h : (cond b x y).bind R = some r) (hb : b = false) : y.bind R = some r := by subst hb; exact h
theorem callb {x : Option γ} {g : γ → Option α} (h : (x.bind g).bind R = some r) : ∃ y, x = some y ∧ (g y).bind R = some r := by
  cases x with
  | none => cases h
  | some y => exact ⟨y, rfl, h⟩
theorem loopb {x : Option γ} {g : γ → Option α} (h : (x.bind g).bind R = some r) : ∃ R', (R' = fun y => (g y).bind R) ∧ x.bind R' = some r := by
  refine ⟨_, rfl, ?_⟩
  cases x with
  | none => cases h
  | some y => exact h
theorem leafb {y : γ} {g : γ → Option α} {R' : γ → Option β} (h : (some y).bind R' = some r) (hR : R' = fun y => (g y).bind R) : (g y).bind R = some r := by
  subst hR; exact h
theorem noneb {x : Option α} (hx : x = none) (h : x.bind R = some r) : False := by subst hx; cases h
end

section
variable {O : Ops} (hO : O = std)
include hO
theorem o_iadd : O.iadd = fun a b => a + b := by subst hO; rfl
theorem o_isub : O.isub = fun a b => a - b := by subst hO; rfl
theorem o_imul : O.imul = fun a b => a * b := by subst hO; rfl
theorem o_ineg : O.ineg = fun a => -a := by subst hO; rfl
theorem o_ilt : O.ilt = fun a b => decide (a < b) := by subst hO; rfl
theorem o_ile : O.ile = fun a b => decide (a ≤ b) := by subst hO; rfl
theorem o_ieq : O.ieq = fun a b => a == b := by subst hO; rfl
theorem o_imin : O.imin = fun a b => if b < a then b else a := by subst hO; rfl
theorem o_imax : O.imax = fun a b => if b > a then b else a := by subst hO; rfl
theorem o_toN : O.toN = fun n => n.toNat := by subst hO; rfl
theorem o_ofN : O.ofN = fun (n : Nat) => (n : Int) := by subst hO; rfl
theorem o_nadd : O.nadd = fun a b => a + b := by subst hO; rfl
theorem o_nsub : O.nsub = fun a b => a - b := by subst hO; rfl
theorem o_nlt : O.nlt = fun a b => decide (a < b) := by subst hO; rfl
theorem o_neq : O.neq = fun a b => a == b := by subst hO; rfl
theorem o_pIdx : O.pIdx = fun (i : Int) (n : Nat) => 0 ≤ i ∧ i < (n : Int) := by subst hO; rfl
theorem o_pLe : O.pLe = fun a b => a ≤ b := by subst hO; rfl
theorem o_pNe : O.pNe = fun a b => a ≠ b := by subst hO; rfl
theorem o_pNle : O.pNle = fun a b => a ≤ b := by subst hO; rfl
theorem o_pNlt : O.pNlt = fun a b => a < b := by subst hO; rfl
theorem o_pNeq : O.pNeq = fun a b => a = b := by subst hO; rfl
theorem o_pSmall : O.pSmall = fun n => n ≤ 1073741824 := by subst hO; rfl
theorem o_slen : O.slen = fun l => l.length := by subst hO; rfl
theorem o_llen : @Ops.llen O = fun {α} l => l.length := by subst hO; rfl
theorem o_lget : @Ops.lget O = fun {α} l i d => l.getD i d := by subst hO; rfl
theorem o_lapp : @Ops.lapp O = fun {α} a b => a ++ b := by subst hO; rfl
theorem o_lset : @Ops.lset O = fun {α} l i x => l.set i x := by subst hO; rfl
theorem o_lsub : @Ops.lsub O = fun {α} l a b => (l.drop a).take (b - a) := by subst hO; rfl
theorem o_lrep : @Ops.lrep O = fun {α} n x => List.replicate n x := by subst hO; rfl
end

section
variable {α : Type} {l l' : List α} {i k m : Nat} {x d : α}
theorem getD_aapp : (l ++ l').getD i d = if i < l.length then l.getD i d else l'.getD (i - l.length) d := by
  simp only [List.getD_eq_getElem?_getD, List.getElem?_append]
  split <;> rfl
theorem getD_aone : [x].getD i d = if i = 0 then x else d := by cases i <;> simp
theorem getD_arep : (List.replicate m x).getD i d = if i < m then x else d := by
  simp only [List.getD_eq_getElem?_getD, List.getElem?_replicate]
  split <;> rfl
theorem getD_asub : ((l.drop k).take m).getD i d = if i < m then l.getD (k + i) d else d := by
  simp only [List.getD_eq_getElem?_getD, List.getElem?_take, List.getElem?_drop]
  split <;> rfl
theorem getD_sset : (l.set k x).getD i d = if i = k then (if k < l.length then x else d) else l.getD i d := by
  simp only [List.getD_eq_getElem?_getD, List.getElem?_set]
  by_cases h : i = k
  · subst h; simp only [if_true]; split <;> rfl
  · simp only [h, if_false]; rw [if_neg (fun e => h e.symm)]
theorem cond_ite {β : Type} {b : Bool} {x y : β} : (bif b then x else y) = if b = true then x else y := by cases b <;> rfl
end

theorem oo {O : Ops} (hO : O = std) :
    (O.iadd = fun a b => a + b) ∧
    (O.isub = fun a b => a - b) ∧
    (O.imul = fun a b => a * b) ∧
    (O.ineg = fun a => -a) ∧
    (O.ilt = fun a b => decide (a < b)) ∧
    (O.ile = fun a b => decide (a ≤ b)) ∧
    (O.ieq = fun a b => a == b) ∧
    (O.imin = fun a b => if b < a then b else a) ∧
    (O.imax = fun a b => if b > a then b else a) ∧
    (O.toN = fun n => n.toNat) ∧
    (O.ofN = fun (n : Nat) => (n : Int)) ∧
    (O.nadd = fun a b => a + b) ∧
    (O.nsub = fun a b => a - b) ∧
    (O.nlt = fun a b => decide (a < b)) ∧
    (O.neq = fun a b => a == b) ∧
    (O.pIdx = fun (i : Int) (n : Nat) => 0 ≤ i ∧ i < (n : Int)) ∧
    (O.pLe = fun a b => a ≤ b) ∧
    (O.pNe = fun a b => a ≠ b) ∧
    (O.pNle = fun a b => a ≤ b) ∧
    (O.pNlt = fun a b => a < b) ∧
    (O.pNeq = fun a b => a = b) ∧
    (O.pSmall = fun n => n ≤ 1073741824) ∧
    (O.slen = fun l => l.length) ∧
    (@Ops.llen O = fun {α} l => l.length) ∧
    (@Ops.lget O = fun {α} l i d => l.getD i d) ∧
    (@Ops.lapp O = fun {α} a b => a ++ b) ∧
    (@Ops.lset O = fun {α} l i x => l.set i x) ∧
    (@Ops.lsub O = fun {α} l a b => (l.drop a).take (b - a)) ∧
    (@Ops.lrep O = fun {α} n x => List.replicate n x) := by
  subst hO; exact ⟨rfl, rfl, rfl, rfl, rfl, rfl, rfl, rfl, rfl, rfl, rfl, rfl, rfl, rfl, rfl, rfl, rfl, rfl, rfl, rfl, rfl, rfl, rfl, rfl, rfl, rfl, rfl, rfl, rfl⟩
theorem sl : (∀ {α : Type} (a b : List α), (a ++ b).length = a.length + b.length) ∧ (∀ {α : Type} (x : α) (a : List α), (x :: a).length = a.length + 1) ∧ (∀ {α : Type}, ([] : List α).length = 0) ∧
    (∀ {α : Type} (a : List α) (i : Nat) (x : α), (a.set i x).length = a.length) ∧ (∀ {α : Type} (n : Nat) (x : α), (List.replicate n x).length = n) ∧ (∀ {α : Type} (n : Nat) (a : List α), (a.take n).length = min n a.length) ∧
    (∀ {α : Type} (n : Nat) (a : List α), (a.drop n).length = a.length - n) ∧ (∀ n : Nat, 0 + n = n) ∧ (∀ n : Nat, n + 0 = n) ∧ (∀ n : Nat, n - 0 = n) ∧ (∀ (p : Prop) [Decidable p], (decide p = true) = p) ∧ (∀ (p : Prop) [Decidable p], (decide p = false) = ¬ p) :=
  ⟨fun _ _ => List.length_append, fun _ _ => rfl, rfl, fun _ _ _ => List.length_set, fun _ _ => List.length_replicate, fun _ _ => List.length_take, fun _ _ => List.length_drop, Nat.zero_add, fun _ => rfl, fun _ => rfl, fun _ _ => by simp, fun _ _ => by simp⟩
theorem gg : (∀ {α : Type} (l l' : List α) (i : Nat) (d : α), (l ++ l').getD i d = if i < l.length then l.getD i d else l'.getD (i - l.length) d) ∧
    (∀ {α : Type} (x : α) (i : Nat) (d : α), [x].getD i d = if i = 0 then x else d) ∧ (∀ {α : Type} (m : Nat) (x : α) (i : Nat) (d : α), (List.replicate m x).getD i d = if i < m then x else d) ∧
    (∀ {α : Type} (l : List α) (k m i : Nat) (d : α), ((l.drop k).take m).getD i d = if i < m then l.getD (k + i) d else d) ∧
    (∀ {α : Type} (l : List α) (k i : Nat) (x d : α), (l.set k x).getD i d = if i = k then (if k < l.length then x else d) else l.getD i d) ∧
    (∀ {β : Type} (b : Bool) (x y : β), (bif b then x else y) = if b = true then x else y) ∧ (∀ (p : Prop) [Decidable p], (decide p = true) = p) ∧ (∀ a b : Nat, ((a == b) = true) = (a = b)) :=
  ⟨fun _ _ _ _ => getD_aapp, fun _ _ _ => getD_aone, fun _ _ _ _ => getD_arep, fun _ _ _ _ _ => getD_asub, fun _ _ _ _ _ => getD_sset, fun _ _ _ => cond_ite, fun _ _ => by simp, fun _ _ => by simp⟩

end Go.Desk
