/- V-logic, part 21: code is sound. -/
import Derived.Test.YtmfbddhgfckfaaaVw
namespace Go.Desk
open Go
set_option linter.all false
set_option linter.unusedVariables false

variable {c : Ctx} {L L' : LMap} {I J : Nat → Prop} {s : St} {a : Act} {w : World} {P : Program} {T : Nat → TI} {B : Nat} {m : List (Nat × Nat)}

theorem Sim.drewn (h : Sim c L I s a w) : Sim c L I s a { w with drawn := w.drawn + 1 } := h.drew

/- code -/
/-- the ends of the code, as the machine has them -/
def endOf : VExit → Exit
  | .normal => .normal
  | .exit id => .exit id
  | .ret => .ret
def Post (c : Ctx) (k : VExit → St → Prop) (Q : Exit → Act → World → Prop) : Prop := ∀ e s L I a w, k e s → Sim c L I s a w → Q (endOf e) a w

/-- a loop whose rounds are told apart by an index -/
theorem wp_loop_ix {code : Code} {Q : Exit → Act → World → Prop} {ι : Type} (S : ι → Act → World → Prop) (μ : ι → Nat)
    (round : ∀ x a w, S x a w → code.wp P (Exit.then (fun a' w' => ∃ x', S x' a' w' ∧ μ x' < μ x) Q) a w) (x : ι) (a : Act) (w : World) (h : S x a w) : (Code.loop code).wp P Q a w := by
  intro b k cs
  have go : ∀ n x a w, μ x < n → S x a w → ∃ e a' w', Q e a' w' ∧ Arrives P (lone (b.at a (.code code :: .inLoop code :: k)) cs w) b k cs e a' w' := by
    intro n
    induction n with
    | zero => intro x a w h; exact absurd h (Nat.not_lt_zero _)
    | succ n ih =>
      intro x a w hn hS
      obtain ⟨e, a1, w1, hq, har⟩ := round x a w hS b (.inLoop code :: k) cs
      have out : e ≠ .normal → Q e a1 w1 → ∃ e a' w', Q e a' w' ∧ Arrives P (lone (b.at a (.code code :: .inLoop code :: k)) cs w) b k cs e a' w' :=
        fun he hq => ⟨e, a1, w1, hq, .pass (x := .inLoop code) rfl (fun _ _ => .inl he) har⟩
      cases e with
      | normal =>
        obtain ⟨x', hS', hlt⟩ := hq
        obtain ⟨e2, a2, w2, hq2, har2⟩ := ih x' a1 w1 (by omega) hS'
        exact ⟨e2, a2, w2, hq2, .of_steps (Steps.trans har (.one step_inLoop)) har2⟩
      | exit id => exact out (by simp) hq
      | goto l => exact out (by simp) hq
      | ret => exact out (by simp) hq
      | panic ch => exact out (by simp) hq
      | outgrown => exact out (by simp) hq
  obtain ⟨e, a', w', hq, har⟩ := go (μ x + 1) x a w (by omega) h
  exact ⟨e, a', w', hq, .of_steps (.one step_loop) har⟩

theorem vwp_sound (hT : TOk P T) (hm : P.follows .mixedOrders = true) : ∀ (code : Code) {s : St} {L : LMap} {I : Nat → Prop} {a : Act} {w : World} {k : VExit → St → Prop} {Q : Exit → Act → World → Prop},
    Sim c L I s a w → vwp ⟨std, T⟩ P c.N c.M code s k → Post c k Q → code.wp P Q a w
  | .skip, s, L, I, a, w, k, Q, h, hk, hq => wp_skip (hq .normal s L I a w hk h)
  | .label _, s, L, I, a, w, k, Q, h, hk, hq => wp_label (hq .normal s L I a w hk h)
  | .exit id, s, L, I, a, w, k, Q, h, hk, hq => wp_exit (hq (.exit id) s L I a w hk h)
  | .ret, s, L, I, a, w, k, Q, h, hk, hq => wp_ret (hq .ret s L I a w hk h)
  | .seq x y, s, L, I, a, w, k, Q, h, hk, hq => by
    simp only [vwp] at hk
    refine wp_seq (vwp_sound hT hm x h hk ?_)
    rintro e s L I a w hk h
    cases e with
    | normal => exact vwp_sound hT hm y h hk hq
    | exit id => exact hq (.exit id) s L I a w hk h
    | ret => exact hq .ret s L I a w hk h
  | .cond x y z, s, L, I, a, w, k, Q, h, hk, hq => by
    simp only [vwp] at hk
    have hx := h.ev x
    split at hk
    · rename_i t ht
      rw [ht] at hx
      simp only [Rel] at hx
      exact wp_cond_split hx (fun e => vwp_sound hT hm y h (hk.1 e) hq) (fun e => vwp_sound hT hm z h (hk.2 e) hq)
    · exact hk.elim
  | .block id x, s, L, I, a, w, k, Q, h, hk, hq => by
    simp only [vwp] at hk
    refine wp_block (vwp_sound hT hm x h hk ?_)
    rintro e s L I a w hk h
    cases e with
    | normal => exact hq .normal s L I a w hk h
    | ret => exact hq .ret s L I a w hk h
    | exit i =>
      simp only [endOf, Exit.inBlock]
      simp only at hk
      by_cases e : i = id
      · subst e; simp only [beq_t, cond] at hk; rw [if_pos rfl]; exact hq .normal s L I a w hk h
      · rw [beq_f e] at hk; simp only [cond] at hk; rw [if_neg e]; exact hq (.exit i) s L I a w hk h
  | .loop x, s, L, I, a, w, k, Q, h, hk, hq => by
    simp only [vwp] at hk
    obtain ⟨ι, S, μ, x0, h0, hr⟩ := hk
    obtain ⟨L1, I1, h1⟩ := cov_sound h h0
    refine wp_loop_ix (fun i a w => ∃ L I, Sim c L I (S i).st a w) μ ?_ x0 a w ⟨L1, I1, h1⟩
    rintro i a w ⟨L, I, h⟩
    refine vwp_sound hT hm x h (hr i) ?_
    rintro e s L I a w hk h
    cases e with
    | normal =>
      obtain ⟨i', hc, hlt⟩ := hk
      obtain ⟨L2, I2, h2⟩ := cov_sound h hc
      exact ⟨i', ⟨L2, I2, h2⟩, hlt⟩
    | exit id => exact hq (.exit id) s L I a w hk h
    | ret => exact hq .ret s L I a w hk h
  | .region id ops false, s, L, I, a, w, k, Q, h, hk, hq => by
    simp only [vwp] at hk
    refine wp_region ?_
    rw [List.range_eq_range']
    refine vops_sound hT ops (c := c) ?_ ops.toList 0 (fun j => by simp) h hk
    rintro a w ⟨s', L', I', hk', h'⟩
    exact hq .normal s' L' I' a w hk' h'
  | .region id ops true, s, L, I, a, w, k, Q, h, hk, hq => by
    simp only [vwp] at hk
    refine wp_region_any hm (vany_sound hT ops (h.drewn) hk ?_)
    rintro a w ⟨s', L', I', hk', h'⟩
    exact hq .normal s' L' I' a w hk' h'
  | .rangeFunc .., s, L, I, a, w, k, Q, h, hk, hq => by simp only [vwp] at hk
  | .goto _, s, L, I, a, w, k, Q, h, hk, hq => by simp only [vwp] at hk
  | .scope _, s, L, I, a, w, k, Q, h, hk, hq => by simp only [vwp] at hk
  | .refuse _, s, L, I, a, w, k, Q, h, hk, hq => by simp only [vwp] at hk

end Go.Desk
