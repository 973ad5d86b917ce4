/- Contracts of functions, printed by a program of mine (in step with V-logic). -/
import Derived.Test.YtmfbddhgfckfaaaGf
namespace Go.Desk
open Go
set_option linter.all false
set_option maxRecDepth 100000
set_option linter.unusedVariables false
set_option linter.unusedSimpArgs false
set_option maxHeartbeats 4000000
theorem c_spec_l00In {O : Ops} (hO : O = std) {P : Program} (hP : P = Prg) {a1 : Int} {a2 : Int} {a3 : Int} {r1 : Bool} (h : F_spec_l00In O a1 a2 a3 = some r1) :
    Con P 79 [] [.int .i64 a1, .int .i64 a2, .int .i64 a3] (.bool r1) [] := by
  refine @con_of2 O hO P hP 79 Go.Proofs.Try.f79 Go.Proofs.Try.func79 (by kernel_rfl) _ _ _ _ ?_
  unfold F_spec_l00In at h
  replace h := startb h
  obtain ⟨r, hr⟩ : ∃ r, r = r1 := ⟨_, rfl⟩
  rw [← hr] at h
  cbv
  refine Wp.mk ?_
  refine ⟨fun b_1 => ?_, fun b_1 => ?_⟩
  · cbv
    replace h := condt h (by first | exact b_1 | (simp only [oo hO, sl] at b_1 ⊢; exact b_1))
    refine ⟨?_, ?_⟩
    rotate_left
    · first | (intro q; cases q; done) | trivial
    try intro _
    cbv
    refine ⟨?_, ?_⟩
    rotate_left
    · first | (intro q; cases q; done) | trivial
    try intro _
    cbv
    refine ⟨?_, ?_⟩
    rotate_left
    · first | (intro q; cases q; done) | trivial
    try intro _
    cbv
    replace h := (endb h).trans hr
    cases h
    ((repeat' apply And.intro) <;> first | trivial | rfl | assumption | (simp only [oo hO, ff, sl]; done) | (simp only [oo hO, ff, sl]; omega) | (intro i hi; first | (cbv <;> (repeat' apply And.intro) <;> first | trivial | rfl) | (simp only [oo hO, ff, sl] at hi ⊢; (try simp only [gg, sl] at hi ⊢); (repeat' split) <;> first | (exfalso; omega) | (exfalso; exact absurd (Nat.lt_of_lt_of_le hi (Nat.min_le_left _ _)) (by assumption)) | (cbv <;> (repeat' apply And.intro) <;> first | trivial | rfl) | (rename_i q; subst q; cbv <;> (repeat' apply And.intro) <;> first | trivial | rfl) | (rename_i q _; subst q; cbv <;> (repeat' apply And.intro) <;> first | trivial | rfl))))
  cbv
  replace h := condf h (by first | exact b_1 | (simp only [oo hO, sl] at b_1 ⊢; exact b_1))
  refine ⟨?_, ?_⟩
  · first | (intro q; cases q; done) | trivial
  try intro _
  cbv
  refine ⟨?_, ?_⟩
  · first | (intro q; cases q; done) | trivial
  try intro _
  cbv
  refine ⟨?_, ?_⟩
  · first | (intro q; cases q; done) | trivial
  try intro _
  cbv
  replace h := (endb h).trans hr
  cases h
  ((repeat' apply And.intro) <;> first | trivial | rfl | assumption | (simp only [oo hO, ff, sl]; done) | (simp only [oo hO, ff, sl]; omega) | (intro i hi; first | (cbv <;> (repeat' apply And.intro) <;> first | trivial | rfl) | (simp only [oo hO, ff, sl] at hi ⊢; (try simp only [gg, sl] at hi ⊢); (repeat' split) <;> first | (exfalso; omega) | (exfalso; exact absurd (Nat.lt_of_lt_of_le hi (Nat.min_le_left _ _)) (by assumption)) | (cbv <;> (repeat' apply And.intro) <;> first | trivial | rfl) | (rename_i q; subst q; cbv <;> (repeat' apply And.intro) <;> first | trivial | rfl) | (rename_i q _; subst q; cbv <;> (repeat' apply And.intro) <;> first | trivial | rfl))))

end Go.Desk
