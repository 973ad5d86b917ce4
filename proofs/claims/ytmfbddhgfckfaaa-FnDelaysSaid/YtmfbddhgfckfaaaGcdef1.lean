/- Contracts of functions, printed by a program of mine (in step with V-logic). -/
import Derived.Test.YtmfbddhgfckfaaaGf
namespace Go.Desk
open Go
set_option linter.all false
set_option maxRecDepth 100000
set_option linter.unusedVariables false
set_option linter.unusedSimpArgs false
set_option maxHeartbeats 4000000
theorem c_laws_b10Long {O : Ops} (hO : O = std) {P : Program} (hP : P = Prg) {a1 : (List Int)} {a2 : (List Int)} {r1 : Bool} (h : F_laws_b10Long O a1 a2 = some r1) :
    Con P 27 [] [.sl false false 1 (O.llen a1) (fun i1 => [.int .u8 (O.lget a1 i1 0)]), .sl false false 1 (O.llen a2) (fun i1 => [.int .u8 (O.lget a2 i1 0)])] (.bool r1) [] := by
  refine @con_of2 O hO P hP 27 Go.Proofs.Try.f27 Go.Proofs.Try.func27 (by kernel_rfl) _ _ _ _ ?_
  unfold F_laws_b10Long at h
  replace h := startb h
  obtain ⟨r, hr⟩ : ∃ r, r = r1 := ⟨_, rfl⟩
  rw [← hr] at h
  cbv
  refine Wp.mk ?_
  refine ⟨fun b_1 => ?_, fun b_1 => ?_⟩
  · cbv
    replace h := condf h (by first | exact b_1 | (simp only [oo hO, sl] at b_1 ⊢; exact b_1))
    refine ⟨?_, ?_⟩
    rotate_left
    · first | (intro q; cases q; done) | trivial
    try intro _
    cbv
    refine ⟨?_, ?_⟩
    rotate_left
    · first | (intro q; cases q; done) | trivial
    try intro _
    cbv
    refine ⟨?_, ?_⟩
    · first | (intro q; cases q; done) | trivial
    try intro _
    cbv
    replace h := (endb h).trans hr
    cases h
    ((repeat' apply And.intro) <;> first | trivial | rfl | assumption | (simp only [oo hO, ff, sl]; done) | (simp only [oo hO, ff, sl]; omega) | (intro i hi; first | (cbv <;> (repeat' apply And.intro) <;> first | trivial | rfl) | (simp only [oo hO, ff, sl] at hi ⊢; (try simp only [gg, sl] at hi ⊢); (repeat' split) <;> first | (exfalso; omega) | (exfalso; exact absurd (Nat.lt_of_lt_of_le hi (Nat.min_le_left _ _)) (by assumption)) | (cbv <;> (repeat' apply And.intro) <;> first | trivial | rfl) | (rename_i q; subst q; cbv <;> (repeat' apply And.intro) <;> first | trivial | rfl) | (rename_i q _; subst q; cbv <;> (repeat' apply And.intro) <;> first | trivial | rfl))))
  cbv
  replace h := condt h (by first | exact b_1 | (simp only [oo hO, sl] at b_1 ⊢; exact b_1))
  refine ⟨?_, ?_⟩
  · first | (intro q; cases q; done) | trivial
  try intro _
  cbv
  refine ⟨?_, ?_⟩
  · first | (intro q; cases q; done) | trivial
  try intro _
  cbv
  refine ⟨?_, ?_⟩
  rotate_left
  · first | (intro q; cases q; done) | trivial
  try intro _
  cbv
  replace h := (endb h).trans hr
  cases h
  ((repeat' apply And.intro) <;> first | trivial | rfl | assumption | (simp only [oo hO, ff, sl]; done) | (simp only [oo hO, ff, sl]; omega) | (intro i hi; first | (cbv <;> (repeat' apply And.intro) <;> first | trivial | rfl) | (simp only [oo hO, ff, sl] at hi ⊢; (try simp only [gg, sl] at hi ⊢); (repeat' split) <;> first | (exfalso; omega) | (exfalso; exact absurd (Nat.lt_of_lt_of_le hi (Nat.min_le_left _ _)) (by assumption)) | (cbv <;> (repeat' apply And.intro) <;> first | trivial | rfl) | (rename_i q; subst q; cbv <;> (repeat' apply And.intro) <;> first | trivial | rfl) | (rename_i q _; subst q; cbv <;> (repeat' apply And.intro) <;> first | trivial | rfl))))

theorem c_laws_b10At {O : Ops} (hO : O = std) {P : Program} (hP : P = Prg) {a1 : (List Int)} {a2 : Int} {a3 : Int} {r1 : Int} (h : F_laws_b10At O a1 a2 a3 = some r1) :
    Con P 29 [] [.sl false false 1 (O.llen a1) (fun i1 => [.int .u8 (O.lget a1 i1 0)]), .int .i64 a2, .int .i64 a3] (.int .i64 r1) [] := by
  refine @con_of2 O hO P hP 29 Go.Proofs.Try.f29 Go.Proofs.Try.func29 (by kernel_rfl) _ _ _ _ ?_
  unfold F_laws_b10At at h
  replace h := startb h
  obtain ⟨r, hr⟩ : ∃ r, r = r1 := ⟨_, rfl⟩
  rw [← hr] at h
  cbv
  refine Wp.mk ?_
  refine ⟨fun b_1 => ?_, fun b_1 => ?_⟩
  · cbv
    replace h := condt h (by first | exact b_1 | (simp only [oo hO, sl] at b_1 ⊢; exact b_1))
    replace h := (endb h).trans hr
    cases h
    ((repeat' apply And.intro) <;> first | trivial | rfl | assumption | (simp only [oo hO, ff, sl]; done) | (simp only [oo hO, ff, sl]; omega) | (intro i hi; first | (cbv <;> (repeat' apply And.intro) <;> first | trivial | rfl) | (simp only [oo hO, ff, sl] at hi ⊢; (try simp only [gg, sl] at hi ⊢); (repeat' split) <;> first | (exfalso; omega) | (exfalso; exact absurd (Nat.lt_of_lt_of_le hi (Nat.min_le_left _ _)) (by assumption)) | (cbv <;> (repeat' apply And.intro) <;> first | trivial | rfl) | (rename_i q; subst q; cbv <;> (repeat' apply And.intro) <;> first | trivial | rfl) | (rename_i q _; subst q; cbv <;> (repeat' apply And.intro) <;> first | trivial | rfl))))
  cbv
  replace h := condf h (by first | exact b_1 | (simp only [oo hO, sl] at b_1 ⊢; exact b_1))
  refine ⟨fun b_2 => ?_, fun b_2 => ?_⟩
  · cbv
    replace h := condt h (by first | exact b_2 | (simp only [oo hO, sl] at b_2 ⊢; exact b_2))
    obtain ⟨g_3, h⟩ := gdb h
    refine ⟨(by first | exact g_3 | (simp only [oo hO] at g_3 ⊢; simp only [sl] at g_3 ⊢; omega)), ?_⟩
    obtain ⟨g_4, h⟩ := gdb h
    refine ⟨(by first | exact g_4 | (simp only [oo hO] at g_4 ⊢; simp only [sl] at g_4 ⊢; omega)), ?_⟩
    replace h := (endb h).trans hr
    cases h
    ((repeat' apply And.intro) <;> first | trivial | rfl | assumption | (simp only [oo hO, ff, sl]; done) | (simp only [oo hO, ff, sl]; omega) | (intro i hi; first | (cbv <;> (repeat' apply And.intro) <;> first | trivial | rfl) | (simp only [oo hO, ff, sl] at hi ⊢; (try simp only [gg, sl] at hi ⊢); (repeat' split) <;> first | (exfalso; omega) | (exfalso; exact absurd (Nat.lt_of_lt_of_le hi (Nat.min_le_left _ _)) (by assumption)) | (cbv <;> (repeat' apply And.intro) <;> first | trivial | rfl) | (rename_i q; subst q; cbv <;> (repeat' apply And.intro) <;> first | trivial | rfl) | (rename_i q _; subst q; cbv <;> (repeat' apply And.intro) <;> first | trivial | rfl))))
  cbv
  replace h := condf h (by first | exact b_2 | (simp only [oo hO, sl] at b_2 ⊢; exact b_2))
  obtain ⟨g_5, h⟩ := gdb h
  refine ⟨(by first | exact g_5 | (simp only [oo hO] at g_5 ⊢; simp only [sl] at g_5 ⊢; omega)), ?_⟩
  obtain ⟨g_6, h⟩ := gdb h
  refine ⟨(by first | exact g_6 | (simp only [oo hO] at g_6 ⊢; simp only [sl] at g_6 ⊢; omega)), ?_⟩
  obtain ⟨g_7, h⟩ := gdb h
  refine ⟨(by first | exact g_7 | (simp only [oo hO] at g_7 ⊢; simp only [sl] at g_7 ⊢; omega)), ?_⟩
  replace h := (endb h).trans hr
  cases h
  ((repeat' apply And.intro) <;> first | trivial | rfl | assumption | (simp only [oo hO, ff, sl]; done) | (simp only [oo hO, ff, sl]; omega) | (intro i hi; first | (cbv <;> (repeat' apply And.intro) <;> first | trivial | rfl) | (simp only [oo hO, ff, sl] at hi ⊢; (try simp only [gg, sl] at hi ⊢); (repeat' split) <;> first | (exfalso; omega) | (exfalso; exact absurd (Nat.lt_of_lt_of_le hi (Nat.min_le_left _ _)) (by assumption)) | (cbv <;> (repeat' apply And.intro) <;> first | trivial | rfl) | (rename_i q; subst q; cbv <;> (repeat' apply And.intro) <;> first | trivial | rfl) | (rename_i q _; subst q; cbv <;> (repeat' apply And.intro) <;> first | trivial | rfl))))

end Go.Desk
