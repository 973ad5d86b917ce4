/- Contracts of functions, printed by a program of mine (in step with V-logic). -/
import Derived.Test.YtmfbddhgfckfaaaGcdef1
import Derived.Test.YtmfbddhgfckfaaaGce1
import Derived.Test.YtmfbddhgfckfaaaGcef1
import Derived.Test.YtmfbddhgfckfaaaGe1
import Derived.Test.YtmfbddhgfckfaaaGe2
import Derived.Test.YtmfbddhgfckfaaaGf
namespace Go.Desk
open Go
set_option linter.all false
set_option maxRecDepth 100000
set_option linter.unusedVariables false
set_option linter.unusedSimpArgs false
set_option maxHeartbeats 4000000
theorem c_laws_FnRooms {O : Ops} (hO : O = std) {P : Program} (hP : P = Prg) {a1 : (List Int)} {a2 : (List Int)} {r1 : Bool} (h : F_laws_FnRooms O a1 a2 = some r1) :
    Con P 7 [] [.sl false false 1 (O.llen a1) (fun i1 => [.int .u8 (O.lget a1 i1 0)]), .sl false false 1 (O.llen a2) (fun i1 => [.int .u8 (O.lget a2 i1 0)])] (.bool r1) [] := by
  refine @con_of2 O hO P hP 7 Go.Proofs.Try.f7 Go.Proofs.Try.func7 (by kernel_rfl) _ _ _ _ ?_
  unfold F_laws_FnRooms at h
  replace h := startb h
  obtain ⟨r, hr⟩ : ∃ r, r = r1 := ⟨_, rfl⟩
  rw [← hr] at h
  cbv
  refine Wp.mk ?_
  obtain ⟨v1, e_1, h⟩ := callb h
  refine ⟨[], _, _, _, _, false, c_laws_b10Long hO hP e_1, ?_⟩
  cbv
  refine ⟨(by (repeat' apply And.intro) <;> first | trivial | rfl | (intro i hi; first | (cbv <;> (repeat' apply And.intro) <;> first | trivial | rfl) | (simp only [oo hO, sl]; cbv <;> (repeat' apply And.intro) <;> first | trivial | rfl))), (by (repeat' apply And.intro) <;> first | trivial | rfl), ?_⟩
  refine ⟨fun b_2 => ?_, fun b_2 => ?_⟩
  · cbv
    replace h := condt h (by first | exact b_2 | (simp only [oo hO, sl] at b_2 ⊢; exact b_2))
    replace h := (endb h).trans hr
    cases h
    ((repeat' apply And.intro) <;> first | trivial | rfl | assumption | (simp only [oo hO, ff, sl]; done) | (simp only [oo hO, ff, sl]; omega) | (intro i hi; first | (cbv <;> (repeat' apply And.intro) <;> first | trivial | rfl | (simp only [oo hO, ff, sl]; done) | (simp only [oo hO, ff, sl]; omega) | (intro j hj; first | (cbv <;> (repeat' apply And.intro) <;> first | trivial | rfl) | (simp only [oo hO, ff, sl] at hj ⊢; (try simp only [gg, sl] at hj ⊢); (repeat' split) <;> first | (exfalso; omega) | (exfalso; exact absurd (Nat.lt_of_lt_of_le hj (Nat.min_le_left _ _)) (by assumption)) | (cbv <;> (repeat' apply And.intro) <;> first | trivial | rfl) | (rename_i q; subst q; cbv <;> (repeat' apply And.intro) <;> first | trivial | rfl) | (rename_i q _; subst q; cbv <;> (repeat' apply And.intro) <;> first | trivial | rfl)))) | (simp only [oo hO, ff, sl] at hi ⊢; (try simp only [gg, sl] at hi ⊢); (repeat' split) <;> first | (exfalso; omega) | (exfalso; exact absurd (Nat.lt_of_lt_of_le hi (Nat.min_le_left _ _)) (by assumption)) | (cbv <;> (repeat' apply And.intro) <;> first | trivial | rfl | (simp only [oo hO, ff, sl]; done) | (simp only [oo hO, ff, sl]; omega) | (intro j hj; first | (cbv <;> (repeat' apply And.intro) <;> first | trivial | rfl) | (simp only [oo hO, ff, sl] at hj ⊢; (try simp only [gg, sl] at hj ⊢); (repeat' split) <;> first | (exfalso; omega) | (exfalso; exact absurd (Nat.lt_of_lt_of_le hj (Nat.min_le_left _ _)) (by assumption)) | (cbv <;> (repeat' apply And.intro) <;> first | trivial | rfl) | (rename_i q; subst q; cbv <;> (repeat' apply And.intro) <;> first | trivial | rfl) | (rename_i q _; subst q; cbv <;> (repeat' apply And.intro) <;> first | trivial | rfl)))) | (rename_i q; subst q; cbv <;> (repeat' apply And.intro) <;> first | trivial | rfl | (simp only [oo hO, ff, sl]; done) | (simp only [oo hO, ff, sl]; omega) | (intro j hj; first | (cbv <;> (repeat' apply And.intro) <;> first | trivial | rfl) | (simp only [oo hO, ff, sl] at hj ⊢; (try simp only [gg, sl] at hj ⊢); (repeat' split) <;> first | (exfalso; omega) | (exfalso; exact absurd (Nat.lt_of_lt_of_le hj (Nat.min_le_left _ _)) (by assumption)) | (cbv <;> (repeat' apply And.intro) <;> first | trivial | rfl) | (rename_i q; subst q; cbv <;> (repeat' apply And.intro) <;> first | trivial | rfl) | (rename_i q _; subst q; cbv <;> (repeat' apply And.intro) <;> first | trivial | rfl)))) | (rename_i q _; subst q; cbv <;> (repeat' apply And.intro) <;> first | trivial | rfl | (simp only [oo hO, ff, sl]; done) | (simp only [oo hO, ff, sl]; omega) | (intro j hj; first | (cbv <;> (repeat' apply And.intro) <;> first | trivial | rfl) | (simp only [oo hO, ff, sl] at hj ⊢; (try simp only [gg, sl] at hj ⊢); (repeat' split) <;> first | (exfalso; omega) | (exfalso; exact absurd (Nat.lt_of_lt_of_le hj (Nat.min_le_left _ _)) (by assumption)) | (cbv <;> (repeat' apply And.intro) <;> first | trivial | rfl) | (rename_i q; subst q; cbv <;> (repeat' apply And.intro) <;> first | trivial | rfl) | (rename_i q _; subst q; cbv <;> (repeat' apply And.intro) <;> first | trivial | rfl)))))))
  cbv
  replace h := condf h (by first | exact b_2 | (simp only [oo hO, sl] at b_2 ⊢; exact b_2))
  obtain ⟨v2, e_3, h⟩ := callb h
  refine ⟨[], _, _, _, _, true, c_spec_B10Room hO hP e_3, ?_⟩
  cbv
  refine ⟨(by (repeat' apply And.intro) <;> first | trivial | rfl | (intro i hi; first | (cbv <;> (repeat' apply And.intro) <;> first | trivial | rfl) | (simp only [oo hO, sl]; cbv <;> (repeat' apply And.intro) <;> first | trivial | rfl))), (by (repeat' apply And.intro) <;> first | trivial | rfl), ?_⟩
  obtain ⟨v3, e_4, h⟩ := callb h
  refine ⟨[], _, _, _, _, false, c_laws_b10At hO hP e_4, ?_⟩
  cbv
  refine ⟨(by (repeat' apply And.intro) <;> first | trivial | rfl | (intro i hi; first | (cbv <;> (repeat' apply And.intro) <;> first | trivial | rfl) | (simp only [oo hO, sl]; cbv <;> (repeat' apply And.intro) <;> first | trivial | rfl))), (by (repeat' apply And.intro) <;> first | trivial | rfl), ?_⟩
  obtain ⟨g_5, h⟩ := gdb h
  refine ⟨(by first | exact g_5 | (simp only [oo hO] at g_5 ⊢; simp only [sl] at g_5 ⊢; omega)), ?_⟩
  obtain ⟨v4, e_6, h⟩ := callb h
  refine ⟨[], _, _, _, _, false, c_spec_B10Numbers hO hP e_6, ?_⟩
  cbv
  refine ⟨(by (repeat' apply And.intro) <;> first | trivial | rfl | (intro i hi; first | (cbv <;> (repeat' apply And.intro) <;> first | trivial | rfl) | (simp only [oo hO, sl]; cbv <;> (repeat' apply And.intro) <;> first | trivial | rfl))), (by (repeat' apply And.intro) <;> first | trivial | rfl), ?_⟩
  obtain ⟨g_7, h⟩ := gdb h
  refine ⟨(by first | exact g_7 | (simp only [oo hO] at g_7 ⊢; simp only [sl] at g_7 ⊢; omega)), ?_⟩
  obtain ⟨v5, e_8, h⟩ := callb h
  refine ⟨[], _, _, _, _, false, c_laws_b10At hO hP e_8, ?_⟩
  cbv
  refine ⟨(by (repeat' apply And.intro) <;> first | trivial | rfl | (intro i hi; first | (cbv <;> (repeat' apply And.intro) <;> first | trivial | rfl) | (simp only [oo hO, sl]; cbv <;> (repeat' apply And.intro) <;> first | trivial | rfl))), (by (repeat' apply And.intro) <;> first | trivial | rfl), ?_⟩
  obtain ⟨⟨v6, v7⟩, e_9, h⟩ := callb h
  refine ⟨[], _, _, _, _, false, c_impl_EmptyRoom hO hP e_9, ?_⟩
  cbv
  refine ⟨(by (repeat' apply And.intro) <;> first | trivial | rfl | (intro i hi; first | (cbv <;> (repeat' apply And.intro) <;> first | trivial | rfl) | (simp only [oo hO, sl]; cbv <;> (repeat' apply And.intro) <;> first | trivial | rfl))), (by (repeat' apply And.intro) <;> first | trivial | rfl), ?_⟩
  obtain ⟨⟨v8, v9, v10⟩, e_10, h⟩ := callb h
  refine ⟨[], _, _, _, _, true, c_impl_RunRoom hO hP e_10, ?_⟩
  cbv
  refine ⟨(by first | trivial | (simp only [oo hO, sl]; omega) | (simp only [oo hO, sl]; done)), (by first | trivial | (simp only [oo hO, sl]; omega) | (simp only [oo hO, sl]; done)), ?_⟩
  refine ⟨(by ((repeat' apply And.intro) <;> first | trivial | rfl | assumption | (simp only [oo hO, ff, sl]; done) | (simp only [oo hO, ff, sl]; omega) | (intro i hi; first | (cbv <;> (repeat' apply And.intro) <;> first | trivial | rfl | (simp only [oo hO, ff, sl]; done) | (simp only [oo hO, ff, sl]; omega) | (intro j hj; first | (cbv <;> (repeat' apply And.intro) <;> first | trivial | rfl) | (simp only [oo hO, ff, sl] at hj ⊢; (try simp only [gg, sl] at hj ⊢); (repeat' split) <;> first | (exfalso; omega) | (exfalso; exact absurd (Nat.lt_of_lt_of_le hj (Nat.min_le_left _ _)) (by assumption)) | (cbv <;> (repeat' apply And.intro) <;> first | trivial | rfl) | (rename_i q; subst q; cbv <;> (repeat' apply And.intro) <;> first | trivial | rfl) | (rename_i q _; subst q; cbv <;> (repeat' apply And.intro) <;> first | trivial | rfl)))) | (simp only [oo hO, ff, sl] at hi ⊢; (try simp only [gg, sl] at hi ⊢); (repeat' split) <;> first | (exfalso; omega) | (exfalso; exact absurd (Nat.lt_of_lt_of_le hi (Nat.min_le_left _ _)) (by assumption)) | (cbv <;> (repeat' apply And.intro) <;> first | trivial | rfl | (simp only [oo hO, ff, sl]; done) | (simp only [oo hO, ff, sl]; omega) | (intro j hj; first | (cbv <;> (repeat' apply And.intro) <;> first | trivial | rfl) | (simp only [oo hO, ff, sl] at hj ⊢; (try simp only [gg, sl] at hj ⊢); (repeat' split) <;> first | (exfalso; omega) | (exfalso; exact absurd (Nat.lt_of_lt_of_le hj (Nat.min_le_left _ _)) (by assumption)) | (cbv <;> (repeat' apply And.intro) <;> first | trivial | rfl) | (rename_i q; subst q; cbv <;> (repeat' apply And.intro) <;> first | trivial | rfl) | (rename_i q _; subst q; cbv <;> (repeat' apply And.intro) <;> first | trivial | rfl)))) | (rename_i q; subst q; cbv <;> (repeat' apply And.intro) <;> first | trivial | rfl | (simp only [oo hO, ff, sl]; done) | (simp only [oo hO, ff, sl]; omega) | (intro j hj; first | (cbv <;> (repeat' apply And.intro) <;> first | trivial | rfl) | (simp only [oo hO, ff, sl] at hj ⊢; (try simp only [gg, sl] at hj ⊢); (repeat' split) <;> first | (exfalso; omega) | (exfalso; exact absurd (Nat.lt_of_lt_of_le hj (Nat.min_le_left _ _)) (by assumption)) | (cbv <;> (repeat' apply And.intro) <;> first | trivial | rfl) | (rename_i q; subst q; cbv <;> (repeat' apply And.intro) <;> first | trivial | rfl) | (rename_i q _; subst q; cbv <;> (repeat' apply And.intro) <;> first | trivial | rfl)))) | (rename_i q _; subst q; cbv <;> (repeat' apply And.intro) <;> first | trivial | rfl | (simp only [oo hO, ff, sl]; done) | (simp only [oo hO, ff, sl]; omega) | (intro j hj; first | (cbv <;> (repeat' apply And.intro) <;> first | trivial | rfl) | (simp only [oo hO, ff, sl] at hj ⊢; (try simp only [gg, sl] at hj ⊢); (repeat' split) <;> first | (exfalso; omega) | (exfalso; exact absurd (Nat.lt_of_lt_of_le hj (Nat.min_le_left _ _)) (by assumption)) | (cbv <;> (repeat' apply And.intro) <;> first | trivial | rfl) | (rename_i q; subst q; cbv <;> (repeat' apply And.intro) <;> first | trivial | rfl) | (rename_i q _; subst q; cbv <;> (repeat' apply And.intro) <;> first | trivial | rfl)))))))), (by (repeat' apply And.intro) <;> first | trivial | rfl), ?_⟩
  obtain ⟨g_11, h⟩ := gdb h
  have qg_11 := g_11; simp only [oo hO, ff, sl] at qg_11
  obtain ⟨g_12, h⟩ := gdb h
  have qg_12 := g_12; simp only [oo hO, ff, sl] at qg_12
  refine ⟨(by first | exact g_11 | (simp only [oo hO] at g_11 ⊢; simp only [sl] at g_11 ⊢; omega)), (by first | exact g_12 | (simp only [oo hO] at g_12 ⊢; simp only [sl] at g_12 ⊢; omega)), ?_⟩
  obtain ⟨⟨v11, v12, v13⟩, e_13, h⟩ := callb h
  refine ⟨[], _, _, _, _, true, c_impl_RunRoom hO hP e_13, ?_⟩
  cbv
  refine ⟨(by first | trivial | (simp only [oo hO, sl]; omega) | (simp only [oo hO, sl]; done)), (by first | trivial | (simp only [oo hO, sl]; omega) | (simp only [oo hO, sl]; done)), ?_⟩
  refine ⟨(by ((repeat' apply And.intro) <;> first | trivial | rfl | assumption | (simp only [oo hO, ff, sl]; done) | (simp only [oo hO, ff, sl]; omega) | (intro i hi; first | (cbv <;> (repeat' apply And.intro) <;> first | trivial | rfl | (simp only [oo hO, ff, sl]; done) | (simp only [oo hO, ff, sl]; omega) | (intro j hj; first | (cbv <;> (repeat' apply And.intro) <;> first | trivial | rfl) | (simp only [oo hO, ff, sl] at hj ⊢; (try simp only [gg, sl] at hj ⊢); (repeat' split) <;> first | (exfalso; omega) | (exfalso; exact absurd (Nat.lt_of_lt_of_le hj (Nat.min_le_left _ _)) (by assumption)) | (cbv <;> (repeat' apply And.intro) <;> first | trivial | rfl) | (rename_i q; subst q; cbv <;> (repeat' apply And.intro) <;> first | trivial | rfl) | (rename_i q _; subst q; cbv <;> (repeat' apply And.intro) <;> first | trivial | rfl)))) | (simp only [oo hO, ff, sl] at hi ⊢; (try simp only [gg, sl] at hi ⊢); (repeat' split) <;> first | (exfalso; omega) | (exfalso; exact absurd (Nat.lt_of_lt_of_le hi (Nat.min_le_left _ _)) (by assumption)) | (cbv <;> (repeat' apply And.intro) <;> first | trivial | rfl | (simp only [oo hO, ff, sl]; done) | (simp only [oo hO, ff, sl]; omega) | (intro j hj; first | (cbv <;> (repeat' apply And.intro) <;> first | trivial | rfl) | (simp only [oo hO, ff, sl] at hj ⊢; (try simp only [gg, sl] at hj ⊢); (repeat' split) <;> first | (exfalso; omega) | (exfalso; exact absurd (Nat.lt_of_lt_of_le hj (Nat.min_le_left _ _)) (by assumption)) | (cbv <;> (repeat' apply And.intro) <;> first | trivial | rfl) | (rename_i q; subst q; cbv <;> (repeat' apply And.intro) <;> first | trivial | rfl) | (rename_i q _; subst q; cbv <;> (repeat' apply And.intro) <;> first | trivial | rfl)))) | (rename_i q; subst q; cbv <;> (repeat' apply And.intro) <;> first | trivial | rfl | (simp only [oo hO, ff, sl]; done) | (simp only [oo hO, ff, sl]; omega) | (intro j hj; first | (cbv <;> (repeat' apply And.intro) <;> first | trivial | rfl) | (simp only [oo hO, ff, sl] at hj ⊢; (try simp only [gg, sl] at hj ⊢); (repeat' split) <;> first | (exfalso; omega) | (exfalso; exact absurd (Nat.lt_of_lt_of_le hj (Nat.min_le_left _ _)) (by assumption)) | (cbv <;> (repeat' apply And.intro) <;> first | trivial | rfl) | (rename_i q; subst q; cbv <;> (repeat' apply And.intro) <;> first | trivial | rfl) | (rename_i q _; subst q; cbv <;> (repeat' apply And.intro) <;> first | trivial | rfl)))) | (rename_i q _; subst q; cbv <;> (repeat' apply And.intro) <;> first | trivial | rfl | (simp only [oo hO, ff, sl]; done) | (simp only [oo hO, ff, sl]; omega) | (intro j hj; first | (cbv <;> (repeat' apply And.intro) <;> first | trivial | rfl) | (simp only [oo hO, ff, sl] at hj ⊢; (try simp only [gg, sl] at hj ⊢); (repeat' split) <;> first | (exfalso; omega) | (exfalso; exact absurd (Nat.lt_of_lt_of_le hj (Nat.min_le_left _ _)) (by assumption)) | (cbv <;> (repeat' apply And.intro) <;> first | trivial | rfl) | (rename_i q; subst q; cbv <;> (repeat' apply And.intro) <;> first | trivial | rfl) | (rename_i q _; subst q; cbv <;> (repeat' apply And.intro) <;> first | trivial | rfl)))))))), (by (repeat' apply And.intro) <;> first | trivial | rfl), ?_⟩
  obtain ⟨g_14, h⟩ := gdb h
  have qg_14 := g_14; simp only [oo hO, ff, sl] at qg_14
  obtain ⟨g_15, h⟩ := gdb h
  have qg_15 := g_15; simp only [oo hO, ff, sl] at qg_15
  refine ⟨(by first | exact g_14 | (simp only [oo hO] at g_14 ⊢; simp only [sl] at g_14 ⊢; omega)), (by first | exact g_15 | (simp only [oo hO] at g_15 ⊢; simp only [sl] at g_15 ⊢; omega)), ?_⟩
  obtain ⟨⟨v14, v15, v16⟩, e_16, h⟩ := callb h
  refine ⟨[], _, _, _, _, true, c_impl_RunRoom hO hP e_16, ?_⟩
  cbv
  refine ⟨(by first | trivial | (simp only [oo hO, sl]; omega) | (simp only [oo hO, sl]; done)), (by first | trivial | (simp only [oo hO, sl]; omega) | (simp only [oo hO, sl]; done)), ?_⟩
  refine ⟨(by ((repeat' apply And.intro) <;> first | trivial | rfl | assumption | (simp only [oo hO, ff, sl]; done) | (simp only [oo hO, ff, sl]; omega) | (intro i hi; first | (cbv <;> (repeat' apply And.intro) <;> first | trivial | rfl | (simp only [oo hO, ff, sl]; done) | (simp only [oo hO, ff, sl]; omega) | (intro j hj; first | (cbv <;> (repeat' apply And.intro) <;> first | trivial | rfl) | (simp only [oo hO, ff, sl] at hj ⊢; (try simp only [gg, sl] at hj ⊢); (repeat' split) <;> first | (exfalso; omega) | (exfalso; exact absurd (Nat.lt_of_lt_of_le hj (Nat.min_le_left _ _)) (by assumption)) | (cbv <;> (repeat' apply And.intro) <;> first | trivial | rfl) | (rename_i q; subst q; cbv <;> (repeat' apply And.intro) <;> first | trivial | rfl) | (rename_i q _; subst q; cbv <;> (repeat' apply And.intro) <;> first | trivial | rfl)))) | (simp only [oo hO, ff, sl] at hi ⊢; (try simp only [gg, sl] at hi ⊢); (repeat' split) <;> first | (exfalso; omega) | (exfalso; exact absurd (Nat.lt_of_lt_of_le hi (Nat.min_le_left _ _)) (by assumption)) | (cbv <;> (repeat' apply And.intro) <;> first | trivial | rfl | (simp only [oo hO, ff, sl]; done) | (simp only [oo hO, ff, sl]; omega) | (intro j hj; first | (cbv <;> (repeat' apply And.intro) <;> first | trivial | rfl) | (simp only [oo hO, ff, sl] at hj ⊢; (try simp only [gg, sl] at hj ⊢); (repeat' split) <;> first | (exfalso; omega) | (exfalso; exact absurd (Nat.lt_of_lt_of_le hj (Nat.min_le_left _ _)) (by assumption)) | (cbv <;> (repeat' apply And.intro) <;> first | trivial | rfl) | (rename_i q; subst q; cbv <;> (repeat' apply And.intro) <;> first | trivial | rfl) | (rename_i q _; subst q; cbv <;> (repeat' apply And.intro) <;> first | trivial | rfl)))) | (rename_i q; subst q; cbv <;> (repeat' apply And.intro) <;> first | trivial | rfl | (simp only [oo hO, ff, sl]; done) | (simp only [oo hO, ff, sl]; omega) | (intro j hj; first | (cbv <;> (repeat' apply And.intro) <;> first | trivial | rfl) | (simp only [oo hO, ff, sl] at hj ⊢; (try simp only [gg, sl] at hj ⊢); (repeat' split) <;> first | (exfalso; omega) | (exfalso; exact absurd (Nat.lt_of_lt_of_le hj (Nat.min_le_left _ _)) (by assumption)) | (cbv <;> (repeat' apply And.intro) <;> first | trivial | rfl) | (rename_i q; subst q; cbv <;> (repeat' apply And.intro) <;> first | trivial | rfl) | (rename_i q _; subst q; cbv <;> (repeat' apply And.intro) <;> first | trivial | rfl)))) | (rename_i q _; subst q; cbv <;> (repeat' apply And.intro) <;> first | trivial | rfl | (simp only [oo hO, ff, sl]; done) | (simp only [oo hO, ff, sl]; omega) | (intro j hj; first | (cbv <;> (repeat' apply And.intro) <;> first | trivial | rfl) | (simp only [oo hO, ff, sl] at hj ⊢; (try simp only [gg, sl] at hj ⊢); (repeat' split) <;> first | (exfalso; omega) | (exfalso; exact absurd (Nat.lt_of_lt_of_le hj (Nat.min_le_left _ _)) (by assumption)) | (cbv <;> (repeat' apply And.intro) <;> first | trivial | rfl) | (rename_i q; subst q; cbv <;> (repeat' apply And.intro) <;> first | trivial | rfl) | (rename_i q _; subst q; cbv <;> (repeat' apply And.intro) <;> first | trivial | rfl)))))))), (by (repeat' apply And.intro) <;> first | trivial | rfl), ?_⟩
  refine ⟨fun b_17 => ?_, fun b_17 => ?_⟩
  rotate_left
  · cbv
    replace h := condt h (by first | exact b_17 | (simp only [oo hO, sl] at b_17 ⊢; exact b_17))
    refine ⟨?_, ?_⟩
    · first | (intro q; cases q; done) | trivial
    try intro _
    cbv
    refine ⟨?_, ?_⟩
    rotate_left
    · first | (intro q; cases q; done) | trivial
    try intro _
    cbv
    refine ⟨?_, ?_⟩
    · first | (intro q; cases q; done) | trivial
    try intro _
    cbv
    refine ⟨?_, ?_⟩
    · first | (intro q; cases q; done) | trivial
    try intro _
    cbv
    refine ⟨?_, ?_⟩
    rotate_left
    · first | (intro q; cases q; done) | trivial
    try intro _
    cbv
    refine ⟨?_, ?_⟩
    · first | (intro q; cases q; done) | trivial
    try intro _
    cbv
    refine ⟨?_, ?_⟩
    · first | (intro q; cases q; done) | trivial
    try intro _
    cbv
    refine ⟨?_, ?_⟩
    rotate_left
    · first | (intro q; cases q; done) | trivial
    try intro _
    cbv
    refine ⟨?_, ?_⟩
    · first | (intro q; cases q; done) | trivial
    try intro _
    cbv
    refine ⟨?_, ?_⟩
    · first | (intro q; cases q; done) | trivial
    try intro _
    cbv
    refine ⟨?_, ?_⟩
    · first | (intro q; cases q; done) | trivial
    try intro _
    cbv
    refine ⟨?_, ?_⟩
    rotate_left
    · first | (intro q; cases q; done) | trivial
    try intro _
    cbv
    refine ⟨?_, ?_⟩
    · first | (intro q; cases q; done) | trivial
    try intro _
    cbv
    refine ⟨?_, ?_⟩
    · first | (intro q; cases q; done) | trivial
    try intro _
    cbv
    refine ⟨?_, ?_⟩
    · first | (intro q; cases q; done) | trivial
    try intro _
    cbv
    refine ⟨?_, ?_⟩
    · first | (intro q; cases q; done) | trivial
    try intro _
    cbv
    refine ⟨?_, ?_⟩
    · first | (intro q; cases q; done) | trivial
    try intro _
    cbv
    refine ⟨?_, ?_⟩
    · first | (intro q; cases q; done) | trivial
    try intro _
    cbv
    refine ⟨?_, ?_⟩
    · first | (intro q; cases q; done) | trivial
    try intro _
    cbv
    refine ⟨?_, ?_⟩
    · first | (intro q; cases q; done) | trivial
    try intro _
    cbv
    refine ⟨?_, ?_⟩
    rotate_left
    · first | (intro q; cases q; done) | trivial
    try intro _
    cbv
    refine ⟨?_, ?_⟩
    · first | (intro q; cases q; done) | trivial
    try intro _
    cbv
    refine ⟨?_, ?_⟩
    · first | (intro q; cases q; done) | trivial
    try intro _
    cbv
    refine ⟨?_, ?_⟩
    · first | (intro q; cases q; done) | trivial
    try intro _
    cbv
    refine ⟨?_, ?_⟩
    · first | (intro q; cases q; done) | trivial
    try intro _
    cbv
    refine ⟨?_, ?_⟩
    · first | (intro q; cases q; done) | trivial
    try intro _
    cbv
    refine ⟨?_, ?_⟩
    rotate_left
    · first | (intro q; cases q; done) | trivial
    try intro _
    cbv
    refine ⟨?_, ?_⟩
    rotate_left
    · first | (intro q; cases q; done) | trivial
    try intro _
    cbv
    replace h := (endb h).trans hr
    cases h
    ((repeat' apply And.intro) <;> first | trivial | rfl | assumption | (simp only [oo hO, ff, sl]; done) | (simp only [oo hO, ff, sl]; omega) | (intro i hi; first | (cbv <;> (repeat' apply And.intro) <;> first | trivial | rfl | (simp only [oo hO, ff, sl]; done) | (simp only [oo hO, ff, sl]; omega) | (intro j hj; first | (cbv <;> (repeat' apply And.intro) <;> first | trivial | rfl) | (simp only [oo hO, ff, sl] at hj ⊢; (try simp only [gg, sl] at hj ⊢); (repeat' split) <;> first | (exfalso; omega) | (exfalso; exact absurd (Nat.lt_of_lt_of_le hj (Nat.min_le_left _ _)) (by assumption)) | (cbv <;> (repeat' apply And.intro) <;> first | trivial | rfl) | (rename_i q; subst q; cbv <;> (repeat' apply And.intro) <;> first | trivial | rfl) | (rename_i q _; subst q; cbv <;> (repeat' apply And.intro) <;> first | trivial | rfl)))) | (simp only [oo hO, ff, sl] at hi ⊢; (try simp only [gg, sl] at hi ⊢); (repeat' split) <;> first | (exfalso; omega) | (exfalso; exact absurd (Nat.lt_of_lt_of_le hi (Nat.min_le_left _ _)) (by assumption)) | (cbv <;> (repeat' apply And.intro) <;> first | trivial | rfl | (simp only [oo hO, ff, sl]; done) | (simp only [oo hO, ff, sl]; omega) | (intro j hj; first | (cbv <;> (repeat' apply And.intro) <;> first | trivial | rfl) | (simp only [oo hO, ff, sl] at hj ⊢; (try simp only [gg, sl] at hj ⊢); (repeat' split) <;> first | (exfalso; omega) | (exfalso; exact absurd (Nat.lt_of_lt_of_le hj (Nat.min_le_left _ _)) (by assumption)) | (cbv <;> (repeat' apply And.intro) <;> first | trivial | rfl) | (rename_i q; subst q; cbv <;> (repeat' apply And.intro) <;> first | trivial | rfl) | (rename_i q _; subst q; cbv <;> (repeat' apply And.intro) <;> first | trivial | rfl)))) | (rename_i q; subst q; cbv <;> (repeat' apply And.intro) <;> first | trivial | rfl | (simp only [oo hO, ff, sl]; done) | (simp only [oo hO, ff, sl]; omega) | (intro j hj; first | (cbv <;> (repeat' apply And.intro) <;> first | trivial | rfl) | (simp only [oo hO, ff, sl] at hj ⊢; (try simp only [gg, sl] at hj ⊢); (repeat' split) <;> first | (exfalso; omega) | (exfalso; exact absurd (Nat.lt_of_lt_of_le hj (Nat.min_le_left _ _)) (by assumption)) | (cbv <;> (repeat' apply And.intro) <;> first | trivial | rfl) | (rename_i q; subst q; cbv <;> (repeat' apply And.intro) <;> first | trivial | rfl) | (rename_i q _; subst q; cbv <;> (repeat' apply And.intro) <;> first | trivial | rfl)))) | (rename_i q _; subst q; cbv <;> (repeat' apply And.intro) <;> first | trivial | rfl | (simp only [oo hO, ff, sl]; done) | (simp only [oo hO, ff, sl]; omega) | (intro j hj; first | (cbv <;> (repeat' apply And.intro) <;> first | trivial | rfl) | (simp only [oo hO, ff, sl] at hj ⊢; (try simp only [gg, sl] at hj ⊢); (repeat' split) <;> first | (exfalso; omega) | (exfalso; exact absurd (Nat.lt_of_lt_of_le hj (Nat.min_le_left _ _)) (by assumption)) | (cbv <;> (repeat' apply And.intro) <;> first | trivial | rfl) | (rename_i q; subst q; cbv <;> (repeat' apply And.intro) <;> first | trivial | rfl) | (rename_i q _; subst q; cbv <;> (repeat' apply And.intro) <;> first | trivial | rfl)))))))
  cbv
  replace h := condf h (by first | exact b_17 | (simp only [oo hO, sl] at b_17 ⊢; exact b_17))
  refine ⟨?_, ?_⟩
  rotate_left
  · first | (intro q; cases q; done) | trivial
  try intro _
  cbv
  refine ⟨?_, ?_⟩
  · first | (intro q; cases q; done) | trivial
  try intro _
  cbv
  refine ⟨fun b_18 => ?_, fun b_18 => ?_⟩
  rotate_left
  · cbv
    replace h := condt h (by first | exact b_18 | (simp only [oo hO, sl] at b_18 ⊢; exact b_18))
    refine ⟨?_, ?_⟩
    · first | (intro q; cases q; done) | trivial
    try intro _
    cbv
    refine ⟨?_, ?_⟩
    rotate_left
    · first | (intro q; cases q; done) | trivial
    try intro _
    cbv
    refine ⟨?_, ?_⟩
    · first | (intro q; cases q; done) | trivial
    try intro _
    cbv
    refine ⟨?_, ?_⟩
    · first | (intro q; cases q; done) | trivial
    try intro _
    cbv
    refine ⟨?_, ?_⟩
    rotate_left
    · first | (intro q; cases q; done) | trivial
    try intro _
    cbv
    refine ⟨?_, ?_⟩
    · first | (intro q; cases q; done) | trivial
    try intro _
    cbv
    refine ⟨?_, ?_⟩
    · first | (intro q; cases q; done) | trivial
    try intro _
    cbv
    refine ⟨?_, ?_⟩
    · first | (intro q; cases q; done) | trivial
    try intro _
    cbv
    refine ⟨?_, ?_⟩
    rotate_left
    · first | (intro q; cases q; done) | trivial
    try intro _
    cbv
    refine ⟨?_, ?_⟩
    · first | (intro q; cases q; done) | trivial
    try intro _
    cbv
    refine ⟨?_, ?_⟩
    · first | (intro q; cases q; done) | trivial
    try intro _
    cbv
    refine ⟨?_, ?_⟩
    · first | (intro q; cases q; done) | trivial
    try intro _
    cbv
    refine ⟨?_, ?_⟩
    · first | (intro q; cases q; done) | trivial
    try intro _
    cbv
    refine ⟨?_, ?_⟩
    · first | (intro q; cases q; done) | trivial
    try intro _
    cbv
    refine ⟨?_, ?_⟩
    · first | (intro q; cases q; done) | trivial
    try intro _
    cbv
    refine ⟨?_, ?_⟩
    · first | (intro q; cases q; done) | trivial
    try intro _
    cbv
    refine ⟨?_, ?_⟩
    · first | (intro q; cases q; done) | trivial
    try intro _
    cbv
    refine ⟨?_, ?_⟩
    rotate_left
    · first | (intro q; cases q; done) | trivial
    try intro _
    cbv
    refine ⟨?_, ?_⟩
    · first | (intro q; cases q; done) | trivial
    try intro _
    cbv
    refine ⟨?_, ?_⟩
    · first | (intro q; cases q; done) | trivial
    try intro _
    cbv
    refine ⟨?_, ?_⟩
    · first | (intro q; cases q; done) | trivial
    try intro _
    cbv
    refine ⟨?_, ?_⟩
    · first | (intro q; cases q; done) | trivial
    try intro _
    cbv
    refine ⟨?_, ?_⟩
    · first | (intro q; cases q; done) | trivial
    try intro _
    cbv
    refine ⟨?_, ?_⟩
    rotate_left
    · first | (intro q; cases q; done) | trivial
    try intro _
    cbv
    refine ⟨?_, ?_⟩
    rotate_left
    · first | (intro q; cases q; done) | trivial
    try intro _
    cbv
    replace h := (endb h).trans hr
    cases h
    ((repeat' apply And.intro) <;> first | trivial | rfl | assumption | (simp only [oo hO, ff, sl]; done) | (simp only [oo hO, ff, sl]; omega) | (intro i hi; first | (cbv <;> (repeat' apply And.intro) <;> first | trivial | rfl | (simp only [oo hO, ff, sl]; done) | (simp only [oo hO, ff, sl]; omega) | (intro j hj; first | (cbv <;> (repeat' apply And.intro) <;> first | trivial | rfl) | (simp only [oo hO, ff, sl] at hj ⊢; (try simp only [gg, sl] at hj ⊢); (repeat' split) <;> first | (exfalso; omega) | (exfalso; exact absurd (Nat.lt_of_lt_of_le hj (Nat.min_le_left _ _)) (by assumption)) | (cbv <;> (repeat' apply And.intro) <;> first | trivial | rfl) | (rename_i q; subst q; cbv <;> (repeat' apply And.intro) <;> first | trivial | rfl) | (rename_i q _; subst q; cbv <;> (repeat' apply And.intro) <;> first | trivial | rfl)))) | (simp only [oo hO, ff, sl] at hi ⊢; (try simp only [gg, sl] at hi ⊢); (repeat' split) <;> first | (exfalso; omega) | (exfalso; exact absurd (Nat.lt_of_lt_of_le hi (Nat.min_le_left _ _)) (by assumption)) | (cbv <;> (repeat' apply And.intro) <;> first | trivial | rfl | (simp only [oo hO, ff, sl]; done) | (simp only [oo hO, ff, sl]; omega) | (intro j hj; first | (cbv <;> (repeat' apply And.intro) <;> first | trivial | rfl) | (simp only [oo hO, ff, sl] at hj ⊢; (try simp only [gg, sl] at hj ⊢); (repeat' split) <;> first | (exfalso; omega) | (exfalso; exact absurd (Nat.lt_of_lt_of_le hj (Nat.min_le_left _ _)) (by assumption)) | (cbv <;> (repeat' apply And.intro) <;> first | trivial | rfl) | (rename_i q; subst q; cbv <;> (repeat' apply And.intro) <;> first | trivial | rfl) | (rename_i q _; subst q; cbv <;> (repeat' apply And.intro) <;> first | trivial | rfl)))) | (rename_i q; subst q; cbv <;> (repeat' apply And.intro) <;> first | trivial | rfl | (simp only [oo hO, ff, sl]; done) | (simp only [oo hO, ff, sl]; omega) | (intro j hj; first | (cbv <;> (repeat' apply And.intro) <;> first | trivial | rfl) | (simp only [oo hO, ff, sl] at hj ⊢; (try simp only [gg, sl] at hj ⊢); (repeat' split) <;> first | (exfalso; omega) | (exfalso; exact absurd (Nat.lt_of_lt_of_le hj (Nat.min_le_left _ _)) (by assumption)) | (cbv <;> (repeat' apply And.intro) <;> first | trivial | rfl) | (rename_i q; subst q; cbv <;> (repeat' apply And.intro) <;> first | trivial | rfl) | (rename_i q _; subst q; cbv <;> (repeat' apply And.intro) <;> first | trivial | rfl)))) | (rename_i q _; subst q; cbv <;> (repeat' apply And.intro) <;> first | trivial | rfl | (simp only [oo hO, ff, sl]; done) | (simp only [oo hO, ff, sl]; omega) | (intro j hj; first | (cbv <;> (repeat' apply And.intro) <;> first | trivial | rfl) | (simp only [oo hO, ff, sl] at hj ⊢; (try simp only [gg, sl] at hj ⊢); (repeat' split) <;> first | (exfalso; omega) | (exfalso; exact absurd (Nat.lt_of_lt_of_le hj (Nat.min_le_left _ _)) (by assumption)) | (cbv <;> (repeat' apply And.intro) <;> first | trivial | rfl) | (rename_i q; subst q; cbv <;> (repeat' apply And.intro) <;> first | trivial | rfl) | (rename_i q _; subst q; cbv <;> (repeat' apply And.intro) <;> first | trivial | rfl)))))))
  cbv
  replace h := condf h (by first | exact b_18 | (simp only [oo hO, sl] at b_18 ⊢; exact b_18))
  refine ⟨?_, ?_⟩
  rotate_left
  · first | (intro q; cases q; done) | trivial
  try intro _
  cbv
  refine ⟨?_, ?_⟩
  · first | (intro q; cases q; done) | trivial
  try intro _
  cbv
  refine ⟨fun b_19 => ?_, fun b_19 => ?_⟩
  rotate_left
  · cbv
    replace h := condt h (by first | exact b_19 | (simp only [oo hO, sl] at b_19 ⊢; exact b_19))
    refine ⟨?_, ?_⟩
    · first | (intro q; cases q; done) | trivial
    try intro _
    cbv
    refine ⟨?_, ?_⟩
    rotate_left
    · first | (intro q; cases q; done) | trivial
    try intro _
    cbv
    refine ⟨?_, ?_⟩
    · first | (intro q; cases q; done) | trivial
    try intro _
    cbv
    refine ⟨?_, ?_⟩
    · first | (intro q; cases q; done) | trivial
    try intro _
    cbv
    refine ⟨?_, ?_⟩
    · first | (intro q; cases q; done) | trivial
    try intro _
    cbv
    refine ⟨?_, ?_⟩
    rotate_left
    · first | (intro q; cases q; done) | trivial
    try intro _
    cbv
    refine ⟨?_, ?_⟩
    · first | (intro q; cases q; done) | trivial
    try intro _
    cbv
    refine ⟨?_, ?_⟩
    · first | (intro q; cases q; done) | trivial
    try intro _
    cbv
    refine ⟨?_, ?_⟩
    · first | (intro q; cases q; done) | trivial
    try intro _
    cbv
    refine ⟨?_, ?_⟩
    · first | (intro q; cases q; done) | trivial
    try intro _
    cbv
    refine ⟨?_, ?_⟩
    · first | (intro q; cases q; done) | trivial
    try intro _
    cbv
    refine ⟨?_, ?_⟩
    · first | (intro q; cases q; done) | trivial
    try intro _
    cbv
    refine ⟨?_, ?_⟩
    · first | (intro q; cases q; done) | trivial
    try intro _
    cbv
    refine ⟨?_, ?_⟩
    · first | (intro q; cases q; done) | trivial
    try intro _
    cbv
    refine ⟨?_, ?_⟩
    rotate_left
    · first | (intro q; cases q; done) | trivial
    try intro _
    cbv
    refine ⟨?_, ?_⟩
    · first | (intro q; cases q; done) | trivial
    try intro _
    cbv
    refine ⟨?_, ?_⟩
    · first | (intro q; cases q; done) | trivial
    try intro _
    cbv
    refine ⟨?_, ?_⟩
    · first | (intro q; cases q; done) | trivial
    try intro _
    cbv
    refine ⟨?_, ?_⟩
    · first | (intro q; cases q; done) | trivial
    try intro _
    cbv
    refine ⟨?_, ?_⟩
    · first | (intro q; cases q; done) | trivial
    try intro _
    cbv
    refine ⟨?_, ?_⟩
    rotate_left
    · first | (intro q; cases q; done) | trivial
    try intro _
    cbv
    refine ⟨?_, ?_⟩
    rotate_left
    · first | (intro q; cases q; done) | trivial
    try intro _
    cbv
    replace h := (endb h).trans hr
    cases h
    ((repeat' apply And.intro) <;> first | trivial | rfl | assumption | (simp only [oo hO, ff, sl]; done) | (simp only [oo hO, ff, sl]; omega) | (intro i hi; first | (cbv <;> (repeat' apply And.intro) <;> first | trivial | rfl | (simp only [oo hO, ff, sl]; done) | (simp only [oo hO, ff, sl]; omega) | (intro j hj; first | (cbv <;> (repeat' apply And.intro) <;> first | trivial | rfl) | (simp only [oo hO, ff, sl] at hj ⊢; (try simp only [gg, sl] at hj ⊢); (repeat' split) <;> first | (exfalso; omega) | (exfalso; exact absurd (Nat.lt_of_lt_of_le hj (Nat.min_le_left _ _)) (by assumption)) | (cbv <;> (repeat' apply And.intro) <;> first | trivial | rfl) | (rename_i q; subst q; cbv <;> (repeat' apply And.intro) <;> first | trivial | rfl) | (rename_i q _; subst q; cbv <;> (repeat' apply And.intro) <;> first | trivial | rfl)))) | (simp only [oo hO, ff, sl] at hi ⊢; (try simp only [gg, sl] at hi ⊢); (repeat' split) <;> first | (exfalso; omega) | (exfalso; exact absurd (Nat.lt_of_lt_of_le hi (Nat.min_le_left _ _)) (by assumption)) | (cbv <;> (repeat' apply And.intro) <;> first | trivial | rfl | (simp only [oo hO, ff, sl]; done) | (simp only [oo hO, ff, sl]; omega) | (intro j hj; first | (cbv <;> (repeat' apply And.intro) <;> first | trivial | rfl) | (simp only [oo hO, ff, sl] at hj ⊢; (try simp only [gg, sl] at hj ⊢); (repeat' split) <;> first | (exfalso; omega) | (exfalso; exact absurd (Nat.lt_of_lt_of_le hj (Nat.min_le_left _ _)) (by assumption)) | (cbv <;> (repeat' apply And.intro) <;> first | trivial | rfl) | (rename_i q; subst q; cbv <;> (repeat' apply And.intro) <;> first | trivial | rfl) | (rename_i q _; subst q; cbv <;> (repeat' apply And.intro) <;> first | trivial | rfl)))) | (rename_i q; subst q; cbv <;> (repeat' apply And.intro) <;> first | trivial | rfl | (simp only [oo hO, ff, sl]; done) | (simp only [oo hO, ff, sl]; omega) | (intro j hj; first | (cbv <;> (repeat' apply And.intro) <;> first | trivial | rfl) | (simp only [oo hO, ff, sl] at hj ⊢; (try simp only [gg, sl] at hj ⊢); (repeat' split) <;> first | (exfalso; omega) | (exfalso; exact absurd (Nat.lt_of_lt_of_le hj (Nat.min_le_left _ _)) (by assumption)) | (cbv <;> (repeat' apply And.intro) <;> first | trivial | rfl) | (rename_i q; subst q; cbv <;> (repeat' apply And.intro) <;> first | trivial | rfl) | (rename_i q _; subst q; cbv <;> (repeat' apply And.intro) <;> first | trivial | rfl)))) | (rename_i q _; subst q; cbv <;> (repeat' apply And.intro) <;> first | trivial | rfl | (simp only [oo hO, ff, sl]; done) | (simp only [oo hO, ff, sl]; omega) | (intro j hj; first | (cbv <;> (repeat' apply And.intro) <;> first | trivial | rfl) | (simp only [oo hO, ff, sl] at hj ⊢; (try simp only [gg, sl] at hj ⊢); (repeat' split) <;> first | (exfalso; omega) | (exfalso; exact absurd (Nat.lt_of_lt_of_le hj (Nat.min_le_left _ _)) (by assumption)) | (cbv <;> (repeat' apply And.intro) <;> first | trivial | rfl) | (rename_i q; subst q; cbv <;> (repeat' apply And.intro) <;> first | trivial | rfl) | (rename_i q _; subst q; cbv <;> (repeat' apply And.intro) <;> first | trivial | rfl)))))))
  cbv
  replace h := condf h (by first | exact b_19 | (simp only [oo hO, sl] at b_19 ⊢; exact b_19))
  refine ⟨?_, ?_⟩
  rotate_left
  · first | (intro q; cases q; done) | trivial
  try intro _
  cbv
  refine ⟨?_, ?_⟩
  · first | (intro q; cases q; done) | trivial
  try intro _
  cbv
  refine ⟨fun b_20 => ?_, fun b_20 => ?_⟩
  rotate_left
  · cbv
    replace h := condt h (by first | exact b_20 | (simp only [oo hO, sl] at b_20 ⊢; exact b_20))
    refine ⟨?_, ?_⟩
    · first | (intro q; cases q; done) | trivial
    try intro _
    cbv
    refine ⟨?_, ?_⟩
    · first | (intro q; cases q; done) | trivial
    try intro _
    cbv
    refine ⟨?_, ?_⟩
    rotate_left
    · first | (intro q; cases q; done) | trivial
    try intro _
    cbv
    refine ⟨?_, ?_⟩
    · first | (intro q; cases q; done) | trivial
    try intro _
    cbv
    refine ⟨?_, ?_⟩
    · first | (intro q; cases q; done) | trivial
    try intro _
    cbv
    refine ⟨?_, ?_⟩
    · first | (intro q; cases q; done) | trivial
    try intro _
    cbv
    refine ⟨?_, ?_⟩
    · first | (intro q; cases q; done) | trivial
    try intro _
    cbv
    refine ⟨?_, ?_⟩
    · first | (intro q; cases q; done) | trivial
    try intro _
    cbv
    refine ⟨?_, ?_⟩
    · first | (intro q; cases q; done) | trivial
    try intro _
    cbv
    refine ⟨?_, ?_⟩
    · first | (intro q; cases q; done) | trivial
    try intro _
    cbv
    refine ⟨?_, ?_⟩
    · first | (intro q; cases q; done) | trivial
    try intro _
    cbv
    refine ⟨?_, ?_⟩
    rotate_left
    · first | (intro q; cases q; done) | trivial
    try intro _
    cbv
    refine ⟨?_, ?_⟩
    · first | (intro q; cases q; done) | trivial
    try intro _
    cbv
    refine ⟨?_, ?_⟩
    · first | (intro q; cases q; done) | trivial
    try intro _
    cbv
    refine ⟨?_, ?_⟩
    · first | (intro q; cases q; done) | trivial
    try intro _
    cbv
    refine ⟨?_, ?_⟩
    · first | (intro q; cases q; done) | trivial
    try intro _
    cbv
    refine ⟨?_, ?_⟩
    · first | (intro q; cases q; done) | trivial
    try intro _
    cbv
    refine ⟨?_, ?_⟩
    rotate_left
    · first | (intro q; cases q; done) | trivial
    try intro _
    cbv
    refine ⟨?_, ?_⟩
    rotate_left
    · first | (intro q; cases q; done) | trivial
    try intro _
    cbv
    replace h := (endb h).trans hr
    cases h
    ((repeat' apply And.intro) <;> first | trivial | rfl | assumption | (simp only [oo hO, ff, sl]; done) | (simp only [oo hO, ff, sl]; omega) | (intro i hi; first | (cbv <;> (repeat' apply And.intro) <;> first | trivial | rfl | (simp only [oo hO, ff, sl]; done) | (simp only [oo hO, ff, sl]; omega) | (intro j hj; first | (cbv <;> (repeat' apply And.intro) <;> first | trivial | rfl) | (simp only [oo hO, ff, sl] at hj ⊢; (try simp only [gg, sl] at hj ⊢); (repeat' split) <;> first | (exfalso; omega) | (exfalso; exact absurd (Nat.lt_of_lt_of_le hj (Nat.min_le_left _ _)) (by assumption)) | (cbv <;> (repeat' apply And.intro) <;> first | trivial | rfl) | (rename_i q; subst q; cbv <;> (repeat' apply And.intro) <;> first | trivial | rfl) | (rename_i q _; subst q; cbv <;> (repeat' apply And.intro) <;> first | trivial | rfl)))) | (simp only [oo hO, ff, sl] at hi ⊢; (try simp only [gg, sl] at hi ⊢); (repeat' split) <;> first | (exfalso; omega) | (exfalso; exact absurd (Nat.lt_of_lt_of_le hi (Nat.min_le_left _ _)) (by assumption)) | (cbv <;> (repeat' apply And.intro) <;> first | trivial | rfl | (simp only [oo hO, ff, sl]; done) | (simp only [oo hO, ff, sl]; omega) | (intro j hj; first | (cbv <;> (repeat' apply And.intro) <;> first | trivial | rfl) | (simp only [oo hO, ff, sl] at hj ⊢; (try simp only [gg, sl] at hj ⊢); (repeat' split) <;> first | (exfalso; omega) | (exfalso; exact absurd (Nat.lt_of_lt_of_le hj (Nat.min_le_left _ _)) (by assumption)) | (cbv <;> (repeat' apply And.intro) <;> first | trivial | rfl) | (rename_i q; subst q; cbv <;> (repeat' apply And.intro) <;> first | trivial | rfl) | (rename_i q _; subst q; cbv <;> (repeat' apply And.intro) <;> first | trivial | rfl)))) | (rename_i q; subst q; cbv <;> (repeat' apply And.intro) <;> first | trivial | rfl | (simp only [oo hO, ff, sl]; done) | (simp only [oo hO, ff, sl]; omega) | (intro j hj; first | (cbv <;> (repeat' apply And.intro) <;> first | trivial | rfl) | (simp only [oo hO, ff, sl] at hj ⊢; (try simp only [gg, sl] at hj ⊢); (repeat' split) <;> first | (exfalso; omega) | (exfalso; exact absurd (Nat.lt_of_lt_of_le hj (Nat.min_le_left _ _)) (by assumption)) | (cbv <;> (repeat' apply And.intro) <;> first | trivial | rfl) | (rename_i q; subst q; cbv <;> (repeat' apply And.intro) <;> first | trivial | rfl) | (rename_i q _; subst q; cbv <;> (repeat' apply And.intro) <;> first | trivial | rfl)))) | (rename_i q _; subst q; cbv <;> (repeat' apply And.intro) <;> first | trivial | rfl | (simp only [oo hO, ff, sl]; done) | (simp only [oo hO, ff, sl]; omega) | (intro j hj; first | (cbv <;> (repeat' apply And.intro) <;> first | trivial | rfl) | (simp only [oo hO, ff, sl] at hj ⊢; (try simp only [gg, sl] at hj ⊢); (repeat' split) <;> first | (exfalso; omega) | (exfalso; exact absurd (Nat.lt_of_lt_of_le hj (Nat.min_le_left _ _)) (by assumption)) | (cbv <;> (repeat' apply And.intro) <;> first | trivial | rfl) | (rename_i q; subst q; cbv <;> (repeat' apply And.intro) <;> first | trivial | rfl) | (rename_i q _; subst q; cbv <;> (repeat' apply And.intro) <;> first | trivial | rfl)))))))
  cbv
  replace h := condf h (by first | exact b_20 | (simp only [oo hO, sl] at b_20 ⊢; exact b_20))
  refine ⟨?_, ?_⟩
  rotate_left
  · first | (intro q; cases q; done) | trivial
  try intro _
  cbv
  obtain ⟨v17, e_21, h⟩ := callb h
  refine ⟨[], _, _, _, _, false, c_impl_ValidRoom hO hP e_21, ?_⟩
  cbv
  refine ⟨(by (repeat' apply And.intro) <;> first | trivial | rfl | (intro i hi; first | (cbv <;> (repeat' apply And.intro) <;> first | trivial | rfl) | (simp only [oo hO, sl]; cbv <;> (repeat' apply And.intro) <;> first | trivial | rfl))), (by (repeat' apply And.intro) <;> first | trivial | rfl), ?_⟩
  refine ⟨?_, ?_⟩
  rotate_left
  · first | (intro q; cases q; done) | trivial
  try intro _
  cbv
  refine ⟨?_, ?_⟩
  · first | (intro q; cases q; done) | trivial
  try intro _
  cbv
  refine ⟨fun b_22 => ?_, fun b_22 => ?_⟩
  rotate_left
  · cbv
    replace h := condt h (by first | exact b_22 | (simp only [oo hO, sl] at b_22 ⊢; exact b_22))
    refine ⟨?_, ?_⟩
    · first | (intro q; cases q; done) | trivial
    try intro _
    cbv
    refine ⟨?_, ?_⟩
    · first | (intro q; cases q; done) | trivial
    try intro _
    cbv
    refine ⟨?_, ?_⟩
    · first | (intro q; cases q; done) | trivial
    try intro _
    cbv
    refine ⟨?_, ?_⟩
    · first | (intro q; cases q; done) | trivial
    try intro _
    cbv
    refine ⟨?_, ?_⟩
    · first | (intro q; cases q; done) | trivial
    try intro _
    cbv
    refine ⟨?_, ?_⟩
    · first | (intro q; cases q; done) | trivial
    try intro _
    cbv
    refine ⟨?_, ?_⟩
    · first | (intro q; cases q; done) | trivial
    try intro _
    cbv
    refine ⟨?_, ?_⟩
    rotate_left
    · first | (intro q; cases q; done) | trivial
    try intro _
    cbv
    refine ⟨?_, ?_⟩
    · first | (intro q; cases q; done) | trivial
    try intro _
    cbv
    refine ⟨?_, ?_⟩
    · first | (intro q; cases q; done) | trivial
    try intro _
    cbv
    refine ⟨?_, ?_⟩
    · first | (intro q; cases q; done) | trivial
    try intro _
    cbv
    refine ⟨?_, ?_⟩
    · first | (intro q; cases q; done) | trivial
    try intro _
    cbv
    refine ⟨?_, ?_⟩
    · first | (intro q; cases q; done) | trivial
    try intro _
    cbv
    refine ⟨?_, ?_⟩
    rotate_left
    · first | (intro q; cases q; done) | trivial
    try intro _
    cbv
    refine ⟨?_, ?_⟩
    rotate_left
    · first | (intro q; cases q; done) | trivial
    try intro _
    cbv
    replace h := (endb h).trans hr
    cases h
    ((repeat' apply And.intro) <;> first | trivial | rfl | assumption | (simp only [oo hO, ff, sl]; done) | (simp only [oo hO, ff, sl]; omega) | (intro i hi; first | (cbv <;> (repeat' apply And.intro) <;> first | trivial | rfl | (simp only [oo hO, ff, sl]; done) | (simp only [oo hO, ff, sl]; omega) | (intro j hj; first | (cbv <;> (repeat' apply And.intro) <;> first | trivial | rfl) | (simp only [oo hO, ff, sl] at hj ⊢; (try simp only [gg, sl] at hj ⊢); (repeat' split) <;> first | (exfalso; omega) | (exfalso; exact absurd (Nat.lt_of_lt_of_le hj (Nat.min_le_left _ _)) (by assumption)) | (cbv <;> (repeat' apply And.intro) <;> first | trivial | rfl) | (rename_i q; subst q; cbv <;> (repeat' apply And.intro) <;> first | trivial | rfl) | (rename_i q _; subst q; cbv <;> (repeat' apply And.intro) <;> first | trivial | rfl)))) | (simp only [oo hO, ff, sl] at hi ⊢; (try simp only [gg, sl] at hi ⊢); (repeat' split) <;> first | (exfalso; omega) | (exfalso; exact absurd (Nat.lt_of_lt_of_le hi (Nat.min_le_left _ _)) (by assumption)) | (cbv <;> (repeat' apply And.intro) <;> first | trivial | rfl | (simp only [oo hO, ff, sl]; done) | (simp only [oo hO, ff, sl]; omega) | (intro j hj; first | (cbv <;> (repeat' apply And.intro) <;> first | trivial | rfl) | (simp only [oo hO, ff, sl] at hj ⊢; (try simp only [gg, sl] at hj ⊢); (repeat' split) <;> first | (exfalso; omega) | (exfalso; exact absurd (Nat.lt_of_lt_of_le hj (Nat.min_le_left _ _)) (by assumption)) | (cbv <;> (repeat' apply And.intro) <;> first | trivial | rfl) | (rename_i q; subst q; cbv <;> (repeat' apply And.intro) <;> first | trivial | rfl) | (rename_i q _; subst q; cbv <;> (repeat' apply And.intro) <;> first | trivial | rfl)))) | (rename_i q; subst q; cbv <;> (repeat' apply And.intro) <;> first | trivial | rfl | (simp only [oo hO, ff, sl]; done) | (simp only [oo hO, ff, sl]; omega) | (intro j hj; first | (cbv <;> (repeat' apply And.intro) <;> first | trivial | rfl) | (simp only [oo hO, ff, sl] at hj ⊢; (try simp only [gg, sl] at hj ⊢); (repeat' split) <;> first | (exfalso; omega) | (exfalso; exact absurd (Nat.lt_of_lt_of_le hj (Nat.min_le_left _ _)) (by assumption)) | (cbv <;> (repeat' apply And.intro) <;> first | trivial | rfl) | (rename_i q; subst q; cbv <;> (repeat' apply And.intro) <;> first | trivial | rfl) | (rename_i q _; subst q; cbv <;> (repeat' apply And.intro) <;> first | trivial | rfl)))) | (rename_i q _; subst q; cbv <;> (repeat' apply And.intro) <;> first | trivial | rfl | (simp only [oo hO, ff, sl]; done) | (simp only [oo hO, ff, sl]; omega) | (intro j hj; first | (cbv <;> (repeat' apply And.intro) <;> first | trivial | rfl) | (simp only [oo hO, ff, sl] at hj ⊢; (try simp only [gg, sl] at hj ⊢); (repeat' split) <;> first | (exfalso; omega) | (exfalso; exact absurd (Nat.lt_of_lt_of_le hj (Nat.min_le_left _ _)) (by assumption)) | (cbv <;> (repeat' apply And.intro) <;> first | trivial | rfl) | (rename_i q; subst q; cbv <;> (repeat' apply And.intro) <;> first | trivial | rfl) | (rename_i q _; subst q; cbv <;> (repeat' apply And.intro) <;> first | trivial | rfl)))))))
  cbv
  replace h := condf h (by first | exact b_22 | (simp only [oo hO, sl] at b_22 ⊢; exact b_22))
  refine ⟨?_, ?_⟩
  rotate_left
  · first | (intro q; cases q; done) | trivial
  try intro _
  cbv
  refine ⟨?_, ?_⟩
  rotate_left
  · first | (intro q; cases q; done) | trivial
  try intro _
  cbv
  obtain ⟨g_23, h⟩ := gdb h
  refine ⟨(by first | trivial | (simp only [oo hO, sl]; omega) | (simp only [oo hO, sl]; done)), (by first | exact g_23 | (simp only [oo hO] at g_23 ⊢; simp only [sl] at g_23 ⊢; omega)), (by first | trivial | (simp only [oo hO, sl]; omega) | (simp only [oo hO, sl]; done)), ?_⟩
  refine ⟨?_, ?_⟩
  rotate_left
  · first | (intro q; cases q; done) | trivial
  try intro _
  cbv
  refine ⟨?_, ?_⟩
  rotate_left
  · first | (intro q; cases q; done) | trivial
  try intro _
  cbv
  obtain ⟨g_24, h⟩ := gdb h
  refine ⟨(by first | trivial | (simp only [oo hO, sl]; omega) | (simp only [oo hO, sl]; done)), (by first | exact g_24 | (simp only [oo hO] at g_24 ⊢; simp only [sl] at g_24 ⊢; omega)), (by first | trivial | (simp only [oo hO, sl]; omega) | (simp only [oo hO, sl]; done)), ?_⟩
  refine ⟨?_, ?_⟩
  rotate_left
  · first | (intro q; cases q; done) | trivial
  try intro _
  cbv
  refine ⟨?_, ?_⟩
  rotate_left
  · first | (intro q; cases q; done) | trivial
  try intro _
  cbv
  obtain ⟨v18, e_25, h⟩ := callb h
  refine ⟨[], _, _, _, _, false, c_laws_b10Same hO hP e_25, ?_⟩
  cbv
  refine ⟨(by first | trivial | (simp only [oo hO, sl]; omega) | (simp only [oo hO, sl]; done)), (by first | trivial | (simp only [oo hO, sl]; omega) | (simp only [oo hO, sl]; done)), ?_⟩
  refine ⟨(by ((repeat' apply And.intro) <;> first | trivial | rfl | assumption | (simp only [oo hO, ff, sl]; done) | (simp only [oo hO, ff, sl]; omega) | (intro i hi; first | (cbv <;> (repeat' apply And.intro) <;> first | trivial | rfl | (simp only [oo hO, ff, sl]; done) | (simp only [oo hO, ff, sl]; omega) | (intro j hj; first | (cbv <;> (repeat' apply And.intro) <;> first | trivial | rfl) | (simp only [oo hO, ff, sl] at hj ⊢; (try simp only [gg, sl] at hj ⊢); (repeat' split) <;> first | (exfalso; omega) | (exfalso; exact absurd (Nat.lt_of_lt_of_le hj (Nat.min_le_left _ _)) (by assumption)) | (cbv <;> (repeat' apply And.intro) <;> first | trivial | rfl) | (rename_i q; subst q; cbv <;> (repeat' apply And.intro) <;> first | trivial | rfl) | (rename_i q _; subst q; cbv <;> (repeat' apply And.intro) <;> first | trivial | rfl)))) | (simp only [oo hO, ff, sl] at hi ⊢; (try simp only [gg, sl] at hi ⊢); (repeat' split) <;> first | (exfalso; omega) | (exfalso; exact absurd (Nat.lt_of_lt_of_le hi (Nat.min_le_left _ _)) (by assumption)) | (cbv <;> (repeat' apply And.intro) <;> first | trivial | rfl | (simp only [oo hO, ff, sl]; done) | (simp only [oo hO, ff, sl]; omega) | (intro j hj; first | (cbv <;> (repeat' apply And.intro) <;> first | trivial | rfl) | (simp only [oo hO, ff, sl] at hj ⊢; (try simp only [gg, sl] at hj ⊢); (repeat' split) <;> first | (exfalso; omega) | (exfalso; exact absurd (Nat.lt_of_lt_of_le hj (Nat.min_le_left _ _)) (by assumption)) | (cbv <;> (repeat' apply And.intro) <;> first | trivial | rfl) | (rename_i q; subst q; cbv <;> (repeat' apply And.intro) <;> first | trivial | rfl) | (rename_i q _; subst q; cbv <;> (repeat' apply And.intro) <;> first | trivial | rfl)))) | (rename_i q; subst q; cbv <;> (repeat' apply And.intro) <;> first | trivial | rfl | (simp only [oo hO, ff, sl]; done) | (simp only [oo hO, ff, sl]; omega) | (intro j hj; first | (cbv <;> (repeat' apply And.intro) <;> first | trivial | rfl) | (simp only [oo hO, ff, sl] at hj ⊢; (try simp only [gg, sl] at hj ⊢); (repeat' split) <;> first | (exfalso; omega) | (exfalso; exact absurd (Nat.lt_of_lt_of_le hj (Nat.min_le_left _ _)) (by assumption)) | (cbv <;> (repeat' apply And.intro) <;> first | trivial | rfl) | (rename_i q; subst q; cbv <;> (repeat' apply And.intro) <;> first | trivial | rfl) | (rename_i q _; subst q; cbv <;> (repeat' apply And.intro) <;> first | trivial | rfl)))) | (rename_i q _; subst q; cbv <;> (repeat' apply And.intro) <;> first | trivial | rfl | (simp only [oo hO, ff, sl]; done) | (simp only [oo hO, ff, sl]; omega) | (intro j hj; first | (cbv <;> (repeat' apply And.intro) <;> first | trivial | rfl) | (simp only [oo hO, ff, sl] at hj ⊢; (try simp only [gg, sl] at hj ⊢); (repeat' split) <;> first | (exfalso; omega) | (exfalso; exact absurd (Nat.lt_of_lt_of_le hj (Nat.min_le_left _ _)) (by assumption)) | (cbv <;> (repeat' apply And.intro) <;> first | trivial | rfl) | (rename_i q; subst q; cbv <;> (repeat' apply And.intro) <;> first | trivial | rfl) | (rename_i q _; subst q; cbv <;> (repeat' apply And.intro) <;> first | trivial | rfl)))))))), (by (repeat' apply And.intro) <;> first | trivial | rfl), ?_⟩
  refine ⟨?_, ?_⟩
  rotate_left
  · first | (intro q; cases q; done) | trivial
  try intro _
  cbv
  refine ⟨?_, ?_⟩
  · first | (intro q; cases q; done) | trivial
  try intro _
  cbv
  refine ⟨fun b_26 => ?_, fun b_26 => ?_⟩
  rotate_left
  · cbv
    replace h := condt h (by first | exact b_26 | (simp only [oo hO, sl] at b_26 ⊢; exact b_26))
    refine ⟨?_, ?_⟩
    · first | (intro q; cases q; done) | trivial
    try intro _
    cbv
    refine ⟨?_, ?_⟩
    · first | (intro q; cases q; done) | trivial
    try intro _
    cbv
    refine ⟨?_, ?_⟩
    · first | (intro q; cases q; done) | trivial
    try intro _
    cbv
    refine ⟨?_, ?_⟩
    · first | (intro q; cases q; done) | trivial
    try intro _
    cbv
    refine ⟨?_, ?_⟩
    rotate_left
    · first | (intro q; cases q; done) | trivial
    try intro _
    cbv
    refine ⟨?_, ?_⟩
    rotate_left
    · first | (intro q; cases q; done) | trivial
    try intro _
    cbv
    replace h := (endb h).trans hr
    cases h
    ((repeat' apply And.intro) <;> first | trivial | rfl | assumption | (simp only [oo hO, ff, sl]; done) | (simp only [oo hO, ff, sl]; omega) | (intro i hi; first | (cbv <;> (repeat' apply And.intro) <;> first | trivial | rfl | (simp only [oo hO, ff, sl]; done) | (simp only [oo hO, ff, sl]; omega) | (intro j hj; first | (cbv <;> (repeat' apply And.intro) <;> first | trivial | rfl) | (simp only [oo hO, ff, sl] at hj ⊢; (try simp only [gg, sl] at hj ⊢); (repeat' split) <;> first | (exfalso; omega) | (exfalso; exact absurd (Nat.lt_of_lt_of_le hj (Nat.min_le_left _ _)) (by assumption)) | (cbv <;> (repeat' apply And.intro) <;> first | trivial | rfl) | (rename_i q; subst q; cbv <;> (repeat' apply And.intro) <;> first | trivial | rfl) | (rename_i q _; subst q; cbv <;> (repeat' apply And.intro) <;> first | trivial | rfl)))) | (simp only [oo hO, ff, sl] at hi ⊢; (try simp only [gg, sl] at hi ⊢); (repeat' split) <;> first | (exfalso; omega) | (exfalso; exact absurd (Nat.lt_of_lt_of_le hi (Nat.min_le_left _ _)) (by assumption)) | (cbv <;> (repeat' apply And.intro) <;> first | trivial | rfl | (simp only [oo hO, ff, sl]; done) | (simp only [oo hO, ff, sl]; omega) | (intro j hj; first | (cbv <;> (repeat' apply And.intro) <;> first | trivial | rfl) | (simp only [oo hO, ff, sl] at hj ⊢; (try simp only [gg, sl] at hj ⊢); (repeat' split) <;> first | (exfalso; omega) | (exfalso; exact absurd (Nat.lt_of_lt_of_le hj (Nat.min_le_left _ _)) (by assumption)) | (cbv <;> (repeat' apply And.intro) <;> first | trivial | rfl) | (rename_i q; subst q; cbv <;> (repeat' apply And.intro) <;> first | trivial | rfl) | (rename_i q _; subst q; cbv <;> (repeat' apply And.intro) <;> first | trivial | rfl)))) | (rename_i q; subst q; cbv <;> (repeat' apply And.intro) <;> first | trivial | rfl | (simp only [oo hO, ff, sl]; done) | (simp only [oo hO, ff, sl]; omega) | (intro j hj; first | (cbv <;> (repeat' apply And.intro) <;> first | trivial | rfl) | (simp only [oo hO, ff, sl] at hj ⊢; (try simp only [gg, sl] at hj ⊢); (repeat' split) <;> first | (exfalso; omega) | (exfalso; exact absurd (Nat.lt_of_lt_of_le hj (Nat.min_le_left _ _)) (by assumption)) | (cbv <;> (repeat' apply And.intro) <;> first | trivial | rfl) | (rename_i q; subst q; cbv <;> (repeat' apply And.intro) <;> first | trivial | rfl) | (rename_i q _; subst q; cbv <;> (repeat' apply And.intro) <;> first | trivial | rfl)))) | (rename_i q _; subst q; cbv <;> (repeat' apply And.intro) <;> first | trivial | rfl | (simp only [oo hO, ff, sl]; done) | (simp only [oo hO, ff, sl]; omega) | (intro j hj; first | (cbv <;> (repeat' apply And.intro) <;> first | trivial | rfl) | (simp only [oo hO, ff, sl] at hj ⊢; (try simp only [gg, sl] at hj ⊢); (repeat' split) <;> first | (exfalso; omega) | (exfalso; exact absurd (Nat.lt_of_lt_of_le hj (Nat.min_le_left _ _)) (by assumption)) | (cbv <;> (repeat' apply And.intro) <;> first | trivial | rfl) | (rename_i q; subst q; cbv <;> (repeat' apply And.intro) <;> first | trivial | rfl) | (rename_i q _; subst q; cbv <;> (repeat' apply And.intro) <;> first | trivial | rfl)))))))
  cbv
  replace h := condf h (by first | exact b_26 | (simp only [oo hO, sl] at b_26 ⊢; exact b_26))
  refine ⟨?_, ?_⟩
  rotate_left
  · first | (intro q; cases q; done) | trivial
  try intro _
  cbv
  refine ⟨?_, ?_⟩
  rotate_left
  · first | (intro q; cases q; done) | trivial
  try intro _
  cbv
  refine ⟨?_, ?_⟩
  rotate_left
  · first | (intro q; cases q; done) | trivial
  try intro _
  cbv
  refine ⟨?_, ?_⟩
  rotate_left
  · first | (intro q; cases q; done) | trivial
  try intro _
  cbv
  refine ⟨?_, ?_⟩
  · first | (intro q; cases q; done) | trivial
  try intro _
  cbv
  refine ⟨fun b_27 => ?_, fun b_27 => ?_⟩
  · cbv
    replace h := condt h (by first | exact b_27 | (simp only [oo hO, sl] at b_27 ⊢; exact b_27))
    replace h := (endb h).trans hr
    cases h
    ((repeat' apply And.intro) <;> first | trivial | rfl | assumption | (simp only [oo hO, ff, sl]; done) | (simp only [oo hO, ff, sl]; omega) | (intro i hi; first | (cbv <;> (repeat' apply And.intro) <;> first | trivial | rfl | (simp only [oo hO, ff, sl]; done) | (simp only [oo hO, ff, sl]; omega) | (intro j hj; first | (cbv <;> (repeat' apply And.intro) <;> first | trivial | rfl) | (simp only [oo hO, ff, sl] at hj ⊢; (try simp only [gg, sl] at hj ⊢); (repeat' split) <;> first | (exfalso; omega) | (exfalso; exact absurd (Nat.lt_of_lt_of_le hj (Nat.min_le_left _ _)) (by assumption)) | (cbv <;> (repeat' apply And.intro) <;> first | trivial | rfl) | (rename_i q; subst q; cbv <;> (repeat' apply And.intro) <;> first | trivial | rfl) | (rename_i q _; subst q; cbv <;> (repeat' apply And.intro) <;> first | trivial | rfl)))) | (simp only [oo hO, ff, sl] at hi ⊢; (try simp only [gg, sl] at hi ⊢); (repeat' split) <;> first | (exfalso; omega) | (exfalso; exact absurd (Nat.lt_of_lt_of_le hi (Nat.min_le_left _ _)) (by assumption)) | (cbv <;> (repeat' apply And.intro) <;> first | trivial | rfl | (simp only [oo hO, ff, sl]; done) | (simp only [oo hO, ff, sl]; omega) | (intro j hj; first | (cbv <;> (repeat' apply And.intro) <;> first | trivial | rfl) | (simp only [oo hO, ff, sl] at hj ⊢; (try simp only [gg, sl] at hj ⊢); (repeat' split) <;> first | (exfalso; omega) | (exfalso; exact absurd (Nat.lt_of_lt_of_le hj (Nat.min_le_left _ _)) (by assumption)) | (cbv <;> (repeat' apply And.intro) <;> first | trivial | rfl) | (rename_i q; subst q; cbv <;> (repeat' apply And.intro) <;> first | trivial | rfl) | (rename_i q _; subst q; cbv <;> (repeat' apply And.intro) <;> first | trivial | rfl)))) | (rename_i q; subst q; cbv <;> (repeat' apply And.intro) <;> first | trivial | rfl | (simp only [oo hO, ff, sl]; done) | (simp only [oo hO, ff, sl]; omega) | (intro j hj; first | (cbv <;> (repeat' apply And.intro) <;> first | trivial | rfl) | (simp only [oo hO, ff, sl] at hj ⊢; (try simp only [gg, sl] at hj ⊢); (repeat' split) <;> first | (exfalso; omega) | (exfalso; exact absurd (Nat.lt_of_lt_of_le hj (Nat.min_le_left _ _)) (by assumption)) | (cbv <;> (repeat' apply And.intro) <;> first | trivial | rfl) | (rename_i q; subst q; cbv <;> (repeat' apply And.intro) <;> first | trivial | rfl) | (rename_i q _; subst q; cbv <;> (repeat' apply And.intro) <;> first | trivial | rfl)))) | (rename_i q _; subst q; cbv <;> (repeat' apply And.intro) <;> first | trivial | rfl | (simp only [oo hO, ff, sl]; done) | (simp only [oo hO, ff, sl]; omega) | (intro j hj; first | (cbv <;> (repeat' apply And.intro) <;> first | trivial | rfl) | (simp only [oo hO, ff, sl] at hj ⊢; (try simp only [gg, sl] at hj ⊢); (repeat' split) <;> first | (exfalso; omega) | (exfalso; exact absurd (Nat.lt_of_lt_of_le hj (Nat.min_le_left _ _)) (by assumption)) | (cbv <;> (repeat' apply And.intro) <;> first | trivial | rfl) | (rename_i q; subst q; cbv <;> (repeat' apply And.intro) <;> first | trivial | rfl) | (rename_i q _; subst q; cbv <;> (repeat' apply And.intro) <;> first | trivial | rfl)))))))
  cbv
  replace h := condf h (by first | exact b_27 | (simp only [oo hO, sl] at b_27 ⊢; exact b_27))
  obtain ⟨R_28, hR_28, h⟩ := loopb h
  refine ⟨{ x : Nat × Int // (F_laws_FnRooms_l0 O v9 v15 x.1 x.2).bind R_28 = some r }, fun x => ⟨[(5, .ptr 15 0), (6, .int .i64 (O.iadd 1 v3)), (7, .osl 31 1 0 (O.llen v4)), (9, .osl 47 1 0 (O.llen v6)), (12, .osl 63 1 0 (O.llen v9)), (18, .osl 79 1 0 (O.llen v15)), (122, .int .i64 (O.ofN (O.llen v9))), (123, .int .i64 x.1.2)], [(15, .box [.sl false false 5 (O.llen v2.Combs) (fun i1 => [.int .i64 ((O.lget v2.Combs i1 (GDelay.mk 0 0 0 0 false)).Length), .flt .f32 ((O.lget v2.Combs i1 (GDelay.mk 0 0 0 0 false)).Feedback), .flt .f32 ((O.lget v2.Combs i1 (GDelay.mk 0 0 0 0 false)).Dry), .flt .f32 ((O.lget v2.Combs i1 (GDelay.mk 0 0 0 0 false)).Wet), .bool ((O.lget v2.Combs i1 (GDelay.mk 0 0 0 0 false)).Flush)]), .sl false false 2 (O.llen v2.Passes) (fun i1 => [.int .i64 ((O.lget v2.Passes i1 (GPass.mk 0 0)).Length), .flt .f32 ((O.lget v2.Passes i1 (GPass.mk 0 0)).Gain)]), .flt .f32 v2.Dry, .flt .f32 v2.Wet]), (31, .frz true 1 (O.llen v4) (fun i1 => [.flt .f32 (O.lget v4 i1 0)])), (47, .frz true 1 (O.llen v6) (fun i1 => [.sl false false 1 (O.llen (O.lget v6 i1 [])) (fun i2 => [.flt .f32 (O.lget (O.lget v6 i1 []) i2 0)])])), (63, .arr true false 1 (O.llen v9) (fun i1 => [.sl false false 1 (O.llen (O.lget v9 i1 [])) (fun i2 => [.flt .f32 (O.lget (O.lget v9 i1 []) i2 0)])])), (79, .arr true false 1 (O.llen v15) (fun i1 => [.sl false false 1 (O.llen (O.lget v15 i1 [])) (fun i2 => [.flt .f32 (O.lget (O.lget v15 i1 []) i2 0)])]))]⟩, fun x => x.1.1, ⟨(KK, 0), h⟩, ?_, ?_⟩
  · (cbv <;> ((repeat' apply And.intro) <;> first | trivial | rfl | assumption | (simp only [oo hO, ff, sl]; done) | (simp only [oo hO, ff, sl]; omega) | (intro i hi; first | (cbv <;> (repeat' apply And.intro) <;> first | trivial | rfl | (simp only [oo hO, ff, sl]; done) | (simp only [oo hO, ff, sl]; omega) | (intro j hj; first | (cbv <;> (repeat' apply And.intro) <;> first | trivial | rfl) | (simp only [oo hO, ff, sl] at hj ⊢; (try simp only [gg, sl] at hj ⊢); (repeat' split) <;> first | (exfalso; omega) | (exfalso; exact absurd (Nat.lt_of_lt_of_le hj (Nat.min_le_left _ _)) (by assumption)) | (cbv <;> (repeat' apply And.intro) <;> first | trivial | rfl) | (rename_i q; subst q; cbv <;> (repeat' apply And.intro) <;> first | trivial | rfl) | (rename_i q _; subst q; cbv <;> (repeat' apply And.intro) <;> first | trivial | rfl)))) | (simp only [oo hO, ff, sl] at hi ⊢; (try simp only [gg, sl] at hi ⊢); (repeat' split) <;> first | (exfalso; omega) | (exfalso; exact absurd (Nat.lt_of_lt_of_le hi (Nat.min_le_left _ _)) (by assumption)) | (cbv <;> (repeat' apply And.intro) <;> first | trivial | rfl | (simp only [oo hO, ff, sl]; done) | (simp only [oo hO, ff, sl]; omega) | (intro j hj; first | (cbv <;> (repeat' apply And.intro) <;> first | trivial | rfl) | (simp only [oo hO, ff, sl] at hj ⊢; (try simp only [gg, sl] at hj ⊢); (repeat' split) <;> first | (exfalso; omega) | (exfalso; exact absurd (Nat.lt_of_lt_of_le hj (Nat.min_le_left _ _)) (by assumption)) | (cbv <;> (repeat' apply And.intro) <;> first | trivial | rfl) | (rename_i q; subst q; cbv <;> (repeat' apply And.intro) <;> first | trivial | rfl) | (rename_i q _; subst q; cbv <;> (repeat' apply And.intro) <;> first | trivial | rfl)))) | (rename_i q; subst q; cbv <;> (repeat' apply And.intro) <;> first | trivial | rfl | (simp only [oo hO, ff, sl]; done) | (simp only [oo hO, ff, sl]; omega) | (intro j hj; first | (cbv <;> (repeat' apply And.intro) <;> first | trivial | rfl) | (simp only [oo hO, ff, sl] at hj ⊢; (try simp only [gg, sl] at hj ⊢); (repeat' split) <;> first | (exfalso; omega) | (exfalso; exact absurd (Nat.lt_of_lt_of_le hj (Nat.min_le_left _ _)) (by assumption)) | (cbv <;> (repeat' apply And.intro) <;> first | trivial | rfl) | (rename_i q; subst q; cbv <;> (repeat' apply And.intro) <;> first | trivial | rfl) | (rename_i q _; subst q; cbv <;> (repeat' apply And.intro) <;> first | trivial | rfl)))) | (rename_i q _; subst q; cbv <;> (repeat' apply And.intro) <;> first | trivial | rfl | (simp only [oo hO, ff, sl]; done) | (simp only [oo hO, ff, sl]; omega) | (intro j hj; first | (cbv <;> (repeat' apply And.intro) <;> first | trivial | rfl) | (simp only [oo hO, ff, sl] at hj ⊢; (try simp only [gg, sl] at hj ⊢); (repeat' split) <;> first | (exfalso; omega) | (exfalso; exact absurd (Nat.lt_of_lt_of_le hj (Nat.min_le_left _ _)) (by assumption)) | (cbv <;> (repeat' apply And.intro) <;> first | trivial | rfl) | (rename_i q; subst q; cbv <;> (repeat' apply And.intro) <;> first | trivial | rfl) | (rename_i q _; subst q; cbv <;> (repeat' apply And.intro) <;> first | trivial | rfl))))))))
  rintro ⟨⟨k_29, p20⟩, h⟩
  rcases k_29 with _ | k_29
  · cases noneb rfl h
  rw [F_laws_FnRooms_l0.eq_2] at h
  cbv
  refine ⟨fun b_30 => ?_, fun b_30 => ?_⟩
  · cbv
    replace h := condt h (by first | exact b_30 | (simp only [oo hO, sl] at b_30 ⊢; exact b_30))
    obtain ⟨g_31, h⟩ := gdb h
    refine ⟨(by first | exact g_31 | (simp only [oo hO] at g_31 ⊢; simp only [sl] at g_31 ⊢; omega)), ?_⟩
    obtain ⟨g_32, h⟩ := gdb h
    refine ⟨(by first | exact g_32 | (simp only [oo hO] at g_32 ⊢; simp only [sl] at g_32 ⊢; omega)), ?_⟩
    obtain ⟨g_33, h⟩ := gdb h
    refine ⟨(by first | exact g_33 | (simp only [oo hO] at g_33 ⊢; simp only [sl] at g_33 ⊢; omega)), ?_⟩
    obtain ⟨g_34, h⟩ := gdb h
    refine ⟨(by first | exact g_34 | (simp only [oo hO] at g_34 ⊢; simp only [sl] at g_34 ⊢; omega)), ?_⟩
    obtain ⟨v19, e_35, h⟩ := callb h
    refine ⟨[], _, _, _, _, false, c_laws_b10Same hO hP e_35, ?_⟩
    cbv
    refine ⟨(by (repeat' apply And.intro) <;> first | trivial | rfl | (intro i hi; first | (cbv <;> (repeat' apply And.intro) <;> first | trivial | rfl) | (simp only [oo hO, sl]; cbv <;> (repeat' apply And.intro) <;> first | trivial | rfl))), (by (repeat' apply And.intro) <;> first | trivial | rfl), ?_⟩
    refine ⟨fun b_36 => ?_, fun b_36 => ?_⟩
    · cbv
      replace h := condt h (by first | exact b_36 | (simp only [oo hO, sl] at b_36 ⊢; exact b_36))
      replace h := leafb h hR_28
      replace h := (endb h).trans hr
      cases h
      ((repeat' apply And.intro) <;> first | trivial | rfl | assumption | (simp only [oo hO, ff, sl]; done) | (simp only [oo hO, ff, sl]; omega) | (intro i hi; first | (cbv <;> (repeat' apply And.intro) <;> first | trivial | rfl | (simp only [oo hO, ff, sl]; done) | (simp only [oo hO, ff, sl]; omega) | (intro j hj; first | (cbv <;> (repeat' apply And.intro) <;> first | trivial | rfl) | (simp only [oo hO, ff, sl] at hj ⊢; (try simp only [gg, sl] at hj ⊢); (repeat' split) <;> first | (exfalso; omega) | (exfalso; exact absurd (Nat.lt_of_lt_of_le hj (Nat.min_le_left _ _)) (by assumption)) | (cbv <;> (repeat' apply And.intro) <;> first | trivial | rfl) | (rename_i q; subst q; cbv <;> (repeat' apply And.intro) <;> first | trivial | rfl) | (rename_i q _; subst q; cbv <;> (repeat' apply And.intro) <;> first | trivial | rfl)))) | (simp only [oo hO, ff, sl] at hi ⊢; (try simp only [gg, sl] at hi ⊢); (repeat' split) <;> first | (exfalso; omega) | (exfalso; exact absurd (Nat.lt_of_lt_of_le hi (Nat.min_le_left _ _)) (by assumption)) | (cbv <;> (repeat' apply And.intro) <;> first | trivial | rfl | (simp only [oo hO, ff, sl]; done) | (simp only [oo hO, ff, sl]; omega) | (intro j hj; first | (cbv <;> (repeat' apply And.intro) <;> first | trivial | rfl) | (simp only [oo hO, ff, sl] at hj ⊢; (try simp only [gg, sl] at hj ⊢); (repeat' split) <;> first | (exfalso; omega) | (exfalso; exact absurd (Nat.lt_of_lt_of_le hj (Nat.min_le_left _ _)) (by assumption)) | (cbv <;> (repeat' apply And.intro) <;> first | trivial | rfl) | (rename_i q; subst q; cbv <;> (repeat' apply And.intro) <;> first | trivial | rfl) | (rename_i q _; subst q; cbv <;> (repeat' apply And.intro) <;> first | trivial | rfl)))) | (rename_i q; subst q; cbv <;> (repeat' apply And.intro) <;> first | trivial | rfl | (simp only [oo hO, ff, sl]; done) | (simp only [oo hO, ff, sl]; omega) | (intro j hj; first | (cbv <;> (repeat' apply And.intro) <;> first | trivial | rfl) | (simp only [oo hO, ff, sl] at hj ⊢; (try simp only [gg, sl] at hj ⊢); (repeat' split) <;> first | (exfalso; omega) | (exfalso; exact absurd (Nat.lt_of_lt_of_le hj (Nat.min_le_left _ _)) (by assumption)) | (cbv <;> (repeat' apply And.intro) <;> first | trivial | rfl) | (rename_i q; subst q; cbv <;> (repeat' apply And.intro) <;> first | trivial | rfl) | (rename_i q _; subst q; cbv <;> (repeat' apply And.intro) <;> first | trivial | rfl)))) | (rename_i q _; subst q; cbv <;> (repeat' apply And.intro) <;> first | trivial | rfl | (simp only [oo hO, ff, sl]; done) | (simp only [oo hO, ff, sl]; omega) | (intro j hj; first | (cbv <;> (repeat' apply And.intro) <;> first | trivial | rfl) | (simp only [oo hO, ff, sl] at hj ⊢; (try simp only [gg, sl] at hj ⊢); (repeat' split) <;> first | (exfalso; omega) | (exfalso; exact absurd (Nat.lt_of_lt_of_le hj (Nat.min_le_left _ _)) (by assumption)) | (cbv <;> (repeat' apply And.intro) <;> first | trivial | rfl) | (rename_i q; subst q; cbv <;> (repeat' apply And.intro) <;> first | trivial | rfl) | (rename_i q _; subst q; cbv <;> (repeat' apply And.intro) <;> first | trivial | rfl)))))))
    cbv
    replace h := condf h (by first | exact b_36 | (simp only [oo hO, sl] at b_36 ⊢; exact b_36))
    obtain ⟨g_37, h⟩ := gdb h
    refine ⟨(by first | exact g_37 | (simp only [oo hO] at g_37 ⊢; simp only [sl] at g_37 ⊢; omega)), ?_⟩
    refine ⟨⟨(k_29, (O.iadd p20 1)), h⟩, ?_, ?_⟩
    · (cbv <;> ((repeat' apply And.intro) <;> first | trivial | rfl | assumption | (simp only [oo hO, ff, sl]; done) | (simp only [oo hO, ff, sl]; omega) | (intro i hi; first | (cbv <;> (repeat' apply And.intro) <;> first | trivial | rfl | (simp only [oo hO, ff, sl]; done) | (simp only [oo hO, ff, sl]; omega) | (intro j hj; first | (cbv <;> (repeat' apply And.intro) <;> first | trivial | rfl) | (simp only [oo hO, ff, sl] at hj ⊢; (try simp only [gg, sl] at hj ⊢); (repeat' split) <;> first | (exfalso; omega) | (exfalso; exact absurd (Nat.lt_of_lt_of_le hj (Nat.min_le_left _ _)) (by assumption)) | (cbv <;> (repeat' apply And.intro) <;> first | trivial | rfl) | (rename_i q; subst q; cbv <;> (repeat' apply And.intro) <;> first | trivial | rfl) | (rename_i q _; subst q; cbv <;> (repeat' apply And.intro) <;> first | trivial | rfl)))) | (simp only [oo hO, ff, sl] at hi ⊢; (try simp only [gg, sl] at hi ⊢); (repeat' split) <;> first | (exfalso; omega) | (exfalso; exact absurd (Nat.lt_of_lt_of_le hi (Nat.min_le_left _ _)) (by assumption)) | (cbv <;> (repeat' apply And.intro) <;> first | trivial | rfl | (simp only [oo hO, ff, sl]; done) | (simp only [oo hO, ff, sl]; omega) | (intro j hj; first | (cbv <;> (repeat' apply And.intro) <;> first | trivial | rfl) | (simp only [oo hO, ff, sl] at hj ⊢; (try simp only [gg, sl] at hj ⊢); (repeat' split) <;> first | (exfalso; omega) | (exfalso; exact absurd (Nat.lt_of_lt_of_le hj (Nat.min_le_left _ _)) (by assumption)) | (cbv <;> (repeat' apply And.intro) <;> first | trivial | rfl) | (rename_i q; subst q; cbv <;> (repeat' apply And.intro) <;> first | trivial | rfl) | (rename_i q _; subst q; cbv <;> (repeat' apply And.intro) <;> first | trivial | rfl)))) | (rename_i q; subst q; cbv <;> (repeat' apply And.intro) <;> first | trivial | rfl | (simp only [oo hO, ff, sl]; done) | (simp only [oo hO, ff, sl]; omega) | (intro j hj; first | (cbv <;> (repeat' apply And.intro) <;> first | trivial | rfl) | (simp only [oo hO, ff, sl] at hj ⊢; (try simp only [gg, sl] at hj ⊢); (repeat' split) <;> first | (exfalso; omega) | (exfalso; exact absurd (Nat.lt_of_lt_of_le hj (Nat.min_le_left _ _)) (by assumption)) | (cbv <;> (repeat' apply And.intro) <;> first | trivial | rfl) | (rename_i q; subst q; cbv <;> (repeat' apply And.intro) <;> first | trivial | rfl) | (rename_i q _; subst q; cbv <;> (repeat' apply And.intro) <;> first | trivial | rfl)))) | (rename_i q _; subst q; cbv <;> (repeat' apply And.intro) <;> first | trivial | rfl | (simp only [oo hO, ff, sl]; done) | (simp only [oo hO, ff, sl]; omega) | (intro j hj; first | (cbv <;> (repeat' apply And.intro) <;> first | trivial | rfl) | (simp only [oo hO, ff, sl] at hj ⊢; (try simp only [gg, sl] at hj ⊢); (repeat' split) <;> first | (exfalso; omega) | (exfalso; exact absurd (Nat.lt_of_lt_of_le hj (Nat.min_le_left _ _)) (by assumption)) | (cbv <;> (repeat' apply And.intro) <;> first | trivial | rfl) | (rename_i q; subst q; cbv <;> (repeat' apply And.intro) <;> first | trivial | rfl) | (rename_i q _; subst q; cbv <;> (repeat' apply And.intro) <;> first | trivial | rfl))))))))
    · exact Nat.lt_succ_self k_29
  cbv
  replace h := condf h (by first | exact b_30 | (simp only [oo hO, sl] at b_30 ⊢; exact b_30))
  replace h := leafb h hR_28
  obtain ⟨g_38, h⟩ := gdb h
  have qg_38 := g_38; simp only [oo hO, ff, sl] at qg_38
  obtain ⟨g_39, h⟩ := gdb h
  have qg_39 := g_39; simp only [oo hO, ff, sl] at qg_39
  obtain ⟨g_40, h⟩ := gdb h
  refine ⟨(by first | exact g_38 | (simp only [oo hO] at g_38 ⊢; simp only [sl] at g_38 ⊢; omega)), (by first | exact g_39 | (simp only [oo hO] at g_39 ⊢; simp only [sl] at g_39 ⊢; omega)), (by first | exact g_40 | (simp only [oo hO] at g_40 ⊢; simp only [sl] at g_40 ⊢; omega)), ?_⟩
  obtain ⟨g_41, h⟩ := gdb h
  refine ⟨(by first | exact g_41 | (simp only [oo hO] at g_41 ⊢; simp only [sl] at g_41 ⊢; omega)), ?_⟩
  obtain ⟨g_42, h⟩ := gdb h
  refine ⟨(by first | exact g_42 | (simp only [oo hO] at g_42 ⊢; simp only [sl] at g_42 ⊢; omega)), ?_⟩
  obtain ⟨⟨v21, v22⟩, e_43, h⟩ := callb h
  refine ⟨[], _, _, _, _, false, c_impl_AnswerOf hO hP e_43, ?_⟩
  cbv
  refine ⟨(by (repeat' apply And.intro) <;> first | trivial | rfl | (intro i hi; first | (cbv <;> (repeat' apply And.intro) <;> first | trivial | rfl) | (simp only [oo hO, sl]; cbv <;> (repeat' apply And.intro) <;> first | trivial | rfl))), (by (repeat' apply And.intro) <;> first | trivial | rfl), ?_⟩
  obtain ⟨⟨v23, v24, v25⟩, e_44, h⟩ := callb h
  refine ⟨[], _, _, _, _, true, c_impl_RunRoom hO hP e_44, ?_⟩
  cbv
  refine ⟨(by first | trivial | (simp only [oo hO, sl]; omega) | (simp only [oo hO, sl]; done)), (by first | trivial | (simp only [oo hO, sl]; omega) | (simp only [oo hO, sl]; done)), ?_⟩
  refine ⟨(by ((repeat' apply And.intro) <;> first | trivial | rfl | assumption | (simp only [oo hO, ff, sl]; done) | (simp only [oo hO, ff, sl]; omega) | (intro i hi; first | (cbv <;> (repeat' apply And.intro) <;> first | trivial | rfl | (simp only [oo hO, ff, sl]; done) | (simp only [oo hO, ff, sl]; omega) | (intro j hj; first | (cbv <;> (repeat' apply And.intro) <;> first | trivial | rfl) | (simp only [oo hO, ff, sl] at hj ⊢; (try simp only [gg, sl] at hj ⊢); (repeat' split) <;> first | (exfalso; omega) | (exfalso; exact absurd (Nat.lt_of_lt_of_le hj (Nat.min_le_left _ _)) (by assumption)) | (cbv <;> (repeat' apply And.intro) <;> first | trivial | rfl) | (rename_i q; subst q; cbv <;> (repeat' apply And.intro) <;> first | trivial | rfl) | (rename_i q _; subst q; cbv <;> (repeat' apply And.intro) <;> first | trivial | rfl)))) | (simp only [oo hO, ff, sl] at hi ⊢; (try simp only [gg, sl] at hi ⊢); (repeat' split) <;> first | (exfalso; omega) | (exfalso; exact absurd (Nat.lt_of_lt_of_le hi (Nat.min_le_left _ _)) (by assumption)) | (cbv <;> (repeat' apply And.intro) <;> first | trivial | rfl | (simp only [oo hO, ff, sl]; done) | (simp only [oo hO, ff, sl]; omega) | (intro j hj; first | (cbv <;> (repeat' apply And.intro) <;> first | trivial | rfl) | (simp only [oo hO, ff, sl] at hj ⊢; (try simp only [gg, sl] at hj ⊢); (repeat' split) <;> first | (exfalso; omega) | (exfalso; exact absurd (Nat.lt_of_lt_of_le hj (Nat.min_le_left _ _)) (by assumption)) | (cbv <;> (repeat' apply And.intro) <;> first | trivial | rfl) | (rename_i q; subst q; cbv <;> (repeat' apply And.intro) <;> first | trivial | rfl) | (rename_i q _; subst q; cbv <;> (repeat' apply And.intro) <;> first | trivial | rfl)))) | (rename_i q; subst q; cbv <;> (repeat' apply And.intro) <;> first | trivial | rfl | (simp only [oo hO, ff, sl]; done) | (simp only [oo hO, ff, sl]; omega) | (intro j hj; first | (cbv <;> (repeat' apply And.intro) <;> first | trivial | rfl) | (simp only [oo hO, ff, sl] at hj ⊢; (try simp only [gg, sl] at hj ⊢); (repeat' split) <;> first | (exfalso; omega) | (exfalso; exact absurd (Nat.lt_of_lt_of_le hj (Nat.min_le_left _ _)) (by assumption)) | (cbv <;> (repeat' apply And.intro) <;> first | trivial | rfl) | (rename_i q; subst q; cbv <;> (repeat' apply And.intro) <;> first | trivial | rfl) | (rename_i q _; subst q; cbv <;> (repeat' apply And.intro) <;> first | trivial | rfl)))) | (rename_i q _; subst q; cbv <;> (repeat' apply And.intro) <;> first | trivial | rfl | (simp only [oo hO, ff, sl]; done) | (simp only [oo hO, ff, sl]; omega) | (intro j hj; first | (cbv <;> (repeat' apply And.intro) <;> first | trivial | rfl) | (simp only [oo hO, ff, sl] at hj ⊢; (try simp only [gg, sl] at hj ⊢); (repeat' split) <;> first | (exfalso; omega) | (exfalso; exact absurd (Nat.lt_of_lt_of_le hj (Nat.min_le_left _ _)) (by assumption)) | (cbv <;> (repeat' apply And.intro) <;> first | trivial | rfl) | (rename_i q; subst q; cbv <;> (repeat' apply And.intro) <;> first | trivial | rfl) | (rename_i q _; subst q; cbv <;> (repeat' apply And.intro) <;> first | trivial | rfl)))))))), (by (repeat' apply And.intro) <;> first | trivial | rfl), ?_⟩
  refine ⟨fun b_45 => ?_, fun b_45 => ?_⟩
  rotate_left
  · cbv
    replace h := condt h (by first | exact b_45 | (simp only [oo hO, sl] at b_45 ⊢; exact b_45))
    refine ⟨?_, ?_⟩
    · first | (intro q; cases q; done) | trivial
    try intro _
    cbv
    refine ⟨?_, ?_⟩
    rotate_left
    · first | (intro q; cases q; done) | trivial
    try intro _
    cbv
    refine ⟨?_, ?_⟩
    · first | (intro q; cases q; done) | trivial
    try intro _
    cbv
    refine ⟨?_, ?_⟩
    · first | (intro q; cases q; done) | trivial
    try intro _
    cbv
    refine ⟨?_, ?_⟩
    · first | (intro q; cases q; done) | trivial
    try intro _
    cbv
    refine ⟨?_, ?_⟩
    · first | (intro q; cases q; done) | trivial
    try intro _
    cbv
    refine ⟨?_, ?_⟩
    rotate_left
    · first | (intro q; cases q; done) | trivial
    try intro _
    cbv
    refine ⟨?_, ?_⟩
    rotate_left
    · first | (intro q; cases q; done) | trivial
    try intro _
    cbv
    replace h := (endb h).trans hr
    cases h
    ((repeat' apply And.intro) <;> first | trivial | rfl | assumption | (simp only [oo hO, ff, sl]; done) | (simp only [oo hO, ff, sl]; omega) | (intro i hi; first | (cbv <;> (repeat' apply And.intro) <;> first | trivial | rfl | (simp only [oo hO, ff, sl]; done) | (simp only [oo hO, ff, sl]; omega) | (intro j hj; first | (cbv <;> (repeat' apply And.intro) <;> first | trivial | rfl) | (simp only [oo hO, ff, sl] at hj ⊢; (try simp only [gg, sl] at hj ⊢); (repeat' split) <;> first | (exfalso; omega) | (exfalso; exact absurd (Nat.lt_of_lt_of_le hj (Nat.min_le_left _ _)) (by assumption)) | (cbv <;> (repeat' apply And.intro) <;> first | trivial | rfl) | (rename_i q; subst q; cbv <;> (repeat' apply And.intro) <;> first | trivial | rfl) | (rename_i q _; subst q; cbv <;> (repeat' apply And.intro) <;> first | trivial | rfl)))) | (simp only [oo hO, ff, sl] at hi ⊢; (try simp only [gg, sl] at hi ⊢); (repeat' split) <;> first | (exfalso; omega) | (exfalso; exact absurd (Nat.lt_of_lt_of_le hi (Nat.min_le_left _ _)) (by assumption)) | (cbv <;> (repeat' apply And.intro) <;> first | trivial | rfl | (simp only [oo hO, ff, sl]; done) | (simp only [oo hO, ff, sl]; omega) | (intro j hj; first | (cbv <;> (repeat' apply And.intro) <;> first | trivial | rfl) | (simp only [oo hO, ff, sl] at hj ⊢; (try simp only [gg, sl] at hj ⊢); (repeat' split) <;> first | (exfalso; omega) | (exfalso; exact absurd (Nat.lt_of_lt_of_le hj (Nat.min_le_left _ _)) (by assumption)) | (cbv <;> (repeat' apply And.intro) <;> first | trivial | rfl) | (rename_i q; subst q; cbv <;> (repeat' apply And.intro) <;> first | trivial | rfl) | (rename_i q _; subst q; cbv <;> (repeat' apply And.intro) <;> first | trivial | rfl)))) | (rename_i q; subst q; cbv <;> (repeat' apply And.intro) <;> first | trivial | rfl | (simp only [oo hO, ff, sl]; done) | (simp only [oo hO, ff, sl]; omega) | (intro j hj; first | (cbv <;> (repeat' apply And.intro) <;> first | trivial | rfl) | (simp only [oo hO, ff, sl] at hj ⊢; (try simp only [gg, sl] at hj ⊢); (repeat' split) <;> first | (exfalso; omega) | (exfalso; exact absurd (Nat.lt_of_lt_of_le hj (Nat.min_le_left _ _)) (by assumption)) | (cbv <;> (repeat' apply And.intro) <;> first | trivial | rfl) | (rename_i q; subst q; cbv <;> (repeat' apply And.intro) <;> first | trivial | rfl) | (rename_i q _; subst q; cbv <;> (repeat' apply And.intro) <;> first | trivial | rfl)))) | (rename_i q _; subst q; cbv <;> (repeat' apply And.intro) <;> first | trivial | rfl | (simp only [oo hO, ff, sl]; done) | (simp only [oo hO, ff, sl]; omega) | (intro j hj; first | (cbv <;> (repeat' apply And.intro) <;> first | trivial | rfl) | (simp only [oo hO, ff, sl] at hj ⊢; (try simp only [gg, sl] at hj ⊢); (repeat' split) <;> first | (exfalso; omega) | (exfalso; exact absurd (Nat.lt_of_lt_of_le hj (Nat.min_le_left _ _)) (by assumption)) | (cbv <;> (repeat' apply And.intro) <;> first | trivial | rfl) | (rename_i q; subst q; cbv <;> (repeat' apply And.intro) <;> first | trivial | rfl) | (rename_i q _; subst q; cbv <;> (repeat' apply And.intro) <;> first | trivial | rfl)))))))
  cbv
  replace h := condf h (by first | exact b_45 | (simp only [oo hO, sl] at b_45 ⊢; exact b_45))
  refine ⟨?_, ?_⟩
  rotate_left
  · first | (intro q; cases q; done) | trivial
  try intro _
  cbv
  refine ⟨?_, ?_⟩
  · first | (intro q; cases q; done) | trivial
  try intro _
  cbv
  refine ⟨fun b_46 => ?_, fun b_46 => ?_⟩
  rotate_left
  · cbv
    replace h := condt h (by first | exact b_46 | (simp only [oo hO, sl] at b_46 ⊢; exact b_46))
    refine ⟨?_, ?_⟩
    · first | (intro q; cases q; done) | trivial
    try intro _
    cbv
    refine ⟨?_, ?_⟩
    · first | (intro q; cases q; done) | trivial
    try intro _
    cbv
    refine ⟨?_, ?_⟩
    · first | (intro q; cases q; done) | trivial
    try intro _
    cbv
    refine ⟨?_, ?_⟩
    rotate_left
    · first | (intro q; cases q; done) | trivial
    try intro _
    cbv
    refine ⟨?_, ?_⟩
    rotate_left
    · first | (intro q; cases q; done) | trivial
    try intro _
    cbv
    replace h := (endb h).trans hr
    cases h
    ((repeat' apply And.intro) <;> first | trivial | rfl | assumption | (simp only [oo hO, ff, sl]; done) | (simp only [oo hO, ff, sl]; omega) | (intro i hi; first | (cbv <;> (repeat' apply And.intro) <;> first | trivial | rfl | (simp only [oo hO, ff, sl]; done) | (simp only [oo hO, ff, sl]; omega) | (intro j hj; first | (cbv <;> (repeat' apply And.intro) <;> first | trivial | rfl) | (simp only [oo hO, ff, sl] at hj ⊢; (try simp only [gg, sl] at hj ⊢); (repeat' split) <;> first | (exfalso; omega) | (exfalso; exact absurd (Nat.lt_of_lt_of_le hj (Nat.min_le_left _ _)) (by assumption)) | (cbv <;> (repeat' apply And.intro) <;> first | trivial | rfl) | (rename_i q; subst q; cbv <;> (repeat' apply And.intro) <;> first | trivial | rfl) | (rename_i q _; subst q; cbv <;> (repeat' apply And.intro) <;> first | trivial | rfl)))) | (simp only [oo hO, ff, sl] at hi ⊢; (try simp only [gg, sl] at hi ⊢); (repeat' split) <;> first | (exfalso; omega) | (exfalso; exact absurd (Nat.lt_of_lt_of_le hi (Nat.min_le_left _ _)) (by assumption)) | (cbv <;> (repeat' apply And.intro) <;> first | trivial | rfl | (simp only [oo hO, ff, sl]; done) | (simp only [oo hO, ff, sl]; omega) | (intro j hj; first | (cbv <;> (repeat' apply And.intro) <;> first | trivial | rfl) | (simp only [oo hO, ff, sl] at hj ⊢; (try simp only [gg, sl] at hj ⊢); (repeat' split) <;> first | (exfalso; omega) | (exfalso; exact absurd (Nat.lt_of_lt_of_le hj (Nat.min_le_left _ _)) (by assumption)) | (cbv <;> (repeat' apply And.intro) <;> first | trivial | rfl) | (rename_i q; subst q; cbv <;> (repeat' apply And.intro) <;> first | trivial | rfl) | (rename_i q _; subst q; cbv <;> (repeat' apply And.intro) <;> first | trivial | rfl)))) | (rename_i q; subst q; cbv <;> (repeat' apply And.intro) <;> first | trivial | rfl | (simp only [oo hO, ff, sl]; done) | (simp only [oo hO, ff, sl]; omega) | (intro j hj; first | (cbv <;> (repeat' apply And.intro) <;> first | trivial | rfl) | (simp only [oo hO, ff, sl] at hj ⊢; (try simp only [gg, sl] at hj ⊢); (repeat' split) <;> first | (exfalso; omega) | (exfalso; exact absurd (Nat.lt_of_lt_of_le hj (Nat.min_le_left _ _)) (by assumption)) | (cbv <;> (repeat' apply And.intro) <;> first | trivial | rfl) | (rename_i q; subst q; cbv <;> (repeat' apply And.intro) <;> first | trivial | rfl) | (rename_i q _; subst q; cbv <;> (repeat' apply And.intro) <;> first | trivial | rfl)))) | (rename_i q _; subst q; cbv <;> (repeat' apply And.intro) <;> first | trivial | rfl | (simp only [oo hO, ff, sl]; done) | (simp only [oo hO, ff, sl]; omega) | (intro j hj; first | (cbv <;> (repeat' apply And.intro) <;> first | trivial | rfl) | (simp only [oo hO, ff, sl] at hj ⊢; (try simp only [gg, sl] at hj ⊢); (repeat' split) <;> first | (exfalso; omega) | (exfalso; exact absurd (Nat.lt_of_lt_of_le hj (Nat.min_le_left _ _)) (by assumption)) | (cbv <;> (repeat' apply And.intro) <;> first | trivial | rfl) | (rename_i q; subst q; cbv <;> (repeat' apply And.intro) <;> first | trivial | rfl) | (rename_i q _; subst q; cbv <;> (repeat' apply And.intro) <;> first | trivial | rfl)))))))
  cbv
  replace h := condf h (by first | exact b_46 | (simp only [oo hO, sl] at b_46 ⊢; exact b_46))
  refine ⟨?_, ?_⟩
  rotate_left
  · first | (intro q; cases q; done) | trivial
  try intro _
  cbv
  refine ⟨?_, ?_⟩
  rotate_left
  · first | (intro q; cases q; done) | trivial
  try intro _
  cbv
  obtain ⟨v26, e_47, h⟩ := callb h
  refine ⟨[], _, _, _, _, false, c_laws_b10Same hO hP e_47, ?_⟩
  cbv
  refine ⟨(by first | trivial | (simp only [oo hO, sl]; omega) | (simp only [oo hO, sl]; done)), (by first | trivial | (simp only [oo hO, sl]; omega) | (simp only [oo hO, sl]; done)), ?_⟩
  refine ⟨(by (repeat' apply And.intro) <;> first | trivial | rfl | (intro i hi; first | (cbv <;> (repeat' apply And.intro) <;> first | trivial | rfl) | (simp only [oo hO, sl]; cbv <;> (repeat' apply And.intro) <;> first | trivial | rfl))), (by (repeat' apply And.intro) <;> first | trivial | rfl), ?_⟩
  refine ⟨?_, ?_⟩
  rotate_left
  · first | (intro q; cases q; done) | trivial
  try intro _
  cbv
  refine ⟨?_, ?_⟩
  · first | (intro q; cases q; done) | trivial
  try intro _
  cbv
  refine ⟨fun b_48 => ?_, fun b_48 => ?_⟩
  · cbv
    replace h := condt h (by first | exact b_48 | (simp only [oo hO, sl] at b_48 ⊢; exact b_48))
    replace h := (endb h).trans hr
    cases h
    ((repeat' apply And.intro) <;> first | trivial | rfl | assumption | (simp only [oo hO, ff, sl]; done) | (simp only [oo hO, ff, sl]; omega) | (intro i hi; first | (cbv <;> (repeat' apply And.intro) <;> first | trivial | rfl | (simp only [oo hO, ff, sl]; done) | (simp only [oo hO, ff, sl]; omega) | (intro j hj; first | (cbv <;> (repeat' apply And.intro) <;> first | trivial | rfl) | (simp only [oo hO, ff, sl] at hj ⊢; (try simp only [gg, sl] at hj ⊢); (repeat' split) <;> first | (exfalso; omega) | (exfalso; exact absurd (Nat.lt_of_lt_of_le hj (Nat.min_le_left _ _)) (by assumption)) | (cbv <;> (repeat' apply And.intro) <;> first | trivial | rfl) | (rename_i q; subst q; cbv <;> (repeat' apply And.intro) <;> first | trivial | rfl) | (rename_i q _; subst q; cbv <;> (repeat' apply And.intro) <;> first | trivial | rfl)))) | (simp only [oo hO, ff, sl] at hi ⊢; (try simp only [gg, sl] at hi ⊢); (repeat' split) <;> first | (exfalso; omega) | (exfalso; exact absurd (Nat.lt_of_lt_of_le hi (Nat.min_le_left _ _)) (by assumption)) | (cbv <;> (repeat' apply And.intro) <;> first | trivial | rfl | (simp only [oo hO, ff, sl]; done) | (simp only [oo hO, ff, sl]; omega) | (intro j hj; first | (cbv <;> (repeat' apply And.intro) <;> first | trivial | rfl) | (simp only [oo hO, ff, sl] at hj ⊢; (try simp only [gg, sl] at hj ⊢); (repeat' split) <;> first | (exfalso; omega) | (exfalso; exact absurd (Nat.lt_of_lt_of_le hj (Nat.min_le_left _ _)) (by assumption)) | (cbv <;> (repeat' apply And.intro) <;> first | trivial | rfl) | (rename_i q; subst q; cbv <;> (repeat' apply And.intro) <;> first | trivial | rfl) | (rename_i q _; subst q; cbv <;> (repeat' apply And.intro) <;> first | trivial | rfl)))) | (rename_i q; subst q; cbv <;> (repeat' apply And.intro) <;> first | trivial | rfl | (simp only [oo hO, ff, sl]; done) | (simp only [oo hO, ff, sl]; omega) | (intro j hj; first | (cbv <;> (repeat' apply And.intro) <;> first | trivial | rfl) | (simp only [oo hO, ff, sl] at hj ⊢; (try simp only [gg, sl] at hj ⊢); (repeat' split) <;> first | (exfalso; omega) | (exfalso; exact absurd (Nat.lt_of_lt_of_le hj (Nat.min_le_left _ _)) (by assumption)) | (cbv <;> (repeat' apply And.intro) <;> first | trivial | rfl) | (rename_i q; subst q; cbv <;> (repeat' apply And.intro) <;> first | trivial | rfl) | (rename_i q _; subst q; cbv <;> (repeat' apply And.intro) <;> first | trivial | rfl)))) | (rename_i q _; subst q; cbv <;> (repeat' apply And.intro) <;> first | trivial | rfl | (simp only [oo hO, ff, sl]; done) | (simp only [oo hO, ff, sl]; omega) | (intro j hj; first | (cbv <;> (repeat' apply And.intro) <;> first | trivial | rfl) | (simp only [oo hO, ff, sl] at hj ⊢; (try simp only [gg, sl] at hj ⊢); (repeat' split) <;> first | (exfalso; omega) | (exfalso; exact absurd (Nat.lt_of_lt_of_le hj (Nat.min_le_left _ _)) (by assumption)) | (cbv <;> (repeat' apply And.intro) <;> first | trivial | rfl) | (rename_i q; subst q; cbv <;> (repeat' apply And.intro) <;> first | trivial | rfl) | (rename_i q _; subst q; cbv <;> (repeat' apply And.intro) <;> first | trivial | rfl)))))))
  cbv
  replace h := condf h (by first | exact b_48 | (simp only [oo hO, sl] at b_48 ⊢; exact b_48))
  obtain ⟨g_49, h⟩ := gdb h
  have qg_49 := g_49; simp only [oo hO, ff, sl] at qg_49
  obtain ⟨g_50, h⟩ := gdb h
  have qg_50 := g_50; simp only [oo hO, ff, sl] at qg_50
  refine ⟨(by first | exact g_49 | (simp only [oo hO] at g_49 ⊢; simp only [sl] at g_49 ⊢; omega)), (by first | exact g_50 | (simp only [oo hO] at g_50 ⊢; simp only [sl] at g_50 ⊢; omega)), ?_⟩
  obtain ⟨g_51, h⟩ := gdb h
  refine ⟨(by first | exact g_51 | (simp only [oo hO] at g_51 ⊢; simp only [sl] at g_51 ⊢; omega)), ?_⟩
  obtain ⟨⟨v27, v28⟩, e_52, h⟩ := callb h
  refine ⟨[], _, _, _, _, false, c_impl_EmptyLine hO hP e_52, ?_⟩
  cbv
  refine ⟨(by (repeat' apply And.intro) <;> first | trivial | rfl), (by (repeat' apply And.intro) <;> first | trivial | rfl), ?_⟩
  refine ⟨(by first | trivial | (simp only [oo hO, sl]; omega) | (simp only [oo hO, sl]; done)), ?_⟩
  obtain ⟨⟨v29, v30, v31⟩, e_53, h⟩ := callb h
  refine ⟨[], _, _, _, _, true, c_impl_RunRoom hO hP e_53, ?_⟩
  cbv
  refine ⟨(by first | trivial | (simp only [oo hO, sl]; omega) | (simp only [oo hO, sl]; done)), (by first | trivial | (simp only [oo hO, sl]; omega) | (simp only [oo hO, sl]; done)), ?_⟩
  refine ⟨(by ((repeat' apply And.intro) <;> first | trivial | rfl | assumption | (simp only [oo hO, ff, sl]; done) | (simp only [oo hO, ff, sl]; omega) | (intro i hi; first | (cbv <;> (repeat' apply And.intro) <;> first | trivial | rfl | (simp only [oo hO, ff, sl]; done) | (simp only [oo hO, ff, sl]; omega) | (intro j hj; first | (cbv <;> (repeat' apply And.intro) <;> first | trivial | rfl) | (simp only [oo hO, ff, sl] at hj ⊢; (try simp only [gg, sl] at hj ⊢); (repeat' split) <;> first | (exfalso; omega) | (exfalso; exact absurd (Nat.lt_of_lt_of_le hj (Nat.min_le_left _ _)) (by assumption)) | (cbv <;> (repeat' apply And.intro) <;> first | trivial | rfl) | (rename_i q; subst q; cbv <;> (repeat' apply And.intro) <;> first | trivial | rfl) | (rename_i q _; subst q; cbv <;> (repeat' apply And.intro) <;> first | trivial | rfl)))) | (simp only [oo hO, ff, sl] at hi ⊢; (try simp only [gg, sl] at hi ⊢); (repeat' split) <;> first | (exfalso; omega) | (exfalso; exact absurd (Nat.lt_of_lt_of_le hi (Nat.min_le_left _ _)) (by assumption)) | (cbv <;> (repeat' apply And.intro) <;> first | trivial | rfl | (simp only [oo hO, ff, sl]; done) | (simp only [oo hO, ff, sl]; omega) | (intro j hj; first | (cbv <;> (repeat' apply And.intro) <;> first | trivial | rfl) | (simp only [oo hO, ff, sl] at hj ⊢; (try simp only [gg, sl] at hj ⊢); (repeat' split) <;> first | (exfalso; omega) | (exfalso; exact absurd (Nat.lt_of_lt_of_le hj (Nat.min_le_left _ _)) (by assumption)) | (cbv <;> (repeat' apply And.intro) <;> first | trivial | rfl) | (rename_i q; subst q; cbv <;> (repeat' apply And.intro) <;> first | trivial | rfl) | (rename_i q _; subst q; cbv <;> (repeat' apply And.intro) <;> first | trivial | rfl)))) | (rename_i q; subst q; cbv <;> (repeat' apply And.intro) <;> first | trivial | rfl | (simp only [oo hO, ff, sl]; done) | (simp only [oo hO, ff, sl]; omega) | (intro j hj; first | (cbv <;> (repeat' apply And.intro) <;> first | trivial | rfl) | (simp only [oo hO, ff, sl] at hj ⊢; (try simp only [gg, sl] at hj ⊢); (repeat' split) <;> first | (exfalso; omega) | (exfalso; exact absurd (Nat.lt_of_lt_of_le hj (Nat.min_le_left _ _)) (by assumption)) | (cbv <;> (repeat' apply And.intro) <;> first | trivial | rfl) | (rename_i q; subst q; cbv <;> (repeat' apply And.intro) <;> first | trivial | rfl) | (rename_i q _; subst q; cbv <;> (repeat' apply And.intro) <;> first | trivial | rfl)))) | (rename_i q _; subst q; cbv <;> (repeat' apply And.intro) <;> first | trivial | rfl | (simp only [oo hO, ff, sl]; done) | (simp only [oo hO, ff, sl]; omega) | (intro j hj; first | (cbv <;> (repeat' apply And.intro) <;> first | trivial | rfl) | (simp only [oo hO, ff, sl] at hj ⊢; (try simp only [gg, sl] at hj ⊢); (repeat' split) <;> first | (exfalso; omega) | (exfalso; exact absurd (Nat.lt_of_lt_of_le hj (Nat.min_le_left _ _)) (by assumption)) | (cbv <;> (repeat' apply And.intro) <;> first | trivial | rfl) | (rename_i q; subst q; cbv <;> (repeat' apply And.intro) <;> first | trivial | rfl) | (rename_i q _; subst q; cbv <;> (repeat' apply And.intro) <;> first | trivial | rfl)))))))), (by (repeat' apply And.intro) <;> first | trivial | rfl), ?_⟩
  obtain ⟨g_54, h⟩ := gdb h
  refine ⟨(by first | exact g_54 | (simp only [oo hO] at g_54 ⊢; simp only [sl] at g_54 ⊢; omega)), ?_⟩
  obtain ⟨⟨v32, v33, v34⟩, e_55, h⟩ := callb h
  refine ⟨[], _, _, _, _, true, c_impl_RunDelay hO hP e_55, ?_⟩
  cbv
  refine ⟨(by first | trivial | (simp only [oo hO, sl]; omega) | (simp only [oo hO, sl]; done)), (by first | trivial | (simp only [oo hO, sl]; omega) | (simp only [oo hO, sl]; done)), ?_⟩
  refine ⟨(by (repeat' apply And.intro) <;> first | trivial | rfl | (intro i hi; first | (cbv <;> (repeat' apply And.intro) <;> first | trivial | rfl) | (simp only [oo hO, sl]; cbv <;> (repeat' apply And.intro) <;> first | trivial | rfl))), (by (repeat' apply And.intro) <;> first | trivial | rfl), ?_⟩
  refine ⟨fun b_56 => ?_, fun b_56 => ?_⟩
  rotate_left
  · cbv
    replace h := condt h (by first | exact b_56 | (simp only [oo hO, sl] at b_56 ⊢; exact b_56))
    refine ⟨?_, ?_⟩
    · first | (intro q; cases q; done) | trivial
    try intro _
    cbv
    refine ⟨?_, ?_⟩
    rotate_left
    · first | (intro q; cases q; done) | trivial
    try intro _
    cbv
    refine ⟨?_, ?_⟩
    · first | (intro q; cases q; done) | trivial
    try intro _
    cbv
    refine ⟨?_, ?_⟩
    · first | (intro q; cases q; done) | trivial
    try intro _
    cbv
    refine ⟨?_, ?_⟩
    rotate_left
    · first | (intro q; cases q; done) | trivial
    try intro _
    cbv
    refine ⟨?_, ?_⟩
    · first | (intro q; cases q; done) | trivial
    try intro _
    cbv
    refine ⟨?_, ?_⟩
    · first | (intro q; cases q; done) | trivial
    try intro _
    cbv
    refine ⟨?_, ?_⟩
    · first | (intro q; cases q; done) | trivial
    try intro _
    cbv
    refine ⟨?_, ?_⟩
    · first | (intro q; cases q; done) | trivial
    try intro _
    cbv
    refine ⟨?_, ?_⟩
    · first | (intro q; cases q; done) | trivial
    try intro _
    cbv
    refine ⟨?_, ?_⟩
    rotate_left
    · first | (intro q; cases q; done) | trivial
    try intro _
    cbv
    refine ⟨?_, ?_⟩
    rotate_left
    · first | (intro q; cases q; done) | trivial
    try intro _
    cbv
    replace h := (endb h).trans hr
    cases h
    ((repeat' apply And.intro) <;> first | trivial | rfl | assumption | (simp only [oo hO, ff, sl]; done) | (simp only [oo hO, ff, sl]; omega) | (intro i hi; first | (cbv <;> (repeat' apply And.intro) <;> first | trivial | rfl | (simp only [oo hO, ff, sl]; done) | (simp only [oo hO, ff, sl]; omega) | (intro j hj; first | (cbv <;> (repeat' apply And.intro) <;> first | trivial | rfl) | (simp only [oo hO, ff, sl] at hj ⊢; (try simp only [gg, sl] at hj ⊢); (repeat' split) <;> first | (exfalso; omega) | (exfalso; exact absurd (Nat.lt_of_lt_of_le hj (Nat.min_le_left _ _)) (by assumption)) | (cbv <;> (repeat' apply And.intro) <;> first | trivial | rfl) | (rename_i q; subst q; cbv <;> (repeat' apply And.intro) <;> first | trivial | rfl) | (rename_i q _; subst q; cbv <;> (repeat' apply And.intro) <;> first | trivial | rfl)))) | (simp only [oo hO, ff, sl] at hi ⊢; (try simp only [gg, sl] at hi ⊢); (repeat' split) <;> first | (exfalso; omega) | (exfalso; exact absurd (Nat.lt_of_lt_of_le hi (Nat.min_le_left _ _)) (by assumption)) | (cbv <;> (repeat' apply And.intro) <;> first | trivial | rfl | (simp only [oo hO, ff, sl]; done) | (simp only [oo hO, ff, sl]; omega) | (intro j hj; first | (cbv <;> (repeat' apply And.intro) <;> first | trivial | rfl) | (simp only [oo hO, ff, sl] at hj ⊢; (try simp only [gg, sl] at hj ⊢); (repeat' split) <;> first | (exfalso; omega) | (exfalso; exact absurd (Nat.lt_of_lt_of_le hj (Nat.min_le_left _ _)) (by assumption)) | (cbv <;> (repeat' apply And.intro) <;> first | trivial | rfl) | (rename_i q; subst q; cbv <;> (repeat' apply And.intro) <;> first | trivial | rfl) | (rename_i q _; subst q; cbv <;> (repeat' apply And.intro) <;> first | trivial | rfl)))) | (rename_i q; subst q; cbv <;> (repeat' apply And.intro) <;> first | trivial | rfl | (simp only [oo hO, ff, sl]; done) | (simp only [oo hO, ff, sl]; omega) | (intro j hj; first | (cbv <;> (repeat' apply And.intro) <;> first | trivial | rfl) | (simp only [oo hO, ff, sl] at hj ⊢; (try simp only [gg, sl] at hj ⊢); (repeat' split) <;> first | (exfalso; omega) | (exfalso; exact absurd (Nat.lt_of_lt_of_le hj (Nat.min_le_left _ _)) (by assumption)) | (cbv <;> (repeat' apply And.intro) <;> first | trivial | rfl) | (rename_i q; subst q; cbv <;> (repeat' apply And.intro) <;> first | trivial | rfl) | (rename_i q _; subst q; cbv <;> (repeat' apply And.intro) <;> first | trivial | rfl)))) | (rename_i q _; subst q; cbv <;> (repeat' apply And.intro) <;> first | trivial | rfl | (simp only [oo hO, ff, sl]; done) | (simp only [oo hO, ff, sl]; omega) | (intro j hj; first | (cbv <;> (repeat' apply And.intro) <;> first | trivial | rfl) | (simp only [oo hO, ff, sl] at hj ⊢; (try simp only [gg, sl] at hj ⊢); (repeat' split) <;> first | (exfalso; omega) | (exfalso; exact absurd (Nat.lt_of_lt_of_le hj (Nat.min_le_left _ _)) (by assumption)) | (cbv <;> (repeat' apply And.intro) <;> first | trivial | rfl) | (rename_i q; subst q; cbv <;> (repeat' apply And.intro) <;> first | trivial | rfl) | (rename_i q _; subst q; cbv <;> (repeat' apply And.intro) <;> first | trivial | rfl)))))))
  cbv
  replace h := condf h (by first | exact b_56 | (simp only [oo hO, sl] at b_56 ⊢; exact b_56))
  refine ⟨?_, ?_⟩
  rotate_left
  · first | (intro q; cases q; done) | trivial
  try intro _
  cbv
  refine ⟨?_, ?_⟩
  · first | (intro q; cases q; done) | trivial
  try intro _
  cbv
  refine ⟨fun b_57 => ?_, fun b_57 => ?_⟩
  rotate_left
  · cbv
    replace h := condt h (by first | exact b_57 | (simp only [oo hO, sl] at b_57 ⊢; exact b_57))
    refine ⟨?_, ?_⟩
    · first | (intro q; cases q; done) | trivial
    try intro _
    cbv
    refine ⟨?_, ?_⟩
    rotate_left
    · first | (intro q; cases q; done) | trivial
    try intro _
    cbv
    refine ⟨?_, ?_⟩
    · first | (intro q; cases q; done) | trivial
    try intro _
    cbv
    refine ⟨?_, ?_⟩
    · first | (intro q; cases q; done) | trivial
    try intro _
    cbv
    refine ⟨?_, ?_⟩
    · first | (intro q; cases q; done) | trivial
    try intro _
    cbv
    refine ⟨?_, ?_⟩
    · first | (intro q; cases q; done) | trivial
    try intro _
    cbv
    refine ⟨?_, ?_⟩
    · first | (intro q; cases q; done) | trivial
    try intro _
    cbv
    refine ⟨?_, ?_⟩
    rotate_left
    · first | (intro q; cases q; done) | trivial
    try intro _
    cbv
    refine ⟨?_, ?_⟩
    rotate_left
    · first | (intro q; cases q; done) | trivial
    try intro _
    cbv
    replace h := (endb h).trans hr
    cases h
    ((repeat' apply And.intro) <;> first | trivial | rfl | assumption | (simp only [oo hO, ff, sl]; done) | (simp only [oo hO, ff, sl]; omega) | (intro i hi; first | (cbv <;> (repeat' apply And.intro) <;> first | trivial | rfl | (simp only [oo hO, ff, sl]; done) | (simp only [oo hO, ff, sl]; omega) | (intro j hj; first | (cbv <;> (repeat' apply And.intro) <;> first | trivial | rfl) | (simp only [oo hO, ff, sl] at hj ⊢; (try simp only [gg, sl] at hj ⊢); (repeat' split) <;> first | (exfalso; omega) | (exfalso; exact absurd (Nat.lt_of_lt_of_le hj (Nat.min_le_left _ _)) (by assumption)) | (cbv <;> (repeat' apply And.intro) <;> first | trivial | rfl) | (rename_i q; subst q; cbv <;> (repeat' apply And.intro) <;> first | trivial | rfl) | (rename_i q _; subst q; cbv <;> (repeat' apply And.intro) <;> first | trivial | rfl)))) | (simp only [oo hO, ff, sl] at hi ⊢; (try simp only [gg, sl] at hi ⊢); (repeat' split) <;> first | (exfalso; omega) | (exfalso; exact absurd (Nat.lt_of_lt_of_le hi (Nat.min_le_left _ _)) (by assumption)) | (cbv <;> (repeat' apply And.intro) <;> first | trivial | rfl | (simp only [oo hO, ff, sl]; done) | (simp only [oo hO, ff, sl]; omega) | (intro j hj; first | (cbv <;> (repeat' apply And.intro) <;> first | trivial | rfl) | (simp only [oo hO, ff, sl] at hj ⊢; (try simp only [gg, sl] at hj ⊢); (repeat' split) <;> first | (exfalso; omega) | (exfalso; exact absurd (Nat.lt_of_lt_of_le hj (Nat.min_le_left _ _)) (by assumption)) | (cbv <;> (repeat' apply And.intro) <;> first | trivial | rfl) | (rename_i q; subst q; cbv <;> (repeat' apply And.intro) <;> first | trivial | rfl) | (rename_i q _; subst q; cbv <;> (repeat' apply And.intro) <;> first | trivial | rfl)))) | (rename_i q; subst q; cbv <;> (repeat' apply And.intro) <;> first | trivial | rfl | (simp only [oo hO, ff, sl]; done) | (simp only [oo hO, ff, sl]; omega) | (intro j hj; first | (cbv <;> (repeat' apply And.intro) <;> first | trivial | rfl) | (simp only [oo hO, ff, sl] at hj ⊢; (try simp only [gg, sl] at hj ⊢); (repeat' split) <;> first | (exfalso; omega) | (exfalso; exact absurd (Nat.lt_of_lt_of_le hj (Nat.min_le_left _ _)) (by assumption)) | (cbv <;> (repeat' apply And.intro) <;> first | trivial | rfl) | (rename_i q; subst q; cbv <;> (repeat' apply And.intro) <;> first | trivial | rfl) | (rename_i q _; subst q; cbv <;> (repeat' apply And.intro) <;> first | trivial | rfl)))) | (rename_i q _; subst q; cbv <;> (repeat' apply And.intro) <;> first | trivial | rfl | (simp only [oo hO, ff, sl]; done) | (simp only [oo hO, ff, sl]; omega) | (intro j hj; first | (cbv <;> (repeat' apply And.intro) <;> first | trivial | rfl) | (simp only [oo hO, ff, sl] at hj ⊢; (try simp only [gg, sl] at hj ⊢); (repeat' split) <;> first | (exfalso; omega) | (exfalso; exact absurd (Nat.lt_of_lt_of_le hj (Nat.min_le_left _ _)) (by assumption)) | (cbv <;> (repeat' apply And.intro) <;> first | trivial | rfl) | (rename_i q; subst q; cbv <;> (repeat' apply And.intro) <;> first | trivial | rfl) | (rename_i q _; subst q; cbv <;> (repeat' apply And.intro) <;> first | trivial | rfl)))))))
  cbv
  replace h := condf h (by first | exact b_57 | (simp only [oo hO, sl] at b_57 ⊢; exact b_57))
  refine ⟨?_, ?_⟩
  rotate_left
  · first | (intro q; cases q; done) | trivial
  try intro _
  cbv
  refine ⟨?_, ?_⟩
  · first | (intro q; cases q; done) | trivial
  try intro _
  cbv
  refine ⟨fun b_58 => ?_, fun b_58 => ?_⟩
  rotate_left
  · cbv
    replace h := condt h (by first | exact b_58 | (simp only [oo hO, sl] at b_58 ⊢; exact b_58))
    refine ⟨?_, ?_⟩
    · first | (intro q; cases q; done) | trivial
    try intro _
    cbv
    refine ⟨?_, ?_⟩
    · first | (intro q; cases q; done) | trivial
    try intro _
    cbv
    refine ⟨?_, ?_⟩
    · first | (intro q; cases q; done) | trivial
    try intro _
    cbv
    refine ⟨?_, ?_⟩
    · first | (intro q; cases q; done) | trivial
    try intro _
    cbv
    refine ⟨?_, ?_⟩
    rotate_left
    · first | (intro q; cases q; done) | trivial
    try intro _
    cbv
    refine ⟨?_, ?_⟩
    rotate_left
    · first | (intro q; cases q; done) | trivial
    try intro _
    cbv
    replace h := (endb h).trans hr
    cases h
    ((repeat' apply And.intro) <;> first | trivial | rfl | assumption | (simp only [oo hO, ff, sl]; done) | (simp only [oo hO, ff, sl]; omega) | (intro i hi; first | (cbv <;> (repeat' apply And.intro) <;> first | trivial | rfl | (simp only [oo hO, ff, sl]; done) | (simp only [oo hO, ff, sl]; omega) | (intro j hj; first | (cbv <;> (repeat' apply And.intro) <;> first | trivial | rfl) | (simp only [oo hO, ff, sl] at hj ⊢; (try simp only [gg, sl] at hj ⊢); (repeat' split) <;> first | (exfalso; omega) | (exfalso; exact absurd (Nat.lt_of_lt_of_le hj (Nat.min_le_left _ _)) (by assumption)) | (cbv <;> (repeat' apply And.intro) <;> first | trivial | rfl) | (rename_i q; subst q; cbv <;> (repeat' apply And.intro) <;> first | trivial | rfl) | (rename_i q _; subst q; cbv <;> (repeat' apply And.intro) <;> first | trivial | rfl)))) | (simp only [oo hO, ff, sl] at hi ⊢; (try simp only [gg, sl] at hi ⊢); (repeat' split) <;> first | (exfalso; omega) | (exfalso; exact absurd (Nat.lt_of_lt_of_le hi (Nat.min_le_left _ _)) (by assumption)) | (cbv <;> (repeat' apply And.intro) <;> first | trivial | rfl | (simp only [oo hO, ff, sl]; done) | (simp only [oo hO, ff, sl]; omega) | (intro j hj; first | (cbv <;> (repeat' apply And.intro) <;> first | trivial | rfl) | (simp only [oo hO, ff, sl] at hj ⊢; (try simp only [gg, sl] at hj ⊢); (repeat' split) <;> first | (exfalso; omega) | (exfalso; exact absurd (Nat.lt_of_lt_of_le hj (Nat.min_le_left _ _)) (by assumption)) | (cbv <;> (repeat' apply And.intro) <;> first | trivial | rfl) | (rename_i q; subst q; cbv <;> (repeat' apply And.intro) <;> first | trivial | rfl) | (rename_i q _; subst q; cbv <;> (repeat' apply And.intro) <;> first | trivial | rfl)))) | (rename_i q; subst q; cbv <;> (repeat' apply And.intro) <;> first | trivial | rfl | (simp only [oo hO, ff, sl]; done) | (simp only [oo hO, ff, sl]; omega) | (intro j hj; first | (cbv <;> (repeat' apply And.intro) <;> first | trivial | rfl) | (simp only [oo hO, ff, sl] at hj ⊢; (try simp only [gg, sl] at hj ⊢); (repeat' split) <;> first | (exfalso; omega) | (exfalso; exact absurd (Nat.lt_of_lt_of_le hj (Nat.min_le_left _ _)) (by assumption)) | (cbv <;> (repeat' apply And.intro) <;> first | trivial | rfl) | (rename_i q; subst q; cbv <;> (repeat' apply And.intro) <;> first | trivial | rfl) | (rename_i q _; subst q; cbv <;> (repeat' apply And.intro) <;> first | trivial | rfl)))) | (rename_i q _; subst q; cbv <;> (repeat' apply And.intro) <;> first | trivial | rfl | (simp only [oo hO, ff, sl]; done) | (simp only [oo hO, ff, sl]; omega) | (intro j hj; first | (cbv <;> (repeat' apply And.intro) <;> first | trivial | rfl) | (simp only [oo hO, ff, sl] at hj ⊢; (try simp only [gg, sl] at hj ⊢); (repeat' split) <;> first | (exfalso; omega) | (exfalso; exact absurd (Nat.lt_of_lt_of_le hj (Nat.min_le_left _ _)) (by assumption)) | (cbv <;> (repeat' apply And.intro) <;> first | trivial | rfl) | (rename_i q; subst q; cbv <;> (repeat' apply And.intro) <;> first | trivial | rfl) | (rename_i q _; subst q; cbv <;> (repeat' apply And.intro) <;> first | trivial | rfl)))))))
  cbv
  replace h := condf h (by first | exact b_58 | (simp only [oo hO, sl] at b_58 ⊢; exact b_58))
  refine ⟨?_, ?_⟩
  rotate_left
  · first | (intro q; cases q; done) | trivial
  try intro _
  cbv
  refine ⟨?_, ?_⟩
  rotate_left
  · first | (intro q; cases q; done) | trivial
  try intro _
  cbv
  refine ⟨?_, ?_⟩
  rotate_left
  · first | (intro q; cases q; done) | trivial
  try intro _
  cbv
  refine ⟨?_, ?_⟩
  rotate_left
  · first | (intro q; cases q; done) | trivial
  try intro _
  cbv
  refine ⟨?_, ?_⟩
  · first | (intro q; cases q; done) | trivial
  try intro _
  cbv
  refine ⟨fun b_59 => ?_, fun b_59 => ?_⟩
  · cbv
    replace h := condt h (by first | exact b_59 | (simp only [oo hO, sl] at b_59 ⊢; exact b_59))
    replace h := (endb h).trans hr
    cases h
    ((repeat' apply And.intro) <;> first | trivial | rfl | assumption | (simp only [oo hO, ff, sl]; done) | (simp only [oo hO, ff, sl]; omega) | (intro i hi; first | (cbv <;> (repeat' apply And.intro) <;> first | trivial | rfl | (simp only [oo hO, ff, sl]; done) | (simp only [oo hO, ff, sl]; omega) | (intro j hj; first | (cbv <;> (repeat' apply And.intro) <;> first | trivial | rfl) | (simp only [oo hO, ff, sl] at hj ⊢; (try simp only [gg, sl] at hj ⊢); (repeat' split) <;> first | (exfalso; omega) | (exfalso; exact absurd (Nat.lt_of_lt_of_le hj (Nat.min_le_left _ _)) (by assumption)) | (cbv <;> (repeat' apply And.intro) <;> first | trivial | rfl) | (rename_i q; subst q; cbv <;> (repeat' apply And.intro) <;> first | trivial | rfl) | (rename_i q _; subst q; cbv <;> (repeat' apply And.intro) <;> first | trivial | rfl)))) | (simp only [oo hO, ff, sl] at hi ⊢; (try simp only [gg, sl] at hi ⊢); (repeat' split) <;> first | (exfalso; omega) | (exfalso; exact absurd (Nat.lt_of_lt_of_le hi (Nat.min_le_left _ _)) (by assumption)) | (cbv <;> (repeat' apply And.intro) <;> first | trivial | rfl | (simp only [oo hO, ff, sl]; done) | (simp only [oo hO, ff, sl]; omega) | (intro j hj; first | (cbv <;> (repeat' apply And.intro) <;> first | trivial | rfl) | (simp only [oo hO, ff, sl] at hj ⊢; (try simp only [gg, sl] at hj ⊢); (repeat' split) <;> first | (exfalso; omega) | (exfalso; exact absurd (Nat.lt_of_lt_of_le hj (Nat.min_le_left _ _)) (by assumption)) | (cbv <;> (repeat' apply And.intro) <;> first | trivial | rfl) | (rename_i q; subst q; cbv <;> (repeat' apply And.intro) <;> first | trivial | rfl) | (rename_i q _; subst q; cbv <;> (repeat' apply And.intro) <;> first | trivial | rfl)))) | (rename_i q; subst q; cbv <;> (repeat' apply And.intro) <;> first | trivial | rfl | (simp only [oo hO, ff, sl]; done) | (simp only [oo hO, ff, sl]; omega) | (intro j hj; first | (cbv <;> (repeat' apply And.intro) <;> first | trivial | rfl) | (simp only [oo hO, ff, sl] at hj ⊢; (try simp only [gg, sl] at hj ⊢); (repeat' split) <;> first | (exfalso; omega) | (exfalso; exact absurd (Nat.lt_of_lt_of_le hj (Nat.min_le_left _ _)) (by assumption)) | (cbv <;> (repeat' apply And.intro) <;> first | trivial | rfl) | (rename_i q; subst q; cbv <;> (repeat' apply And.intro) <;> first | trivial | rfl) | (rename_i q _; subst q; cbv <;> (repeat' apply And.intro) <;> first | trivial | rfl)))) | (rename_i q _; subst q; cbv <;> (repeat' apply And.intro) <;> first | trivial | rfl | (simp only [oo hO, ff, sl]; done) | (simp only [oo hO, ff, sl]; omega) | (intro j hj; first | (cbv <;> (repeat' apply And.intro) <;> first | trivial | rfl) | (simp only [oo hO, ff, sl] at hj ⊢; (try simp only [gg, sl] at hj ⊢); (repeat' split) <;> first | (exfalso; omega) | (exfalso; exact absurd (Nat.lt_of_lt_of_le hj (Nat.min_le_left _ _)) (by assumption)) | (cbv <;> (repeat' apply And.intro) <;> first | trivial | rfl) | (rename_i q; subst q; cbv <;> (repeat' apply And.intro) <;> first | trivial | rfl) | (rename_i q _; subst q; cbv <;> (repeat' apply And.intro) <;> first | trivial | rfl)))))))
  cbv
  replace h := condf h (by first | exact b_59 | (simp only [oo hO, sl] at b_59 ⊢; exact b_59))
  obtain ⟨R_60, hR_60, h⟩ := loopb h
  refine ⟨{ x : Nat × Int // (F_laws_FnRooms_l1 O v4 v29 v32 x.1 x.2).bind R_60 = some r }, fun x => ⟨[(7, .osl 15 1 0 (O.llen v4)), (30, .osl 31 1 0 (O.llen v29)), (33, .osl 47 1 0 (O.llen v32)), (218, .int .i64 (O.ofN (O.llen v29))), (219, .int .i64 x.1.2)], [(15, .frz true 1 (O.llen v4) (fun i1 => [.flt .f32 (O.lget v4 i1 0)])), (31, .arr true true 1 (O.llen v29) (fun i1 => [.flt .f32 (O.lget v29 i1 0)])), (47, .arr true true 1 (O.llen v32) (fun i1 => [.flt .f32 (O.lget v32 i1 0)]))]⟩, fun x => x.1.1, ⟨(KK, 0), h⟩, ?_, ?_⟩
  · (cbv <;> ((repeat' apply And.intro) <;> first | trivial | rfl | assumption | (simp only [oo hO, ff, sl]; done) | (simp only [oo hO, ff, sl]; omega) | (intro i hi; first | (cbv <;> (repeat' apply And.intro) <;> first | trivial | rfl | (simp only [oo hO, ff, sl]; done) | (simp only [oo hO, ff, sl]; omega) | (intro j hj; first | (cbv <;> (repeat' apply And.intro) <;> first | trivial | rfl) | (simp only [oo hO, ff, sl] at hj ⊢; (try simp only [gg, sl] at hj ⊢); (repeat' split) <;> first | (exfalso; omega) | (exfalso; exact absurd (Nat.lt_of_lt_of_le hj (Nat.min_le_left _ _)) (by assumption)) | (cbv <;> (repeat' apply And.intro) <;> first | trivial | rfl) | (rename_i q; subst q; cbv <;> (repeat' apply And.intro) <;> first | trivial | rfl) | (rename_i q _; subst q; cbv <;> (repeat' apply And.intro) <;> first | trivial | rfl)))) | (simp only [oo hO, ff, sl] at hi ⊢; (try simp only [gg, sl] at hi ⊢); (repeat' split) <;> first | (exfalso; omega) | (exfalso; exact absurd (Nat.lt_of_lt_of_le hi (Nat.min_le_left _ _)) (by assumption)) | (cbv <;> (repeat' apply And.intro) <;> first | trivial | rfl | (simp only [oo hO, ff, sl]; done) | (simp only [oo hO, ff, sl]; omega) | (intro j hj; first | (cbv <;> (repeat' apply And.intro) <;> first | trivial | rfl) | (simp only [oo hO, ff, sl] at hj ⊢; (try simp only [gg, sl] at hj ⊢); (repeat' split) <;> first | (exfalso; omega) | (exfalso; exact absurd (Nat.lt_of_lt_of_le hj (Nat.min_le_left _ _)) (by assumption)) | (cbv <;> (repeat' apply And.intro) <;> first | trivial | rfl) | (rename_i q; subst q; cbv <;> (repeat' apply And.intro) <;> first | trivial | rfl) | (rename_i q _; subst q; cbv <;> (repeat' apply And.intro) <;> first | trivial | rfl)))) | (rename_i q; subst q; cbv <;> (repeat' apply And.intro) <;> first | trivial | rfl | (simp only [oo hO, ff, sl]; done) | (simp only [oo hO, ff, sl]; omega) | (intro j hj; first | (cbv <;> (repeat' apply And.intro) <;> first | trivial | rfl) | (simp only [oo hO, ff, sl] at hj ⊢; (try simp only [gg, sl] at hj ⊢); (repeat' split) <;> first | (exfalso; omega) | (exfalso; exact absurd (Nat.lt_of_lt_of_le hj (Nat.min_le_left _ _)) (by assumption)) | (cbv <;> (repeat' apply And.intro) <;> first | trivial | rfl) | (rename_i q; subst q; cbv <;> (repeat' apply And.intro) <;> first | trivial | rfl) | (rename_i q _; subst q; cbv <;> (repeat' apply And.intro) <;> first | trivial | rfl)))) | (rename_i q _; subst q; cbv <;> (repeat' apply And.intro) <;> first | trivial | rfl | (simp only [oo hO, ff, sl]; done) | (simp only [oo hO, ff, sl]; omega) | (intro j hj; first | (cbv <;> (repeat' apply And.intro) <;> first | trivial | rfl) | (simp only [oo hO, ff, sl] at hj ⊢; (try simp only [gg, sl] at hj ⊢); (repeat' split) <;> first | (exfalso; omega) | (exfalso; exact absurd (Nat.lt_of_lt_of_le hj (Nat.min_le_left _ _)) (by assumption)) | (cbv <;> (repeat' apply And.intro) <;> first | trivial | rfl) | (rename_i q; subst q; cbv <;> (repeat' apply And.intro) <;> first | trivial | rfl) | (rename_i q _; subst q; cbv <;> (repeat' apply And.intro) <;> first | trivial | rfl))))))))
  rintro ⟨⟨k_61, p36⟩, h⟩
  rcases k_61 with _ | k_61
  · cases noneb rfl h
  rw [F_laws_FnRooms_l1.eq_2] at h
  cbv
  refine ⟨fun b_62 => ?_, fun b_62 => ?_⟩
  rotate_left
  · cbv
    replace h := condf h (by first | exact b_62 | (simp only [oo hO, sl] at b_62 ⊢; exact b_62))
    replace h := leafb h hR_60
    replace h := (endb h).trans hr
    cases h
    ((repeat' apply And.intro) <;> first | trivial | rfl | assumption | (simp only [oo hO, ff, sl]; done) | (simp only [oo hO, ff, sl]; omega) | (intro i hi; first | (cbv <;> (repeat' apply And.intro) <;> first | trivial | rfl | (simp only [oo hO, ff, sl]; done) | (simp only [oo hO, ff, sl]; omega) | (intro j hj; first | (cbv <;> (repeat' apply And.intro) <;> first | trivial | rfl) | (simp only [oo hO, ff, sl] at hj ⊢; (try simp only [gg, sl] at hj ⊢); (repeat' split) <;> first | (exfalso; omega) | (exfalso; exact absurd (Nat.lt_of_lt_of_le hj (Nat.min_le_left _ _)) (by assumption)) | (cbv <;> (repeat' apply And.intro) <;> first | trivial | rfl) | (rename_i q; subst q; cbv <;> (repeat' apply And.intro) <;> first | trivial | rfl) | (rename_i q _; subst q; cbv <;> (repeat' apply And.intro) <;> first | trivial | rfl)))) | (simp only [oo hO, ff, sl] at hi ⊢; (try simp only [gg, sl] at hi ⊢); (repeat' split) <;> first | (exfalso; omega) | (exfalso; exact absurd (Nat.lt_of_lt_of_le hi (Nat.min_le_left _ _)) (by assumption)) | (cbv <;> (repeat' apply And.intro) <;> first | trivial | rfl | (simp only [oo hO, ff, sl]; done) | (simp only [oo hO, ff, sl]; omega) | (intro j hj; first | (cbv <;> (repeat' apply And.intro) <;> first | trivial | rfl) | (simp only [oo hO, ff, sl] at hj ⊢; (try simp only [gg, sl] at hj ⊢); (repeat' split) <;> first | (exfalso; omega) | (exfalso; exact absurd (Nat.lt_of_lt_of_le hj (Nat.min_le_left _ _)) (by assumption)) | (cbv <;> (repeat' apply And.intro) <;> first | trivial | rfl) | (rename_i q; subst q; cbv <;> (repeat' apply And.intro) <;> first | trivial | rfl) | (rename_i q _; subst q; cbv <;> (repeat' apply And.intro) <;> first | trivial | rfl)))) | (rename_i q; subst q; cbv <;> (repeat' apply And.intro) <;> first | trivial | rfl | (simp only [oo hO, ff, sl]; done) | (simp only [oo hO, ff, sl]; omega) | (intro j hj; first | (cbv <;> (repeat' apply And.intro) <;> first | trivial | rfl) | (simp only [oo hO, ff, sl] at hj ⊢; (try simp only [gg, sl] at hj ⊢); (repeat' split) <;> first | (exfalso; omega) | (exfalso; exact absurd (Nat.lt_of_lt_of_le hj (Nat.min_le_left _ _)) (by assumption)) | (cbv <;> (repeat' apply And.intro) <;> first | trivial | rfl) | (rename_i q; subst q; cbv <;> (repeat' apply And.intro) <;> first | trivial | rfl) | (rename_i q _; subst q; cbv <;> (repeat' apply And.intro) <;> first | trivial | rfl)))) | (rename_i q _; subst q; cbv <;> (repeat' apply And.intro) <;> first | trivial | rfl | (simp only [oo hO, ff, sl]; done) | (simp only [oo hO, ff, sl]; omega) | (intro j hj; first | (cbv <;> (repeat' apply And.intro) <;> first | trivial | rfl) | (simp only [oo hO, ff, sl] at hj ⊢; (try simp only [gg, sl] at hj ⊢); (repeat' split) <;> first | (exfalso; omega) | (exfalso; exact absurd (Nat.lt_of_lt_of_le hj (Nat.min_le_left _ _)) (by assumption)) | (cbv <;> (repeat' apply And.intro) <;> first | trivial | rfl) | (rename_i q; subst q; cbv <;> (repeat' apply And.intro) <;> first | trivial | rfl) | (rename_i q _; subst q; cbv <;> (repeat' apply And.intro) <;> first | trivial | rfl)))))))
  cbv
  replace h := condt h (by first | exact b_62 | (simp only [oo hO, sl] at b_62 ⊢; exact b_62))
  obtain ⟨g_63, h⟩ := gdb h
  refine ⟨(by first | exact g_63 | (simp only [oo hO] at g_63 ⊢; simp only [sl] at g_63 ⊢; omega)), ?_⟩
  obtain ⟨g_64, h⟩ := gdb h
  refine ⟨(by first | exact g_64 | (simp only [oo hO] at g_64 ⊢; simp only [sl] at g_64 ⊢; omega)), ?_⟩
  obtain ⟨v35, e_65, h⟩ := callb h
  refine ⟨[], _, _, _, _, false, c_spec_IsFinite hO hP e_65, ?_⟩
  cbv
  refine ⟨(by (repeat' apply And.intro) <;> first | trivial | rfl), (by (repeat' apply And.intro) <;> first | trivial | rfl), ?_⟩
  refine ⟨fun b_66 => ?_, fun b_66 => ?_⟩
  rotate_left
  · cbv
    replace h := condf h (by first | exact b_66 | (simp only [oo hO, sl] at b_66 ⊢; exact b_66))
    refine ⟨?_, ?_⟩
    · first | (intro q; cases q; done) | trivial
    try intro _
    cbv
    refine ⟨?_, ?_⟩
    · first | (intro q; cases q; done) | trivial
    try intro _
    cbv
    obtain ⟨g_67, h⟩ := gdb h
    refine ⟨(by first | exact g_67 | (simp only [oo hO] at g_67 ⊢; simp only [sl] at g_67 ⊢; omega)), ?_⟩
    refine ⟨⟨(k_61, (O.iadd p36 1)), h⟩, ?_, ?_⟩
    · (cbv <;> ((repeat' apply And.intro) <;> first | trivial | rfl | assumption | (simp only [oo hO, ff, sl]; done) | (simp only [oo hO, ff, sl]; omega) | (intro i hi; first | (cbv <;> (repeat' apply And.intro) <;> first | trivial | rfl | (simp only [oo hO, ff, sl]; done) | (simp only [oo hO, ff, sl]; omega) | (intro j hj; first | (cbv <;> (repeat' apply And.intro) <;> first | trivial | rfl) | (simp only [oo hO, ff, sl] at hj ⊢; (try simp only [gg, sl] at hj ⊢); (repeat' split) <;> first | (exfalso; omega) | (exfalso; exact absurd (Nat.lt_of_lt_of_le hj (Nat.min_le_left _ _)) (by assumption)) | (cbv <;> (repeat' apply And.intro) <;> first | trivial | rfl) | (rename_i q; subst q; cbv <;> (repeat' apply And.intro) <;> first | trivial | rfl) | (rename_i q _; subst q; cbv <;> (repeat' apply And.intro) <;> first | trivial | rfl)))) | (simp only [oo hO, ff, sl] at hi ⊢; (try simp only [gg, sl] at hi ⊢); (repeat' split) <;> first | (exfalso; omega) | (exfalso; exact absurd (Nat.lt_of_lt_of_le hi (Nat.min_le_left _ _)) (by assumption)) | (cbv <;> (repeat' apply And.intro) <;> first | trivial | rfl | (simp only [oo hO, ff, sl]; done) | (simp only [oo hO, ff, sl]; omega) | (intro j hj; first | (cbv <;> (repeat' apply And.intro) <;> first | trivial | rfl) | (simp only [oo hO, ff, sl] at hj ⊢; (try simp only [gg, sl] at hj ⊢); (repeat' split) <;> first | (exfalso; omega) | (exfalso; exact absurd (Nat.lt_of_lt_of_le hj (Nat.min_le_left _ _)) (by assumption)) | (cbv <;> (repeat' apply And.intro) <;> first | trivial | rfl) | (rename_i q; subst q; cbv <;> (repeat' apply And.intro) <;> first | trivial | rfl) | (rename_i q _; subst q; cbv <;> (repeat' apply And.intro) <;> first | trivial | rfl)))) | (rename_i q; subst q; cbv <;> (repeat' apply And.intro) <;> first | trivial | rfl | (simp only [oo hO, ff, sl]; done) | (simp only [oo hO, ff, sl]; omega) | (intro j hj; first | (cbv <;> (repeat' apply And.intro) <;> first | trivial | rfl) | (simp only [oo hO, ff, sl] at hj ⊢; (try simp only [gg, sl] at hj ⊢); (repeat' split) <;> first | (exfalso; omega) | (exfalso; exact absurd (Nat.lt_of_lt_of_le hj (Nat.min_le_left _ _)) (by assumption)) | (cbv <;> (repeat' apply And.intro) <;> first | trivial | rfl) | (rename_i q; subst q; cbv <;> (repeat' apply And.intro) <;> first | trivial | rfl) | (rename_i q _; subst q; cbv <;> (repeat' apply And.intro) <;> first | trivial | rfl)))) | (rename_i q _; subst q; cbv <;> (repeat' apply And.intro) <;> first | trivial | rfl | (simp only [oo hO, ff, sl]; done) | (simp only [oo hO, ff, sl]; omega) | (intro j hj; first | (cbv <;> (repeat' apply And.intro) <;> first | trivial | rfl) | (simp only [oo hO, ff, sl] at hj ⊢; (try simp only [gg, sl] at hj ⊢); (repeat' split) <;> first | (exfalso; omega) | (exfalso; exact absurd (Nat.lt_of_lt_of_le hj (Nat.min_le_left _ _)) (by assumption)) | (cbv <;> (repeat' apply And.intro) <;> first | trivial | rfl) | (rename_i q; subst q; cbv <;> (repeat' apply And.intro) <;> first | trivial | rfl) | (rename_i q _; subst q; cbv <;> (repeat' apply And.intro) <;> first | trivial | rfl))))))))
    · exact Nat.lt_succ_self k_61
  cbv
  replace h := condt h (by first | exact b_66 | (simp only [oo hO, sl] at b_66 ⊢; exact b_66))
  obtain ⟨g_68, h⟩ := gdb h
  refine ⟨(by first | exact g_68 | (simp only [oo hO] at g_68 ⊢; simp only [sl] at g_68 ⊢; omega)), ?_⟩
  obtain ⟨g_69, h⟩ := gdb h
  refine ⟨(by first | exact g_69 | (simp only [oo hO] at g_69 ⊢; simp only [sl] at g_69 ⊢; omega)), ?_⟩
  obtain ⟨g_70, h⟩ := gdb h
  refine ⟨(by first | exact g_70 | (simp only [oo hO] at g_70 ⊢; simp only [sl] at g_70 ⊢; omega)), ?_⟩
  obtain ⟨g_71, h⟩ := gdb h
  refine ⟨(by first | exact g_71 | (simp only [oo hO] at g_71 ⊢; simp only [sl] at g_71 ⊢; omega)), ?_⟩
  refine ⟨fun b_72 => ?_, fun b_72 => ?_⟩
  · cbv
    replace h := condt h (by first | exact b_72 | (simp only [oo hO, sl] at b_72 ⊢; exact b_72))
    refine ⟨?_, ?_⟩
    rotate_left
    · first | (intro q; cases q; done) | trivial
    try intro _
    cbv
    refine ⟨?_, ?_⟩
    rotate_left
    · first | (intro q; cases q; done) | trivial
    try intro _
    cbv
    refine ⟨?_, ?_⟩
    · first | (intro q; cases q; done) | trivial
    try intro _
    cbv
    obtain ⟨g_73, h⟩ := gdb h
    refine ⟨(by first | exact g_73 | (simp only [oo hO] at g_73 ⊢; simp only [sl] at g_73 ⊢; omega)), ?_⟩
    refine ⟨⟨(k_61, (O.iadd p36 1)), h⟩, ?_, ?_⟩
    · (cbv <;> ((repeat' apply And.intro) <;> first | trivial | rfl | assumption | (simp only [oo hO, ff, sl]; done) | (simp only [oo hO, ff, sl]; omega) | (intro i hi; first | (cbv <;> (repeat' apply And.intro) <;> first | trivial | rfl | (simp only [oo hO, ff, sl]; done) | (simp only [oo hO, ff, sl]; omega) | (intro j hj; first | (cbv <;> (repeat' apply And.intro) <;> first | trivial | rfl) | (simp only [oo hO, ff, sl] at hj ⊢; (try simp only [gg, sl] at hj ⊢); (repeat' split) <;> first | (exfalso; omega) | (exfalso; exact absurd (Nat.lt_of_lt_of_le hj (Nat.min_le_left _ _)) (by assumption)) | (cbv <;> (repeat' apply And.intro) <;> first | trivial | rfl) | (rename_i q; subst q; cbv <;> (repeat' apply And.intro) <;> first | trivial | rfl) | (rename_i q _; subst q; cbv <;> (repeat' apply And.intro) <;> first | trivial | rfl)))) | (simp only [oo hO, ff, sl] at hi ⊢; (try simp only [gg, sl] at hi ⊢); (repeat' split) <;> first | (exfalso; omega) | (exfalso; exact absurd (Nat.lt_of_lt_of_le hi (Nat.min_le_left _ _)) (by assumption)) | (cbv <;> (repeat' apply And.intro) <;> first | trivial | rfl | (simp only [oo hO, ff, sl]; done) | (simp only [oo hO, ff, sl]; omega) | (intro j hj; first | (cbv <;> (repeat' apply And.intro) <;> first | trivial | rfl) | (simp only [oo hO, ff, sl] at hj ⊢; (try simp only [gg, sl] at hj ⊢); (repeat' split) <;> first | (exfalso; omega) | (exfalso; exact absurd (Nat.lt_of_lt_of_le hj (Nat.min_le_left _ _)) (by assumption)) | (cbv <;> (repeat' apply And.intro) <;> first | trivial | rfl) | (rename_i q; subst q; cbv <;> (repeat' apply And.intro) <;> first | trivial | rfl) | (rename_i q _; subst q; cbv <;> (repeat' apply And.intro) <;> first | trivial | rfl)))) | (rename_i q; subst q; cbv <;> (repeat' apply And.intro) <;> first | trivial | rfl | (simp only [oo hO, ff, sl]; done) | (simp only [oo hO, ff, sl]; omega) | (intro j hj; first | (cbv <;> (repeat' apply And.intro) <;> first | trivial | rfl) | (simp only [oo hO, ff, sl] at hj ⊢; (try simp only [gg, sl] at hj ⊢); (repeat' split) <;> first | (exfalso; omega) | (exfalso; exact absurd (Nat.lt_of_lt_of_le hj (Nat.min_le_left _ _)) (by assumption)) | (cbv <;> (repeat' apply And.intro) <;> first | trivial | rfl) | (rename_i q; subst q; cbv <;> (repeat' apply And.intro) <;> first | trivial | rfl) | (rename_i q _; subst q; cbv <;> (repeat' apply And.intro) <;> first | trivial | rfl)))) | (rename_i q _; subst q; cbv <;> (repeat' apply And.intro) <;> first | trivial | rfl | (simp only [oo hO, ff, sl]; done) | (simp only [oo hO, ff, sl]; omega) | (intro j hj; first | (cbv <;> (repeat' apply And.intro) <;> first | trivial | rfl) | (simp only [oo hO, ff, sl] at hj ⊢; (try simp only [gg, sl] at hj ⊢); (repeat' split) <;> first | (exfalso; omega) | (exfalso; exact absurd (Nat.lt_of_lt_of_le hj (Nat.min_le_left _ _)) (by assumption)) | (cbv <;> (repeat' apply And.intro) <;> first | trivial | rfl) | (rename_i q; subst q; cbv <;> (repeat' apply And.intro) <;> first | trivial | rfl) | (rename_i q _; subst q; cbv <;> (repeat' apply And.intro) <;> first | trivial | rfl))))))))
    · exact Nat.lt_succ_self k_61
  cbv
  replace h := condf h (by first | exact b_72 | (simp only [oo hO, sl] at b_72 ⊢; exact b_72))
  obtain ⟨g_74, h⟩ := gdb h
  refine ⟨(by first | exact g_74 | (simp only [oo hO] at g_74 ⊢; simp only [sl] at g_74 ⊢; omega)), ?_⟩
  obtain ⟨g_75, h⟩ := gdb h
  refine ⟨(by first | exact g_75 | (simp only [oo hO] at g_75 ⊢; simp only [sl] at g_75 ⊢; omega)), ?_⟩
  obtain ⟨g_76, h⟩ := gdb h
  refine ⟨(by first | exact g_76 | (simp only [oo hO] at g_76 ⊢; simp only [sl] at g_76 ⊢; omega)), ?_⟩
  obtain ⟨g_77, h⟩ := gdb h
  refine ⟨(by first | exact g_77 | (simp only [oo hO] at g_77 ⊢; simp only [sl] at g_77 ⊢; omega)), ?_⟩
  refine ⟨fun b_78 => ?_, fun b_78 => ?_⟩
  rotate_left
  · cbv
    replace h := condf h (by first | exact b_78 | (simp only [oo hO, sl] at b_78 ⊢; exact b_78))
    refine ⟨?_, ?_⟩
    · first | (intro q; cases q; done) | trivial
    try intro _
    cbv
    refine ⟨?_, ?_⟩
    · first | (intro q; cases q; done) | trivial
    try intro _
    cbv
    refine ⟨?_, ?_⟩
    rotate_left
    · first | (intro q; cases q; done) | trivial
    try intro _
    cbv
    refine ⟨?_, ?_⟩
    rotate_left
    · first | (intro q; cases q; done) | trivial
    try intro _
    cbv
    replace h := leafb h hR_60
    replace h := (endb h).trans hr
    cases h
    ((repeat' apply And.intro) <;> first | trivial | rfl | assumption | (simp only [oo hO, ff, sl]; done) | (simp only [oo hO, ff, sl]; omega) | (intro i hi; first | (cbv <;> (repeat' apply And.intro) <;> first | trivial | rfl | (simp only [oo hO, ff, sl]; done) | (simp only [oo hO, ff, sl]; omega) | (intro j hj; first | (cbv <;> (repeat' apply And.intro) <;> first | trivial | rfl) | (simp only [oo hO, ff, sl] at hj ⊢; (try simp only [gg, sl] at hj ⊢); (repeat' split) <;> first | (exfalso; omega) | (exfalso; exact absurd (Nat.lt_of_lt_of_le hj (Nat.min_le_left _ _)) (by assumption)) | (cbv <;> (repeat' apply And.intro) <;> first | trivial | rfl) | (rename_i q; subst q; cbv <;> (repeat' apply And.intro) <;> first | trivial | rfl) | (rename_i q _; subst q; cbv <;> (repeat' apply And.intro) <;> first | trivial | rfl)))) | (simp only [oo hO, ff, sl] at hi ⊢; (try simp only [gg, sl] at hi ⊢); (repeat' split) <;> first | (exfalso; omega) | (exfalso; exact absurd (Nat.lt_of_lt_of_le hi (Nat.min_le_left _ _)) (by assumption)) | (cbv <;> (repeat' apply And.intro) <;> first | trivial | rfl | (simp only [oo hO, ff, sl]; done) | (simp only [oo hO, ff, sl]; omega) | (intro j hj; first | (cbv <;> (repeat' apply And.intro) <;> first | trivial | rfl) | (simp only [oo hO, ff, sl] at hj ⊢; (try simp only [gg, sl] at hj ⊢); (repeat' split) <;> first | (exfalso; omega) | (exfalso; exact absurd (Nat.lt_of_lt_of_le hj (Nat.min_le_left _ _)) (by assumption)) | (cbv <;> (repeat' apply And.intro) <;> first | trivial | rfl) | (rename_i q; subst q; cbv <;> (repeat' apply And.intro) <;> first | trivial | rfl) | (rename_i q _; subst q; cbv <;> (repeat' apply And.intro) <;> first | trivial | rfl)))) | (rename_i q; subst q; cbv <;> (repeat' apply And.intro) <;> first | trivial | rfl | (simp only [oo hO, ff, sl]; done) | (simp only [oo hO, ff, sl]; omega) | (intro j hj; first | (cbv <;> (repeat' apply And.intro) <;> first | trivial | rfl) | (simp only [oo hO, ff, sl] at hj ⊢; (try simp only [gg, sl] at hj ⊢); (repeat' split) <;> first | (exfalso; omega) | (exfalso; exact absurd (Nat.lt_of_lt_of_le hj (Nat.min_le_left _ _)) (by assumption)) | (cbv <;> (repeat' apply And.intro) <;> first | trivial | rfl) | (rename_i q; subst q; cbv <;> (repeat' apply And.intro) <;> first | trivial | rfl) | (rename_i q _; subst q; cbv <;> (repeat' apply And.intro) <;> first | trivial | rfl)))) | (rename_i q _; subst q; cbv <;> (repeat' apply And.intro) <;> first | trivial | rfl | (simp only [oo hO, ff, sl]; done) | (simp only [oo hO, ff, sl]; omega) | (intro j hj; first | (cbv <;> (repeat' apply And.intro) <;> first | trivial | rfl) | (simp only [oo hO, ff, sl] at hj ⊢; (try simp only [gg, sl] at hj ⊢); (repeat' split) <;> first | (exfalso; omega) | (exfalso; exact absurd (Nat.lt_of_lt_of_le hj (Nat.min_le_left _ _)) (by assumption)) | (cbv <;> (repeat' apply And.intro) <;> first | trivial | rfl) | (rename_i q; subst q; cbv <;> (repeat' apply And.intro) <;> first | trivial | rfl) | (rename_i q _; subst q; cbv <;> (repeat' apply And.intro) <;> first | trivial | rfl)))))))
  cbv
  replace h := condt h (by first | exact b_78 | (simp only [oo hO, sl] at b_78 ⊢; exact b_78))
  obtain ⟨g_79, h⟩ := gdb h
  refine ⟨(by first | exact g_79 | (simp only [oo hO] at g_79 ⊢; simp only [sl] at g_79 ⊢; omega)), ?_⟩
  obtain ⟨g_80, h⟩ := gdb h
  refine ⟨(by first | exact g_80 | (simp only [oo hO] at g_80 ⊢; simp only [sl] at g_80 ⊢; omega)), ?_⟩
  obtain ⟨g_81, h⟩ := gdb h
  refine ⟨(by first | exact g_81 | (simp only [oo hO] at g_81 ⊢; simp only [sl] at g_81 ⊢; omega)), ?_⟩
  obtain ⟨g_82, h⟩ := gdb h
  refine ⟨(by first | exact g_82 | (simp only [oo hO] at g_82 ⊢; simp only [sl] at g_82 ⊢; omega)), ?_⟩
  refine ⟨?_, ?_⟩
  rotate_left
  · first | (intro q; cases q; done) | trivial
  try intro _
  cbv
  refine ⟨?_, ?_⟩
  · first | (intro q; cases q; done) | trivial
  try intro _
  cbv
  refine ⟨?_, ?_⟩
  rotate_left
  · first | (intro q; cases q; done) | trivial
  try intro _
  cbv
  refine ⟨fun b_83 => ?_, fun b_83 => ?_⟩
  · cbv
    replace h := condt h (by first | exact b_83 | (simp only [oo hO, sl] at b_83 ⊢; exact b_83))
    replace h := leafb h hR_60
    replace h := (endb h).trans hr
    cases h
    ((repeat' apply And.intro) <;> first | trivial | rfl | assumption | (simp only [oo hO, ff, sl]; done) | (simp only [oo hO, ff, sl]; omega) | (intro i hi; first | (cbv <;> (repeat' apply And.intro) <;> first | trivial | rfl | (simp only [oo hO, ff, sl]; done) | (simp only [oo hO, ff, sl]; omega) | (intro j hj; first | (cbv <;> (repeat' apply And.intro) <;> first | trivial | rfl) | (simp only [oo hO, ff, sl] at hj ⊢; (try simp only [gg, sl] at hj ⊢); (repeat' split) <;> first | (exfalso; omega) | (exfalso; exact absurd (Nat.lt_of_lt_of_le hj (Nat.min_le_left _ _)) (by assumption)) | (cbv <;> (repeat' apply And.intro) <;> first | trivial | rfl) | (rename_i q; subst q; cbv <;> (repeat' apply And.intro) <;> first | trivial | rfl) | (rename_i q _; subst q; cbv <;> (repeat' apply And.intro) <;> first | trivial | rfl)))) | (simp only [oo hO, ff, sl] at hi ⊢; (try simp only [gg, sl] at hi ⊢); (repeat' split) <;> first | (exfalso; omega) | (exfalso; exact absurd (Nat.lt_of_lt_of_le hi (Nat.min_le_left _ _)) (by assumption)) | (cbv <;> (repeat' apply And.intro) <;> first | trivial | rfl | (simp only [oo hO, ff, sl]; done) | (simp only [oo hO, ff, sl]; omega) | (intro j hj; first | (cbv <;> (repeat' apply And.intro) <;> first | trivial | rfl) | (simp only [oo hO, ff, sl] at hj ⊢; (try simp only [gg, sl] at hj ⊢); (repeat' split) <;> first | (exfalso; omega) | (exfalso; exact absurd (Nat.lt_of_lt_of_le hj (Nat.min_le_left _ _)) (by assumption)) | (cbv <;> (repeat' apply And.intro) <;> first | trivial | rfl) | (rename_i q; subst q; cbv <;> (repeat' apply And.intro) <;> first | trivial | rfl) | (rename_i q _; subst q; cbv <;> (repeat' apply And.intro) <;> first | trivial | rfl)))) | (rename_i q; subst q; cbv <;> (repeat' apply And.intro) <;> first | trivial | rfl | (simp only [oo hO, ff, sl]; done) | (simp only [oo hO, ff, sl]; omega) | (intro j hj; first | (cbv <;> (repeat' apply And.intro) <;> first | trivial | rfl) | (simp only [oo hO, ff, sl] at hj ⊢; (try simp only [gg, sl] at hj ⊢); (repeat' split) <;> first | (exfalso; omega) | (exfalso; exact absurd (Nat.lt_of_lt_of_le hj (Nat.min_le_left _ _)) (by assumption)) | (cbv <;> (repeat' apply And.intro) <;> first | trivial | rfl) | (rename_i q; subst q; cbv <;> (repeat' apply And.intro) <;> first | trivial | rfl) | (rename_i q _; subst q; cbv <;> (repeat' apply And.intro) <;> first | trivial | rfl)))) | (rename_i q _; subst q; cbv <;> (repeat' apply And.intro) <;> first | trivial | rfl | (simp only [oo hO, ff, sl]; done) | (simp only [oo hO, ff, sl]; omega) | (intro j hj; first | (cbv <;> (repeat' apply And.intro) <;> first | trivial | rfl) | (simp only [oo hO, ff, sl] at hj ⊢; (try simp only [gg, sl] at hj ⊢); (repeat' split) <;> first | (exfalso; omega) | (exfalso; exact absurd (Nat.lt_of_lt_of_le hj (Nat.min_le_left _ _)) (by assumption)) | (cbv <;> (repeat' apply And.intro) <;> first | trivial | rfl) | (rename_i q; subst q; cbv <;> (repeat' apply And.intro) <;> first | trivial | rfl) | (rename_i q _; subst q; cbv <;> (repeat' apply And.intro) <;> first | trivial | rfl)))))))
  cbv
  replace h := condf h (by first | exact b_83 | (simp only [oo hO, sl] at b_83 ⊢; exact b_83))
  obtain ⟨g_84, h⟩ := gdb h
  refine ⟨(by first | exact g_84 | (simp only [oo hO] at g_84 ⊢; simp only [sl] at g_84 ⊢; omega)), ?_⟩
  refine ⟨⟨(k_61, (O.iadd p36 1)), h⟩, ?_, ?_⟩
  · (cbv <;> ((repeat' apply And.intro) <;> first | trivial | rfl | assumption | (simp only [oo hO, ff, sl]; done) | (simp only [oo hO, ff, sl]; omega) | (intro i hi; first | (cbv <;> (repeat' apply And.intro) <;> first | trivial | rfl | (simp only [oo hO, ff, sl]; done) | (simp only [oo hO, ff, sl]; omega) | (intro j hj; first | (cbv <;> (repeat' apply And.intro) <;> first | trivial | rfl) | (simp only [oo hO, ff, sl] at hj ⊢; (try simp only [gg, sl] at hj ⊢); (repeat' split) <;> first | (exfalso; omega) | (exfalso; exact absurd (Nat.lt_of_lt_of_le hj (Nat.min_le_left _ _)) (by assumption)) | (cbv <;> (repeat' apply And.intro) <;> first | trivial | rfl) | (rename_i q; subst q; cbv <;> (repeat' apply And.intro) <;> first | trivial | rfl) | (rename_i q _; subst q; cbv <;> (repeat' apply And.intro) <;> first | trivial | rfl)))) | (simp only [oo hO, ff, sl] at hi ⊢; (try simp only [gg, sl] at hi ⊢); (repeat' split) <;> first | (exfalso; omega) | (exfalso; exact absurd (Nat.lt_of_lt_of_le hi (Nat.min_le_left _ _)) (by assumption)) | (cbv <;> (repeat' apply And.intro) <;> first | trivial | rfl | (simp only [oo hO, ff, sl]; done) | (simp only [oo hO, ff, sl]; omega) | (intro j hj; first | (cbv <;> (repeat' apply And.intro) <;> first | trivial | rfl) | (simp only [oo hO, ff, sl] at hj ⊢; (try simp only [gg, sl] at hj ⊢); (repeat' split) <;> first | (exfalso; omega) | (exfalso; exact absurd (Nat.lt_of_lt_of_le hj (Nat.min_le_left _ _)) (by assumption)) | (cbv <;> (repeat' apply And.intro) <;> first | trivial | rfl) | (rename_i q; subst q; cbv <;> (repeat' apply And.intro) <;> first | trivial | rfl) | (rename_i q _; subst q; cbv <;> (repeat' apply And.intro) <;> first | trivial | rfl)))) | (rename_i q; subst q; cbv <;> (repeat' apply And.intro) <;> first | trivial | rfl | (simp only [oo hO, ff, sl]; done) | (simp only [oo hO, ff, sl]; omega) | (intro j hj; first | (cbv <;> (repeat' apply And.intro) <;> first | trivial | rfl) | (simp only [oo hO, ff, sl] at hj ⊢; (try simp only [gg, sl] at hj ⊢); (repeat' split) <;> first | (exfalso; omega) | (exfalso; exact absurd (Nat.lt_of_lt_of_le hj (Nat.min_le_left _ _)) (by assumption)) | (cbv <;> (repeat' apply And.intro) <;> first | trivial | rfl) | (rename_i q; subst q; cbv <;> (repeat' apply And.intro) <;> first | trivial | rfl) | (rename_i q _; subst q; cbv <;> (repeat' apply And.intro) <;> first | trivial | rfl)))) | (rename_i q _; subst q; cbv <;> (repeat' apply And.intro) <;> first | trivial | rfl | (simp only [oo hO, ff, sl]; done) | (simp only [oo hO, ff, sl]; omega) | (intro j hj; first | (cbv <;> (repeat' apply And.intro) <;> first | trivial | rfl) | (simp only [oo hO, ff, sl] at hj ⊢; (try simp only [gg, sl] at hj ⊢); (repeat' split) <;> first | (exfalso; omega) | (exfalso; exact absurd (Nat.lt_of_lt_of_le hj (Nat.min_le_left _ _)) (by assumption)) | (cbv <;> (repeat' apply And.intro) <;> first | trivial | rfl) | (rename_i q; subst q; cbv <;> (repeat' apply And.intro) <;> first | trivial | rfl) | (rename_i q _; subst q; cbv <;> (repeat' apply And.intro) <;> first | trivial | rfl))))))))
  · exact Nat.lt_succ_self k_61

end Go.Desk
