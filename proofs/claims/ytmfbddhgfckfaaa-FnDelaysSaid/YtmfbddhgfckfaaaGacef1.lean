/- Contracts of functions, printed by a program of mine (in step with V-logic). -/
import Derived.Test.YtmfbddhgfckfaaaGabcdef1
import Derived.Test.YtmfbddhgfckfaaaGf
namespace Go.Desk
open Go
set_option linter.all false
set_option maxRecDepth 100000
set_option linter.unusedVariables false
set_option linter.unusedSimpArgs false
set_option maxHeartbeats 4000000
theorem c_spec_l00Src_among {O : Ops} (hO : O = std) {P : Program} (hP : P = Prg) {a1 : Gl00Src} {a2 : (List Int)} {r1 : Int} {r2 : Gl00Src} (h : F_spec_l00Src_among O a1 a2 = some (r1, r2)) :
    Con P 134 [.box [.sl false false 1 (O.llen a1.code) (fun i1 => [.int .u8 (O.lget a1.code i1 0)]), .int .i64 a1.pos, .int .u64 a1.seed]] [.ptr 0 0, .sl false false 1 (O.llen a2) (fun i1 => [.int .i64 (O.lget a2 i1 0)])] (.int .i64 r1) [.box [.sl false false 1 (O.llen r2.code) (fun i1 => [.int .u8 (O.lget r2.code i1 0)]), .int .i64 r2.pos, .int .u64 r2.seed]] := by
  refine @con_of2 O hO P hP 134 Go.Proofs.Try.f134 Go.Proofs.Try.func134 (by kernel_rfl) _ _ _ _ ?_
  unfold F_spec_l00Src_among at h
  replace h := startb h
  obtain ⟨r, hr⟩ : ∃ r, r = (r1, r2) := ⟨_, rfl⟩
  rw [← hr] at h
  cbv
  refine Wp.mk ?_
  obtain ⟨⟨v1, v2⟩, e_1, h⟩ := callb h
  refine ⟨[0], _, _, _, _, true, c_spec_l00Src_pick hO hP e_1, ?_⟩
  cbv
  refine ⟨(by (repeat' apply And.intro) <;> first | trivial | rfl), (by (repeat' apply And.intro) <;> first | trivial | rfl | (intro i hi; first | (cbv <;> (repeat' apply And.intro) <;> first | trivial | rfl) | (simp only [oo hO, sl]; cbv <;> (repeat' apply And.intro) <;> first | trivial | rfl))), ?_⟩
  obtain ⟨g_2, h⟩ := gdb h
  refine ⟨(by first | exact g_2 | (simp only [oo hO] at g_2 ⊢; simp only [sl] at g_2 ⊢; omega)), ?_⟩
  replace h := (endb h).trans hr
  cases h
  ((repeat' apply And.intro) <;> first | trivial | rfl | assumption | (simp only [oo hO, ff, sl]; done) | (simp only [oo hO, ff, sl]; omega) | (intro i hi; first | (cbv <;> (repeat' apply And.intro) <;> first | trivial | rfl) | (simp only [oo hO, ff, sl] at hi ⊢; (try simp only [gg, sl] at hi ⊢); (repeat' split) <;> first | (exfalso; omega) | (exfalso; exact absurd (Nat.lt_of_lt_of_le hi (Nat.min_le_left _ _)) (by assumption)) | (cbv <;> (repeat' apply And.intro) <;> first | trivial | rfl) | (rename_i q; subst q; cbv <;> (repeat' apply And.intro) <;> first | trivial | rfl) | (rename_i q _; subst q; cbv <;> (repeat' apply And.intro) <;> first | trivial | rfl))))

theorem c_spec_l01From {O : Ops} (hO : O = std) {P : Program} (hP : P = Prg) {a1 : Int} {r1 : Nat} (h : F_spec_l01From O a1 = some r1) :
    Con P 137 [] [.int .i64 a1] (.flt .f32 r1) [] := by
  refine @con_of2 O hO P hP 137 Go.Proofs.Try.f137 Go.Proofs.Try.func137 (by kernel_rfl) _ _ _ _ ?_
  unfold F_spec_l01From at h
  replace h := startb h
  obtain ⟨r, hr⟩ : ∃ r, r = r1 := ⟨_, rfl⟩
  rw [← hr] at h
  cbv
  refine Wp.mk ?_
  obtain ⟨v1, e_1, h⟩ := callb h
  refine ⟨[], _, _, _, _, false, c_math_Float32frombits hO hP e_1, ?_⟩
  cbv
  refine ⟨(by (repeat' apply And.intro) <;> first | trivial | rfl), (by (repeat' apply And.intro) <;> first | trivial | rfl), ?_⟩
  replace h := (endb h).trans hr
  cases h
  ((repeat' apply And.intro) <;> first | trivial | rfl | assumption | (simp only [oo hO, ff, sl]; done) | (simp only [oo hO, ff, sl]; omega) | (intro i hi; first | (cbv <;> (repeat' apply And.intro) <;> first | trivial | rfl) | (simp only [oo hO, ff, sl] at hi ⊢; (try simp only [gg, sl] at hi ⊢); (repeat' split) <;> first | (exfalso; omega) | (exfalso; exact absurd (Nat.lt_of_lt_of_le hi (Nat.min_le_left _ _)) (by assumption)) | (cbv <;> (repeat' apply And.intro) <;> first | trivial | rfl) | (rename_i q; subst q; cbv <;> (repeat' apply And.intro) <;> first | trivial | rfl) | (rename_i q _; subst q; cbv <;> (repeat' apply And.intro) <;> first | trivial | rfl))))

theorem c_spec_l01DrawFloat {O : Ops} (hO : O = std) {P : Program} (hP : P = Prg) {a1 : Gl00Src} {r1 : Nat} {r2 : Gl00Src} (h : F_spec_l01DrawFloat O a1 = some (r1, r2)) :
    Con P 119 [.box [.sl false false 1 (O.llen a1.code) (fun i1 => [.int .u8 (O.lget a1.code i1 0)]), .int .i64 a1.pos, .int .u64 a1.seed]] [.ptr 0 0] (.flt .f32 r1) [.box [.sl false false 1 (O.llen r2.code) (fun i1 => [.int .u8 (O.lget r2.code i1 0)]), .int .i64 r2.pos, .int .u64 r2.seed]] := by
  refine @con_of2 O hO P hP 119 Go.Proofs.Try.f119 Go.Proofs.Try.func119 (by kernel_rfl) _ _ _ _ ?_
  unfold F_spec_l01DrawFloat at h
  replace h := startb h
  obtain ⟨r, hr⟩ : ∃ r, r = (r1, r2) := ⟨_, rfl⟩
  rw [← hr] at h
  cbv
  refine Wp.mk ?_
  obtain ⟨⟨v1, v2⟩, e_1, h⟩ := callb h
  refine ⟨[0], _, _, _, _, true, c_spec_l00Src_one hO hP e_1, ?_⟩
  cbv
  refine ⟨(by (repeat' apply And.intro) <;> first | trivial | rfl), (by (repeat' apply And.intro) <;> first | trivial | rfl | (intro i hi; first | (cbv <;> (repeat' apply And.intro) <;> first | trivial | rfl) | (simp only [oo hO, sl]; cbv <;> (repeat' apply And.intro) <;> first | trivial | rfl))), ?_⟩
  refine ⟨fun b_2 => ?_, fun b_2 => ?_⟩
  · cbv
    replace h := condt h (by first | exact b_2 | (simp only [oo hO, sl] at b_2 ⊢; exact b_2))
    obtain ⟨⟨v3, v4⟩, e_3, h⟩ := callb h
    refine ⟨[0], _, _, _, _, true, c_spec_l01DrawPlain hO hP e_3, ?_⟩
    cbv
    refine ⟨(by (repeat' apply And.intro) <;> first | trivial | rfl), (by (repeat' apply And.intro) <;> first | trivial | rfl | (intro i hi; first | (cbv <;> (repeat' apply And.intro) <;> first | trivial | rfl) | (simp only [oo hO, sl]; cbv <;> (repeat' apply And.intro) <;> first | trivial | rfl))), ?_⟩
    replace h := (endb h).trans hr
    cases h
    ((repeat' apply And.intro) <;> first | trivial | rfl | assumption | (simp only [oo hO, ff, sl]; done) | (simp only [oo hO, ff, sl]; omega) | (intro i hi; first | (cbv <;> (repeat' apply And.intro) <;> first | trivial | rfl) | (simp only [oo hO, ff, sl] at hi ⊢; (try simp only [gg, sl] at hi ⊢); (repeat' split) <;> first | (exfalso; omega) | (exfalso; exact absurd (Nat.lt_of_lt_of_le hi (Nat.min_le_left _ _)) (by assumption)) | (cbv <;> (repeat' apply And.intro) <;> first | trivial | rfl) | (rename_i q; subst q; cbv <;> (repeat' apply And.intro) <;> first | trivial | rfl) | (rename_i q _; subst q; cbv <;> (repeat' apply And.intro) <;> first | trivial | rfl)) | (simp only [litElems, oo hO, ff, sl] at hi ⊢; rcases i with _ | _ | _ | _ | _ | _ | _ | _ | _ | _ | i <;> first | (exfalso; omega) | (cbv <;> (repeat' apply And.intro) <;> first | trivial | rfl))))
  cbv
  replace h := condf h (by first | exact b_2 | (simp only [oo hO, sl] at b_2 ⊢; exact b_2))
  obtain ⟨⟨v5, v6⟩, e_4, h⟩ := callb h
  refine ⟨[0], _, _, _, _, true, c_spec_l00Src_pick hO hP e_4, ?_⟩
  cbv
  refine ⟨(by (repeat' apply And.intro) <;> first | trivial | rfl), (by (repeat' apply And.intro) <;> first | trivial | rfl | (intro i hi; first | (cbv <;> (repeat' apply And.intro) <;> first | trivial | rfl) | (simp only [oo hO, sl]; cbv <;> (repeat' apply And.intro) <;> first | trivial | rfl))), ?_⟩
  refine ⟨fun b_5 => ?_, fun b_5 => ?_⟩
  · cbv
    replace h := condt h (by first | exact b_5 | (simp only [oo hO, sl] at b_5 ⊢; exact b_5))
    obtain ⟨⟨v7, v8⟩, e_6, h⟩ := callb h
    refine ⟨[0], _, _, _, _, true, c_spec_l00Src_among hO hP e_6, ?_⟩
    cbv
    refine ⟨(by first | trivial | (simp only [oo hO, sl]; omega) | (simp only [oo hO, sl]; done)), ?_⟩
    refine ⟨(by ((repeat' apply And.intro) <;> first | trivial | rfl | assumption | (simp only [oo hO, ff, sl]; done) | (simp only [oo hO, ff, sl]; omega) | (intro i hi; first | (cbv <;> (repeat' apply And.intro) <;> first | trivial | rfl) | (simp only [oo hO, ff, sl] at hi ⊢; (try simp only [gg, sl] at hi ⊢); (repeat' split) <;> first | (exfalso; omega) | (exfalso; exact absurd (Nat.lt_of_lt_of_le hi (Nat.min_le_left _ _)) (by assumption)) | (cbv <;> (repeat' apply And.intro) <;> first | trivial | rfl) | (rename_i q; subst q; cbv <;> (repeat' apply And.intro) <;> first | trivial | rfl) | (rename_i q _; subst q; cbv <;> (repeat' apply And.intro) <;> first | trivial | rfl)) | (simp only [litElems, oo hO, ff, sl] at hi ⊢; rcases i with _ | _ | _ | _ | _ | _ | _ | _ | _ | _ | i <;> first | (exfalso; omega) | (cbv <;> (repeat' apply And.intro) <;> first | trivial | rfl))))), (by (repeat' apply And.intro) <;> first | trivial | rfl | (intro i hi; first | (cbv <;> (repeat' apply And.intro) <;> first | trivial | rfl) | (simp only [oo hO, sl]; cbv <;> (repeat' apply And.intro) <;> first | trivial | rfl))), ?_⟩
    obtain ⟨v9, e_7, h⟩ := callb h
    refine ⟨[], _, _, _, _, false, c_spec_l01From hO hP e_7, ?_⟩
    cbv
    refine ⟨(by (repeat' apply And.intro) <;> first | trivial | rfl), (by (repeat' apply And.intro) <;> first | trivial | rfl), ?_⟩
    replace h := (endb h).trans hr
    cases h
    ((repeat' apply And.intro) <;> first | trivial | rfl | assumption | (simp only [oo hO, ff, sl]; done) | (simp only [oo hO, ff, sl]; omega) | (intro i hi; first | (cbv <;> (repeat' apply And.intro) <;> first | trivial | rfl) | (simp only [oo hO, ff, sl] at hi ⊢; (try simp only [gg, sl] at hi ⊢); (repeat' split) <;> first | (exfalso; omega) | (exfalso; exact absurd (Nat.lt_of_lt_of_le hi (Nat.min_le_left _ _)) (by assumption)) | (cbv <;> (repeat' apply And.intro) <;> first | trivial | rfl) | (rename_i q; subst q; cbv <;> (repeat' apply And.intro) <;> first | trivial | rfl) | (rename_i q _; subst q; cbv <;> (repeat' apply And.intro) <;> first | trivial | rfl)) | (simp only [litElems, oo hO, ff, sl] at hi ⊢; rcases i with _ | _ | _ | _ | _ | _ | _ | _ | _ | _ | i <;> first | (exfalso; omega) | (cbv <;> (repeat' apply And.intro) <;> first | trivial | rfl))))
  cbv
  replace h := condf h (by first | exact b_5 | (simp only [oo hO, sl] at b_5 ⊢; exact b_5))
  refine ⟨fun b_8 => ?_, fun b_8 => ?_⟩
  · cbv
    replace h := condt h (by first | exact b_8 | (simp only [oo hO, sl] at b_8 ⊢; exact b_8))
    obtain ⟨⟨v10, v11⟩, e_9, h⟩ := callb h
    refine ⟨[0], _, _, _, _, true, c_spec_l00Src_pick hO hP e_9, ?_⟩
    cbv
    refine ⟨(by (repeat' apply And.intro) <;> first | trivial | rfl), (by (repeat' apply And.intro) <;> first | trivial | rfl | (intro i hi; first | (cbv <;> (repeat' apply And.intro) <;> first | trivial | rfl) | (simp only [oo hO, sl]; cbv <;> (repeat' apply And.intro) <;> first | trivial | rfl))), ?_⟩
    obtain ⟨g_10, h⟩ := gdb h
    refine ⟨(by first | exact g_10 | (simp only [oo hO] at g_10 ⊢; simp only [sl] at g_10 ⊢; omega)), ?_⟩
    obtain ⟨⟨v12, v13⟩, e_11, h⟩ := callb h
    refine ⟨[0], _, _, _, _, true, c_spec_l00Src_pick hO hP e_11, ?_⟩
    cbv
    refine ⟨(by (repeat' apply And.intro) <;> first | trivial | rfl), (by (repeat' apply And.intro) <;> first | trivial | rfl | (intro i hi; first | (cbv <;> (repeat' apply And.intro) <;> first | trivial | rfl) | (simp only [oo hO, sl]; cbv <;> (repeat' apply And.intro) <;> first | trivial | rfl))), ?_⟩
    obtain ⟨g_12, h⟩ := gdb h
    refine ⟨(by first | exact g_12 | (simp only [oo hO] at g_12 ⊢; simp only [sl] at g_12 ⊢; omega)), ?_⟩
    obtain ⟨v14, e_13, h⟩ := callb h
    refine ⟨[], _, _, _, _, false, c_spec_l01From hO hP e_13, ?_⟩
    cbv
    refine ⟨(by (repeat' apply And.intro) <;> first | trivial | rfl), (by (repeat' apply And.intro) <;> first | trivial | rfl), ?_⟩
    replace h := (endb h).trans hr
    cases h
    ((repeat' apply And.intro) <;> first | trivial | rfl | assumption | (simp only [oo hO, ff, sl]; done) | (simp only [oo hO, ff, sl]; omega) | (intro i hi; first | (cbv <;> (repeat' apply And.intro) <;> first | trivial | rfl) | (simp only [oo hO, ff, sl] at hi ⊢; (try simp only [gg, sl] at hi ⊢); (repeat' split) <;> first | (exfalso; omega) | (exfalso; exact absurd (Nat.lt_of_lt_of_le hi (Nat.min_le_left _ _)) (by assumption)) | (cbv <;> (repeat' apply And.intro) <;> first | trivial | rfl) | (rename_i q; subst q; cbv <;> (repeat' apply And.intro) <;> first | trivial | rfl) | (rename_i q _; subst q; cbv <;> (repeat' apply And.intro) <;> first | trivial | rfl)) | (simp only [litElems, oo hO, ff, sl] at hi ⊢; rcases i with _ | _ | _ | _ | _ | _ | _ | _ | _ | _ | i <;> first | (exfalso; omega) | (cbv <;> (repeat' apply And.intro) <;> first | trivial | rfl))))
  cbv
  replace h := condf h (by first | exact b_8 | (simp only [oo hO, sl] at b_8 ⊢; exact b_8))
  refine ⟨fun b_14 => ?_, fun b_14 => ?_⟩
  · cbv
    replace h := condt h (by first | exact b_14 | (simp only [oo hO, sl] at b_14 ⊢; exact b_14))
    obtain ⟨⟨v15, v16⟩, e_15, h⟩ := callb h
    refine ⟨[0], _, _, _, _, true, c_spec_l00Src_pick hO hP e_15, ?_⟩
    cbv
    refine ⟨(by (repeat' apply And.intro) <;> first | trivial | rfl), (by (repeat' apply And.intro) <;> first | trivial | rfl | (intro i hi; first | (cbv <;> (repeat' apply And.intro) <;> first | trivial | rfl) | (simp only [oo hO, sl]; cbv <;> (repeat' apply And.intro) <;> first | trivial | rfl))), ?_⟩
    obtain ⟨g_16, h⟩ := gdb h
    refine ⟨(by first | exact g_16 | (simp only [oo hO] at g_16 ⊢; simp only [sl] at g_16 ⊢; omega)), ?_⟩
    obtain ⟨v17, e_17, h⟩ := callb h
    refine ⟨[], _, _, _, _, false, c_spec_l01From hO hP e_17, ?_⟩
    cbv
    refine ⟨(by (repeat' apply And.intro) <;> first | trivial | rfl), (by (repeat' apply And.intro) <;> first | trivial | rfl), ?_⟩
    replace h := (endb h).trans hr
    cases h
    ((repeat' apply And.intro) <;> first | trivial | rfl | assumption | (simp only [oo hO, ff, sl]; done) | (simp only [oo hO, ff, sl]; omega) | (intro i hi; first | (cbv <;> (repeat' apply And.intro) <;> first | trivial | rfl) | (simp only [oo hO, ff, sl] at hi ⊢; (try simp only [gg, sl] at hi ⊢); (repeat' split) <;> first | (exfalso; omega) | (exfalso; exact absurd (Nat.lt_of_lt_of_le hi (Nat.min_le_left _ _)) (by assumption)) | (cbv <;> (repeat' apply And.intro) <;> first | trivial | rfl) | (rename_i q; subst q; cbv <;> (repeat' apply And.intro) <;> first | trivial | rfl) | (rename_i q _; subst q; cbv <;> (repeat' apply And.intro) <;> first | trivial | rfl)) | (simp only [litElems, oo hO, ff, sl] at hi ⊢; rcases i with _ | _ | _ | _ | _ | _ | _ | _ | _ | _ | i <;> first | (exfalso; omega) | (cbv <;> (repeat' apply And.intro) <;> first | trivial | rfl))))
  cbv
  replace h := condf h (by first | exact b_14 | (simp only [oo hO, sl] at b_14 ⊢; exact b_14))
  obtain ⟨⟨v18, v19⟩, e_18, h⟩ := callb h
  refine ⟨[0], _, _, _, _, true, c_spec_l01DrawPlain hO hP e_18, ?_⟩
  cbv
  refine ⟨(by (repeat' apply And.intro) <;> first | trivial | rfl), (by (repeat' apply And.intro) <;> first | trivial | rfl | (intro i hi; first | (cbv <;> (repeat' apply And.intro) <;> first | trivial | rfl) | (simp only [oo hO, sl]; cbv <;> (repeat' apply And.intro) <;> first | trivial | rfl))), ?_⟩
  obtain ⟨⟨v20, v21⟩, e_19, h⟩ := callb h
  refine ⟨[0], _, _, _, _, true, c_spec_l00Src_among hO hP e_19, ?_⟩
  cbv
  refine ⟨(by first | trivial | (simp only [oo hO, sl]; omega) | (simp only [oo hO, sl]; done)), ?_⟩
  refine ⟨(by ((repeat' apply And.intro) <;> first | trivial | rfl | assumption | (simp only [oo hO, ff, sl]; done) | (simp only [oo hO, ff, sl]; omega) | (intro i hi; first | (cbv <;> (repeat' apply And.intro) <;> first | trivial | rfl) | (simp only [oo hO, ff, sl] at hi ⊢; (try simp only [gg, sl] at hi ⊢); (repeat' split) <;> first | (exfalso; omega) | (exfalso; exact absurd (Nat.lt_of_lt_of_le hi (Nat.min_le_left _ _)) (by assumption)) | (cbv <;> (repeat' apply And.intro) <;> first | trivial | rfl) | (rename_i q; subst q; cbv <;> (repeat' apply And.intro) <;> first | trivial | rfl) | (rename_i q _; subst q; cbv <;> (repeat' apply And.intro) <;> first | trivial | rfl)) | (simp only [litElems, oo hO, ff, sl] at hi ⊢; rcases i with _ | _ | _ | _ | _ | _ | _ | _ | _ | _ | i <;> first | (exfalso; omega) | (cbv <;> (repeat' apply And.intro) <;> first | trivial | rfl))))), (by (repeat' apply And.intro) <;> first | trivial | rfl | (intro i hi; first | (cbv <;> (repeat' apply And.intro) <;> first | trivial | rfl) | (simp only [oo hO, sl]; cbv <;> (repeat' apply And.intro) <;> first | trivial | rfl))), ?_⟩
  obtain ⟨v22, e_20, h⟩ := callb h
  refine ⟨[], _, _, _, _, false, c_spec_l01From hO hP e_20, ?_⟩
  cbv
  refine ⟨(by (repeat' apply And.intro) <;> first | trivial | rfl), (by (repeat' apply And.intro) <;> first | trivial | rfl), ?_⟩
  replace h := (endb h).trans hr
  cases h
  ((repeat' apply And.intro) <;> first | trivial | rfl | assumption | (simp only [oo hO, ff, sl]; done) | (simp only [oo hO, ff, sl]; omega) | (intro i hi; first | (cbv <;> (repeat' apply And.intro) <;> first | trivial | rfl) | (simp only [oo hO, ff, sl] at hi ⊢; (try simp only [gg, sl] at hi ⊢); (repeat' split) <;> first | (exfalso; omega) | (exfalso; exact absurd (Nat.lt_of_lt_of_le hi (Nat.min_le_left _ _)) (by assumption)) | (cbv <;> (repeat' apply And.intro) <;> first | trivial | rfl) | (rename_i q; subst q; cbv <;> (repeat' apply And.intro) <;> first | trivial | rfl) | (rename_i q _; subst q; cbv <;> (repeat' apply And.intro) <;> first | trivial | rfl)) | (simp only [litElems, oo hO, ff, sl] at hi ⊢; rcases i with _ | _ | _ | _ | _ | _ | _ | _ | _ | _ | i <;> first | (exfalso; omega) | (cbv <;> (repeat' apply And.intro) <;> first | trivial | rfl))))

theorem c_spec_l01DrawFloats {O : Ops} (hO : O = std) {P : Program} (hP : P = Prg) {a1 : Gl00Src} {a2 : Int} {r1 : (List Nat)} {r2 : Gl00Src} (h : F_spec_l01DrawFloats O a1 a2 = some (r1, r2)) :
    Con P 64 [.box [.sl false false 1 (O.llen a1.code) (fun i1 => [.int .u8 (O.lget a1.code i1 0)]), .int .i64 a1.pos, .int .u64 a1.seed]] [.ptr 0 0, .int .i64 a2] (.osl 1 1 0 (O.llen r1)) [.box [.sl false false 1 (O.llen r2.code) (fun i1 => [.int .u8 (O.lget r2.code i1 0)]), .int .i64 r2.pos, .int .u64 r2.seed], .arr true true 1 (O.llen r1) (fun i1 => [.flt .f32 (O.lget r1 i1 0)])] := by
  refine @con_of2 O hO P hP 64 Go.Proofs.Try.f64 Go.Proofs.Try.func64 (by kernel_rfl) _ _ _ _ ?_
  unfold F_spec_l01DrawFloats at h
  replace h := startb h
  obtain ⟨r, hr⟩ : ∃ r, r = (r1, r2) := ⟨_, rfl⟩
  rw [← hr] at h
  cbv
  refine Wp.mk ?_
  obtain ⟨⟨v1, v2⟩, e_1, h⟩ := callb h
  refine ⟨[0], _, _, _, _, true, c_spec_l00Src_one hO hP e_1, ?_⟩
  cbv
  refine ⟨(by (repeat' apply And.intro) <;> first | trivial | rfl), (by (repeat' apply And.intro) <;> first | trivial | rfl | (intro i hi; first | (cbv <;> (repeat' apply And.intro) <;> first | trivial | rfl) | (simp only [oo hO, sl]; cbv <;> (repeat' apply And.intro) <;> first | trivial | rfl))), ?_⟩
  obtain ⟨R_2, hR_2, h⟩ := loopb h
  refine ⟨{ x : Nat × Int × (List Nat) × (List Int) × Int × Int // (F_spec_l01DrawFloats_l0 O v1 x.1 x.2.1 x.2.2.1 x.2.2.2.1 x.2.2.2.2.1 x.2.2.2.2.2).bind R_2 = some r }, fun x => ⟨[(0, .ptr 0 0), (1, .int .i64 x.1.2.1), (5, .osl 15 1 0 (O.llen x.1.2.2.1)), (6, .bool v1)], [(0, .box [.sl false false 1 (O.llen x.1.2.2.2.1) (fun i1 => [.int .u8 (O.lget x.1.2.2.2.1 i1 0)]), .int .i64 x.1.2.2.2.2.1, .int .u64 x.1.2.2.2.2.2]), (15, .arr true true 1 (O.llen x.1.2.2.1) (fun i1 => [.flt .f32 (O.lget x.1.2.2.1 i1 0)]))]⟩, fun x => x.1.1, ⟨(KK, a2, ([] : List Nat), v2.code, v2.pos, v2.seed), h⟩, ?_, ?_⟩
  · (cbv <;> ((repeat' apply And.intro) <;> first | trivial | rfl | assumption | (simp only [oo hO, ff, sl]; done) | (simp only [oo hO, ff, sl]; omega) | (intro i hi; first | (cbv <;> (repeat' apply And.intro) <;> first | trivial | rfl) | (simp only [oo hO, ff, sl] at hi ⊢; (try simp only [gg, sl] at hi ⊢); (repeat' split) <;> first | (exfalso; omega) | (exfalso; exact absurd (Nat.lt_of_lt_of_le hi (Nat.min_le_left _ _)) (by assumption)) | (cbv <;> (repeat' apply And.intro) <;> first | trivial | rfl) | (rename_i q; subst q; cbv <;> (repeat' apply And.intro) <;> first | trivial | rfl) | (rename_i q _; subst q; cbv <;> (repeat' apply And.intro) <;> first | trivial | rfl)))))
  rintro ⟨⟨k_3, p7, p8, p9, p10, p11⟩, h⟩
  rcases k_3 with _ | k_3
  · cases noneb rfl h
  rw [F_spec_l01DrawFloats_l0.eq_2] at h
  cbv
  refine ⟨fun b_4 => ?_, fun b_4 => ?_⟩
  rotate_left
  · cbv
    replace h := condf h (by first | exact b_4 | (simp only [oo hO, sl] at b_4 ⊢; exact b_4))
    replace h := leafb h hR_2
    replace h := (endb h).trans hr
    cases h
    ((repeat' apply And.intro) <;> first | trivial | rfl | assumption | (simp only [oo hO, ff, sl]; done) | (simp only [oo hO, ff, sl]; omega) | (intro i hi; first | (cbv <;> (repeat' apply And.intro) <;> first | trivial | rfl) | (simp only [oo hO, ff, sl] at hi ⊢; (try simp only [gg, sl] at hi ⊢); (repeat' split) <;> first | (exfalso; omega) | (exfalso; exact absurd (Nat.lt_of_lt_of_le hi (Nat.min_le_left _ _)) (by assumption)) | (cbv <;> (repeat' apply And.intro) <;> first | trivial | rfl) | (rename_i q; subst q; cbv <;> (repeat' apply And.intro) <;> first | trivial | rfl) | (rename_i q _; subst q; cbv <;> (repeat' apply And.intro) <;> first | trivial | rfl))))
  cbv
  replace h := condt h (by first | exact b_4 | (simp only [oo hO, sl] at b_4 ⊢; exact b_4))
  refine ⟨fun b_5 => ?_, fun b_5 => ?_⟩
  · cbv
    replace h := condt h (by first | exact b_5 | (simp only [oo hO, sl] at b_5 ⊢; exact b_5))
    obtain ⟨⟨v3, v4⟩, e_6, h⟩ := callb h
    refine ⟨[0], _, _, _, _, true, c_spec_l01DrawFloat hO hP e_6, ?_⟩
    cbv
    refine ⟨(by (repeat' apply And.intro) <;> first | trivial | rfl), (by (repeat' apply And.intro) <;> first | trivial | rfl | (intro i hi; first | (cbv <;> (repeat' apply And.intro) <;> first | trivial | rfl) | (simp only [oo hO, sl]; cbv <;> (repeat' apply And.intro) <;> first | trivial | rfl))), ?_⟩
    obtain ⟨g_7, h⟩ := gdb h
    refine ⟨(by first | trivial | (simp only [oo hO, sl]; omega) | (simp only [oo hO, sl]; done)), (by first | exact g_7 | (simp only [oo hO] at g_7 ⊢; simp only [sl] at g_7 ⊢; omega)), (by first | trivial | (simp only [oo hO, sl]; omega) | (simp only [oo hO, sl]; done)), ?_⟩
    obtain ⟨g_8, h⟩ := gdb h
    refine ⟨(by first | exact g_8 | (simp only [oo hO] at g_8 ⊢; simp only [sl] at g_8 ⊢; omega)), ?_⟩
    refine ⟨⟨(k_3, (O.isub p7 1), (O.lapp p8 ([v3] : List Nat)), v4.code, v4.pos, v4.seed), h⟩, ?_, ?_⟩
    · (cbv <;> ((repeat' apply And.intro) <;> first | trivial | rfl | assumption | (simp only [oo hO, ff, sl]; done) | (simp only [oo hO, ff, sl]; omega) | (intro i hi; first | (cbv <;> (repeat' apply And.intro) <;> first | trivial | rfl) | (simp only [oo hO, ff, sl] at hi ⊢; (try simp only [gg, sl] at hi ⊢); (repeat' split) <;> first | (exfalso; omega) | (exfalso; exact absurd (Nat.lt_of_lt_of_le hi (Nat.min_le_left _ _)) (by assumption)) | (cbv <;> (repeat' apply And.intro) <;> first | trivial | rfl) | (rename_i q; subst q; cbv <;> (repeat' apply And.intro) <;> first | trivial | rfl) | (rename_i q _; subst q; cbv <;> (repeat' apply And.intro) <;> first | trivial | rfl)))))
    · exact Nat.lt_succ_self k_3
  cbv
  replace h := condf h (by first | exact b_5 | (simp only [oo hO, sl] at b_5 ⊢; exact b_5))
  obtain ⟨⟨v5, v6⟩, e_9, h⟩ := callb h
  refine ⟨[0], _, _, _, _, true, c_spec_l01DrawPlain hO hP e_9, ?_⟩
  cbv
  refine ⟨(by (repeat' apply And.intro) <;> first | trivial | rfl), (by (repeat' apply And.intro) <;> first | trivial | rfl | (intro i hi; first | (cbv <;> (repeat' apply And.intro) <;> first | trivial | rfl) | (simp only [oo hO, sl]; cbv <;> (repeat' apply And.intro) <;> first | trivial | rfl))), ?_⟩
  obtain ⟨g_10, h⟩ := gdb h
  refine ⟨(by first | trivial | (simp only [oo hO, sl]; omega) | (simp only [oo hO, sl]; done)), (by first | exact g_10 | (simp only [oo hO] at g_10 ⊢; simp only [sl] at g_10 ⊢; omega)), (by first | trivial | (simp only [oo hO, sl]; omega) | (simp only [oo hO, sl]; done)), ?_⟩
  obtain ⟨g_11, h⟩ := gdb h
  refine ⟨(by first | exact g_11 | (simp only [oo hO] at g_11 ⊢; simp only [sl] at g_11 ⊢; omega)), ?_⟩
  refine ⟨⟨(k_3, (O.isub p7 1), (O.lapp p8 ([v5] : List Nat)), v6.code, v6.pos, v6.seed), h⟩, ?_, ?_⟩
  · (cbv <;> ((repeat' apply And.intro) <;> first | trivial | rfl | assumption | (simp only [oo hO, ff, sl]; done) | (simp only [oo hO, ff, sl]; omega) | (intro i hi; first | (cbv <;> (repeat' apply And.intro) <;> first | trivial | rfl) | (simp only [oo hO, ff, sl] at hi ⊢; (try simp only [gg, sl] at hi ⊢); (repeat' split) <;> first | (exfalso; omega) | (exfalso; exact absurd (Nat.lt_of_lt_of_le hi (Nat.min_le_left _ _)) (by assumption)) | (cbv <;> (repeat' apply And.intro) <;> first | trivial | rfl) | (rename_i q; subst q; cbv <;> (repeat' apply And.intro) <;> first | trivial | rfl) | (rename_i q _; subst q; cbv <;> (repeat' apply And.intro) <;> first | trivial | rfl)))))
  · exact Nat.lt_succ_self k_3

theorem c_impl_zeros {O : Ops} (hO : O = std) {P : Program} (hP : P = Prg) {a1 : Int} {r1 : (List Nat)} (h : F_impl_zeros O a1 = some r1) :
    Con P 88 [] [.int .i64 a1] (.osl 0 1 0 (O.llen r1)) [.arr true true 1 (O.llen r1) (fun i1 => [.flt .f32 (O.lget r1 i1 0)])] := by
  refine @con_of2 O hO P hP 88 Go.Proofs.Try.f88 Go.Proofs.Try.func88 (by kernel_rfl) _ _ _ _ ?_
  unfold F_impl_zeros at h
  replace h := startb h
  obtain ⟨r, hr⟩ : ∃ r, r = r1 := ⟨_, rfl⟩
  rw [← hr] at h
  cbv
  refine Wp.mk ?_
  obtain ⟨g_1, h⟩ := gdb h
  have qg_1 := g_1; simp only [oo hO, ff, sl] at qg_1
  obtain ⟨g_2, h⟩ := gdb h
  have qg_2 := g_2; simp only [oo hO, ff, sl] at qg_2
  obtain ⟨g_3, h⟩ := gdb h
  refine ⟨(by first | exact g_1 | (simp only [oo hO] at g_1 ⊢; simp only [sl] at g_1 ⊢; omega)), (by first | exact g_2 | (simp only [oo hO] at g_2 ⊢; simp only [sl] at g_2 ⊢; omega)), (by first | exact g_3 | (simp only [oo hO] at g_3 ⊢; simp only [sl] at g_3 ⊢; omega)), ?_⟩
  replace h := (endb h).trans hr
  cases h
  ((repeat' apply And.intro) <;> first | trivial | rfl | assumption | (simp only [oo hO, ff, sl]; done) | (simp only [oo hO, ff, sl]; omega) | (intro i hi; first | (cbv <;> (repeat' apply And.intro) <;> first | trivial | rfl) | (simp only [oo hO, ff, sl] at hi ⊢; (try simp only [gg, sl] at hi ⊢); (repeat' split) <;> first | (exfalso; omega) | (exfalso; exact absurd (Nat.lt_of_lt_of_le hi (Nat.min_le_left _ _)) (by assumption)) | (cbv <;> (repeat' apply And.intro) <;> first | trivial | rfl) | (rename_i q; subst q; cbv <;> (repeat' apply And.intro) <;> first | trivial | rfl) | (rename_i q _; subst q; cbv <;> (repeat' apply And.intro) <;> first | trivial | rfl))))

end Go.Desk
