/- Contracts of functions, printed by a program of mine (in step with V-logic). -/
import Derived.Test.YtmfbddhgfckfaaaGab1
import Derived.Test.YtmfbddhgfckfaaaGabcdef1
import Derived.Test.YtmfbddhgfckfaaaGabcef1
import Derived.Test.YtmfbddhgfckfaaaGace1
import Derived.Test.YtmfbddhgfckfaaaGacef1
import Derived.Test.YtmfbddhgfckfaaaGf
namespace Go.Desk
open Go
set_option linter.all false
set_option maxRecDepth 100000
set_option linter.unusedVariables false
set_option linter.unusedSimpArgs false
set_option maxHeartbeats 4000000
theorem c_spec_l02DrawNumber {O : Ops} (hO : O = std) {P : Program} (hP : P = Prg) {a1 : Gl00Src} {r1 : Nat} {r2 : Gl00Src} (h : F_spec_l02DrawNumber O a1 = some (r1, r2)) :
    Con P 118 [.box [.sl false false 1 (O.llen a1.code) (fun i1 => [.int .u8 (O.lget a1.code i1 0)]), .int .i64 a1.pos, .int .u64 a1.seed]] [.ptr 0 0] (.flt .f32 r1) [.box [.sl false false 1 (O.llen r2.code) (fun i1 => [.int .u8 (O.lget r2.code i1 0)]), .int .i64 r2.pos, .int .u64 r2.seed]] := by
  refine @con_of2 O hO P hP 118 Go.Proofs.Try.f118 Go.Proofs.Try.func118 (by kernel_rfl) _ _ _ _ ?_
  unfold F_spec_l02DrawNumber at h
  replace h := startb h
  obtain ⟨r, hr⟩ : ∃ r, r = (r1, r2) := ⟨_, rfl⟩
  rw [← hr] at h
  cbv
  refine Wp.mk ?_
  obtain ⟨⟨v1, v2⟩, e_1, h⟩ := callb h
  refine ⟨[0], _, _, _, _, true, c_spec_l00Src_one hO hP e_1, ?_⟩
  cbv
  refine ⟨(by (repeat' apply And.intro) <;> first | trivial | rfl), (by (repeat' apply And.intro) <;> first | trivial | rfl | (intro i hi; first | (cbv <;> (repeat' apply And.intro) <;> first | trivial | rfl) | (simp only [oo hO, sl]; cbv <;> (repeat' apply And.intro) <;> first | trivial | rfl))), ?_⟩
  refine ⟨fun b_2 => ?_, fun b_2 => ?_⟩
  · cbv
    replace h := condt h (by first | exact b_2 | (simp only [oo hO, sl] at b_2 ⊢; exact b_2))
    obtain ⟨⟨v3, v4⟩, e_3, h⟩ := callb h
    refine ⟨[0], _, _, _, _, true, c_spec_l01DrawFloat hO hP e_3, ?_⟩
    cbv
    refine ⟨(by (repeat' apply And.intro) <;> first | trivial | rfl), (by (repeat' apply And.intro) <;> first | trivial | rfl | (intro i hi; first | (cbv <;> (repeat' apply And.intro) <;> first | trivial | rfl) | (simp only [oo hO, sl]; cbv <;> (repeat' apply And.intro) <;> first | trivial | rfl))), ?_⟩
    replace h := (endb h).trans hr
    cases h
    ((repeat' apply And.intro) <;> first | trivial | rfl | assumption | (simp only [oo hO, ff, sl]; done) | (simp only [oo hO, ff, sl]; omega) | (intro i hi; first | (cbv <;> (repeat' apply And.intro) <;> first | trivial | rfl) | (simp only [oo hO, ff, sl] at hi ⊢; (try simp only [gg, sl] at hi ⊢); (repeat' split) <;> first | (exfalso; omega) | (exfalso; exact absurd (Nat.lt_of_lt_of_le hi (Nat.min_le_left _ _)) (by assumption)) | (cbv <;> (repeat' apply And.intro) <;> first | trivial | rfl) | (rename_i q; subst q; cbv <;> (repeat' apply And.intro) <;> first | trivial | rfl) | (rename_i q _; subst q; cbv <;> (repeat' apply And.intro) <;> first | trivial | rfl))))
  cbv
  replace h := condf h (by first | exact b_2 | (simp only [oo hO, sl] at b_2 ⊢; exact b_2))
  obtain ⟨⟨v5, v6⟩, e_4, h⟩ := callb h
  refine ⟨[0], _, _, _, _, true, c_spec_l00Src_one hO hP e_4, ?_⟩
  cbv
  refine ⟨(by (repeat' apply And.intro) <;> first | trivial | rfl), (by (repeat' apply And.intro) <;> first | trivial | rfl | (intro i hi; first | (cbv <;> (repeat' apply And.intro) <;> first | trivial | rfl) | (simp only [oo hO, sl]; cbv <;> (repeat' apply And.intro) <;> first | trivial | rfl))), ?_⟩
  refine ⟨fun b_5 => ?_, fun b_5 => ?_⟩
  · cbv
    replace h := condt h (by first | exact b_5 | (simp only [oo hO, sl] at b_5 ⊢; exact b_5))
    replace h := (endb h).trans hr
    cases h
    ((repeat' apply And.intro) <;> first | trivial | rfl | assumption | (simp only [oo hO, ff, sl]; done) | (simp only [oo hO, ff, sl]; omega) | (intro i hi; first | (cbv <;> (repeat' apply And.intro) <;> first | trivial | rfl) | (simp only [oo hO, ff, sl] at hi ⊢; (try simp only [gg, sl] at hi ⊢); (repeat' split) <;> first | (exfalso; omega) | (exfalso; exact absurd (Nat.lt_of_lt_of_le hi (Nat.min_le_left _ _)) (by assumption)) | (cbv <;> (repeat' apply And.intro) <;> first | trivial | rfl) | (rename_i q; subst q; cbv <;> (repeat' apply And.intro) <;> first | trivial | rfl) | (rename_i q _; subst q; cbv <;> (repeat' apply And.intro) <;> first | trivial | rfl))))
  cbv
  replace h := condf h (by first | exact b_5 | (simp only [oo hO, sl] at b_5 ⊢; exact b_5))
  obtain ⟨⟨v7, v8⟩, e_6, h⟩ := callb h
  refine ⟨[0], _, _, _, _, true, c_spec_l00Src_pick hO hP e_6, ?_⟩
  cbv
  refine ⟨(by (repeat' apply And.intro) <;> first | trivial | rfl), (by (repeat' apply And.intro) <;> first | trivial | rfl | (intro i hi; first | (cbv <;> (repeat' apply And.intro) <;> first | trivial | rfl) | (simp only [oo hO, sl]; cbv <;> (repeat' apply And.intro) <;> first | trivial | rfl))), ?_⟩
  obtain ⟨g_7, h⟩ := gdb h
  refine ⟨(by first | exact g_7 | (simp only [oo hO] at g_7 ⊢; simp only [sl] at g_7 ⊢; omega)), ?_⟩
  replace h := (endb h).trans hr
  cases h
  ((repeat' apply And.intro) <;> first | trivial | rfl | assumption | (simp only [oo hO, ff, sl]; done) | (simp only [oo hO, ff, sl]; omega) | (intro i hi; first | (cbv <;> (repeat' apply And.intro) <;> first | trivial | rfl) | (simp only [oo hO, ff, sl] at hi ⊢; (try simp only [gg, sl] at hi ⊢); (repeat' split) <;> first | (exfalso; omega) | (exfalso; exact absurd (Nat.lt_of_lt_of_le hi (Nat.min_le_left _ _)) (by assumption)) | (cbv <;> (repeat' apply And.intro) <;> first | trivial | rfl) | (rename_i q; subst q; cbv <;> (repeat' apply And.intro) <;> first | trivial | rfl) | (rename_i q _; subst q; cbv <;> (repeat' apply And.intro) <;> first | trivial | rfl))))

theorem c_spec_l02DrawFilter {O : Ops} (hO : O = std) {P : Program} (hP : P = Prg) {a1 : Gl00Src} {r1 : GFilter} {r2 : Gl00Src} (h : F_spec_l02DrawFilter O a1 = some (r1, r2)) :
    Con P 61 [.box [.sl false false 1 (O.llen a1.code) (fun i1 => [.int .u8 (O.lget a1.code i1 0)]), .int .i64 a1.pos, .int .u64 a1.seed]] [.ptr 0 0] (.agg [.flt .f32 r1.B0, .flt .f32 r1.B1, .flt .f32 r1.B2, .flt .f32 r1.A1, .flt .f32 r1.A2]) [.box [.sl false false 1 (O.llen r2.code) (fun i1 => [.int .u8 (O.lget r2.code i1 0)]), .int .i64 r2.pos, .int .u64 r2.seed]] := by
  refine @con_of2 O hO P hP 61 Go.Proofs.Try.f61 Go.Proofs.Try.func61 (by kernel_rfl) _ _ _ _ ?_
  unfold F_spec_l02DrawFilter at h
  replace h := startb h
  obtain ⟨r, hr⟩ : ∃ r, r = (r1, r2) := ⟨_, rfl⟩
  rw [← hr] at h
  cbv
  refine Wp.mk ?_
  obtain ⟨⟨v1, v2⟩, e_1, h⟩ := callb h
  refine ⟨[0], _, _, _, _, true, c_spec_l02DrawNumber hO hP e_1, ?_⟩
  cbv
  refine ⟨(by (repeat' apply And.intro) <;> first | trivial | rfl), (by (repeat' apply And.intro) <;> first | trivial | rfl | (intro i hi; first | (cbv <;> (repeat' apply And.intro) <;> first | trivial | rfl) | (simp only [oo hO, sl]; cbv <;> (repeat' apply And.intro) <;> first | trivial | rfl))), ?_⟩
  obtain ⟨⟨v3, v4⟩, e_2, h⟩ := callb h
  refine ⟨[0], _, _, _, _, true, c_spec_l02DrawNumber hO hP e_2, ?_⟩
  cbv
  refine ⟨(by (repeat' apply And.intro) <;> first | trivial | rfl), (by (repeat' apply And.intro) <;> first | trivial | rfl | (intro i hi; first | (cbv <;> (repeat' apply And.intro) <;> first | trivial | rfl) | (simp only [oo hO, sl]; cbv <;> (repeat' apply And.intro) <;> first | trivial | rfl))), ?_⟩
  obtain ⟨⟨v5, v6⟩, e_3, h⟩ := callb h
  refine ⟨[0], _, _, _, _, true, c_spec_l02DrawNumber hO hP e_3, ?_⟩
  cbv
  refine ⟨(by (repeat' apply And.intro) <;> first | trivial | rfl), (by (repeat' apply And.intro) <;> first | trivial | rfl | (intro i hi; first | (cbv <;> (repeat' apply And.intro) <;> first | trivial | rfl) | (simp only [oo hO, sl]; cbv <;> (repeat' apply And.intro) <;> first | trivial | rfl))), ?_⟩
  obtain ⟨⟨v7, v8⟩, e_4, h⟩ := callb h
  refine ⟨[0], _, _, _, _, true, c_spec_l00Src_pick hO hP e_4, ?_⟩
  cbv
  refine ⟨(by (repeat' apply And.intro) <;> first | trivial | rfl), (by (repeat' apply And.intro) <;> first | trivial | rfl | (intro i hi; first | (cbv <;> (repeat' apply And.intro) <;> first | trivial | rfl) | (simp only [oo hO, sl]; cbv <;> (repeat' apply And.intro) <;> first | trivial | rfl))), ?_⟩
  obtain ⟨g_5, h⟩ := gdb h
  refine ⟨(by first | exact g_5 | (simp only [oo hO] at g_5 ⊢; simp only [sl] at g_5 ⊢; omega)), ?_⟩
  obtain ⟨⟨v9, v10⟩, e_6, h⟩ := callb h
  refine ⟨[0], _, _, _, _, true, c_spec_l00Src_pick hO hP e_6, ?_⟩
  cbv
  refine ⟨(by (repeat' apply And.intro) <;> first | trivial | rfl), (by (repeat' apply And.intro) <;> first | trivial | rfl | (intro i hi; first | (cbv <;> (repeat' apply And.intro) <;> first | trivial | rfl) | (simp only [oo hO, sl]; cbv <;> (repeat' apply And.intro) <;> first | trivial | rfl))), ?_⟩
  obtain ⟨g_7, h⟩ := gdb h
  refine ⟨(by first | exact g_7 | (simp only [oo hO] at g_7 ⊢; simp only [sl] at g_7 ⊢; omega)), ?_⟩
  obtain ⟨⟨v11, v12⟩, e_8, h⟩ := callb h
  refine ⟨[0], _, _, _, _, true, c_spec_l00Src_one hO hP e_8, ?_⟩
  cbv
  refine ⟨(by (repeat' apply And.intro) <;> first | trivial | rfl), (by (repeat' apply And.intro) <;> first | trivial | rfl | (intro i hi; first | (cbv <;> (repeat' apply And.intro) <;> first | trivial | rfl) | (simp only [oo hO, sl]; cbv <;> (repeat' apply And.intro) <;> first | trivial | rfl))), ?_⟩
  refine ⟨fun b_9 => ?_, fun b_9 => ?_⟩
  rotate_left
  · cbv
    replace h := condf h (by first | exact b_9 | (simp only [oo hO, sl] at b_9 ⊢; exact b_9))
    obtain ⟨⟨v19, v20⟩, e_10, h⟩ := callb h
    refine ⟨[0], _, _, _, _, true, c_spec_l00Src_one hO hP e_10, ?_⟩
    cbv
    refine ⟨(by (repeat' apply And.intro) <;> first | trivial | rfl), (by (repeat' apply And.intro) <;> first | trivial | rfl | (intro i hi; first | (cbv <;> (repeat' apply And.intro) <;> first | trivial | rfl) | (simp only [oo hO, sl]; cbv <;> (repeat' apply And.intro) <;> first | trivial | rfl))), ?_⟩
    refine ⟨fun b_11 => ?_, fun b_11 => ?_⟩
    rotate_left
    · cbv
      replace h := condf h (by first | exact b_11 | (simp only [oo hO, sl] at b_11 ⊢; exact b_11))
      replace h := (endb h).trans hr
      cases h
      ((repeat' apply And.intro) <;> first | trivial | rfl | assumption | (simp only [oo hO, ff, sl]; done) | (simp only [oo hO, ff, sl]; omega) | (intro i hi; first | (cbv <;> (repeat' apply And.intro) <;> first | trivial | rfl) | (simp only [oo hO, ff, sl] at hi ⊢; (try simp only [gg, sl] at hi ⊢); (repeat' split) <;> first | (exfalso; omega) | (exfalso; exact absurd (Nat.lt_of_lt_of_le hi (Nat.min_le_left _ _)) (by assumption)) | (cbv <;> (repeat' apply And.intro) <;> first | trivial | rfl) | (rename_i q; subst q; cbv <;> (repeat' apply And.intro) <;> first | trivial | rfl) | (rename_i q _; subst q; cbv <;> (repeat' apply And.intro) <;> first | trivial | rfl))))
    cbv
    replace h := condt h (by first | exact b_11 | (simp only [oo hO, sl] at b_11 ⊢; exact b_11))
    obtain ⟨⟨v21, v22⟩, e_12, h⟩ := callb h
    refine ⟨[0], _, _, _, _, true, c_spec_l02DrawNumber hO hP e_12, ?_⟩
    cbv
    refine ⟨(by (repeat' apply And.intro) <;> first | trivial | rfl), (by (repeat' apply And.intro) <;> first | trivial | rfl | (intro i hi; first | (cbv <;> (repeat' apply And.intro) <;> first | trivial | rfl) | (simp only [oo hO, sl]; cbv <;> (repeat' apply And.intro) <;> first | trivial | rfl))), ?_⟩
    replace h := (endb h).trans hr
    cases h
    ((repeat' apply And.intro) <;> first | trivial | rfl | assumption | (simp only [oo hO, ff, sl]; done) | (simp only [oo hO, ff, sl]; omega) | (intro i hi; first | (cbv <;> (repeat' apply And.intro) <;> first | trivial | rfl) | (simp only [oo hO, ff, sl] at hi ⊢; (try simp only [gg, sl] at hi ⊢); (repeat' split) <;> first | (exfalso; omega) | (exfalso; exact absurd (Nat.lt_of_lt_of_le hi (Nat.min_le_left _ _)) (by assumption)) | (cbv <;> (repeat' apply And.intro) <;> first | trivial | rfl) | (rename_i q; subst q; cbv <;> (repeat' apply And.intro) <;> first | trivial | rfl) | (rename_i q _; subst q; cbv <;> (repeat' apply And.intro) <;> first | trivial | rfl))))
  cbv
  replace h := condt h (by first | exact b_9 | (simp only [oo hO, sl] at b_9 ⊢; exact b_9))
  obtain ⟨⟨v13, v14⟩, e_13, h⟩ := callb h
  refine ⟨[0], _, _, _, _, true, c_spec_l02DrawNumber hO hP e_13, ?_⟩
  cbv
  refine ⟨(by (repeat' apply And.intro) <;> first | trivial | rfl), (by (repeat' apply And.intro) <;> first | trivial | rfl | (intro i hi; first | (cbv <;> (repeat' apply And.intro) <;> first | trivial | rfl) | (simp only [oo hO, sl]; cbv <;> (repeat' apply And.intro) <;> first | trivial | rfl))), ?_⟩
  obtain ⟨⟨v15, v16⟩, e_14, h⟩ := callb h
  refine ⟨[0], _, _, _, _, true, c_spec_l00Src_one hO hP e_14, ?_⟩
  cbv
  refine ⟨(by (repeat' apply And.intro) <;> first | trivial | rfl), (by (repeat' apply And.intro) <;> first | trivial | rfl | (intro i hi; first | (cbv <;> (repeat' apply And.intro) <;> first | trivial | rfl) | (simp only [oo hO, sl]; cbv <;> (repeat' apply And.intro) <;> first | trivial | rfl))), ?_⟩
  refine ⟨fun b_15 => ?_, fun b_15 => ?_⟩
  rotate_left
  · cbv
    replace h := condf h (by first | exact b_15 | (simp only [oo hO, sl] at b_15 ⊢; exact b_15))
    replace h := (endb h).trans hr
    cases h
    ((repeat' apply And.intro) <;> first | trivial | rfl | assumption | (simp only [oo hO, ff, sl]; done) | (simp only [oo hO, ff, sl]; omega) | (intro i hi; first | (cbv <;> (repeat' apply And.intro) <;> first | trivial | rfl) | (simp only [oo hO, ff, sl] at hi ⊢; (try simp only [gg, sl] at hi ⊢); (repeat' split) <;> first | (exfalso; omega) | (exfalso; exact absurd (Nat.lt_of_lt_of_le hi (Nat.min_le_left _ _)) (by assumption)) | (cbv <;> (repeat' apply And.intro) <;> first | trivial | rfl) | (rename_i q; subst q; cbv <;> (repeat' apply And.intro) <;> first | trivial | rfl) | (rename_i q _; subst q; cbv <;> (repeat' apply And.intro) <;> first | trivial | rfl))))
  cbv
  replace h := condt h (by first | exact b_15 | (simp only [oo hO, sl] at b_15 ⊢; exact b_15))
  obtain ⟨⟨v17, v18⟩, e_16, h⟩ := callb h
  refine ⟨[0], _, _, _, _, true, c_spec_l02DrawNumber hO hP e_16, ?_⟩
  cbv
  refine ⟨(by (repeat' apply And.intro) <;> first | trivial | rfl), (by (repeat' apply And.intro) <;> first | trivial | rfl | (intro i hi; first | (cbv <;> (repeat' apply And.intro) <;> first | trivial | rfl) | (simp only [oo hO, sl]; cbv <;> (repeat' apply And.intro) <;> first | trivial | rfl))), ?_⟩
  replace h := (endb h).trans hr
  cases h
  ((repeat' apply And.intro) <;> first | trivial | rfl | assumption | (simp only [oo hO, ff, sl]; done) | (simp only [oo hO, ff, sl]; omega) | (intro i hi; first | (cbv <;> (repeat' apply And.intro) <;> first | trivial | rfl) | (simp only [oo hO, ff, sl] at hi ⊢; (try simp only [gg, sl] at hi ⊢); (repeat' split) <;> first | (exfalso; omega) | (exfalso; exact absurd (Nat.lt_of_lt_of_le hi (Nat.min_le_left _ _)) (by assumption)) | (cbv <;> (repeat' apply And.intro) <;> first | trivial | rfl) | (rename_i q; subst q; cbv <;> (repeat' apply And.intro) <;> first | trivial | rfl) | (rename_i q _; subst q; cbv <;> (repeat' apply And.intro) <;> first | trivial | rfl))))

theorem c_spec_R8Filter {O : Ops} (hO : O = std) {P : Program} (hP : P = Prg) {a1 : (List Int)} {r1 : GFilter} (h : F_spec_R8Filter O a1 = some r1) :
    Con P 10 [] [.sl false false 1 (O.llen a1) (fun i1 => [.int .u8 (O.lget a1 i1 0)])] (.agg [.flt .f32 r1.B0, .flt .f32 r1.B1, .flt .f32 r1.B2, .flt .f32 r1.A1, .flt .f32 r1.A2]) [] := by
  refine @con_of2 O hO P hP 10 Go.Proofs.Try.f10 Go.Proofs.Try.func10 (by kernel_rfl) _ _ _ _ ?_
  unfold F_spec_R8Filter at h
  replace h := startb h
  obtain ⟨r, hr⟩ : ∃ r, r = r1 := ⟨_, rfl⟩
  rw [← hr] at h
  cbv
  refine Wp.mk ?_
  obtain ⟨v1, e_1, h⟩ := callb h
  refine ⟨[], _, _, _, _, true, c_spec_l00From hO hP e_1, ?_⟩
  cbv
  refine ⟨(by (repeat' apply And.intro) <;> first | trivial | rfl | (intro i hi; first | (cbv <;> (repeat' apply And.intro) <;> first | trivial | rfl) | (simp only [oo hO, sl]; cbv <;> (repeat' apply And.intro) <;> first | trivial | rfl))), (by (repeat' apply And.intro) <;> first | trivial | rfl), ?_⟩
  obtain ⟨⟨v2, v3⟩, e_2, h⟩ := callb h
  refine ⟨[80], _, _, _, _, true, c_spec_l02DrawFilter hO hP e_2, ?_⟩
  cbv
  refine ⟨(by (repeat' apply And.intro) <;> first | trivial | rfl), (by (repeat' apply And.intro) <;> first | trivial | rfl | (intro i hi; first | (cbv <;> (repeat' apply And.intro) <;> first | trivial | rfl) | (simp only [oo hO, sl]; cbv <;> (repeat' apply And.intro) <;> first | trivial | rfl))), ?_⟩
  replace h := (endb h).trans hr
  cases h
  ((repeat' apply And.intro) <;> first | trivial | rfl | assumption | (simp only [oo hO, ff, sl]; done) | (simp only [oo hO, ff, sl]; omega) | (intro i hi; first | (cbv <;> (repeat' apply And.intro) <;> first | trivial | rfl) | (simp only [oo hO, ff, sl] at hi ⊢; (try simp only [gg, sl] at hi ⊢); (repeat' split) <;> first | (exfalso; omega) | (exfalso; exact absurd (Nat.lt_of_lt_of_le hi (Nat.min_le_left _ _)) (by assumption)) | (cbv <;> (repeat' apply And.intro) <;> first | trivial | rfl) | (rename_i q; subst q; cbv <;> (repeat' apply And.intro) <;> first | trivial | rfl) | (rename_i q _; subst q; cbv <;> (repeat' apply And.intro) <;> first | trivial | rfl))))

theorem c_spec_l02DrawMemory {O : Ops} (hO : O = std) {P : Program} (hP : P = Prg) {a1 : Gl00Src} {r1 : GMemory} {r2 : Gl00Src} (h : F_spec_l02DrawMemory O a1 = some (r1, r2)) :
    Con P 62 [.box [.sl false false 1 (O.llen a1.code) (fun i1 => [.int .u8 (O.lget a1.code i1 0)]), .int .i64 a1.pos, .int .u64 a1.seed]] [.ptr 0 0] (.agg [.flt .f32 r1.A, .flt .f32 r1.B, .flt .f32 r1.C, .flt .f32 r1.D]) [.box [.sl false false 1 (O.llen r2.code) (fun i1 => [.int .u8 (O.lget r2.code i1 0)]), .int .i64 r2.pos, .int .u64 r2.seed]] := by
  refine @con_of2 O hO P hP 62 Go.Proofs.Try.f62 Go.Proofs.Try.func62 (by kernel_rfl) _ _ _ _ ?_
  unfold F_spec_l02DrawMemory at h
  replace h := startb h
  obtain ⟨r, hr⟩ : ∃ r, r = (r1, r2) := ⟨_, rfl⟩
  rw [← hr] at h
  cbv
  refine Wp.mk ?_
  obtain ⟨⟨v1, v2⟩, e_1, h⟩ := callb h
  refine ⟨[0], _, _, _, _, true, c_spec_l00Src_one hO hP e_1, ?_⟩
  cbv
  refine ⟨(by (repeat' apply And.intro) <;> first | trivial | rfl), (by (repeat' apply And.intro) <;> first | trivial | rfl | (intro i hi; first | (cbv <;> (repeat' apply And.intro) <;> first | trivial | rfl) | (simp only [oo hO, sl]; cbv <;> (repeat' apply And.intro) <;> first | trivial | rfl))), ?_⟩
  refine ⟨fun b_2 => ?_, fun b_2 => ?_⟩
  · cbv
    replace h := condt h (by first | exact b_2 | (simp only [oo hO, sl] at b_2 ⊢; exact b_2))
    replace h := (endb h).trans hr
    cases h
    ((repeat' apply And.intro) <;> first | trivial | rfl | assumption | (simp only [oo hO, ff, sl]; done) | (simp only [oo hO, ff, sl]; omega) | (intro i hi; first | (cbv <;> (repeat' apply And.intro) <;> first | trivial | rfl) | (simp only [oo hO, ff, sl] at hi ⊢; (try simp only [gg, sl] at hi ⊢); (repeat' split) <;> first | (exfalso; omega) | (exfalso; exact absurd (Nat.lt_of_lt_of_le hi (Nat.min_le_left _ _)) (by assumption)) | (cbv <;> (repeat' apply And.intro) <;> first | trivial | rfl) | (rename_i q; subst q; cbv <;> (repeat' apply And.intro) <;> first | trivial | rfl) | (rename_i q _; subst q; cbv <;> (repeat' apply And.intro) <;> first | trivial | rfl))))
  cbv
  replace h := condf h (by first | exact b_2 | (simp only [oo hO, sl] at b_2 ⊢; exact b_2))
  obtain ⟨⟨v3, v4⟩, e_3, h⟩ := callb h
  refine ⟨[0], _, _, _, _, true, c_spec_l01DrawFloat hO hP e_3, ?_⟩
  cbv
  refine ⟨(by (repeat' apply And.intro) <;> first | trivial | rfl), (by (repeat' apply And.intro) <;> first | trivial | rfl | (intro i hi; first | (cbv <;> (repeat' apply And.intro) <;> first | trivial | rfl) | (simp only [oo hO, sl]; cbv <;> (repeat' apply And.intro) <;> first | trivial | rfl))), ?_⟩
  obtain ⟨⟨v5, v6⟩, e_4, h⟩ := callb h
  refine ⟨[0], _, _, _, _, true, c_spec_l01DrawFloat hO hP e_4, ?_⟩
  cbv
  refine ⟨(by (repeat' apply And.intro) <;> first | trivial | rfl), (by (repeat' apply And.intro) <;> first | trivial | rfl | (intro i hi; first | (cbv <;> (repeat' apply And.intro) <;> first | trivial | rfl) | (simp only [oo hO, sl]; cbv <;> (repeat' apply And.intro) <;> first | trivial | rfl))), ?_⟩
  obtain ⟨⟨v7, v8⟩, e_5, h⟩ := callb h
  refine ⟨[0], _, _, _, _, true, c_spec_l01DrawFloat hO hP e_5, ?_⟩
  cbv
  refine ⟨(by (repeat' apply And.intro) <;> first | trivial | rfl), (by (repeat' apply And.intro) <;> first | trivial | rfl | (intro i hi; first | (cbv <;> (repeat' apply And.intro) <;> first | trivial | rfl) | (simp only [oo hO, sl]; cbv <;> (repeat' apply And.intro) <;> first | trivial | rfl))), ?_⟩
  obtain ⟨⟨v9, v10⟩, e_6, h⟩ := callb h
  refine ⟨[0], _, _, _, _, true, c_spec_l01DrawFloat hO hP e_6, ?_⟩
  cbv
  refine ⟨(by (repeat' apply And.intro) <;> first | trivial | rfl), (by (repeat' apply And.intro) <;> first | trivial | rfl | (intro i hi; first | (cbv <;> (repeat' apply And.intro) <;> first | trivial | rfl) | (simp only [oo hO, sl]; cbv <;> (repeat' apply And.intro) <;> first | trivial | rfl))), ?_⟩
  replace h := (endb h).trans hr
  cases h
  ((repeat' apply And.intro) <;> first | trivial | rfl | assumption | (simp only [oo hO, ff, sl]; done) | (simp only [oo hO, ff, sl]; omega) | (intro i hi; first | (cbv <;> (repeat' apply And.intro) <;> first | trivial | rfl) | (simp only [oo hO, ff, sl] at hi ⊢; (try simp only [gg, sl] at hi ⊢); (repeat' split) <;> first | (exfalso; omega) | (exfalso; exact absurd (Nat.lt_of_lt_of_le hi (Nat.min_le_left _ _)) (by assumption)) | (cbv <;> (repeat' apply And.intro) <;> first | trivial | rfl) | (rename_i q; subst q; cbv <;> (repeat' apply And.intro) <;> first | trivial | rfl) | (rename_i q _; subst q; cbv <;> (repeat' apply And.intro) <;> first | trivial | rfl))))

theorem c_spec_R8Memory {O : Ops} (hO : O = std) {P : Program} (hP : P = Prg) {a1 : (List Int)} {r1 : GMemory} (h : F_spec_R8Memory O a1 = some r1) :
    Con P 11 [] [.sl false false 1 (O.llen a1) (fun i1 => [.int .u8 (O.lget a1 i1 0)])] (.agg [.flt .f32 r1.A, .flt .f32 r1.B, .flt .f32 r1.C, .flt .f32 r1.D]) [] := by
  refine @con_of2 O hO P hP 11 Go.Proofs.Try.f11 Go.Proofs.Try.func11 (by kernel_rfl) _ _ _ _ ?_
  unfold F_spec_R8Memory at h
  replace h := startb h
  obtain ⟨r, hr⟩ : ∃ r, r = r1 := ⟨_, rfl⟩
  rw [← hr] at h
  cbv
  refine Wp.mk ?_
  obtain ⟨v1, e_1, h⟩ := callb h
  refine ⟨[], _, _, _, _, true, c_spec_l00From hO hP e_1, ?_⟩
  cbv
  refine ⟨(by (repeat' apply And.intro) <;> first | trivial | rfl | (intro i hi; first | (cbv <;> (repeat' apply And.intro) <;> first | trivial | rfl) | (simp only [oo hO, sl]; cbv <;> (repeat' apply And.intro) <;> first | trivial | rfl))), (by (repeat' apply And.intro) <;> first | trivial | rfl), ?_⟩
  obtain ⟨⟨v2, v3⟩, e_2, h⟩ := callb h
  refine ⟨[80], _, _, _, _, true, c_spec_l02DrawMemory hO hP e_2, ?_⟩
  cbv
  refine ⟨(by (repeat' apply And.intro) <;> first | trivial | rfl), (by (repeat' apply And.intro) <;> first | trivial | rfl | (intro i hi; first | (cbv <;> (repeat' apply And.intro) <;> first | trivial | rfl) | (simp only [oo hO, sl]; cbv <;> (repeat' apply And.intro) <;> first | trivial | rfl))), ?_⟩
  replace h := (endb h).trans hr
  cases h
  ((repeat' apply And.intro) <;> first | trivial | rfl | assumption | (simp only [oo hO, ff, sl]; done) | (simp only [oo hO, ff, sl]; omega) | (intro i hi; first | (cbv <;> (repeat' apply And.intro) <;> first | trivial | rfl) | (simp only [oo hO, ff, sl] at hi ⊢; (try simp only [gg, sl] at hi ⊢); (repeat' split) <;> first | (exfalso; omega) | (exfalso; exact absurd (Nat.lt_of_lt_of_le hi (Nat.min_le_left _ _)) (by assumption)) | (cbv <;> (repeat' apply And.intro) <;> first | trivial | rfl) | (rename_i q; subst q; cbv <;> (repeat' apply And.intro) <;> first | trivial | rfl) | (rename_i q _; subst q; cbv <;> (repeat' apply And.intro) <;> first | trivial | rfl))))

theorem c_spec_R8Samples {O : Ops} (hO : O = std) {P : Program} (hP : P = Prg) {a1 : (List Int)} {a2 : Int} {r1 : (List Nat)} (h : F_spec_R8Samples O a1 a2 = some r1) :
    Con P 12 [] [.sl false false 1 (O.llen a1) (fun i1 => [.int .u8 (O.lget a1 i1 0)]), .int .i64 a2] (.osl 0 1 0 (O.llen r1)) [.arr true true 1 (O.llen r1) (fun i1 => [.flt .f32 (O.lget r1 i1 0)])] := by
  refine @con_of2 O hO P hP 12 Go.Proofs.Try.f12 Go.Proofs.Try.func12 (by kernel_rfl) _ _ _ _ ?_
  unfold F_spec_R8Samples at h
  replace h := startb h
  obtain ⟨r, hr⟩ : ∃ r, r = r1 := ⟨_, rfl⟩
  rw [← hr] at h
  cbv
  refine Wp.mk ?_
  obtain ⟨v1, e_1, h⟩ := callb h
  refine ⟨[], _, _, _, _, true, c_spec_l00From hO hP e_1, ?_⟩
  cbv
  refine ⟨(by (repeat' apply And.intro) <;> first | trivial | rfl | (intro i hi; first | (cbv <;> (repeat' apply And.intro) <;> first | trivial | rfl) | (simp only [oo hO, sl]; cbv <;> (repeat' apply And.intro) <;> first | trivial | rfl))), (by (repeat' apply And.intro) <;> first | trivial | rfl), ?_⟩
  obtain ⟨g_2, h⟩ := gdb h
  refine ⟨(by first | exact g_2 | (simp only [oo hO] at g_2 ⊢; simp only [sl] at g_2 ⊢; omega)), ?_⟩
  obtain ⟨⟨v2, v3⟩, e_3, h⟩ := callb h
  refine ⟨[128], _, _, _, _, true, c_spec_l00Src_pick hO hP e_3, ?_⟩
  cbv
  refine ⟨(by (repeat' apply And.intro) <;> first | trivial | rfl), (by (repeat' apply And.intro) <;> first | trivial | rfl | (intro i hi; first | (cbv <;> (repeat' apply And.intro) <;> first | trivial | rfl) | (simp only [oo hO, sl]; cbv <;> (repeat' apply And.intro) <;> first | trivial | rfl))), ?_⟩
  obtain ⟨⟨v4, v5⟩, e_4, h⟩ := callb h
  refine ⟨[128], _, _, _, _, true, c_spec_l01DrawFloats hO hP e_4, ?_⟩
  cbv
  refine ⟨(by (repeat' apply And.intro) <;> first | trivial | rfl), (by (repeat' apply And.intro) <;> first | trivial | rfl | (intro i hi; first | (cbv <;> (repeat' apply And.intro) <;> first | trivial | rfl) | (simp only [oo hO, sl]; cbv <;> (repeat' apply And.intro) <;> first | trivial | rfl))), ?_⟩
  replace h := (endb h).trans hr
  cases h
  ((repeat' apply And.intro) <;> first | trivial | rfl | assumption | (simp only [oo hO, ff, sl]; done) | (simp only [oo hO, ff, sl]; omega) | (intro i hi; first | (cbv <;> (repeat' apply And.intro) <;> first | trivial | rfl) | (simp only [oo hO, ff, sl] at hi ⊢; (try simp only [gg, sl] at hi ⊢); (repeat' split) <;> first | (exfalso; omega) | (exfalso; exact absurd (Nat.lt_of_lt_of_le hi (Nat.min_le_left _ _)) (by assumption)) | (cbv <;> (repeat' apply And.intro) <;> first | trivial | rfl) | (rename_i q; subst q; cbv <;> (repeat' apply And.intro) <;> first | trivial | rfl) | (rename_i q _; subst q; cbv <;> (repeat' apply And.intro) <;> first | trivial | rfl))))

theorem c_impl_isForm {O : Ops} (hO : O = std) {P : Program} (hP : P = Prg) {a1 : Int} {r1 : Bool} (h : F_impl_isForm O a1 = some r1) :
    Con P 65 [] [.int .i64 a1] (.bool r1) [] := by
  refine @con_of2 O hO P hP 65 Go.Proofs.Try.f65 Go.Proofs.Try.func65 (by kernel_rfl) _ _ _ _ ?_
  unfold F_impl_isForm at h
  replace h := startb h
  obtain ⟨r, hr⟩ : ∃ r, r = r1 := ⟨_, rfl⟩
  rw [← hr] at h
  cbv
  refine Wp.mk ?_
  obtain ⟨v1, e_1, h⟩ := callb h
  refine ⟨[], _, _, _, _, false, c_impl_within hO hP e_1, ?_⟩
  cbv
  refine ⟨(by (repeat' apply And.intro) <;> first | trivial | rfl), (by (repeat' apply And.intro) <;> first | trivial | rfl), ?_⟩
  replace h := (endb h).trans hr
  cases h
  ((repeat' apply And.intro) <;> first | trivial | rfl | assumption | (simp only [oo hO, ff, sl]; done) | (simp only [oo hO, ff, sl]; omega) | (intro i hi; first | (cbv <;> (repeat' apply And.intro) <;> first | trivial | rfl) | (simp only [oo hO, ff, sl] at hi ⊢; (try simp only [gg, sl] at hi ⊢); (repeat' split) <;> first | (exfalso; omega) | (exfalso; exact absurd (Nat.lt_of_lt_of_le hi (Nat.min_le_left _ _)) (by assumption)) | (cbv <;> (repeat' apply And.intro) <;> first | trivial | rfl) | (rename_i q; subst q; cbv <;> (repeat' apply And.intro) <;> first | trivial | rfl) | (rename_i q _; subst q; cbv <;> (repeat' apply And.intro) <;> first | trivial | rfl))))

theorem c_impl_Filter_step {O : Ops} (hO : O = std) {P : Program} (hP : P = Prg) {a1 : GFilter} {a2 : Int} {a3 : Bool} {a4 : GMemory} {a5 : Nat} {r1 : Nat} {r2 : GMemory} (h : F_impl_Filter_step O a1 a2 a3 a4 a5 = some (r1, r2)) :
    Con P 121 [] [.agg [.flt .f32 a1.B0, .flt .f32 a1.B1, .flt .f32 a1.B2, .flt .f32 a1.A1, .flt .f32 a1.A2], .int .i64 a2, .bool a3, .agg [.flt .f32 a4.A, .flt .f32 a4.B, .flt .f32 a4.C, .flt .f32 a4.D], .flt .f32 a5] (.tup [.flt .f32 r1, .agg [.flt .f32 r2.A, .flt .f32 r2.B, .flt .f32 r2.C, .flt .f32 r2.D]]) [] := by
  refine @con_of2 O hO P hP 121 Go.Proofs.Try.f121 Go.Proofs.Try.func121 (by kernel_rfl) _ _ _ _ ?_
  unfold F_impl_Filter_step at h
  replace h := startb h
  obtain ⟨r, hr⟩ : ∃ r, r = (r1, r2) := ⟨_, rfl⟩
  rw [← hr] at h
  cbv
  refine Wp.mk ?_
  refine ⟨fun b_1 => ?_, fun b_1 => ?_⟩
  · cbv
    replace h := condt h (by first | exact b_1 | (simp only [oo hO, sl] at b_1 ⊢; exact b_1))
    obtain ⟨v1, e_2, h⟩ := callb h
    refine ⟨[], _, _, _, _, false, c_impl_flushed hO hP e_2, ?_⟩
    cbv
    refine ⟨(by (repeat' apply And.intro) <;> first | trivial | rfl), (by (repeat' apply And.intro) <;> first | trivial | rfl), ?_⟩
    obtain ⟨v2, e_3, h⟩ := callb h
    refine ⟨[], _, _, _, _, false, c_impl_flushed hO hP e_3, ?_⟩
    cbv
    refine ⟨(by (repeat' apply And.intro) <;> first | trivial | rfl), (by (repeat' apply And.intro) <;> first | trivial | rfl), ?_⟩
    obtain ⟨v3, e_4, h⟩ := callb h
    refine ⟨[], _, _, _, _, false, c_impl_flushed hO hP e_4, ?_⟩
    cbv
    refine ⟨(by (repeat' apply And.intro) <;> first | trivial | rfl), (by (repeat' apply And.intro) <;> first | trivial | rfl), ?_⟩
    obtain ⟨v4, e_5, h⟩ := callb h
    refine ⟨[], _, _, _, _, false, c_impl_flushed hO hP e_5, ?_⟩
    cbv
    refine ⟨(by (repeat' apply And.intro) <;> first | trivial | rfl), (by (repeat' apply And.intro) <;> first | trivial | rfl), ?_⟩
    obtain ⟨v5, e_6, h⟩ := callb h
    refine ⟨[], _, _, _, _, false, c_impl_flushed hO hP e_6, ?_⟩
    cbv
    refine ⟨(by (repeat' apply And.intro) <;> first | trivial | rfl), (by (repeat' apply And.intro) <;> first | trivial | rfl), ?_⟩
    replace h := (endb h).trans hr
    cases h
    ((repeat' apply And.intro) <;> first | trivial | rfl | assumption | (simp only [oo hO, ff, sl]; done) | (simp only [oo hO, ff, sl]; omega) | (intro i hi; first | (cbv <;> (repeat' apply And.intro) <;> first | trivial | rfl) | (simp only [oo hO, ff, sl] at hi ⊢; (try simp only [gg, sl] at hi ⊢); (repeat' split) <;> first | (exfalso; omega) | (exfalso; exact absurd (Nat.lt_of_lt_of_le hi (Nat.min_le_left _ _)) (by assumption)) | (cbv <;> (repeat' apply And.intro) <;> first | trivial | rfl) | (rename_i q; subst q; cbv <;> (repeat' apply And.intro) <;> first | trivial | rfl) | (rename_i q _; subst q; cbv <;> (repeat' apply And.intro) <;> first | trivial | rfl))))
  cbv
  replace h := condf h (by first | exact b_1 | (simp only [oo hO, sl] at b_1 ⊢; exact b_1))
  refine ⟨fun b_7 => ?_, fun b_7 => ?_⟩
  · cbv
    replace h := condt h (by first | exact b_7 | (simp only [oo hO, sl] at b_7 ⊢; exact b_7))
    obtain ⟨v6, e_8, h⟩ := callb h
    refine ⟨[], _, _, _, _, false, c_impl_flushed hO hP e_8, ?_⟩
    cbv
    refine ⟨(by (repeat' apply And.intro) <;> first | trivial | rfl), (by (repeat' apply And.intro) <;> first | trivial | rfl), ?_⟩
    obtain ⟨v7, e_9, h⟩ := callb h
    refine ⟨[], _, _, _, _, false, c_impl_flushed hO hP e_9, ?_⟩
    cbv
    refine ⟨(by (repeat' apply And.intro) <;> first | trivial | rfl), (by (repeat' apply And.intro) <;> first | trivial | rfl), ?_⟩
    obtain ⟨v8, e_10, h⟩ := callb h
    refine ⟨[], _, _, _, _, false, c_impl_flushed hO hP e_10, ?_⟩
    cbv
    refine ⟨(by (repeat' apply And.intro) <;> first | trivial | rfl), (by (repeat' apply And.intro) <;> first | trivial | rfl), ?_⟩
    obtain ⟨v9, e_11, h⟩ := callb h
    refine ⟨[], _, _, _, _, false, c_impl_flushed hO hP e_11, ?_⟩
    cbv
    refine ⟨(by (repeat' apply And.intro) <;> first | trivial | rfl), (by (repeat' apply And.intro) <;> first | trivial | rfl), ?_⟩
    obtain ⟨v10, e_12, h⟩ := callb h
    refine ⟨[], _, _, _, _, false, c_impl_flushed hO hP e_12, ?_⟩
    cbv
    refine ⟨(by (repeat' apply And.intro) <;> first | trivial | rfl), (by (repeat' apply And.intro) <;> first | trivial | rfl), ?_⟩
    replace h := (endb h).trans hr
    cases h
    ((repeat' apply And.intro) <;> first | trivial | rfl | assumption | (simp only [oo hO, ff, sl]; done) | (simp only [oo hO, ff, sl]; omega) | (intro i hi; first | (cbv <;> (repeat' apply And.intro) <;> first | trivial | rfl) | (simp only [oo hO, ff, sl] at hi ⊢; (try simp only [gg, sl] at hi ⊢); (repeat' split) <;> first | (exfalso; omega) | (exfalso; exact absurd (Nat.lt_of_lt_of_le hi (Nat.min_le_left _ _)) (by assumption)) | (cbv <;> (repeat' apply And.intro) <;> first | trivial | rfl) | (rename_i q; subst q; cbv <;> (repeat' apply And.intro) <;> first | trivial | rfl) | (rename_i q _; subst q; cbv <;> (repeat' apply And.intro) <;> first | trivial | rfl))))
  cbv
  replace h := condf h (by first | exact b_7 | (simp only [oo hO, sl] at b_7 ⊢; exact b_7))
  obtain ⟨v11, e_13, h⟩ := callb h
  refine ⟨[], _, _, _, _, false, c_impl_flushed hO hP e_13, ?_⟩
  cbv
  refine ⟨(by (repeat' apply And.intro) <;> first | trivial | rfl), (by (repeat' apply And.intro) <;> first | trivial | rfl), ?_⟩
  obtain ⟨v12, e_14, h⟩ := callb h
  refine ⟨[], _, _, _, _, false, c_impl_flushed hO hP e_14, ?_⟩
  cbv
  refine ⟨(by (repeat' apply And.intro) <;> first | trivial | rfl), (by (repeat' apply And.intro) <;> first | trivial | rfl), ?_⟩
  obtain ⟨v13, e_15, h⟩ := callb h
  refine ⟨[], _, _, _, _, false, c_impl_flushed hO hP e_15, ?_⟩
  cbv
  refine ⟨(by (repeat' apply And.intro) <;> first | trivial | rfl), (by (repeat' apply And.intro) <;> first | trivial | rfl), ?_⟩
  obtain ⟨v14, e_16, h⟩ := callb h
  refine ⟨[], _, _, _, _, false, c_impl_flushed hO hP e_16, ?_⟩
  cbv
  refine ⟨(by (repeat' apply And.intro) <;> first | trivial | rfl), (by (repeat' apply And.intro) <;> first | trivial | rfl), ?_⟩
  obtain ⟨v15, e_17, h⟩ := callb h
  refine ⟨[], _, _, _, _, false, c_impl_flushed hO hP e_17, ?_⟩
  cbv
  refine ⟨(by (repeat' apply And.intro) <;> first | trivial | rfl), (by (repeat' apply And.intro) <;> first | trivial | rfl), ?_⟩
  obtain ⟨v16, e_18, h⟩ := callb h
  refine ⟨[], _, _, _, _, false, c_impl_flushed hO hP e_18, ?_⟩
  cbv
  refine ⟨(by (repeat' apply And.intro) <;> first | trivial | rfl), (by (repeat' apply And.intro) <;> first | trivial | rfl), ?_⟩
  replace h := (endb h).trans hr
  cases h
  ((repeat' apply And.intro) <;> first | trivial | rfl | assumption | (simp only [oo hO, ff, sl]; done) | (simp only [oo hO, ff, sl]; omega) | (intro i hi; first | (cbv <;> (repeat' apply And.intro) <;> first | trivial | rfl) | (simp only [oo hO, ff, sl] at hi ⊢; (try simp only [gg, sl] at hi ⊢); (repeat' split) <;> first | (exfalso; omega) | (exfalso; exact absurd (Nat.lt_of_lt_of_le hi (Nat.min_le_left _ _)) (by assumption)) | (cbv <;> (repeat' apply And.intro) <;> first | trivial | rfl) | (rename_i q; subst q; cbv <;> (repeat' apply And.intro) <;> first | trivial | rfl) | (rename_i q _; subst q; cbv <;> (repeat' apply And.intro) <;> first | trivial | rfl))))

theorem c_impl_Filter_run {O : Ops} (hO : O = std) {P : Program} (hP : P = Prg) {a1 : GFilter} {a2 : Int} {a3 : Bool} {a4 : GMemory} {a5 : (List Nat)} {r1 : (List Nat)} {r2 : GMemory} (h : F_impl_Filter_run O a1 a2 a3 a4 a5 = some (r1, r2)) :
    Con P 68 [] [.agg [.flt .f32 a1.B0, .flt .f32 a1.B1, .flt .f32 a1.B2, .flt .f32 a1.A1, .flt .f32 a1.A2], .int .i64 a2, .bool a3, .agg [.flt .f32 a4.A, .flt .f32 a4.B, .flt .f32 a4.C, .flt .f32 a4.D], .sl false false 1 (O.llen a5) (fun i1 => [.flt .f32 (O.lget a5 i1 0)])] (.tup [.osl 0 1 0 (O.llen r1), .agg [.flt .f32 r2.A, .flt .f32 r2.B, .flt .f32 r2.C, .flt .f32 r2.D]]) [.arr true true 1 (O.llen r1) (fun i1 => [.flt .f32 (O.lget r1 i1 0)])] := by
  refine @con_of2 O hO P hP 68 Go.Proofs.Try.f68 Go.Proofs.Try.func68 (by kernel_rfl) _ _ _ _ ?_
  unfold F_impl_Filter_run at h
  replace h := startb h
  obtain ⟨r, hr⟩ : ∃ r, r = (r1, r2) := ⟨_, rfl⟩
  rw [← hr] at h
  cbv
  refine Wp.mk ?_
  obtain ⟨R_1, hR_1, h⟩ := loopb h
  refine ⟨{ x : Nat × (List Nat) × Int × Nat × Nat × Nat × Nat // (F_impl_Filter_run_l0 O a1 a2 a3 a5 x.1 x.2.1 x.2.2.1 x.2.2.2.1 x.2.2.2.2.1 x.2.2.2.2.2.1 x.2.2.2.2.2.2).bind R_1 = some r }, fun x => ⟨[(1, .int .i64 a2), (2, .bool a3), (5, .ptr 15 0), (8, .ptr 31 0), (11, .ptr 47 0), (12, .osl 63 1 0 (O.llen x.1.2.1)), (17, .sl false false 1 (O.llen a5) (fun i1 => [.flt .f32 (O.lget a5 i1 0)])), (18, .int .i64 (O.ofN (O.llen a5))), (19, .int .i64 x.1.2.2.1)], [(15, .box [.flt .f32 a1.B0, .flt .f32 a1.B1, .flt .f32 a1.B2, .flt .f32 a1.A1, .flt .f32 a1.A2]), (31, .box [.flt .f32 x.1.2.2.2.1, .flt .f32 x.1.2.2.2.2.1, .flt .f32 x.1.2.2.2.2.2.1, .flt .f32 x.1.2.2.2.2.2.2]), (47, .box [.flt .f32 0, .flt .f32 0, .flt .f32 0, .flt .f32 0]), (63, .arr true true 1 (O.llen x.1.2.1) (fun i1 => [.flt .f32 (O.lget x.1.2.1 i1 0)]))]⟩, fun x => x.1.1, ⟨(KK, ([] : List Nat), 0, a4.A, a4.B, a4.C, a4.D), h⟩, ?_, ?_⟩
  · (cbv <;> ((repeat' apply And.intro) <;> first | trivial | rfl | assumption | (simp only [oo hO, ff, sl]; done) | (simp only [oo hO, ff, sl]; omega) | (intro i hi; first | (cbv <;> (repeat' apply And.intro) <;> first | trivial | rfl) | (simp only [oo hO, ff, sl] at hi ⊢; (try simp only [gg, sl] at hi ⊢); (repeat' split) <;> first | (exfalso; omega) | (exfalso; exact absurd (Nat.lt_of_lt_of_le hi (Nat.min_le_left _ _)) (by assumption)) | (cbv <;> (repeat' apply And.intro) <;> first | trivial | rfl) | (rename_i q; subst q; cbv <;> (repeat' apply And.intro) <;> first | trivial | rfl) | (rename_i q _; subst q; cbv <;> (repeat' apply And.intro) <;> first | trivial | rfl)))))
  rintro ⟨⟨k_2, p3, p4, p5, p6, p7, p8⟩, h⟩
  rcases k_2 with _ | k_2
  · cases noneb rfl h
  rw [F_impl_Filter_run_l0.eq_2] at h
  cbv
  refine ⟨fun b_3 => ?_, fun b_3 => ?_⟩
  rotate_left
  · cbv
    replace h := condf h (by first | exact b_3 | (simp only [oo hO, sl] at b_3 ⊢; exact b_3))
    replace h := leafb h hR_1
    replace h := (endb h).trans hr
    cases h
    ((repeat' apply And.intro) <;> first | trivial | rfl | assumption | (simp only [oo hO, ff, sl]; done) | (simp only [oo hO, ff, sl]; omega) | (intro i hi; first | (cbv <;> (repeat' apply And.intro) <;> first | trivial | rfl) | (simp only [oo hO, ff, sl] at hi ⊢; (try simp only [gg, sl] at hi ⊢); (repeat' split) <;> first | (exfalso; omega) | (exfalso; exact absurd (Nat.lt_of_lt_of_le hi (Nat.min_le_left _ _)) (by assumption)) | (cbv <;> (repeat' apply And.intro) <;> first | trivial | rfl) | (rename_i q; subst q; cbv <;> (repeat' apply And.intro) <;> first | trivial | rfl) | (rename_i q _; subst q; cbv <;> (repeat' apply And.intro) <;> first | trivial | rfl))))
  cbv
  replace h := condt h (by first | exact b_3 | (simp only [oo hO, sl] at b_3 ⊢; exact b_3))
  obtain ⟨g_4, h⟩ := gdb h
  refine ⟨(by first | exact g_4 | (simp only [oo hO] at g_4 ⊢; simp only [sl] at g_4 ⊢; omega)), ?_⟩
  obtain ⟨⟨v1, v2⟩, e_5, h⟩ := callb h
  refine ⟨[], _, _, _, _, false, c_impl_Filter_step hO hP e_5, ?_⟩
  cbv
  refine ⟨(by (repeat' apply And.intro) <;> first | trivial | rfl), (by (repeat' apply And.intro) <;> first | trivial | rfl), ?_⟩
  obtain ⟨g_6, h⟩ := gdb h
  refine ⟨(by first | trivial | (simp only [oo hO, sl]; omega) | (simp only [oo hO, sl]; done)), (by first | exact g_6 | (simp only [oo hO] at g_6 ⊢; simp only [sl] at g_6 ⊢; omega)), (by first | trivial | (simp only [oo hO, sl]; omega) | (simp only [oo hO, sl]; done)), ?_⟩
  obtain ⟨g_7, h⟩ := gdb h
  refine ⟨(by first | exact g_7 | (simp only [oo hO] at g_7 ⊢; simp only [sl] at g_7 ⊢; omega)), ?_⟩
  refine ⟨⟨(k_2, (O.lapp p3 ([v1] : List Nat)), (O.iadd p4 1), v2.A, v2.B, v2.C, v2.D), h⟩, ?_, ?_⟩
  · (cbv <;> ((repeat' apply And.intro) <;> first | trivial | rfl | assumption | (simp only [oo hO, ff, sl]; done) | (simp only [oo hO, ff, sl]; omega) | (intro i hi; first | (cbv <;> (repeat' apply And.intro) <;> first | trivial | rfl) | (simp only [oo hO, ff, sl] at hi ⊢; (try simp only [gg, sl] at hi ⊢); (repeat' split) <;> first | (exfalso; omega) | (exfalso; exact absurd (Nat.lt_of_lt_of_le hi (Nat.min_le_left _ _)) (by assumption)) | (cbv <;> (repeat' apply And.intro) <;> first | trivial | rfl) | (rename_i q; subst q; cbv <;> (repeat' apply And.intro) <;> first | trivial | rfl) | (rename_i q _; subst q; cbv <;> (repeat' apply And.intro) <;> first | trivial | rfl)))))
  · exact Nat.lt_succ_self k_2

theorem c_impl_RunFilters {O : Ops} (hO : O = std) {P : Program} (hP : P = Prg) {a1 : (List GFilter)} {a2 : Int} {a3 : Bool} {a4 : (List GMemory)} {a5 : (List Nat)} {r1 : (List Nat)} {r2 : (List GMemory)} {r3 : Bool} (h : F_impl_RunFilters O a1 a2 a3 a4 a5 = some (r1, r2, r3)) :
    Con P 14 [] [.sl false false 5 (O.llen a1) (fun i1 => [.flt .f32 ((O.lget a1 i1 (GFilter.mk 0 0 0 0 0)).B0), .flt .f32 ((O.lget a1 i1 (GFilter.mk 0 0 0 0 0)).B1), .flt .f32 ((O.lget a1 i1 (GFilter.mk 0 0 0 0 0)).B2), .flt .f32 ((O.lget a1 i1 (GFilter.mk 0 0 0 0 0)).A1), .flt .f32 ((O.lget a1 i1 (GFilter.mk 0 0 0 0 0)).A2)]), .int .i64 a2, .bool a3, .sl false false 4 (O.llen a4) (fun i1 => [.flt .f32 ((O.lget a4 i1 (GMemory.mk 0 0 0 0)).A), .flt .f32 ((O.lget a4 i1 (GMemory.mk 0 0 0 0)).B), .flt .f32 ((O.lget a4 i1 (GMemory.mk 0 0 0 0)).C), .flt .f32 ((O.lget a4 i1 (GMemory.mk 0 0 0 0)).D)]), .sl false false 1 (O.llen a5) (fun i1 => [.flt .f32 (O.lget a5 i1 0)])] (.tup [.osl 0 1 0 (O.llen r1), .osl 1 4 0 (O.llen r2), .bool r3]) [.arr true false 1 (O.llen r1) (fun i1 => [.flt .f32 (O.lget r1 i1 0)]), .arr true true 4 (O.llen r2) (fun i1 => [.flt .f32 ((O.lget r2 i1 (GMemory.mk 0 0 0 0)).A), .flt .f32 ((O.lget r2 i1 (GMemory.mk 0 0 0 0)).B), .flt .f32 ((O.lget r2 i1 (GMemory.mk 0 0 0 0)).C), .flt .f32 ((O.lget r2 i1 (GMemory.mk 0 0 0 0)).D)])] := by
  refine @con_of2 O hO P hP 14 Go.Proofs.Try.f14 Go.Proofs.Try.func14 (by kernel_rfl) _ _ _ _ ?_
  unfold F_impl_RunFilters at h
  replace h := startb h
  obtain ⟨r, hr⟩ : ∃ r, r = (r1, r2, r3) := ⟨_, rfl⟩
  rw [← hr] at h
  cbv
  refine Wp.mk ?_
  obtain ⟨v1, e_1, h⟩ := callb h
  refine ⟨[], _, _, _, _, false, c_impl_isForm hO hP e_1, ?_⟩
  cbv
  refine ⟨(by (repeat' apply And.intro) <;> first | trivial | rfl), (by (repeat' apply And.intro) <;> first | trivial | rfl), ?_⟩
  refine ⟨fun b_2 => ?_, fun b_2 => ?_⟩
  rotate_left
  · cbv
    replace h := condt h (by first | exact b_2 | (simp only [oo hO, sl] at b_2 ⊢; exact b_2))
    refine ⟨?_, ?_⟩
    · first | (intro q; cases q; done) | trivial
    try intro _
    cbv
    refine ⟨?_, ?_⟩
    · first | (intro q; cases q; done) | trivial
    try intro _
    cbv
    refine ⟨?_, ?_⟩
    rotate_left
    · first | (intro q; cases q; done) | trivial
    try intro _
    cbv
    refine ⟨?_, ?_⟩
    · first | (intro q; cases q; done) | trivial
    try intro _
    cbv
    refine ⟨?_, ?_⟩
    · first | (intro q; cases q; done) | trivial
    try intro _
    cbv
    refine ⟨?_, ?_⟩
    · first | (intro q; cases q; done) | trivial
    try intro _
    cbv
    refine ⟨?_, ?_⟩
    rotate_left
    · first | (intro q; cases q; done) | trivial
    try intro _
    cbv
    refine ⟨?_, ?_⟩
    · first | (intro q; cases q; done) | trivial
    try intro _
    cbv
    refine ⟨?_, ?_⟩
    · first | (intro q; cases q; done) | trivial
    try intro _
    cbv
    refine ⟨?_, ?_⟩
    · first | (intro q; cases q; done) | trivial
    try intro _
    cbv
    refine ⟨?_, ?_⟩
    · first | (intro q; cases q; done) | trivial
    try intro _
    cbv
    refine ⟨?_, ?_⟩
    · first | (intro q; cases q; done) | trivial
    try intro _
    cbv
    refine ⟨?_, ?_⟩
    rotate_left
    · first | (intro q; cases q; done) | trivial
    try intro _
    cbv
    refine ⟨?_, ?_⟩
    rotate_left
    · first | (intro q; cases q; done) | trivial
    try intro _
    cbv
    replace h := (endb h).trans hr
    cases h
    ((repeat' apply And.intro) <;> first | trivial | rfl | assumption | (simp only [oo hO, ff, sl]; done) | (simp only [oo hO, ff, sl]; omega) | (intro i hi; first | (cbv <;> (repeat' apply And.intro) <;> first | trivial | rfl) | (simp only [oo hO, ff, sl] at hi ⊢; (try simp only [gg, sl] at hi ⊢); (repeat' split) <;> first | (exfalso; omega) | (exfalso; exact absurd (Nat.lt_of_lt_of_le hi (Nat.min_le_left _ _)) (by assumption)) | (cbv <;> (repeat' apply And.intro) <;> first | trivial | rfl) | (rename_i q; subst q; cbv <;> (repeat' apply And.intro) <;> first | trivial | rfl) | (rename_i q _; subst q; cbv <;> (repeat' apply And.intro) <;> first | trivial | rfl))))
  cbv
  replace h := condf h (by first | exact b_2 | (simp only [oo hO, sl] at b_2 ⊢; exact b_2))
  refine ⟨?_, ?_⟩
  rotate_left
  · first | (intro q; cases q; done) | trivial
  try intro _
  cbv
  obtain ⟨v2, e_3, h⟩ := callb h
  refine ⟨[], _, _, _, _, false, c_impl_areSamples hO hP e_3, ?_⟩
  cbv
  refine ⟨(by (repeat' apply And.intro) <;> first | trivial | rfl | (intro i hi; first | (cbv <;> (repeat' apply And.intro) <;> first | trivial | rfl) | (simp only [oo hO, sl]; cbv <;> (repeat' apply And.intro) <;> first | trivial | rfl))), (by (repeat' apply And.intro) <;> first | trivial | rfl), ?_⟩
  refine ⟨?_, ?_⟩
  rotate_left
  · first | (intro q; cases q; done) | trivial
  try intro _
  cbv
  refine ⟨?_, ?_⟩
  · first | (intro q; cases q; done) | trivial
  try intro _
  cbv
  refine ⟨fun b_4 => ?_, fun b_4 => ?_⟩
  rotate_left
  · cbv
    replace h := condt h (by first | exact b_4 | (simp only [oo hO, sl] at b_4 ⊢; exact b_4))
    refine ⟨?_, ?_⟩
    · first | (intro q; cases q; done) | trivial
    try intro _
    cbv
    refine ⟨?_, ?_⟩
    · first | (intro q; cases q; done) | trivial
    try intro _
    cbv
    refine ⟨?_, ?_⟩
    rotate_left
    · first | (intro q; cases q; done) | trivial
    try intro _
    cbv
    refine ⟨?_, ?_⟩
    · first | (intro q; cases q; done) | trivial
    try intro _
    cbv
    refine ⟨?_, ?_⟩
    · first | (intro q; cases q; done) | trivial
    try intro _
    cbv
    refine ⟨?_, ?_⟩
    · first | (intro q; cases q; done) | trivial
    try intro _
    cbv
    refine ⟨?_, ?_⟩
    · first | (intro q; cases q; done) | trivial
    try intro _
    cbv
    refine ⟨?_, ?_⟩
    · first | (intro q; cases q; done) | trivial
    try intro _
    cbv
    refine ⟨?_, ?_⟩
    rotate_left
    · first | (intro q; cases q; done) | trivial
    try intro _
    cbv
    refine ⟨?_, ?_⟩
    rotate_left
    · first | (intro q; cases q; done) | trivial
    try intro _
    cbv
    replace h := (endb h).trans hr
    cases h
    ((repeat' apply And.intro) <;> first | trivial | rfl | assumption | (simp only [oo hO, ff, sl]; done) | (simp only [oo hO, ff, sl]; omega) | (intro i hi; first | (cbv <;> (repeat' apply And.intro) <;> first | trivial | rfl) | (simp only [oo hO, ff, sl] at hi ⊢; (try simp only [gg, sl] at hi ⊢); (repeat' split) <;> first | (exfalso; omega) | (exfalso; exact absurd (Nat.lt_of_lt_of_le hi (Nat.min_le_left _ _)) (by assumption)) | (cbv <;> (repeat' apply And.intro) <;> first | trivial | rfl) | (rename_i q; subst q; cbv <;> (repeat' apply And.intro) <;> first | trivial | rfl) | (rename_i q _; subst q; cbv <;> (repeat' apply And.intro) <;> first | trivial | rfl))))
  cbv
  replace h := condf h (by first | exact b_4 | (simp only [oo hO, sl] at b_4 ⊢; exact b_4))
  refine ⟨?_, ?_⟩
  rotate_left
  · first | (intro q; cases q; done) | trivial
  try intro _
  cbv
  refine ⟨?_, ?_⟩
  rotate_left
  · first | (intro q; cases q; done) | trivial
  try intro _
  cbv
  refine ⟨?_, ?_⟩
  · first | (intro q; cases q; done) | trivial
  try intro _
  cbv
  refine ⟨fun b_5 => ?_, fun b_5 => ?_⟩
  rotate_left
  · cbv
    replace h := condt h (by first | exact b_5 | (simp only [oo hO, sl] at b_5 ⊢; exact b_5))
    refine ⟨?_, ?_⟩
    · first | (intro q; cases q; done) | trivial
    try intro _
    cbv
    refine ⟨?_, ?_⟩
    · first | (intro q; cases q; done) | trivial
    try intro _
    cbv
    refine ⟨?_, ?_⟩
    · first | (intro q; cases q; done) | trivial
    try intro _
    cbv
    refine ⟨?_, ?_⟩
    · first | (intro q; cases q; done) | trivial
    try intro _
    cbv
    refine ⟨?_, ?_⟩
    rotate_left
    · first | (intro q; cases q; done) | trivial
    try intro _
    cbv
    refine ⟨?_, ?_⟩
    rotate_left
    · first | (intro q; cases q; done) | trivial
    try intro _
    cbv
    replace h := (endb h).trans hr
    cases h
    ((repeat' apply And.intro) <;> first | trivial | rfl | assumption | (simp only [oo hO, ff, sl]; done) | (simp only [oo hO, ff, sl]; omega) | (intro i hi; first | (cbv <;> (repeat' apply And.intro) <;> first | trivial | rfl) | (simp only [oo hO, ff, sl] at hi ⊢; (try simp only [gg, sl] at hi ⊢); (repeat' split) <;> first | (exfalso; omega) | (exfalso; exact absurd (Nat.lt_of_lt_of_le hi (Nat.min_le_left _ _)) (by assumption)) | (cbv <;> (repeat' apply And.intro) <;> first | trivial | rfl) | (rename_i q; subst q; cbv <;> (repeat' apply And.intro) <;> first | trivial | rfl) | (rename_i q _; subst q; cbv <;> (repeat' apply And.intro) <;> first | trivial | rfl))))
  cbv
  replace h := condf h (by first | exact b_5 | (simp only [oo hO, sl] at b_5 ⊢; exact b_5))
  refine ⟨?_, ?_⟩
  rotate_left
  · first | (intro q; cases q; done) | trivial
  try intro _
  cbv
  refine ⟨?_, ?_⟩
  rotate_left
  · first | (intro q; cases q; done) | trivial
  try intro _
  cbv
  refine ⟨?_, ?_⟩
  rotate_left
  · first | (intro q; cases q; done) | trivial
  try intro _
  cbv
  refine ⟨?_, ?_⟩
  rotate_left
  · first | (intro q; cases q; done) | trivial
  try intro _
  cbv
  refine ⟨?_, ?_⟩
  · first | (intro q; cases q; done) | trivial
  try intro _
  cbv
  refine ⟨fun b_6 => ?_, fun b_6 => ?_⟩
  · cbv
    replace h := condt h (by first | exact b_6 | (simp only [oo hO, sl] at b_6 ⊢; exact b_6))
    replace h := (endb h).trans hr
    cases h
    ((repeat' apply And.intro) <;> first | trivial | rfl | assumption | (simp only [oo hO, ff, sl]; done) | (simp only [oo hO, ff, sl]; omega) | (intro i hi; first | (cbv <;> (repeat' apply And.intro) <;> first | trivial | rfl) | (simp only [oo hO, ff, sl] at hi ⊢; (try simp only [gg, sl] at hi ⊢); (repeat' split) <;> first | (exfalso; omega) | (exfalso; exact absurd (Nat.lt_of_lt_of_le hi (Nat.min_le_left _ _)) (by assumption)) | (cbv <;> (repeat' apply And.intro) <;> first | trivial | rfl) | (rename_i q; subst q; cbv <;> (repeat' apply And.intro) <;> first | trivial | rfl) | (rename_i q _; subst q; cbv <;> (repeat' apply And.intro) <;> first | trivial | rfl))))
  cbv
  replace h := condf h (by first | exact b_6 | (simp only [oo hO, sl] at b_6 ⊢; exact b_6))
  obtain ⟨v3, e_7, h⟩ := callb h
  refine ⟨[], _, _, _, _, true, c_impl_copyNumbers hO hP e_7, ?_⟩
  cbv
  refine ⟨(by (repeat' apply And.intro) <;> first | trivial | rfl | (intro i hi; first | (cbv <;> (repeat' apply And.intro) <;> first | trivial | rfl) | (simp only [oo hO, sl]; cbv <;> (repeat' apply And.intro) <;> first | trivial | rfl))), (by (repeat' apply And.intro) <;> first | trivial | rfl), ?_⟩
  obtain ⟨R_8, hR_8, h⟩ := loopb h
  refine ⟨{ x : Nat × (List Nat) × (List GMemory) × Int // (F_impl_RunFilters_l0 O a1 a2 a3 a4 x.1 x.2.1 x.2.2.1 x.2.2.2).bind R_8 = some r }, fun x => ⟨[(1, .int .i64 a2), (2, .bool a3), (3, .sl false false 4 (O.llen a4) (fun i1 => [.flt .f32 ((O.lget a4 i1 (GMemory.mk 0 0 0 0)).A), .flt .f32 ((O.lget a4 i1 (GMemory.mk 0 0 0 0)).B), .flt .f32 ((O.lget a4 i1 (GMemory.mk 0 0 0 0)).C), .flt .f32 ((O.lget a4 i1 (GMemory.mk 0 0 0 0)).D)])), (13, .osl 15 1 0 (O.llen x.1.2.1)), (14, .osl 31 4 0 (O.llen x.1.2.2.1)), (41, .sl false false 5 (O.llen a1) (fun i1 => [.flt .f32 ((O.lget a1 i1 (GFilter.mk 0 0 0 0 0)).B0), .flt .f32 ((O.lget a1 i1 (GFilter.mk 0 0 0 0 0)).B1), .flt .f32 ((O.lget a1 i1 (GFilter.mk 0 0 0 0 0)).B2), .flt .f32 ((O.lget a1 i1 (GFilter.mk 0 0 0 0 0)).A1), .flt .f32 ((O.lget a1 i1 (GFilter.mk 0 0 0 0 0)).A2)])), (42, .int .i64 (O.ofN (O.llen a1))), (43, .int .i64 x.1.2.2.2)], [(15, .arr true false 1 (O.llen x.1.2.1) (fun i1 => [.flt .f32 (O.lget x.1.2.1 i1 0)])), (31, .arr true true 4 (O.llen x.1.2.2.1) (fun i1 => [.flt .f32 ((O.lget x.1.2.2.1 i1 (GMemory.mk 0 0 0 0)).A), .flt .f32 ((O.lget x.1.2.2.1 i1 (GMemory.mk 0 0 0 0)).B), .flt .f32 ((O.lget x.1.2.2.1 i1 (GMemory.mk 0 0 0 0)).C), .flt .f32 ((O.lget x.1.2.2.1 i1 (GMemory.mk 0 0 0 0)).D)]))]⟩, fun x => x.1.1, ⟨(KK, v3, ([] : List GMemory), 0), h⟩, ?_, ?_⟩
  · (cbv <;> ((repeat' apply And.intro) <;> first | trivial | rfl | assumption | (simp only [oo hO, ff, sl]; done) | (simp only [oo hO, ff, sl]; omega) | (intro i hi; first | (cbv <;> (repeat' apply And.intro) <;> first | trivial | rfl) | (simp only [oo hO, ff, sl] at hi ⊢; (try simp only [gg, sl] at hi ⊢); (repeat' split) <;> first | (exfalso; omega) | (exfalso; exact absurd (Nat.lt_of_lt_of_le hi (Nat.min_le_left _ _)) (by assumption)) | (cbv <;> (repeat' apply And.intro) <;> first | trivial | rfl) | (rename_i q; subst q; cbv <;> (repeat' apply And.intro) <;> first | trivial | rfl) | (rename_i q _; subst q; cbv <;> (repeat' apply And.intro) <;> first | trivial | rfl)))))
  rintro ⟨⟨k_9, p6, p7, p8⟩, h⟩
  rcases k_9 with _ | k_9
  · cases noneb rfl h
  rw [F_impl_RunFilters_l0.eq_2] at h
  cbv
  refine ⟨fun b_10 => ?_, fun b_10 => ?_⟩
  rotate_left
  · cbv
    replace h := condf h (by first | exact b_10 | (simp only [oo hO, sl] at b_10 ⊢; exact b_10))
    replace h := leafb h hR_8
    replace h := (endb h).trans hr
    cases h
    ((repeat' apply And.intro) <;> first | trivial | rfl | assumption | (simp only [oo hO, ff, sl]; done) | (simp only [oo hO, ff, sl]; omega) | (intro i hi; first | (cbv <;> (repeat' apply And.intro) <;> first | trivial | rfl) | (simp only [oo hO, ff, sl] at hi ⊢; (try simp only [gg, sl] at hi ⊢); (repeat' split) <;> first | (exfalso; omega) | (exfalso; exact absurd (Nat.lt_of_lt_of_le hi (Nat.min_le_left _ _)) (by assumption)) | (cbv <;> (repeat' apply And.intro) <;> first | trivial | rfl) | (rename_i q; subst q; cbv <;> (repeat' apply And.intro) <;> first | trivial | rfl) | (rename_i q _; subst q; cbv <;> (repeat' apply And.intro) <;> first | trivial | rfl))))
  cbv
  replace h := condt h (by first | exact b_10 | (simp only [oo hO, sl] at b_10 ⊢; exact b_10))
  obtain ⟨g_11, h⟩ := gdb h
  refine ⟨(by first | exact g_11 | (simp only [oo hO] at g_11 ⊢; simp only [sl] at g_11 ⊢; omega)), ?_⟩
  obtain ⟨g_12, h⟩ := gdb h
  refine ⟨(by first | exact g_12 | (simp only [oo hO] at g_12 ⊢; simp only [sl] at g_12 ⊢; omega)), ?_⟩
  obtain ⟨⟨v4, v5⟩, e_13, h⟩ := callb h
  refine ⟨[], _, _, _, _, false, c_impl_Filter_run hO hP e_13, ?_⟩
  cbv
  refine ⟨(by first | trivial | (simp only [oo hO, sl]; omega) | (simp only [oo hO, sl]; done)), ?_⟩
  refine ⟨(by (repeat' apply And.intro) <;> first | trivial | rfl | (intro i hi; first | (cbv <;> (repeat' apply And.intro) <;> first | trivial | rfl) | (simp only [oo hO, sl]; cbv <;> (repeat' apply And.intro) <;> first | trivial | rfl))), (by (repeat' apply And.intro) <;> first | trivial | rfl), ?_⟩
  obtain ⟨g_14, h⟩ := gdb h
  refine ⟨(by first | trivial | (simp only [oo hO, sl]; omega) | (simp only [oo hO, sl]; done)), (by first | exact g_14 | (simp only [oo hO] at g_14 ⊢; simp only [sl] at g_14 ⊢; omega)), (by first | trivial | (simp only [oo hO, sl]; omega) | (simp only [oo hO, sl]; done)), ?_⟩
  obtain ⟨g_15, h⟩ := gdb h
  refine ⟨(by first | exact g_15 | (simp only [oo hO] at g_15 ⊢; simp only [sl] at g_15 ⊢; omega)), ?_⟩
  refine ⟨⟨(k_9, v4, (O.lapp p7 ([v5] : List GMemory)), (O.iadd p8 1)), h⟩, ?_, ?_⟩
  · (cbv <;> ((repeat' apply And.intro) <;> first | trivial | rfl | assumption | (simp only [oo hO, ff, sl]; done) | (simp only [oo hO, ff, sl]; omega) | (intro i hi; first | (cbv <;> (repeat' apply And.intro) <;> first | trivial | rfl) | (simp only [oo hO, ff, sl] at hi ⊢; (try simp only [gg, sl] at hi ⊢); (repeat' split) <;> first | (exfalso; omega) | (exfalso; exact absurd (Nat.lt_of_lt_of_le hi (Nat.min_le_left _ _)) (by assumption)) | (cbv <;> (repeat' apply And.intro) <;> first | trivial | rfl) | (rename_i q; subst q; cbv <;> (repeat' apply And.intro) <;> first | trivial | rfl) | (rename_i q _; subst q; cbv <;> (repeat' apply And.intro) <;> first | trivial | rfl)))))
  · exact Nat.lt_succ_self k_9

theorem c_impl_RunFilter {O : Ops} (hO : O = std) {P : Program} (hP : P = Prg) {a1 : GFilter} {a2 : Int} {a3 : Bool} {a4 : GMemory} {a5 : (List Nat)} {r1 : (List Nat)} {r2 : GMemory} {r3 : Bool} (h : F_impl_RunFilter O a1 a2 a3 a4 a5 = some (r1, r2, r3)) :
    Con P 15 [] [.agg [.flt .f32 a1.B0, .flt .f32 a1.B1, .flt .f32 a1.B2, .flt .f32 a1.A1, .flt .f32 a1.A2], .int .i64 a2, .bool a3, .agg [.flt .f32 a4.A, .flt .f32 a4.B, .flt .f32 a4.C, .flt .f32 a4.D], .sl false false 1 (O.llen a5) (fun i1 => [.flt .f32 (O.lget a5 i1 0)])] (.tup [.osl 0 1 0 (O.llen r1), .agg [.flt .f32 r2.A, .flt .f32 r2.B, .flt .f32 r2.C, .flt .f32 r2.D], .bool r3]) [.arr true true 1 (O.llen r1) (fun i1 => [.flt .f32 (O.lget r1 i1 0)])] := by
  refine @con_of2 O hO P hP 15 Go.Proofs.Try.f15 Go.Proofs.Try.func15 (by kernel_rfl) _ _ _ _ ?_
  unfold F_impl_RunFilter at h
  replace h := startb h
  obtain ⟨r, hr⟩ : ∃ r, r = (r1, r2, r3) := ⟨_, rfl⟩
  rw [← hr] at h
  cbv
  refine Wp.mk ?_
  obtain ⟨v1, e_1, h⟩ := callb h
  refine ⟨[], _, _, _, _, false, c_impl_isForm hO hP e_1, ?_⟩
  cbv
  refine ⟨(by (repeat' apply And.intro) <;> first | trivial | rfl), (by (repeat' apply And.intro) <;> first | trivial | rfl), ?_⟩
  refine ⟨fun b_2 => ?_, fun b_2 => ?_⟩
  rotate_left
  · cbv
    replace h := condt h (by first | exact b_2 | (simp only [oo hO, sl] at b_2 ⊢; exact b_2))
    refine ⟨?_, ?_⟩
    · first | (intro q; cases q; done) | trivial
    try intro _
    cbv
    refine ⟨?_, ?_⟩
    · first | (intro q; cases q; done) | trivial
    try intro _
    cbv
    refine ⟨?_, ?_⟩
    rotate_left
    · first | (intro q; cases q; done) | trivial
    try intro _
    cbv
    refine ⟨?_, ?_⟩
    rotate_left
    · first | (intro q; cases q; done) | trivial
    try intro _
    cbv
    replace h := (endb h).trans hr
    cases h
    ((repeat' apply And.intro) <;> first | trivial | rfl | assumption | (simp only [oo hO, ff, sl]; done) | (simp only [oo hO, ff, sl]; omega) | (intro i hi; first | (cbv <;> (repeat' apply And.intro) <;> first | trivial | rfl) | (simp only [oo hO, ff, sl] at hi ⊢; (try simp only [gg, sl] at hi ⊢); (repeat' split) <;> first | (exfalso; omega) | (exfalso; exact absurd (Nat.lt_of_lt_of_le hi (Nat.min_le_left _ _)) (by assumption)) | (cbv <;> (repeat' apply And.intro) <;> first | trivial | rfl) | (rename_i q; subst q; cbv <;> (repeat' apply And.intro) <;> first | trivial | rfl) | (rename_i q _; subst q; cbv <;> (repeat' apply And.intro) <;> first | trivial | rfl))))
  cbv
  replace h := condf h (by first | exact b_2 | (simp only [oo hO, sl] at b_2 ⊢; exact b_2))
  refine ⟨?_, ?_⟩
  rotate_left
  · first | (intro q; cases q; done) | trivial
  try intro _
  cbv
  obtain ⟨v2, e_3, h⟩ := callb h
  refine ⟨[], _, _, _, _, false, c_impl_areSamples hO hP e_3, ?_⟩
  cbv
  refine ⟨(by (repeat' apply And.intro) <;> first | trivial | rfl | (intro i hi; first | (cbv <;> (repeat' apply And.intro) <;> first | trivial | rfl) | (simp only [oo hO, sl]; cbv <;> (repeat' apply And.intro) <;> first | trivial | rfl))), (by (repeat' apply And.intro) <;> first | trivial | rfl), ?_⟩
  refine ⟨?_, ?_⟩
  rotate_left
  · first | (intro q; cases q; done) | trivial
  try intro _
  cbv
  refine ⟨?_, ?_⟩
  · first | (intro q; cases q; done) | trivial
  try intro _
  cbv
  refine ⟨fun b_4 => ?_, fun b_4 => ?_⟩
  · cbv
    replace h := condt h (by first | exact b_4 | (simp only [oo hO, sl] at b_4 ⊢; exact b_4))
    replace h := (endb h).trans hr
    cases h
    ((repeat' apply And.intro) <;> first | trivial | rfl | assumption | (simp only [oo hO, ff, sl]; done) | (simp only [oo hO, ff, sl]; omega) | (intro i hi; first | (cbv <;> (repeat' apply And.intro) <;> first | trivial | rfl) | (simp only [oo hO, ff, sl] at hi ⊢; (try simp only [gg, sl] at hi ⊢); (repeat' split) <;> first | (exfalso; omega) | (exfalso; exact absurd (Nat.lt_of_lt_of_le hi (Nat.min_le_left _ _)) (by assumption)) | (cbv <;> (repeat' apply And.intro) <;> first | trivial | rfl) | (rename_i q; subst q; cbv <;> (repeat' apply And.intro) <;> first | trivial | rfl) | (rename_i q _; subst q; cbv <;> (repeat' apply And.intro) <;> first | trivial | rfl))))
  cbv
  replace h := condf h (by first | exact b_4 | (simp only [oo hO, sl] at b_4 ⊢; exact b_4))
  obtain ⟨⟨v3, v4⟩, e_5, h⟩ := callb h
  refine ⟨[], _, _, _, _, false, c_impl_Filter_run hO hP e_5, ?_⟩
  cbv
  refine ⟨(by (repeat' apply And.intro) <;> first | trivial | rfl | (intro i hi; first | (cbv <;> (repeat' apply And.intro) <;> first | trivial | rfl) | (simp only [oo hO, sl]; cbv <;> (repeat' apply And.intro) <;> first | trivial | rfl))), (by (repeat' apply And.intro) <;> first | trivial | rfl), ?_⟩
  replace h := (endb h).trans hr
  cases h
  ((repeat' apply And.intro) <;> first | trivial | rfl | assumption | (simp only [oo hO, ff, sl]; done) | (simp only [oo hO, ff, sl]; omega) | (intro i hi; first | (cbv <;> (repeat' apply And.intro) <;> first | trivial | rfl) | (simp only [oo hO, ff, sl] at hi ⊢; (try simp only [gg, sl] at hi ⊢); (repeat' split) <;> first | (exfalso; omega) | (exfalso; exact absurd (Nat.lt_of_lt_of_le hi (Nat.min_le_left _ _)) (by assumption)) | (cbv <;> (repeat' apply And.intro) <;> first | trivial | rfl) | (rename_i q; subst q; cbv <;> (repeat' apply And.intro) <;> first | trivial | rfl) | (rename_i q _; subst q; cbv <;> (repeat' apply And.intro) <;> first | trivial | rfl))))

theorem c_laws_r8Same {O : Ops} (hO : O = std) {P : Program} (hP : P = Prg) {a1 : (List Nat)} {a2 : (List Nat)} {r1 : Bool} (h : F_laws_r8Same O a1 a2 = some r1) :
    Con P 16 [] [.sl false false 1 (O.llen a1) (fun i1 => [.flt .f32 (O.lget a1 i1 0)]), .sl false false 1 (O.llen a2) (fun i1 => [.flt .f32 (O.lget a2 i1 0)])] (.bool r1) [] := by
  refine @con_of2 O hO P hP 16 Go.Proofs.Try.f16 Go.Proofs.Try.func16 (by kernel_rfl) _ _ _ _ ?_
  unfold F_laws_r8Same at h
  replace h := startb h
  obtain ⟨r, hr⟩ : ∃ r, r = r1 := ⟨_, rfl⟩
  rw [← hr] at h
  cbv
  refine Wp.mk ?_
  refine ⟨fun b_1 => ?_, fun b_1 => ?_⟩
  · cbv
    replace h := condt h (by first | exact b_1 | (simp only [oo hO, sl] at b_1 ⊢; exact b_1))
    replace h := (endb h).trans hr
    cases h
    ((repeat' apply And.intro) <;> first | trivial | rfl | assumption | (simp only [oo hO, ff, sl]; done) | (simp only [oo hO, ff, sl]; omega) | (intro i hi; first | (cbv <;> (repeat' apply And.intro) <;> first | trivial | rfl) | (simp only [oo hO, ff, sl] at hi ⊢; (try simp only [gg, sl] at hi ⊢); (repeat' split) <;> first | (exfalso; omega) | (exfalso; exact absurd (Nat.lt_of_lt_of_le hi (Nat.min_le_left _ _)) (by assumption)) | (cbv <;> (repeat' apply And.intro) <;> first | trivial | rfl) | (rename_i q; subst q; cbv <;> (repeat' apply And.intro) <;> first | trivial | rfl) | (rename_i q _; subst q; cbv <;> (repeat' apply And.intro) <;> first | trivial | rfl))))
  cbv
  replace h := condf h (by first | exact b_1 | (simp only [oo hO, sl] at b_1 ⊢; exact b_1))
  obtain ⟨R_2, hR_2, h⟩ := loopb h
  refine ⟨{ x : Nat × Int // (F_laws_r8Same_l0 O a1 a2 x.1 x.2).bind R_2 = some r }, fun x => ⟨[(0, .sl false false 1 (O.llen a1) (fun i1 => [.flt .f32 (O.lget a1 i1 0)])), (1, .sl false false 1 (O.llen a2) (fun i1 => [.flt .f32 (O.lget a2 i1 0)])), (5, .int .i64 x.1.2)], []⟩, fun x => x.1.1, ⟨(KK, 0), h⟩, ?_, ?_⟩
  · (cbv <;> ((repeat' apply And.intro) <;> first | trivial | rfl | assumption | (simp only [oo hO, ff, sl]; done) | (simp only [oo hO, ff, sl]; omega) | (intro i hi; first | (cbv <;> (repeat' apply And.intro) <;> first | trivial | rfl) | (simp only [oo hO, ff, sl] at hi ⊢; (try simp only [gg, sl] at hi ⊢); (repeat' split) <;> first | (exfalso; omega) | (exfalso; exact absurd (Nat.lt_of_lt_of_le hi (Nat.min_le_left _ _)) (by assumption)) | (cbv <;> (repeat' apply And.intro) <;> first | trivial | rfl) | (rename_i q; subst q; cbv <;> (repeat' apply And.intro) <;> first | trivial | rfl) | (rename_i q _; subst q; cbv <;> (repeat' apply And.intro) <;> first | trivial | rfl)))))
  rintro ⟨⟨k_3, p2⟩, h⟩
  rcases k_3 with _ | k_3
  · cases noneb rfl h
  rw [F_laws_r8Same_l0.eq_2] at h
  cbv
  refine ⟨fun b_4 => ?_, fun b_4 => ?_⟩
  rotate_left
  · cbv
    replace h := condf h (by first | exact b_4 | (simp only [oo hO, sl] at b_4 ⊢; exact b_4))
    replace h := leafb h hR_2
    replace h := (endb h).trans hr
    cases h
    ((repeat' apply And.intro) <;> first | trivial | rfl | assumption | (simp only [oo hO, ff, sl]; done) | (simp only [oo hO, ff, sl]; omega) | (intro i hi; first | (cbv <;> (repeat' apply And.intro) <;> first | trivial | rfl) | (simp only [oo hO, ff, sl] at hi ⊢; (try simp only [gg, sl] at hi ⊢); (repeat' split) <;> first | (exfalso; omega) | (exfalso; exact absurd (Nat.lt_of_lt_of_le hi (Nat.min_le_left _ _)) (by assumption)) | (cbv <;> (repeat' apply And.intro) <;> first | trivial | rfl) | (rename_i q; subst q; cbv <;> (repeat' apply And.intro) <;> first | trivial | rfl) | (rename_i q _; subst q; cbv <;> (repeat' apply And.intro) <;> first | trivial | rfl))))
  cbv
  replace h := condt h (by first | exact b_4 | (simp only [oo hO, sl] at b_4 ⊢; exact b_4))
  obtain ⟨g_5, h⟩ := gdb h
  refine ⟨(by first | exact g_5 | (simp only [oo hO] at g_5 ⊢; simp only [sl] at g_5 ⊢; omega)), ?_⟩
  obtain ⟨g_6, h⟩ := gdb h
  refine ⟨(by first | exact g_6 | (simp only [oo hO] at g_6 ⊢; simp only [sl] at g_6 ⊢; omega)), ?_⟩
  obtain ⟨v1, e_7, h⟩ := callb h
  refine ⟨[], _, _, _, _, false, c_impl_SameNumber hO hP e_7, ?_⟩
  cbv
  refine ⟨(by (repeat' apply And.intro) <;> first | trivial | rfl), (by (repeat' apply And.intro) <;> first | trivial | rfl), ?_⟩
  refine ⟨fun b_8 => ?_, fun b_8 => ?_⟩
  · cbv
    replace h := condt h (by first | exact b_8 | (simp only [oo hO, sl] at b_8 ⊢; exact b_8))
    replace h := leafb h hR_2
    replace h := (endb h).trans hr
    cases h
    ((repeat' apply And.intro) <;> first | trivial | rfl | assumption | (simp only [oo hO, ff, sl]; done) | (simp only [oo hO, ff, sl]; omega) | (intro i hi; first | (cbv <;> (repeat' apply And.intro) <;> first | trivial | rfl) | (simp only [oo hO, ff, sl] at hi ⊢; (try simp only [gg, sl] at hi ⊢); (repeat' split) <;> first | (exfalso; omega) | (exfalso; exact absurd (Nat.lt_of_lt_of_le hi (Nat.min_le_left _ _)) (by assumption)) | (cbv <;> (repeat' apply And.intro) <;> first | trivial | rfl) | (rename_i q; subst q; cbv <;> (repeat' apply And.intro) <;> first | trivial | rfl) | (rename_i q _; subst q; cbv <;> (repeat' apply And.intro) <;> first | trivial | rfl))))
  cbv
  replace h := condf h (by first | exact b_8 | (simp only [oo hO, sl] at b_8 ⊢; exact b_8))
  obtain ⟨g_9, h⟩ := gdb h
  refine ⟨(by first | exact g_9 | (simp only [oo hO] at g_9 ⊢; simp only [sl] at g_9 ⊢; omega)), ?_⟩
  refine ⟨⟨(k_3, (O.iadd p2 1)), h⟩, ?_, ?_⟩
  · (cbv <;> ((repeat' apply And.intro) <;> first | trivial | rfl | assumption | (simp only [oo hO, ff, sl]; done) | (simp only [oo hO, ff, sl]; omega) | (intro i hi; first | (cbv <;> (repeat' apply And.intro) <;> first | trivial | rfl) | (simp only [oo hO, ff, sl] at hi ⊢; (try simp only [gg, sl] at hi ⊢); (repeat' split) <;> first | (exfalso; omega) | (exfalso; exact absurd (Nat.lt_of_lt_of_le hi (Nat.min_le_left _ _)) (by assumption)) | (cbv <;> (repeat' apply And.intro) <;> first | trivial | rfl) | (rename_i q; subst q; cbv <;> (repeat' apply And.intro) <;> first | trivial | rfl) | (rename_i q _; subst q; cbv <;> (repeat' apply And.intro) <;> first | trivial | rfl)))))
  · exact Nat.lt_succ_self k_3

end Go.Desk
