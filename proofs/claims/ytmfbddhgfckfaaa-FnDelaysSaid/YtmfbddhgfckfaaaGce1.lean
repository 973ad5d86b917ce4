/- Contracts of functions, printed by a program of mine (in step with V-logic). -/
import Derived.Test.YtmfbddhgfckfaaaGabcdef1
import Derived.Test.YtmfbddhgfckfaaaGabcef1
import Derived.Test.YtmfbddhgfckfaaaGace1
import Derived.Test.YtmfbddhgfckfaaaGacef1
import Derived.Test.YtmfbddhgfckfaaaGbce1
import Derived.Test.YtmfbddhgfckfaaaGcef1
import Derived.Test.YtmfbddhgfckfaaaGf
namespace Go.Desk
open Go
set_option linter.all false
set_option maxRecDepth 100000
set_option linter.unusedVariables false
set_option linter.unusedSimpArgs false
set_option maxHeartbeats 4000000
theorem c_spec_l03DrawDelay {O : Ops} (hO : O = std) {P : Program} (hP : P = Prg) {a1 : Gl00Src} {r1 : GDelay} {r2 : Gl00Src} (h : F_spec_l03DrawDelay O a1 = some (r1, r2)) :
    Con P 82 [.box [.sl false false 1 (O.llen a1.code) (fun i1 => [.int .u8 (O.lget a1.code i1 0)]), .int .i64 a1.pos, .int .u64 a1.seed]] [.ptr 0 0] (.agg [.int .i64 r1.Length, .flt .f32 r1.Feedback, .flt .f32 r1.Dry, .flt .f32 r1.Wet, .bool r1.Flush]) [.box [.sl false false 1 (O.llen r2.code) (fun i1 => [.int .u8 (O.lget r2.code i1 0)]), .int .i64 r2.pos, .int .u64 r2.seed]] := by
  refine @con_of2 O hO P hP 82 Go.Proofs.Try.f82 Go.Proofs.Try.func82 (by kernel_rfl) _ _ _ _ ?_
  unfold F_spec_l03DrawDelay at h
  replace h := startb h
  obtain ⟨r, hr⟩ : ∃ r, r = (r1, r2) := ⟨_, rfl⟩
  rw [← hr] at h
  cbv
  refine Wp.mk ?_
  obtain ⟨⟨v1, v2⟩, e_1, h⟩ := callb h
  refine ⟨[0], _, _, _, _, true, c_spec_l00Src_pick hO hP e_1, ?_⟩
  cbv
  refine ⟨(by (repeat' apply And.intro) <;> first | trivial | rfl), (by (repeat' apply And.intro) <;> first | trivial | rfl | (intro i hi; first | (cbv <;> (repeat' apply And.intro) <;> first | trivial | rfl) | (simp only [oo hO, sl]; cbv <;> (repeat' apply And.intro) <;> first | trivial | rfl))), ?_⟩
  obtain ⟨g_2, h⟩ := gdb h
  refine ⟨(by first | exact g_2 | (simp only [oo hO] at g_2 ⊢; simp only [sl] at g_2 ⊢; omega)), ?_⟩
  obtain ⟨⟨v3, v4⟩, e_3, h⟩ := callb h
  refine ⟨[0], _, _, _, _, true, c_spec_l00Src_one hO hP e_3, ?_⟩
  cbv
  refine ⟨(by (repeat' apply And.intro) <;> first | trivial | rfl), (by (repeat' apply And.intro) <;> first | trivial | rfl | (intro i hi; first | (cbv <;> (repeat' apply And.intro) <;> first | trivial | rfl) | (simp only [oo hO, sl]; cbv <;> (repeat' apply And.intro) <;> first | trivial | rfl))), ?_⟩
  obtain ⟨⟨v5, v6⟩, e_4, h⟩ := callb h
  refine ⟨[0], _, _, _, _, true, c_spec_l00Src_one hO hP e_4, ?_⟩
  cbv
  refine ⟨(by (repeat' apply And.intro) <;> first | trivial | rfl), (by (repeat' apply And.intro) <;> first | trivial | rfl | (intro i hi; first | (cbv <;> (repeat' apply And.intro) <;> first | trivial | rfl) | (simp only [oo hO, sl]; cbv <;> (repeat' apply And.intro) <;> first | trivial | rfl))), ?_⟩
  refine ⟨fun b_5 => ?_, fun b_5 => ?_⟩
  · cbv
    replace h := condt h (by first | exact b_5 | (simp only [oo hO, sl] at b_5 ⊢; exact b_5))
    obtain ⟨⟨v7, v8⟩, e_6, h⟩ := callb h
    refine ⟨[0], _, _, _, _, true, c_spec_l00Src_pick hO hP e_6, ?_⟩
    cbv
    refine ⟨(by (repeat' apply And.intro) <;> first | trivial | rfl), (by (repeat' apply And.intro) <;> first | trivial | rfl | (intro i hi; first | (cbv <;> (repeat' apply And.intro) <;> first | trivial | rfl) | (simp only [oo hO, sl]; cbv <;> (repeat' apply And.intro) <;> first | trivial | rfl))), ?_⟩
    obtain ⟨g_7, h⟩ := gdb h
    refine ⟨(by first | exact g_7 | (simp only [oo hO] at g_7 ⊢; simp only [sl] at g_7 ⊢; omega)), ?_⟩
    obtain ⟨⟨v9, v10⟩, e_8, h⟩ := callb h
    refine ⟨[0], _, _, _, _, true, c_spec_l00Src_pick hO hP e_8, ?_⟩
    cbv
    refine ⟨(by (repeat' apply And.intro) <;> first | trivial | rfl), (by (repeat' apply And.intro) <;> first | trivial | rfl | (intro i hi; first | (cbv <;> (repeat' apply And.intro) <;> first | trivial | rfl) | (simp only [oo hO, sl]; cbv <;> (repeat' apply And.intro) <;> first | trivial | rfl))), ?_⟩
    obtain ⟨⟨v11, v12⟩, e_9, h⟩ := callb h
    refine ⟨[0], _, _, _, _, true, c_spec_l00Src_pick hO hP e_9, ?_⟩
    cbv
    refine ⟨(by (repeat' apply And.intro) <;> first | trivial | rfl), (by (repeat' apply And.intro) <;> first | trivial | rfl | (intro i hi; first | (cbv <;> (repeat' apply And.intro) <;> first | trivial | rfl) | (simp only [oo hO, sl]; cbv <;> (repeat' apply And.intro) <;> first | trivial | rfl))), ?_⟩
    obtain ⟨⟨v13, v14⟩, e_10, h⟩ := callb h
    refine ⟨[0], _, _, _, _, true, c_spec_l00Src_one hO hP e_10, ?_⟩
    cbv
    refine ⟨(by (repeat' apply And.intro) <;> first | trivial | rfl), (by (repeat' apply And.intro) <;> first | trivial | rfl | (intro i hi; first | (cbv <;> (repeat' apply And.intro) <;> first | trivial | rfl) | (simp only [oo hO, sl]; cbv <;> (repeat' apply And.intro) <;> first | trivial | rfl))), ?_⟩
    refine ⟨fun b_11 => ?_, fun b_11 => ?_⟩
    rotate_left
    · cbv
      replace h := condf h (by first | exact b_11 | (simp only [oo hO, sl] at b_11 ⊢; exact b_11))
      replace h := (endb h).trans hr
      cases h
      ((repeat' apply And.intro) <;> first | trivial | rfl | assumption | (simp only [oo hO, ff, sl]; done) | (simp only [oo hO, ff, sl]; omega) | (intro i hi; first | (cbv <;> (repeat' apply And.intro) <;> first | trivial | rfl) | (simp only [oo hO, ff, sl] at hi ⊢; (try simp only [gg, sl] at hi ⊢); (repeat' split) <;> first | (exfalso; omega) | (exfalso; exact absurd (Nat.lt_of_lt_of_le hi (Nat.min_le_left _ _)) (by assumption)) | (cbv <;> (repeat' apply And.intro) <;> first | trivial | rfl) | (rename_i q; subst q; cbv <;> (repeat' apply And.intro) <;> first | trivial | rfl) | (rename_i q _; subst q; cbv <;> (repeat' apply And.intro) <;> first | trivial | rfl))))
    cbv
    replace h := condt h (by first | exact b_11 | (simp only [oo hO, sl] at b_11 ⊢; exact b_11))
    obtain ⟨⟨v15, v16⟩, e_12, h⟩ := callb h
    refine ⟨[0], _, _, _, _, true, c_spec_l01DrawFloat hO hP e_12, ?_⟩
    cbv
    refine ⟨(by (repeat' apply And.intro) <;> first | trivial | rfl), (by (repeat' apply And.intro) <;> first | trivial | rfl | (intro i hi; first | (cbv <;> (repeat' apply And.intro) <;> first | trivial | rfl) | (simp only [oo hO, sl]; cbv <;> (repeat' apply And.intro) <;> first | trivial | rfl))), ?_⟩
    replace h := (endb h).trans hr
    cases h
    ((repeat' apply And.intro) <;> first | trivial | rfl | assumption | (simp only [oo hO, ff, sl]; done) | (simp only [oo hO, ff, sl]; omega) | (intro i hi; first | (cbv <;> (repeat' apply And.intro) <;> first | trivial | rfl) | (simp only [oo hO, ff, sl] at hi ⊢; (try simp only [gg, sl] at hi ⊢); (repeat' split) <;> first | (exfalso; omega) | (exfalso; exact absurd (Nat.lt_of_lt_of_le hi (Nat.min_le_left _ _)) (by assumption)) | (cbv <;> (repeat' apply And.intro) <;> first | trivial | rfl) | (rename_i q; subst q; cbv <;> (repeat' apply And.intro) <;> first | trivial | rfl) | (rename_i q _; subst q; cbv <;> (repeat' apply And.intro) <;> first | trivial | rfl))))
  cbv
  replace h := condf h (by first | exact b_5 | (simp only [oo hO, sl] at b_5 ⊢; exact b_5))
  obtain ⟨⟨v17, v18⟩, e_13, h⟩ := callb h
  refine ⟨[0], _, _, _, _, true, c_spec_l00Src_pick hO hP e_13, ?_⟩
  cbv
  refine ⟨(by (repeat' apply And.intro) <;> first | trivial | rfl), (by (repeat' apply And.intro) <;> first | trivial | rfl | (intro i hi; first | (cbv <;> (repeat' apply And.intro) <;> first | trivial | rfl) | (simp only [oo hO, sl]; cbv <;> (repeat' apply And.intro) <;> first | trivial | rfl))), ?_⟩
  obtain ⟨g_14, h⟩ := gdb h
  refine ⟨(by first | exact g_14 | (simp only [oo hO] at g_14 ⊢; simp only [sl] at g_14 ⊢; omega)), ?_⟩
  obtain ⟨⟨v19, v20⟩, e_15, h⟩ := callb h
  refine ⟨[0], _, _, _, _, true, c_spec_l00Src_pick hO hP e_15, ?_⟩
  cbv
  refine ⟨(by (repeat' apply And.intro) <;> first | trivial | rfl), (by (repeat' apply And.intro) <;> first | trivial | rfl | (intro i hi; first | (cbv <;> (repeat' apply And.intro) <;> first | trivial | rfl) | (simp only [oo hO, sl]; cbv <;> (repeat' apply And.intro) <;> first | trivial | rfl))), ?_⟩
  obtain ⟨⟨v21, v22⟩, e_16, h⟩ := callb h
  refine ⟨[0], _, _, _, _, true, c_spec_l00Src_pick hO hP e_16, ?_⟩
  cbv
  refine ⟨(by (repeat' apply And.intro) <;> first | trivial | rfl), (by (repeat' apply And.intro) <;> first | trivial | rfl | (intro i hi; first | (cbv <;> (repeat' apply And.intro) <;> first | trivial | rfl) | (simp only [oo hO, sl]; cbv <;> (repeat' apply And.intro) <;> first | trivial | rfl))), ?_⟩
  obtain ⟨⟨v23, v24⟩, e_17, h⟩ := callb h
  refine ⟨[0], _, _, _, _, true, c_spec_l00Src_one hO hP e_17, ?_⟩
  cbv
  refine ⟨(by (repeat' apply And.intro) <;> first | trivial | rfl), (by (repeat' apply And.intro) <;> first | trivial | rfl | (intro i hi; first | (cbv <;> (repeat' apply And.intro) <;> first | trivial | rfl) | (simp only [oo hO, sl]; cbv <;> (repeat' apply And.intro) <;> first | trivial | rfl))), ?_⟩
  refine ⟨fun b_18 => ?_, fun b_18 => ?_⟩
  rotate_left
  · cbv
    replace h := condf h (by first | exact b_18 | (simp only [oo hO, sl] at b_18 ⊢; exact b_18))
    replace h := (endb h).trans hr
    cases h
    ((repeat' apply And.intro) <;> first | trivial | rfl | assumption | (simp only [oo hO, ff, sl]; done) | (simp only [oo hO, ff, sl]; omega) | (intro i hi; first | (cbv <;> (repeat' apply And.intro) <;> first | trivial | rfl) | (simp only [oo hO, ff, sl] at hi ⊢; (try simp only [gg, sl] at hi ⊢); (repeat' split) <;> first | (exfalso; omega) | (exfalso; exact absurd (Nat.lt_of_lt_of_le hi (Nat.min_le_left _ _)) (by assumption)) | (cbv <;> (repeat' apply And.intro) <;> first | trivial | rfl) | (rename_i q; subst q; cbv <;> (repeat' apply And.intro) <;> first | trivial | rfl) | (rename_i q _; subst q; cbv <;> (repeat' apply And.intro) <;> first | trivial | rfl))))
  cbv
  replace h := condt h (by first | exact b_18 | (simp only [oo hO, sl] at b_18 ⊢; exact b_18))
  obtain ⟨⟨v25, v26⟩, e_19, h⟩ := callb h
  refine ⟨[0], _, _, _, _, true, c_spec_l01DrawFloat hO hP e_19, ?_⟩
  cbv
  refine ⟨(by (repeat' apply And.intro) <;> first | trivial | rfl), (by (repeat' apply And.intro) <;> first | trivial | rfl | (intro i hi; first | (cbv <;> (repeat' apply And.intro) <;> first | trivial | rfl) | (simp only [oo hO, sl]; cbv <;> (repeat' apply And.intro) <;> first | trivial | rfl))), ?_⟩
  replace h := (endb h).trans hr
  cases h
  ((repeat' apply And.intro) <;> first | trivial | rfl | assumption | (simp only [oo hO, ff, sl]; done) | (simp only [oo hO, ff, sl]; omega) | (intro i hi; first | (cbv <;> (repeat' apply And.intro) <;> first | trivial | rfl) | (simp only [oo hO, ff, sl] at hi ⊢; (try simp only [gg, sl] at hi ⊢); (repeat' split) <;> first | (exfalso; omega) | (exfalso; exact absurd (Nat.lt_of_lt_of_le hi (Nat.min_le_left _ _)) (by assumption)) | (cbv <;> (repeat' apply And.intro) <;> first | trivial | rfl) | (rename_i q; subst q; cbv <;> (repeat' apply And.intro) <;> first | trivial | rfl) | (rename_i q _; subst q; cbv <;> (repeat' apply And.intro) <;> first | trivial | rfl))))

theorem c_spec_B10Numbers {O : Ops} (hO : O = std) {P : Program} (hP : P = Prg) {a1 : (List Int)} {a2 : Int} {r1 : (List Nat)} (h : F_spec_B10Numbers O a1 a2 = some r1) :
    Con P 30 [] [.sl false false 1 (O.llen a1) (fun i1 => [.int .u8 (O.lget a1 i1 0)]), .int .i64 a2] (.osl 0 1 0 (O.llen r1)) [.arr true true 1 (O.llen r1) (fun i1 => [.flt .f32 (O.lget r1 i1 0)])] := by
  refine @con_of2 O hO P hP 30 Go.Proofs.Try.f30 Go.Proofs.Try.func30 (by kernel_rfl) _ _ _ _ ?_
  unfold F_spec_B10Numbers at h
  replace h := startb h
  obtain ⟨r, hr⟩ : ∃ r, r = r1 := ⟨_, rfl⟩
  rw [← hr] at h
  cbv
  refine Wp.mk ?_
  obtain ⟨v1, e_1, h⟩ := callb h
  refine ⟨[], _, _, _, _, true, c_spec_l00From hO hP e_1, ?_⟩
  cbv
  refine ⟨(by (repeat' apply And.intro) <;> first | trivial | rfl | (intro i hi; first | (cbv <;> (repeat' apply And.intro) <;> first | trivial | rfl) | (simp only [oo hO, sl]; cbv <;> (repeat' apply And.intro) <;> first | trivial | rfl))), (by (repeat' apply And.intro) <;> first | trivial | rfl), ?_⟩
  obtain ⟨⟨v2, v3⟩, e_2, h⟩ := callb h
  refine ⟨[112], _, _, _, _, true, c_spec_l01DrawFloats hO hP e_2, ?_⟩
  cbv
  refine ⟨(by (repeat' apply And.intro) <;> first | trivial | rfl), (by (repeat' apply And.intro) <;> first | trivial | rfl | (intro i hi; first | (cbv <;> (repeat' apply And.intro) <;> first | trivial | rfl) | (simp only [oo hO, sl]; cbv <;> (repeat' apply And.intro) <;> first | trivial | rfl))), ?_⟩
  replace h := (endb h).trans hr
  cases h
  ((repeat' apply And.intro) <;> first | trivial | rfl | assumption | (simp only [oo hO, ff, sl]; done) | (simp only [oo hO, ff, sl]; omega) | (intro i hi; first | (cbv <;> (repeat' apply And.intro) <;> first | trivial | rfl) | (simp only [oo hO, ff, sl] at hi ⊢; (try simp only [gg, sl] at hi ⊢); (repeat' split) <;> first | (exfalso; omega) | (exfalso; exact absurd (Nat.lt_of_lt_of_le hi (Nat.min_le_left _ _)) (by assumption)) | (cbv <;> (repeat' apply And.intro) <;> first | trivial | rfl) | (rename_i q; subst q; cbv <;> (repeat' apply And.intro) <;> first | trivial | rfl) | (rename_i q _; subst q; cbv <;> (repeat' apply And.intro) <;> first | trivial | rfl))))

theorem c_impl_isLength {O : Ops} (hO : O = std) {P : Program} (hP : P = Prg) {a1 : Int} {r1 : Bool} (h : F_impl_isLength O a1 = some r1) :
    Con P 85 [] [.int .i64 a1] (.bool r1) [] := by
  refine @con_of2 O hO P hP 85 Go.Proofs.Try.f85 Go.Proofs.Try.func85 (by kernel_rfl) _ _ _ _ ?_
  unfold F_impl_isLength at h
  replace h := startb h
  obtain ⟨r, hr⟩ : ∃ r, r = r1 := ⟨_, rfl⟩
  rw [← hr] at h
  cbv
  refine Wp.mk ?_
  obtain ⟨v1, e_1, h⟩ := callb h
  refine ⟨[], _, _, _, _, false, c_impl_within hO hP e_1, ?_⟩
  cbv
  refine ⟨(by (repeat' apply And.intro) <;> first | trivial | rfl), (by (repeat' apply And.intro) <;> first | trivial | rfl), ?_⟩
  replace h := (endb h).trans hr
  cases h
  ((repeat' apply And.intro) <;> first | trivial | rfl | assumption | (simp only [oo hO, ff, sl]; done) | (simp only [oo hO, ff, sl]; omega) | (intro i hi; first | (cbv <;> (repeat' apply And.intro) <;> first | trivial | rfl) | (simp only [oo hO, ff, sl] at hi ⊢; (try simp only [gg, sl] at hi ⊢); (repeat' split) <;> first | (exfalso; omega) | (exfalso; exact absurd (Nat.lt_of_lt_of_le hi (Nat.min_le_left _ _)) (by assumption)) | (cbv <;> (repeat' apply And.intro) <;> first | trivial | rfl) | (rename_i q; subst q; cbv <;> (repeat' apply And.intro) <;> first | trivial | rfl) | (rename_i q _; subst q; cbv <;> (repeat' apply And.intro) <;> first | trivial | rfl))))

theorem c_impl_ValidDelay {O : Ops} (hO : O = std) {P : Program} (hP : P = Prg) {a1 : GDelay} {r1 : Bool} (h : F_impl_ValidDelay O a1 = some r1) :
    Con P 32 [] [.agg [.int .i64 a1.Length, .flt .f32 a1.Feedback, .flt .f32 a1.Dry, .flt .f32 a1.Wet, .bool a1.Flush]] (.bool r1) [] := by
  refine @con_of2 O hO P hP 32 Go.Proofs.Try.f32 Go.Proofs.Try.func32 (by kernel_rfl) _ _ _ _ ?_
  unfold F_impl_ValidDelay at h
  replace h := startb h
  obtain ⟨r, hr⟩ : ∃ r, r = r1 := ⟨_, rfl⟩
  rw [← hr] at h
  cbv
  refine Wp.mk ?_
  obtain ⟨v1, e_1, h⟩ := callb h
  refine ⟨[], _, _, _, _, false, c_impl_isLength hO hP e_1, ?_⟩
  cbv
  refine ⟨(by (repeat' apply And.intro) <;> first | trivial | rfl), (by (repeat' apply And.intro) <;> first | trivial | rfl), ?_⟩
  replace h := (endb h).trans hr
  cases h
  ((repeat' apply And.intro) <;> first | trivial | rfl | assumption | (simp only [oo hO, ff, sl]; done) | (simp only [oo hO, ff, sl]; omega) | (intro i hi; first | (cbv <;> (repeat' apply And.intro) <;> first | trivial | rfl) | (simp only [oo hO, ff, sl] at hi ⊢; (try simp only [gg, sl] at hi ⊢); (repeat' split) <;> first | (exfalso; omega) | (exfalso; exact absurd (Nat.lt_of_lt_of_le hi (Nat.min_le_left _ _)) (by assumption)) | (cbv <;> (repeat' apply And.intro) <;> first | trivial | rfl) | (rename_i q; subst q; cbv <;> (repeat' apply And.intro) <;> first | trivial | rfl) | (rename_i q _; subst q; cbv <;> (repeat' apply And.intro) <;> first | trivial | rfl))))

theorem c_impl_take {O : Ops} (hO : O = std) {P : Program} (hP : P = Prg) {a1 : (List Nat)} {a2 : Nat} {r1 : (List Nat)} (h : F_impl_take O a1 a2 = some r1) :
    Con P 125 [] [.sl false false 1 (O.llen a1) (fun i1 => [.flt .f32 (O.lget a1 i1 0)]), .flt .f32 a2] (.osl 0 1 0 (O.llen r1)) [.arr true false 1 (O.llen r1) (fun i1 => [.flt .f32 (O.lget r1 i1 0)])] := by
  refine @con_of2 O hO P hP 125 Go.Proofs.Try.f125 Go.Proofs.Try.func125 (by kernel_rfl) _ _ _ _ ?_
  unfold F_impl_take at h
  replace h := startb h
  obtain ⟨r, hr⟩ : ∃ r, r = r1 := ⟨_, rfl⟩
  rw [← hr] at h
  cbv
  refine Wp.mk ?_
  obtain ⟨g_1, h⟩ := gdb h
  have qg_1 := g_1; simp only [oo hO, ff, sl] at qg_1
  obtain ⟨g_2, h⟩ := gdb h
  have qg_2 := g_2; simp only [oo hO, ff, sl] at qg_2
  refine ⟨(by first | exact g_1 | (simp only [oo hO] at g_1 ⊢; simp only [sl] at g_1 ⊢; omega)), (by first | exact g_2 | (simp only [oo hO] at g_2 ⊢; simp only [sl] at g_2 ⊢; omega)), ?_⟩
  obtain ⟨v1, e_3, h⟩ := callb h
  refine ⟨[], _, _, _, _, true, c_impl_copyNumbers hO hP e_3, ?_⟩
  cbv
  refine ⟨(by ((repeat' apply And.intro) <;> first | trivial | rfl | assumption | (simp only [oo hO, ff, sl]; done) | (simp only [oo hO, ff, sl]; omega) | (intro i hi; first | (cbv <;> (repeat' apply And.intro) <;> first | trivial | rfl) | (simp only [oo hO, ff, sl] at hi ⊢; (try simp only [gg, sl] at hi ⊢); (repeat' split) <;> first | (exfalso; omega) | (exfalso; exact absurd (Nat.lt_of_lt_of_le hi (Nat.min_le_left _ _)) (by assumption)) | (cbv <;> (repeat' apply And.intro) <;> first | trivial | rfl) | (rename_i q; subst q; cbv <;> (repeat' apply And.intro) <;> first | trivial | rfl) | (rename_i q _; subst q; cbv <;> (repeat' apply And.intro) <;> first | trivial | rfl))))), (by (repeat' apply And.intro) <;> first | trivial | rfl), ?_⟩
  obtain ⟨g_4, h⟩ := gdb h
  refine ⟨(by first | trivial | (simp only [oo hO, sl]; omega) | (simp only [oo hO, sl]; done)), (by first | exact g_4 | (simp only [oo hO] at g_4 ⊢; simp only [sl] at g_4 ⊢; omega)), (by first | trivial | (simp only [oo hO, sl]; omega) | (simp only [oo hO, sl]; done)), ?_⟩
  replace h := (endb h).trans hr
  cases h
  ((repeat' apply And.intro) <;> first | trivial | rfl | assumption | (simp only [oo hO, ff, sl]; done) | (simp only [oo hO, ff, sl]; omega) | (intro i hi; first | (cbv <;> (repeat' apply And.intro) <;> first | trivial | rfl) | (simp only [oo hO, ff, sl] at hi ⊢; (try simp only [gg, sl] at hi ⊢); (repeat' split) <;> first | (exfalso; omega) | (exfalso; exact absurd (Nat.lt_of_lt_of_le hi (Nat.min_le_left _ _)) (by assumption)) | (cbv <;> (repeat' apply And.intro) <;> first | trivial | rfl) | (rename_i q; subst q; cbv <;> (repeat' apply And.intro) <;> first | trivial | rfl) | (rename_i q _; subst q; cbv <;> (repeat' apply And.intro) <;> first | trivial | rfl))))

theorem c_impl_Delay_step {O : Ops} (hO : O = std) {P : Program} (hP : P = Prg) {a1 : GDelay} {a2 : (List Nat)} {a3 : Nat} {r1 : Nat} {r2 : (List Nat)} (h : F_impl_Delay_step O a1 a2 a3 = some (r1, r2)) :
    Con P 84 [] [.agg [.int .i64 a1.Length, .flt .f32 a1.Feedback, .flt .f32 a1.Dry, .flt .f32 a1.Wet, .bool a1.Flush], .sl false false 1 (O.llen a2) (fun i1 => [.flt .f32 (O.lget a2 i1 0)]), .flt .f32 a3] (.tup [.flt .f32 r1, .osl 0 1 0 (O.llen r2)]) [.arr true false 1 (O.llen r2) (fun i1 => [.flt .f32 (O.lget r2 i1 0)])] := by
  refine @con_of2 O hO P hP 84 Go.Proofs.Try.f84 Go.Proofs.Try.func84 (by kernel_rfl) _ _ _ _ ?_
  unfold F_impl_Delay_step at h
  replace h := startb h
  obtain ⟨r, hr⟩ : ∃ r, r = (r1, r2) := ⟨_, rfl⟩
  rw [← hr] at h
  cbv
  refine Wp.mk ?_
  obtain ⟨g_1, h⟩ := gdb h
  refine ⟨(by first | exact g_1 | (simp only [oo hO] at g_1 ⊢; simp only [sl] at g_1 ⊢; omega)), ?_⟩
  obtain ⟨v1, e_2, h⟩ := callb h
  refine ⟨[], _, _, _, _, false, c_impl_flushed hO hP e_2, ?_⟩
  cbv
  refine ⟨(by (repeat' apply And.intro) <;> first | trivial | rfl), (by (repeat' apply And.intro) <;> first | trivial | rfl), ?_⟩
  obtain ⟨v2, e_3, h⟩ := callb h
  refine ⟨[], _, _, _, _, true, c_impl_take hO hP e_3, ?_⟩
  cbv
  refine ⟨(by (repeat' apply And.intro) <;> first | trivial | rfl | (intro i hi; first | (cbv <;> (repeat' apply And.intro) <;> first | trivial | rfl) | (simp only [oo hO, sl]; cbv <;> (repeat' apply And.intro) <;> first | trivial | rfl))), (by (repeat' apply And.intro) <;> first | trivial | rfl), ?_⟩
  replace h := (endb h).trans hr
  cases h
  ((repeat' apply And.intro) <;> first | trivial | rfl | assumption | (simp only [oo hO, ff, sl]; done) | (simp only [oo hO, ff, sl]; omega) | (intro i hi; first | (cbv <;> (repeat' apply And.intro) <;> first | trivial | rfl) | (simp only [oo hO, ff, sl] at hi ⊢; (try simp only [gg, sl] at hi ⊢); (repeat' split) <;> first | (exfalso; omega) | (exfalso; exact absurd (Nat.lt_of_lt_of_le hi (Nat.min_le_left _ _)) (by assumption)) | (cbv <;> (repeat' apply And.intro) <;> first | trivial | rfl) | (rename_i q; subst q; cbv <;> (repeat' apply And.intro) <;> first | trivial | rfl) | (rename_i q _; subst q; cbv <;> (repeat' apply And.intro) <;> first | trivial | rfl))))

theorem c_impl_RunDelay {O : Ops} (hO : O = std) {P : Program} (hP : P = Prg) {a1 : GDelay} {a2 : (List Nat)} {a3 : (List Nat)} {r1 : (List Nat)} {r2 : (List Nat)} {r3 : Bool} (h : F_impl_RunDelay O a1 a2 a3 = some (r1, r2, r3)) :
    Con P 31 [] [.agg [.int .i64 a1.Length, .flt .f32 a1.Feedback, .flt .f32 a1.Dry, .flt .f32 a1.Wet, .bool a1.Flush], .sl false false 1 (O.llen a2) (fun i1 => [.flt .f32 (O.lget a2 i1 0)]), .sl false false 1 (O.llen a3) (fun i1 => [.flt .f32 (O.lget a3 i1 0)])] (.tup [.osl 0 1 0 (O.llen r1), .osl 1 1 0 (O.llen r2), .bool r3]) [.arr true true 1 (O.llen r1) (fun i1 => [.flt .f32 (O.lget r1 i1 0)]), .arr true false 1 (O.llen r2) (fun i1 => [.flt .f32 (O.lget r2 i1 0)])] := by
  refine @con_of2 O hO P hP 31 Go.Proofs.Try.f31 Go.Proofs.Try.func31 (by kernel_rfl) _ _ _ _ ?_
  unfold F_impl_RunDelay at h
  replace h := startb h
  obtain ⟨r, hr⟩ : ∃ r, r = (r1, r2, r3) := ⟨_, rfl⟩
  rw [← hr] at h
  cbv
  refine Wp.mk ?_
  obtain ⟨v1, e_1, h⟩ := callb h
  refine ⟨[], _, _, _, _, false, c_impl_ValidDelay hO hP e_1, ?_⟩
  cbv
  refine ⟨(by (repeat' apply And.intro) <;> first | trivial | rfl), (by (repeat' apply And.intro) <;> first | trivial | rfl), ?_⟩
  refine ⟨fun b_2 => ?_, fun b_2 => ?_⟩
  · cbv
    replace h := condt h (by first | exact b_2 | (simp only [oo hO, sl] at b_2 ⊢; exact b_2))
    refine ⟨?_, ?_⟩
    rotate_left
    · first | (intro q; cases q; done) | trivial
    try intro _
    cbv
    refine ⟨?_, ?_⟩
    rotate_left
    · first | (intro q; cases q; done) | trivial
    try intro _
    cbv
    refine ⟨?_, ?_⟩
    rotate_left
    · first | (intro q; cases q; done) | trivial
    try intro _
    cbv
    refine ⟨?_, ?_⟩
    rotate_left
    · first | (intro q; cases q; done) | trivial
    try intro _
    cbv
    replace h := (endb h).trans hr
    cases h
    ((repeat' apply And.intro) <;> first | trivial | rfl | assumption | (simp only [oo hO, ff, sl]; done) | (simp only [oo hO, ff, sl]; omega) | (intro i hi; first | (cbv <;> (repeat' apply And.intro) <;> first | trivial | rfl) | (simp only [oo hO, ff, sl] at hi ⊢; (try simp only [gg, sl] at hi ⊢); (repeat' split) <;> first | (exfalso; omega) | (exfalso; exact absurd (Nat.lt_of_lt_of_le hi (Nat.min_le_left _ _)) (by assumption)) | (cbv <;> (repeat' apply And.intro) <;> first | trivial | rfl) | (rename_i q; subst q; cbv <;> (repeat' apply And.intro) <;> first | trivial | rfl) | (rename_i q _; subst q; cbv <;> (repeat' apply And.intro) <;> first | trivial | rfl))))
  cbv
  replace h := condf h (by first | exact b_2 | (simp only [oo hO, sl] at b_2 ⊢; exact b_2))
  obtain ⟨v2, e_3, h⟩ := callb h
  refine ⟨[], _, _, _, _, false, c_impl_size hO hP e_3, ?_⟩
  cbv
  refine ⟨(by (repeat' apply And.intro) <;> first | trivial | rfl), (by (repeat' apply And.intro) <;> first | trivial | rfl), ?_⟩
  refine ⟨?_, ?_⟩
  · first | (intro q; cases q; done) | trivial
  try intro _
  cbv
  refine ⟨fun b_4 => ?_, fun b_4 => ?_⟩
  · cbv
    replace h := condt h (by first | exact b_4 | (simp only [oo hO, sl] at b_4 ⊢; exact b_4))
    refine ⟨?_, ?_⟩
    rotate_left
    · first | (intro q; cases q; done) | trivial
    try intro _
    cbv
    refine ⟨?_, ?_⟩
    rotate_left
    · first | (intro q; cases q; done) | trivial
    try intro _
    cbv
    replace h := (endb h).trans hr
    cases h
    ((repeat' apply And.intro) <;> first | trivial | rfl | assumption | (simp only [oo hO, ff, sl]; done) | (simp only [oo hO, ff, sl]; omega) | (intro i hi; first | (cbv <;> (repeat' apply And.intro) <;> first | trivial | rfl) | (simp only [oo hO, ff, sl] at hi ⊢; (try simp only [gg, sl] at hi ⊢); (repeat' split) <;> first | (exfalso; omega) | (exfalso; exact absurd (Nat.lt_of_lt_of_le hi (Nat.min_le_left _ _)) (by assumption)) | (cbv <;> (repeat' apply And.intro) <;> first | trivial | rfl) | (rename_i q; subst q; cbv <;> (repeat' apply And.intro) <;> first | trivial | rfl) | (rename_i q _; subst q; cbv <;> (repeat' apply And.intro) <;> first | trivial | rfl))))
  cbv
  replace h := condf h (by first | exact b_4 | (simp only [oo hO, sl] at b_4 ⊢; exact b_4))
  obtain ⟨v3, e_5, h⟩ := callb h
  refine ⟨[], _, _, _, _, false, c_impl_areSamples hO hP e_5, ?_⟩
  cbv
  refine ⟨(by (repeat' apply And.intro) <;> first | trivial | rfl | (intro i hi; first | (cbv <;> (repeat' apply And.intro) <;> first | trivial | rfl) | (simp only [oo hO, sl]; cbv <;> (repeat' apply And.intro) <;> first | trivial | rfl))), (by (repeat' apply And.intro) <;> first | trivial | rfl), ?_⟩
  refine ⟨?_, ?_⟩
  · first | (intro q; cases q; done) | trivial
  try intro _
  cbv
  refine ⟨fun b_6 => ?_, fun b_6 => ?_⟩
  · cbv
    replace h := condt h (by first | exact b_6 | (simp only [oo hO, sl] at b_6 ⊢; exact b_6))
    replace h := (endb h).trans hr
    cases h
    ((repeat' apply And.intro) <;> first | trivial | rfl | assumption | (simp only [oo hO, ff, sl]; done) | (simp only [oo hO, ff, sl]; omega) | (intro i hi; first | (cbv <;> (repeat' apply And.intro) <;> first | trivial | rfl) | (simp only [oo hO, ff, sl] at hi ⊢; (try simp only [gg, sl] at hi ⊢); (repeat' split) <;> first | (exfalso; omega) | (exfalso; exact absurd (Nat.lt_of_lt_of_le hi (Nat.min_le_left _ _)) (by assumption)) | (cbv <;> (repeat' apply And.intro) <;> first | trivial | rfl) | (rename_i q; subst q; cbv <;> (repeat' apply And.intro) <;> first | trivial | rfl) | (rename_i q _; subst q; cbv <;> (repeat' apply And.intro) <;> first | trivial | rfl))))
  cbv
  replace h := condf h (by first | exact b_6 | (simp only [oo hO, sl] at b_6 ⊢; exact b_6))
  obtain ⟨v4, e_7, h⟩ := callb h
  refine ⟨[], _, _, _, _, true, c_impl_copyNumbers hO hP e_7, ?_⟩
  cbv
  refine ⟨(by (repeat' apply And.intro) <;> first | trivial | rfl | (intro i hi; first | (cbv <;> (repeat' apply And.intro) <;> first | trivial | rfl) | (simp only [oo hO, sl]; cbv <;> (repeat' apply And.intro) <;> first | trivial | rfl))), (by (repeat' apply And.intro) <;> first | trivial | rfl), ?_⟩
  obtain ⟨R_8, hR_8, h⟩ := loopb h
  refine ⟨{ x : Nat × (List Nat) × (List Nat) × Int // (F_impl_RunDelay_l0 O a1 a3 x.1 x.2.1 x.2.2.1 x.2.2.2).bind R_8 = some r }, fun x => ⟨[(3, .ptr 15 0), (9, .osl 31 1 0 (O.llen x.1.2.1)), (10, .osl 47 1 0 (O.llen x.1.2.2.1)), (33, .sl false false 1 (O.llen a3) (fun i1 => [.flt .f32 (O.lget a3 i1 0)])), (34, .int .i64 (O.ofN (O.llen a3))), (35, .int .i64 x.1.2.2.2)], [(15, .box [.int .i64 a1.Length, .flt .f32 a1.Feedback, .flt .f32 a1.Dry, .flt .f32 a1.Wet, .bool a1.Flush]), (31, .arr true false 1 (O.llen x.1.2.1) (fun i1 => [.flt .f32 (O.lget x.1.2.1 i1 0)])), (47, .arr true true 1 (O.llen x.1.2.2.1) (fun i1 => [.flt .f32 (O.lget x.1.2.2.1 i1 0)]))]⟩, fun x => x.1.1, ⟨(KK, v4, ([] : List Nat), 0), h⟩, ?_, ?_⟩
  · (cbv <;> ((repeat' apply And.intro) <;> first | trivial | rfl | assumption | (simp only [oo hO, ff, sl]; done) | (simp only [oo hO, ff, sl]; omega) | (intro i hi; first | (cbv <;> (repeat' apply And.intro) <;> first | trivial | rfl) | (simp only [oo hO, ff, sl] at hi ⊢; (try simp only [gg, sl] at hi ⊢); (repeat' split) <;> first | (exfalso; omega) | (exfalso; exact absurd (Nat.lt_of_lt_of_le hi (Nat.min_le_left _ _)) (by assumption)) | (cbv <;> (repeat' apply And.intro) <;> first | trivial | rfl) | (rename_i q; subst q; cbv <;> (repeat' apply And.intro) <;> first | trivial | rfl) | (rename_i q _; subst q; cbv <;> (repeat' apply And.intro) <;> first | trivial | rfl)))))
  rintro ⟨⟨k_9, p7, p8, p9⟩, h⟩
  rcases k_9 with _ | k_9
  · cases noneb rfl h
  rw [F_impl_RunDelay_l0.eq_2] at h
  cbv
  refine ⟨fun b_10 => ?_, fun b_10 => ?_⟩
  rotate_left
  · cbv
    replace h := condf h (by first | exact b_10 | (simp only [oo hO, sl] at b_10 ⊢; exact b_10))
    replace h := leafb h hR_8
    replace h := (endb h).trans hr
    cases h
    ((repeat' apply And.intro) <;> first | trivial | rfl | assumption | (simp only [oo hO, ff, sl]; done) | (simp only [oo hO, ff, sl]; omega) | (intro i hi; first | (cbv <;> (repeat' apply And.intro) <;> first | trivial | rfl) | (simp only [oo hO, ff, sl] at hi ⊢; (try simp only [gg, sl] at hi ⊢); (repeat' split) <;> first | (exfalso; omega) | (exfalso; exact absurd (Nat.lt_of_lt_of_le hi (Nat.min_le_left _ _)) (by assumption)) | (cbv <;> (repeat' apply And.intro) <;> first | trivial | rfl) | (rename_i q; subst q; cbv <;> (repeat' apply And.intro) <;> first | trivial | rfl) | (rename_i q _; subst q; cbv <;> (repeat' apply And.intro) <;> first | trivial | rfl))))
  cbv
  replace h := condt h (by first | exact b_10 | (simp only [oo hO, sl] at b_10 ⊢; exact b_10))
  obtain ⟨g_11, h⟩ := gdb h
  refine ⟨(by first | exact g_11 | (simp only [oo hO] at g_11 ⊢; simp only [sl] at g_11 ⊢; omega)), ?_⟩
  obtain ⟨⟨v5, v6⟩, e_12, h⟩ := callb h
  refine ⟨[], _, _, _, _, true, c_impl_Delay_step hO hP e_12, ?_⟩
  cbv
  refine ⟨(by first | trivial | (simp only [oo hO, sl]; omega) | (simp only [oo hO, sl]; done)), ?_⟩
  refine ⟨(by (repeat' apply And.intro) <;> first | trivial | rfl | (intro i hi; first | (cbv <;> (repeat' apply And.intro) <;> first | trivial | rfl) | (simp only [oo hO, sl]; cbv <;> (repeat' apply And.intro) <;> first | trivial | rfl))), (by (repeat' apply And.intro) <;> first | trivial | rfl), ?_⟩
  obtain ⟨g_13, h⟩ := gdb h
  refine ⟨(by first | trivial | (simp only [oo hO, sl]; omega) | (simp only [oo hO, sl]; done)), (by first | exact g_13 | (simp only [oo hO] at g_13 ⊢; simp only [sl] at g_13 ⊢; omega)), (by first | trivial | (simp only [oo hO, sl]; omega) | (simp only [oo hO, sl]; done)), ?_⟩
  obtain ⟨g_14, h⟩ := gdb h
  refine ⟨(by first | exact g_14 | (simp only [oo hO] at g_14 ⊢; simp only [sl] at g_14 ⊢; omega)), ?_⟩
  refine ⟨⟨(k_9, v6, (O.lapp p8 ([v5] : List Nat)), (O.iadd p9 1)), h⟩, ?_, ?_⟩
  · (cbv <;> ((repeat' apply And.intro) <;> first | trivial | rfl | assumption | (simp only [oo hO, ff, sl]; done) | (simp only [oo hO, ff, sl]; omega) | (intro i hi; first | (cbv <;> (repeat' apply And.intro) <;> first | trivial | rfl) | (simp only [oo hO, ff, sl] at hi ⊢; (try simp only [gg, sl] at hi ⊢); (repeat' split) <;> first | (exfalso; omega) | (exfalso; exact absurd (Nat.lt_of_lt_of_le hi (Nat.min_le_left _ _)) (by assumption)) | (cbv <;> (repeat' apply And.intro) <;> first | trivial | rfl) | (rename_i q; subst q; cbv <;> (repeat' apply And.intro) <;> first | trivial | rfl) | (rename_i q _; subst q; cbv <;> (repeat' apply And.intro) <;> first | trivial | rfl)))))
  · exact Nat.lt_succ_self k_9

theorem c_impl_Pass_step {O : Ops} (hO : O = std) {P : Program} (hP : P = Prg) {a1 : GPass} {a2 : (List Nat)} {a3 : Nat} {r1 : Nat} {r2 : (List Nat)} (h : F_impl_Pass_step O a1 a2 a3 = some (r1, r2)) :
    Con P 87 [] [.agg [.int .i64 a1.Length, .flt .f32 a1.Gain], .sl false false 1 (O.llen a2) (fun i1 => [.flt .f32 (O.lget a2 i1 0)]), .flt .f32 a3] (.tup [.flt .f32 r1, .osl 0 1 0 (O.llen r2)]) [.arr true false 1 (O.llen r2) (fun i1 => [.flt .f32 (O.lget r2 i1 0)])] := by
  refine @con_of2 O hO P hP 87 Go.Proofs.Try.f87 Go.Proofs.Try.func87 (by kernel_rfl) _ _ _ _ ?_
  unfold F_impl_Pass_step at h
  replace h := startb h
  obtain ⟨r, hr⟩ : ∃ r, r = (r1, r2) := ⟨_, rfl⟩
  rw [← hr] at h
  cbv
  refine Wp.mk ?_
  obtain ⟨g_1, h⟩ := gdb h
  refine ⟨(by first | exact g_1 | (simp only [oo hO] at g_1 ⊢; simp only [sl] at g_1 ⊢; omega)), ?_⟩
  obtain ⟨v1, e_2, h⟩ := callb h
  refine ⟨[], _, _, _, _, true, c_impl_take hO hP e_2, ?_⟩
  cbv
  refine ⟨(by (repeat' apply And.intro) <;> first | trivial | rfl | (intro i hi; first | (cbv <;> (repeat' apply And.intro) <;> first | trivial | rfl) | (simp only [oo hO, sl]; cbv <;> (repeat' apply And.intro) <;> first | trivial | rfl))), (by (repeat' apply And.intro) <;> first | trivial | rfl), ?_⟩
  replace h := (endb h).trans hr
  cases h
  ((repeat' apply And.intro) <;> first | trivial | rfl | assumption | (simp only [oo hO, ff, sl]; done) | (simp only [oo hO, ff, sl]; omega) | (intro i hi; first | (cbv <;> (repeat' apply And.intro) <;> first | trivial | rfl) | (simp only [oo hO, ff, sl] at hi ⊢; (try simp only [gg, sl] at hi ⊢); (repeat' split) <;> first | (exfalso; omega) | (exfalso; exact absurd (Nat.lt_of_lt_of_le hi (Nat.min_le_left _ _)) (by assumption)) | (cbv <;> (repeat' apply And.intro) <;> first | trivial | rfl) | (rename_i q; subst q; cbv <;> (repeat' apply And.intro) <;> first | trivial | rfl) | (rename_i q _; subst q; cbv <;> (repeat' apply And.intro) <;> first | trivial | rfl))))

theorem c_impl_EmptyLine {O : Ops} (hO : O = std) {P : Program} (hP : P = Prg) {a1 : Int} {r1 : (List Nat)} {r2 : Bool} (h : F_impl_EmptyLine O a1 = some (r1, r2)) :
    Con P 35 [] [.int .i64 a1] (.tup [.osl 0 1 0 (O.llen r1), .bool r2]) [.arr true true 1 (O.llen r1) (fun i1 => [.flt .f32 (O.lget r1 i1 0)])] := by
  refine @con_of2 O hO P hP 35 Go.Proofs.Try.f35 Go.Proofs.Try.func35 (by kernel_rfl) _ _ _ _ ?_
  unfold F_impl_EmptyLine at h
  replace h := startb h
  obtain ⟨r, hr⟩ : ∃ r, r = (r1, r2) := ⟨_, rfl⟩
  rw [← hr] at h
  cbv
  refine Wp.mk ?_
  obtain ⟨v1, e_1, h⟩ := callb h
  refine ⟨[], _, _, _, _, false, c_impl_isLength hO hP e_1, ?_⟩
  cbv
  refine ⟨(by (repeat' apply And.intro) <;> first | trivial | rfl), (by (repeat' apply And.intro) <;> first | trivial | rfl), ?_⟩
  refine ⟨fun b_2 => ?_, fun b_2 => ?_⟩
  · cbv
    replace h := condt h (by first | exact b_2 | (simp only [oo hO, sl] at b_2 ⊢; exact b_2))
    replace h := (endb h).trans hr
    cases h
    ((repeat' apply And.intro) <;> first | trivial | rfl | assumption | (simp only [oo hO, ff, sl]; done) | (simp only [oo hO, ff, sl]; omega) | (intro i hi; first | (cbv <;> (repeat' apply And.intro) <;> first | trivial | rfl) | (simp only [oo hO, ff, sl] at hi ⊢; (try simp only [gg, sl] at hi ⊢); (repeat' split) <;> first | (exfalso; omega) | (exfalso; exact absurd (Nat.lt_of_lt_of_le hi (Nat.min_le_left _ _)) (by assumption)) | (cbv <;> (repeat' apply And.intro) <;> first | trivial | rfl) | (rename_i q; subst q; cbv <;> (repeat' apply And.intro) <;> first | trivial | rfl) | (rename_i q _; subst q; cbv <;> (repeat' apply And.intro) <;> first | trivial | rfl))))
  cbv
  replace h := condf h (by first | exact b_2 | (simp only [oo hO, sl] at b_2 ⊢; exact b_2))
  obtain ⟨v2, e_3, h⟩ := callb h
  refine ⟨[], _, _, _, _, false, c_impl_zeros hO hP e_3, ?_⟩
  cbv
  refine ⟨(by (repeat' apply And.intro) <;> first | trivial | rfl), (by (repeat' apply And.intro) <;> first | trivial | rfl), ?_⟩
  replace h := (endb h).trans hr
  cases h
  ((repeat' apply And.intro) <;> first | trivial | rfl | assumption | (simp only [oo hO, ff, sl]; done) | (simp only [oo hO, ff, sl]; omega) | (intro i hi; first | (cbv <;> (repeat' apply And.intro) <;> first | trivial | rfl) | (simp only [oo hO, ff, sl] at hi ⊢; (try simp only [gg, sl] at hi ⊢); (repeat' split) <;> first | (exfalso; omega) | (exfalso; exact absurd (Nat.lt_of_lt_of_le hi (Nat.min_le_left _ _)) (by assumption)) | (cbv <;> (repeat' apply And.intro) <;> first | trivial | rfl) | (rename_i q; subst q; cbv <;> (repeat' apply And.intro) <;> first | trivial | rfl) | (rename_i q _; subst q; cbv <;> (repeat' apply And.intro) <;> first | trivial | rfl))))

theorem c_spec_l03Length {O : Ops} (hO : O = std) {P : Program} (hP : P = Prg) {a1 : Int} {r1 : Bool} (h : F_spec_l03Length O a1 = some r1) :
    Con P 92 [] [.int .i64 a1] (.bool r1) [] := by
  refine @con_of2 O hO P hP 92 Go.Proofs.Try.f92 Go.Proofs.Try.func92 (by kernel_rfl) _ _ _ _ ?_
  unfold F_spec_l03Length at h
  replace h := startb h
  obtain ⟨r, hr⟩ : ∃ r, r = r1 := ⟨_, rfl⟩
  rw [← hr] at h
  cbv
  refine Wp.mk ?_
  obtain ⟨v1, e_1, h⟩ := callb h
  refine ⟨[], _, _, _, _, false, c_spec_l00In hO hP e_1, ?_⟩
  cbv
  refine ⟨(by (repeat' apply And.intro) <;> first | trivial | rfl), (by (repeat' apply And.intro) <;> first | trivial | rfl), ?_⟩
  replace h := (endb h).trans hr
  cases h
  ((repeat' apply And.intro) <;> first | trivial | rfl | assumption | (simp only [oo hO, ff, sl]; done) | (simp only [oo hO, ff, sl]; omega) | (intro i hi; first | (cbv <;> (repeat' apply And.intro) <;> first | trivial | rfl) | (simp only [oo hO, ff, sl] at hi ⊢; (try simp only [gg, sl] at hi ⊢); (repeat' split) <;> first | (exfalso; omega) | (exfalso; exact absurd (Nat.lt_of_lt_of_le hi (Nat.min_le_left _ _)) (by assumption)) | (cbv <;> (repeat' apply And.intro) <;> first | trivial | rfl) | (rename_i q; subst q; cbv <;> (repeat' apply And.intro) <;> first | trivial | rfl) | (rename_i q _; subst q; cbv <;> (repeat' apply And.intro) <;> first | trivial | rfl))))

theorem c_spec_l01Finite {O : Ops} (hO : O = std) {P : Program} (hP : P = Prg) {a1 : Nat} {r1 : Bool} (h : F_spec_l01Finite O a1 = some r1) :
    Con P 93 [] [.flt .f32 a1] (.bool r1) [] := by
  refine @con_of2 O hO P hP 93 Go.Proofs.Try.f93 Go.Proofs.Try.func93 (by kernel_rfl) _ _ _ _ ?_
  unfold F_spec_l01Finite at h
  replace h := startb h
  obtain ⟨r, hr⟩ : ∃ r, r = r1 := ⟨_, rfl⟩
  rw [← hr] at h
  cbv
  refine Wp.mk ?_
  replace h := (endb h).trans hr
  cases h
  ((repeat' apply And.intro) <;> first | trivial | rfl | assumption | (simp only [oo hO, ff, sl]; done) | (simp only [oo hO, ff, sl]; omega) | (intro i hi; first | (cbv <;> (repeat' apply And.intro) <;> first | trivial | rfl) | (simp only [oo hO, ff, sl] at hi ⊢; (try simp only [gg, sl] at hi ⊢); (repeat' split) <;> first | (exfalso; omega) | (exfalso; exact absurd (Nat.lt_of_lt_of_le hi (Nat.min_le_left _ _)) (by assumption)) | (cbv <;> (repeat' apply And.intro) <;> first | trivial | rfl) | (rename_i q; subst q; cbv <;> (repeat' apply And.intro) <;> first | trivial | rfl) | (rename_i q _; subst q; cbv <;> (repeat' apply And.intro) <;> first | trivial | rfl))))

end Go.Desk
