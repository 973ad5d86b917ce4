/- Contracts of functions, printed by a program of mine (in step with V-logic). -/
import Derived.Test.YtmfbddhgfckfaaaGf
namespace Go.Desk
open Go
set_option linter.all false
set_option maxRecDepth 100000
set_option linter.unusedVariables false
set_option linter.unusedSimpArgs false
set_option maxHeartbeats 4000000
theorem c_spec_l00From {O : Ops} (hO : O = std) {P : Program} (hP : P = Prg) {a1 : (List Int)} {r1 : Gl00Src} (h : F_spec_l00From O a1 = some r1) :
    Con P 60 [] [.sl false false 1 (O.llen a1) (fun i1 => [.int .u8 (O.lget a1 i1 0)])] (.ptr 0 0) [.box [.sl false false 1 (O.llen r1.code) (fun i1 => [.int .u8 (O.lget r1.code i1 0)]), .int .i64 r1.pos, .int .u64 r1.seed]] := by
  refine @con_of2 O hO P hP 60 Go.Proofs.Try.f60 Go.Proofs.Try.func60 (by kernel_rfl) _ _ _ _ ?_
  unfold F_spec_l00From at h
  replace h := startb h
  obtain ⟨r, hr⟩ : ∃ r, r = r1 := ⟨_, rfl⟩
  rw [← hr] at h
  cbv
  refine Wp.mk ?_
  replace h := (endb h).trans hr
  cases h
  ((repeat' apply And.intro) <;> first | trivial | rfl | assumption | (simp only [oo hO, ff, sl]; done) | (simp only [oo hO, ff, sl]; omega) | (intro i hi; first | (cbv <;> (repeat' apply And.intro) <;> first | trivial | rfl) | (simp only [oo hO, ff, sl] at hi ⊢; (try simp only [gg, sl] at hi ⊢); (repeat' split) <;> first | (exfalso; omega) | (exfalso; exact absurd (Nat.lt_of_lt_of_le hi (Nat.min_le_left _ _)) (by assumption)) | (cbv <;> (repeat' apply And.intro) <;> first | trivial | rfl) | (rename_i q; subst q; cbv <;> (repeat' apply And.intro) <;> first | trivial | rfl) | (rename_i q _; subst q; cbv <;> (repeat' apply And.intro) <;> first | trivial | rfl))))

theorem c_spec_l00Src_next {O : Ops} (hO : O = std) {P : Program} (hP : P = Prg) {a1 : Gl00Src} {r1 : Int} {r2 : Gl00Src} (h : F_spec_l00Src_next O a1 = some (r1, r2)) :
    Con P 120 [.box [.sl false false 1 (O.llen a1.code) (fun i1 => [.int .u8 (O.lget a1.code i1 0)]), .int .i64 a1.pos, .int .u64 a1.seed]] [.ptr 0 0] (.int .i64 r1) [.box [.sl false false 1 (O.llen r2.code) (fun i1 => [.int .u8 (O.lget r2.code i1 0)]), .int .i64 r2.pos, .int .u64 r2.seed]] := by
  refine @con_of2 O hO P hP 120 Go.Proofs.Try.f120 Go.Proofs.Try.func120 (by kernel_rfl) _ _ _ _ ?_
  unfold F_spec_l00Src_next at h
  replace h := startb h
  obtain ⟨r, hr⟩ : ∃ r, r = (r1, r2) := ⟨_, rfl⟩
  rw [← hr] at h
  cbv
  refine Wp.mk ?_
  refine ⟨fun b_1 => ?_, fun b_1 => ?_⟩
  rotate_left
  · cbv
    replace h := condf h (by first | exact b_1 | (simp only [oo hO, sl] at b_1 ⊢; exact b_1))
    obtain ⟨g_2, h⟩ := gdb h
    refine ⟨(by first | exact g_2 | (simp only [oo hO] at g_2 ⊢; simp only [sl] at g_2 ⊢; omega)), ?_⟩
    refine ⟨fun b_3 => ?_, fun b_3 => ?_⟩
    · cbv
      replace h := condt h (by first | exact b_3 | (simp only [oo hO, sl] at b_3 ⊢; exact b_3))
      replace h := (endb h).trans hr
      cases h
      ((repeat' apply And.intro) <;> first | trivial | rfl | assumption | (simp only [oo hO, ff, sl]; done) | (simp only [oo hO, ff, sl]; omega) | (intro i hi; first | (cbv <;> (repeat' apply And.intro) <;> first | trivial | rfl) | (simp only [oo hO, ff, sl] at hi ⊢; (try simp only [gg, sl] at hi ⊢); (repeat' split) <;> first | (exfalso; omega) | (exfalso; exact absurd (Nat.lt_of_lt_of_le hi (Nat.min_le_left _ _)) (by assumption)) | (cbv <;> (repeat' apply And.intro) <;> first | trivial | rfl) | (rename_i q; subst q; cbv <;> (repeat' apply And.intro) <;> first | trivial | rfl) | (rename_i q _; subst q; cbv <;> (repeat' apply And.intro) <;> first | trivial | rfl))))
    cbv
    replace h := condf h (by first | exact b_3 | (simp only [oo hO, sl] at b_3 ⊢; exact b_3))
    obtain ⟨g_4, h⟩ := gdb h
    have qg_4 := g_4; simp only [oo hO, ff, sl] at qg_4
    obtain ⟨g_5, h⟩ := gdb h
    have qg_5 := g_5; simp only [oo hO, ff, sl] at qg_5
    refine ⟨(by first | exact g_4 | (simp only [oo hO] at g_4 ⊢; simp only [sl] at g_4 ⊢; omega)), (by first | exact g_5 | (simp only [oo hO] at g_5 ⊢; simp only [sl] at g_5 ⊢; omega)), ?_⟩
    replace h := (endb h).trans hr
    cases h
    ((repeat' apply And.intro) <;> first | trivial | rfl | assumption | (simp only [oo hO, ff, sl]; done) | (simp only [oo hO, ff, sl]; omega) | (intro i hi; first | (cbv <;> (repeat' apply And.intro) <;> first | trivial | rfl) | (simp only [oo hO, ff, sl] at hi ⊢; (try simp only [gg, sl] at hi ⊢); (repeat' split) <;> first | (exfalso; omega) | (exfalso; exact absurd (Nat.lt_of_lt_of_le hi (Nat.min_le_left _ _)) (by assumption)) | (cbv <;> (repeat' apply And.intro) <;> first | trivial | rfl) | (rename_i q; subst q; cbv <;> (repeat' apply And.intro) <;> first | trivial | rfl) | (rename_i q _; subst q; cbv <;> (repeat' apply And.intro) <;> first | trivial | rfl))))
  cbv
  replace h := condt h (by first | exact b_1 | (simp only [oo hO, sl] at b_1 ⊢; exact b_1))
  obtain ⟨g_6, h⟩ := gdb h
  refine ⟨(by first | exact g_6 | (simp only [oo hO] at g_6 ⊢; simp only [sl] at g_6 ⊢; omega)), ?_⟩
  obtain ⟨g_7, h⟩ := gdb h
  refine ⟨(by first | exact g_7 | (simp only [oo hO] at g_7 ⊢; simp only [sl] at g_7 ⊢; omega)), ?_⟩
  refine ⟨fun b_8 => ?_, fun b_8 => ?_⟩
  · cbv
    replace h := condt h (by first | exact b_8 | (simp only [oo hO, sl] at b_8 ⊢; exact b_8))
    replace h := (endb h).trans hr
    cases h
    ((repeat' apply And.intro) <;> first | trivial | rfl | assumption | (simp only [oo hO, ff, sl]; done) | (simp only [oo hO, ff, sl]; omega) | (intro i hi; first | (cbv <;> (repeat' apply And.intro) <;> first | trivial | rfl) | (simp only [oo hO, ff, sl] at hi ⊢; (try simp only [gg, sl] at hi ⊢); (repeat' split) <;> first | (exfalso; omega) | (exfalso; exact absurd (Nat.lt_of_lt_of_le hi (Nat.min_le_left _ _)) (by assumption)) | (cbv <;> (repeat' apply And.intro) <;> first | trivial | rfl) | (rename_i q; subst q; cbv <;> (repeat' apply And.intro) <;> first | trivial | rfl) | (rename_i q _; subst q; cbv <;> (repeat' apply And.intro) <;> first | trivial | rfl))))
  cbv
  replace h := condf h (by first | exact b_8 | (simp only [oo hO, sl] at b_8 ⊢; exact b_8))
  obtain ⟨g_9, h⟩ := gdb h
  have qg_9 := g_9; simp only [oo hO, ff, sl] at qg_9
  obtain ⟨g_10, h⟩ := gdb h
  have qg_10 := g_10; simp only [oo hO, ff, sl] at qg_10
  refine ⟨(by first | exact g_9 | (simp only [oo hO] at g_9 ⊢; simp only [sl] at g_9 ⊢; omega)), (by first | exact g_10 | (simp only [oo hO] at g_10 ⊢; simp only [sl] at g_10 ⊢; omega)), ?_⟩
  replace h := (endb h).trans hr
  cases h
  ((repeat' apply And.intro) <;> first | trivial | rfl | assumption | (simp only [oo hO, ff, sl]; done) | (simp only [oo hO, ff, sl]; omega) | (intro i hi; first | (cbv <;> (repeat' apply And.intro) <;> first | trivial | rfl) | (simp only [oo hO, ff, sl] at hi ⊢; (try simp only [gg, sl] at hi ⊢); (repeat' split) <;> first | (exfalso; omega) | (exfalso; exact absurd (Nat.lt_of_lt_of_le hi (Nat.min_le_left _ _)) (by assumption)) | (cbv <;> (repeat' apply And.intro) <;> first | trivial | rfl) | (rename_i q; subst q; cbv <;> (repeat' apply And.intro) <;> first | trivial | rfl) | (rename_i q _; subst q; cbv <;> (repeat' apply And.intro) <;> first | trivial | rfl))))

theorem c_spec_l00Src_pick {O : Ops} (hO : O = std) {P : Program} (hP : P = Prg) {a1 : Gl00Src} {a2 : Int} {r1 : Int} {r2 : Gl00Src} (h : F_spec_l00Src_pick O a1 a2 = some (r1, r2)) :
    Con P 63 [.box [.sl false false 1 (O.llen a1.code) (fun i1 => [.int .u8 (O.lget a1.code i1 0)]), .int .i64 a1.pos, .int .u64 a1.seed]] [.ptr 0 0, .int .i64 a2] (.int .i64 r1) [.box [.sl false false 1 (O.llen r2.code) (fun i1 => [.int .u8 (O.lget r2.code i1 0)]), .int .i64 r2.pos, .int .u64 r2.seed]] := by
  refine @con_of2 O hO P hP 63 Go.Proofs.Try.f63 Go.Proofs.Try.func63 (by kernel_rfl) _ _ _ _ ?_
  unfold F_spec_l00Src_pick at h
  replace h := startb h
  obtain ⟨r, hr⟩ : ∃ r, r = (r1, r2) := ⟨_, rfl⟩
  rw [← hr] at h
  cbv
  refine Wp.mk ?_
  refine ⟨fun b_1 => ?_, fun b_1 => ?_⟩
  · cbv
    replace h := condt h (by first | exact b_1 | (simp only [oo hO, sl] at b_1 ⊢; exact b_1))
    replace h := (endb h).trans hr
    cases h
    ((repeat' apply And.intro) <;> first | trivial | rfl | assumption | (simp only [oo hO, ff, sl]; done) | (simp only [oo hO, ff, sl]; omega) | (intro i hi; first | (cbv <;> (repeat' apply And.intro) <;> first | trivial | rfl) | (simp only [oo hO, ff, sl] at hi ⊢; (try simp only [gg, sl] at hi ⊢); (repeat' split) <;> first | (exfalso; omega) | (exfalso; exact absurd (Nat.lt_of_lt_of_le hi (Nat.min_le_left _ _)) (by assumption)) | (cbv <;> (repeat' apply And.intro) <;> first | trivial | rfl) | (rename_i q; subst q; cbv <;> (repeat' apply And.intro) <;> first | trivial | rfl) | (rename_i q _; subst q; cbv <;> (repeat' apply And.intro) <;> first | trivial | rfl))))
  cbv
  replace h := condf h (by first | exact b_1 | (simp only [oo hO, sl] at b_1 ⊢; exact b_1))
  obtain ⟨⟨v1, v2⟩, e_2, h⟩ := callb h
  refine ⟨[0], _, _, _, _, true, c_spec_l00Src_next hO hP e_2, ?_⟩
  cbv
  refine ⟨(by (repeat' apply And.intro) <;> first | trivial | rfl), (by (repeat' apply And.intro) <;> first | trivial | rfl | (intro i hi; first | (cbv <;> (repeat' apply And.intro) <;> first | trivial | rfl) | (simp only [oo hO, sl]; cbv <;> (repeat' apply And.intro) <;> first | trivial | rfl))), ?_⟩
  refine ⟨fun b_3 => ?_, fun b_3 => ?_⟩
  rotate_left
  · cbv
    replace h := condf h (by first | exact b_3 | (simp only [oo hO, sl] at b_3 ⊢; exact b_3))
    obtain ⟨g_4, h⟩ := gdb h
    refine ⟨(by first | exact g_4 | (simp only [oo hO] at g_4 ⊢; simp only [sl] at g_4 ⊢; omega)), ?_⟩
    replace h := (endb h).trans hr
    cases h
    ((repeat' apply And.intro) <;> first | trivial | rfl | assumption | (simp only [oo hO, ff, sl]; done) | (simp only [oo hO, ff, sl]; omega) | (intro i hi; first | (cbv <;> (repeat' apply And.intro) <;> first | trivial | rfl) | (simp only [oo hO, ff, sl] at hi ⊢; (try simp only [gg, sl] at hi ⊢); (repeat' split) <;> first | (exfalso; omega) | (exfalso; exact absurd (Nat.lt_of_lt_of_le hi (Nat.min_le_left _ _)) (by assumption)) | (cbv <;> (repeat' apply And.intro) <;> first | trivial | rfl) | (rename_i q; subst q; cbv <;> (repeat' apply And.intro) <;> first | trivial | rfl) | (rename_i q _; subst q; cbv <;> (repeat' apply And.intro) <;> first | trivial | rfl))))
  cbv
  replace h := condt h (by first | exact b_3 | (simp only [oo hO, sl] at b_3 ⊢; exact b_3))
  obtain ⟨g_5, h⟩ := gdb h
  refine ⟨(by first | exact g_5 | (simp only [oo hO] at g_5 ⊢; simp only [sl] at g_5 ⊢; omega)), ?_⟩
  obtain ⟨⟨v3, v4⟩, e_6, h⟩ := callb h
  refine ⟨[0], _, _, _, _, true, c_spec_l00Src_next hO hP e_6, ?_⟩
  cbv
  refine ⟨(by (repeat' apply And.intro) <;> first | trivial | rfl), (by (repeat' apply And.intro) <;> first | trivial | rfl | (intro i hi; first | (cbv <;> (repeat' apply And.intro) <;> first | trivial | rfl) | (simp only [oo hO, sl]; cbv <;> (repeat' apply And.intro) <;> first | trivial | rfl))), ?_⟩
  obtain ⟨g_7, h⟩ := gdb h
  refine ⟨(by first | exact g_7 | (simp only [oo hO] at g_7 ⊢; simp only [sl] at g_7 ⊢; omega)), ?_⟩
  obtain ⟨g_8, h⟩ := gdb h
  refine ⟨(by first | exact g_8 | (simp only [oo hO] at g_8 ⊢; simp only [sl] at g_8 ⊢; omega)), ?_⟩
  replace h := (endb h).trans hr
  cases h
  ((repeat' apply And.intro) <;> first | trivial | rfl | assumption | (simp only [oo hO, ff, sl]; done) | (simp only [oo hO, ff, sl]; omega) | (intro i hi; first | (cbv <;> (repeat' apply And.intro) <;> first | trivial | rfl) | (simp only [oo hO, ff, sl] at hi ⊢; (try simp only [gg, sl] at hi ⊢); (repeat' split) <;> first | (exfalso; omega) | (exfalso; exact absurd (Nat.lt_of_lt_of_le hi (Nat.min_le_left _ _)) (by assumption)) | (cbv <;> (repeat' apply And.intro) <;> first | trivial | rfl) | (rename_i q; subst q; cbv <;> (repeat' apply And.intro) <;> first | trivial | rfl) | (rename_i q _; subst q; cbv <;> (repeat' apply And.intro) <;> first | trivial | rfl))))

theorem c_spec_l00Src_one {O : Ops} (hO : O = std) {P : Program} (hP : P = Prg) {a1 : Gl00Src} {a2 : Int} {r1 : Bool} {r2 : Gl00Src} (h : F_spec_l00Src_one O a1 a2 = some (r1, r2)) :
    Con P 113 [.box [.sl false false 1 (O.llen a1.code) (fun i1 => [.int .u8 (O.lget a1.code i1 0)]), .int .i64 a1.pos, .int .u64 a1.seed]] [.ptr 0 0, .int .i64 a2] (.bool r1) [.box [.sl false false 1 (O.llen r2.code) (fun i1 => [.int .u8 (O.lget r2.code i1 0)]), .int .i64 r2.pos, .int .u64 r2.seed]] := by
  refine @con_of2 O hO P hP 113 Go.Proofs.Try.f113 Go.Proofs.Try.func113 (by kernel_rfl) _ _ _ _ ?_
  unfold F_spec_l00Src_one at h
  replace h := startb h
  obtain ⟨r, hr⟩ : ∃ r, r = (r1, r2) := ⟨_, rfl⟩
  rw [← hr] at h
  cbv
  refine Wp.mk ?_
  obtain ⟨⟨v1, v2⟩, e_1, h⟩ := callb h
  refine ⟨[0], _, _, _, _, true, c_spec_l00Src_pick hO hP e_1, ?_⟩
  cbv
  refine ⟨(by (repeat' apply And.intro) <;> first | trivial | rfl), (by (repeat' apply And.intro) <;> first | trivial | rfl | (intro i hi; first | (cbv <;> (repeat' apply And.intro) <;> first | trivial | rfl) | (simp only [oo hO, sl]; cbv <;> (repeat' apply And.intro) <;> first | trivial | rfl))), ?_⟩
  replace h := (endb h).trans hr
  cases h
  ((repeat' apply And.intro) <;> first | trivial | rfl | assumption | (simp only [oo hO, ff, sl]; done) | (simp only [oo hO, ff, sl]; omega) | (intro i hi; first | (cbv <;> (repeat' apply And.intro) <;> first | trivial | rfl) | (simp only [oo hO, ff, sl] at hi ⊢; (try simp only [gg, sl] at hi ⊢); (repeat' split) <;> first | (exfalso; omega) | (exfalso; exact absurd (Nat.lt_of_lt_of_le hi (Nat.min_le_left _ _)) (by assumption)) | (cbv <;> (repeat' apply And.intro) <;> first | trivial | rfl) | (rename_i q; subst q; cbv <;> (repeat' apply And.intro) <;> first | trivial | rfl) | (rename_i q _; subst q; cbv <;> (repeat' apply And.intro) <;> first | trivial | rfl))))

theorem c_spec_l01DrawPlain {O : Ops} (hO : O = std) {P : Program} (hP : P = Prg) {a1 : Gl00Src} {r1 : Nat} {r2 : Gl00Src} (h : F_spec_l01DrawPlain O a1 = some (r1, r2)) :
    Con P 72 [.box [.sl false false 1 (O.llen a1.code) (fun i1 => [.int .u8 (O.lget a1.code i1 0)]), .int .i64 a1.pos, .int .u64 a1.seed]] [.ptr 0 0] (.flt .f32 r1) [.box [.sl false false 1 (O.llen r2.code) (fun i1 => [.int .u8 (O.lget r2.code i1 0)]), .int .i64 r2.pos, .int .u64 r2.seed]] := by
  refine @con_of2 O hO P hP 72 Go.Proofs.Try.f72 Go.Proofs.Try.func72 (by kernel_rfl) _ _ _ _ ?_
  unfold F_spec_l01DrawPlain at h
  replace h := startb h
  obtain ⟨r, hr⟩ : ∃ r, r = (r1, r2) := ⟨_, rfl⟩
  rw [← hr] at h
  cbv
  refine Wp.mk ?_
  obtain ⟨⟨v1, v2⟩, e_1, h⟩ := callb h
  refine ⟨[0], _, _, _, _, true, c_spec_l00Src_pick hO hP e_1, ?_⟩
  cbv
  refine ⟨(by (repeat' apply And.intro) <;> first | trivial | rfl), (by (repeat' apply And.intro) <;> first | trivial | rfl | (intro i hi; first | (cbv <;> (repeat' apply And.intro) <;> first | trivial | rfl) | (simp only [oo hO, sl]; cbv <;> (repeat' apply And.intro) <;> first | trivial | rfl))), ?_⟩
  obtain ⟨g_2, h⟩ := gdb h
  refine ⟨(by first | exact g_2 | (simp only [oo hO] at g_2 ⊢; simp only [sl] at g_2 ⊢; omega)), ?_⟩
  obtain ⟨⟨v3, v4⟩, e_3, h⟩ := callb h
  refine ⟨[0], _, _, _, _, true, c_spec_l00Src_one hO hP e_3, ?_⟩
  cbv
  refine ⟨(by (repeat' apply And.intro) <;> first | trivial | rfl), (by (repeat' apply And.intro) <;> first | trivial | rfl | (intro i hi; first | (cbv <;> (repeat' apply And.intro) <;> first | trivial | rfl) | (simp only [oo hO, sl]; cbv <;> (repeat' apply And.intro) <;> first | trivial | rfl))), ?_⟩
  refine ⟨fun b_4 => ?_, fun b_4 => ?_⟩
  · cbv
    replace h := condt h (by first | exact b_4 | (simp only [oo hO, sl] at b_4 ⊢; exact b_4))
    replace h := (endb h).trans hr
    cases h
    ((repeat' apply And.intro) <;> first | trivial | rfl | assumption | (simp only [oo hO, ff, sl]; done) | (simp only [oo hO, ff, sl]; omega) | (intro i hi; first | (cbv <;> (repeat' apply And.intro) <;> first | trivial | rfl) | (simp only [oo hO, ff, sl] at hi ⊢; (try simp only [gg, sl] at hi ⊢); (repeat' split) <;> first | (exfalso; omega) | (exfalso; exact absurd (Nat.lt_of_lt_of_le hi (Nat.min_le_left _ _)) (by assumption)) | (cbv <;> (repeat' apply And.intro) <;> first | trivial | rfl) | (rename_i q; subst q; cbv <;> (repeat' apply And.intro) <;> first | trivial | rfl) | (rename_i q _; subst q; cbv <;> (repeat' apply And.intro) <;> first | trivial | rfl))))
  cbv
  replace h := condf h (by first | exact b_4 | (simp only [oo hO, sl] at b_4 ⊢; exact b_4))
  replace h := (endb h).trans hr
  cases h
  ((repeat' apply And.intro) <;> first | trivial | rfl | assumption | (simp only [oo hO, ff, sl]; done) | (simp only [oo hO, ff, sl]; omega) | (intro i hi; first | (cbv <;> (repeat' apply And.intro) <;> first | trivial | rfl) | (simp only [oo hO, ff, sl] at hi ⊢; (try simp only [gg, sl] at hi ⊢); (repeat' split) <;> first | (exfalso; omega) | (exfalso; exact absurd (Nat.lt_of_lt_of_le hi (Nat.min_le_left _ _)) (by assumption)) | (cbv <;> (repeat' apply And.intro) <;> first | trivial | rfl) | (rename_i q; subst q; cbv <;> (repeat' apply And.intro) <;> first | trivial | rfl) | (rename_i q _; subst q; cbv <;> (repeat' apply And.intro) <;> first | trivial | rfl))))

theorem c_impl_within {O : Ops} (hO : O = std) {P : Program} (hP : P = Prg) {a1 : Int} {a2 : Int} {a3 : Int} {r1 : Bool} (h : F_impl_within O a1 a2 a3 = some r1) :
    Con P 110 [] [.int .i64 a1, .int .i64 a2, .int .i64 a3] (.bool r1) [] := by
  refine @con_of2 O hO P hP 110 Go.Proofs.Try.f110 Go.Proofs.Try.func110 (by kernel_rfl) _ _ _ _ ?_
  unfold F_impl_within at h
  replace h := startb h
  obtain ⟨r, hr⟩ : ∃ r, r = r1 := ⟨_, rfl⟩
  rw [← hr] at h
  cbv
  refine Wp.mk ?_
  refine ⟨fun b_1 => ?_, fun b_1 => ?_⟩
  · cbv
    replace h := condt h (by first | exact b_1 | (simp only [oo hO, sl] at b_1 ⊢; exact b_1))
    refine ⟨?_, ?_⟩
    rotate_left
    · first | (intro q; cases q; done) | trivial
    try intro _
    cbv
    refine ⟨?_, ?_⟩
    rotate_left
    · first | (intro q; cases q; done) | trivial
    try intro _
    cbv
    refine ⟨?_, ?_⟩
    rotate_left
    · first | (intro q; cases q; done) | trivial
    try intro _
    cbv
    replace h := (endb h).trans hr
    cases h
    ((repeat' apply And.intro) <;> first | trivial | rfl | assumption | (simp only [oo hO, ff, sl]; done) | (simp only [oo hO, ff, sl]; omega) | (intro i hi; first | (cbv <;> (repeat' apply And.intro) <;> first | trivial | rfl) | (simp only [oo hO, ff, sl] at hi ⊢; (try simp only [gg, sl] at hi ⊢); (repeat' split) <;> first | (exfalso; omega) | (exfalso; exact absurd (Nat.lt_of_lt_of_le hi (Nat.min_le_left _ _)) (by assumption)) | (cbv <;> (repeat' apply And.intro) <;> first | trivial | rfl) | (rename_i q; subst q; cbv <;> (repeat' apply And.intro) <;> first | trivial | rfl) | (rename_i q _; subst q; cbv <;> (repeat' apply And.intro) <;> first | trivial | rfl))))
  cbv
  replace h := condf h (by first | exact b_1 | (simp only [oo hO, sl] at b_1 ⊢; exact b_1))
  refine ⟨?_, ?_⟩
  · first | (intro q; cases q; done) | trivial
  try intro _
  cbv
  refine ⟨?_, ?_⟩
  · first | (intro q; cases q; done) | trivial
  try intro _
  cbv
  refine ⟨?_, ?_⟩
  · first | (intro q; cases q; done) | trivial
  try intro _
  cbv
  replace h := (endb h).trans hr
  cases h
  ((repeat' apply And.intro) <;> first | trivial | rfl | assumption | (simp only [oo hO, ff, sl]; done) | (simp only [oo hO, ff, sl]; omega) | (intro i hi; first | (cbv <;> (repeat' apply And.intro) <;> first | trivial | rfl) | (simp only [oo hO, ff, sl] at hi ⊢; (try simp only [gg, sl] at hi ⊢); (repeat' split) <;> first | (exfalso; omega) | (exfalso; exact absurd (Nat.lt_of_lt_of_le hi (Nat.min_le_left _ _)) (by assumption)) | (cbv <;> (repeat' apply And.intro) <;> first | trivial | rfl) | (rename_i q; subst q; cbv <;> (repeat' apply And.intro) <;> first | trivial | rfl) | (rename_i q _; subst q; cbv <;> (repeat' apply And.intro) <;> first | trivial | rfl))))

end Go.Desk
