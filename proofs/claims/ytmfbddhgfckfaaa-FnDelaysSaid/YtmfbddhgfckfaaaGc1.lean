/- Contracts of functions, printed by a program of mine (in step with V-logic). -/
import Derived.Test.YtmfbddhgfckfaaaGabcdef1
import Derived.Test.YtmfbddhgfckfaaaGabcef1
import Derived.Test.YtmfbddhgfckfaaaGace1
import Derived.Test.YtmfbddhgfckfaaaGacef1
import Derived.Test.YtmfbddhgfckfaaaGcd1
import Derived.Test.YtmfbddhgfckfaaaGcdef1
import Derived.Test.YtmfbddhgfckfaaaGce1
import Derived.Test.YtmfbddhgfckfaaaGcef1
import Derived.Test.YtmfbddhgfckfaaaGcf1
import Derived.Test.YtmfbddhgfckfaaaGf
namespace Go.Desk
open Go
set_option linter.all false
set_option maxRecDepth 100000
set_option linter.unusedVariables false
set_option linter.unusedSimpArgs false
set_option maxHeartbeats 4000000
theorem c_spec_B10Delay {O : Ops} (hO : O = std) {P : Program} (hP : P = Prg) {a1 : (List Int)} {r1 : GDelay} (h : F_spec_B10Delay O a1 = some r1) :
    Con P 28 [] [.sl false false 1 (O.llen a1) (fun i1 => [.int .u8 (O.lget a1 i1 0)])] (.agg [.int .i64 r1.Length, .flt .f32 r1.Feedback, .flt .f32 r1.Dry, .flt .f32 r1.Wet, .bool r1.Flush]) [] := by
  refine @con_of2 O hO P hP 28 Go.Proofs.Try.f28 Go.Proofs.Try.func28 (by kernel_rfl) _ _ _ _ ?_
  unfold F_spec_B10Delay at h
  replace h := startb h
  obtain ⟨r, hr⟩ : ∃ r, r = r1 := ⟨_, rfl⟩
  rw [← hr] at h
  cbv
  refine Wp.mk ?_
  obtain ⟨v1, e_1, h⟩ := callb h
  refine ⟨[], _, _, _, _, true, c_spec_l00From hO hP e_1, ?_⟩
  cbv
  refine ⟨(by (repeat' apply And.intro) <;> first | trivial | rfl | (intro i hi; first | (cbv <;> (repeat' apply And.intro) <;> first | trivial | rfl) | (simp only [oo hO, sl]; cbv <;> (repeat' apply And.intro) <;> first | trivial | rfl))), (by (repeat' apply And.intro) <;> first | trivial | rfl), ?_⟩
  obtain ⟨⟨v2, v3⟩, e_2, h⟩ := callb h
  refine ⟨[80], _, _, _, _, true, c_spec_l03DrawDelay hO hP e_2, ?_⟩
  cbv
  refine ⟨(by (repeat' apply And.intro) <;> first | trivial | rfl), (by (repeat' apply And.intro) <;> first | trivial | rfl | (intro i hi; first | (cbv <;> (repeat' apply And.intro) <;> first | trivial | rfl) | (simp only [oo hO, sl]; cbv <;> (repeat' apply And.intro) <;> first | trivial | rfl))), ?_⟩
  replace h := (endb h).trans hr
  cases h
  ((repeat' apply And.intro) <;> first | trivial | rfl | assumption | (simp only [oo hO, ff, sl]; done) | (simp only [oo hO, ff, sl]; omega) | (intro i hi; first | (cbv <;> (repeat' apply And.intro) <;> first | trivial | rfl) | (simp only [oo hO, ff, sl] at hi ⊢; (try simp only [gg, sl] at hi ⊢); (repeat' split) <;> first | (exfalso; omega) | (exfalso; exact absurd (Nat.lt_of_lt_of_le hi (Nat.min_le_left _ _)) (by assumption)) | (cbv <;> (repeat' apply And.intro) <;> first | trivial | rfl) | (rename_i q; subst q; cbv <;> (repeat' apply And.intro) <;> first | trivial | rfl) | (rename_i q _; subst q; cbv <;> (repeat' apply And.intro) <;> first | trivial | rfl))))

theorem c_impl_RunPass {O : Ops} (hO : O = std) {P : Program} (hP : P = Prg) {a1 : GPass} {a2 : (List Nat)} {a3 : (List Nat)} {r1 : (List Nat)} {r2 : (List Nat)} {r3 : Bool} (h : F_impl_RunPass O a1 a2 a3 = some (r1, r2, r3)) :
    Con P 34 [] [.agg [.int .i64 a1.Length, .flt .f32 a1.Gain], .sl false false 1 (O.llen a2) (fun i1 => [.flt .f32 (O.lget a2 i1 0)]), .sl false false 1 (O.llen a3) (fun i1 => [.flt .f32 (O.lget a3 i1 0)])] (.tup [.osl 0 1 0 (O.llen r1), .osl 1 1 0 (O.llen r2), .bool r3]) [.arr true true 1 (O.llen r1) (fun i1 => [.flt .f32 (O.lget r1 i1 0)]), .arr true false 1 (O.llen r2) (fun i1 => [.flt .f32 (O.lget r2 i1 0)])] := by
  refine @con_of2 O hO P hP 34 Go.Proofs.Try.f34 Go.Proofs.Try.func34 (by kernel_rfl) _ _ _ _ ?_
  unfold F_impl_RunPass at h
  replace h := startb h
  obtain ⟨r, hr⟩ : ∃ r, r = (r1, r2, r3) := ⟨_, rfl⟩
  rw [← hr] at h
  cbv
  refine Wp.mk ?_
  obtain ⟨v1, e_1, h⟩ := callb h
  refine ⟨[], _, _, _, _, false, c_impl_isLength hO hP e_1, ?_⟩
  cbv
  refine ⟨(by (repeat' apply And.intro) <;> first | trivial | rfl), (by (repeat' apply And.intro) <;> first | trivial | rfl), ?_⟩
  refine ⟨fun b_2 => ?_, fun b_2 => ?_⟩
  · cbv
    replace h := condt h (by first | exact b_2 | (simp only [oo hO, sl] at b_2 ⊢; exact b_2))
    refine ⟨?_, ?_⟩
    rotate_left
    · first | (intro q; cases q; done) | trivial
    try intro _
    cbv
    refine ⟨?_, ?_⟩
    rotate_left
    · first | (intro q; cases q; done) | trivial
    try intro _
    cbv
    refine ⟨?_, ?_⟩
    rotate_left
    · first | (intro q; cases q; done) | trivial
    try intro _
    cbv
    refine ⟨?_, ?_⟩
    rotate_left
    · first | (intro q; cases q; done) | trivial
    try intro _
    cbv
    replace h := (endb h).trans hr
    cases h
    ((repeat' apply And.intro) <;> first | trivial | rfl | assumption | (simp only [oo hO, ff, sl]; done) | (simp only [oo hO, ff, sl]; omega) | (intro i hi; first | (cbv <;> (repeat' apply And.intro) <;> first | trivial | rfl) | (simp only [oo hO, ff, sl] at hi ⊢; (try simp only [gg, sl] at hi ⊢); (repeat' split) <;> first | (exfalso; omega) | (exfalso; exact absurd (Nat.lt_of_lt_of_le hi (Nat.min_le_left _ _)) (by assumption)) | (cbv <;> (repeat' apply And.intro) <;> first | trivial | rfl) | (rename_i q; subst q; cbv <;> (repeat' apply And.intro) <;> first | trivial | rfl) | (rename_i q _; subst q; cbv <;> (repeat' apply And.intro) <;> first | trivial | rfl))))
  cbv
  replace h := condf h (by first | exact b_2 | (simp only [oo hO, sl] at b_2 ⊢; exact b_2))
  obtain ⟨v2, e_3, h⟩ := callb h
  refine ⟨[], _, _, _, _, false, c_impl_size hO hP e_3, ?_⟩
  cbv
  refine ⟨(by (repeat' apply And.intro) <;> first | trivial | rfl), (by (repeat' apply And.intro) <;> first | trivial | rfl), ?_⟩
  refine ⟨?_, ?_⟩
  · first | (intro q; cases q; done) | trivial
  try intro _
  cbv
  refine ⟨fun b_4 => ?_, fun b_4 => ?_⟩
  · cbv
    replace h := condt h (by first | exact b_4 | (simp only [oo hO, sl] at b_4 ⊢; exact b_4))
    refine ⟨?_, ?_⟩
    rotate_left
    · first | (intro q; cases q; done) | trivial
    try intro _
    cbv
    refine ⟨?_, ?_⟩
    rotate_left
    · first | (intro q; cases q; done) | trivial
    try intro _
    cbv
    replace h := (endb h).trans hr
    cases h
    ((repeat' apply And.intro) <;> first | trivial | rfl | assumption | (simp only [oo hO, ff, sl]; done) | (simp only [oo hO, ff, sl]; omega) | (intro i hi; first | (cbv <;> (repeat' apply And.intro) <;> first | trivial | rfl) | (simp only [oo hO, ff, sl] at hi ⊢; (try simp only [gg, sl] at hi ⊢); (repeat' split) <;> first | (exfalso; omega) | (exfalso; exact absurd (Nat.lt_of_lt_of_le hi (Nat.min_le_left _ _)) (by assumption)) | (cbv <;> (repeat' apply And.intro) <;> first | trivial | rfl) | (rename_i q; subst q; cbv <;> (repeat' apply And.intro) <;> first | trivial | rfl) | (rename_i q _; subst q; cbv <;> (repeat' apply And.intro) <;> first | trivial | rfl))))
  cbv
  replace h := condf h (by first | exact b_4 | (simp only [oo hO, sl] at b_4 ⊢; exact b_4))
  obtain ⟨v3, e_5, h⟩ := callb h
  refine ⟨[], _, _, _, _, false, c_impl_areSamples hO hP e_5, ?_⟩
  cbv
  refine ⟨(by (repeat' apply And.intro) <;> first | trivial | rfl | (intro i hi; first | (cbv <;> (repeat' apply And.intro) <;> first | trivial | rfl) | (simp only [oo hO, sl]; cbv <;> (repeat' apply And.intro) <;> first | trivial | rfl))), (by (repeat' apply And.intro) <;> first | trivial | rfl), ?_⟩
  refine ⟨?_, ?_⟩
  · first | (intro q; cases q; done) | trivial
  try intro _
  cbv
  refine ⟨fun b_6 => ?_, fun b_6 => ?_⟩
  · cbv
    replace h := condt h (by first | exact b_6 | (simp only [oo hO, sl] at b_6 ⊢; exact b_6))
    replace h := (endb h).trans hr
    cases h
    ((repeat' apply And.intro) <;> first | trivial | rfl | assumption | (simp only [oo hO, ff, sl]; done) | (simp only [oo hO, ff, sl]; omega) | (intro i hi; first | (cbv <;> (repeat' apply And.intro) <;> first | trivial | rfl) | (simp only [oo hO, ff, sl] at hi ⊢; (try simp only [gg, sl] at hi ⊢); (repeat' split) <;> first | (exfalso; omega) | (exfalso; exact absurd (Nat.lt_of_lt_of_le hi (Nat.min_le_left _ _)) (by assumption)) | (cbv <;> (repeat' apply And.intro) <;> first | trivial | rfl) | (rename_i q; subst q; cbv <;> (repeat' apply And.intro) <;> first | trivial | rfl) | (rename_i q _; subst q; cbv <;> (repeat' apply And.intro) <;> first | trivial | rfl))))
  cbv
  replace h := condf h (by first | exact b_6 | (simp only [oo hO, sl] at b_6 ⊢; exact b_6))
  obtain ⟨v4, e_7, h⟩ := callb h
  refine ⟨[], _, _, _, _, true, c_impl_copyNumbers hO hP e_7, ?_⟩
  cbv
  refine ⟨(by (repeat' apply And.intro) <;> first | trivial | rfl | (intro i hi; first | (cbv <;> (repeat' apply And.intro) <;> first | trivial | rfl) | (simp only [oo hO, sl]; cbv <;> (repeat' apply And.intro) <;> first | trivial | rfl))), (by (repeat' apply And.intro) <;> first | trivial | rfl), ?_⟩
  obtain ⟨R_8, hR_8, h⟩ := loopb h
  refine ⟨{ x : Nat × (List Nat) × (List Nat) × Int // (F_impl_RunPass_l0 O a1 a3 x.1 x.2.1 x.2.2.1 x.2.2.2).bind R_8 = some r }, fun x => ⟨[(3, .ptr 15 0), (9, .osl 31 1 0 (O.llen x.1.2.1)), (10, .osl 47 1 0 (O.llen x.1.2.2.1)), (34, .sl false false 1 (O.llen a3) (fun i1 => [.flt .f32 (O.lget a3 i1 0)])), (35, .int .i64 (O.ofN (O.llen a3))), (36, .int .i64 x.1.2.2.2)], [(15, .box [.int .i64 a1.Length, .flt .f32 a1.Gain]), (31, .arr true false 1 (O.llen x.1.2.1) (fun i1 => [.flt .f32 (O.lget x.1.2.1 i1 0)])), (47, .arr true true 1 (O.llen x.1.2.2.1) (fun i1 => [.flt .f32 (O.lget x.1.2.2.1 i1 0)]))]⟩, fun x => x.1.1, ⟨(KK, v4, ([] : List Nat), 0), h⟩, ?_, ?_⟩
  · (cbv <;> ((repeat' apply And.intro) <;> first | trivial | rfl | assumption | (simp only [oo hO, ff, sl]; done) | (simp only [oo hO, ff, sl]; omega) | (intro i hi; first | (cbv <;> (repeat' apply And.intro) <;> first | trivial | rfl) | (simp only [oo hO, ff, sl] at hi ⊢; (try simp only [gg, sl] at hi ⊢); (repeat' split) <;> first | (exfalso; omega) | (exfalso; exact absurd (Nat.lt_of_lt_of_le hi (Nat.min_le_left _ _)) (by assumption)) | (cbv <;> (repeat' apply And.intro) <;> first | trivial | rfl) | (rename_i q; subst q; cbv <;> (repeat' apply And.intro) <;> first | trivial | rfl) | (rename_i q _; subst q; cbv <;> (repeat' apply And.intro) <;> first | trivial | rfl)))))
  rintro ⟨⟨k_9, p7, p8, p9⟩, h⟩
  rcases k_9 with _ | k_9
  · cases noneb rfl h
  rw [F_impl_RunPass_l0.eq_2] at h
  cbv
  refine ⟨fun b_10 => ?_, fun b_10 => ?_⟩
  rotate_left
  · cbv
    replace h := condf h (by first | exact b_10 | (simp only [oo hO, sl] at b_10 ⊢; exact b_10))
    replace h := leafb h hR_8
    replace h := (endb h).trans hr
    cases h
    ((repeat' apply And.intro) <;> first | trivial | rfl | assumption | (simp only [oo hO, ff, sl]; done) | (simp only [oo hO, ff, sl]; omega) | (intro i hi; first | (cbv <;> (repeat' apply And.intro) <;> first | trivial | rfl) | (simp only [oo hO, ff, sl] at hi ⊢; (try simp only [gg, sl] at hi ⊢); (repeat' split) <;> first | (exfalso; omega) | (exfalso; exact absurd (Nat.lt_of_lt_of_le hi (Nat.min_le_left _ _)) (by assumption)) | (cbv <;> (repeat' apply And.intro) <;> first | trivial | rfl) | (rename_i q; subst q; cbv <;> (repeat' apply And.intro) <;> first | trivial | rfl) | (rename_i q _; subst q; cbv <;> (repeat' apply And.intro) <;> first | trivial | rfl))))
  cbv
  replace h := condt h (by first | exact b_10 | (simp only [oo hO, sl] at b_10 ⊢; exact b_10))
  obtain ⟨g_11, h⟩ := gdb h
  refine ⟨(by first | exact g_11 | (simp only [oo hO] at g_11 ⊢; simp only [sl] at g_11 ⊢; omega)), ?_⟩
  obtain ⟨⟨v5, v6⟩, e_12, h⟩ := callb h
  refine ⟨[], _, _, _, _, true, c_impl_Pass_step hO hP e_12, ?_⟩
  cbv
  refine ⟨(by first | trivial | (simp only [oo hO, sl]; omega) | (simp only [oo hO, sl]; done)), ?_⟩
  refine ⟨(by (repeat' apply And.intro) <;> first | trivial | rfl | (intro i hi; first | (cbv <;> (repeat' apply And.intro) <;> first | trivial | rfl) | (simp only [oo hO, sl]; cbv <;> (repeat' apply And.intro) <;> first | trivial | rfl))), (by (repeat' apply And.intro) <;> first | trivial | rfl), ?_⟩
  obtain ⟨g_13, h⟩ := gdb h
  refine ⟨(by first | trivial | (simp only [oo hO, sl]; omega) | (simp only [oo hO, sl]; done)), (by first | exact g_13 | (simp only [oo hO] at g_13 ⊢; simp only [sl] at g_13 ⊢; omega)), (by first | trivial | (simp only [oo hO, sl]; omega) | (simp only [oo hO, sl]; done)), ?_⟩
  obtain ⟨g_14, h⟩ := gdb h
  refine ⟨(by first | exact g_14 | (simp only [oo hO] at g_14 ⊢; simp only [sl] at g_14 ⊢; omega)), ?_⟩
  refine ⟨⟨(k_9, v6, (O.lapp p8 ([v5] : List Nat)), (O.iadd p9 1)), h⟩, ?_, ?_⟩
  · (cbv <;> ((repeat' apply And.intro) <;> first | trivial | rfl | assumption | (simp only [oo hO, ff, sl]; done) | (simp only [oo hO, ff, sl]; omega) | (intro i hi; first | (cbv <;> (repeat' apply And.intro) <;> first | trivial | rfl) | (simp only [oo hO, ff, sl] at hi ⊢; (try simp only [gg, sl] at hi ⊢); (repeat' split) <;> first | (exfalso; omega) | (exfalso; exact absurd (Nat.lt_of_lt_of_le hi (Nat.min_le_left _ _)) (by assumption)) | (cbv <;> (repeat' apply And.intro) <;> first | trivial | rfl) | (rename_i q; subst q; cbv <;> (repeat' apply And.intro) <;> first | trivial | rfl) | (rename_i q _; subst q; cbv <;> (repeat' apply And.intro) <;> first | trivial | rfl)))))
  · exact Nat.lt_succ_self k_9

theorem c_impl_areFinite {O : Ops} (hO : O = std) {P : Program} (hP : P = Prg) {a1 : (List Nat)} {r1 : Bool} (h : F_impl_areFinite O a1 = some r1) :
    Con P 90 [] [.sl false false 1 (O.llen a1) (fun i1 => [.flt .f32 (O.lget a1 i1 0)])] (.bool r1) [] := by
  refine @con_of2 O hO P hP 90 Go.Proofs.Try.f90 Go.Proofs.Try.func90 (by kernel_rfl) _ _ _ _ ?_
  unfold F_impl_areFinite at h
  replace h := startb h
  obtain ⟨r, hr⟩ : ∃ r, r = r1 := ⟨_, rfl⟩
  rw [← hr] at h
  cbv
  refine Wp.mk ?_
  obtain ⟨R_1, hR_1, h⟩ := loopb h
  refine ⟨{ x : Nat × Int // (F_impl_areFinite_l0 O a1 x.1 x.2).bind R_1 = some r }, fun x => ⟨[(5, .sl false false 1 (O.llen a1) (fun i1 => [.flt .f32 (O.lget a1 i1 0)])), (6, .int .i64 (O.ofN (O.llen a1))), (7, .int .i64 x.1.2)], []⟩, fun x => x.1.1, ⟨(KK, 0), h⟩, ?_, ?_⟩
  · (cbv <;> ((repeat' apply And.intro) <;> first | trivial | rfl | assumption | (simp only [oo hO, ff, sl]; done) | (simp only [oo hO, ff, sl]; omega) | (intro i hi; first | (cbv <;> (repeat' apply And.intro) <;> first | trivial | rfl) | (simp only [oo hO, ff, sl] at hi ⊢; (try simp only [gg, sl] at hi ⊢); (repeat' split) <;> first | (exfalso; omega) | (exfalso; exact absurd (Nat.lt_of_lt_of_le hi (Nat.min_le_left _ _)) (by assumption)) | (cbv <;> (repeat' apply And.intro) <;> first | trivial | rfl) | (rename_i q; subst q; cbv <;> (repeat' apply And.intro) <;> first | trivial | rfl) | (rename_i q _; subst q; cbv <;> (repeat' apply And.intro) <;> first | trivial | rfl)))))
  rintro ⟨⟨k_2, p2⟩, h⟩
  rcases k_2 with _ | k_2
  · cases noneb rfl h
  rw [F_impl_areFinite_l0.eq_2] at h
  cbv
  refine ⟨fun b_3 => ?_, fun b_3 => ?_⟩
  rotate_left
  · cbv
    replace h := condf h (by first | exact b_3 | (simp only [oo hO, sl] at b_3 ⊢; exact b_3))
    replace h := leafb h hR_1
    replace h := (endb h).trans hr
    cases h
    ((repeat' apply And.intro) <;> first | trivial | rfl | assumption | (simp only [oo hO, ff, sl]; done) | (simp only [oo hO, ff, sl]; omega) | (intro i hi; first | (cbv <;> (repeat' apply And.intro) <;> first | trivial | rfl) | (simp only [oo hO, ff, sl] at hi ⊢; (try simp only [gg, sl] at hi ⊢); (repeat' split) <;> first | (exfalso; omega) | (exfalso; exact absurd (Nat.lt_of_lt_of_le hi (Nat.min_le_left _ _)) (by assumption)) | (cbv <;> (repeat' apply And.intro) <;> first | trivial | rfl) | (rename_i q; subst q; cbv <;> (repeat' apply And.intro) <;> first | trivial | rfl) | (rename_i q _; subst q; cbv <;> (repeat' apply And.intro) <;> first | trivial | rfl))))
  cbv
  replace h := condt h (by first | exact b_3 | (simp only [oo hO, sl] at b_3 ⊢; exact b_3))
  obtain ⟨g_4, h⟩ := gdb h
  refine ⟨(by first | exact g_4 | (simp only [oo hO] at g_4 ⊢; simp only [sl] at g_4 ⊢; omega)), ?_⟩
  obtain ⟨v1, e_5, h⟩ := callb h
  refine ⟨[], _, _, _, _, false, c_impl_IsFinite hO hP e_5, ?_⟩
  cbv
  refine ⟨(by (repeat' apply And.intro) <;> first | trivial | rfl), (by (repeat' apply And.intro) <;> first | trivial | rfl), ?_⟩
  refine ⟨fun b_6 => ?_, fun b_6 => ?_⟩
  · cbv
    replace h := condt h (by first | exact b_6 | (simp only [oo hO, sl] at b_6 ⊢; exact b_6))
    replace h := leafb h hR_1
    replace h := (endb h).trans hr
    cases h
    ((repeat' apply And.intro) <;> first | trivial | rfl | assumption | (simp only [oo hO, ff, sl]; done) | (simp only [oo hO, ff, sl]; omega) | (intro i hi; first | (cbv <;> (repeat' apply And.intro) <;> first | trivial | rfl) | (simp only [oo hO, ff, sl] at hi ⊢; (try simp only [gg, sl] at hi ⊢); (repeat' split) <;> first | (exfalso; omega) | (exfalso; exact absurd (Nat.lt_of_lt_of_le hi (Nat.min_le_left _ _)) (by assumption)) | (cbv <;> (repeat' apply And.intro) <;> first | trivial | rfl) | (rename_i q; subst q; cbv <;> (repeat' apply And.intro) <;> first | trivial | rfl) | (rename_i q _; subst q; cbv <;> (repeat' apply And.intro) <;> first | trivial | rfl))))
  cbv
  replace h := condf h (by first | exact b_6 | (simp only [oo hO, sl] at b_6 ⊢; exact b_6))
  obtain ⟨g_7, h⟩ := gdb h
  refine ⟨(by first | exact g_7 | (simp only [oo hO] at g_7 ⊢; simp only [sl] at g_7 ⊢; omega)), ?_⟩
  refine ⟨⟨(k_2, (O.iadd p2 1)), h⟩, ?_, ?_⟩
  · (cbv <;> ((repeat' apply And.intro) <;> first | trivial | rfl | assumption | (simp only [oo hO, ff, sl]; done) | (simp only [oo hO, ff, sl]; omega) | (intro i hi; first | (cbv <;> (repeat' apply And.intro) <;> first | trivial | rfl) | (simp only [oo hO, ff, sl] at hi ⊢; (try simp only [gg, sl] at hi ⊢); (repeat' split) <;> first | (exfalso; omega) | (exfalso; exact absurd (Nat.lt_of_lt_of_le hi (Nat.min_le_left _ _)) (by assumption)) | (cbv <;> (repeat' apply And.intro) <;> first | trivial | rfl) | (rename_i q; subst q; cbv <;> (repeat' apply And.intro) <;> first | trivial | rfl) | (rename_i q _; subst q; cbv <;> (repeat' apply And.intro) <;> first | trivial | rfl)))))
  · exact Nat.lt_succ_self k_2

theorem c_impl_areZeros {O : Ops} (hO : O = std) {P : Program} (hP : P = Prg) {a1 : (List Nat)} {r1 : Bool} (h : F_impl_areZeros O a1 = some r1) :
    Con P 91 [] [.sl false false 1 (O.llen a1) (fun i1 => [.flt .f32 (O.lget a1 i1 0)])] (.bool r1) [] := by
  refine @con_of2 O hO P hP 91 Go.Proofs.Try.f91 Go.Proofs.Try.func91 (by kernel_rfl) _ _ _ _ ?_
  unfold F_impl_areZeros at h
  replace h := startb h
  obtain ⟨r, hr⟩ : ∃ r, r = r1 := ⟨_, rfl⟩
  rw [← hr] at h
  cbv
  refine Wp.mk ?_
  obtain ⟨R_1, hR_1, h⟩ := loopb h
  refine ⟨{ x : Nat × Int // (F_impl_areZeros_l0 O a1 x.1 x.2).bind R_1 = some r }, fun x => ⟨[(5, .sl false false 1 (O.llen a1) (fun i1 => [.flt .f32 (O.lget a1 i1 0)])), (6, .int .i64 (O.ofN (O.llen a1))), (7, .int .i64 x.1.2)], []⟩, fun x => x.1.1, ⟨(KK, 0), h⟩, ?_, ?_⟩
  · (cbv <;> ((repeat' apply And.intro) <;> first | trivial | rfl | assumption | (simp only [oo hO, ff, sl]; done) | (simp only [oo hO, ff, sl]; omega) | (intro i hi; first | (cbv <;> (repeat' apply And.intro) <;> first | trivial | rfl) | (simp only [oo hO, ff, sl] at hi ⊢; (try simp only [gg, sl] at hi ⊢); (repeat' split) <;> first | (exfalso; omega) | (exfalso; exact absurd (Nat.lt_of_lt_of_le hi (Nat.min_le_left _ _)) (by assumption)) | (cbv <;> (repeat' apply And.intro) <;> first | trivial | rfl) | (rename_i q; subst q; cbv <;> (repeat' apply And.intro) <;> first | trivial | rfl) | (rename_i q _; subst q; cbv <;> (repeat' apply And.intro) <;> first | trivial | rfl)))))
  rintro ⟨⟨k_2, p1⟩, h⟩
  rcases k_2 with _ | k_2
  · cases noneb rfl h
  rw [F_impl_areZeros_l0.eq_2] at h
  cbv
  refine ⟨fun b_3 => ?_, fun b_3 => ?_⟩
  rotate_left
  · cbv
    replace h := condf h (by first | exact b_3 | (simp only [oo hO, sl] at b_3 ⊢; exact b_3))
    replace h := leafb h hR_1
    replace h := (endb h).trans hr
    cases h
    ((repeat' apply And.intro) <;> first | trivial | rfl | assumption | (simp only [oo hO, ff, sl]; done) | (simp only [oo hO, ff, sl]; omega) | (intro i hi; first | (cbv <;> (repeat' apply And.intro) <;> first | trivial | rfl) | (simp only [oo hO, ff, sl] at hi ⊢; (try simp only [gg, sl] at hi ⊢); (repeat' split) <;> first | (exfalso; omega) | (exfalso; exact absurd (Nat.lt_of_lt_of_le hi (Nat.min_le_left _ _)) (by assumption)) | (cbv <;> (repeat' apply And.intro) <;> first | trivial | rfl) | (rename_i q; subst q; cbv <;> (repeat' apply And.intro) <;> first | trivial | rfl) | (rename_i q _; subst q; cbv <;> (repeat' apply And.intro) <;> first | trivial | rfl))))
  cbv
  replace h := condt h (by first | exact b_3 | (simp only [oo hO, sl] at b_3 ⊢; exact b_3))
  obtain ⟨g_4, h⟩ := gdb h
  refine ⟨(by first | exact g_4 | (simp only [oo hO] at g_4 ⊢; simp only [sl] at g_4 ⊢; omega)), ?_⟩
  refine ⟨fun b_5 => ?_, fun b_5 => ?_⟩
  · cbv
    replace h := condt h (by first | exact b_5 | (simp only [oo hO, sl] at b_5 ⊢; exact b_5))
    replace h := leafb h hR_1
    replace h := (endb h).trans hr
    cases h
    ((repeat' apply And.intro) <;> first | trivial | rfl | assumption | (simp only [oo hO, ff, sl]; done) | (simp only [oo hO, ff, sl]; omega) | (intro i hi; first | (cbv <;> (repeat' apply And.intro) <;> first | trivial | rfl) | (simp only [oo hO, ff, sl] at hi ⊢; (try simp only [gg, sl] at hi ⊢); (repeat' split) <;> first | (exfalso; omega) | (exfalso; exact absurd (Nat.lt_of_lt_of_le hi (Nat.min_le_left _ _)) (by assumption)) | (cbv <;> (repeat' apply And.intro) <;> first | trivial | rfl) | (rename_i q; subst q; cbv <;> (repeat' apply And.intro) <;> first | trivial | rfl) | (rename_i q _; subst q; cbv <;> (repeat' apply And.intro) <;> first | trivial | rfl))))
  cbv
  replace h := condf h (by first | exact b_5 | (simp only [oo hO, sl] at b_5 ⊢; exact b_5))
  obtain ⟨g_6, h⟩ := gdb h
  refine ⟨(by first | exact g_6 | (simp only [oo hO] at g_6 ⊢; simp only [sl] at g_6 ⊢; omega)), ?_⟩
  refine ⟨⟨(k_2, (O.iadd p1 1)), h⟩, ?_, ?_⟩
  · (cbv <;> ((repeat' apply And.intro) <;> first | trivial | rfl | assumption | (simp only [oo hO, ff, sl]; done) | (simp only [oo hO, ff, sl]; omega) | (intro i hi; first | (cbv <;> (repeat' apply And.intro) <;> first | trivial | rfl) | (simp only [oo hO, ff, sl] at hi ⊢; (try simp only [gg, sl] at hi ⊢); (repeat' split) <;> first | (exfalso; omega) | (exfalso; exact absurd (Nat.lt_of_lt_of_le hi (Nat.min_le_left _ _)) (by assumption)) | (cbv <;> (repeat' apply And.intro) <;> first | trivial | rfl) | (rename_i q; subst q; cbv <;> (repeat' apply And.intro) <;> first | trivial | rfl) | (rename_i q _; subst q; cbv <;> (repeat' apply And.intro) <;> first | trivial | rfl)))))
  · exact Nat.lt_succ_self k_2

theorem c_impl_SilentFrom {O : Ops} (hO : O = std) {P : Program} (hP : P = Prg) {a1 : GDelay} {a2 : (List Nat)} {r1 : Int} {r2 : Bool} (h : F_impl_SilentFrom O a1 a2 = some (r1, r2)) :
    Con P 37 [] [.agg [.int .i64 a1.Length, .flt .f32 a1.Feedback, .flt .f32 a1.Dry, .flt .f32 a1.Wet, .bool a1.Flush], .sl false false 1 (O.llen a2) (fun i1 => [.flt .f32 (O.lget a2 i1 0)])] (.tup [.int .i64 r1, .bool r2]) [] := by
  refine @con_of2 O hO P hP 37 Go.Proofs.Try.f37 Go.Proofs.Try.func37 (by kernel_rfl) _ _ _ _ ?_
  unfold F_impl_SilentFrom at h
  replace h := startb h
  obtain ⟨r, hr⟩ : ∃ r, r = (r1, r2) := ⟨_, rfl⟩
  rw [← hr] at h
  cbv
  refine Wp.mk ?_
  obtain ⟨v1, e_1, h⟩ := callb h
  refine ⟨[], _, _, _, _, false, c_impl_ValidDelay hO hP e_1, ?_⟩
  cbv
  refine ⟨(by (repeat' apply And.intro) <;> first | trivial | rfl), (by (repeat' apply And.intro) <;> first | trivial | rfl), ?_⟩
  refine ⟨fun b_2 => ?_, fun b_2 => ?_⟩
  · cbv
    replace h := condt h (by first | exact b_2 | (simp only [oo hO, sl] at b_2 ⊢; exact b_2))
    refine ⟨?_, ?_⟩
    rotate_left
    · first | (intro q; cases q; done) | trivial
    try intro _
    cbv
    refine ⟨?_, ?_⟩
    rotate_left
    · first | (intro q; cases q; done) | trivial
    try intro _
    cbv
    refine ⟨?_, ?_⟩
    rotate_left
    · first | (intro q; cases q; done) | trivial
    try intro _
    cbv
    refine ⟨?_, ?_⟩
    rotate_left
    · first | (intro q; cases q; done) | trivial
    try intro _
    cbv
    refine ⟨?_, ?_⟩
    rotate_left
    · first | (intro q; cases q; done) | trivial
    try intro _
    cbv
    refine ⟨?_, ?_⟩
    rotate_left
    · first | (intro q; cases q; done) | trivial
    try intro _
    cbv
    replace h := (endb h).trans hr
    cases h
    ((repeat' apply And.intro) <;> first | trivial | rfl | assumption | (simp only [oo hO, ff, sl]; done) | (simp only [oo hO, ff, sl]; omega) | (intro i hi; first | (cbv <;> (repeat' apply And.intro) <;> first | trivial | rfl) | (simp only [oo hO, ff, sl] at hi ⊢; (try simp only [gg, sl] at hi ⊢); (repeat' split) <;> first | (exfalso; omega) | (exfalso; exact absurd (Nat.lt_of_lt_of_le hi (Nat.min_le_left _ _)) (by assumption)) | (cbv <;> (repeat' apply And.intro) <;> first | trivial | rfl) | (rename_i q; subst q; cbv <;> (repeat' apply And.intro) <;> first | trivial | rfl) | (rename_i q _; subst q; cbv <;> (repeat' apply And.intro) <;> first | trivial | rfl))))
  cbv
  replace h := condf h (by first | exact b_2 | (simp only [oo hO, sl] at b_2 ⊢; exact b_2))
  obtain ⟨v2, e_3, h⟩ := callb h
  refine ⟨[], _, _, _, _, false, c_impl_size hO hP e_3, ?_⟩
  cbv
  refine ⟨(by (repeat' apply And.intro) <;> first | trivial | rfl), (by (repeat' apply And.intro) <;> first | trivial | rfl), ?_⟩
  refine ⟨?_, ?_⟩
  · first | (intro q; cases q; done) | trivial
  try intro _
  cbv
  refine ⟨fun b_4 => ?_, fun b_4 => ?_⟩
  · cbv
    replace h := condt h (by first | exact b_4 | (simp only [oo hO, sl] at b_4 ⊢; exact b_4))
    refine ⟨?_, ?_⟩
    rotate_left
    · first | (intro q; cases q; done) | trivial
    try intro _
    cbv
    refine ⟨?_, ?_⟩
    rotate_left
    · first | (intro q; cases q; done) | trivial
    try intro _
    cbv
    refine ⟨?_, ?_⟩
    rotate_left
    · first | (intro q; cases q; done) | trivial
    try intro _
    cbv
    refine ⟨?_, ?_⟩
    rotate_left
    · first | (intro q; cases q; done) | trivial
    try intro _
    cbv
    replace h := (endb h).trans hr
    cases h
    ((repeat' apply And.intro) <;> first | trivial | rfl | assumption | (simp only [oo hO, ff, sl]; done) | (simp only [oo hO, ff, sl]; omega) | (intro i hi; first | (cbv <;> (repeat' apply And.intro) <;> first | trivial | rfl) | (simp only [oo hO, ff, sl] at hi ⊢; (try simp only [gg, sl] at hi ⊢); (repeat' split) <;> first | (exfalso; omega) | (exfalso; exact absurd (Nat.lt_of_lt_of_le hi (Nat.min_le_left _ _)) (by assumption)) | (cbv <;> (repeat' apply And.intro) <;> first | trivial | rfl) | (rename_i q; subst q; cbv <;> (repeat' apply And.intro) <;> first | trivial | rfl) | (rename_i q _; subst q; cbv <;> (repeat' apply And.intro) <;> first | trivial | rfl))))
  cbv
  replace h := condf h (by first | exact b_4 | (simp only [oo hO, sl] at b_4 ⊢; exact b_4))
  obtain ⟨v3, e_5, h⟩ := callb h
  refine ⟨[], _, _, _, _, false, c_impl_IsFinite hO hP e_5, ?_⟩
  cbv
  refine ⟨(by (repeat' apply And.intro) <;> first | trivial | rfl), (by (repeat' apply And.intro) <;> first | trivial | rfl), ?_⟩
  refine ⟨?_, ?_⟩
  · first | (intro q; cases q; done) | trivial
  try intro _
  cbv
  refine ⟨fun b_6 => ?_, fun b_6 => ?_⟩
  · cbv
    replace h := condt h (by first | exact b_6 | (simp only [oo hO, sl] at b_6 ⊢; exact b_6))
    refine ⟨?_, ?_⟩
    rotate_left
    · first | (intro q; cases q; done) | trivial
    try intro _
    cbv
    refine ⟨?_, ?_⟩
    rotate_left
    · first | (intro q; cases q; done) | trivial
    try intro _
    cbv
    replace h := (endb h).trans hr
    cases h
    ((repeat' apply And.intro) <;> first | trivial | rfl | assumption | (simp only [oo hO, ff, sl]; done) | (simp only [oo hO, ff, sl]; omega) | (intro i hi; first | (cbv <;> (repeat' apply And.intro) <;> first | trivial | rfl) | (simp only [oo hO, ff, sl] at hi ⊢; (try simp only [gg, sl] at hi ⊢); (repeat' split) <;> first | (exfalso; omega) | (exfalso; exact absurd (Nat.lt_of_lt_of_le hi (Nat.min_le_left _ _)) (by assumption)) | (cbv <;> (repeat' apply And.intro) <;> first | trivial | rfl) | (rename_i q; subst q; cbv <;> (repeat' apply And.intro) <;> first | trivial | rfl) | (rename_i q _; subst q; cbv <;> (repeat' apply And.intro) <;> first | trivial | rfl))))
  cbv
  replace h := condf h (by first | exact b_6 | (simp only [oo hO, sl] at b_6 ⊢; exact b_6))
  obtain ⟨v4, e_7, h⟩ := callb h
  refine ⟨[], _, _, _, _, false, c_impl_areFinite hO hP e_7, ?_⟩
  cbv
  refine ⟨(by (repeat' apply And.intro) <;> first | trivial | rfl | (intro i hi; first | (cbv <;> (repeat' apply And.intro) <;> first | trivial | rfl) | (simp only [oo hO, sl]; cbv <;> (repeat' apply And.intro) <;> first | trivial | rfl))), (by (repeat' apply And.intro) <;> first | trivial | rfl), ?_⟩
  refine ⟨?_, ?_⟩
  · first | (intro q; cases q; done) | trivial
  try intro _
  cbv
  refine ⟨fun b_8 => ?_, fun b_8 => ?_⟩
  · cbv
    replace h := condt h (by first | exact b_8 | (simp only [oo hO, sl] at b_8 ⊢; exact b_8))
    replace h := (endb h).trans hr
    cases h
    ((repeat' apply And.intro) <;> first | trivial | rfl | assumption | (simp only [oo hO, ff, sl]; done) | (simp only [oo hO, ff, sl]; omega) | (intro i hi; first | (cbv <;> (repeat' apply And.intro) <;> first | trivial | rfl) | (simp only [oo hO, ff, sl] at hi ⊢; (try simp only [gg, sl] at hi ⊢); (repeat' split) <;> first | (exfalso; omega) | (exfalso; exact absurd (Nat.lt_of_lt_of_le hi (Nat.min_le_left _ _)) (by assumption)) | (cbv <;> (repeat' apply And.intro) <;> first | trivial | rfl) | (rename_i q; subst q; cbv <;> (repeat' apply And.intro) <;> first | trivial | rfl) | (rename_i q _; subst q; cbv <;> (repeat' apply And.intro) <;> first | trivial | rfl))))
  cbv
  replace h := condf h (by first | exact b_8 | (simp only [oo hO, sl] at b_8 ⊢; exact b_8))
  obtain ⟨v5, e_9, h⟩ := callb h
  refine ⟨[], _, _, _, _, true, c_impl_copyNumbers hO hP e_9, ?_⟩
  cbv
  refine ⟨(by (repeat' apply And.intro) <;> first | trivial | rfl | (intro i hi; first | (cbv <;> (repeat' apply And.intro) <;> first | trivial | rfl) | (simp only [oo hO, sl]; cbv <;> (repeat' apply And.intro) <;> first | trivial | rfl))), (by (repeat' apply And.intro) <;> first | trivial | rfl), ?_⟩
  obtain ⟨R_10, hR_10, h⟩ := loopb h
  refine ⟨{ x : Nat × (List Nat) × Int // (F_impl_SilentFrom_l0 O a1 x.1 x.2.1 x.2.2).bind R_10 = some r }, fun x => ⟨[(2, .ptr 15 0), (6, .osl 31 1 0 (O.llen x.1.2.1)), (7, .int .i64 x.1.2.2)], [(15, .box [.int .i64 a1.Length, .flt .f32 a1.Feedback, .flt .f32 a1.Dry, .flt .f32 a1.Wet, .bool a1.Flush]), (31, .arr true false 1 (O.llen x.1.2.1) (fun i1 => [.flt .f32 (O.lget x.1.2.1 i1 0)]))]⟩, fun x => x.1.1, ⟨(KK, v5, 0), h⟩, ?_, ?_⟩
  · (cbv <;> ((repeat' apply And.intro) <;> first | trivial | rfl | assumption | (simp only [oo hO, ff, sl]; done) | (simp only [oo hO, ff, sl]; omega) | (intro i hi; first | (cbv <;> (repeat' apply And.intro) <;> first | trivial | rfl) | (simp only [oo hO, ff, sl] at hi ⊢; (try simp only [gg, sl] at hi ⊢); (repeat' split) <;> first | (exfalso; omega) | (exfalso; exact absurd (Nat.lt_of_lt_of_le hi (Nat.min_le_left _ _)) (by assumption)) | (cbv <;> (repeat' apply And.intro) <;> first | trivial | rfl) | (rename_i q; subst q; cbv <;> (repeat' apply And.intro) <;> first | trivial | rfl) | (rename_i q _; subst q; cbv <;> (repeat' apply And.intro) <;> first | trivial | rfl)))))
  rintro ⟨⟨k_11, p9, p10⟩, h⟩
  rcases k_11 with _ | k_11
  · cases noneb rfl h
  rw [F_impl_SilentFrom_l0.eq_2] at h
  cbv
  refine ⟨fun b_12 => ?_, fun b_12 => ?_⟩
  rotate_left
  · cbv
    replace h := condf h (by first | exact b_12 | (simp only [oo hO, sl] at b_12 ⊢; exact b_12))
    replace h := leafb h hR_10
    replace h := (endb h).trans hr
    cases h
    ((repeat' apply And.intro) <;> first | trivial | rfl | assumption | (simp only [oo hO, ff, sl]; done) | (simp only [oo hO, ff, sl]; omega) | (intro i hi; first | (cbv <;> (repeat' apply And.intro) <;> first | trivial | rfl) | (simp only [oo hO, ff, sl] at hi ⊢; (try simp only [gg, sl] at hi ⊢); (repeat' split) <;> first | (exfalso; omega) | (exfalso; exact absurd (Nat.lt_of_lt_of_le hi (Nat.min_le_left _ _)) (by assumption)) | (cbv <;> (repeat' apply And.intro) <;> first | trivial | rfl) | (rename_i q; subst q; cbv <;> (repeat' apply And.intro) <;> first | trivial | rfl) | (rename_i q _; subst q; cbv <;> (repeat' apply And.intro) <;> first | trivial | rfl))))
  cbv
  replace h := condt h (by first | exact b_12 | (simp only [oo hO, sl] at b_12 ⊢; exact b_12))
  obtain ⟨v6, e_13, h⟩ := callb h
  refine ⟨[], _, _, _, _, false, c_impl_areZeros hO hP e_13, ?_⟩
  cbv
  refine ⟨(by first | trivial | (simp only [oo hO, sl]; omega) | (simp only [oo hO, sl]; done)), ?_⟩
  refine ⟨(by (repeat' apply And.intro) <;> first | trivial | rfl | (intro i hi; first | (cbv <;> (repeat' apply And.intro) <;> first | trivial | rfl) | (simp only [oo hO, sl]; cbv <;> (repeat' apply And.intro) <;> first | trivial | rfl))), (by (repeat' apply And.intro) <;> first | trivial | rfl), ?_⟩
  refine ⟨fun b_14 => ?_, fun b_14 => ?_⟩
  · cbv
    replace h := condt h (by first | exact b_14 | (simp only [oo hO, sl] at b_14 ⊢; exact b_14))
    replace h := leafb h hR_10
    replace h := (endb h).trans hr
    cases h
    ((repeat' apply And.intro) <;> first | trivial | rfl | assumption | (simp only [oo hO, ff, sl]; done) | (simp only [oo hO, ff, sl]; omega) | (intro i hi; first | (cbv <;> (repeat' apply And.intro) <;> first | trivial | rfl) | (simp only [oo hO, ff, sl] at hi ⊢; (try simp only [gg, sl] at hi ⊢); (repeat' split) <;> first | (exfalso; omega) | (exfalso; exact absurd (Nat.lt_of_lt_of_le hi (Nat.min_le_left _ _)) (by assumption)) | (cbv <;> (repeat' apply And.intro) <;> first | trivial | rfl) | (rename_i q; subst q; cbv <;> (repeat' apply And.intro) <;> first | trivial | rfl) | (rename_i q _; subst q; cbv <;> (repeat' apply And.intro) <;> first | trivial | rfl))))
  cbv
  replace h := condf h (by first | exact b_14 | (simp only [oo hO, sl] at b_14 ⊢; exact b_14))
  obtain ⟨⟨v7, v8⟩, e_15, h⟩ := callb h
  refine ⟨[], _, _, _, _, true, c_impl_Delay_step hO hP e_15, ?_⟩
  cbv
  refine ⟨(by first | trivial | (simp only [oo hO, sl]; omega) | (simp only [oo hO, sl]; done)), ?_⟩
  refine ⟨(by (repeat' apply And.intro) <;> first | trivial | rfl | (intro i hi; first | (cbv <;> (repeat' apply And.intro) <;> first | trivial | rfl) | (simp only [oo hO, sl]; cbv <;> (repeat' apply And.intro) <;> first | trivial | rfl))), (by (repeat' apply And.intro) <;> first | trivial | rfl), ?_⟩
  obtain ⟨g_16, h⟩ := gdb h
  refine ⟨(by first | exact g_16 | (simp only [oo hO] at g_16 ⊢; simp only [sl] at g_16 ⊢; omega)), ?_⟩
  refine ⟨⟨(k_11, v8, (O.iadd p10 1)), h⟩, ?_, ?_⟩
  · (cbv <;> ((repeat' apply And.intro) <;> first | trivial | rfl | assumption | (simp only [oo hO, ff, sl]; done) | (simp only [oo hO, ff, sl]; omega) | (intro i hi; first | (cbv <;> (repeat' apply And.intro) <;> first | trivial | rfl) | (simp only [oo hO, ff, sl] at hi ⊢; (try simp only [gg, sl] at hi ⊢); (repeat' split) <;> first | (exfalso; omega) | (exfalso; exact absurd (Nat.lt_of_lt_of_le hi (Nat.min_le_left _ _)) (by assumption)) | (cbv <;> (repeat' apply And.intro) <;> first | trivial | rfl) | (rename_i q; subst q; cbv <;> (repeat' apply And.intro) <;> first | trivial | rfl) | (rename_i q _; subst q; cbv <;> (repeat' apply And.intro) <;> first | trivial | rfl)))))
  · exact Nat.lt_succ_self k_11

theorem c_spec_l03Own {O : Ops} (hO : O = std) {P : Program} (hP : P = Prg) {a1 : (List Nat)} {r1 : (List Nat)} (h : F_spec_l03Own O a1 = some r1) :
    Con P 94 [] [.sl false false 1 (O.llen a1) (fun i1 => [.flt .f32 (O.lget a1 i1 0)])] (.osl 0 1 0 (O.llen r1)) [.arr true false 1 (O.llen r1) (fun i1 => [.flt .f32 (O.lget r1 i1 0)])] := by
  refine @con_of2 O hO P hP 94 Go.Proofs.Try.f94 Go.Proofs.Try.func94 (by kernel_rfl) _ _ _ _ ?_
  unfold F_spec_l03Own at h
  replace h := startb h
  obtain ⟨r, hr⟩ : ∃ r, r = r1 := ⟨_, rfl⟩
  rw [← hr] at h
  cbv
  refine Wp.mk ?_
  obtain ⟨g_1, h⟩ := gdb h
  refine ⟨(by first | trivial | (simp only [oo hO, sl]; omega) | (simp only [oo hO, sl]; done)), (by first | exact g_1 | (simp only [oo hO] at g_1 ⊢; simp only [sl] at g_1 ⊢; omega)), ?_⟩
  replace h := (endb h).trans hr
  cases h
  ((repeat' apply And.intro) <;> first | trivial | rfl | assumption | (simp only [oo hO, ff, sl]; done) | (simp only [oo hO, ff, sl]; omega) | (intro i hi; first | (cbv <;> (repeat' apply And.intro) <;> first | trivial | rfl) | (simp only [oo hO, ff, sl] at hi ⊢; (try simp only [gg, sl] at hi ⊢); (repeat' split) <;> first | (exfalso; omega) | (exfalso; exact absurd (Nat.lt_of_lt_of_le hi (Nat.min_le_left _ _)) (by assumption)) | (cbv <;> (repeat' apply And.intro) <;> first | trivial | rfl) | (rename_i q; subst q; cbv <;> (repeat' apply And.intro) <;> first | trivial | rfl) | (rename_i q _; subst q; cbv <;> (repeat' apply And.intro) <;> first | trivial | rfl))))

theorem c_spec_l03Zeros {O : Ops} (hO : O = std) {P : Program} (hP : P = Prg) {a1 : (List Nat)} {r1 : Bool} (h : F_spec_l03Zeros O a1 = some r1) :
    Con P 95 [] [.sl false false 1 (O.llen a1) (fun i1 => [.flt .f32 (O.lget a1 i1 0)])] (.bool r1) [] := by
  refine @con_of2 O hO P hP 95 Go.Proofs.Try.f95 Go.Proofs.Try.func95 (by kernel_rfl) _ _ _ _ ?_
  unfold F_spec_l03Zeros at h
  replace h := startb h
  obtain ⟨r, hr⟩ : ∃ r, r = r1 := ⟨_, rfl⟩
  rw [← hr] at h
  cbv
  refine Wp.mk ?_
  obtain ⟨R_1, hR_1, h⟩ := loopb h
  refine ⟨{ x : Nat × Int // (F_spec_l03Zeros_l0 O a1 x.1 x.2).bind R_1 = some r }, fun x => ⟨[(0, .sl false false 1 (O.llen a1) (fun i1 => [.flt .f32 (O.lget a1 i1 0)])), (5, .int .i64 (O.ofN (O.llen a1))), (6, .int .i64 x.1.2)], []⟩, fun x => x.1.1, ⟨(KK, 0), h⟩, ?_, ?_⟩
  · (cbv <;> ((repeat' apply And.intro) <;> first | trivial | rfl | assumption | (simp only [oo hO, ff, sl]; done) | (simp only [oo hO, ff, sl]; omega) | (intro i hi; first | (cbv <;> (repeat' apply And.intro) <;> first | trivial | rfl) | (simp only [oo hO, ff, sl] at hi ⊢; (try simp only [gg, sl] at hi ⊢); (repeat' split) <;> first | (exfalso; omega) | (exfalso; exact absurd (Nat.lt_of_lt_of_le hi (Nat.min_le_left _ _)) (by assumption)) | (cbv <;> (repeat' apply And.intro) <;> first | trivial | rfl) | (rename_i q; subst q; cbv <;> (repeat' apply And.intro) <;> first | trivial | rfl) | (rename_i q _; subst q; cbv <;> (repeat' apply And.intro) <;> first | trivial | rfl)))))
  rintro ⟨⟨k_2, p1⟩, h⟩
  rcases k_2 with _ | k_2
  · cases noneb rfl h
  rw [F_spec_l03Zeros_l0.eq_2] at h
  cbv
  refine ⟨fun b_3 => ?_, fun b_3 => ?_⟩
  rotate_left
  · cbv
    replace h := condf h (by first | exact b_3 | (simp only [oo hO, sl] at b_3 ⊢; exact b_3))
    replace h := leafb h hR_1
    replace h := (endb h).trans hr
    cases h
    ((repeat' apply And.intro) <;> first | trivial | rfl | assumption | (simp only [oo hO, ff, sl]; done) | (simp only [oo hO, ff, sl]; omega) | (intro i hi; first | (cbv <;> (repeat' apply And.intro) <;> first | trivial | rfl) | (simp only [oo hO, ff, sl] at hi ⊢; (try simp only [gg, sl] at hi ⊢); (repeat' split) <;> first | (exfalso; omega) | (exfalso; exact absurd (Nat.lt_of_lt_of_le hi (Nat.min_le_left _ _)) (by assumption)) | (cbv <;> (repeat' apply And.intro) <;> first | trivial | rfl) | (rename_i q; subst q; cbv <;> (repeat' apply And.intro) <;> first | trivial | rfl) | (rename_i q _; subst q; cbv <;> (repeat' apply And.intro) <;> first | trivial | rfl))))
  cbv
  replace h := condt h (by first | exact b_3 | (simp only [oo hO, sl] at b_3 ⊢; exact b_3))
  obtain ⟨g_4, h⟩ := gdb h
  refine ⟨(by first | exact g_4 | (simp only [oo hO] at g_4 ⊢; simp only [sl] at g_4 ⊢; omega)), ?_⟩
  refine ⟨fun b_5 => ?_, fun b_5 => ?_⟩
  · cbv
    replace h := condt h (by first | exact b_5 | (simp only [oo hO, sl] at b_5 ⊢; exact b_5))
    replace h := leafb h hR_1
    replace h := (endb h).trans hr
    cases h
    ((repeat' apply And.intro) <;> first | trivial | rfl | assumption | (simp only [oo hO, ff, sl]; done) | (simp only [oo hO, ff, sl]; omega) | (intro i hi; first | (cbv <;> (repeat' apply And.intro) <;> first | trivial | rfl) | (simp only [oo hO, ff, sl] at hi ⊢; (try simp only [gg, sl] at hi ⊢); (repeat' split) <;> first | (exfalso; omega) | (exfalso; exact absurd (Nat.lt_of_lt_of_le hi (Nat.min_le_left _ _)) (by assumption)) | (cbv <;> (repeat' apply And.intro) <;> first | trivial | rfl) | (rename_i q; subst q; cbv <;> (repeat' apply And.intro) <;> first | trivial | rfl) | (rename_i q _; subst q; cbv <;> (repeat' apply And.intro) <;> first | trivial | rfl))))
  cbv
  replace h := condf h (by first | exact b_5 | (simp only [oo hO, sl] at b_5 ⊢; exact b_5))
  obtain ⟨g_6, h⟩ := gdb h
  refine ⟨(by first | exact g_6 | (simp only [oo hO] at g_6 ⊢; simp only [sl] at g_6 ⊢; omega)), ?_⟩
  refine ⟨⟨(k_2, (O.iadd p1 1)), h⟩, ?_, ?_⟩
  · (cbv <;> ((repeat' apply And.intro) <;> first | trivial | rfl | assumption | (simp only [oo hO, ff, sl]; done) | (simp only [oo hO, ff, sl]; omega) | (intro i hi; first | (cbv <;> (repeat' apply And.intro) <;> first | trivial | rfl) | (simp only [oo hO, ff, sl] at hi ⊢; (try simp only [gg, sl] at hi ⊢); (repeat' split) <;> first | (exfalso; omega) | (exfalso; exact absurd (Nat.lt_of_lt_of_le hi (Nat.min_le_left _ _)) (by assumption)) | (cbv <;> (repeat' apply And.intro) <;> first | trivial | rfl) | (rename_i q; subst q; cbv <;> (repeat' apply And.intro) <;> first | trivial | rfl) | (rename_i q _; subst q; cbv <;> (repeat' apply And.intro) <;> first | trivial | rfl)))))
  · exact Nat.lt_succ_self k_2

theorem c_spec_l01Flush {O : Ops} (hO : O = std) {P : Program} (hP : P = Prg) {a1 : Nat} {r1 : Nat} (h : F_spec_l01Flush O a1 = some r1) :
    Con P 128 [] [.flt .f32 a1] (.flt .f32 r1) [] := by
  refine @con_of2 O hO P hP 128 Go.Proofs.Try.f128 Go.Proofs.Try.func128 (by kernel_rfl) _ _ _ _ ?_
  unfold F_spec_l01Flush at h
  replace h := startb h
  obtain ⟨r, hr⟩ : ∃ r, r = r1 := ⟨_, rfl⟩
  rw [← hr] at h
  cbv
  refine Wp.mk ?_
  obtain ⟨v1, e_1, h⟩ := callb h
  refine ⟨[], _, _, _, _, false, c_spec_l01Bits hO hP e_1, ?_⟩
  cbv
  refine ⟨(by (repeat' apply And.intro) <;> first | trivial | rfl), (by (repeat' apply And.intro) <;> first | trivial | rfl), ?_⟩
  refine ⟨fun b_2 => ?_, fun b_2 => ?_⟩
  rotate_left
  · cbv
    replace h := condf h (by first | exact b_2 | (simp only [oo hO, sl] at b_2 ⊢; exact b_2))
    replace h := (endb h).trans hr
    cases h
    ((repeat' apply And.intro) <;> first | trivial | rfl | assumption | (simp only [oo hO, ff, sl]; done) | (simp only [oo hO, ff, sl]; omega) | (intro i hi; first | (cbv <;> (repeat' apply And.intro) <;> first | trivial | rfl) | (simp only [oo hO, ff, sl] at hi ⊢; (try simp only [gg, sl] at hi ⊢); (repeat' split) <;> first | (exfalso; omega) | (exfalso; exact absurd (Nat.lt_of_lt_of_le hi (Nat.min_le_left _ _)) (by assumption)) | (cbv <;> (repeat' apply And.intro) <;> first | trivial | rfl) | (rename_i q; subst q; cbv <;> (repeat' apply And.intro) <;> first | trivial | rfl) | (rename_i q _; subst q; cbv <;> (repeat' apply And.intro) <;> first | trivial | rfl))))
  cbv
  replace h := condt h (by first | exact b_2 | (simp only [oo hO, sl] at b_2 ⊢; exact b_2))
  obtain ⟨v2, e_3, h⟩ := callb h
  refine ⟨[], _, _, _, _, false, c_spec_l01From hO hP e_3, ?_⟩
  cbv
  refine ⟨(by (repeat' apply And.intro) <;> first | trivial | rfl), (by (repeat' apply And.intro) <;> first | trivial | rfl), ?_⟩
  replace h := (endb h).trans hr
  cases h
  ((repeat' apply And.intro) <;> first | trivial | rfl | assumption | (simp only [oo hO, ff, sl]; done) | (simp only [oo hO, ff, sl]; omega) | (intro i hi; first | (cbv <;> (repeat' apply And.intro) <;> first | trivial | rfl) | (simp only [oo hO, ff, sl] at hi ⊢; (try simp only [gg, sl] at hi ⊢); (repeat' split) <;> first | (exfalso; omega) | (exfalso; exact absurd (Nat.lt_of_lt_of_le hi (Nat.min_le_left _ _)) (by assumption)) | (cbv <;> (repeat' apply And.intro) <;> first | trivial | rfl) | (rename_i q; subst q; cbv <;> (repeat' apply And.intro) <;> first | trivial | rfl) | (rename_i q _; subst q; cbv <;> (repeat' apply And.intro) <;> first | trivial | rfl))))

theorem c_spec_l03Take {O : Ops} (hO : O = std) {P : Program} (hP : P = Prg) {a1 : (List Nat)} {a2 : Nat} {r1 : (List Nat)} (h : F_spec_l03Take O a1 a2 = some r1) :
    Con P 129 [.arr false false 1 (O.llen a1) (fun i1 => [.flt .f32 (O.lget a1 i1 0)])] [.osl 0 1 0 (O.llen a1), .flt .f32 a2] (.tup []) [.arr false false 1 (O.llen a1) (fun i1 => [.flt .f32 (O.lget r1 i1 0)])] := by
  refine @con_of2 O hO P hP 129 Go.Proofs.Try.f129 Go.Proofs.Try.func129 (by kernel_rfl) _ _ _ _ ?_
  unfold F_spec_l03Take at h
  replace h := startb h
  obtain ⟨r, hr⟩ : ∃ r, r = r1 := ⟨_, rfl⟩
  rw [← hr] at h
  cbv
  refine Wp.mk ?_
  obtain ⟨R_1, hR_1, h⟩ := loopb h
  refine ⟨{ x : Nat × (List Nat) × Int // (F_spec_l03Take_l0 O x.1 x.2.1 x.2.2).bind R_1 = some r }, fun x => ⟨[(0, .osl 0 1 0 (O.llen x.1.2.1)), (1, .flt .f32 a2), (4, .int .i64 x.1.2.2)], [(0, .arr false false 1 (O.llen x.1.2.1) (fun i1 => [.flt .f32 (O.lget x.1.2.1 i1 0)]))]⟩, fun x => x.1.1, ⟨(KK, a1, 1), h⟩, ?_, ?_⟩
  · (cbv <;> ((repeat' apply And.intro) <;> first | trivial | rfl | assumption | (simp only [oo hO, ff, sl]; done) | (simp only [oo hO, ff, sl]; omega) | (intro i hi; first | (cbv <;> (repeat' apply And.intro) <;> first | trivial | rfl) | (simp only [oo hO, ff, sl] at hi ⊢; (try simp only [gg, sl] at hi ⊢); (repeat' split) <;> first | (exfalso; omega) | (exfalso; exact absurd (Nat.lt_of_lt_of_le hi (Nat.min_le_left _ _)) (by assumption)) | (cbv <;> (repeat' apply And.intro) <;> first | trivial | rfl) | (rename_i q; subst q; cbv <;> (repeat' apply And.intro) <;> first | trivial | rfl) | (rename_i q _; subst q; cbv <;> (repeat' apply And.intro) <;> first | trivial | rfl)))))
  rintro ⟨⟨k_2, p1, p2⟩, h⟩
  rcases k_2 with _ | k_2
  · cases noneb rfl h
  rw [F_spec_l03Take_l0.eq_2] at h
  cbv
  refine ⟨fun b_3 => ?_, fun b_3 => ?_⟩
  rotate_left
  · cbv
    replace h := condf h (by first | exact b_3 | (simp only [oo hO, sl] at b_3 ⊢; exact b_3))
    replace h := leafb h hR_1
    obtain ⟨g_4, h⟩ := gdb h
    refine ⟨(by first | exact g_4 | (simp only [oo hO] at g_4 ⊢; simp only [sl] at g_4 ⊢; omega)), ?_⟩
    obtain ⟨g_5, h⟩ := gdb h
    refine ⟨(by first | exact g_5 | (simp only [oo hO] at g_5 ⊢; simp only [sl] at g_5 ⊢; omega)), ?_⟩
    obtain ⟨g_6, h⟩ := gdb h
    refine ⟨(by first | exact g_6 | (simp only [oo hO] at g_6 ⊢; simp only [sl] at g_6 ⊢; omega)), ?_⟩
    obtain ⟨g_7, h⟩ := gdb h
    simp only [oo hO, ff, sl] at g_7
    replace h := (endb h).trans hr
    cases h
    ((repeat' apply And.intro) <;> first | trivial | rfl | assumption | (simp only [oo hO, ff, sl]; done) | (simp only [oo hO, ff, sl]; omega) | (intro i hi; first | (cbv <;> (repeat' apply And.intro) <;> first | trivial | rfl) | (simp only [oo hO, ff, sl] at hi ⊢; (try simp only [gg, sl] at hi ⊢); (repeat' split) <;> first | (exfalso; omega) | (exfalso; exact absurd (Nat.lt_of_lt_of_le hi (Nat.min_le_left _ _)) (by assumption)) | (cbv <;> (repeat' apply And.intro) <;> first | trivial | rfl) | (rename_i q; subst q; cbv <;> (repeat' apply And.intro) <;> first | trivial | rfl) | (rename_i q _; subst q; cbv <;> (repeat' apply And.intro) <;> first | trivial | rfl))))
  cbv
  replace h := condt h (by first | exact b_3 | (simp only [oo hO, sl] at b_3 ⊢; exact b_3))
  obtain ⟨g_8, h⟩ := gdb h
  refine ⟨(by first | exact g_8 | (simp only [oo hO] at g_8 ⊢; simp only [sl] at g_8 ⊢; omega)), ?_⟩
  obtain ⟨g_9, h⟩ := gdb h
  refine ⟨(by first | exact g_9 | (simp only [oo hO] at g_9 ⊢; simp only [sl] at g_9 ⊢; omega)), ?_⟩
  obtain ⟨g_10, h⟩ := gdb h
  refine ⟨(by first | exact g_10 | (simp only [oo hO] at g_10 ⊢; simp only [sl] at g_10 ⊢; omega)), ?_⟩
  obtain ⟨g_11, h⟩ := gdb h
  refine ⟨(by first | exact g_11 | (simp only [oo hO] at g_11 ⊢; simp only [sl] at g_11 ⊢; omega)), ?_⟩
  obtain ⟨g_12, h⟩ := gdb h
  refine ⟨(by first | exact g_12 | (simp only [oo hO] at g_12 ⊢; simp only [sl] at g_12 ⊢; omega)), ?_⟩
  obtain ⟨g_13, h⟩ := gdb h
  refine ⟨(by first | exact g_13 | (simp only [oo hO] at g_13 ⊢; simp only [sl] at g_13 ⊢; omega)), ?_⟩
  refine ⟨⟨(k_2, (O.lset p1 (O.nadd 0 (O.toN (O.isub p2 1))) (O.lget p1 (O.nadd 0 (O.toN p2)) 0)), (O.iadd p2 1)), h⟩, ?_, ?_⟩
  · (cbv <;> ((repeat' apply And.intro) <;> first | trivial | rfl | assumption | (simp only [oo hO, ff, sl]; done) | (simp only [oo hO, ff, sl]; omega) | (intro i hi; first | (cbv <;> (repeat' apply And.intro) <;> first | trivial | rfl) | (simp only [oo hO, ff, sl] at hi ⊢; (try simp only [gg, sl] at hi ⊢); (repeat' split) <;> first | (exfalso; omega) | (exfalso; exact absurd (Nat.lt_of_lt_of_le hi (Nat.min_le_left _ _)) (by assumption)) | (cbv <;> (repeat' apply And.intro) <;> first | trivial | rfl) | (rename_i q; subst q; cbv <;> (repeat' apply And.intro) <;> first | trivial | rfl) | (rename_i q _; subst q; cbv <;> (repeat' apply And.intro) <;> first | trivial | rfl)))))
  · exact Nat.lt_succ_self k_2

theorem c_spec_l03Delay {O : Ops} (hO : O = std) {P : Program} (hP : P = Prg) {a1 : GDelay} {a2 : (List Nat)} {a3 : Nat} {r1 : Nat} {r2 : GDelay} {r3 : (List Nat)} (h : F_spec_l03Delay O a1 a2 a3 = some (r1, r2, r3)) :
    Con P 96 [.box [.int .i64 a1.Length, .flt .f32 a1.Feedback, .flt .f32 a1.Dry, .flt .f32 a1.Wet, .bool a1.Flush], .arr false false 1 (O.llen a2) (fun i1 => [.flt .f32 (O.lget a2 i1 0)])] [.ptr 0 0, .osl 1 1 0 (O.llen a2), .flt .f32 a3] (.flt .f32 r1) [.box [.int .i64 r2.Length, .flt .f32 r2.Feedback, .flt .f32 r2.Dry, .flt .f32 r2.Wet, .bool r2.Flush], .arr false false 1 (O.llen a2) (fun i1 => [.flt .f32 (O.lget r3 i1 0)])] := by
  refine @con_of2 O hO P hP 96 Go.Proofs.Try.f96 Go.Proofs.Try.func96 (by kernel_rfl) _ _ _ _ ?_
  unfold F_spec_l03Delay at h
  replace h := startb h
  obtain ⟨r, hr⟩ : ∃ r, r = (r1, r2, r3) := ⟨_, rfl⟩
  rw [← hr] at h
  cbv
  refine Wp.mk ?_
  obtain ⟨g_1, h⟩ := gdb h
  refine ⟨(by first | exact g_1 | (simp only [oo hO] at g_1 ⊢; simp only [sl] at g_1 ⊢; omega)), ?_⟩
  obtain ⟨g_2, h⟩ := gdb h
  refine ⟨(by first | exact g_2 | (simp only [oo hO] at g_2 ⊢; simp only [sl] at g_2 ⊢; omega)), ?_⟩
  refine ⟨fun b_3 => ?_, fun b_3 => ?_⟩
  rotate_left
  · cbv
    replace h := condf h (by first | exact b_3 | (simp only [oo hO, sl] at b_3 ⊢; exact b_3))
    obtain ⟨v3, e_4, h⟩ := callb h
    refine ⟨[1], _, _, _, _, true, c_spec_l03Take hO hP e_4, ?_⟩
    cbv
    refine ⟨(by (repeat' apply And.intro) <;> first | trivial | rfl), (by (repeat' apply And.intro) <;> first | trivial | rfl | (intro i hi; first | (cbv <;> (repeat' apply And.intro) <;> first | trivial | rfl) | (simp only [oo hO, sl]; cbv <;> (repeat' apply And.intro) <;> first | trivial | rfl))), ?_⟩
    obtain ⟨g_5, h⟩ := gdb h
    simp only [oo hO, ff, sl] at g_5
    obtain ⟨g_6, h⟩ := gdb h
    simp only [oo hO, ff, sl] at g_6
    replace h := (endb h).trans hr
    cases h
    ((repeat' apply And.intro) <;> first | trivial | rfl | assumption | (simp only [oo hO, ff, sl]; done) | (simp only [oo hO, ff, sl]; omega) | (intro i hi; first | (cbv <;> (repeat' apply And.intro) <;> first | trivial | rfl) | (simp only [oo hO, ff, sl] at hi ⊢; (try simp only [gg, sl] at hi ⊢); (repeat' split) <;> first | (exfalso; omega) | (exfalso; exact absurd (Nat.lt_of_lt_of_le hi (Nat.min_le_left _ _)) (by assumption)) | (cbv <;> (repeat' apply And.intro) <;> first | trivial | rfl) | (rename_i q; subst q; cbv <;> (repeat' apply And.intro) <;> first | trivial | rfl) | (rename_i q _; subst q; cbv <;> (repeat' apply And.intro) <;> first | trivial | rfl))))
  cbv
  replace h := condt h (by first | exact b_3 | (simp only [oo hO, sl] at b_3 ⊢; exact b_3))
  obtain ⟨v1, e_7, h⟩ := callb h
  refine ⟨[], _, _, _, _, false, c_spec_l01Flush hO hP e_7, ?_⟩
  cbv
  refine ⟨(by (repeat' apply And.intro) <;> first | trivial | rfl), (by (repeat' apply And.intro) <;> first | trivial | rfl), ?_⟩
  obtain ⟨v2, e_8, h⟩ := callb h
  refine ⟨[1], _, _, _, _, true, c_spec_l03Take hO hP e_8, ?_⟩
  cbv
  refine ⟨(by (repeat' apply And.intro) <;> first | trivial | rfl), (by (repeat' apply And.intro) <;> first | trivial | rfl | (intro i hi; first | (cbv <;> (repeat' apply And.intro) <;> first | trivial | rfl) | (simp only [oo hO, sl]; cbv <;> (repeat' apply And.intro) <;> first | trivial | rfl))), ?_⟩
  obtain ⟨g_9, h⟩ := gdb h
  simp only [oo hO, ff, sl] at g_9
  obtain ⟨g_10, h⟩ := gdb h
  simp only [oo hO, ff, sl] at g_10
  replace h := (endb h).trans hr
  cases h
  ((repeat' apply And.intro) <;> first | trivial | rfl | assumption | (simp only [oo hO, ff, sl]; done) | (simp only [oo hO, ff, sl]; omega) | (intro i hi; first | (cbv <;> (repeat' apply And.intro) <;> first | trivial | rfl) | (simp only [oo hO, ff, sl] at hi ⊢; (try simp only [gg, sl] at hi ⊢); (repeat' split) <;> first | (exfalso; omega) | (exfalso; exact absurd (Nat.lt_of_lt_of_le hi (Nat.min_le_left _ _)) (by assumption)) | (cbv <;> (repeat' apply And.intro) <;> first | trivial | rfl) | (rename_i q; subst q; cbv <;> (repeat' apply And.intro) <;> first | trivial | rfl) | (rename_i q _; subst q; cbv <;> (repeat' apply And.intro) <;> first | trivial | rfl))))

theorem c_spec_SilentFrom {O : Ops} (hO : O = std) {P : Program} (hP : P = Prg) {a1 : GDelay} {a2 : (List Nat)} {r1 : Int} {r2 : Bool} (h : F_spec_SilentFrom O a1 a2 = some (r1, r2)) :
    Con P 38 [] [.agg [.int .i64 a1.Length, .flt .f32 a1.Feedback, .flt .f32 a1.Dry, .flt .f32 a1.Wet, .bool a1.Flush], .sl false false 1 (O.llen a2) (fun i1 => [.flt .f32 (O.lget a2 i1 0)])] (.tup [.int .i64 r1, .bool r2]) [] := by
  refine @con_of2 O hO P hP 38 Go.Proofs.Try.f38 Go.Proofs.Try.func38 (by kernel_rfl) _ _ _ _ ?_
  unfold F_spec_SilentFrom at h
  replace h := startb h
  obtain ⟨r, hr⟩ : ∃ r, r = (r1, r2) := ⟨_, rfl⟩
  rw [← hr] at h
  cbv
  refine Wp.mk ?_
  obtain ⟨v1, e_1, h⟩ := callb h
  refine ⟨[], _, _, _, _, false, c_spec_l03Length hO hP e_1, ?_⟩
  cbv
  refine ⟨(by (repeat' apply And.intro) <;> first | trivial | rfl), (by (repeat' apply And.intro) <;> first | trivial | rfl), ?_⟩
  refine ⟨fun b_2 => ?_, fun b_2 => ?_⟩
  rotate_left
  · cbv
    replace h := condt h (by first | exact b_2 | (simp only [oo hO, sl] at b_2 ⊢; exact b_2))
    refine ⟨?_, ?_⟩
    · first | (intro q; cases q; done) | trivial
    try intro _
    cbv
    refine ⟨?_, ?_⟩
    · first | (intro q; cases q; done) | trivial
    try intro _
    cbv
    refine ⟨?_, ?_⟩
    · first | (intro q; cases q; done) | trivial
    try intro _
    cbv
    refine ⟨?_, ?_⟩
    · first | (intro q; cases q; done) | trivial
    try intro _
    cbv
    refine ⟨?_, ?_⟩
    rotate_left
    · first | (intro q; cases q; done) | trivial
    try intro _
    cbv
    refine ⟨?_, ?_⟩
    · first | (intro q; cases q; done) | trivial
    try intro _
    cbv
    refine ⟨?_, ?_⟩
    · first | (intro q; cases q; done) | trivial
    try intro _
    cbv
    refine ⟨?_, ?_⟩
    · first | (intro q; cases q; done) | trivial
    try intro _
    cbv
    refine ⟨?_, ?_⟩
    · first | (intro q; cases q; done) | trivial
    try intro _
    cbv
    refine ⟨?_, ?_⟩
    rotate_left
    · first | (intro q; cases q; done) | trivial
    try intro _
    cbv
    refine ⟨?_, ?_⟩
    rotate_left
    · first | (intro q; cases q; done) | trivial
    try intro _
    cbv
    replace h := (endb h).trans hr
    cases h
    ((repeat' apply And.intro) <;> first | trivial | rfl | assumption | (simp only [oo hO, ff, sl]; done) | (simp only [oo hO, ff, sl]; omega) | (intro i hi; first | (cbv <;> (repeat' apply And.intro) <;> first | trivial | rfl) | (simp only [oo hO, ff, sl] at hi ⊢; (try simp only [gg, sl] at hi ⊢); (repeat' split) <;> first | (exfalso; omega) | (exfalso; exact absurd (Nat.lt_of_lt_of_le hi (Nat.min_le_left _ _)) (by assumption)) | (cbv <;> (repeat' apply And.intro) <;> first | trivial | rfl) | (rename_i q; subst q; cbv <;> (repeat' apply And.intro) <;> first | trivial | rfl) | (rename_i q _; subst q; cbv <;> (repeat' apply And.intro) <;> first | trivial | rfl))))
  cbv
  replace h := condf h (by first | exact b_2 | (simp only [oo hO, sl] at b_2 ⊢; exact b_2))
  refine ⟨?_, ?_⟩
  rotate_left
  · first | (intro q; cases q; done) | trivial
  try intro _
  cbv
  refine ⟨?_, ?_⟩
  rotate_left
  · first | (intro q; cases q; done) | trivial
  try intro _
  cbv
  refine ⟨?_, ?_⟩
  rotate_left
  · first | (intro q; cases q; done) | trivial
  try intro _
  cbv
  refine ⟨?_, ?_⟩
  rotate_left
  · first | (intro q; cases q; done) | trivial
  try intro _
  cbv
  refine ⟨?_, ?_⟩
  · first | (intro q; cases q; done) | trivial
  try intro _
  cbv
  refine ⟨fun b_3 => ?_, fun b_3 => ?_⟩
  rotate_left
  · cbv
    replace h := condt h (by first | exact b_3 | (simp only [oo hO, sl] at b_3 ⊢; exact b_3))
    refine ⟨?_, ?_⟩
    · first | (intro q; cases q; done) | trivial
    try intro _
    cbv
    refine ⟨?_, ?_⟩
    · first | (intro q; cases q; done) | trivial
    try intro _
    cbv
    refine ⟨?_, ?_⟩
    · first | (intro q; cases q; done) | trivial
    try intro _
    cbv
    refine ⟨?_, ?_⟩
    rotate_left
    · first | (intro q; cases q; done) | trivial
    try intro _
    cbv
    refine ⟨?_, ?_⟩
    rotate_left
    · first | (intro q; cases q; done) | trivial
    try intro _
    cbv
    replace h := (endb h).trans hr
    cases h
    ((repeat' apply And.intro) <;> first | trivial | rfl | assumption | (simp only [oo hO, ff, sl]; done) | (simp only [oo hO, ff, sl]; omega) | (intro i hi; first | (cbv <;> (repeat' apply And.intro) <;> first | trivial | rfl) | (simp only [oo hO, ff, sl] at hi ⊢; (try simp only [gg, sl] at hi ⊢); (repeat' split) <;> first | (exfalso; omega) | (exfalso; exact absurd (Nat.lt_of_lt_of_le hi (Nat.min_le_left _ _)) (by assumption)) | (cbv <;> (repeat' apply And.intro) <;> first | trivial | rfl) | (rename_i q; subst q; cbv <;> (repeat' apply And.intro) <;> first | trivial | rfl) | (rename_i q _; subst q; cbv <;> (repeat' apply And.intro) <;> first | trivial | rfl))))
  cbv
  replace h := condf h (by first | exact b_3 | (simp only [oo hO, sl] at b_3 ⊢; exact b_3))
  refine ⟨?_, ?_⟩
  rotate_left
  · first | (intro q; cases q; done) | trivial
  try intro _
  cbv
  refine ⟨?_, ?_⟩
  rotate_left
  · first | (intro q; cases q; done) | trivial
  try intro _
  cbv
  obtain ⟨v2, e_4, h⟩ := callb h
  refine ⟨[], _, _, _, _, false, c_spec_l01Finite hO hP e_4, ?_⟩
  cbv
  refine ⟨(by (repeat' apply And.intro) <;> first | trivial | rfl), (by (repeat' apply And.intro) <;> first | trivial | rfl), ?_⟩
  refine ⟨?_, ?_⟩
  rotate_left
  · first | (intro q; cases q; done) | trivial
  try intro _
  cbv
  refine ⟨?_, ?_⟩
  · first | (intro q; cases q; done) | trivial
  try intro _
  cbv
  refine ⟨fun b_5 => ?_, fun b_5 => ?_⟩
  · cbv
    replace h := condt h (by first | exact b_5 | (simp only [oo hO, sl] at b_5 ⊢; exact b_5))
    replace h := (endb h).trans hr
    cases h
    ((repeat' apply And.intro) <;> first | trivial | rfl | assumption | (simp only [oo hO, ff, sl]; done) | (simp only [oo hO, ff, sl]; omega) | (intro i hi; first | (cbv <;> (repeat' apply And.intro) <;> first | trivial | rfl) | (simp only [oo hO, ff, sl] at hi ⊢; (try simp only [gg, sl] at hi ⊢); (repeat' split) <;> first | (exfalso; omega) | (exfalso; exact absurd (Nat.lt_of_lt_of_le hi (Nat.min_le_left _ _)) (by assumption)) | (cbv <;> (repeat' apply And.intro) <;> first | trivial | rfl) | (rename_i q; subst q; cbv <;> (repeat' apply And.intro) <;> first | trivial | rfl) | (rename_i q _; subst q; cbv <;> (repeat' apply And.intro) <;> first | trivial | rfl))))
  cbv
  replace h := condf h (by first | exact b_5 | (simp only [oo hO, sl] at b_5 ⊢; exact b_5))
  obtain ⟨R_6, hR_6, h⟩ := loopb h
  refine ⟨{ x : Nat × Int // (F_spec_SilentFrom_l0 O a2 x.1 x.2).bind R_6 = some r }, fun x => ⟨[(1, .sl false false 1 (O.llen a2) (fun i1 => [.flt .f32 (O.lget a2 i1 0)])), (2, .ptr 15 0), (27, .int .i64 (O.ofN (O.llen a2))), (28, .int .i64 x.1.2)], [(15, .box [.int .i64 a1.Length, .flt .f32 a1.Feedback, .flt .f32 a1.Dry, .flt .f32 a1.Wet, .bool a1.Flush])]⟩, fun x => x.1.1, ⟨(KK, 0), h⟩, ?_, ?_⟩
  · (cbv <;> ((repeat' apply And.intro) <;> first | trivial | rfl | assumption | (simp only [oo hO, ff, sl]; done) | (simp only [oo hO, ff, sl]; omega) | (intro i hi; first | (cbv <;> (repeat' apply And.intro) <;> first | trivial | rfl) | (simp only [oo hO, ff, sl] at hi ⊢; (try simp only [gg, sl] at hi ⊢); (repeat' split) <;> first | (exfalso; omega) | (exfalso; exact absurd (Nat.lt_of_lt_of_le hi (Nat.min_le_left _ _)) (by assumption)) | (cbv <;> (repeat' apply And.intro) <;> first | trivial | rfl) | (rename_i q; subst q; cbv <;> (repeat' apply And.intro) <;> first | trivial | rfl) | (rename_i q _; subst q; cbv <;> (repeat' apply And.intro) <;> first | trivial | rfl)))))
  rintro ⟨⟨k_7, p4⟩, h⟩
  rcases k_7 with _ | k_7
  · cases noneb rfl h
  rw [F_spec_SilentFrom_l0.eq_2] at h
  cbv
  refine ⟨fun b_8 => ?_, fun b_8 => ?_⟩
  · cbv
    replace h := condt h (by first | exact b_8 | (simp only [oo hO, sl] at b_8 ⊢; exact b_8))
    obtain ⟨g_9, h⟩ := gdb h
    refine ⟨(by first | exact g_9 | (simp only [oo hO] at g_9 ⊢; simp only [sl] at g_9 ⊢; omega)), ?_⟩
    obtain ⟨v3, e_10, h⟩ := callb h
    refine ⟨[], _, _, _, _, false, c_spec_l01Finite hO hP e_10, ?_⟩
    cbv
    refine ⟨(by (repeat' apply And.intro) <;> first | trivial | rfl), (by (repeat' apply And.intro) <;> first | trivial | rfl), ?_⟩
    refine ⟨fun b_11 => ?_, fun b_11 => ?_⟩
    · cbv
      replace h := condt h (by first | exact b_11 | (simp only [oo hO, sl] at b_11 ⊢; exact b_11))
      replace h := leafb h hR_6
      replace h := (endb h).trans hr
      cases h
      ((repeat' apply And.intro) <;> first | trivial | rfl | assumption | (simp only [oo hO, ff, sl]; done) | (simp only [oo hO, ff, sl]; omega) | (intro i hi; first | (cbv <;> (repeat' apply And.intro) <;> first | trivial | rfl) | (simp only [oo hO, ff, sl] at hi ⊢; (try simp only [gg, sl] at hi ⊢); (repeat' split) <;> first | (exfalso; omega) | (exfalso; exact absurd (Nat.lt_of_lt_of_le hi (Nat.min_le_left _ _)) (by assumption)) | (cbv <;> (repeat' apply And.intro) <;> first | trivial | rfl) | (rename_i q; subst q; cbv <;> (repeat' apply And.intro) <;> first | trivial | rfl) | (rename_i q _; subst q; cbv <;> (repeat' apply And.intro) <;> first | trivial | rfl))))
    cbv
    replace h := condf h (by first | exact b_11 | (simp only [oo hO, sl] at b_11 ⊢; exact b_11))
    obtain ⟨g_12, h⟩ := gdb h
    refine ⟨(by first | exact g_12 | (simp only [oo hO] at g_12 ⊢; simp only [sl] at g_12 ⊢; omega)), ?_⟩
    refine ⟨⟨(k_7, (O.iadd p4 1)), h⟩, ?_, ?_⟩
    · (cbv <;> ((repeat' apply And.intro) <;> first | trivial | rfl | assumption | (simp only [oo hO, ff, sl]; done) | (simp only [oo hO, ff, sl]; omega) | (intro i hi; first | (cbv <;> (repeat' apply And.intro) <;> first | trivial | rfl) | (simp only [oo hO, ff, sl] at hi ⊢; (try simp only [gg, sl] at hi ⊢); (repeat' split) <;> first | (exfalso; omega) | (exfalso; exact absurd (Nat.lt_of_lt_of_le hi (Nat.min_le_left _ _)) (by assumption)) | (cbv <;> (repeat' apply And.intro) <;> first | trivial | rfl) | (rename_i q; subst q; cbv <;> (repeat' apply And.intro) <;> first | trivial | rfl) | (rename_i q _; subst q; cbv <;> (repeat' apply And.intro) <;> first | trivial | rfl)))))
    · exact Nat.lt_succ_self k_7
  cbv
  replace h := condf h (by first | exact b_8 | (simp only [oo hO, sl] at b_8 ⊢; exact b_8))
  replace h := leafb h hR_6
  obtain ⟨v5, e_13, h⟩ := callb h
  refine ⟨[], _, _, _, _, true, c_spec_l03Own hO hP e_13, ?_⟩
  cbv
  refine ⟨(by (repeat' apply And.intro) <;> first | trivial | rfl | (intro i hi; first | (cbv <;> (repeat' apply And.intro) <;> first | trivial | rfl) | (simp only [oo hO, sl]; cbv <;> (repeat' apply And.intro) <;> first | trivial | rfl))), (by (repeat' apply And.intro) <;> first | trivial | rfl), ?_⟩
  obtain ⟨R_14, hR_14, h⟩ := loopb h
  refine ⟨{ x : Nat × (List Nat) × Int × Int × Nat × Nat × Nat × Bool // (F_spec_SilentFrom_l1 O x.1 x.2.1 x.2.2.1 x.2.2.2.1 x.2.2.2.2.1 x.2.2.2.2.2.1 x.2.2.2.2.2.2.1 x.2.2.2.2.2.2.2).bind R_14 = some r }, fun x => ⟨[(2, .ptr 15 0), (7, .osl 31 1 0 (O.llen x.1.2.1)), (8, .int .i64 x.1.2.2.1)], [(15, .box [.int .i64 x.1.2.2.2.1, .flt .f32 x.1.2.2.2.2.1, .flt .f32 x.1.2.2.2.2.2.1, .flt .f32 x.1.2.2.2.2.2.2.1, .bool x.1.2.2.2.2.2.2.2]), (31, .arr true false 1 (O.llen x.1.2.1) (fun i1 => [.flt .f32 (O.lget x.1.2.1 i1 0)]))]⟩, fun x => x.1.1, ⟨(KK, v5, 0, a1.Length, a1.Feedback, a1.Dry, a1.Wet, a1.Flush), h⟩, ?_, ?_⟩
  · (cbv <;> ((repeat' apply And.intro) <;> first | trivial | rfl | assumption | (simp only [oo hO, ff, sl]; done) | (simp only [oo hO, ff, sl]; omega) | (intro i hi; first | (cbv <;> (repeat' apply And.intro) <;> first | trivial | rfl) | (simp only [oo hO, ff, sl] at hi ⊢; (try simp only [gg, sl] at hi ⊢); (repeat' split) <;> first | (exfalso; omega) | (exfalso; exact absurd (Nat.lt_of_lt_of_le hi (Nat.min_le_left _ _)) (by assumption)) | (cbv <;> (repeat' apply And.intro) <;> first | trivial | rfl) | (rename_i q; subst q; cbv <;> (repeat' apply And.intro) <;> first | trivial | rfl) | (rename_i q _; subst q; cbv <;> (repeat' apply And.intro) <;> first | trivial | rfl)))))
  rintro ⟨⟨k_15, p10, p11, p12, p13, p14, p15, p16⟩, h⟩
  rcases k_15 with _ | k_15
  · cases noneb rfl h
  rw [F_spec_SilentFrom_l1.eq_2] at h
  cbv
  refine ⟨fun b_16 => ?_, fun b_16 => ?_⟩
  rotate_left
  · cbv
    replace h := condf h (by first | exact b_16 | (simp only [oo hO, sl] at b_16 ⊢; exact b_16))
    replace h := leafb h hR_14
    replace h := (endb h).trans hr
    cases h
    ((repeat' apply And.intro) <;> first | trivial | rfl | assumption | (simp only [oo hO, ff, sl]; done) | (simp only [oo hO, ff, sl]; omega) | (intro i hi; first | (cbv <;> (repeat' apply And.intro) <;> first | trivial | rfl) | (simp only [oo hO, ff, sl] at hi ⊢; (try simp only [gg, sl] at hi ⊢); (repeat' split) <;> first | (exfalso; omega) | (exfalso; exact absurd (Nat.lt_of_lt_of_le hi (Nat.min_le_left _ _)) (by assumption)) | (cbv <;> (repeat' apply And.intro) <;> first | trivial | rfl) | (rename_i q; subst q; cbv <;> (repeat' apply And.intro) <;> first | trivial | rfl) | (rename_i q _; subst q; cbv <;> (repeat' apply And.intro) <;> first | trivial | rfl))))
  cbv
  replace h := condt h (by first | exact b_16 | (simp only [oo hO, sl] at b_16 ⊢; exact b_16))
  obtain ⟨v6, e_17, h⟩ := callb h
  refine ⟨[], _, _, _, _, false, c_spec_l03Zeros hO hP e_17, ?_⟩
  cbv
  refine ⟨(by first | trivial | (simp only [oo hO, sl]; omega) | (simp only [oo hO, sl]; done)), ?_⟩
  refine ⟨(by (repeat' apply And.intro) <;> first | trivial | rfl | (intro i hi; first | (cbv <;> (repeat' apply And.intro) <;> first | trivial | rfl) | (simp only [oo hO, sl]; cbv <;> (repeat' apply And.intro) <;> first | trivial | rfl))), (by (repeat' apply And.intro) <;> first | trivial | rfl), ?_⟩
  refine ⟨fun b_18 => ?_, fun b_18 => ?_⟩
  · cbv
    replace h := condt h (by first | exact b_18 | (simp only [oo hO, sl] at b_18 ⊢; exact b_18))
    replace h := leafb h hR_14
    replace h := (endb h).trans hr
    cases h
    ((repeat' apply And.intro) <;> first | trivial | rfl | assumption | (simp only [oo hO, ff, sl]; done) | (simp only [oo hO, ff, sl]; omega) | (intro i hi; first | (cbv <;> (repeat' apply And.intro) <;> first | trivial | rfl) | (simp only [oo hO, ff, sl] at hi ⊢; (try simp only [gg, sl] at hi ⊢); (repeat' split) <;> first | (exfalso; omega) | (exfalso; exact absurd (Nat.lt_of_lt_of_le hi (Nat.min_le_left _ _)) (by assumption)) | (cbv <;> (repeat' apply And.intro) <;> first | trivial | rfl) | (rename_i q; subst q; cbv <;> (repeat' apply And.intro) <;> first | trivial | rfl) | (rename_i q _; subst q; cbv <;> (repeat' apply And.intro) <;> first | trivial | rfl))))
  cbv
  replace h := condf h (by first | exact b_18 | (simp only [oo hO, sl] at b_18 ⊢; exact b_18))
  obtain ⟨⟨v7, v8, v9⟩, e_19, h⟩ := callb h
  refine ⟨[15, 31], _, _, _, _, true, c_spec_l03Delay hO hP e_19, ?_⟩
  cbv
  refine ⟨(by (repeat' apply And.intro) <;> first | trivial | rfl), (by (repeat' apply And.intro) <;> first | trivial | rfl | (intro i hi; first | (cbv <;> (repeat' apply And.intro) <;> first | trivial | rfl) | (simp only [oo hO, sl]; cbv <;> (repeat' apply And.intro) <;> first | trivial | rfl))), ?_⟩
  obtain ⟨g_20, h⟩ := gdb h
  simp only [oo hO, ff, sl] at g_20
  obtain ⟨g_21, h⟩ := gdb h
  refine ⟨(by first | exact g_21 | (simp only [oo hO] at g_21 ⊢; simp only [sl] at g_21 ⊢; omega)), ?_⟩
  refine ⟨⟨(k_15, v9, (O.iadd p11 1), v8.Length, v8.Feedback, v8.Dry, v8.Wet, v8.Flush), h⟩, ?_, ?_⟩
  · (cbv <;> ((repeat' apply And.intro) <;> first | trivial | rfl | assumption | (simp only [oo hO, ff, sl]; done) | (simp only [oo hO, ff, sl]; omega) | (intro i hi; first | (cbv <;> (repeat' apply And.intro) <;> first | trivial | rfl) | (simp only [oo hO, ff, sl] at hi ⊢; (try simp only [gg, sl] at hi ⊢); (repeat' split) <;> first | (exfalso; omega) | (exfalso; exact absurd (Nat.lt_of_lt_of_le hi (Nat.min_le_left _ _)) (by assumption)) | (cbv <;> (repeat' apply And.intro) <;> first | trivial | rfl) | (rename_i q; subst q; cbv <;> (repeat' apply And.intro) <;> first | trivial | rfl) | (rename_i q _; subst q; cbv <;> (repeat' apply And.intro) <;> first | trivial | rfl)))))
  · exact Nat.lt_succ_self k_15

theorem c_laws_FnDelays {O : Ops} (hO : O = std) {P : Program} (hP : P = Prg) {a1 : (List Int)} {a2 : (List Int)} {r1 : Bool} (h : F_laws_FnDelays O a1 a2 = some r1) :
    Con P 5 [] [.sl false false 1 (O.llen a1) (fun i1 => [.int .u8 (O.lget a1 i1 0)]), .sl false false 1 (O.llen a2) (fun i1 => [.int .u8 (O.lget a2 i1 0)])] (.bool r1) [] := by
  refine @con_of2 O hO P hP 5 Go.Proofs.Try.f5 Go.Proofs.Try.func5 (by kernel_rfl) _ _ _ _ ?_
  unfold F_laws_FnDelays at h
  replace h := startb h
  obtain ⟨r, hr⟩ : ∃ r, r = r1 := ⟨_, rfl⟩
  rw [← hr] at h
  cbv
  refine Wp.mk ?_
  obtain ⟨v1, e_1, h⟩ := callb h
  refine ⟨[], _, _, _, _, false, c_laws_b10Long hO hP e_1, ?_⟩
  cbv
  refine ⟨(by (repeat' apply And.intro) <;> first | trivial | rfl | (intro i hi; first | (cbv <;> (repeat' apply And.intro) <;> first | trivial | rfl) | (simp only [oo hO, sl]; cbv <;> (repeat' apply And.intro) <;> first | trivial | rfl))), (by (repeat' apply And.intro) <;> first | trivial | rfl), ?_⟩
  refine ⟨fun b_2 => ?_, fun b_2 => ?_⟩
  · cbv
    replace h := condt h (by first | exact b_2 | (simp only [oo hO, sl] at b_2 ⊢; exact b_2))
    replace h := (endb h).trans hr
    cases h
    ((repeat' apply And.intro) <;> first | trivial | rfl | assumption | (simp only [oo hO, ff, sl]; done) | (simp only [oo hO, ff, sl]; omega) | (intro i hi; first | (cbv <;> (repeat' apply And.intro) <;> first | trivial | rfl) | (simp only [oo hO, ff, sl] at hi ⊢; (try simp only [gg, sl] at hi ⊢); (repeat' split) <;> first | (exfalso; omega) | (exfalso; exact absurd (Nat.lt_of_lt_of_le hi (Nat.min_le_left _ _)) (by assumption)) | (cbv <;> (repeat' apply And.intro) <;> first | trivial | rfl) | (rename_i q; subst q; cbv <;> (repeat' apply And.intro) <;> first | trivial | rfl) | (rename_i q _; subst q; cbv <;> (repeat' apply And.intro) <;> first | trivial | rfl))))
  cbv
  replace h := condf h (by first | exact b_2 | (simp only [oo hO, sl] at b_2 ⊢; exact b_2))
  obtain ⟨v2, e_3, h⟩ := callb h
  refine ⟨[], _, _, _, _, false, c_spec_B10Delay hO hP e_3, ?_⟩
  cbv
  refine ⟨(by (repeat' apply And.intro) <;> first | trivial | rfl | (intro i hi; first | (cbv <;> (repeat' apply And.intro) <;> first | trivial | rfl) | (simp only [oo hO, sl]; cbv <;> (repeat' apply And.intro) <;> first | trivial | rfl))), (by (repeat' apply And.intro) <;> first | trivial | rfl), ?_⟩
  obtain ⟨v3, e_4, h⟩ := callb h
  refine ⟨[], _, _, _, _, false, c_laws_b10At hO hP e_4, ?_⟩
  cbv
  refine ⟨(by (repeat' apply And.intro) <;> first | trivial | rfl | (intro i hi; first | (cbv <;> (repeat' apply And.intro) <;> first | trivial | rfl) | (simp only [oo hO, sl]; cbv <;> (repeat' apply And.intro) <;> first | trivial | rfl))), (by (repeat' apply And.intro) <;> first | trivial | rfl), ?_⟩
  obtain ⟨v4, e_5, h⟩ := callb h
  refine ⟨[], _, _, _, _, false, c_spec_B10Numbers hO hP e_5, ?_⟩
  cbv
  refine ⟨(by (repeat' apply And.intro) <;> first | trivial | rfl | (intro i hi; first | (cbv <;> (repeat' apply And.intro) <;> first | trivial | rfl) | (simp only [oo hO, sl]; cbv <;> (repeat' apply And.intro) <;> first | trivial | rfl))), (by (repeat' apply And.intro) <;> first | trivial | rfl), ?_⟩
  obtain ⟨v5, e_6, h⟩ := callb h
  refine ⟨[], _, _, _, _, false, c_spec_B10Numbers hO hP e_6, ?_⟩
  cbv
  refine ⟨(by (repeat' apply And.intro) <;> first | trivial | rfl | (intro i hi; first | (cbv <;> (repeat' apply And.intro) <;> first | trivial | rfl) | (simp only [oo hO, sl]; cbv <;> (repeat' apply And.intro) <;> first | trivial | rfl))), (by (repeat' apply And.intro) <;> first | trivial | rfl), ?_⟩
  obtain ⟨g_7, h⟩ := gdb h
  refine ⟨(by first | exact g_7 | (simp only [oo hO] at g_7 ⊢; simp only [sl] at g_7 ⊢; omega)), ?_⟩
  obtain ⟨v6, e_8, h⟩ := callb h
  refine ⟨[], _, _, _, _, false, c_laws_b10At hO hP e_8, ?_⟩
  cbv
  refine ⟨(by (repeat' apply And.intro) <;> first | trivial | rfl | (intro i hi; first | (cbv <;> (repeat' apply And.intro) <;> first | trivial | rfl) | (simp only [oo hO, sl]; cbv <;> (repeat' apply And.intro) <;> first | trivial | rfl))), (by (repeat' apply And.intro) <;> first | trivial | rfl), ?_⟩
  obtain ⟨⟨v7, v8, v9⟩, e_9, h⟩ := callb h
  refine ⟨[], _, _, _, _, true, c_impl_RunDelay hO hP e_9, ?_⟩
  cbv
  refine ⟨(by first | trivial | (simp only [oo hO, sl]; omega) | (simp only [oo hO, sl]; done)), (by first | trivial | (simp only [oo hO, sl]; omega) | (simp only [oo hO, sl]; done)), ?_⟩
  refine ⟨(by (repeat' apply And.intro) <;> first | trivial | rfl | (intro i hi; first | (cbv <;> (repeat' apply And.intro) <;> first | trivial | rfl) | (simp only [oo hO, sl]; cbv <;> (repeat' apply And.intro) <;> first | trivial | rfl))), (by (repeat' apply And.intro) <;> first | trivial | rfl), ?_⟩
  obtain ⟨g_10, h⟩ := gdb h
  have qg_10 := g_10; simp only [oo hO, ff, sl] at qg_10
  obtain ⟨g_11, h⟩ := gdb h
  have qg_11 := g_11; simp only [oo hO, ff, sl] at qg_11
  refine ⟨(by first | exact g_10 | (simp only [oo hO] at g_10 ⊢; simp only [sl] at g_10 ⊢; omega)), (by first | exact g_11 | (simp only [oo hO] at g_11 ⊢; simp only [sl] at g_11 ⊢; omega)), ?_⟩
  obtain ⟨⟨v10, v11, v12⟩, e_12, h⟩ := callb h
  refine ⟨[], _, _, _, _, true, c_impl_RunDelay hO hP e_12, ?_⟩
  cbv
  refine ⟨(by first | trivial | (simp only [oo hO, sl]; omega) | (simp only [oo hO, sl]; done)), (by first | trivial | (simp only [oo hO, sl]; omega) | (simp only [oo hO, sl]; done)), ?_⟩
  refine ⟨(by ((repeat' apply And.intro) <;> first | trivial | rfl | assumption | (simp only [oo hO, ff, sl]; done) | (simp only [oo hO, ff, sl]; omega) | (intro i hi; first | (cbv <;> (repeat' apply And.intro) <;> first | trivial | rfl) | (simp only [oo hO, ff, sl] at hi ⊢; (try simp only [gg, sl] at hi ⊢); (repeat' split) <;> first | (exfalso; omega) | (exfalso; exact absurd (Nat.lt_of_lt_of_le hi (Nat.min_le_left _ _)) (by assumption)) | (cbv <;> (repeat' apply And.intro) <;> first | trivial | rfl) | (rename_i q; subst q; cbv <;> (repeat' apply And.intro) <;> first | trivial | rfl) | (rename_i q _; subst q; cbv <;> (repeat' apply And.intro) <;> first | trivial | rfl))))), (by (repeat' apply And.intro) <;> first | trivial | rfl), ?_⟩
  obtain ⟨g_13, h⟩ := gdb h
  have qg_13 := g_13; simp only [oo hO, ff, sl] at qg_13
  obtain ⟨g_14, h⟩ := gdb h
  have qg_14 := g_14; simp only [oo hO, ff, sl] at qg_14
  refine ⟨(by first | exact g_13 | (simp only [oo hO] at g_13 ⊢; simp only [sl] at g_13 ⊢; omega)), (by first | exact g_14 | (simp only [oo hO] at g_14 ⊢; simp only [sl] at g_14 ⊢; omega)), ?_⟩
  obtain ⟨⟨v13, v14, v15⟩, e_15, h⟩ := callb h
  refine ⟨[], _, _, _, _, true, c_impl_RunDelay hO hP e_15, ?_⟩
  cbv
  refine ⟨(by first | trivial | (simp only [oo hO, sl]; omega) | (simp only [oo hO, sl]; done)), (by first | trivial | (simp only [oo hO, sl]; omega) | (simp only [oo hO, sl]; done)), ?_⟩
  refine ⟨(by ((repeat' apply And.intro) <;> first | trivial | rfl | assumption | (simp only [oo hO, ff, sl]; done) | (simp only [oo hO, ff, sl]; omega) | (intro i hi; first | (cbv <;> (repeat' apply And.intro) <;> first | trivial | rfl) | (simp only [oo hO, ff, sl] at hi ⊢; (try simp only [gg, sl] at hi ⊢); (repeat' split) <;> first | (exfalso; omega) | (exfalso; exact absurd (Nat.lt_of_lt_of_le hi (Nat.min_le_left _ _)) (by assumption)) | (cbv <;> (repeat' apply And.intro) <;> first | trivial | rfl) | (rename_i q; subst q; cbv <;> (repeat' apply And.intro) <;> first | trivial | rfl) | (rename_i q _; subst q; cbv <;> (repeat' apply And.intro) <;> first | trivial | rfl))))), (by (repeat' apply And.intro) <;> first | trivial | rfl), ?_⟩
  refine ⟨fun b_16 => ?_, fun b_16 => ?_⟩
  rotate_left
  · cbv
    replace h := condt h (by first | exact b_16 | (simp only [oo hO, sl] at b_16 ⊢; exact b_16))
    refine ⟨?_, ?_⟩
    · first | (intro q; cases q; done) | trivial
    try intro _
    cbv
    refine ⟨?_, ?_⟩
    rotate_left
    · first | (intro q; cases q; done) | trivial
    try intro _
    cbv
    refine ⟨?_, ?_⟩
    · first | (intro q; cases q; done) | trivial
    try intro _
    cbv
    refine ⟨?_, ?_⟩
    · first | (intro q; cases q; done) | trivial
    try intro _
    cbv
    refine ⟨?_, ?_⟩
    rotate_left
    · first | (intro q; cases q; done) | trivial
    try intro _
    cbv
    refine ⟨?_, ?_⟩
    · first | (intro q; cases q; done) | trivial
    try intro _
    cbv
    refine ⟨?_, ?_⟩
    · first | (intro q; cases q; done) | trivial
    try intro _
    cbv
    refine ⟨?_, ?_⟩
    · first | (intro q; cases q; done) | trivial
    try intro _
    cbv
    refine ⟨?_, ?_⟩
    rotate_left
    · first | (intro q; cases q; done) | trivial
    try intro _
    cbv
    refine ⟨?_, ?_⟩
    · first | (intro q; cases q; done) | trivial
    try intro _
    cbv
    refine ⟨?_, ?_⟩
    · first | (intro q; cases q; done) | trivial
    try intro _
    cbv
    refine ⟨?_, ?_⟩
    · first | (intro q; cases q; done) | trivial
    try intro _
    cbv
    refine ⟨?_, ?_⟩
    · first | (intro q; cases q; done) | trivial
    try intro _
    cbv
    refine ⟨?_, ?_⟩
    · first | (intro q; cases q; done) | trivial
    try intro _
    cbv
    refine ⟨?_, ?_⟩
    · first | (intro q; cases q; done) | trivial
    try intro _
    cbv
    refine ⟨?_, ?_⟩
    · first | (intro q; cases q; done) | trivial
    try intro _
    cbv
    refine ⟨?_, ?_⟩
    · first | (intro q; cases q; done) | trivial
    try intro _
    cbv
    refine ⟨?_, ?_⟩
    rotate_left
    · first | (intro q; cases q; done) | trivial
    try intro _
    cbv
    refine ⟨?_, ?_⟩
    · first | (intro q; cases q; done) | trivial
    try intro _
    cbv
    refine ⟨?_, ?_⟩
    · first | (intro q; cases q; done) | trivial
    try intro _
    cbv
    refine ⟨?_, ?_⟩
    · first | (intro q; cases q; done) | trivial
    try intro _
    cbv
    refine ⟨?_, ?_⟩
    · first | (intro q; cases q; done) | trivial
    try intro _
    cbv
    refine ⟨?_, ?_⟩
    rotate_left
    · first | (intro q; cases q; done) | trivial
    try intro _
    cbv
    refine ⟨?_, ?_⟩
    · first | (intro q; cases q; done) | trivial
    try intro _
    cbv
    refine ⟨?_, ?_⟩
    · first | (intro q; cases q; done) | trivial
    try intro _
    cbv
    refine ⟨?_, ?_⟩
    · first | (intro q; cases q; done) | trivial
    try intro _
    cbv
    refine ⟨?_, ?_⟩
    · first | (intro q; cases q; done) | trivial
    try intro _
    cbv
    refine ⟨?_, ?_⟩
    rotate_left
    · first | (intro q; cases q; done) | trivial
    try intro _
    cbv
    refine ⟨?_, ?_⟩
    rotate_left
    · first | (intro q; cases q; done) | trivial
    try intro _
    cbv
    replace h := (endb h).trans hr
    cases h
    ((repeat' apply And.intro) <;> first | trivial | rfl | assumption | (simp only [oo hO, ff, sl]; done) | (simp only [oo hO, ff, sl]; omega) | (intro i hi; first | (cbv <;> (repeat' apply And.intro) <;> first | trivial | rfl) | (simp only [oo hO, ff, sl] at hi ⊢; (try simp only [gg, sl] at hi ⊢); (repeat' split) <;> first | (exfalso; omega) | (exfalso; exact absurd (Nat.lt_of_lt_of_le hi (Nat.min_le_left _ _)) (by assumption)) | (cbv <;> (repeat' apply And.intro) <;> first | trivial | rfl) | (rename_i q; subst q; cbv <;> (repeat' apply And.intro) <;> first | trivial | rfl) | (rename_i q _; subst q; cbv <;> (repeat' apply And.intro) <;> first | trivial | rfl))))
  cbv
  replace h := condf h (by first | exact b_16 | (simp only [oo hO, sl] at b_16 ⊢; exact b_16))
  refine ⟨?_, ?_⟩
  rotate_left
  · first | (intro q; cases q; done) | trivial
  try intro _
  cbv
  refine ⟨?_, ?_⟩
  · first | (intro q; cases q; done) | trivial
  try intro _
  cbv
  refine ⟨fun b_17 => ?_, fun b_17 => ?_⟩
  rotate_left
  · cbv
    replace h := condt h (by first | exact b_17 | (simp only [oo hO, sl] at b_17 ⊢; exact b_17))
    refine ⟨?_, ?_⟩
    · first | (intro q; cases q; done) | trivial
    try intro _
    cbv
    refine ⟨?_, ?_⟩
    rotate_left
    · first | (intro q; cases q; done) | trivial
    try intro _
    cbv
    refine ⟨?_, ?_⟩
    · first | (intro q; cases q; done) | trivial
    try intro _
    cbv
    refine ⟨?_, ?_⟩
    · first | (intro q; cases q; done) | trivial
    try intro _
    cbv
    refine ⟨?_, ?_⟩
    · first | (intro q; cases q; done) | trivial
    try intro _
    cbv
    refine ⟨?_, ?_⟩
    rotate_left
    · first | (intro q; cases q; done) | trivial
    try intro _
    cbv
    refine ⟨?_, ?_⟩
    · first | (intro q; cases q; done) | trivial
    try intro _
    cbv
    refine ⟨?_, ?_⟩
    · first | (intro q; cases q; done) | trivial
    try intro _
    cbv
    refine ⟨?_, ?_⟩
    · first | (intro q; cases q; done) | trivial
    try intro _
    cbv
    refine ⟨?_, ?_⟩
    · first | (intro q; cases q; done) | trivial
    try intro _
    cbv
    refine ⟨?_, ?_⟩
    · first | (intro q; cases q; done) | trivial
    try intro _
    cbv
    refine ⟨?_, ?_⟩
    · first | (intro q; cases q; done) | trivial
    try intro _
    cbv
    refine ⟨?_, ?_⟩
    · first | (intro q; cases q; done) | trivial
    try intro _
    cbv
    refine ⟨?_, ?_⟩
    · first | (intro q; cases q; done) | trivial
    try intro _
    cbv
    refine ⟨?_, ?_⟩
    rotate_left
    · first | (intro q; cases q; done) | trivial
    try intro _
    cbv
    refine ⟨?_, ?_⟩
    · first | (intro q; cases q; done) | trivial
    try intro _
    cbv
    refine ⟨?_, ?_⟩
    · first | (intro q; cases q; done) | trivial
    try intro _
    cbv
    refine ⟨?_, ?_⟩
    · first | (intro q; cases q; done) | trivial
    try intro _
    cbv
    refine ⟨?_, ?_⟩
    · first | (intro q; cases q; done) | trivial
    try intro _
    cbv
    refine ⟨?_, ?_⟩
    rotate_left
    · first | (intro q; cases q; done) | trivial
    try intro _
    cbv
    refine ⟨?_, ?_⟩
    · first | (intro q; cases q; done) | trivial
    try intro _
    cbv
    refine ⟨?_, ?_⟩
    · first | (intro q; cases q; done) | trivial
    try intro _
    cbv
    refine ⟨?_, ?_⟩
    · first | (intro q; cases q; done) | trivial
    try intro _
    cbv
    refine ⟨?_, ?_⟩
    · first | (intro q; cases q; done) | trivial
    try intro _
    cbv
    refine ⟨?_, ?_⟩
    rotate_left
    · first | (intro q; cases q; done) | trivial
    try intro _
    cbv
    refine ⟨?_, ?_⟩
    rotate_left
    · first | (intro q; cases q; done) | trivial
    try intro _
    cbv
    replace h := (endb h).trans hr
    cases h
    ((repeat' apply And.intro) <;> first | trivial | rfl | assumption | (simp only [oo hO, ff, sl]; done) | (simp only [oo hO, ff, sl]; omega) | (intro i hi; first | (cbv <;> (repeat' apply And.intro) <;> first | trivial | rfl) | (simp only [oo hO, ff, sl] at hi ⊢; (try simp only [gg, sl] at hi ⊢); (repeat' split) <;> first | (exfalso; omega) | (exfalso; exact absurd (Nat.lt_of_lt_of_le hi (Nat.min_le_left _ _)) (by assumption)) | (cbv <;> (repeat' apply And.intro) <;> first | trivial | rfl) | (rename_i q; subst q; cbv <;> (repeat' apply And.intro) <;> first | trivial | rfl) | (rename_i q _; subst q; cbv <;> (repeat' apply And.intro) <;> first | trivial | rfl))))
  cbv
  replace h := condf h (by first | exact b_17 | (simp only [oo hO, sl] at b_17 ⊢; exact b_17))
  refine ⟨?_, ?_⟩
  rotate_left
  · first | (intro q; cases q; done) | trivial
  try intro _
  cbv
  refine ⟨?_, ?_⟩
  · first | (intro q; cases q; done) | trivial
  try intro _
  cbv
  refine ⟨fun b_18 => ?_, fun b_18 => ?_⟩
  rotate_left
  · cbv
    replace h := condt h (by first | exact b_18 | (simp only [oo hO, sl] at b_18 ⊢; exact b_18))
    refine ⟨?_, ?_⟩
    · first | (intro q; cases q; done) | trivial
    try intro _
    cbv
    refine ⟨?_, ?_⟩
    · first | (intro q; cases q; done) | trivial
    try intro _
    cbv
    refine ⟨?_, ?_⟩
    rotate_left
    · first | (intro q; cases q; done) | trivial
    try intro _
    cbv
    refine ⟨?_, ?_⟩
    · first | (intro q; cases q; done) | trivial
    try intro _
    cbv
    refine ⟨?_, ?_⟩
    · first | (intro q; cases q; done) | trivial
    try intro _
    cbv
    refine ⟨?_, ?_⟩
    · first | (intro q; cases q; done) | trivial
    try intro _
    cbv
    refine ⟨?_, ?_⟩
    · first | (intro q; cases q; done) | trivial
    try intro _
    cbv
    refine ⟨?_, ?_⟩
    · first | (intro q; cases q; done) | trivial
    try intro _
    cbv
    refine ⟨?_, ?_⟩
    · first | (intro q; cases q; done) | trivial
    try intro _
    cbv
    refine ⟨?_, ?_⟩
    · first | (intro q; cases q; done) | trivial
    try intro _
    cbv
    refine ⟨?_, ?_⟩
    · first | (intro q; cases q; done) | trivial
    try intro _
    cbv
    refine ⟨?_, ?_⟩
    rotate_left
    · first | (intro q; cases q; done) | trivial
    try intro _
    cbv
    refine ⟨?_, ?_⟩
    · first | (intro q; cases q; done) | trivial
    try intro _
    cbv
    refine ⟨?_, ?_⟩
    · first | (intro q; cases q; done) | trivial
    try intro _
    cbv
    refine ⟨?_, ?_⟩
    · first | (intro q; cases q; done) | trivial
    try intro _
    cbv
    refine ⟨?_, ?_⟩
    · first | (intro q; cases q; done) | trivial
    try intro _
    cbv
    refine ⟨?_, ?_⟩
    rotate_left
    · first | (intro q; cases q; done) | trivial
    try intro _
    cbv
    refine ⟨?_, ?_⟩
    · first | (intro q; cases q; done) | trivial
    try intro _
    cbv
    refine ⟨?_, ?_⟩
    · first | (intro q; cases q; done) | trivial
    try intro _
    cbv
    refine ⟨?_, ?_⟩
    · first | (intro q; cases q; done) | trivial
    try intro _
    cbv
    refine ⟨?_, ?_⟩
    · first | (intro q; cases q; done) | trivial
    try intro _
    cbv
    refine ⟨?_, ?_⟩
    rotate_left
    · first | (intro q; cases q; done) | trivial
    try intro _
    cbv
    refine ⟨?_, ?_⟩
    rotate_left
    · first | (intro q; cases q; done) | trivial
    try intro _
    cbv
    replace h := (endb h).trans hr
    cases h
    ((repeat' apply And.intro) <;> first | trivial | rfl | assumption | (simp only [oo hO, ff, sl]; done) | (simp only [oo hO, ff, sl]; omega) | (intro i hi; first | (cbv <;> (repeat' apply And.intro) <;> first | trivial | rfl) | (simp only [oo hO, ff, sl] at hi ⊢; (try simp only [gg, sl] at hi ⊢); (repeat' split) <;> first | (exfalso; omega) | (exfalso; exact absurd (Nat.lt_of_lt_of_le hi (Nat.min_le_left _ _)) (by assumption)) | (cbv <;> (repeat' apply And.intro) <;> first | trivial | rfl) | (rename_i q; subst q; cbv <;> (repeat' apply And.intro) <;> first | trivial | rfl) | (rename_i q _; subst q; cbv <;> (repeat' apply And.intro) <;> first | trivial | rfl))))
  cbv
  replace h := condf h (by first | exact b_18 | (simp only [oo hO, sl] at b_18 ⊢; exact b_18))
  refine ⟨?_, ?_⟩
  rotate_left
  · first | (intro q; cases q; done) | trivial
  try intro _
  cbv
  obtain ⟨v16, e_19, h⟩ := callb h
  refine ⟨[], _, _, _, _, false, c_impl_ValidDelay hO hP e_19, ?_⟩
  cbv
  refine ⟨(by (repeat' apply And.intro) <;> first | trivial | rfl), (by (repeat' apply And.intro) <;> first | trivial | rfl), ?_⟩
  refine ⟨?_, ?_⟩
  rotate_left
  · first | (intro q; cases q; done) | trivial
  try intro _
  cbv
  refine ⟨?_, ?_⟩
  · first | (intro q; cases q; done) | trivial
  try intro _
  cbv
  refine ⟨fun b_20 => ?_, fun b_20 => ?_⟩
  rotate_left
  · cbv
    replace h := condt h (by first | exact b_20 | (simp only [oo hO, sl] at b_20 ⊢; exact b_20))
    refine ⟨?_, ?_⟩
    · first | (intro q; cases q; done) | trivial
    try intro _
    cbv
    refine ⟨?_, ?_⟩
    · first | (intro q; cases q; done) | trivial
    try intro _
    cbv
    refine ⟨?_, ?_⟩
    · first | (intro q; cases q; done) | trivial
    try intro _
    cbv
    refine ⟨?_, ?_⟩
    · first | (intro q; cases q; done) | trivial
    try intro _
    cbv
    refine ⟨?_, ?_⟩
    · first | (intro q; cases q; done) | trivial
    try intro _
    cbv
    refine ⟨?_, ?_⟩
    · first | (intro q; cases q; done) | trivial
    try intro _
    cbv
    refine ⟨?_, ?_⟩
    · first | (intro q; cases q; done) | trivial
    try intro _
    cbv
    refine ⟨?_, ?_⟩
    rotate_left
    · first | (intro q; cases q; done) | trivial
    try intro _
    cbv
    refine ⟨?_, ?_⟩
    · first | (intro q; cases q; done) | trivial
    try intro _
    cbv
    refine ⟨?_, ?_⟩
    · first | (intro q; cases q; done) | trivial
    try intro _
    cbv
    refine ⟨?_, ?_⟩
    · first | (intro q; cases q; done) | trivial
    try intro _
    cbv
    refine ⟨?_, ?_⟩
    · first | (intro q; cases q; done) | trivial
    try intro _
    cbv
    refine ⟨?_, ?_⟩
    rotate_left
    · first | (intro q; cases q; done) | trivial
    try intro _
    cbv
    refine ⟨?_, ?_⟩
    · first | (intro q; cases q; done) | trivial
    try intro _
    cbv
    refine ⟨?_, ?_⟩
    · first | (intro q; cases q; done) | trivial
    try intro _
    cbv
    refine ⟨?_, ?_⟩
    · first | (intro q; cases q; done) | trivial
    try intro _
    cbv
    refine ⟨?_, ?_⟩
    · first | (intro q; cases q; done) | trivial
    try intro _
    cbv
    refine ⟨?_, ?_⟩
    rotate_left
    · first | (intro q; cases q; done) | trivial
    try intro _
    cbv
    refine ⟨?_, ?_⟩
    rotate_left
    · first | (intro q; cases q; done) | trivial
    try intro _
    cbv
    replace h := (endb h).trans hr
    cases h
    ((repeat' apply And.intro) <;> first | trivial | rfl | assumption | (simp only [oo hO, ff, sl]; done) | (simp only [oo hO, ff, sl]; omega) | (intro i hi; first | (cbv <;> (repeat' apply And.intro) <;> first | trivial | rfl) | (simp only [oo hO, ff, sl] at hi ⊢; (try simp only [gg, sl] at hi ⊢); (repeat' split) <;> first | (exfalso; omega) | (exfalso; exact absurd (Nat.lt_of_lt_of_le hi (Nat.min_le_left _ _)) (by assumption)) | (cbv <;> (repeat' apply And.intro) <;> first | trivial | rfl) | (rename_i q; subst q; cbv <;> (repeat' apply And.intro) <;> first | trivial | rfl) | (rename_i q _; subst q; cbv <;> (repeat' apply And.intro) <;> first | trivial | rfl))))
  cbv
  replace h := condf h (by first | exact b_20 | (simp only [oo hO, sl] at b_20 ⊢; exact b_20))
  refine ⟨?_, ?_⟩
  rotate_left
  · first | (intro q; cases q; done) | trivial
  try intro _
  cbv
  refine ⟨?_, ?_⟩
  rotate_left
  · first | (intro q; cases q; done) | trivial
  try intro _
  cbv
  obtain ⟨g_21, h⟩ := gdb h
  refine ⟨(by first | trivial | (simp only [oo hO, sl]; omega) | (simp only [oo hO, sl]; done)), (by first | exact g_21 | (simp only [oo hO] at g_21 ⊢; simp only [sl] at g_21 ⊢; omega)), (by first | trivial | (simp only [oo hO, sl]; omega) | (simp only [oo hO, sl]; done)), ?_⟩
  refine ⟨?_, ?_⟩
  rotate_left
  · first | (intro q; cases q; done) | trivial
  try intro _
  cbv
  refine ⟨?_, ?_⟩
  rotate_left
  · first | (intro q; cases q; done) | trivial
  try intro _
  cbv
  obtain ⟨g_22, h⟩ := gdb h
  refine ⟨(by first | trivial | (simp only [oo hO, sl]; omega) | (simp only [oo hO, sl]; done)), (by first | exact g_22 | (simp only [oo hO] at g_22 ⊢; simp only [sl] at g_22 ⊢; omega)), (by first | trivial | (simp only [oo hO, sl]; omega) | (simp only [oo hO, sl]; done)), ?_⟩
  refine ⟨?_, ?_⟩
  rotate_left
  · first | (intro q; cases q; done) | trivial
  try intro _
  cbv
  refine ⟨?_, ?_⟩
  rotate_left
  · first | (intro q; cases q; done) | trivial
  try intro _
  cbv
  obtain ⟨v17, e_23, h⟩ := callb h
  refine ⟨[], _, _, _, _, false, c_laws_b10Same hO hP e_23, ?_⟩
  cbv
  refine ⟨(by first | trivial | (simp only [oo hO, sl]; omega) | (simp only [oo hO, sl]; done)), (by first | trivial | (simp only [oo hO, sl]; omega) | (simp only [oo hO, sl]; done)), ?_⟩
  refine ⟨(by ((repeat' apply And.intro) <;> first | trivial | rfl | assumption | (simp only [oo hO, ff, sl]; done) | (simp only [oo hO, ff, sl]; omega) | (intro i hi; first | (cbv <;> (repeat' apply And.intro) <;> first | trivial | rfl) | (simp only [oo hO, ff, sl] at hi ⊢; (try simp only [gg, sl] at hi ⊢); (repeat' split) <;> first | (exfalso; omega) | (exfalso; exact absurd (Nat.lt_of_lt_of_le hi (Nat.min_le_left _ _)) (by assumption)) | (cbv <;> (repeat' apply And.intro) <;> first | trivial | rfl) | (rename_i q; subst q; cbv <;> (repeat' apply And.intro) <;> first | trivial | rfl) | (rename_i q _; subst q; cbv <;> (repeat' apply And.intro) <;> first | trivial | rfl))))), (by (repeat' apply And.intro) <;> first | trivial | rfl), ?_⟩
  refine ⟨?_, ?_⟩
  rotate_left
  · first | (intro q; cases q; done) | trivial
  try intro _
  cbv
  refine ⟨?_, ?_⟩
  · first | (intro q; cases q; done) | trivial
  try intro _
  cbv
  refine ⟨fun b_24 => ?_, fun b_24 => ?_⟩
  rotate_left
  · cbv
    replace h := condt h (by first | exact b_24 | (simp only [oo hO, sl] at b_24 ⊢; exact b_24))
    refine ⟨?_, ?_⟩
    · first | (intro q; cases q; done) | trivial
    try intro _
    cbv
    refine ⟨?_, ?_⟩
    · first | (intro q; cases q; done) | trivial
    try intro _
    cbv
    refine ⟨?_, ?_⟩
    · first | (intro q; cases q; done) | trivial
    try intro _
    cbv
    refine ⟨?_, ?_⟩
    rotate_left
    · first | (intro q; cases q; done) | trivial
    try intro _
    cbv
    refine ⟨?_, ?_⟩
    · first | (intro q; cases q; done) | trivial
    try intro _
    cbv
    refine ⟨?_, ?_⟩
    · first | (intro q; cases q; done) | trivial
    try intro _
    cbv
    refine ⟨?_, ?_⟩
    · first | (intro q; cases q; done) | trivial
    try intro _
    cbv
    refine ⟨?_, ?_⟩
    · first | (intro q; cases q; done) | trivial
    try intro _
    cbv
    refine ⟨?_, ?_⟩
    rotate_left
    · first | (intro q; cases q; done) | trivial
    try intro _
    cbv
    refine ⟨?_, ?_⟩
    rotate_left
    · first | (intro q; cases q; done) | trivial
    try intro _
    cbv
    replace h := (endb h).trans hr
    cases h
    ((repeat' apply And.intro) <;> first | trivial | rfl | assumption | (simp only [oo hO, ff, sl]; done) | (simp only [oo hO, ff, sl]; omega) | (intro i hi; first | (cbv <;> (repeat' apply And.intro) <;> first | trivial | rfl) | (simp only [oo hO, ff, sl] at hi ⊢; (try simp only [gg, sl] at hi ⊢); (repeat' split) <;> first | (exfalso; omega) | (exfalso; exact absurd (Nat.lt_of_lt_of_le hi (Nat.min_le_left _ _)) (by assumption)) | (cbv <;> (repeat' apply And.intro) <;> first | trivial | rfl) | (rename_i q; subst q; cbv <;> (repeat' apply And.intro) <;> first | trivial | rfl) | (rename_i q _; subst q; cbv <;> (repeat' apply And.intro) <;> first | trivial | rfl))))
  cbv
  replace h := condf h (by first | exact b_24 | (simp only [oo hO, sl] at b_24 ⊢; exact b_24))
  refine ⟨?_, ?_⟩
  rotate_left
  · first | (intro q; cases q; done) | trivial
  try intro _
  cbv
  refine ⟨?_, ?_⟩
  rotate_left
  · first | (intro q; cases q; done) | trivial
  try intro _
  cbv
  obtain ⟨v18, e_25, h⟩ := callb h
  refine ⟨[], _, _, _, _, false, c_laws_b10Same hO hP e_25, ?_⟩
  cbv
  refine ⟨(by first | trivial | (simp only [oo hO, sl]; omega) | (simp only [oo hO, sl]; done)), (by first | trivial | (simp only [oo hO, sl]; omega) | (simp only [oo hO, sl]; done)), ?_⟩
  refine ⟨(by (repeat' apply And.intro) <;> first | trivial | rfl | (intro i hi; first | (cbv <;> (repeat' apply And.intro) <;> first | trivial | rfl) | (simp only [oo hO, sl]; cbv <;> (repeat' apply And.intro) <;> first | trivial | rfl))), (by (repeat' apply And.intro) <;> first | trivial | rfl), ?_⟩
  refine ⟨?_, ?_⟩
  rotate_left
  · first | (intro q; cases q; done) | trivial
  try intro _
  cbv
  refine ⟨?_, ?_⟩
  · first | (intro q; cases q; done) | trivial
  try intro _
  cbv
  refine ⟨fun b_26 => ?_, fun b_26 => ?_⟩
  rotate_left
  · cbv
    replace h := condt h (by first | exact b_26 | (simp only [oo hO, sl] at b_26 ⊢; exact b_26))
    refine ⟨?_, ?_⟩
    · first | (intro q; cases q; done) | trivial
    try intro _
    cbv
    refine ⟨?_, ?_⟩
    · first | (intro q; cases q; done) | trivial
    try intro _
    cbv
    refine ⟨?_, ?_⟩
    · first | (intro q; cases q; done) | trivial
    try intro _
    cbv
    refine ⟨?_, ?_⟩
    rotate_left
    · first | (intro q; cases q; done) | trivial
    try intro _
    cbv
    refine ⟨?_, ?_⟩
    rotate_left
    · first | (intro q; cases q; done) | trivial
    try intro _
    cbv
    replace h := (endb h).trans hr
    cases h
    ((repeat' apply And.intro) <;> first | trivial | rfl | assumption | (simp only [oo hO, ff, sl]; done) | (simp only [oo hO, ff, sl]; omega) | (intro i hi; first | (cbv <;> (repeat' apply And.intro) <;> first | trivial | rfl) | (simp only [oo hO, ff, sl] at hi ⊢; (try simp only [gg, sl] at hi ⊢); (repeat' split) <;> first | (exfalso; omega) | (exfalso; exact absurd (Nat.lt_of_lt_of_le hi (Nat.min_le_left _ _)) (by assumption)) | (cbv <;> (repeat' apply And.intro) <;> first | trivial | rfl) | (rename_i q; subst q; cbv <;> (repeat' apply And.intro) <;> first | trivial | rfl) | (rename_i q _; subst q; cbv <;> (repeat' apply And.intro) <;> first | trivial | rfl))))
  cbv
  replace h := condf h (by first | exact b_26 | (simp only [oo hO, sl] at b_26 ⊢; exact b_26))
  refine ⟨?_, ?_⟩
  rotate_left
  · first | (intro q; cases q; done) | trivial
  try intro _
  cbv
  refine ⟨?_, ?_⟩
  rotate_left
  · first | (intro q; cases q; done) | trivial
  try intro _
  cbv
  refine ⟨?_, ?_⟩
  rotate_left
  · first | (intro q; cases q; done) | trivial
  try intro _
  cbv
  refine ⟨?_, ?_⟩
  · first | (intro q; cases q; done) | trivial
  try intro _
  cbv
  refine ⟨fun b_27 => ?_, fun b_27 => ?_⟩
  · cbv
    replace h := condt h (by first | exact b_27 | (simp only [oo hO, sl] at b_27 ⊢; exact b_27))
    replace h := (endb h).trans hr
    cases h
    ((repeat' apply And.intro) <;> first | trivial | rfl | assumption | (simp only [oo hO, ff, sl]; done) | (simp only [oo hO, ff, sl]; omega) | (intro i hi; first | (cbv <;> (repeat' apply And.intro) <;> first | trivial | rfl) | (simp only [oo hO, ff, sl] at hi ⊢; (try simp only [gg, sl] at hi ⊢); (repeat' split) <;> first | (exfalso; omega) | (exfalso; exact absurd (Nat.lt_of_lt_of_le hi (Nat.min_le_left _ _)) (by assumption)) | (cbv <;> (repeat' apply And.intro) <;> first | trivial | rfl) | (rename_i q; subst q; cbv <;> (repeat' apply And.intro) <;> first | trivial | rfl) | (rename_i q _; subst q; cbv <;> (repeat' apply And.intro) <;> first | trivial | rfl))))
  cbv
  replace h := condf h (by first | exact b_27 | (simp only [oo hO, sl] at b_27 ⊢; exact b_27))
  obtain ⟨⟨v19, v20, v21⟩, e_28, h⟩ := callb h
  refine ⟨[], _, _, _, _, true, c_impl_RunPass hO hP e_28, ?_⟩
  cbv
  refine ⟨(by first | trivial | (simp only [oo hO, sl]; omega) | (simp only [oo hO, sl]; done)), (by first | trivial | (simp only [oo hO, sl]; omega) | (simp only [oo hO, sl]; done)), ?_⟩
  refine ⟨(by (repeat' apply And.intro) <;> first | trivial | rfl | (intro i hi; first | (cbv <;> (repeat' apply And.intro) <;> first | trivial | rfl) | (simp only [oo hO, sl]; cbv <;> (repeat' apply And.intro) <;> first | trivial | rfl))), (by (repeat' apply And.intro) <;> first | trivial | rfl), ?_⟩
  obtain ⟨g_29, h⟩ := gdb h
  have qg_29 := g_29; simp only [oo hO, ff, sl] at qg_29
  obtain ⟨g_30, h⟩ := gdb h
  have qg_30 := g_30; simp only [oo hO, ff, sl] at qg_30
  refine ⟨(by first | exact g_29 | (simp only [oo hO] at g_29 ⊢; simp only [sl] at g_29 ⊢; omega)), (by first | exact g_30 | (simp only [oo hO] at g_30 ⊢; simp only [sl] at g_30 ⊢; omega)), ?_⟩
  obtain ⟨⟨v22, v23, v24⟩, e_31, h⟩ := callb h
  refine ⟨[], _, _, _, _, true, c_impl_RunPass hO hP e_31, ?_⟩
  cbv
  refine ⟨(by first | trivial | (simp only [oo hO, sl]; omega) | (simp only [oo hO, sl]; done)), (by first | trivial | (simp only [oo hO, sl]; omega) | (simp only [oo hO, sl]; done)), ?_⟩
  refine ⟨(by ((repeat' apply And.intro) <;> first | trivial | rfl | assumption | (simp only [oo hO, ff, sl]; done) | (simp only [oo hO, ff, sl]; omega) | (intro i hi; first | (cbv <;> (repeat' apply And.intro) <;> first | trivial | rfl) | (simp only [oo hO, ff, sl] at hi ⊢; (try simp only [gg, sl] at hi ⊢); (repeat' split) <;> first | (exfalso; omega) | (exfalso; exact absurd (Nat.lt_of_lt_of_le hi (Nat.min_le_left _ _)) (by assumption)) | (cbv <;> (repeat' apply And.intro) <;> first | trivial | rfl) | (rename_i q; subst q; cbv <;> (repeat' apply And.intro) <;> first | trivial | rfl) | (rename_i q _; subst q; cbv <;> (repeat' apply And.intro) <;> first | trivial | rfl))))), (by (repeat' apply And.intro) <;> first | trivial | rfl), ?_⟩
  obtain ⟨g_32, h⟩ := gdb h
  have qg_32 := g_32; simp only [oo hO, ff, sl] at qg_32
  obtain ⟨g_33, h⟩ := gdb h
  have qg_33 := g_33; simp only [oo hO, ff, sl] at qg_33
  refine ⟨(by first | exact g_32 | (simp only [oo hO] at g_32 ⊢; simp only [sl] at g_32 ⊢; omega)), (by first | exact g_33 | (simp only [oo hO] at g_33 ⊢; simp only [sl] at g_33 ⊢; omega)), ?_⟩
  obtain ⟨⟨v25, v26, v27⟩, e_34, h⟩ := callb h
  refine ⟨[], _, _, _, _, true, c_impl_RunPass hO hP e_34, ?_⟩
  cbv
  refine ⟨(by first | trivial | (simp only [oo hO, sl]; omega) | (simp only [oo hO, sl]; done)), (by first | trivial | (simp only [oo hO, sl]; omega) | (simp only [oo hO, sl]; done)), ?_⟩
  refine ⟨(by ((repeat' apply And.intro) <;> first | trivial | rfl | assumption | (simp only [oo hO, ff, sl]; done) | (simp only [oo hO, ff, sl]; omega) | (intro i hi; first | (cbv <;> (repeat' apply And.intro) <;> first | trivial | rfl) | (simp only [oo hO, ff, sl] at hi ⊢; (try simp only [gg, sl] at hi ⊢); (repeat' split) <;> first | (exfalso; omega) | (exfalso; exact absurd (Nat.lt_of_lt_of_le hi (Nat.min_le_left _ _)) (by assumption)) | (cbv <;> (repeat' apply And.intro) <;> first | trivial | rfl) | (rename_i q; subst q; cbv <;> (repeat' apply And.intro) <;> first | trivial | rfl) | (rename_i q _; subst q; cbv <;> (repeat' apply And.intro) <;> first | trivial | rfl))))), (by (repeat' apply And.intro) <;> first | trivial | rfl), ?_⟩
  refine ⟨fun b_35 => ?_, fun b_35 => ?_⟩
  rotate_left
  · cbv
    replace h := condt h (by first | exact b_35 | (simp only [oo hO, sl] at b_35 ⊢; exact b_35))
    refine ⟨?_, ?_⟩
    · first | (intro q; cases q; done) | trivial
    try intro _
    cbv
    refine ⟨?_, ?_⟩
    rotate_left
    · first | (intro q; cases q; done) | trivial
    try intro _
    cbv
    refine ⟨?_, ?_⟩
    · first | (intro q; cases q; done) | trivial
    try intro _
    cbv
    refine ⟨?_, ?_⟩
    · first | (intro q; cases q; done) | trivial
    try intro _
    cbv
    refine ⟨?_, ?_⟩
    rotate_left
    · first | (intro q; cases q; done) | trivial
    try intro _
    cbv
    refine ⟨?_, ?_⟩
    · first | (intro q; cases q; done) | trivial
    try intro _
    cbv
    refine ⟨?_, ?_⟩
    · first | (intro q; cases q; done) | trivial
    try intro _
    cbv
    refine ⟨?_, ?_⟩
    · first | (intro q; cases q; done) | trivial
    try intro _
    cbv
    refine ⟨?_, ?_⟩
    · first | (intro q; cases q; done) | trivial
    try intro _
    cbv
    refine ⟨?_, ?_⟩
    · first | (intro q; cases q; done) | trivial
    try intro _
    cbv
    refine ⟨?_, ?_⟩
    · first | (intro q; cases q; done) | trivial
    try intro _
    cbv
    refine ⟨?_, ?_⟩
    · first | (intro q; cases q; done) | trivial
    try intro _
    cbv
    refine ⟨?_, ?_⟩
    · first | (intro q; cases q; done) | trivial
    try intro _
    cbv
    refine ⟨?_, ?_⟩
    rotate_left
    · first | (intro q; cases q; done) | trivial
    try intro _
    cbv
    refine ⟨?_, ?_⟩
    · first | (intro q; cases q; done) | trivial
    try intro _
    cbv
    refine ⟨?_, ?_⟩
    · first | (intro q; cases q; done) | trivial
    try intro _
    cbv
    refine ⟨?_, ?_⟩
    · first | (intro q; cases q; done) | trivial
    try intro _
    cbv
    refine ⟨?_, ?_⟩
    · first | (intro q; cases q; done) | trivial
    try intro _
    cbv
    refine ⟨?_, ?_⟩
    rotate_left
    · first | (intro q; cases q; done) | trivial
    try intro _
    cbv
    refine ⟨?_, ?_⟩
    rotate_left
    · first | (intro q; cases q; done) | trivial
    try intro _
    cbv
    replace h := (endb h).trans hr
    cases h
    ((repeat' apply And.intro) <;> first | trivial | rfl | assumption | (simp only [oo hO, ff, sl]; done) | (simp only [oo hO, ff, sl]; omega) | (intro i hi; first | (cbv <;> (repeat' apply And.intro) <;> first | trivial | rfl) | (simp only [oo hO, ff, sl] at hi ⊢; (try simp only [gg, sl] at hi ⊢); (repeat' split) <;> first | (exfalso; omega) | (exfalso; exact absurd (Nat.lt_of_lt_of_le hi (Nat.min_le_left _ _)) (by assumption)) | (cbv <;> (repeat' apply And.intro) <;> first | trivial | rfl) | (rename_i q; subst q; cbv <;> (repeat' apply And.intro) <;> first | trivial | rfl) | (rename_i q _; subst q; cbv <;> (repeat' apply And.intro) <;> first | trivial | rfl))))
  cbv
  replace h := condf h (by first | exact b_35 | (simp only [oo hO, sl] at b_35 ⊢; exact b_35))
  refine ⟨?_, ?_⟩
  rotate_left
  · first | (intro q; cases q; done) | trivial
  try intro _
  cbv
  refine ⟨?_, ?_⟩
  · first | (intro q; cases q; done) | trivial
  try intro _
  cbv
  refine ⟨fun b_36 => ?_, fun b_36 => ?_⟩
  rotate_left
  · cbv
    replace h := condt h (by first | exact b_36 | (simp only [oo hO, sl] at b_36 ⊢; exact b_36))
    refine ⟨?_, ?_⟩
    · first | (intro q; cases q; done) | trivial
    try intro _
    cbv
    refine ⟨?_, ?_⟩
    rotate_left
    · first | (intro q; cases q; done) | trivial
    try intro _
    cbv
    refine ⟨?_, ?_⟩
    · first | (intro q; cases q; done) | trivial
    try intro _
    cbv
    refine ⟨?_, ?_⟩
    · first | (intro q; cases q; done) | trivial
    try intro _
    cbv
    refine ⟨?_, ?_⟩
    · first | (intro q; cases q; done) | trivial
    try intro _
    cbv
    refine ⟨?_, ?_⟩
    · first | (intro q; cases q; done) | trivial
    try intro _
    cbv
    refine ⟨?_, ?_⟩
    · first | (intro q; cases q; done) | trivial
    try intro _
    cbv
    refine ⟨?_, ?_⟩
    · first | (intro q; cases q; done) | trivial
    try intro _
    cbv
    refine ⟨?_, ?_⟩
    · first | (intro q; cases q; done) | trivial
    try intro _
    cbv
    refine ⟨?_, ?_⟩
    · first | (intro q; cases q; done) | trivial
    try intro _
    cbv
    refine ⟨?_, ?_⟩
    rotate_left
    · first | (intro q; cases q; done) | trivial
    try intro _
    cbv
    refine ⟨?_, ?_⟩
    · first | (intro q; cases q; done) | trivial
    try intro _
    cbv
    refine ⟨?_, ?_⟩
    · first | (intro q; cases q; done) | trivial
    try intro _
    cbv
    refine ⟨?_, ?_⟩
    · first | (intro q; cases q; done) | trivial
    try intro _
    cbv
    refine ⟨?_, ?_⟩
    · first | (intro q; cases q; done) | trivial
    try intro _
    cbv
    refine ⟨?_, ?_⟩
    rotate_left
    · first | (intro q; cases q; done) | trivial
    try intro _
    cbv
    refine ⟨?_, ?_⟩
    rotate_left
    · first | (intro q; cases q; done) | trivial
    try intro _
    cbv
    replace h := (endb h).trans hr
    cases h
    ((repeat' apply And.intro) <;> first | trivial | rfl | assumption | (simp only [oo hO, ff, sl]; done) | (simp only [oo hO, ff, sl]; omega) | (intro i hi; first | (cbv <;> (repeat' apply And.intro) <;> first | trivial | rfl) | (simp only [oo hO, ff, sl] at hi ⊢; (try simp only [gg, sl] at hi ⊢); (repeat' split) <;> first | (exfalso; omega) | (exfalso; exact absurd (Nat.lt_of_lt_of_le hi (Nat.min_le_left _ _)) (by assumption)) | (cbv <;> (repeat' apply And.intro) <;> first | trivial | rfl) | (rename_i q; subst q; cbv <;> (repeat' apply And.intro) <;> first | trivial | rfl) | (rename_i q _; subst q; cbv <;> (repeat' apply And.intro) <;> first | trivial | rfl))))
  cbv
  replace h := condf h (by first | exact b_36 | (simp only [oo hO, sl] at b_36 ⊢; exact b_36))
  refine ⟨?_, ?_⟩
  rotate_left
  · first | (intro q; cases q; done) | trivial
  try intro _
  cbv
  refine ⟨?_, ?_⟩
  · first | (intro q; cases q; done) | trivial
  try intro _
  cbv
  refine ⟨fun b_37 => ?_, fun b_37 => ?_⟩
  rotate_left
  · cbv
    replace h := condt h (by first | exact b_37 | (simp only [oo hO, sl] at b_37 ⊢; exact b_37))
    refine ⟨?_, ?_⟩
    · first | (intro q; cases q; done) | trivial
    try intro _
    cbv
    refine ⟨?_, ?_⟩
    · first | (intro q; cases q; done) | trivial
    try intro _
    cbv
    refine ⟨?_, ?_⟩
    · first | (intro q; cases q; done) | trivial
    try intro _
    cbv
    refine ⟨?_, ?_⟩
    · first | (intro q; cases q; done) | trivial
    try intro _
    cbv
    refine ⟨?_, ?_⟩
    · first | (intro q; cases q; done) | trivial
    try intro _
    cbv
    refine ⟨?_, ?_⟩
    · first | (intro q; cases q; done) | trivial
    try intro _
    cbv
    refine ⟨?_, ?_⟩
    · first | (intro q; cases q; done) | trivial
    try intro _
    cbv
    refine ⟨?_, ?_⟩
    rotate_left
    · first | (intro q; cases q; done) | trivial
    try intro _
    cbv
    refine ⟨?_, ?_⟩
    · first | (intro q; cases q; done) | trivial
    try intro _
    cbv
    refine ⟨?_, ?_⟩
    · first | (intro q; cases q; done) | trivial
    try intro _
    cbv
    refine ⟨?_, ?_⟩
    · first | (intro q; cases q; done) | trivial
    try intro _
    cbv
    refine ⟨?_, ?_⟩
    · first | (intro q; cases q; done) | trivial
    try intro _
    cbv
    refine ⟨?_, ?_⟩
    rotate_left
    · first | (intro q; cases q; done) | trivial
    try intro _
    cbv
    refine ⟨?_, ?_⟩
    rotate_left
    · first | (intro q; cases q; done) | trivial
    try intro _
    cbv
    replace h := (endb h).trans hr
    cases h
    ((repeat' apply And.intro) <;> first | trivial | rfl | assumption | (simp only [oo hO, ff, sl]; done) | (simp only [oo hO, ff, sl]; omega) | (intro i hi; first | (cbv <;> (repeat' apply And.intro) <;> first | trivial | rfl) | (simp only [oo hO, ff, sl] at hi ⊢; (try simp only [gg, sl] at hi ⊢); (repeat' split) <;> first | (exfalso; omega) | (exfalso; exact absurd (Nat.lt_of_lt_of_le hi (Nat.min_le_left _ _)) (by assumption)) | (cbv <;> (repeat' apply And.intro) <;> first | trivial | rfl) | (rename_i q; subst q; cbv <;> (repeat' apply And.intro) <;> first | trivial | rfl) | (rename_i q _; subst q; cbv <;> (repeat' apply And.intro) <;> first | trivial | rfl))))
  cbv
  replace h := condf h (by first | exact b_37 | (simp only [oo hO, sl] at b_37 ⊢; exact b_37))
  refine ⟨?_, ?_⟩
  rotate_left
  · first | (intro q; cases q; done) | trivial
  try intro _
  cbv
  refine ⟨?_, ?_⟩
  rotate_left
  · first | (intro q; cases q; done) | trivial
  try intro _
  cbv
  obtain ⟨g_38, h⟩ := gdb h
  refine ⟨(by first | trivial | (simp only [oo hO, sl]; omega) | (simp only [oo hO, sl]; done)), (by first | exact g_38 | (simp only [oo hO] at g_38 ⊢; simp only [sl] at g_38 ⊢; omega)), (by first | trivial | (simp only [oo hO, sl]; omega) | (simp only [oo hO, sl]; done)), ?_⟩
  refine ⟨?_, ?_⟩
  rotate_left
  · first | (intro q; cases q; done) | trivial
  try intro _
  cbv
  refine ⟨?_, ?_⟩
  rotate_left
  · first | (intro q; cases q; done) | trivial
  try intro _
  cbv
  obtain ⟨g_39, h⟩ := gdb h
  refine ⟨(by first | trivial | (simp only [oo hO, sl]; omega) | (simp only [oo hO, sl]; done)), (by first | exact g_39 | (simp only [oo hO] at g_39 ⊢; simp only [sl] at g_39 ⊢; omega)), (by first | trivial | (simp only [oo hO, sl]; omega) | (simp only [oo hO, sl]; done)), ?_⟩
  refine ⟨?_, ?_⟩
  rotate_left
  · first | (intro q; cases q; done) | trivial
  try intro _
  cbv
  refine ⟨?_, ?_⟩
  rotate_left
  · first | (intro q; cases q; done) | trivial
  try intro _
  cbv
  obtain ⟨v28, e_40, h⟩ := callb h
  refine ⟨[], _, _, _, _, false, c_laws_b10Same hO hP e_40, ?_⟩
  cbv
  refine ⟨(by first | trivial | (simp only [oo hO, sl]; omega) | (simp only [oo hO, sl]; done)), (by first | trivial | (simp only [oo hO, sl]; omega) | (simp only [oo hO, sl]; done)), ?_⟩
  refine ⟨(by ((repeat' apply And.intro) <;> first | trivial | rfl | assumption | (simp only [oo hO, ff, sl]; done) | (simp only [oo hO, ff, sl]; omega) | (intro i hi; first | (cbv <;> (repeat' apply And.intro) <;> first | trivial | rfl) | (simp only [oo hO, ff, sl] at hi ⊢; (try simp only [gg, sl] at hi ⊢); (repeat' split) <;> first | (exfalso; omega) | (exfalso; exact absurd (Nat.lt_of_lt_of_le hi (Nat.min_le_left _ _)) (by assumption)) | (cbv <;> (repeat' apply And.intro) <;> first | trivial | rfl) | (rename_i q; subst q; cbv <;> (repeat' apply And.intro) <;> first | trivial | rfl) | (rename_i q _; subst q; cbv <;> (repeat' apply And.intro) <;> first | trivial | rfl))))), (by (repeat' apply And.intro) <;> first | trivial | rfl), ?_⟩
  refine ⟨?_, ?_⟩
  rotate_left
  · first | (intro q; cases q; done) | trivial
  try intro _
  cbv
  refine ⟨?_, ?_⟩
  · first | (intro q; cases q; done) | trivial
  try intro _
  cbv
  refine ⟨fun b_41 => ?_, fun b_41 => ?_⟩
  rotate_left
  · cbv
    replace h := condt h (by first | exact b_41 | (simp only [oo hO, sl] at b_41 ⊢; exact b_41))
    refine ⟨?_, ?_⟩
    · first | (intro q; cases q; done) | trivial
    try intro _
    cbv
    refine ⟨?_, ?_⟩
    · first | (intro q; cases q; done) | trivial
    try intro _
    cbv
    refine ⟨?_, ?_⟩
    · first | (intro q; cases q; done) | trivial
    try intro _
    cbv
    refine ⟨?_, ?_⟩
    rotate_left
    · first | (intro q; cases q; done) | trivial
    try intro _
    cbv
    refine ⟨?_, ?_⟩
    rotate_left
    · first | (intro q; cases q; done) | trivial
    try intro _
    cbv
    replace h := (endb h).trans hr
    cases h
    ((repeat' apply And.intro) <;> first | trivial | rfl | assumption | (simp only [oo hO, ff, sl]; done) | (simp only [oo hO, ff, sl]; omega) | (intro i hi; first | (cbv <;> (repeat' apply And.intro) <;> first | trivial | rfl) | (simp only [oo hO, ff, sl] at hi ⊢; (try simp only [gg, sl] at hi ⊢); (repeat' split) <;> first | (exfalso; omega) | (exfalso; exact absurd (Nat.lt_of_lt_of_le hi (Nat.min_le_left _ _)) (by assumption)) | (cbv <;> (repeat' apply And.intro) <;> first | trivial | rfl) | (rename_i q; subst q; cbv <;> (repeat' apply And.intro) <;> first | trivial | rfl) | (rename_i q _; subst q; cbv <;> (repeat' apply And.intro) <;> first | trivial | rfl))))
  cbv
  replace h := condf h (by first | exact b_41 | (simp only [oo hO, sl] at b_41 ⊢; exact b_41))
  refine ⟨?_, ?_⟩
  rotate_left
  · first | (intro q; cases q; done) | trivial
  try intro _
  cbv
  refine ⟨?_, ?_⟩
  rotate_left
  · first | (intro q; cases q; done) | trivial
  try intro _
  cbv
  obtain ⟨v29, e_42, h⟩ := callb h
  refine ⟨[], _, _, _, _, false, c_laws_b10Same hO hP e_42, ?_⟩
  cbv
  refine ⟨(by first | trivial | (simp only [oo hO, sl]; omega) | (simp only [oo hO, sl]; done)), (by first | trivial | (simp only [oo hO, sl]; omega) | (simp only [oo hO, sl]; done)), ?_⟩
  refine ⟨(by (repeat' apply And.intro) <;> first | trivial | rfl | (intro i hi; first | (cbv <;> (repeat' apply And.intro) <;> first | trivial | rfl) | (simp only [oo hO, sl]; cbv <;> (repeat' apply And.intro) <;> first | trivial | rfl))), (by (repeat' apply And.intro) <;> first | trivial | rfl), ?_⟩
  refine ⟨?_, ?_⟩
  rotate_left
  · first | (intro q; cases q; done) | trivial
  try intro _
  cbv
  refine ⟨?_, ?_⟩
  · first | (intro q; cases q; done) | trivial
  try intro _
  cbv
  refine ⟨fun b_43 => ?_, fun b_43 => ?_⟩
  · cbv
    replace h := condt h (by first | exact b_43 | (simp only [oo hO, sl] at b_43 ⊢; exact b_43))
    replace h := (endb h).trans hr
    cases h
    ((repeat' apply And.intro) <;> first | trivial | rfl | assumption | (simp only [oo hO, ff, sl]; done) | (simp only [oo hO, ff, sl]; omega) | (intro i hi; first | (cbv <;> (repeat' apply And.intro) <;> first | trivial | rfl) | (simp only [oo hO, ff, sl] at hi ⊢; (try simp only [gg, sl] at hi ⊢); (repeat' split) <;> first | (exfalso; omega) | (exfalso; exact absurd (Nat.lt_of_lt_of_le hi (Nat.min_le_left _ _)) (by assumption)) | (cbv <;> (repeat' apply And.intro) <;> first | trivial | rfl) | (rename_i q; subst q; cbv <;> (repeat' apply And.intro) <;> first | trivial | rfl) | (rename_i q _; subst q; cbv <;> (repeat' apply And.intro) <;> first | trivial | rfl))))
  cbv
  replace h := condf h (by first | exact b_43 | (simp only [oo hO, sl] at b_43 ⊢; exact b_43))
  obtain ⟨⟨v30, v31⟩, e_44, h⟩ := callb h
  refine ⟨[], _, _, _, _, false, c_impl_EmptyLine hO hP e_44, ?_⟩
  cbv
  refine ⟨(by (repeat' apply And.intro) <;> first | trivial | rfl), (by (repeat' apply And.intro) <;> first | trivial | rfl), ?_⟩
  obtain ⟨v32, e_45, h⟩ := callb h
  refine ⟨[], _, _, _, _, false, c_spec_B10Whole hO hP e_45, ?_⟩
  cbv
  refine ⟨(by (repeat' apply And.intro) <;> first | trivial | rfl | (intro i hi; first | (cbv <;> (repeat' apply And.intro) <;> first | trivial | rfl) | (simp only [oo hO, sl]; cbv <;> (repeat' apply And.intro) <;> first | trivial | rfl))), (by (repeat' apply And.intro) <;> first | trivial | rfl), ?_⟩
  obtain ⟨⟨v33, v34, v35⟩, e_46, h⟩ := callb h
  refine ⟨[], _, _, _, _, true, c_impl_RunDelay hO hP e_46, ?_⟩
  cbv
  refine ⟨(by first | trivial | (simp only [oo hO, sl]; omega) | (simp only [oo hO, sl]; done)), (by first | trivial | (simp only [oo hO, sl]; omega) | (simp only [oo hO, sl]; done)), ?_⟩
  refine ⟨(by (repeat' apply And.intro) <;> first | trivial | rfl | (intro i hi; first | (cbv <;> (repeat' apply And.intro) <;> first | trivial | rfl) | (simp only [oo hO, sl]; cbv <;> (repeat' apply And.intro) <;> first | trivial | rfl))), (by (repeat' apply And.intro) <;> first | trivial | rfl), ?_⟩
  refine ⟨fun b_47 => ?_, fun b_47 => ?_⟩
  rotate_left
  · cbv
    replace h := condt h (by first | exact b_47 | (simp only [oo hO, sl] at b_47 ⊢; exact b_47))
    refine ⟨?_, ?_⟩
    · first | (intro q; cases q; done) | trivial
    try intro _
    cbv
    refine ⟨?_, ?_⟩
    rotate_left
    · first | (intro q; cases q; done) | trivial
    try intro _
    cbv
    refine ⟨?_, ?_⟩
    · first | (intro q; cases q; done) | trivial
    try intro _
    cbv
    refine ⟨?_, ?_⟩
    · first | (intro q; cases q; done) | trivial
    try intro _
    cbv
    refine ⟨?_, ?_⟩
    · first | (intro q; cases q; done) | trivial
    try intro _
    cbv
    refine ⟨?_, ?_⟩
    · first | (intro q; cases q; done) | trivial
    try intro _
    cbv
    refine ⟨?_, ?_⟩
    rotate_left
    · first | (intro q; cases q; done) | trivial
    try intro _
    cbv
    refine ⟨?_, ?_⟩
    rotate_left
    · first | (intro q; cases q; done) | trivial
    try intro _
    cbv
    replace h := (endb h).trans hr
    cases h
    ((repeat' apply And.intro) <;> first | trivial | rfl | assumption | (simp only [oo hO, ff, sl]; done) | (simp only [oo hO, ff, sl]; omega) | (intro i hi; first | (cbv <;> (repeat' apply And.intro) <;> first | trivial | rfl) | (simp only [oo hO, ff, sl] at hi ⊢; (try simp only [gg, sl] at hi ⊢); (repeat' split) <;> first | (exfalso; omega) | (exfalso; exact absurd (Nat.lt_of_lt_of_le hi (Nat.min_le_left _ _)) (by assumption)) | (cbv <;> (repeat' apply And.intro) <;> first | trivial | rfl) | (rename_i q; subst q; cbv <;> (repeat' apply And.intro) <;> first | trivial | rfl) | (rename_i q _; subst q; cbv <;> (repeat' apply And.intro) <;> first | trivial | rfl))))
  cbv
  replace h := condf h (by first | exact b_47 | (simp only [oo hO, sl] at b_47 ⊢; exact b_47))
  refine ⟨?_, ?_⟩
  rotate_left
  · first | (intro q; cases q; done) | trivial
  try intro _
  cbv
  refine ⟨?_, ?_⟩
  · first | (intro q; cases q; done) | trivial
  try intro _
  cbv
  refine ⟨fun b_48 => ?_, fun b_48 => ?_⟩
  rotate_left
  · cbv
    replace h := condt h (by first | exact b_48 | (simp only [oo hO, sl] at b_48 ⊢; exact b_48))
    refine ⟨?_, ?_⟩
    · first | (intro q; cases q; done) | trivial
    try intro _
    cbv
    refine ⟨?_, ?_⟩
    · first | (intro q; cases q; done) | trivial
    try intro _
    cbv
    refine ⟨?_, ?_⟩
    · first | (intro q; cases q; done) | trivial
    try intro _
    cbv
    refine ⟨?_, ?_⟩
    rotate_left
    · first | (intro q; cases q; done) | trivial
    try intro _
    cbv
    refine ⟨?_, ?_⟩
    rotate_left
    · first | (intro q; cases q; done) | trivial
    try intro _
    cbv
    replace h := (endb h).trans hr
    cases h
    ((repeat' apply And.intro) <;> first | trivial | rfl | assumption | (simp only [oo hO, ff, sl]; done) | (simp only [oo hO, ff, sl]; omega) | (intro i hi; first | (cbv <;> (repeat' apply And.intro) <;> first | trivial | rfl) | (simp only [oo hO, ff, sl] at hi ⊢; (try simp only [gg, sl] at hi ⊢); (repeat' split) <;> first | (exfalso; omega) | (exfalso; exact absurd (Nat.lt_of_lt_of_le hi (Nat.min_le_left _ _)) (by assumption)) | (cbv <;> (repeat' apply And.intro) <;> first | trivial | rfl) | (rename_i q; subst q; cbv <;> (repeat' apply And.intro) <;> first | trivial | rfl) | (rename_i q _; subst q; cbv <;> (repeat' apply And.intro) <;> first | trivial | rfl))))
  cbv
  replace h := condf h (by first | exact b_48 | (simp only [oo hO, sl] at b_48 ⊢; exact b_48))
  refine ⟨?_, ?_⟩
  rotate_left
  · first | (intro q; cases q; done) | trivial
  try intro _
  cbv
  refine ⟨?_, ?_⟩
  rotate_left
  · first | (intro q; cases q; done) | trivial
  try intro _
  cbv
  refine ⟨?_, ?_⟩
  rotate_left
  · first | (intro q; cases q; done) | trivial
  try intro _
  cbv
  refine ⟨?_, ?_⟩
  · first | (intro q; cases q; done) | trivial
  try intro _
  cbv
  refine ⟨fun b_49 => ?_, fun b_49 => ?_⟩
  · cbv
    replace h := condt h (by first | exact b_49 | (simp only [oo hO, sl] at b_49 ⊢; exact b_49))
    replace h := (endb h).trans hr
    cases h
    ((repeat' apply And.intro) <;> first | trivial | rfl | assumption | (simp only [oo hO, ff, sl]; done) | (simp only [oo hO, ff, sl]; omega) | (intro i hi; first | (cbv <;> (repeat' apply And.intro) <;> first | trivial | rfl) | (simp only [oo hO, ff, sl] at hi ⊢; (try simp only [gg, sl] at hi ⊢); (repeat' split) <;> first | (exfalso; omega) | (exfalso; exact absurd (Nat.lt_of_lt_of_le hi (Nat.min_le_left _ _)) (by assumption)) | (cbv <;> (repeat' apply And.intro) <;> first | trivial | rfl) | (rename_i q; subst q; cbv <;> (repeat' apply And.intro) <;> first | trivial | rfl) | (rename_i q _; subst q; cbv <;> (repeat' apply And.intro) <;> first | trivial | rfl))))
  cbv
  replace h := condf h (by first | exact b_49 | (simp only [oo hO, sl] at b_49 ⊢; exact b_49))
  obtain ⟨R_50, hR_50, h⟩ := loopb h
  refine ⟨{ x : Nat × Int // (F_laws_FnDelays_l0 O v2 v3 v32 v33 x.1 x.2).bind R_50 = some r }, fun x => ⟨[(5, .ptr 15 0), (6, .int .i64 v3), (8, .osl 31 1 0 (O.llen v5)), (23, .osl 47 1 0 (O.llen v32)), (24, .osl 63 1 0 (O.llen v33)), (27, .int .i64 x.1.2)], [(15, .box [.int .i64 v2.Length, .flt .f32 v2.Feedback, .flt .f32 v2.Dry, .flt .f32 v2.Wet, .bool v2.Flush]), (31, .frz true 1 (O.llen v5) (fun i1 => [.flt .f32 (O.lget v5 i1 0)])), (47, .frz true 1 (O.llen v32) (fun i1 => [.flt .f32 (O.lget v32 i1 0)])), (63, .arr true true 1 (O.llen v33) (fun i1 => [.flt .f32 (O.lget v33 i1 0)]))]⟩, fun x => x.1.1, ⟨(KK, 0), h⟩, ?_, ?_⟩
  · (cbv <;> ((repeat' apply And.intro) <;> first | trivial | rfl | assumption | (simp only [oo hO, ff, sl]; done) | (simp only [oo hO, ff, sl]; omega) | (intro i hi; first | (cbv <;> (repeat' apply And.intro) <;> first | trivial | rfl) | (simp only [oo hO, ff, sl] at hi ⊢; (try simp only [gg, sl] at hi ⊢); (repeat' split) <;> first | (exfalso; omega) | (exfalso; exact absurd (Nat.lt_of_lt_of_le hi (Nat.min_le_left _ _)) (by assumption)) | (cbv <;> (repeat' apply And.intro) <;> first | trivial | rfl) | (rename_i q; subst q; cbv <;> (repeat' apply And.intro) <;> first | trivial | rfl) | (rename_i q _; subst q; cbv <;> (repeat' apply And.intro) <;> first | trivial | rfl)))))
  rintro ⟨⟨k_51, p36⟩, h⟩
  rcases k_51 with _ | k_51
  · cases noneb rfl h
  rw [F_laws_FnDelays_l0.eq_2] at h
  cbv
  refine ⟨fun b_52 => ?_, fun b_52 => ?_⟩
  · cbv
    replace h := condt h (by first | exact b_52 | (simp only [oo hO, sl] at b_52 ⊢; exact b_52))
    obtain ⟨g_53, h⟩ := gdb h
    refine ⟨(by first | exact g_53 | (simp only [oo hO] at g_53 ⊢; simp only [sl] at g_53 ⊢; omega)), ?_⟩
    obtain ⟨g_54, h⟩ := gdb h
    refine ⟨(by first | exact g_54 | (simp only [oo hO] at g_54 ⊢; simp only [sl] at g_54 ⊢; omega)), ?_⟩
    refine ⟨fun b_55 => ?_, fun b_55 => ?_⟩
    rotate_left
    · cbv
      replace h := condf h (by first | exact b_55 | (simp only [oo hO, sl] at b_55 ⊢; exact b_55))
      obtain ⟨g_56, h⟩ := gdb h
      refine ⟨(by first | exact g_56 | (simp only [oo hO] at g_56 ⊢; simp only [sl] at g_56 ⊢; omega)), ?_⟩
      obtain ⟨g_57, h⟩ := gdb h
      refine ⟨(by first | exact g_57 | (simp only [oo hO] at g_57 ⊢; simp only [sl] at g_57 ⊢; omega)), ?_⟩
      refine ⟨fun b_58 => ?_, fun b_58 => ?_⟩
      · cbv
        replace h := condt h (by first | exact b_58 | (simp only [oo hO, sl] at b_58 ⊢; exact b_58))
        replace h := leafb h hR_50
        replace h := (endb h).trans hr
        cases h
        ((repeat' apply And.intro) <;> first | trivial | rfl | assumption | (simp only [oo hO, ff, sl]; done) | (simp only [oo hO, ff, sl]; omega) | (intro i hi; first | (cbv <;> (repeat' apply And.intro) <;> first | trivial | rfl) | (simp only [oo hO, ff, sl] at hi ⊢; (try simp only [gg, sl] at hi ⊢); (repeat' split) <;> first | (exfalso; omega) | (exfalso; exact absurd (Nat.lt_of_lt_of_le hi (Nat.min_le_left _ _)) (by assumption)) | (cbv <;> (repeat' apply And.intro) <;> first | trivial | rfl) | (rename_i q; subst q; cbv <;> (repeat' apply And.intro) <;> first | trivial | rfl) | (rename_i q _; subst q; cbv <;> (repeat' apply And.intro) <;> first | trivial | rfl))))
      cbv
      replace h := condf h (by first | exact b_58 | (simp only [oo hO, sl] at b_58 ⊢; exact b_58))
      obtain ⟨g_59, h⟩ := gdb h
      refine ⟨(by first | exact g_59 | (simp only [oo hO] at g_59 ⊢; simp only [sl] at g_59 ⊢; omega)), ?_⟩
      refine ⟨⟨(k_51, (O.iadd p36 1)), h⟩, ?_, ?_⟩
      · (cbv <;> ((repeat' apply And.intro) <;> first | trivial | rfl | assumption | (simp only [oo hO, ff, sl]; done) | (simp only [oo hO, ff, sl]; omega) | (intro i hi; first | (cbv <;> (repeat' apply And.intro) <;> first | trivial | rfl) | (simp only [oo hO, ff, sl] at hi ⊢; (try simp only [gg, sl] at hi ⊢); (repeat' split) <;> first | (exfalso; omega) | (exfalso; exact absurd (Nat.lt_of_lt_of_le hi (Nat.min_le_left _ _)) (by assumption)) | (cbv <;> (repeat' apply And.intro) <;> first | trivial | rfl) | (rename_i q; subst q; cbv <;> (repeat' apply And.intro) <;> first | trivial | rfl) | (rename_i q _; subst q; cbv <;> (repeat' apply And.intro) <;> first | trivial | rfl)))))
      · exact Nat.lt_succ_self k_51
    cbv
    replace h := condt h (by first | exact b_55 | (simp only [oo hO, sl] at b_55 ⊢; exact b_55))
    obtain ⟨g_60, h⟩ := gdb h
    refine ⟨(by first | exact g_60 | (simp only [oo hO] at g_60 ⊢; simp only [sl] at g_60 ⊢; omega)), ?_⟩
    obtain ⟨g_61, h⟩ := gdb h
    refine ⟨(by first | exact g_61 | (simp only [oo hO] at g_61 ⊢; simp only [sl] at g_61 ⊢; omega)), ?_⟩
    obtain ⟨g_62, h⟩ := gdb h
    refine ⟨(by first | exact g_62 | (simp only [oo hO] at g_62 ⊢; simp only [sl] at g_62 ⊢; omega)), ?_⟩
    obtain ⟨g_63, h⟩ := gdb h
    refine ⟨(by first | exact g_63 | (simp only [oo hO] at g_63 ⊢; simp only [sl] at g_63 ⊢; omega)), ?_⟩
    obtain ⟨g_64, h⟩ := gdb h
    refine ⟨(by first | exact g_64 | (simp only [oo hO] at g_64 ⊢; simp only [sl] at g_64 ⊢; omega)), ?_⟩
    refine ⟨fun b_65 => ?_, fun b_65 => ?_⟩
    · cbv
      replace h := condt h (by first | exact b_65 | (simp only [oo hO, sl] at b_65 ⊢; exact b_65))
      replace h := leafb h hR_50
      replace h := (endb h).trans hr
      cases h
      ((repeat' apply And.intro) <;> first | trivial | rfl | assumption | (simp only [oo hO, ff, sl]; done) | (simp only [oo hO, ff, sl]; omega) | (intro i hi; first | (cbv <;> (repeat' apply And.intro) <;> first | trivial | rfl) | (simp only [oo hO, ff, sl] at hi ⊢; (try simp only [gg, sl] at hi ⊢); (repeat' split) <;> first | (exfalso; omega) | (exfalso; exact absurd (Nat.lt_of_lt_of_le hi (Nat.min_le_left _ _)) (by assumption)) | (cbv <;> (repeat' apply And.intro) <;> first | trivial | rfl) | (rename_i q; subst q; cbv <;> (repeat' apply And.intro) <;> first | trivial | rfl) | (rename_i q _; subst q; cbv <;> (repeat' apply And.intro) <;> first | trivial | rfl))))
    cbv
    replace h := condf h (by first | exact b_65 | (simp only [oo hO, sl] at b_65 ⊢; exact b_65))
    obtain ⟨g_66, h⟩ := gdb h
    refine ⟨(by first | exact g_66 | (simp only [oo hO] at g_66 ⊢; simp only [sl] at g_66 ⊢; omega)), ?_⟩
    refine ⟨⟨(k_51, (O.iadd p36 1)), h⟩, ?_, ?_⟩
    · (cbv <;> ((repeat' apply And.intro) <;> first | trivial | rfl | assumption | (simp only [oo hO, ff, sl]; done) | (simp only [oo hO, ff, sl]; omega) | (intro i hi; first | (cbv <;> (repeat' apply And.intro) <;> first | trivial | rfl) | (simp only [oo hO, ff, sl] at hi ⊢; (try simp only [gg, sl] at hi ⊢); (repeat' split) <;> first | (exfalso; omega) | (exfalso; exact absurd (Nat.lt_of_lt_of_le hi (Nat.min_le_left _ _)) (by assumption)) | (cbv <;> (repeat' apply And.intro) <;> first | trivial | rfl) | (rename_i q; subst q; cbv <;> (repeat' apply And.intro) <;> first | trivial | rfl) | (rename_i q _; subst q; cbv <;> (repeat' apply And.intro) <;> first | trivial | rfl)))))
    · exact Nat.lt_succ_self k_51
  cbv
  replace h := condf h (by first | exact b_52 | (simp only [oo hO, sl] at b_52 ⊢; exact b_52))
  replace h := leafb h hR_50
  obtain ⟨⟨v37, v38⟩, e_67, h⟩ := callb h
  refine ⟨[], _, _, _, _, false, c_impl_SilentFrom hO hP e_67, ?_⟩
  cbv
  refine ⟨(by first | trivial | (simp only [oo hO, sl]; omega) | (simp only [oo hO, sl]; done)), ?_⟩
  refine ⟨(by (repeat' apply And.intro) <;> first | trivial | rfl | (intro i hi; first | (cbv <;> (repeat' apply And.intro) <;> first | trivial | rfl) | (simp only [oo hO, sl]; cbv <;> (repeat' apply And.intro) <;> first | trivial | rfl))), (by (repeat' apply And.intro) <;> first | trivial | rfl), ?_⟩
  obtain ⟨⟨v39, v40⟩, e_68, h⟩ := callb h
  refine ⟨[], _, _, _, _, false, c_spec_SilentFrom hO hP e_68, ?_⟩
  cbv
  refine ⟨(by first | trivial | (simp only [oo hO, sl]; omega) | (simp only [oo hO, sl]; done)), ?_⟩
  refine ⟨(by (repeat' apply And.intro) <;> first | trivial | rfl | (intro i hi; first | (cbv <;> (repeat' apply And.intro) <;> first | trivial | rfl) | (simp only [oo hO, sl]; cbv <;> (repeat' apply And.intro) <;> first | trivial | rfl))), (by (repeat' apply And.intro) <;> first | trivial | rfl), ?_⟩
  refine ⟨fun b_69 => ?_, fun b_69 => ?_⟩
  rotate_left
  · cbv
    replace h := condt h (by first | exact b_69 | (simp only [oo hO, sl] at b_69 ⊢; exact b_69))
    refine ⟨?_, ?_⟩
    · first | (intro q; cases q; done) | trivial
    try intro _
    cbv
    refine ⟨?_, ?_⟩
    rotate_left
    · first | (intro q; cases q; done) | trivial
    try intro _
    cbv
    refine ⟨?_, ?_⟩
    rotate_left
    · first | (intro q; cases q; done) | trivial
    try intro _
    cbv
    replace h := (endb h).trans hr
    cases h
    ((repeat' apply And.intro) <;> first | trivial | rfl | assumption | (simp only [oo hO, ff, sl]; done) | (simp only [oo hO, ff, sl]; omega) | (intro i hi; first | (cbv <;> (repeat' apply And.intro) <;> first | trivial | rfl) | (simp only [oo hO, ff, sl] at hi ⊢; (try simp only [gg, sl] at hi ⊢); (repeat' split) <;> first | (exfalso; omega) | (exfalso; exact absurd (Nat.lt_of_lt_of_le hi (Nat.min_le_left _ _)) (by assumption)) | (cbv <;> (repeat' apply And.intro) <;> first | trivial | rfl) | (rename_i q; subst q; cbv <;> (repeat' apply And.intro) <;> first | trivial | rfl) | (rename_i q _; subst q; cbv <;> (repeat' apply And.intro) <;> first | trivial | rfl))))
  cbv
  replace h := condf h (by first | exact b_69 | (simp only [oo hO, sl] at b_69 ⊢; exact b_69))
  refine ⟨?_, ?_⟩
  rotate_left
  · first | (intro q; cases q; done) | trivial
  try intro _
  cbv
  refine ⟨?_, ?_⟩
  · first | (intro q; cases q; done) | trivial
  try intro _
  cbv
  refine ⟨fun b_70 => ?_, fun b_70 => ?_⟩
  · cbv
    replace h := condt h (by first | exact b_70 | (simp only [oo hO, sl] at b_70 ⊢; exact b_70))
    replace h := (endb h).trans hr
    cases h
    ((repeat' apply And.intro) <;> first | trivial | rfl | assumption | (simp only [oo hO, ff, sl]; done) | (simp only [oo hO, ff, sl]; omega) | (intro i hi; first | (cbv <;> (repeat' apply And.intro) <;> first | trivial | rfl) | (simp only [oo hO, ff, sl] at hi ⊢; (try simp only [gg, sl] at hi ⊢); (repeat' split) <;> first | (exfalso; omega) | (exfalso; exact absurd (Nat.lt_of_lt_of_le hi (Nat.min_le_left _ _)) (by assumption)) | (cbv <;> (repeat' apply And.intro) <;> first | trivial | rfl) | (rename_i q; subst q; cbv <;> (repeat' apply And.intro) <;> first | trivial | rfl) | (rename_i q _; subst q; cbv <;> (repeat' apply And.intro) <;> first | trivial | rfl))))
  cbv
  replace h := condf h (by first | exact b_70 | (simp only [oo hO, sl] at b_70 ⊢; exact b_70))
  obtain ⟨g_71, h⟩ := gdb h
  have qg_71 := g_71; simp only [oo hO, ff, sl] at qg_71
  obtain ⟨g_72, h⟩ := gdb h
  have qg_72 := g_72; simp only [oo hO, ff, sl] at qg_72
  obtain ⟨g_73, h⟩ := gdb h
  refine ⟨(by first | exact g_71 | (simp only [oo hO] at g_71 ⊢; simp only [sl] at g_71 ⊢; omega)), (by first | exact g_72 | (simp only [oo hO] at g_72 ⊢; simp only [sl] at g_72 ⊢; omega)), (by first | exact g_73 | (simp only [oo hO] at g_73 ⊢; simp only [sl] at g_73 ⊢; omega)), ?_⟩
  obtain ⟨⟨v41, v42, v43⟩, e_74, h⟩ := callb h
  refine ⟨[], _, _, _, _, true, c_impl_RunDelay hO hP e_74, ?_⟩
  cbv
  refine ⟨(by first | trivial | (simp only [oo hO, sl]; omega) | (simp only [oo hO, sl]; done)), (by first | trivial | (simp only [oo hO, sl]; omega) | (simp only [oo hO, sl]; done)), ?_⟩
  refine ⟨(by ((repeat' apply And.intro) <;> first | trivial | rfl | assumption | (simp only [oo hO, ff, sl]; done) | (simp only [oo hO, ff, sl]; omega) | (intro i hi; first | (cbv <;> (repeat' apply And.intro) <;> first | trivial | rfl) | (simp only [oo hO, ff, sl] at hi ⊢; (try simp only [gg, sl] at hi ⊢); (repeat' split) <;> first | (exfalso; omega) | (exfalso; exact absurd (Nat.lt_of_lt_of_le hi (Nat.min_le_left _ _)) (by assumption)) | (cbv <;> (repeat' apply And.intro) <;> first | trivial | rfl) | (rename_i q; subst q; cbv <;> (repeat' apply And.intro) <;> first | trivial | rfl) | (rename_i q _; subst q; cbv <;> (repeat' apply And.intro) <;> first | trivial | rfl))))), (by (repeat' apply And.intro) <;> first | trivial | rfl), ?_⟩
  refine ⟨fun b_75 => ?_, fun b_75 => ?_⟩
  rotate_left
  · cbv
    replace h := condt h (by first | exact b_75 | (simp only [oo hO, sl] at b_75 ⊢; exact b_75))
    refine ⟨?_, ?_⟩
    · first | (intro q; cases q; done) | trivial
    try intro _
    cbv
    refine ⟨?_, ?_⟩
    rotate_left
    · first | (intro q; cases q; done) | trivial
    try intro _
    cbv
    refine ⟨?_, ?_⟩
    · first | (intro q; cases q; done) | trivial
    try intro _
    cbv
    refine ⟨?_, ?_⟩
    · first | (intro q; cases q; done) | trivial
    try intro _
    cbv
    refine ⟨?_, ?_⟩
    rotate_left
    · first | (intro q; cases q; done) | trivial
    try intro _
    cbv
    refine ⟨?_, ?_⟩
    rotate_left
    · first | (intro q; cases q; done) | trivial
    try intro _
    cbv
    replace h := (endb h).trans hr
    cases h
    ((repeat' apply And.intro) <;> first | trivial | rfl | assumption | (simp only [oo hO, ff, sl]; done) | (simp only [oo hO, ff, sl]; omega) | (intro i hi; first | (cbv <;> (repeat' apply And.intro) <;> first | trivial | rfl) | (simp only [oo hO, ff, sl] at hi ⊢; (try simp only [gg, sl] at hi ⊢); (repeat' split) <;> first | (exfalso; omega) | (exfalso; exact absurd (Nat.lt_of_lt_of_le hi (Nat.min_le_left _ _)) (by assumption)) | (cbv <;> (repeat' apply And.intro) <;> first | trivial | rfl) | (rename_i q; subst q; cbv <;> (repeat' apply And.intro) <;> first | trivial | rfl) | (rename_i q _; subst q; cbv <;> (repeat' apply And.intro) <;> first | trivial | rfl))))
  cbv
  replace h := condf h (by first | exact b_75 | (simp only [oo hO, sl] at b_75 ⊢; exact b_75))
  refine ⟨?_, ?_⟩
  rotate_left
  · first | (intro q; cases q; done) | trivial
  try intro _
  cbv
  refine ⟨?_, ?_⟩
  · first | (intro q; cases q; done) | trivial
  try intro _
  cbv
  refine ⟨fun b_76 => ?_, fun b_76 => ?_⟩
  rotate_left
  · cbv
    replace h := condt h (by first | exact b_76 | (simp only [oo hO, sl] at b_76 ⊢; exact b_76))
    refine ⟨?_, ?_⟩
    · first | (intro q; cases q; done) | trivial
    try intro _
    cbv
    refine ⟨?_, ?_⟩
    rotate_left
    · first | (intro q; cases q; done) | trivial
    try intro _
    cbv
    refine ⟨?_, ?_⟩
    rotate_left
    · first | (intro q; cases q; done) | trivial
    try intro _
    cbv
    replace h := (endb h).trans hr
    cases h
    ((repeat' apply And.intro) <;> first | trivial | rfl | assumption | (simp only [oo hO, ff, sl]; done) | (simp only [oo hO, ff, sl]; omega) | (intro i hi; first | (cbv <;> (repeat' apply And.intro) <;> first | trivial | rfl) | (simp only [oo hO, ff, sl] at hi ⊢; (try simp only [gg, sl] at hi ⊢); (repeat' split) <;> first | (exfalso; omega) | (exfalso; exact absurd (Nat.lt_of_lt_of_le hi (Nat.min_le_left _ _)) (by assumption)) | (cbv <;> (repeat' apply And.intro) <;> first | trivial | rfl) | (rename_i q; subst q; cbv <;> (repeat' apply And.intro) <;> first | trivial | rfl) | (rename_i q _; subst q; cbv <;> (repeat' apply And.intro) <;> first | trivial | rfl))))
  cbv
  replace h := condf h (by first | exact b_76 | (simp only [oo hO, sl] at b_76 ⊢; exact b_76))
  refine ⟨?_, ?_⟩
  rotate_left
  · first | (intro q; cases q; done) | trivial
  try intro _
  cbv
  refine ⟨?_, ?_⟩
  · first | (intro q; cases q; done) | trivial
  try intro _
  cbv
  refine ⟨fun b_77 => ?_, fun b_77 => ?_⟩
  · cbv
    replace h := condt h (by first | exact b_77 | (simp only [oo hO, sl] at b_77 ⊢; exact b_77))
    replace h := (endb h).trans hr
    cases h
    ((repeat' apply And.intro) <;> first | trivial | rfl | assumption | (simp only [oo hO, ff, sl]; done) | (simp only [oo hO, ff, sl]; omega) | (intro i hi; first | (cbv <;> (repeat' apply And.intro) <;> first | trivial | rfl) | (simp only [oo hO, ff, sl] at hi ⊢; (try simp only [gg, sl] at hi ⊢); (repeat' split) <;> first | (exfalso; omega) | (exfalso; exact absurd (Nat.lt_of_lt_of_le hi (Nat.min_le_left _ _)) (by assumption)) | (cbv <;> (repeat' apply And.intro) <;> first | trivial | rfl) | (rename_i q; subst q; cbv <;> (repeat' apply And.intro) <;> first | trivial | rfl) | (rename_i q _; subst q; cbv <;> (repeat' apply And.intro) <;> first | trivial | rfl))))
  cbv
  replace h := condf h (by first | exact b_77 | (simp only [oo hO, sl] at b_77 ⊢; exact b_77))
  obtain ⟨R_78, hR_78, h⟩ := loopb h
  refine ⟨{ x : Nat × Int // (F_laws_FnDelays_l1 O v42 x.1 x.2).bind R_78 = some r }, fun x => ⟨[(5, .ptr 15 0), (8, .osl 31 1 0 (O.llen v5)), (29, .int .i64 v37), (33, .osl 47 1 0 (O.llen (O.lrep (O.toN v37) 0))), (35, .osl 63 1 0 (O.llen v42)), (288, .int .i64 (O.ofN (O.llen v42))), (289, .int .i64 x.1.2)], [(15, .box [.int .i64 v2.Length, .flt .f32 v2.Feedback, .flt .f32 v2.Dry, .flt .f32 v2.Wet, .bool v2.Flush]), (31, .frz true 1 (O.llen v5) (fun i1 => [.flt .f32 (O.lget v5 i1 0)])), (47, .frz true 1 (O.llen (O.lrep (O.toN v37) 0)) (fun i1 => [.flt .f32 (O.lget (O.lrep (O.toN v37) 0) i1 0)])), (63, .arr true false 1 (O.llen v42) (fun i1 => [.flt .f32 (O.lget v42 i1 0)]))]⟩, fun x => x.1.1, ⟨(KK, 0), h⟩, ?_, ?_⟩
  · (cbv <;> ((repeat' apply And.intro) <;> first | trivial | rfl | assumption | (simp only [oo hO, ff, sl]; done) | (simp only [oo hO, ff, sl]; omega) | (intro i hi; first | (cbv <;> (repeat' apply And.intro) <;> first | trivial | rfl) | (simp only [oo hO, ff, sl] at hi ⊢; (try simp only [gg, sl] at hi ⊢); (repeat' split) <;> first | (exfalso; omega) | (exfalso; exact absurd (Nat.lt_of_lt_of_le hi (Nat.min_le_left _ _)) (by assumption)) | (cbv <;> (repeat' apply And.intro) <;> first | trivial | rfl) | (rename_i q; subst q; cbv <;> (repeat' apply And.intro) <;> first | trivial | rfl) | (rename_i q _; subst q; cbv <;> (repeat' apply And.intro) <;> first | trivial | rfl)))))
  rintro ⟨⟨k_79, p44⟩, h⟩
  rcases k_79 with _ | k_79
  · cases noneb rfl h
  rw [F_laws_FnDelays_l1.eq_2] at h
  cbv
  refine ⟨fun b_80 => ?_, fun b_80 => ?_⟩
  · cbv
    replace h := condt h (by first | exact b_80 | (simp only [oo hO, sl] at b_80 ⊢; exact b_80))
    obtain ⟨g_81, h⟩ := gdb h
    refine ⟨(by first | exact g_81 | (simp only [oo hO] at g_81 ⊢; simp only [sl] at g_81 ⊢; omega)), ?_⟩
    obtain ⟨g_82, h⟩ := gdb h
    refine ⟨(by first | exact g_82 | (simp only [oo hO] at g_82 ⊢; simp only [sl] at g_82 ⊢; omega)), ?_⟩
    refine ⟨fun b_83 => ?_, fun b_83 => ?_⟩
    · cbv
      replace h := condt h (by first | exact b_83 | (simp only [oo hO, sl] at b_83 ⊢; exact b_83))
      replace h := leafb h hR_78
      replace h := (endb h).trans hr
      cases h
      ((repeat' apply And.intro) <;> first | trivial | rfl | assumption | (simp only [oo hO, ff, sl]; done) | (simp only [oo hO, ff, sl]; omega) | (intro i hi; first | (cbv <;> (repeat' apply And.intro) <;> first | trivial | rfl) | (simp only [oo hO, ff, sl] at hi ⊢; (try simp only [gg, sl] at hi ⊢); (repeat' split) <;> first | (exfalso; omega) | (exfalso; exact absurd (Nat.lt_of_lt_of_le hi (Nat.min_le_left _ _)) (by assumption)) | (cbv <;> (repeat' apply And.intro) <;> first | trivial | rfl) | (rename_i q; subst q; cbv <;> (repeat' apply And.intro) <;> first | trivial | rfl) | (rename_i q _; subst q; cbv <;> (repeat' apply And.intro) <;> first | trivial | rfl))))
    cbv
    replace h := condf h (by first | exact b_83 | (simp only [oo hO, sl] at b_83 ⊢; exact b_83))
    obtain ⟨g_84, h⟩ := gdb h
    refine ⟨(by first | exact g_84 | (simp only [oo hO] at g_84 ⊢; simp only [sl] at g_84 ⊢; omega)), ?_⟩
    refine ⟨⟨(k_79, (O.iadd p44 1)), h⟩, ?_, ?_⟩
    · (cbv <;> ((repeat' apply And.intro) <;> first | trivial | rfl | assumption | (simp only [oo hO, ff, sl]; done) | (simp only [oo hO, ff, sl]; omega) | (intro i hi; first | (cbv <;> (repeat' apply And.intro) <;> first | trivial | rfl) | (simp only [oo hO, ff, sl] at hi ⊢; (try simp only [gg, sl] at hi ⊢); (repeat' split) <;> first | (exfalso; omega) | (exfalso; exact absurd (Nat.lt_of_lt_of_le hi (Nat.min_le_left _ _)) (by assumption)) | (cbv <;> (repeat' apply And.intro) <;> first | trivial | rfl) | (rename_i q; subst q; cbv <;> (repeat' apply And.intro) <;> first | trivial | rfl) | (rename_i q _; subst q; cbv <;> (repeat' apply And.intro) <;> first | trivial | rfl)))))
    · exact Nat.lt_succ_self k_79
  cbv
  replace h := condf h (by first | exact b_80 | (simp only [oo hO, sl] at b_80 ⊢; exact b_80))
  replace h := leafb h hR_78
  refine ⟨fun b_85 => ?_, fun b_85 => ?_⟩
  · cbv
    replace h := condt h (by first | exact b_85 | (simp only [oo hO, sl] at b_85 ⊢; exact b_85))
    replace h := (endb h).trans hr
    cases h
    ((repeat' apply And.intro) <;> first | trivial | rfl | assumption | (simp only [oo hO, ff, sl]; done) | (simp only [oo hO, ff, sl]; omega) | (intro i hi; first | (cbv <;> (repeat' apply And.intro) <;> first | trivial | rfl) | (simp only [oo hO, ff, sl] at hi ⊢; (try simp only [gg, sl] at hi ⊢); (repeat' split) <;> first | (exfalso; omega) | (exfalso; exact absurd (Nat.lt_of_lt_of_le hi (Nat.min_le_left _ _)) (by assumption)) | (cbv <;> (repeat' apply And.intro) <;> first | trivial | rfl) | (rename_i q; subst q; cbv <;> (repeat' apply And.intro) <;> first | trivial | rfl) | (rename_i q _; subst q; cbv <;> (repeat' apply And.intro) <;> first | trivial | rfl))))
  cbv
  replace h := condf h (by first | exact b_85 | (simp only [oo hO, sl] at b_85 ⊢; exact b_85))
  obtain ⟨g_86, h⟩ := gdb h
  have qg_86 := g_86; simp only [oo hO, ff, sl] at qg_86
  obtain ⟨g_87, h⟩ := gdb h
  have qg_87 := g_87; simp only [oo hO, ff, sl] at qg_87
  refine ⟨(by first | exact g_86 | (simp only [oo hO] at g_86 ⊢; simp only [sl] at g_86 ⊢; omega)), (by first | exact g_87 | (simp only [oo hO] at g_87 ⊢; simp only [sl] at g_87 ⊢; omega)), ?_⟩
  obtain ⟨⟨v45, v46, v47⟩, e_88, h⟩ := callb h
  refine ⟨[], _, _, _, _, true, c_impl_RunDelay hO hP e_88, ?_⟩
  cbv
  refine ⟨(by first | trivial | (simp only [oo hO, sl]; omega) | (simp only [oo hO, sl]; done)), (by first | trivial | (simp only [oo hO, sl]; omega) | (simp only [oo hO, sl]; done)), ?_⟩
  refine ⟨(by ((repeat' apply And.intro) <;> first | trivial | rfl | assumption | (simp only [oo hO, ff, sl]; done) | (simp only [oo hO, ff, sl]; omega) | (intro i hi; first | (cbv <;> (repeat' apply And.intro) <;> first | trivial | rfl) | (simp only [oo hO, ff, sl] at hi ⊢; (try simp only [gg, sl] at hi ⊢); (repeat' split) <;> first | (exfalso; omega) | (exfalso; exact absurd (Nat.lt_of_lt_of_le hi (Nat.min_le_left _ _)) (by assumption)) | (cbv <;> (repeat' apply And.intro) <;> first | trivial | rfl) | (rename_i q; subst q; cbv <;> (repeat' apply And.intro) <;> first | trivial | rfl) | (rename_i q _; subst q; cbv <;> (repeat' apply And.intro) <;> first | trivial | rfl))))), (by (repeat' apply And.intro) <;> first | trivial | rfl), ?_⟩
  obtain ⟨R_89, hR_89, h⟩ := loopb h
  refine ⟨{ x : Nat × Bool × Int // (F_laws_FnDelays_l2 O v46 x.1 x.2.1 x.2.2).bind R_89 = some r }, fun x => ⟨[(39, .osl 15 1 0 (O.llen v46)), (40, .bool v47), (41, .bool x.1.2.1), (310, .int .i64 (O.ofN (O.llen v46))), (311, .int .i64 x.1.2.2)], [(15, .arr true false 1 (O.llen v46) (fun i1 => [.flt .f32 (O.lget v46 i1 0)]))]⟩, fun x => x.1.1, ⟨(KK, false, 0), h⟩, ?_, ?_⟩
  · (cbv <;> ((repeat' apply And.intro) <;> first | trivial | rfl | assumption | (simp only [oo hO, ff, sl]; done) | (simp only [oo hO, ff, sl]; omega) | (intro i hi; first | (cbv <;> (repeat' apply And.intro) <;> first | trivial | rfl) | (simp only [oo hO, ff, sl] at hi ⊢; (try simp only [gg, sl] at hi ⊢); (repeat' split) <;> first | (exfalso; omega) | (exfalso; exact absurd (Nat.lt_of_lt_of_le hi (Nat.min_le_left _ _)) (by assumption)) | (cbv <;> (repeat' apply And.intro) <;> first | trivial | rfl) | (rename_i q; subst q; cbv <;> (repeat' apply And.intro) <;> first | trivial | rfl) | (rename_i q _; subst q; cbv <;> (repeat' apply And.intro) <;> first | trivial | rfl)))))
  rintro ⟨⟨k_90, p48, p49⟩, h⟩
  rcases k_90 with _ | k_90
  · cases noneb rfl h
  rw [F_laws_FnDelays_l2.eq_2] at h
  cbv
  refine ⟨fun b_91 => ?_, fun b_91 => ?_⟩
  rotate_left
  · cbv
    replace h := condf h (by first | exact b_91 | (simp only [oo hO, sl] at b_91 ⊢; exact b_91))
    replace h := leafb h hR_89
    refine ⟨fun b_92 => ?_, fun b_92 => ?_⟩
    · cbv
      replace h := condt h (by first | exact b_92 | (simp only [oo hO, sl] at b_92 ⊢; exact b_92))
      refine ⟨?_, ?_⟩
      rotate_left
      · first | (intro q; cases q; done) | trivial
      try intro _
      cbv
      replace h := (endb h).trans hr
      cases h
      ((repeat' apply And.intro) <;> first | trivial | rfl | assumption | (simp only [oo hO, ff, sl]; done) | (simp only [oo hO, ff, sl]; omega) | (intro i hi; first | (cbv <;> (repeat' apply And.intro) <;> first | trivial | rfl) | (simp only [oo hO, ff, sl] at hi ⊢; (try simp only [gg, sl] at hi ⊢); (repeat' split) <;> first | (exfalso; omega) | (exfalso; exact absurd (Nat.lt_of_lt_of_le hi (Nat.min_le_left _ _)) (by assumption)) | (cbv <;> (repeat' apply And.intro) <;> first | trivial | rfl) | (rename_i q; subst q; cbv <;> (repeat' apply And.intro) <;> first | trivial | rfl) | (rename_i q _; subst q; cbv <;> (repeat' apply And.intro) <;> first | trivial | rfl))))
    cbv
    replace h := condf h (by first | exact b_92 | (simp only [oo hO, sl] at b_92 ⊢; exact b_92))
    refine ⟨?_, ?_⟩
    · first | (intro q; cases q; done) | trivial
    try intro _
    cbv
    replace h := (endb h).trans hr
    cases h
    ((repeat' apply And.intro) <;> first | trivial | rfl | assumption | (simp only [oo hO, ff, sl]; done) | (simp only [oo hO, ff, sl]; omega) | (intro i hi; first | (cbv <;> (repeat' apply And.intro) <;> first | trivial | rfl) | (simp only [oo hO, ff, sl] at hi ⊢; (try simp only [gg, sl] at hi ⊢); (repeat' split) <;> first | (exfalso; omega) | (exfalso; exact absurd (Nat.lt_of_lt_of_le hi (Nat.min_le_left _ _)) (by assumption)) | (cbv <;> (repeat' apply And.intro) <;> first | trivial | rfl) | (rename_i q; subst q; cbv <;> (repeat' apply And.intro) <;> first | trivial | rfl) | (rename_i q _; subst q; cbv <;> (repeat' apply And.intro) <;> first | trivial | rfl))))
  cbv
  replace h := condt h (by first | exact b_91 | (simp only [oo hO, sl] at b_91 ⊢; exact b_91))
  refine ⟨fun b_93 => ?_, fun b_93 => ?_⟩
  rotate_left
  · cbv
    replace h := condt h (by first | exact b_93 | (simp only [oo hO, sl] at b_93 ⊢; exact b_93))
    refine ⟨?_, ?_⟩
    · first | (intro q; cases q; done) | trivial
    try intro _
    cbv
    refine ⟨?_, ?_⟩
    · first | (intro q; cases q; done) | trivial
    try intro _
    cbv
    refine ⟨?_, ?_⟩
    · first | (intro q; cases q; done) | trivial
    try intro _
    cbv
    refine ⟨?_, ?_⟩
    · first | (intro q; cases q; done) | trivial
    try intro _
    cbv
    refine ⟨?_, ?_⟩
    rotate_left
    · first | (intro q; cases q; done) | trivial
    try intro _
    cbv
    obtain ⟨g_94, h⟩ := gdb h
    refine ⟨(by first | exact g_94 | (simp only [oo hO] at g_94 ⊢; simp only [sl] at g_94 ⊢; omega)), ?_⟩
    refine ⟨⟨(k_90, true, (O.iadd p49 1)), h⟩, ?_, ?_⟩
    · (cbv <;> ((repeat' apply And.intro) <;> first | trivial | rfl | assumption | (simp only [oo hO, ff, sl]; done) | (simp only [oo hO, ff, sl]; omega) | (intro i hi; first | (cbv <;> (repeat' apply And.intro) <;> first | trivial | rfl) | (simp only [oo hO, ff, sl] at hi ⊢; (try simp only [gg, sl] at hi ⊢); (repeat' split) <;> first | (exfalso; omega) | (exfalso; exact absurd (Nat.lt_of_lt_of_le hi (Nat.min_le_left _ _)) (by assumption)) | (cbv <;> (repeat' apply And.intro) <;> first | trivial | rfl) | (rename_i q; subst q; cbv <;> (repeat' apply And.intro) <;> first | trivial | rfl) | (rename_i q _; subst q; cbv <;> (repeat' apply And.intro) <;> first | trivial | rfl)))))
    · exact Nat.lt_succ_self k_90
  cbv
  replace h := condf h (by first | exact b_93 | (simp only [oo hO, sl] at b_93 ⊢; exact b_93))
  refine ⟨?_, ?_⟩
  rotate_left
  · first | (intro q; cases q; done) | trivial
  try intro _
  cbv
  refine ⟨?_, ?_⟩
  rotate_left
  · first | (intro q; cases q; done) | trivial
  try intro _
  cbv
  obtain ⟨g_95, h⟩ := gdb h
  refine ⟨(by first | exact g_95 | (simp only [oo hO] at g_95 ⊢; simp only [sl] at g_95 ⊢; omega)), ?_⟩
  refine ⟨?_, ?_⟩
  rotate_left
  · first | (intro q; cases q; done) | trivial
  try intro _
  cbv
  obtain ⟨g_96, h⟩ := gdb h
  refine ⟨(by first | exact g_96 | (simp only [oo hO] at g_96 ⊢; simp only [sl] at g_96 ⊢; omega)), ?_⟩
  refine ⟨?_, ?_⟩
  rotate_left
  · first | (intro q; cases q; done) | trivial
  try intro _
  cbv
  refine ⟨?_, ?_⟩
  · first | (intro q; cases q; done) | trivial
  try intro _
  cbv
  obtain ⟨g_97, h⟩ := gdb h
  refine ⟨(by first | exact g_97 | (simp only [oo hO] at g_97 ⊢; simp only [sl] at g_97 ⊢; omega)), ?_⟩
  refine ⟨⟨(k_90, (O.fcmp .neq .f32 (O.lget v46 (O.nadd 0 (O.toN p49)) 0) 0), (O.iadd p49 1)), h⟩, ?_, ?_⟩
  · (cbv <;> ((repeat' apply And.intro) <;> first | trivial | rfl | assumption | (simp only [oo hO, ff, sl]; done) | (simp only [oo hO, ff, sl]; omega) | (intro i hi; first | (cbv <;> (repeat' apply And.intro) <;> first | trivial | rfl) | (simp only [oo hO, ff, sl] at hi ⊢; (try simp only [gg, sl] at hi ⊢); (repeat' split) <;> first | (exfalso; omega) | (exfalso; exact absurd (Nat.lt_of_lt_of_le hi (Nat.min_le_left _ _)) (by assumption)) | (cbv <;> (repeat' apply And.intro) <;> first | trivial | rfl) | (rename_i q; subst q; cbv <;> (repeat' apply And.intro) <;> first | trivial | rfl) | (rename_i q _; subst q; cbv <;> (repeat' apply And.intro) <;> first | trivial | rfl)))))
  · exact Nat.lt_succ_self k_90

end Go.Desk
