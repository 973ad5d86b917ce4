/- Contracts of functions, printed by a program of mine (in step with V-logic). -/
import Derived.Test.YtmfbddhgfckfaaaGa1
import Derived.Test.YtmfbddhgfckfaaaGab1
import Derived.Test.YtmfbddhgfckfaaaGabcef1
import Derived.Test.YtmfbddhgfckfaaaGabf1
import Derived.Test.YtmfbddhgfckfaaaGace1
import Derived.Test.YtmfbddhgfckfaaaGae1
import Derived.Test.YtmfbddhgfckfaaaGf
namespace Go.Desk
open Go
set_option linter.all false
set_option maxRecDepth 100000
set_option linter.unusedVariables false
set_option linter.unusedSimpArgs false
set_option maxHeartbeats 4000000
theorem c_impl_SameMemory {O : Ops} (hO : O = std) {P : Program} (hP : P = Prg) {a1 : GMemory} {a2 : GMemory} {r1 : Bool} (h : F_impl_SameMemory O a1 a2 = some r1) :
    Con P 17 [] [.agg [.flt .f32 a1.A, .flt .f32 a1.B, .flt .f32 a1.C, .flt .f32 a1.D], .agg [.flt .f32 a2.A, .flt .f32 a2.B, .flt .f32 a2.C, .flt .f32 a2.D]] (.bool r1) [] := by
  refine @con_of2 O hO P hP 17 Go.Proofs.Try.f17 Go.Proofs.Try.func17 (by kernel_rfl) _ _ _ _ ?_
  unfold F_impl_SameMemory at h
  replace h := startb h
  obtain ⟨r, hr⟩ : ∃ r, r = r1 := ⟨_, rfl⟩
  rw [← hr] at h
  cbv
  refine Wp.mk ?_
  obtain ⟨v1, e_1, h⟩ := callb h
  refine ⟨[], _, _, _, _, false, c_impl_SameNumber hO hP e_1, ?_⟩
  cbv
  refine ⟨(by (repeat' apply And.intro) <;> first | trivial | rfl), (by (repeat' apply And.intro) <;> first | trivial | rfl), ?_⟩
  refine ⟨fun b_2 => ?_, fun b_2 => ?_⟩
  rotate_left
  · cbv
    replace h := condf h (by first | exact b_2 | (simp only [oo hO, sl] at b_2 ⊢; exact b_2))
    refine ⟨?_, ?_⟩
    · first | (intro q; cases q; done) | trivial
    try intro _
    cbv
    refine ⟨?_, ?_⟩
    · first | (intro q; cases q; done) | trivial
    try intro _
    cbv
    refine ⟨?_, ?_⟩
    · first | (intro q; cases q; done) | trivial
    try intro _
    cbv
    refine ⟨?_, ?_⟩
    · first | (intro q; cases q; done) | trivial
    try intro _
    cbv
    refine ⟨?_, ?_⟩
    · first | (intro q; cases q; done) | trivial
    try intro _
    cbv
    refine ⟨?_, ?_⟩
    · first | (intro q; cases q; done) | trivial
    try intro _
    cbv
    refine ⟨?_, ?_⟩
    · first | (intro q; cases q; done) | trivial
    try intro _
    cbv
    refine ⟨?_, ?_⟩
    · first | (intro q; cases q; done) | trivial
    try intro _
    cbv
    refine ⟨?_, ?_⟩
    · first | (intro q; cases q; done) | trivial
    try intro _
    cbv
    refine ⟨?_, ?_⟩
    · first | (intro q; cases q; done) | trivial
    try intro _
    cbv
    refine ⟨?_, ?_⟩
    · first | (intro q; cases q; done) | trivial
    try intro _
    cbv
    refine ⟨?_, ?_⟩
    · first | (intro q; cases q; done) | trivial
    try intro _
    cbv
    refine ⟨?_, ?_⟩
    · first | (intro q; cases q; done) | trivial
    try intro _
    cbv
    refine ⟨?_, ?_⟩
    · first | (intro q; cases q; done) | trivial
    try intro _
    cbv
    refine ⟨?_, ?_⟩
    · first | (intro q; cases q; done) | trivial
    try intro _
    cbv
    refine ⟨?_, ?_⟩
    · first | (intro q; cases q; done) | trivial
    try intro _
    cbv
    refine ⟨?_, ?_⟩
    · first | (intro q; cases q; done) | trivial
    try intro _
    cbv
    replace h := (endb h).trans hr
    cases h
    ((repeat' apply And.intro) <;> first | trivial | rfl | assumption | (simp only [oo hO, ff, sl]; done) | (simp only [oo hO, ff, sl]; omega) | (intro i hi; first | (cbv <;> (repeat' apply And.intro) <;> first | trivial | rfl) | (simp only [oo hO, ff, sl] at hi ⊢; (try simp only [gg, sl] at hi ⊢); (repeat' split) <;> first | (exfalso; omega) | (exfalso; exact absurd (Nat.lt_of_lt_of_le hi (Nat.min_le_left _ _)) (by assumption)) | (cbv <;> (repeat' apply And.intro) <;> first | trivial | rfl) | (rename_i q; subst q; cbv <;> (repeat' apply And.intro) <;> first | trivial | rfl) | (rename_i q _; subst q; cbv <;> (repeat' apply And.intro) <;> first | trivial | rfl))))
  cbv
  replace h := condt h (by first | exact b_2 | (simp only [oo hO, sl] at b_2 ⊢; exact b_2))
  refine ⟨?_, ?_⟩
  rotate_left
  · first | (intro q; cases q; done) | trivial
  try intro _
  cbv
  refine ⟨?_, ?_⟩
  rotate_left
  · first | (intro q; cases q; done) | trivial
  try intro _
  cbv
  refine ⟨?_, ?_⟩
  rotate_left
  · first | (intro q; cases q; done) | trivial
  try intro _
  cbv
  refine ⟨?_, ?_⟩
  rotate_left
  · first | (intro q; cases q; done) | trivial
  try intro _
  cbv
  obtain ⟨v2, e_3, h⟩ := callb h
  refine ⟨[], _, _, _, _, false, c_impl_SameNumber hO hP e_3, ?_⟩
  cbv
  refine ⟨(by (repeat' apply And.intro) <;> first | trivial | rfl), (by (repeat' apply And.intro) <;> first | trivial | rfl), ?_⟩
  refine ⟨?_, ?_⟩
  rotate_left
  · first | (intro q; cases q; done) | trivial
  try intro _
  cbv
  refine ⟨fun b_4 => ?_, fun b_4 => ?_⟩
  rotate_left
  · cbv
    replace h := condf h (by first | exact b_4 | (simp only [oo hO, sl] at b_4 ⊢; exact b_4))
    refine ⟨?_, ?_⟩
    · first | (intro q; cases q; done) | trivial
    try intro _
    cbv
    refine ⟨?_, ?_⟩
    · first | (intro q; cases q; done) | trivial
    try intro _
    cbv
    refine ⟨?_, ?_⟩
    · first | (intro q; cases q; done) | trivial
    try intro _
    cbv
    refine ⟨?_, ?_⟩
    · first | (intro q; cases q; done) | trivial
    try intro _
    cbv
    refine ⟨?_, ?_⟩
    · first | (intro q; cases q; done) | trivial
    try intro _
    cbv
    refine ⟨?_, ?_⟩
    · first | (intro q; cases q; done) | trivial
    try intro _
    cbv
    refine ⟨?_, ?_⟩
    · first | (intro q; cases q; done) | trivial
    try intro _
    cbv
    refine ⟨?_, ?_⟩
    · first | (intro q; cases q; done) | trivial
    try intro _
    cbv
    refine ⟨?_, ?_⟩
    · first | (intro q; cases q; done) | trivial
    try intro _
    cbv
    refine ⟨?_, ?_⟩
    · first | (intro q; cases q; done) | trivial
    try intro _
    cbv
    refine ⟨?_, ?_⟩
    · first | (intro q; cases q; done) | trivial
    try intro _
    cbv
    replace h := (endb h).trans hr
    cases h
    ((repeat' apply And.intro) <;> first | trivial | rfl | assumption | (simp only [oo hO, ff, sl]; done) | (simp only [oo hO, ff, sl]; omega) | (intro i hi; first | (cbv <;> (repeat' apply And.intro) <;> first | trivial | rfl) | (simp only [oo hO, ff, sl] at hi ⊢; (try simp only [gg, sl] at hi ⊢); (repeat' split) <;> first | (exfalso; omega) | (exfalso; exact absurd (Nat.lt_of_lt_of_le hi (Nat.min_le_left _ _)) (by assumption)) | (cbv <;> (repeat' apply And.intro) <;> first | trivial | rfl) | (rename_i q; subst q; cbv <;> (repeat' apply And.intro) <;> first | trivial | rfl) | (rename_i q _; subst q; cbv <;> (repeat' apply And.intro) <;> first | trivial | rfl))))
  cbv
  replace h := condt h (by first | exact b_4 | (simp only [oo hO, sl] at b_4 ⊢; exact b_4))
  refine ⟨?_, ?_⟩
  rotate_left
  · first | (intro q; cases q; done) | trivial
  try intro _
  cbv
  refine ⟨?_, ?_⟩
  rotate_left
  · first | (intro q; cases q; done) | trivial
  try intro _
  cbv
  refine ⟨?_, ?_⟩
  rotate_left
  · first | (intro q; cases q; done) | trivial
  try intro _
  cbv
  refine ⟨?_, ?_⟩
  rotate_left
  · first | (intro q; cases q; done) | trivial
  try intro _
  cbv
  obtain ⟨v3, e_5, h⟩ := callb h
  refine ⟨[], _, _, _, _, false, c_impl_SameNumber hO hP e_5, ?_⟩
  cbv
  refine ⟨(by (repeat' apply And.intro) <;> first | trivial | rfl), (by (repeat' apply And.intro) <;> first | trivial | rfl), ?_⟩
  refine ⟨?_, ?_⟩
  rotate_left
  · first | (intro q; cases q; done) | trivial
  try intro _
  cbv
  refine ⟨fun b_6 => ?_, fun b_6 => ?_⟩
  rotate_left
  · cbv
    replace h := condf h (by first | exact b_6 | (simp only [oo hO, sl] at b_6 ⊢; exact b_6))
    refine ⟨?_, ?_⟩
    · first | (intro q; cases q; done) | trivial
    try intro _
    cbv
    refine ⟨?_, ?_⟩
    · first | (intro q; cases q; done) | trivial
    try intro _
    cbv
    refine ⟨?_, ?_⟩
    · first | (intro q; cases q; done) | trivial
    try intro _
    cbv
    refine ⟨?_, ?_⟩
    · first | (intro q; cases q; done) | trivial
    try intro _
    cbv
    refine ⟨?_, ?_⟩
    · first | (intro q; cases q; done) | trivial
    try intro _
    cbv
    replace h := (endb h).trans hr
    cases h
    ((repeat' apply And.intro) <;> first | trivial | rfl | assumption | (simp only [oo hO, ff, sl]; done) | (simp only [oo hO, ff, sl]; omega) | (intro i hi; first | (cbv <;> (repeat' apply And.intro) <;> first | trivial | rfl) | (simp only [oo hO, ff, sl] at hi ⊢; (try simp only [gg, sl] at hi ⊢); (repeat' split) <;> first | (exfalso; omega) | (exfalso; exact absurd (Nat.lt_of_lt_of_le hi (Nat.min_le_left _ _)) (by assumption)) | (cbv <;> (repeat' apply And.intro) <;> first | trivial | rfl) | (rename_i q; subst q; cbv <;> (repeat' apply And.intro) <;> first | trivial | rfl) | (rename_i q _; subst q; cbv <;> (repeat' apply And.intro) <;> first | trivial | rfl))))
  cbv
  replace h := condt h (by first | exact b_6 | (simp only [oo hO, sl] at b_6 ⊢; exact b_6))
  refine ⟨?_, ?_⟩
  rotate_left
  · first | (intro q; cases q; done) | trivial
  try intro _
  cbv
  refine ⟨?_, ?_⟩
  rotate_left
  · first | (intro q; cases q; done) | trivial
  try intro _
  cbv
  refine ⟨?_, ?_⟩
  rotate_left
  · first | (intro q; cases q; done) | trivial
  try intro _
  cbv
  refine ⟨?_, ?_⟩
  rotate_left
  · first | (intro q; cases q; done) | trivial
  try intro _
  cbv
  obtain ⟨v4, e_7, h⟩ := callb h
  refine ⟨[], _, _, _, _, false, c_impl_SameNumber hO hP e_7, ?_⟩
  cbv
  refine ⟨(by (repeat' apply And.intro) <;> first | trivial | rfl), (by (repeat' apply And.intro) <;> first | trivial | rfl), ?_⟩
  refine ⟨?_, ?_⟩
  rotate_left
  · first | (intro q; cases q; done) | trivial
  try intro _
  cbv
  replace h := (endb h).trans hr
  cases h
  ((repeat' apply And.intro) <;> first | trivial | rfl | assumption | (simp only [oo hO, ff, sl]; done) | (simp only [oo hO, ff, sl]; omega) | (intro i hi; first | (cbv <;> (repeat' apply And.intro) <;> first | trivial | rfl) | (simp only [oo hO, ff, sl] at hi ⊢; (try simp only [gg, sl] at hi ⊢); (repeat' split) <;> first | (exfalso; omega) | (exfalso; exact absurd (Nat.lt_of_lt_of_le hi (Nat.min_le_left _ _)) (by assumption)) | (cbv <;> (repeat' apply And.intro) <;> first | trivial | rfl) | (rename_i q; subst q; cbv <;> (repeat' apply And.intro) <;> first | trivial | rfl) | (rename_i q _; subst q; cbv <;> (repeat' apply And.intro) <;> first | trivial | rfl))))

theorem c_impl_ImpulseOf {O : Ops} (hO : O = std) {P : Program} (hP : P = Prg) {a1 : GFilter} {a2 : Int} {a3 : Int} {r1 : (List Nat)} {r2 : Bool} (h : F_impl_ImpulseOf O a1 a2 a3 = some (r1, r2)) :
    Con P 18 [] [.agg [.flt .f32 a1.B0, .flt .f32 a1.B1, .flt .f32 a1.B2, .flt .f32 a1.A1, .flt .f32 a1.A2], .int .i64 a2, .int .i64 a3] (.tup [.osl 0 1 0 (O.llen r1), .bool r2]) [.arr true true 1 (O.llen r1) (fun i1 => [.flt .f32 (O.lget r1 i1 0)])] := by
  refine @con_of2 O hO P hP 18 Go.Proofs.Try.f18 Go.Proofs.Try.func18 (by kernel_rfl) _ _ _ _ ?_
  unfold F_impl_ImpulseOf at h
  replace h := startb h
  obtain ⟨r, hr⟩ : ∃ r, r = (r1, r2) := ⟨_, rfl⟩
  rw [← hr] at h
  cbv
  refine Wp.mk ?_
  obtain ⟨v1, e_1, h⟩ := callb h
  refine ⟨[], _, _, _, _, false, c_impl_isForm hO hP e_1, ?_⟩
  cbv
  refine ⟨(by (repeat' apply And.intro) <;> first | trivial | rfl), (by (repeat' apply And.intro) <;> first | trivial | rfl), ?_⟩
  refine ⟨fun b_2 => ?_, fun b_2 => ?_⟩
  rotate_left
  · cbv
    replace h := condt h (by first | exact b_2 | (simp only [oo hO, sl] at b_2 ⊢; exact b_2))
    refine ⟨?_, ?_⟩
    · first | (intro q; cases q; done) | trivial
    try intro _
    cbv
    refine ⟨?_, ?_⟩
    · first | (intro q; cases q; done) | trivial
    try intro _
    cbv
    refine ⟨?_, ?_⟩
    rotate_left
    · first | (intro q; cases q; done) | trivial
    try intro _
    cbv
    refine ⟨?_, ?_⟩
    rotate_left
    · first | (intro q; cases q; done) | trivial
    try intro _
    cbv
    replace h := (endb h).trans hr
    cases h
    ((repeat' apply And.intro) <;> first | trivial | rfl | assumption | (simp only [oo hO, ff, sl]; done) | (simp only [oo hO, ff, sl]; omega) | (intro i hi; first | (cbv <;> (repeat' apply And.intro) <;> first | trivial | rfl) | (simp only [oo hO, ff, sl] at hi ⊢; (try simp only [gg, sl] at hi ⊢); (repeat' split) <;> first | (exfalso; omega) | (exfalso; exact absurd (Nat.lt_of_lt_of_le hi (Nat.min_le_left _ _)) (by assumption)) | (cbv <;> (repeat' apply And.intro) <;> first | trivial | rfl) | (rename_i q; subst q; cbv <;> (repeat' apply And.intro) <;> first | trivial | rfl) | (rename_i q _; subst q; cbv <;> (repeat' apply And.intro) <;> first | trivial | rfl))))
  cbv
  replace h := condf h (by first | exact b_2 | (simp only [oo hO, sl] at b_2 ⊢; exact b_2))
  refine ⟨?_, ?_⟩
  rotate_left
  · first | (intro q; cases q; done) | trivial
  try intro _
  cbv
  obtain ⟨v2, e_3, h⟩ := callb h
  refine ⟨[], _, _, _, _, false, c_impl_isCount hO hP e_3, ?_⟩
  cbv
  refine ⟨(by (repeat' apply And.intro) <;> first | trivial | rfl), (by (repeat' apply And.intro) <;> first | trivial | rfl), ?_⟩
  refine ⟨?_, ?_⟩
  rotate_left
  · first | (intro q; cases q; done) | trivial
  try intro _
  cbv
  refine ⟨?_, ?_⟩
  · first | (intro q; cases q; done) | trivial
  try intro _
  cbv
  refine ⟨fun b_4 => ?_, fun b_4 => ?_⟩
  · cbv
    replace h := condt h (by first | exact b_4 | (simp only [oo hO, sl] at b_4 ⊢; exact b_4))
    replace h := (endb h).trans hr
    cases h
    ((repeat' apply And.intro) <;> first | trivial | rfl | assumption | (simp only [oo hO, ff, sl]; done) | (simp only [oo hO, ff, sl]; omega) | (intro i hi; first | (cbv <;> (repeat' apply And.intro) <;> first | trivial | rfl) | (simp only [oo hO, ff, sl] at hi ⊢; (try simp only [gg, sl] at hi ⊢); (repeat' split) <;> first | (exfalso; omega) | (exfalso; exact absurd (Nat.lt_of_lt_of_le hi (Nat.min_le_left _ _)) (by assumption)) | (cbv <;> (repeat' apply And.intro) <;> first | trivial | rfl) | (rename_i q; subst q; cbv <;> (repeat' apply And.intro) <;> first | trivial | rfl) | (rename_i q _; subst q; cbv <;> (repeat' apply And.intro) <;> first | trivial | rfl))))
  cbv
  replace h := condf h (by first | exact b_4 | (simp only [oo hO, sl] at b_4 ⊢; exact b_4))
  obtain ⟨v3, e_5, h⟩ := callb h
  refine ⟨[], _, _, _, _, false, c_impl_impulse hO hP e_5, ?_⟩
  cbv
  refine ⟨(by (repeat' apply And.intro) <;> first | trivial | rfl), (by (repeat' apply And.intro) <;> first | trivial | rfl), ?_⟩
  obtain ⟨⟨v4, v5⟩, e_6, h⟩ := callb h
  refine ⟨[], _, _, _, _, false, c_impl_Filter_run hO hP e_6, ?_⟩
  cbv
  refine ⟨(by first | trivial | (simp only [oo hO, sl]; omega) | (simp only [oo hO, sl]; done)), ?_⟩
  refine ⟨(by (repeat' apply And.intro) <;> first | trivial | rfl | (intro i hi; first | (cbv <;> (repeat' apply And.intro) <;> first | trivial | rfl) | (simp only [oo hO, sl]; cbv <;> (repeat' apply And.intro) <;> first | trivial | rfl))), (by (repeat' apply And.intro) <;> first | trivial | rfl), ?_⟩
  replace h := (endb h).trans hr
  cases h
  ((repeat' apply And.intro) <;> first | trivial | rfl | assumption | (simp only [oo hO, ff, sl]; done) | (simp only [oo hO, ff, sl]; omega) | (intro i hi; first | (cbv <;> (repeat' apply And.intro) <;> first | trivial | rfl) | (simp only [oo hO, ff, sl] at hi ⊢; (try simp only [gg, sl] at hi ⊢); (repeat' split) <;> first | (exfalso; omega) | (exfalso; exact absurd (Nat.lt_of_lt_of_le hi (Nat.min_le_left _ _)) (by assumption)) | (cbv <;> (repeat' apply And.intro) <;> first | trivial | rfl) | (rename_i q; subst q; cbv <;> (repeat' apply And.intro) <;> first | trivial | rfl) | (rename_i q _; subst q; cbv <;> (repeat' apply And.intro) <;> first | trivial | rfl))))

theorem c_slices_Reverse_float32_float32 {O : Ops} (hO : O = std) {P : Program} (hP : P = Prg) {a1 : (List Nat)} {r1 : (List Nat)} (h : F_slices_Reverse_float32_float32 O a1 = some r1) :
    Con P 71 [.arr false false 1 (O.llen a1) (fun i1 => [.flt .f32 (O.lget a1 i1 0)])] [.osl 0 1 0 (O.llen a1)] (.tup []) [.arr false false 1 (O.llen a1) (fun i1 => [.flt .f32 (O.lget r1 i1 0)])] := by
  refine @con_of2 O hO P hP 71 Go.Proofs.Try.f71 Go.Proofs.Try.func71 (by kernel_rfl) _ _ _ _ ?_
  unfold F_slices_Reverse_float32_float32 at h
  replace h := startb h
  obtain ⟨r, hr⟩ : ∃ r, r = r1 := ⟨_, rfl⟩
  rw [← hr] at h
  cbv
  refine Wp.mk ?_
  obtain ⟨g_1, h⟩ := gdb h
  refine ⟨(by first | exact g_1 | (simp only [oo hO] at g_1 ⊢; simp only [sl] at g_1 ⊢; omega)), ?_⟩
  obtain ⟨R_2, hR_2, h⟩ := loopb h
  refine ⟨{ x : Nat × (List Nat) × Int × Int // (F_slices_Reverse_float32_float32_l0 O x.1 x.2.1 x.2.2.1 x.2.2.2).bind R_2 = some r }, fun x => ⟨[(0, .osl 0 1 0 (O.llen x.1.2.1)), (2, .int .i64 x.1.2.2.1), (3, .int .i64 x.1.2.2.2)], [(0, .arr false false 1 (O.llen x.1.2.1) (fun i1 => [.flt .f32 (O.lget x.1.2.1 i1 0)]))]⟩, fun x => x.1.1, ⟨(KK, a1, 0, (O.isub (O.ofN (O.llen a1)) 1)), h⟩, ?_, ?_⟩
  · (cbv <;> ((repeat' apply And.intro) <;> first | trivial | rfl | assumption | (simp only [oo hO, ff, sl]; done) | (simp only [oo hO, ff, sl]; omega) | (intro i hi; first | (cbv <;> (repeat' apply And.intro) <;> first | trivial | rfl) | (simp only [oo hO, ff, sl] at hi ⊢; (try simp only [gg, sl] at hi ⊢); (repeat' split) <;> first | (exfalso; omega) | (exfalso; exact absurd (Nat.lt_of_lt_of_le hi (Nat.min_le_left _ _)) (by assumption)) | (cbv <;> (repeat' apply And.intro) <;> first | trivial | rfl) | (rename_i q; subst q; cbv <;> (repeat' apply And.intro) <;> first | trivial | rfl) | (rename_i q _; subst q; cbv <;> (repeat' apply And.intro) <;> first | trivial | rfl)))))
  rintro ⟨⟨k_3, p1, p2, p3⟩, h⟩
  rcases k_3 with _ | k_3
  · cases noneb rfl h
  rw [F_slices_Reverse_float32_float32_l0.eq_2] at h
  cbv
  refine ⟨fun b_4 => ?_, fun b_4 => ?_⟩
  rotate_left
  · cbv
    replace h := condf h (by first | exact b_4 | (simp only [oo hO, sl] at b_4 ⊢; exact b_4))
    replace h := leafb h hR_2
    obtain ⟨g_5, h⟩ := gdb h
    simp only [oo hO, ff, sl] at g_5
    replace h := (endb h).trans hr
    cases h
    ((repeat' apply And.intro) <;> first | trivial | rfl | assumption | (simp only [oo hO, ff, sl]; done) | (simp only [oo hO, ff, sl]; omega) | (intro i hi; first | (cbv <;> (repeat' apply And.intro) <;> first | trivial | rfl) | (simp only [oo hO, ff, sl] at hi ⊢; (try simp only [gg, sl] at hi ⊢); (repeat' split) <;> first | (exfalso; omega) | (exfalso; exact absurd (Nat.lt_of_lt_of_le hi (Nat.min_le_left _ _)) (by assumption)) | (cbv <;> (repeat' apply And.intro) <;> first | trivial | rfl) | (rename_i q; subst q; cbv <;> (repeat' apply And.intro) <;> first | trivial | rfl) | (rename_i q _; subst q; cbv <;> (repeat' apply And.intro) <;> first | trivial | rfl))))
  cbv
  replace h := condt h (by first | exact b_4 | (simp only [oo hO, sl] at b_4 ⊢; exact b_4))
  obtain ⟨g_6, h⟩ := gdb h
  refine ⟨(by first | exact g_6 | (simp only [oo hO] at g_6 ⊢; simp only [sl] at g_6 ⊢; omega)), ?_⟩
  obtain ⟨g_7, h⟩ := gdb h
  refine ⟨(by first | exact g_7 | (simp only [oo hO] at g_7 ⊢; simp only [sl] at g_7 ⊢; omega)), ?_⟩
  obtain ⟨g_8, h⟩ := gdb h
  refine ⟨(by first | exact g_8 | (simp only [oo hO] at g_8 ⊢; simp only [sl] at g_8 ⊢; omega)), ?_⟩
  obtain ⟨g_9, h⟩ := gdb h
  refine ⟨(by first | exact g_9 | (simp only [oo hO] at g_9 ⊢; simp only [sl] at g_9 ⊢; omega)), ?_⟩
  obtain ⟨g_10, h⟩ := gdb h
  refine ⟨(by first | exact g_10 | (simp only [oo hO] at g_10 ⊢; simp only [sl] at g_10 ⊢; omega)), ?_⟩
  obtain ⟨g_11, h⟩ := gdb h
  refine ⟨(by first | exact g_11 | (simp only [oo hO] at g_11 ⊢; simp only [sl] at g_11 ⊢; omega)), ?_⟩
  obtain ⟨g_12, h⟩ := gdb h
  refine ⟨(by first | exact g_12 | (simp only [oo hO] at g_12 ⊢; simp only [sl] at g_12 ⊢; omega)), ?_⟩
  obtain ⟨g_13, h⟩ := gdb h
  refine ⟨(by first | exact g_13 | (simp only [oo hO] at g_13 ⊢; simp only [sl] at g_13 ⊢; omega)), ?_⟩
  obtain ⟨g_14, h⟩ := gdb h
  refine ⟨(by first | exact g_14 | (simp only [oo hO] at g_14 ⊢; simp only [sl] at g_14 ⊢; omega)), ?_⟩
  obtain ⟨g_15, h⟩ := gdb h
  refine ⟨(by first | exact g_15 | (simp only [oo hO] at g_15 ⊢; simp only [sl] at g_15 ⊢; omega)), ?_⟩
  refine ⟨⟨(k_3, (O.lset (O.lset p1 (O.nadd 0 (O.toN p2)) (O.lget p1 (O.nadd 0 (O.toN p3)) 0)) (O.nadd 0 (O.toN p3)) (O.lget p1 (O.nadd 0 (O.toN p2)) 0)), (O.iadd p2 1), (O.isub p3 1)), h⟩, ?_, ?_⟩
  · (cbv <;> ((repeat' apply And.intro) <;> first | trivial | rfl | assumption | (simp only [oo hO, ff, sl]; done) | (simp only [oo hO, ff, sl]; omega) | (intro i hi; first | (cbv <;> (repeat' apply And.intro) <;> first | trivial | rfl) | (simp only [oo hO, ff, sl] at hi ⊢; (try simp only [gg, sl] at hi ⊢); (repeat' split) <;> first | (exfalso; omega) | (exfalso; exact absurd (Nat.lt_of_lt_of_le hi (Nat.min_le_left _ _)) (by assumption)) | (cbv <;> (repeat' apply And.intro) <;> first | trivial | rfl) | (rename_i q; subst q; cbv <;> (repeat' apply And.intro) <;> first | trivial | rfl) | (rename_i q _; subst q; cbv <;> (repeat' apply And.intro) <;> first | trivial | rfl)))))
  · exact Nat.lt_succ_self k_3

theorem c_impl_FilterBothWays {O : Ops} (hO : O = std) {P : Program} (hP : P = Prg) {a1 : GFilter} {a2 : (List Nat)} {r1 : (List Nat)} {r2 : Bool} (h : F_impl_FilterBothWays O a1 a2 = some (r1, r2)) :
    Con P 19 [] [.agg [.flt .f32 a1.B0, .flt .f32 a1.B1, .flt .f32 a1.B2, .flt .f32 a1.A1, .flt .f32 a1.A2], .sl false false 1 (O.llen a2) (fun i1 => [.flt .f32 (O.lget a2 i1 0)])] (.tup [.osl 0 1 0 (O.llen r1), .bool r2]) [.arr true false 1 (O.llen r1) (fun i1 => [.flt .f32 (O.lget r1 i1 0)])] := by
  refine @con_of2 O hO P hP 19 Go.Proofs.Try.f19 Go.Proofs.Try.func19 (by kernel_rfl) _ _ _ _ ?_
  unfold F_impl_FilterBothWays at h
  replace h := startb h
  obtain ⟨r, hr⟩ : ∃ r, r = (r1, r2) := ⟨_, rfl⟩
  rw [← hr] at h
  cbv
  refine Wp.mk ?_
  obtain ⟨v1, e_1, h⟩ := callb h
  refine ⟨[], _, _, _, _, false, c_impl_areSamples hO hP e_1, ?_⟩
  cbv
  refine ⟨(by (repeat' apply And.intro) <;> first | trivial | rfl | (intro i hi; first | (cbv <;> (repeat' apply And.intro) <;> first | trivial | rfl) | (simp only [oo hO, sl]; cbv <;> (repeat' apply And.intro) <;> first | trivial | rfl))), (by (repeat' apply And.intro) <;> first | trivial | rfl), ?_⟩
  refine ⟨fun b_2 => ?_, fun b_2 => ?_⟩
  · cbv
    replace h := condt h (by first | exact b_2 | (simp only [oo hO, sl] at b_2 ⊢; exact b_2))
    replace h := (endb h).trans hr
    cases h
    ((repeat' apply And.intro) <;> first | trivial | rfl | assumption | (simp only [oo hO, ff, sl]; done) | (simp only [oo hO, ff, sl]; omega) | (intro i hi; first | (cbv <;> (repeat' apply And.intro) <;> first | trivial | rfl) | (simp only [oo hO, ff, sl] at hi ⊢; (try simp only [gg, sl] at hi ⊢); (repeat' split) <;> first | (exfalso; omega) | (exfalso; exact absurd (Nat.lt_of_lt_of_le hi (Nat.min_le_left _ _)) (by assumption)) | (cbv <;> (repeat' apply And.intro) <;> first | trivial | rfl) | (rename_i q; subst q; cbv <;> (repeat' apply And.intro) <;> first | trivial | rfl) | (rename_i q _; subst q; cbv <;> (repeat' apply And.intro) <;> first | trivial | rfl))))
  cbv
  replace h := condf h (by first | exact b_2 | (simp only [oo hO, sl] at b_2 ⊢; exact b_2))
  obtain ⟨v2, e_3, h⟩ := callb h
  refine ⟨[], _, _, _, _, true, c_impl_copyNumbers hO hP e_3, ?_⟩
  cbv
  refine ⟨(by (repeat' apply And.intro) <;> first | trivial | rfl | (intro i hi; first | (cbv <;> (repeat' apply And.intro) <;> first | trivial | rfl) | (simp only [oo hO, sl]; cbv <;> (repeat' apply And.intro) <;> first | trivial | rfl))), (by (repeat' apply And.intro) <;> first | trivial | rfl), ?_⟩
  obtain ⟨R_4, hR_4, h⟩ := loopb h
  refine ⟨{ x : Nat × (List Nat) × Int // (F_impl_FilterBothWays_l0 O a1 x.1 x.2.1 x.2.2).bind R_4 = some r }, fun x => ⟨[(2, .ptr 15 0), (6, .osl 31 1 0 (O.llen x.1.2.1)), (7, .int .i64 x.1.2.2)], [(15, .box [.flt .f32 a1.B0, .flt .f32 a1.B1, .flt .f32 a1.B2, .flt .f32 a1.A1, .flt .f32 a1.A2]), (31, .arr true false 1 (O.llen x.1.2.1) (fun i1 => [.flt .f32 (O.lget x.1.2.1 i1 0)]))]⟩, fun x => x.1.1, ⟨(KK, v2, 0), h⟩, ?_, ?_⟩
  · (cbv <;> ((repeat' apply And.intro) <;> first | trivial | rfl | assumption | (simp only [oo hO, ff, sl]; done) | (simp only [oo hO, ff, sl]; omega) | (intro i hi; first | (cbv <;> (repeat' apply And.intro) <;> first | trivial | rfl) | (simp only [oo hO, ff, sl] at hi ⊢; (try simp only [gg, sl] at hi ⊢); (repeat' split) <;> first | (exfalso; omega) | (exfalso; exact absurd (Nat.lt_of_lt_of_le hi (Nat.min_le_left _ _)) (by assumption)) | (cbv <;> (repeat' apply And.intro) <;> first | trivial | rfl) | (rename_i q; subst q; cbv <;> (repeat' apply And.intro) <;> first | trivial | rfl) | (rename_i q _; subst q; cbv <;> (repeat' apply And.intro) <;> first | trivial | rfl)))))
  rintro ⟨⟨k_5, p6, p7⟩, h⟩
  rcases k_5 with _ | k_5
  · cases noneb rfl h
  rw [F_impl_FilterBothWays_l0.eq_2] at h
  cbv
  refine ⟨fun b_6 => ?_, fun b_6 => ?_⟩
  rotate_left
  · cbv
    replace h := condf h (by first | exact b_6 | (simp only [oo hO, sl] at b_6 ⊢; exact b_6))
    replace h := leafb h hR_4
    replace h := (endb h).trans hr
    cases h
    ((repeat' apply And.intro) <;> first | trivial | rfl | assumption | (simp only [oo hO, ff, sl]; done) | (simp only [oo hO, ff, sl]; omega) | (intro i hi; first | (cbv <;> (repeat' apply And.intro) <;> first | trivial | rfl) | (simp only [oo hO, ff, sl] at hi ⊢; (try simp only [gg, sl] at hi ⊢); (repeat' split) <;> first | (exfalso; omega) | (exfalso; exact absurd (Nat.lt_of_lt_of_le hi (Nat.min_le_left _ _)) (by assumption)) | (cbv <;> (repeat' apply And.intro) <;> first | trivial | rfl) | (rename_i q; subst q; cbv <;> (repeat' apply And.intro) <;> first | trivial | rfl) | (rename_i q _; subst q; cbv <;> (repeat' apply And.intro) <;> first | trivial | rfl))))
  cbv
  replace h := condt h (by first | exact b_6 | (simp only [oo hO, sl] at b_6 ⊢; exact b_6))
  obtain ⟨⟨v3, v4⟩, e_7, h⟩ := callb h
  refine ⟨[], _, _, _, _, false, c_impl_Filter_run hO hP e_7, ?_⟩
  cbv
  refine ⟨(by first | trivial | (simp only [oo hO, sl]; omega) | (simp only [oo hO, sl]; done)), ?_⟩
  refine ⟨(by (repeat' apply And.intro) <;> first | trivial | rfl | (intro i hi; first | (cbv <;> (repeat' apply And.intro) <;> first | trivial | rfl) | (simp only [oo hO, sl]; cbv <;> (repeat' apply And.intro) <;> first | trivial | rfl))), (by (repeat' apply And.intro) <;> first | trivial | rfl), ?_⟩
  obtain ⟨v5, e_8, h⟩ := callb h
  refine ⟨[336], _, _, _, _, true, c_slices_Reverse_float32_float32 hO hP e_8, ?_⟩
  cbv
  refine ⟨(by (repeat' apply And.intro) <;> first | trivial | rfl), (by (repeat' apply And.intro) <;> first | trivial | rfl | (intro i hi; first | (cbv <;> (repeat' apply And.intro) <;> first | trivial | rfl) | (simp only [oo hO, sl]; cbv <;> (repeat' apply And.intro) <;> first | trivial | rfl))), ?_⟩
  obtain ⟨g_9, h⟩ := gdb h
  simp only [oo hO, ff, sl] at g_9
  obtain ⟨g_10, h⟩ := gdb h
  refine ⟨(by first | exact g_10 | (simp only [oo hO] at g_10 ⊢; simp only [sl] at g_10 ⊢; omega)), ?_⟩
  refine ⟨⟨(k_5, v5, (O.iadd p7 1)), h⟩, ?_, ?_⟩
  · (cbv <;> ((repeat' apply And.intro) <;> first | trivial | rfl | assumption | (simp only [oo hO, ff, sl]; done) | (simp only [oo hO, ff, sl]; omega) | (intro i hi; first | (cbv <;> (repeat' apply And.intro) <;> first | trivial | rfl) | (simp only [oo hO, ff, sl] at hi ⊢; (try simp only [gg, sl] at hi ⊢); (repeat' split) <;> first | (exfalso; omega) | (exfalso; exact absurd (Nat.lt_of_lt_of_le hi (Nat.min_le_left _ _)) (by assumption)) | (cbv <;> (repeat' apply And.intro) <;> first | trivial | rfl) | (rename_i q; subst q; cbv <;> (repeat' apply And.intro) <;> first | trivial | rfl) | (rename_i q _; subst q; cbv <;> (repeat' apply And.intro) <;> first | trivial | rfl)))))
  · exact Nat.lt_succ_self k_5

theorem c_laws_r8Turned {O : Ops} (hO : O = std) {P : Program} (hP : P = Prg) {a1 : (List Nat)} {r1 : (List Nat)} (h : F_laws_r8Turned O a1 = some r1) :
    Con P 20 [] [.sl false false 1 (O.llen a1) (fun i1 => [.flt .f32 (O.lget a1 i1 0)])] (.osl 0 1 0 (O.llen r1)) [.arr true true 1 (O.llen r1) (fun i1 => [.flt .f32 (O.lget r1 i1 0)])] := by
  refine @con_of2 O hO P hP 20 Go.Proofs.Try.f20 Go.Proofs.Try.func20 (by kernel_rfl) _ _ _ _ ?_
  unfold F_laws_r8Turned at h
  replace h := startb h
  obtain ⟨r, hr⟩ : ∃ r, r = r1 := ⟨_, rfl⟩
  rw [← hr] at h
  cbv
  refine Wp.mk ?_
  obtain ⟨g_1, h⟩ := gdb h
  refine ⟨(by first | exact g_1 | (simp only [oo hO] at g_1 ⊢; simp only [sl] at g_1 ⊢; omega)), ?_⟩
  obtain ⟨R_2, hR_2, h⟩ := loopb h
  refine ⟨{ x : Nat × (List Nat) × Int // (F_laws_r8Turned_l0 O a1 x.1 x.2.1 x.2.2).bind R_2 = some r }, fun x => ⟨[(0, .sl false false 1 (O.llen a1) (fun i1 => [.flt .f32 (O.lget a1 i1 0)])), (3, .osl 15 1 0 (O.llen x.1.2.1)), (4, .int .i64 x.1.2.2)], [(15, .arr true true 1 (O.llen x.1.2.1) (fun i1 => [.flt .f32 (O.lget x.1.2.1 i1 0)]))]⟩, fun x => x.1.1, ⟨(KK, ([] : List Nat), (O.isub (O.ofN (O.llen a1)) 1)), h⟩, ?_, ?_⟩
  · (cbv <;> ((repeat' apply And.intro) <;> first | trivial | rfl | assumption | (simp only [oo hO, ff, sl]; done) | (simp only [oo hO, ff, sl]; omega) | (intro i hi; first | (cbv <;> (repeat' apply And.intro) <;> first | trivial | rfl) | (simp only [oo hO, ff, sl] at hi ⊢; (try simp only [gg, sl] at hi ⊢); (repeat' split) <;> first | (exfalso; omega) | (exfalso; exact absurd (Nat.lt_of_lt_of_le hi (Nat.min_le_left _ _)) (by assumption)) | (cbv <;> (repeat' apply And.intro) <;> first | trivial | rfl) | (rename_i q; subst q; cbv <;> (repeat' apply And.intro) <;> first | trivial | rfl) | (rename_i q _; subst q; cbv <;> (repeat' apply And.intro) <;> first | trivial | rfl)))))
  rintro ⟨⟨k_3, p1, p2⟩, h⟩
  rcases k_3 with _ | k_3
  · cases noneb rfl h
  rw [F_laws_r8Turned_l0.eq_2] at h
  cbv
  refine ⟨fun b_4 => ?_, fun b_4 => ?_⟩
  rotate_left
  · cbv
    replace h := condf h (by first | exact b_4 | (simp only [oo hO, sl] at b_4 ⊢; exact b_4))
    replace h := leafb h hR_2
    replace h := (endb h).trans hr
    cases h
    ((repeat' apply And.intro) <;> first | trivial | rfl | assumption | (simp only [oo hO, ff, sl]; done) | (simp only [oo hO, ff, sl]; omega) | (intro i hi; first | (cbv <;> (repeat' apply And.intro) <;> first | trivial | rfl) | (simp only [oo hO, ff, sl] at hi ⊢; (try simp only [gg, sl] at hi ⊢); (repeat' split) <;> first | (exfalso; omega) | (exfalso; exact absurd (Nat.lt_of_lt_of_le hi (Nat.min_le_left _ _)) (by assumption)) | (cbv <;> (repeat' apply And.intro) <;> first | trivial | rfl) | (rename_i q; subst q; cbv <;> (repeat' apply And.intro) <;> first | trivial | rfl) | (rename_i q _; subst q; cbv <;> (repeat' apply And.intro) <;> first | trivial | rfl))))
  cbv
  replace h := condt h (by first | exact b_4 | (simp only [oo hO, sl] at b_4 ⊢; exact b_4))
  obtain ⟨g_5, h⟩ := gdb h
  refine ⟨(by first | exact g_5 | (simp only [oo hO] at g_5 ⊢; simp only [sl] at g_5 ⊢; omega)), ?_⟩
  obtain ⟨g_6, h⟩ := gdb h
  refine ⟨(by first | trivial | (simp only [oo hO, sl]; omega) | (simp only [oo hO, sl]; done)), (by first | exact g_6 | (simp only [oo hO] at g_6 ⊢; simp only [sl] at g_6 ⊢; omega)), (by first | trivial | (simp only [oo hO, sl]; omega) | (simp only [oo hO, sl]; done)), ?_⟩
  obtain ⟨g_7, h⟩ := gdb h
  refine ⟨(by first | exact g_7 | (simp only [oo hO] at g_7 ⊢; simp only [sl] at g_7 ⊢; omega)), ?_⟩
  refine ⟨⟨(k_3, (O.lapp p1 ([(O.lget a1 (O.toN p2) 0)] : List Nat)), (O.isub p2 1)), h⟩, ?_, ?_⟩
  · (cbv <;> ((repeat' apply And.intro) <;> first | trivial | rfl | assumption | (simp only [oo hO, ff, sl]; done) | (simp only [oo hO, ff, sl]; omega) | (intro i hi; first | (cbv <;> (repeat' apply And.intro) <;> first | trivial | rfl) | (simp only [oo hO, ff, sl] at hi ⊢; (try simp only [gg, sl] at hi ⊢); (repeat' split) <;> first | (exfalso; omega) | (exfalso; exact absurd (Nat.lt_of_lt_of_le hi (Nat.min_le_left _ _)) (by assumption)) | (cbv <;> (repeat' apply And.intro) <;> first | trivial | rfl) | (rename_i q; subst q; cbv <;> (repeat' apply And.intro) <;> first | trivial | rfl) | (rename_i q _; subst q; cbv <;> (repeat' apply And.intro) <;> first | trivial | rfl)))))
  · exact Nat.lt_succ_self k_3

theorem c_laws_FnFilterRows {O : Ops} (hO : O = std) {P : Program} (hP : P = Prg) {a1 : (List Int)} {a2 : (List Int)} {r1 : Bool} (h : F_laws_FnFilterRows O a1 a2 = some r1) :
    Con P 3 [] [.sl false false 1 (O.llen a1) (fun i1 => [.int .u8 (O.lget a1 i1 0)]), .sl false false 1 (O.llen a2) (fun i1 => [.int .u8 (O.lget a2 i1 0)])] (.bool r1) [] := by
  refine @con_of2 O hO P hP 3 Go.Proofs.Try.f3 Go.Proofs.Try.func3 (by kernel_rfl) _ _ _ _ ?_
  unfold F_laws_FnFilterRows at h
  replace h := startb h
  obtain ⟨r, hr⟩ : ∃ r, r = r1 := ⟨_, rfl⟩
  rw [← hr] at h
  cbv
  refine Wp.mk ?_
  obtain ⟨v1, e_1, h⟩ := callb h
  refine ⟨[], _, _, _, _, false, c_laws_r8Long hO hP e_1, ?_⟩
  cbv
  refine ⟨(by (repeat' apply And.intro) <;> first | trivial | rfl | (intro i hi; first | (cbv <;> (repeat' apply And.intro) <;> first | trivial | rfl) | (simp only [oo hO, sl]; cbv <;> (repeat' apply And.intro) <;> first | trivial | rfl))), (by (repeat' apply And.intro) <;> first | trivial | rfl), ?_⟩
  refine ⟨fun b_2 => ?_, fun b_2 => ?_⟩
  · cbv
    replace h := condt h (by first | exact b_2 | (simp only [oo hO, sl] at b_2 ⊢; exact b_2))
    replace h := (endb h).trans hr
    cases h
    ((repeat' apply And.intro) <;> first | trivial | rfl | assumption | (simp only [oo hO, ff, sl]; done) | (simp only [oo hO, ff, sl]; omega) | (intro i hi; first | (cbv <;> (repeat' apply And.intro) <;> first | trivial | rfl) | (simp only [oo hO, ff, sl] at hi ⊢; (try simp only [gg, sl] at hi ⊢); (repeat' split) <;> first | (exfalso; omega) | (exfalso; exact absurd (Nat.lt_of_lt_of_le hi (Nat.min_le_left _ _)) (by assumption)) | (cbv <;> (repeat' apply And.intro) <;> first | trivial | rfl) | (rename_i q; subst q; cbv <;> (repeat' apply And.intro) <;> first | trivial | rfl) | (rename_i q _; subst q; cbv <;> (repeat' apply And.intro) <;> first | trivial | rfl)) | (simp only [litElems, oo hO, ff, sl] at hi ⊢; rcases i with _ | _ | _ | _ | _ | _ | _ | _ | _ | i <;> first | (exfalso; omega) | (cbv <;> (repeat' apply And.intro) <;> first | trivial | rfl))))
  cbv
  replace h := condf h (by first | exact b_2 | (simp only [oo hO, sl] at b_2 ⊢; exact b_2))
  obtain ⟨v2, e_3, h⟩ := callb h
  refine ⟨[], _, _, _, _, false, c_spec_R8Filter hO hP e_3, ?_⟩
  cbv
  refine ⟨(by (repeat' apply And.intro) <;> first | trivial | rfl | (intro i hi; first | (cbv <;> (repeat' apply And.intro) <;> first | trivial | rfl) | (simp only [oo hO, sl]; cbv <;> (repeat' apply And.intro) <;> first | trivial | rfl))), (by (repeat' apply And.intro) <;> first | trivial | rfl), ?_⟩
  obtain ⟨v3, e_4, h⟩ := callb h
  refine ⟨[], _, _, _, _, false, c_spec_R8Filter hO hP e_4, ?_⟩
  cbv
  refine ⟨(by (repeat' apply And.intro) <;> first | trivial | rfl | (intro i hi; first | (cbv <;> (repeat' apply And.intro) <;> first | trivial | rfl) | (simp only [oo hO, sl]; cbv <;> (repeat' apply And.intro) <;> first | trivial | rfl))), (by (repeat' apply And.intro) <;> first | trivial | rfl), ?_⟩
  obtain ⟨v4, e_5, h⟩ := callb h
  refine ⟨[], _, _, _, _, false, c_spec_R8Memory hO hP e_5, ?_⟩
  cbv
  refine ⟨(by (repeat' apply And.intro) <;> first | trivial | rfl | (intro i hi; first | (cbv <;> (repeat' apply And.intro) <;> first | trivial | rfl) | (simp only [oo hO, sl]; cbv <;> (repeat' apply And.intro) <;> first | trivial | rfl))), (by (repeat' apply And.intro) <;> first | trivial | rfl), ?_⟩
  obtain ⟨v5, e_6, h⟩ := callb h
  refine ⟨[], _, _, _, _, false, c_spec_R8Memory hO hP e_6, ?_⟩
  cbv
  refine ⟨(by (repeat' apply And.intro) <;> first | trivial | rfl | (intro i hi; first | (cbv <;> (repeat' apply And.intro) <;> first | trivial | rfl) | (simp only [oo hO, sl]; cbv <;> (repeat' apply And.intro) <;> first | trivial | rfl))), (by (repeat' apply And.intro) <;> first | trivial | rfl), ?_⟩
  obtain ⟨v6, e_7, h⟩ := callb h
  refine ⟨[], _, _, _, _, false, c_spec_R8Samples hO hP e_7, ?_⟩
  cbv
  refine ⟨(by (repeat' apply And.intro) <;> first | trivial | rfl | (intro i hi; first | (cbv <;> (repeat' apply And.intro) <;> first | trivial | rfl) | (simp only [oo hO, sl]; cbv <;> (repeat' apply And.intro) <;> first | trivial | rfl))), (by (repeat' apply And.intro) <;> first | trivial | rfl), ?_⟩
  obtain ⟨v7, e_8, h⟩ := callb h
  refine ⟨[], _, _, _, _, false, c_laws_r8At hO hP e_8, ?_⟩
  cbv
  refine ⟨(by (repeat' apply And.intro) <;> first | trivial | rfl | (intro i hi; first | (cbv <;> (repeat' apply And.intro) <;> first | trivial | rfl) | (simp only [oo hO, sl]; cbv <;> (repeat' apply And.intro) <;> first | trivial | rfl))), (by (repeat' apply And.intro) <;> first | trivial | rfl), ?_⟩
  obtain ⟨⟨v8, v9, v10⟩, e_9, h⟩ := callb h
  refine ⟨[], _, _, _, _, true, c_impl_RunFilters hO hP e_9, ?_⟩
  cbv
  refine ⟨(by first | trivial | (simp only [oo hO, sl]; omega) | (simp only [oo hO, sl]; done)), (by first | trivial | (simp only [oo hO, sl]; omega) | (simp only [oo hO, sl]; done)), (by first | trivial | (simp only [oo hO, sl]; omega) | (simp only [oo hO, sl]; done)), ?_⟩
  refine ⟨(by ((repeat' apply And.intro) <;> first | trivial | rfl | assumption | (simp only [oo hO, ff, sl]; done) | (simp only [oo hO, ff, sl]; omega) | (intro i hi; first | (cbv <;> (repeat' apply And.intro) <;> first | trivial | rfl) | (simp only [oo hO, ff, sl] at hi ⊢; (try simp only [gg, sl] at hi ⊢); (repeat' split) <;> first | (exfalso; omega) | (exfalso; exact absurd (Nat.lt_of_lt_of_le hi (Nat.min_le_left _ _)) (by assumption)) | (cbv <;> (repeat' apply And.intro) <;> first | trivial | rfl) | (rename_i q; subst q; cbv <;> (repeat' apply And.intro) <;> first | trivial | rfl) | (rename_i q _; subst q; cbv <;> (repeat' apply And.intro) <;> first | trivial | rfl)) | (simp only [litElems, oo hO, ff, sl] at hi ⊢; rcases i with _ | _ | _ | _ | _ | _ | _ | _ | _ | i <;> first | (exfalso; omega) | (cbv <;> (repeat' apply And.intro) <;> first | trivial | rfl))))), (by (repeat' apply And.intro) <;> first | trivial | rfl), ?_⟩
  obtain ⟨⟨v11, v12, v13⟩, e_10, h⟩ := callb h
  refine ⟨[], _, _, _, _, false, c_impl_RunFilter hO hP e_10, ?_⟩
  cbv
  refine ⟨(by first | trivial | (simp only [oo hO, sl]; omega) | (simp only [oo hO, sl]; done)), ?_⟩
  refine ⟨(by (repeat' apply And.intro) <;> first | trivial | rfl | (intro i hi; first | (cbv <;> (repeat' apply And.intro) <;> first | trivial | rfl) | (simp only [oo hO, sl]; cbv <;> (repeat' apply And.intro) <;> first | trivial | rfl))), (by (repeat' apply And.intro) <;> first | trivial | rfl), ?_⟩
  obtain ⟨⟨v14, v15, v16⟩, e_11, h⟩ := callb h
  refine ⟨[], _, _, _, _, false, c_impl_RunFilter hO hP e_11, ?_⟩
  cbv
  refine ⟨(by first | trivial | (simp only [oo hO, sl]; omega) | (simp only [oo hO, sl]; done)), ?_⟩
  refine ⟨(by (repeat' apply And.intro) <;> first | trivial | rfl | (intro i hi; first | (cbv <;> (repeat' apply And.intro) <;> first | trivial | rfl) | (simp only [oo hO, sl]; cbv <;> (repeat' apply And.intro) <;> first | trivial | rfl))), (by (repeat' apply And.intro) <;> first | trivial | rfl), ?_⟩
  refine ⟨fun b_12 => ?_, fun b_12 => ?_⟩
  · cbv
    replace h := condt h (by first | exact b_12 | (simp only [oo hO, sl] at b_12 ⊢; exact b_12))
    refine ⟨?_, ?_⟩
    rotate_left
    · first | (intro q; cases q; done) | trivial
    try intro _
    cbv
    refine ⟨?_, ?_⟩
    rotate_left
    · first | (intro q; cases q; done) | trivial
    try intro _
    cbv
    refine ⟨?_, ?_⟩
    rotate_left
    · first | (intro q; cases q; done) | trivial
    try intro _
    cbv
    refine ⟨?_, ?_⟩
    rotate_left
    · first | (intro q; cases q; done) | trivial
    try intro _
    cbv
    refine ⟨?_, ?_⟩
    rotate_left
    · first | (intro q; cases q; done) | trivial
    try intro _
    cbv
    refine ⟨?_, ?_⟩
    rotate_left
    · first | (intro q; cases q; done) | trivial
    try intro _
    cbv
    refine ⟨?_, ?_⟩
    rotate_left
    · first | (intro q; cases q; done) | trivial
    try intro _
    cbv
    refine ⟨?_, ?_⟩
    rotate_left
    · first | (intro q; cases q; done) | trivial
    try intro _
    cbv
    refine ⟨?_, ?_⟩
    rotate_left
    · first | (intro q; cases q; done) | trivial
    try intro _
    cbv
    refine ⟨?_, ?_⟩
    rotate_left
    · first | (intro q; cases q; done) | trivial
    try intro _
    cbv
    refine ⟨?_, ?_⟩
    rotate_left
    · first | (intro q; cases q; done) | trivial
    try intro _
    cbv
    refine ⟨?_, ?_⟩
    rotate_left
    · first | (intro q; cases q; done) | trivial
    try intro _
    cbv
    replace h := (endb h).trans hr
    cases h
    ((repeat' apply And.intro) <;> first | trivial | rfl | assumption | (simp only [oo hO, ff, sl]; done) | (simp only [oo hO, ff, sl]; omega) | (intro i hi; first | (cbv <;> (repeat' apply And.intro) <;> first | trivial | rfl) | (simp only [oo hO, ff, sl] at hi ⊢; (try simp only [gg, sl] at hi ⊢); (repeat' split) <;> first | (exfalso; omega) | (exfalso; exact absurd (Nat.lt_of_lt_of_le hi (Nat.min_le_left _ _)) (by assumption)) | (cbv <;> (repeat' apply And.intro) <;> first | trivial | rfl) | (rename_i q; subst q; cbv <;> (repeat' apply And.intro) <;> first | trivial | rfl) | (rename_i q _; subst q; cbv <;> (repeat' apply And.intro) <;> first | trivial | rfl)) | (simp only [litElems, oo hO, ff, sl] at hi ⊢; rcases i with _ | _ | _ | _ | _ | _ | _ | _ | _ | i <;> first | (exfalso; omega) | (cbv <;> (repeat' apply And.intro) <;> first | trivial | rfl))))
  cbv
  replace h := condf h (by first | exact b_12 | (simp only [oo hO, sl] at b_12 ⊢; exact b_12))
  refine ⟨?_, ?_⟩
  · first | (intro q; cases q; done) | trivial
  try intro _
  cbv
  refine ⟨fun b_13 => ?_, fun b_13 => ?_⟩
  · cbv
    replace h := condt h (by first | exact b_13 | (simp only [oo hO, sl] at b_13 ⊢; exact b_13))
    refine ⟨?_, ?_⟩
    rotate_left
    · first | (intro q; cases q; done) | trivial
    try intro _
    cbv
    refine ⟨?_, ?_⟩
    rotate_left
    · first | (intro q; cases q; done) | trivial
    try intro _
    cbv
    refine ⟨?_, ?_⟩
    rotate_left
    · first | (intro q; cases q; done) | trivial
    try intro _
    cbv
    refine ⟨?_, ?_⟩
    rotate_left
    · first | (intro q; cases q; done) | trivial
    try intro _
    cbv
    refine ⟨?_, ?_⟩
    rotate_left
    · first | (intro q; cases q; done) | trivial
    try intro _
    cbv
    refine ⟨?_, ?_⟩
    rotate_left
    · first | (intro q; cases q; done) | trivial
    try intro _
    cbv
    refine ⟨?_, ?_⟩
    rotate_left
    · first | (intro q; cases q; done) | trivial
    try intro _
    cbv
    refine ⟨?_, ?_⟩
    rotate_left
    · first | (intro q; cases q; done) | trivial
    try intro _
    cbv
    refine ⟨?_, ?_⟩
    rotate_left
    · first | (intro q; cases q; done) | trivial
    try intro _
    cbv
    refine ⟨?_, ?_⟩
    rotate_left
    · first | (intro q; cases q; done) | trivial
    try intro _
    cbv
    replace h := (endb h).trans hr
    cases h
    ((repeat' apply And.intro) <;> first | trivial | rfl | assumption | (simp only [oo hO, ff, sl]; done) | (simp only [oo hO, ff, sl]; omega) | (intro i hi; first | (cbv <;> (repeat' apply And.intro) <;> first | trivial | rfl) | (simp only [oo hO, ff, sl] at hi ⊢; (try simp only [gg, sl] at hi ⊢); (repeat' split) <;> first | (exfalso; omega) | (exfalso; exact absurd (Nat.lt_of_lt_of_le hi (Nat.min_le_left _ _)) (by assumption)) | (cbv <;> (repeat' apply And.intro) <;> first | trivial | rfl) | (rename_i q; subst q; cbv <;> (repeat' apply And.intro) <;> first | trivial | rfl) | (rename_i q _; subst q; cbv <;> (repeat' apply And.intro) <;> first | trivial | rfl)) | (simp only [litElems, oo hO, ff, sl] at hi ⊢; rcases i with _ | _ | _ | _ | _ | _ | _ | _ | _ | i <;> first | (exfalso; omega) | (cbv <;> (repeat' apply And.intro) <;> first | trivial | rfl))))
  cbv
  replace h := condf h (by first | exact b_13 | (simp only [oo hO, sl] at b_13 ⊢; exact b_13))
  refine ⟨?_, ?_⟩
  · first | (intro q; cases q; done) | trivial
  try intro _
  cbv
  refine ⟨fun b_14 => ?_, fun b_14 => ?_⟩
  · cbv
    replace h := condt h (by first | exact b_14 | (simp only [oo hO, sl] at b_14 ⊢; exact b_14))
    refine ⟨?_, ?_⟩
    rotate_left
    · first | (intro q; cases q; done) | trivial
    try intro _
    cbv
    refine ⟨?_, ?_⟩
    rotate_left
    · first | (intro q; cases q; done) | trivial
    try intro _
    cbv
    refine ⟨?_, ?_⟩
    rotate_left
    · first | (intro q; cases q; done) | trivial
    try intro _
    cbv
    refine ⟨?_, ?_⟩
    rotate_left
    · first | (intro q; cases q; done) | trivial
    try intro _
    cbv
    refine ⟨?_, ?_⟩
    rotate_left
    · first | (intro q; cases q; done) | trivial
    try intro _
    cbv
    refine ⟨?_, ?_⟩
    rotate_left
    · first | (intro q; cases q; done) | trivial
    try intro _
    cbv
    refine ⟨?_, ?_⟩
    rotate_left
    · first | (intro q; cases q; done) | trivial
    try intro _
    cbv
    refine ⟨?_, ?_⟩
    rotate_left
    · first | (intro q; cases q; done) | trivial
    try intro _
    cbv
    replace h := (endb h).trans hr
    cases h
    ((repeat' apply And.intro) <;> first | trivial | rfl | assumption | (simp only [oo hO, ff, sl]; done) | (simp only [oo hO, ff, sl]; omega) | (intro i hi; first | (cbv <;> (repeat' apply And.intro) <;> first | trivial | rfl) | (simp only [oo hO, ff, sl] at hi ⊢; (try simp only [gg, sl] at hi ⊢); (repeat' split) <;> first | (exfalso; omega) | (exfalso; exact absurd (Nat.lt_of_lt_of_le hi (Nat.min_le_left _ _)) (by assumption)) | (cbv <;> (repeat' apply And.intro) <;> first | trivial | rfl) | (rename_i q; subst q; cbv <;> (repeat' apply And.intro) <;> first | trivial | rfl) | (rename_i q _; subst q; cbv <;> (repeat' apply And.intro) <;> first | trivial | rfl)) | (simp only [litElems, oo hO, ff, sl] at hi ⊢; rcases i with _ | _ | _ | _ | _ | _ | _ | _ | _ | i <;> first | (exfalso; omega) | (cbv <;> (repeat' apply And.intro) <;> first | trivial | rfl))))
  cbv
  replace h := condf h (by first | exact b_14 | (simp only [oo hO, sl] at b_14 ⊢; exact b_14))
  obtain ⟨v17, e_15, h⟩ := callb h
  refine ⟨[], _, _, _, _, false, c_laws_r8Same hO hP e_15, ?_⟩
  cbv
  refine ⟨(by first | trivial | (simp only [oo hO, sl]; omega) | (simp only [oo hO, sl]; done)), (by first | trivial | (simp only [oo hO, sl]; omega) | (simp only [oo hO, sl]; done)), ?_⟩
  refine ⟨(by (repeat' apply And.intro) <;> first | trivial | rfl | (intro i hi; first | (cbv <;> (repeat' apply And.intro) <;> first | trivial | rfl) | (simp only [oo hO, sl]; cbv <;> (repeat' apply And.intro) <;> first | trivial | rfl))), (by (repeat' apply And.intro) <;> first | trivial | rfl), ?_⟩
  refine ⟨?_, ?_⟩
  · first | (intro q; cases q; done) | trivial
  try intro _
  cbv
  refine ⟨fun b_16 => ?_, fun b_16 => ?_⟩
  · cbv
    replace h := condt h (by first | exact b_16 | (simp only [oo hO, sl] at b_16 ⊢; exact b_16))
    refine ⟨?_, ?_⟩
    rotate_left
    · first | (intro q; cases q; done) | trivial
    try intro _
    cbv
    refine ⟨?_, ?_⟩
    rotate_left
    · first | (intro q; cases q; done) | trivial
    try intro _
    cbv
    refine ⟨?_, ?_⟩
    rotate_left
    · first | (intro q; cases q; done) | trivial
    try intro _
    cbv
    refine ⟨?_, ?_⟩
    rotate_left
    · first | (intro q; cases q; done) | trivial
    try intro _
    cbv
    refine ⟨?_, ?_⟩
    rotate_left
    · first | (intro q; cases q; done) | trivial
    try intro _
    cbv
    refine ⟨?_, ?_⟩
    rotate_left
    · first | (intro q; cases q; done) | trivial
    try intro _
    cbv
    replace h := (endb h).trans hr
    cases h
    ((repeat' apply And.intro) <;> first | trivial | rfl | assumption | (simp only [oo hO, ff, sl]; done) | (simp only [oo hO, ff, sl]; omega) | (intro i hi; first | (cbv <;> (repeat' apply And.intro) <;> first | trivial | rfl) | (simp only [oo hO, ff, sl] at hi ⊢; (try simp only [gg, sl] at hi ⊢); (repeat' split) <;> first | (exfalso; omega) | (exfalso; exact absurd (Nat.lt_of_lt_of_le hi (Nat.min_le_left _ _)) (by assumption)) | (cbv <;> (repeat' apply And.intro) <;> first | trivial | rfl) | (rename_i q; subst q; cbv <;> (repeat' apply And.intro) <;> first | trivial | rfl) | (rename_i q _; subst q; cbv <;> (repeat' apply And.intro) <;> first | trivial | rfl)) | (simp only [litElems, oo hO, ff, sl] at hi ⊢; rcases i with _ | _ | _ | _ | _ | _ | _ | _ | _ | i <;> first | (exfalso; omega) | (cbv <;> (repeat' apply And.intro) <;> first | trivial | rfl))))
  cbv
  replace h := condf h (by first | exact b_16 | (simp only [oo hO, sl] at b_16 ⊢; exact b_16))
  refine ⟨?_, ?_⟩
  · first | (intro q; cases q; done) | trivial
  try intro _
  cbv
  refine ⟨fun b_17 => ?_, fun b_17 => ?_⟩
  · cbv
    replace h := condt h (by first | exact b_17 | (simp only [oo hO, sl] at b_17 ⊢; exact b_17))
    refine ⟨?_, ?_⟩
    rotate_left
    · first | (intro q; cases q; done) | trivial
    try intro _
    cbv
    refine ⟨?_, ?_⟩
    rotate_left
    · first | (intro q; cases q; done) | trivial
    try intro _
    cbv
    refine ⟨?_, ?_⟩
    rotate_left
    · first | (intro q; cases q; done) | trivial
    try intro _
    cbv
    refine ⟨?_, ?_⟩
    rotate_left
    · first | (intro q; cases q; done) | trivial
    try intro _
    cbv
    replace h := (endb h).trans hr
    cases h
    ((repeat' apply And.intro) <;> first | trivial | rfl | assumption | (simp only [oo hO, ff, sl]; done) | (simp only [oo hO, ff, sl]; omega) | (intro i hi; first | (cbv <;> (repeat' apply And.intro) <;> first | trivial | rfl) | (simp only [oo hO, ff, sl] at hi ⊢; (try simp only [gg, sl] at hi ⊢); (repeat' split) <;> first | (exfalso; omega) | (exfalso; exact absurd (Nat.lt_of_lt_of_le hi (Nat.min_le_left _ _)) (by assumption)) | (cbv <;> (repeat' apply And.intro) <;> first | trivial | rfl) | (rename_i q; subst q; cbv <;> (repeat' apply And.intro) <;> first | trivial | rfl) | (rename_i q _; subst q; cbv <;> (repeat' apply And.intro) <;> first | trivial | rfl)) | (simp only [litElems, oo hO, ff, sl] at hi ⊢; rcases i with _ | _ | _ | _ | _ | _ | _ | _ | _ | i <;> first | (exfalso; omega) | (cbv <;> (repeat' apply And.intro) <;> first | trivial | rfl))))
  cbv
  replace h := condf h (by first | exact b_17 | (simp only [oo hO, sl] at b_17 ⊢; exact b_17))
  obtain ⟨g_18, h⟩ := gdb h
  refine ⟨(by first | exact g_18 | (simp only [oo hO] at g_18 ⊢; simp only [sl] at g_18 ⊢; omega)), ?_⟩
  obtain ⟨g_19, h⟩ := gdb h
  refine ⟨(by first | exact g_19 | (simp only [oo hO] at g_19 ⊢; simp only [sl] at g_19 ⊢; omega)), ?_⟩
  obtain ⟨v18, e_20, h⟩ := callb h
  refine ⟨[], _, _, _, _, false, c_impl_SameMemory hO hP e_20, ?_⟩
  cbv
  refine ⟨(by (repeat' apply And.intro) <;> first | trivial | rfl), (by (repeat' apply And.intro) <;> first | trivial | rfl), ?_⟩
  refine ⟨?_, ?_⟩
  · first | (intro q; cases q; done) | trivial
  try intro _
  cbv
  refine ⟨fun b_21 => ?_, fun b_21 => ?_⟩
  · cbv
    replace h := condt h (by first | exact b_21 | (simp only [oo hO, sl] at b_21 ⊢; exact b_21))
    refine ⟨?_, ?_⟩
    rotate_left
    · first | (intro q; cases q; done) | trivial
    try intro _
    cbv
    refine ⟨?_, ?_⟩
    rotate_left
    · first | (intro q; cases q; done) | trivial
    try intro _
    cbv
    replace h := (endb h).trans hr
    cases h
    ((repeat' apply And.intro) <;> first | trivial | rfl | assumption | (simp only [oo hO, ff, sl]; done) | (simp only [oo hO, ff, sl]; omega) | (intro i hi; first | (cbv <;> (repeat' apply And.intro) <;> first | trivial | rfl) | (simp only [oo hO, ff, sl] at hi ⊢; (try simp only [gg, sl] at hi ⊢); (repeat' split) <;> first | (exfalso; omega) | (exfalso; exact absurd (Nat.lt_of_lt_of_le hi (Nat.min_le_left _ _)) (by assumption)) | (cbv <;> (repeat' apply And.intro) <;> first | trivial | rfl) | (rename_i q; subst q; cbv <;> (repeat' apply And.intro) <;> first | trivial | rfl) | (rename_i q _; subst q; cbv <;> (repeat' apply And.intro) <;> first | trivial | rfl)) | (simp only [litElems, oo hO, ff, sl] at hi ⊢; rcases i with _ | _ | _ | _ | _ | _ | _ | _ | _ | i <;> first | (exfalso; omega) | (cbv <;> (repeat' apply And.intro) <;> first | trivial | rfl))))
  cbv
  replace h := condf h (by first | exact b_21 | (simp only [oo hO, sl] at b_21 ⊢; exact b_21))
  obtain ⟨g_22, h⟩ := gdb h
  refine ⟨(by first | exact g_22 | (simp only [oo hO] at g_22 ⊢; simp only [sl] at g_22 ⊢; omega)), ?_⟩
  obtain ⟨g_23, h⟩ := gdb h
  refine ⟨(by first | exact g_23 | (simp only [oo hO] at g_23 ⊢; simp only [sl] at g_23 ⊢; omega)), ?_⟩
  obtain ⟨v19, e_24, h⟩ := callb h
  refine ⟨[], _, _, _, _, false, c_impl_SameMemory hO hP e_24, ?_⟩
  cbv
  refine ⟨(by (repeat' apply And.intro) <;> first | trivial | rfl), (by (repeat' apply And.intro) <;> first | trivial | rfl), ?_⟩
  refine ⟨?_, ?_⟩
  · first | (intro q; cases q; done) | trivial
  try intro _
  cbv
  refine ⟨fun b_25 => ?_, fun b_25 => ?_⟩
  · cbv
    replace h := condt h (by first | exact b_25 | (simp only [oo hO, sl] at b_25 ⊢; exact b_25))
    replace h := (endb h).trans hr
    cases h
    ((repeat' apply And.intro) <;> first | trivial | rfl | assumption | (simp only [oo hO, ff, sl]; done) | (simp only [oo hO, ff, sl]; omega) | (intro i hi; first | (cbv <;> (repeat' apply And.intro) <;> first | trivial | rfl) | (simp only [oo hO, ff, sl] at hi ⊢; (try simp only [gg, sl] at hi ⊢); (repeat' split) <;> first | (exfalso; omega) | (exfalso; exact absurd (Nat.lt_of_lt_of_le hi (Nat.min_le_left _ _)) (by assumption)) | (cbv <;> (repeat' apply And.intro) <;> first | trivial | rfl) | (rename_i q; subst q; cbv <;> (repeat' apply And.intro) <;> first | trivial | rfl) | (rename_i q _; subst q; cbv <;> (repeat' apply And.intro) <;> first | trivial | rfl)) | (simp only [litElems, oo hO, ff, sl] at hi ⊢; rcases i with _ | _ | _ | _ | _ | _ | _ | _ | _ | i <;> first | (exfalso; omega) | (cbv <;> (repeat' apply And.intro) <;> first | trivial | rfl))))
  cbv
  replace h := condf h (by first | exact b_25 | (simp only [oo hO, sl] at b_25 ⊢; exact b_25))
  obtain ⟨⟨v20, v21⟩, e_26, h⟩ := callb h
  refine ⟨[], _, _, _, _, false, c_impl_ImpulseOf hO hP e_26, ?_⟩
  cbv
  refine ⟨(by (repeat' apply And.intro) <;> first | trivial | rfl), (by (repeat' apply And.intro) <;> first | trivial | rfl), ?_⟩
  obtain ⟨⟨v22, v23, v24⟩, e_27, h⟩ := callb h
  refine ⟨[], _, _, _, _, false, c_impl_RunFilter hO hP e_27, ?_⟩
  cbv
  refine ⟨(by first | trivial | (simp only [oo hO, sl]; omega) | (simp only [oo hO, sl]; done)), ?_⟩
  refine ⟨(by ((repeat' apply And.intro) <;> first | trivial | rfl | assumption | (simp only [oo hO, ff, sl]; done) | (simp only [oo hO, ff, sl]; omega) | (intro i hi; first | (cbv <;> (repeat' apply And.intro) <;> first | trivial | rfl) | (simp only [oo hO, ff, sl] at hi ⊢; (try simp only [gg, sl] at hi ⊢); (repeat' split) <;> first | (exfalso; omega) | (exfalso; exact absurd (Nat.lt_of_lt_of_le hi (Nat.min_le_left _ _)) (by assumption)) | (cbv <;> (repeat' apply And.intro) <;> first | trivial | rfl) | (rename_i q; subst q; cbv <;> (repeat' apply And.intro) <;> first | trivial | rfl) | (rename_i q _; subst q; cbv <;> (repeat' apply And.intro) <;> first | trivial | rfl)) | (simp only [litElems, oo hO, ff, sl] at hi ⊢; rcases i with _ | _ | _ | _ | _ | _ | _ | _ | _ | i <;> first | (exfalso; omega) | (cbv <;> (repeat' apply And.intro) <;> first | trivial | rfl))))), (by (repeat' apply And.intro) <;> first | trivial | rfl), ?_⟩
  obtain ⟨⟨v25, v26⟩, e_28, h⟩ := callb h
  refine ⟨[], _, _, _, _, true, c_impl_FilterBothWays hO hP e_28, ?_⟩
  cbv
  refine ⟨(by first | trivial | (simp only [oo hO, sl]; omega) | (simp only [oo hO, sl]; done)), ?_⟩
  refine ⟨(by (repeat' apply And.intro) <;> first | trivial | rfl | (intro i hi; first | (cbv <;> (repeat' apply And.intro) <;> first | trivial | rfl) | (simp only [oo hO, sl]; cbv <;> (repeat' apply And.intro) <;> first | trivial | rfl))), (by (repeat' apply And.intro) <;> first | trivial | rfl), ?_⟩
  obtain ⟨⟨v27, v28, v29⟩, e_29, h⟩ := callb h
  refine ⟨[], _, _, _, _, false, c_impl_RunFilter hO hP e_29, ?_⟩
  cbv
  refine ⟨(by first | trivial | (simp only [oo hO, sl]; omega) | (simp only [oo hO, sl]; done)), ?_⟩
  refine ⟨(by (repeat' apply And.intro) <;> first | trivial | rfl | (intro i hi; first | (cbv <;> (repeat' apply And.intro) <;> first | trivial | rfl) | (simp only [oo hO, sl]; cbv <;> (repeat' apply And.intro) <;> first | trivial | rfl))), (by (repeat' apply And.intro) <;> first | trivial | rfl), ?_⟩
  obtain ⟨v30, e_30, h⟩ := callb h
  refine ⟨[], _, _, _, _, false, c_laws_r8Turned hO hP e_30, ?_⟩
  cbv
  refine ⟨(by first | trivial | (simp only [oo hO, sl]; omega) | (simp only [oo hO, sl]; done)), ?_⟩
  refine ⟨(by (repeat' apply And.intro) <;> first | trivial | rfl | (intro i hi; first | (cbv <;> (repeat' apply And.intro) <;> first | trivial | rfl) | (simp only [oo hO, sl]; cbv <;> (repeat' apply And.intro) <;> first | trivial | rfl))), (by (repeat' apply And.intro) <;> first | trivial | rfl), ?_⟩
  obtain ⟨⟨v31, v32, v33⟩, e_31, h⟩ := callb h
  refine ⟨[], _, _, _, _, false, c_impl_RunFilter hO hP e_31, ?_⟩
  cbv
  refine ⟨(by first | trivial | (simp only [oo hO, sl]; omega) | (simp only [oo hO, sl]; done)), ?_⟩
  refine ⟨(by (repeat' apply And.intro) <;> first | trivial | rfl | (intro i hi; first | (cbv <;> (repeat' apply And.intro) <;> first | trivial | rfl) | (simp only [oo hO, sl]; cbv <;> (repeat' apply And.intro) <;> first | trivial | rfl))), (by (repeat' apply And.intro) <;> first | trivial | rfl), ?_⟩
  refine ⟨fun b_32 => ?_, fun b_32 => ?_⟩
  rotate_left
  · cbv
    replace h := condf h (by first | exact b_32 | (simp only [oo hO, sl] at b_32 ⊢; exact b_32))
    refine ⟨?_, ?_⟩
    · first | (intro q; cases q; done) | trivial
    try intro _
    cbv
    refine ⟨?_, ?_⟩
    · first | (intro q; cases q; done) | trivial
    try intro _
    cbv
    refine ⟨?_, ?_⟩
    · first | (intro q; cases q; done) | trivial
    try intro _
    cbv
    refine ⟨?_, ?_⟩
    · first | (intro q; cases q; done) | trivial
    try intro _
    cbv
    refine ⟨?_, ?_⟩
    · first | (intro q; cases q; done) | trivial
    try intro _
    cbv
    refine ⟨?_, ?_⟩
    · first | (intro q; cases q; done) | trivial
    try intro _
    cbv
    refine ⟨?_, ?_⟩
    · first | (intro q; cases q; done) | trivial
    try intro _
    cbv
    refine ⟨?_, ?_⟩
    · first | (intro q; cases q; done) | trivial
    try intro _
    cbv
    refine ⟨?_, ?_⟩
    · first | (intro q; cases q; done) | trivial
    try intro _
    cbv
    refine ⟨?_, ?_⟩
    · first | (intro q; cases q; done) | trivial
    try intro _
    cbv
    refine ⟨?_, ?_⟩
    · first | (intro q; cases q; done) | trivial
    try intro _
    cbv
    refine ⟨?_, ?_⟩
    · first | (intro q; cases q; done) | trivial
    try intro _
    cbv
    refine ⟨?_, ?_⟩
    · first | (intro q; cases q; done) | trivial
    try intro _
    cbv
    refine ⟨?_, ?_⟩
    · first | (intro q; cases q; done) | trivial
    try intro _
    cbv
    refine ⟨?_, ?_⟩
    · first | (intro q; cases q; done) | trivial
    try intro _
    cbv
    refine ⟨?_, ?_⟩
    · first | (intro q; cases q; done) | trivial
    try intro _
    cbv
    replace h := (endb h).trans hr
    cases h
    ((repeat' apply And.intro) <;> first | trivial | rfl | assumption | (simp only [oo hO, ff, sl]; done) | (simp only [oo hO, ff, sl]; omega) | (intro i hi; first | (cbv <;> (repeat' apply And.intro) <;> first | trivial | rfl) | (simp only [oo hO, ff, sl] at hi ⊢; (try simp only [gg, sl] at hi ⊢); (repeat' split) <;> first | (exfalso; omega) | (exfalso; exact absurd (Nat.lt_of_lt_of_le hi (Nat.min_le_left _ _)) (by assumption)) | (cbv <;> (repeat' apply And.intro) <;> first | trivial | rfl) | (rename_i q; subst q; cbv <;> (repeat' apply And.intro) <;> first | trivial | rfl) | (rename_i q _; subst q; cbv <;> (repeat' apply And.intro) <;> first | trivial | rfl)) | (simp only [litElems, oo hO, ff, sl] at hi ⊢; rcases i with _ | _ | _ | _ | _ | _ | _ | _ | _ | i <;> first | (exfalso; omega) | (cbv <;> (repeat' apply And.intro) <;> first | trivial | rfl))))
  cbv
  replace h := condt h (by first | exact b_32 | (simp only [oo hO, sl] at b_32 ⊢; exact b_32))
  refine ⟨?_, ?_⟩
  rotate_left
  · first | (intro q; cases q; done) | trivial
  try intro _
  cbv
  refine ⟨fun b_33 => ?_, fun b_33 => ?_⟩
  rotate_left
  · cbv
    replace h := condf h (by first | exact b_33 | (simp only [oo hO, sl] at b_33 ⊢; exact b_33))
    refine ⟨?_, ?_⟩
    · first | (intro q; cases q; done) | trivial
    try intro _
    cbv
    refine ⟨?_, ?_⟩
    · first | (intro q; cases q; done) | trivial
    try intro _
    cbv
    refine ⟨?_, ?_⟩
    · first | (intro q; cases q; done) | trivial
    try intro _
    cbv
    refine ⟨?_, ?_⟩
    · first | (intro q; cases q; done) | trivial
    try intro _
    cbv
    refine ⟨?_, ?_⟩
    · first | (intro q; cases q; done) | trivial
    try intro _
    cbv
    refine ⟨?_, ?_⟩
    · first | (intro q; cases q; done) | trivial
    try intro _
    cbv
    refine ⟨?_, ?_⟩
    · first | (intro q; cases q; done) | trivial
    try intro _
    cbv
    refine ⟨?_, ?_⟩
    · first | (intro q; cases q; done) | trivial
    try intro _
    cbv
    refine ⟨?_, ?_⟩
    · first | (intro q; cases q; done) | trivial
    try intro _
    cbv
    refine ⟨?_, ?_⟩
    · first | (intro q; cases q; done) | trivial
    try intro _
    cbv
    refine ⟨?_, ?_⟩
    · first | (intro q; cases q; done) | trivial
    try intro _
    cbv
    refine ⟨?_, ?_⟩
    · first | (intro q; cases q; done) | trivial
    try intro _
    cbv
    refine ⟨?_, ?_⟩
    · first | (intro q; cases q; done) | trivial
    try intro _
    cbv
    refine ⟨?_, ?_⟩
    · first | (intro q; cases q; done) | trivial
    try intro _
    cbv
    replace h := (endb h).trans hr
    cases h
    ((repeat' apply And.intro) <;> first | trivial | rfl | assumption | (simp only [oo hO, ff, sl]; done) | (simp only [oo hO, ff, sl]; omega) | (intro i hi; first | (cbv <;> (repeat' apply And.intro) <;> first | trivial | rfl) | (simp only [oo hO, ff, sl] at hi ⊢; (try simp only [gg, sl] at hi ⊢); (repeat' split) <;> first | (exfalso; omega) | (exfalso; exact absurd (Nat.lt_of_lt_of_le hi (Nat.min_le_left _ _)) (by assumption)) | (cbv <;> (repeat' apply And.intro) <;> first | trivial | rfl) | (rename_i q; subst q; cbv <;> (repeat' apply And.intro) <;> first | trivial | rfl) | (rename_i q _; subst q; cbv <;> (repeat' apply And.intro) <;> first | trivial | rfl)) | (simp only [litElems, oo hO, ff, sl] at hi ⊢; rcases i with _ | _ | _ | _ | _ | _ | _ | _ | _ | i <;> first | (exfalso; omega) | (cbv <;> (repeat' apply And.intro) <;> first | trivial | rfl))))
  cbv
  replace h := condt h (by first | exact b_33 | (simp only [oo hO, sl] at b_33 ⊢; exact b_33))
  refine ⟨?_, ?_⟩
  rotate_left
  · first | (intro q; cases q; done) | trivial
  try intro _
  cbv
  refine ⟨fun b_34 => ?_, fun b_34 => ?_⟩
  rotate_left
  · cbv
    replace h := condf h (by first | exact b_34 | (simp only [oo hO, sl] at b_34 ⊢; exact b_34))
    refine ⟨?_, ?_⟩
    · first | (intro q; cases q; done) | trivial
    try intro _
    cbv
    refine ⟨?_, ?_⟩
    · first | (intro q; cases q; done) | trivial
    try intro _
    cbv
    refine ⟨?_, ?_⟩
    · first | (intro q; cases q; done) | trivial
    try intro _
    cbv
    refine ⟨?_, ?_⟩
    · first | (intro q; cases q; done) | trivial
    try intro _
    cbv
    refine ⟨?_, ?_⟩
    · first | (intro q; cases q; done) | trivial
    try intro _
    cbv
    refine ⟨?_, ?_⟩
    · first | (intro q; cases q; done) | trivial
    try intro _
    cbv
    refine ⟨?_, ?_⟩
    · first | (intro q; cases q; done) | trivial
    try intro _
    cbv
    refine ⟨?_, ?_⟩
    · first | (intro q; cases q; done) | trivial
    try intro _
    cbv
    refine ⟨?_, ?_⟩
    · first | (intro q; cases q; done) | trivial
    try intro _
    cbv
    refine ⟨?_, ?_⟩
    · first | (intro q; cases q; done) | trivial
    try intro _
    cbv
    refine ⟨?_, ?_⟩
    · first | (intro q; cases q; done) | trivial
    try intro _
    cbv
    refine ⟨?_, ?_⟩
    · first | (intro q; cases q; done) | trivial
    try intro _
    cbv
    replace h := (endb h).trans hr
    cases h
    ((repeat' apply And.intro) <;> first | trivial | rfl | assumption | (simp only [oo hO, ff, sl]; done) | (simp only [oo hO, ff, sl]; omega) | (intro i hi; first | (cbv <;> (repeat' apply And.intro) <;> first | trivial | rfl) | (simp only [oo hO, ff, sl] at hi ⊢; (try simp only [gg, sl] at hi ⊢); (repeat' split) <;> first | (exfalso; omega) | (exfalso; exact absurd (Nat.lt_of_lt_of_le hi (Nat.min_le_left _ _)) (by assumption)) | (cbv <;> (repeat' apply And.intro) <;> first | trivial | rfl) | (rename_i q; subst q; cbv <;> (repeat' apply And.intro) <;> first | trivial | rfl) | (rename_i q _; subst q; cbv <;> (repeat' apply And.intro) <;> first | trivial | rfl)) | (simp only [litElems, oo hO, ff, sl] at hi ⊢; rcases i with _ | _ | _ | _ | _ | _ | _ | _ | _ | i <;> first | (exfalso; omega) | (cbv <;> (repeat' apply And.intro) <;> first | trivial | rfl))))
  cbv
  replace h := condt h (by first | exact b_34 | (simp only [oo hO, sl] at b_34 ⊢; exact b_34))
  refine ⟨?_, ?_⟩
  rotate_left
  · first | (intro q; cases q; done) | trivial
  try intro _
  cbv
  refine ⟨fun b_35 => ?_, fun b_35 => ?_⟩
  rotate_left
  · cbv
    replace h := condf h (by first | exact b_35 | (simp only [oo hO, sl] at b_35 ⊢; exact b_35))
    refine ⟨?_, ?_⟩
    · first | (intro q; cases q; done) | trivial
    try intro _
    cbv
    refine ⟨?_, ?_⟩
    · first | (intro q; cases q; done) | trivial
    try intro _
    cbv
    refine ⟨?_, ?_⟩
    · first | (intro q; cases q; done) | trivial
    try intro _
    cbv
    refine ⟨?_, ?_⟩
    · first | (intro q; cases q; done) | trivial
    try intro _
    cbv
    refine ⟨?_, ?_⟩
    · first | (intro q; cases q; done) | trivial
    try intro _
    cbv
    refine ⟨?_, ?_⟩
    · first | (intro q; cases q; done) | trivial
    try intro _
    cbv
    refine ⟨?_, ?_⟩
    · first | (intro q; cases q; done) | trivial
    try intro _
    cbv
    refine ⟨?_, ?_⟩
    · first | (intro q; cases q; done) | trivial
    try intro _
    cbv
    refine ⟨?_, ?_⟩
    · first | (intro q; cases q; done) | trivial
    try intro _
    cbv
    refine ⟨?_, ?_⟩
    · first | (intro q; cases q; done) | trivial
    try intro _
    cbv
    replace h := (endb h).trans hr
    cases h
    ((repeat' apply And.intro) <;> first | trivial | rfl | assumption | (simp only [oo hO, ff, sl]; done) | (simp only [oo hO, ff, sl]; omega) | (intro i hi; first | (cbv <;> (repeat' apply And.intro) <;> first | trivial | rfl) | (simp only [oo hO, ff, sl] at hi ⊢; (try simp only [gg, sl] at hi ⊢); (repeat' split) <;> first | (exfalso; omega) | (exfalso; exact absurd (Nat.lt_of_lt_of_le hi (Nat.min_le_left _ _)) (by assumption)) | (cbv <;> (repeat' apply And.intro) <;> first | trivial | rfl) | (rename_i q; subst q; cbv <;> (repeat' apply And.intro) <;> first | trivial | rfl) | (rename_i q _; subst q; cbv <;> (repeat' apply And.intro) <;> first | trivial | rfl)) | (simp only [litElems, oo hO, ff, sl] at hi ⊢; rcases i with _ | _ | _ | _ | _ | _ | _ | _ | _ | i <;> first | (exfalso; omega) | (cbv <;> (repeat' apply And.intro) <;> first | trivial | rfl))))
  cbv
  replace h := condt h (by first | exact b_35 | (simp only [oo hO, sl] at b_35 ⊢; exact b_35))
  refine ⟨?_, ?_⟩
  rotate_left
  · first | (intro q; cases q; done) | trivial
  try intro _
  cbv
  refine ⟨fun b_36 => ?_, fun b_36 => ?_⟩
  rotate_left
  · cbv
    replace h := condf h (by first | exact b_36 | (simp only [oo hO, sl] at b_36 ⊢; exact b_36))
    refine ⟨?_, ?_⟩
    · first | (intro q; cases q; done) | trivial
    try intro _
    cbv
    refine ⟨?_, ?_⟩
    · first | (intro q; cases q; done) | trivial
    try intro _
    cbv
    refine ⟨?_, ?_⟩
    · first | (intro q; cases q; done) | trivial
    try intro _
    cbv
    refine ⟨?_, ?_⟩
    · first | (intro q; cases q; done) | trivial
    try intro _
    cbv
    refine ⟨?_, ?_⟩
    · first | (intro q; cases q; done) | trivial
    try intro _
    cbv
    refine ⟨?_, ?_⟩
    · first | (intro q; cases q; done) | trivial
    try intro _
    cbv
    refine ⟨?_, ?_⟩
    · first | (intro q; cases q; done) | trivial
    try intro _
    cbv
    refine ⟨?_, ?_⟩
    · first | (intro q; cases q; done) | trivial
    try intro _
    cbv
    replace h := (endb h).trans hr
    cases h
    ((repeat' apply And.intro) <;> first | trivial | rfl | assumption | (simp only [oo hO, ff, sl]; done) | (simp only [oo hO, ff, sl]; omega) | (intro i hi; first | (cbv <;> (repeat' apply And.intro) <;> first | trivial | rfl) | (simp only [oo hO, ff, sl] at hi ⊢; (try simp only [gg, sl] at hi ⊢); (repeat' split) <;> first | (exfalso; omega) | (exfalso; exact absurd (Nat.lt_of_lt_of_le hi (Nat.min_le_left _ _)) (by assumption)) | (cbv <;> (repeat' apply And.intro) <;> first | trivial | rfl) | (rename_i q; subst q; cbv <;> (repeat' apply And.intro) <;> first | trivial | rfl) | (rename_i q _; subst q; cbv <;> (repeat' apply And.intro) <;> first | trivial | rfl)) | (simp only [litElems, oo hO, ff, sl] at hi ⊢; rcases i with _ | _ | _ | _ | _ | _ | _ | _ | _ | i <;> first | (exfalso; omega) | (cbv <;> (repeat' apply And.intro) <;> first | trivial | rfl))))
  cbv
  replace h := condt h (by first | exact b_36 | (simp only [oo hO, sl] at b_36 ⊢; exact b_36))
  refine ⟨?_, ?_⟩
  rotate_left
  · first | (intro q; cases q; done) | trivial
  try intro _
  cbv
  refine ⟨?_, ?_⟩
  rotate_left
  · first | (intro q; cases q; done) | trivial
  try intro _
  cbv
  obtain ⟨v34, e_37, h⟩ := callb h
  refine ⟨[], _, _, _, _, false, c_laws_r8Same hO hP e_37, ?_⟩
  cbv
  refine ⟨(by first | trivial | (simp only [oo hO, sl]; omega) | (simp only [oo hO, sl]; done)), (by first | trivial | (simp only [oo hO, sl]; omega) | (simp only [oo hO, sl]; done)), ?_⟩
  refine ⟨(by (repeat' apply And.intro) <;> first | trivial | rfl | (intro i hi; first | (cbv <;> (repeat' apply And.intro) <;> first | trivial | rfl) | (simp only [oo hO, sl]; cbv <;> (repeat' apply And.intro) <;> first | trivial | rfl))), (by (repeat' apply And.intro) <;> first | trivial | rfl), ?_⟩
  refine ⟨?_, ?_⟩
  rotate_left
  · first | (intro q; cases q; done) | trivial
  try intro _
  cbv
  refine ⟨fun b_38 => ?_, fun b_38 => ?_⟩
  rotate_left
  · cbv
    replace h := condf h (by first | exact b_38 | (simp only [oo hO, sl] at b_38 ⊢; exact b_38))
    refine ⟨?_, ?_⟩
    · first | (intro q; cases q; done) | trivial
    try intro _
    cbv
    refine ⟨?_, ?_⟩
    · first | (intro q; cases q; done) | trivial
    try intro _
    cbv
    refine ⟨?_, ?_⟩
    · first | (intro q; cases q; done) | trivial
    try intro _
    cbv
    refine ⟨?_, ?_⟩
    · first | (intro q; cases q; done) | trivial
    try intro _
    cbv
    replace h := (endb h).trans hr
    cases h
    ((repeat' apply And.intro) <;> first | trivial | rfl | assumption | (simp only [oo hO, ff, sl]; done) | (simp only [oo hO, ff, sl]; omega) | (intro i hi; first | (cbv <;> (repeat' apply And.intro) <;> first | trivial | rfl) | (simp only [oo hO, ff, sl] at hi ⊢; (try simp only [gg, sl] at hi ⊢); (repeat' split) <;> first | (exfalso; omega) | (exfalso; exact absurd (Nat.lt_of_lt_of_le hi (Nat.min_le_left _ _)) (by assumption)) | (cbv <;> (repeat' apply And.intro) <;> first | trivial | rfl) | (rename_i q; subst q; cbv <;> (repeat' apply And.intro) <;> first | trivial | rfl) | (rename_i q _; subst q; cbv <;> (repeat' apply And.intro) <;> first | trivial | rfl)) | (simp only [litElems, oo hO, ff, sl] at hi ⊢; rcases i with _ | _ | _ | _ | _ | _ | _ | _ | _ | i <;> first | (exfalso; omega) | (cbv <;> (repeat' apply And.intro) <;> first | trivial | rfl))))
  cbv
  replace h := condt h (by first | exact b_38 | (simp only [oo hO, sl] at b_38 ⊢; exact b_38))
  refine ⟨?_, ?_⟩
  rotate_left
  · first | (intro q; cases q; done) | trivial
  try intro _
  cbv
  refine ⟨?_, ?_⟩
  rotate_left
  · first | (intro q; cases q; done) | trivial
  try intro _
  cbv
  obtain ⟨v35, e_39, h⟩ := callb h
  refine ⟨[], _, _, _, _, false, c_laws_r8Turned hO hP e_39, ?_⟩
  cbv
  refine ⟨(by first | trivial | (simp only [oo hO, sl]; omega) | (simp only [oo hO, sl]; done)), ?_⟩
  refine ⟨(by (repeat' apply And.intro) <;> first | trivial | rfl | (intro i hi; first | (cbv <;> (repeat' apply And.intro) <;> first | trivial | rfl) | (simp only [oo hO, sl]; cbv <;> (repeat' apply And.intro) <;> first | trivial | rfl))), (by (repeat' apply And.intro) <;> first | trivial | rfl), ?_⟩
  refine ⟨?_, ?_⟩
  rotate_left
  · first | (intro q; cases q; done) | trivial
  try intro _
  cbv
  obtain ⟨v36, e_40, h⟩ := callb h
  refine ⟨[], _, _, _, _, false, c_laws_r8Same hO hP e_40, ?_⟩
  cbv
  refine ⟨(by first | trivial | (simp only [oo hO, sl]; omega) | (simp only [oo hO, sl]; done)), (by first | trivial | (simp only [oo hO, sl]; omega) | (simp only [oo hO, sl]; done)), ?_⟩
  refine ⟨(by (repeat' apply And.intro) <;> first | trivial | rfl | (intro i hi; first | (cbv <;> (repeat' apply And.intro) <;> first | trivial | rfl) | (simp only [oo hO, sl]; cbv <;> (repeat' apply And.intro) <;> first | trivial | rfl))), (by (repeat' apply And.intro) <;> first | trivial | rfl), ?_⟩
  refine ⟨?_, ?_⟩
  rotate_left
  · first | (intro q; cases q; done) | trivial
  try intro _
  cbv
  replace h := (endb h).trans hr
  cases h
  ((repeat' apply And.intro) <;> first | trivial | rfl | assumption | (simp only [oo hO, ff, sl]; done) | (simp only [oo hO, ff, sl]; omega) | (intro i hi; first | (cbv <;> (repeat' apply And.intro) <;> first | trivial | rfl) | (simp only [oo hO, ff, sl] at hi ⊢; (try simp only [gg, sl] at hi ⊢); (repeat' split) <;> first | (exfalso; omega) | (exfalso; exact absurd (Nat.lt_of_lt_of_le hi (Nat.min_le_left _ _)) (by assumption)) | (cbv <;> (repeat' apply And.intro) <;> first | trivial | rfl) | (rename_i q; subst q; cbv <;> (repeat' apply And.intro) <;> first | trivial | rfl) | (rename_i q _; subst q; cbv <;> (repeat' apply And.intro) <;> first | trivial | rfl)) | (simp only [litElems, oo hO, ff, sl] at hi ⊢; rcases i with _ | _ | _ | _ | _ | _ | _ | _ | _ | i <;> first | (exfalso; omega) | (cbv <;> (repeat' apply And.intro) <;> first | trivial | rfl))))

end Go.Desk
