/- Contracts of functions, printed by a program of mine (in step with V-logic). -/
import Derived.Test.YtmfbddhgfckfaaaGf
namespace Go.Desk
open Go
set_option linter.all false
set_option maxRecDepth 100000
set_option linter.unusedVariables false
set_option linter.unusedSimpArgs false
set_option maxHeartbeats 4000000
theorem c_impl_size {O : Ops} (hO : O = std) {P : Program} (hP : P = Prg) {a1 : Int} {r1 : Int} (h : F_impl_size O a1 = some r1) :
    Con P 83 [] [.int .i64 a1] (.int .i64 r1) [] := by
  refine @con_of2 O hO P hP 83 Go.Proofs.Try.f83 Go.Proofs.Try.func83 (by kernel_rfl) _ _ _ _ ?_
  unfold F_impl_size at h
  replace h := startb h
  obtain ⟨r, hr⟩ : ∃ r, r = r1 := ⟨_, rfl⟩
  rw [← hr] at h
  cbv
  refine Wp.mk ?_
  replace h := (endb h).trans hr
  cases h
  ((repeat' apply And.intro) <;> first | trivial | rfl | assumption | (simp only [oo hO, ff, sl]; done) | (simp only [oo hO, ff, sl]; omega) | (intro i hi; first | (cbv <;> (repeat' apply And.intro) <;> first | trivial | rfl) | (simp only [oo hO, ff, sl] at hi ⊢; (try simp only [gg, sl] at hi ⊢); (repeat' split) <;> first | (exfalso; omega) | (exfalso; exact absurd (Nat.lt_of_lt_of_le hi (Nat.min_le_left _ _)) (by assumption)) | (cbv <;> (repeat' apply And.intro) <;> first | trivial | rfl) | (rename_i q; subst q; cbv <;> (repeat' apply And.intro) <;> first | trivial | rfl) | (rename_i q _; subst q; cbv <;> (repeat' apply And.intro) <;> first | trivial | rfl))))

theorem c_spec_l01Bits {O : Ops} (hO : O = std) {P : Program} (hP : P = Prg) {a1 : Nat} {r1 : Int} (h : F_spec_l01Bits O a1 = some r1) :
    Con P 143 [] [.flt .f32 a1] (.int .i64 r1) [] := by
  refine @con_of2 O hO P hP 143 Go.Proofs.Try.f143 Go.Proofs.Try.func143 (by kernel_rfl) _ _ _ _ ?_
  unfold F_spec_l01Bits at h
  replace h := startb h
  obtain ⟨r, hr⟩ : ∃ r, r = r1 := ⟨_, rfl⟩
  rw [← hr] at h
  cbv
  refine Wp.mk ?_
  refine ⟨fun b_1 => ?_, fun b_1 => ?_⟩
  · cbv
    replace h := condt h (by first | exact b_1 | (simp only [oo hO, sl] at b_1 ⊢; exact b_1))
    replace h := (endb h).trans hr
    cases h
    ((repeat' apply And.intro) <;> first | trivial | rfl | assumption | (simp only [oo hO, ff, sl]; done) | (simp only [oo hO, ff, sl]; omega) | (intro i hi; first | (cbv <;> (repeat' apply And.intro) <;> first | trivial | rfl) | (simp only [oo hO, ff, sl] at hi ⊢; (try simp only [gg, sl] at hi ⊢); (repeat' split) <;> first | (exfalso; omega) | (exfalso; exact absurd (Nat.lt_of_lt_of_le hi (Nat.min_le_left _ _)) (by assumption)) | (cbv <;> (repeat' apply And.intro) <;> first | trivial | rfl) | (rename_i q; subst q; cbv <;> (repeat' apply And.intro) <;> first | trivial | rfl) | (rename_i q _; subst q; cbv <;> (repeat' apply And.intro) <;> first | trivial | rfl))))
  cbv
  replace h := condf h (by first | exact b_1 | (simp only [oo hO, sl] at b_1 ⊢; exact b_1))
  obtain ⟨v1, e_2, h⟩ := callb h
  refine ⟨[], _, _, _, _, false, c_math_Float32bits hO hP e_2, ?_⟩
  cbv
  refine ⟨(by (repeat' apply And.intro) <;> first | trivial | rfl), (by (repeat' apply And.intro) <;> first | trivial | rfl), ?_⟩
  replace h := (endb h).trans hr
  cases h
  ((repeat' apply And.intro) <;> first | trivial | rfl | assumption | (simp only [oo hO, ff, sl]; done) | (simp only [oo hO, ff, sl]; omega) | (intro i hi; first | (cbv <;> (repeat' apply And.intro) <;> first | trivial | rfl) | (simp only [oo hO, ff, sl] at hi ⊢; (try simp only [gg, sl] at hi ⊢); (repeat' split) <;> first | (exfalso; omega) | (exfalso; exact absurd (Nat.lt_of_lt_of_le hi (Nat.min_le_left _ _)) (by assumption)) | (cbv <;> (repeat' apply And.intro) <;> first | trivial | rfl) | (rename_i q; subst q; cbv <;> (repeat' apply And.intro) <;> first | trivial | rfl) | (rename_i q _; subst q; cbv <;> (repeat' apply And.intro) <;> first | trivial | rfl))))

theorem c_spec_l01Same {O : Ops} (hO : O = std) {P : Program} (hP : P = Prg) {a1 : Nat} {a2 : Nat} {r1 : Bool} (h : F_spec_l01Same O a1 a2 = some r1) :
    Con P 127 [] [.flt .f32 a1, .flt .f32 a2] (.bool r1) [] := by
  refine @con_of2 O hO P hP 127 Go.Proofs.Try.f127 Go.Proofs.Try.func127 (by kernel_rfl) _ _ _ _ ?_
  unfold F_spec_l01Same at h
  replace h := startb h
  obtain ⟨r, hr⟩ : ∃ r, r = r1 := ⟨_, rfl⟩
  rw [← hr] at h
  cbv
  refine Wp.mk ?_
  obtain ⟨v1, e_1, h⟩ := callb h
  refine ⟨[], _, _, _, _, false, c_spec_l01Bits hO hP e_1, ?_⟩
  cbv
  refine ⟨(by (repeat' apply And.intro) <;> first | trivial | rfl), (by (repeat' apply And.intro) <;> first | trivial | rfl), ?_⟩
  obtain ⟨v2, e_2, h⟩ := callb h
  refine ⟨[], _, _, _, _, false, c_spec_l01Bits hO hP e_2, ?_⟩
  cbv
  refine ⟨(by (repeat' apply And.intro) <;> first | trivial | rfl), (by (repeat' apply And.intro) <;> first | trivial | rfl), ?_⟩
  replace h := (endb h).trans hr
  cases h
  ((repeat' apply And.intro) <;> first | trivial | rfl | assumption | (simp only [oo hO, ff, sl]; done) | (simp only [oo hO, ff, sl]; omega) | (intro i hi; first | (cbv <;> (repeat' apply And.intro) <;> first | trivial | rfl) | (simp only [oo hO, ff, sl] at hi ⊢; (try simp only [gg, sl] at hi ⊢); (repeat' split) <;> first | (exfalso; omega) | (exfalso; exact absurd (Nat.lt_of_lt_of_le hi (Nat.min_le_left _ _)) (by assumption)) | (cbv <;> (repeat' apply And.intro) <;> first | trivial | rfl) | (rename_i q; subst q; cbv <;> (repeat' apply And.intro) <;> first | trivial | rfl) | (rename_i q _; subst q; cbv <;> (repeat' apply And.intro) <;> first | trivial | rfl))))

theorem c_spec_SameNumber {O : Ops} (hO : O = std) {P : Program} (hP : P = Prg) {a1 : Nat} {a2 : Nat} {r1 : Bool} (h : F_spec_SameNumber O a1 a2 = some r1) :
    Con P 86 [] [.flt .f32 a1, .flt .f32 a2] (.bool r1) [] := by
  refine @con_of2 O hO P hP 86 Go.Proofs.Try.f86 Go.Proofs.Try.func86 (by kernel_rfl) _ _ _ _ ?_
  unfold F_spec_SameNumber at h
  replace h := startb h
  obtain ⟨r, hr⟩ : ∃ r, r = r1 := ⟨_, rfl⟩
  rw [← hr] at h
  cbv
  refine Wp.mk ?_
  obtain ⟨v1, e_1, h⟩ := callb h
  refine ⟨[], _, _, _, _, false, c_spec_l01Same hO hP e_1, ?_⟩
  cbv
  refine ⟨(by (repeat' apply And.intro) <;> first | trivial | rfl), (by (repeat' apply And.intro) <;> first | trivial | rfl), ?_⟩
  replace h := (endb h).trans hr
  cases h
  ((repeat' apply And.intro) <;> first | trivial | rfl | assumption | (simp only [oo hO, ff, sl]; done) | (simp only [oo hO, ff, sl]; omega) | (intro i hi; first | (cbv <;> (repeat' apply And.intro) <;> first | trivial | rfl) | (simp only [oo hO, ff, sl] at hi ⊢; (try simp only [gg, sl] at hi ⊢); (repeat' split) <;> first | (exfalso; omega) | (exfalso; exact absurd (Nat.lt_of_lt_of_le hi (Nat.min_le_left _ _)) (by assumption)) | (cbv <;> (repeat' apply And.intro) <;> first | trivial | rfl) | (rename_i q; subst q; cbv <;> (repeat' apply And.intro) <;> first | trivial | rfl) | (rename_i q _; subst q; cbv <;> (repeat' apply And.intro) <;> first | trivial | rfl))))

theorem c_laws_b10Same {O : Ops} (hO : O = std) {P : Program} (hP : P = Prg) {a1 : (List Nat)} {a2 : (List Nat)} {r1 : Bool} (h : F_laws_b10Same O a1 a2 = some r1) :
    Con P 33 [] [.sl false false 1 (O.llen a1) (fun i1 => [.flt .f32 (O.lget a1 i1 0)]), .sl false false 1 (O.llen a2) (fun i1 => [.flt .f32 (O.lget a2 i1 0)])] (.bool r1) [] := by
  refine @con_of2 O hO P hP 33 Go.Proofs.Try.f33 Go.Proofs.Try.func33 (by kernel_rfl) _ _ _ _ ?_
  unfold F_laws_b10Same at h
  replace h := startb h
  obtain ⟨r, hr⟩ : ∃ r, r = r1 := ⟨_, rfl⟩
  rw [← hr] at h
  cbv
  refine Wp.mk ?_
  refine ⟨fun b_1 => ?_, fun b_1 => ?_⟩
  · cbv
    replace h := condt h (by first | exact b_1 | (simp only [oo hO, sl] at b_1 ⊢; exact b_1))
    replace h := (endb h).trans hr
    cases h
    ((repeat' apply And.intro) <;> first | trivial | rfl | assumption | (simp only [oo hO, ff, sl]; done) | (simp only [oo hO, ff, sl]; omega) | (intro i hi; first | (cbv <;> (repeat' apply And.intro) <;> first | trivial | rfl) | (simp only [oo hO, ff, sl] at hi ⊢; (try simp only [gg, sl] at hi ⊢); (repeat' split) <;> first | (exfalso; omega) | (exfalso; exact absurd (Nat.lt_of_lt_of_le hi (Nat.min_le_left _ _)) (by assumption)) | (cbv <;> (repeat' apply And.intro) <;> first | trivial | rfl) | (rename_i q; subst q; cbv <;> (repeat' apply And.intro) <;> first | trivial | rfl) | (rename_i q _; subst q; cbv <;> (repeat' apply And.intro) <;> first | trivial | rfl))))
  cbv
  replace h := condf h (by first | exact b_1 | (simp only [oo hO, sl] at b_1 ⊢; exact b_1))
  obtain ⟨R_2, hR_2, h⟩ := loopb h
  refine ⟨{ x : Nat × Int // (F_laws_b10Same_l0 O a1 a2 x.1 x.2).bind R_2 = some r }, fun x => ⟨[(0, .sl false false 1 (O.llen a1) (fun i1 => [.flt .f32 (O.lget a1 i1 0)])), (1, .sl false false 1 (O.llen a2) (fun i1 => [.flt .f32 (O.lget a2 i1 0)])), (5, .int .i64 x.1.2)], []⟩, fun x => x.1.1, ⟨(KK, 0), h⟩, ?_, ?_⟩
  · (cbv <;> ((repeat' apply And.intro) <;> first | trivial | rfl | assumption | (simp only [oo hO, ff, sl]; done) | (simp only [oo hO, ff, sl]; omega) | (intro i hi; first | (cbv <;> (repeat' apply And.intro) <;> first | trivial | rfl) | (simp only [oo hO, ff, sl] at hi ⊢; (try simp only [gg, sl] at hi ⊢); (repeat' split) <;> first | (exfalso; omega) | (exfalso; exact absurd (Nat.lt_of_lt_of_le hi (Nat.min_le_left _ _)) (by assumption)) | (cbv <;> (repeat' apply And.intro) <;> first | trivial | rfl) | (rename_i q; subst q; cbv <;> (repeat' apply And.intro) <;> first | trivial | rfl) | (rename_i q _; subst q; cbv <;> (repeat' apply And.intro) <;> first | trivial | rfl)))))
  rintro ⟨⟨k_3, p2⟩, h⟩
  rcases k_3 with _ | k_3
  · cases noneb rfl h
  rw [F_laws_b10Same_l0.eq_2] at h
  cbv
  refine ⟨fun b_4 => ?_, fun b_4 => ?_⟩
  rotate_left
  · cbv
    replace h := condf h (by first | exact b_4 | (simp only [oo hO, sl] at b_4 ⊢; exact b_4))
    replace h := leafb h hR_2
    replace h := (endb h).trans hr
    cases h
    ((repeat' apply And.intro) <;> first | trivial | rfl | assumption | (simp only [oo hO, ff, sl]; done) | (simp only [oo hO, ff, sl]; omega) | (intro i hi; first | (cbv <;> (repeat' apply And.intro) <;> first | trivial | rfl) | (simp only [oo hO, ff, sl] at hi ⊢; (try simp only [gg, sl] at hi ⊢); (repeat' split) <;> first | (exfalso; omega) | (exfalso; exact absurd (Nat.lt_of_lt_of_le hi (Nat.min_le_left _ _)) (by assumption)) | (cbv <;> (repeat' apply And.intro) <;> first | trivial | rfl) | (rename_i q; subst q; cbv <;> (repeat' apply And.intro) <;> first | trivial | rfl) | (rename_i q _; subst q; cbv <;> (repeat' apply And.intro) <;> first | trivial | rfl))))
  cbv
  replace h := condt h (by first | exact b_4 | (simp only [oo hO, sl] at b_4 ⊢; exact b_4))
  obtain ⟨g_5, h⟩ := gdb h
  refine ⟨(by first | exact g_5 | (simp only [oo hO] at g_5 ⊢; simp only [sl] at g_5 ⊢; omega)), ?_⟩
  obtain ⟨g_6, h⟩ := gdb h
  refine ⟨(by first | exact g_6 | (simp only [oo hO] at g_6 ⊢; simp only [sl] at g_6 ⊢; omega)), ?_⟩
  obtain ⟨v1, e_7, h⟩ := callb h
  refine ⟨[], _, _, _, _, false, c_spec_SameNumber hO hP e_7, ?_⟩
  cbv
  refine ⟨(by (repeat' apply And.intro) <;> first | trivial | rfl), (by (repeat' apply And.intro) <;> first | trivial | rfl), ?_⟩
  refine ⟨fun b_8 => ?_, fun b_8 => ?_⟩
  · cbv
    replace h := condt h (by first | exact b_8 | (simp only [oo hO, sl] at b_8 ⊢; exact b_8))
    replace h := leafb h hR_2
    replace h := (endb h).trans hr
    cases h
    ((repeat' apply And.intro) <;> first | trivial | rfl | assumption | (simp only [oo hO, ff, sl]; done) | (simp only [oo hO, ff, sl]; omega) | (intro i hi; first | (cbv <;> (repeat' apply And.intro) <;> first | trivial | rfl) | (simp only [oo hO, ff, sl] at hi ⊢; (try simp only [gg, sl] at hi ⊢); (repeat' split) <;> first | (exfalso; omega) | (exfalso; exact absurd (Nat.lt_of_lt_of_le hi (Nat.min_le_left _ _)) (by assumption)) | (cbv <;> (repeat' apply And.intro) <;> first | trivial | rfl) | (rename_i q; subst q; cbv <;> (repeat' apply And.intro) <;> first | trivial | rfl) | (rename_i q _; subst q; cbv <;> (repeat' apply And.intro) <;> first | trivial | rfl))))
  cbv
  replace h := condf h (by first | exact b_8 | (simp only [oo hO, sl] at b_8 ⊢; exact b_8))
  obtain ⟨g_9, h⟩ := gdb h
  refine ⟨(by first | exact g_9 | (simp only [oo hO] at g_9 ⊢; simp only [sl] at g_9 ⊢; omega)), ?_⟩
  refine ⟨⟨(k_3, (O.iadd p2 1)), h⟩, ?_, ?_⟩
  · (cbv <;> ((repeat' apply And.intro) <;> first | trivial | rfl | assumption | (simp only [oo hO, ff, sl]; done) | (simp only [oo hO, ff, sl]; omega) | (intro i hi; first | (cbv <;> (repeat' apply And.intro) <;> first | trivial | rfl) | (simp only [oo hO, ff, sl] at hi ⊢; (try simp only [gg, sl] at hi ⊢); (repeat' split) <;> first | (exfalso; omega) | (exfalso; exact absurd (Nat.lt_of_lt_of_le hi (Nat.min_le_left _ _)) (by assumption)) | (cbv <;> (repeat' apply And.intro) <;> first | trivial | rfl) | (rename_i q; subst q; cbv <;> (repeat' apply And.intro) <;> first | trivial | rfl) | (rename_i q _; subst q; cbv <;> (repeat' apply And.intro) <;> first | trivial | rfl)))))
  · exact Nat.lt_succ_self k_3

end Go.Desk
