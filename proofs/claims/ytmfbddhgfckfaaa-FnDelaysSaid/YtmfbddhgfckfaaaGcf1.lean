/- Contracts of functions, printed by a program of mine (in step with V-logic). -/
import Derived.Test.YtmfbddhgfckfaaaGabcdef1
import Derived.Test.YtmfbddhgfckfaaaGf
namespace Go.Desk
open Go
set_option linter.all false
set_option maxRecDepth 100000
set_option linter.unusedVariables false
set_option linter.unusedSimpArgs false
set_option maxHeartbeats 4000000
theorem c_spec_B10Whole {O : Ops} (hO : O = std) {P : Program} (hP : P = Prg) {a1 : (List Int)} {a2 : Int} {a3 : Int} {r1 : (List Nat)} (h : F_spec_B10Whole O a1 a2 a3 = some r1) :
    Con P 36 [] [.sl false false 1 (O.llen a1) (fun i1 => [.int .u8 (O.lget a1 i1 0)]), .int .i64 a2, .int .i64 a3] (.osl 0 1 0 (O.llen r1)) [.arr true true 1 (O.llen r1) (fun i1 => [.flt .f32 (O.lget r1 i1 0)])] := by
  refine @con_of2 O hO P hP 36 Go.Proofs.Try.f36 Go.Proofs.Try.func36 (by kernel_rfl) _ _ _ _ ?_
  unfold F_spec_B10Whole at h
  replace h := startb h
  obtain ⟨r, hr⟩ : ∃ r, r = r1 := ⟨_, rfl⟩
  rw [← hr] at h
  cbv
  refine Wp.mk ?_
  obtain ⟨v1, e_1, h⟩ := callb h
  refine ⟨[], _, _, _, _, true, c_spec_l00From hO hP e_1, ?_⟩
  cbv
  refine ⟨(by (repeat' apply And.intro) <;> first | trivial | rfl | (intro i hi; first | (cbv <;> (repeat' apply And.intro) <;> first | trivial | rfl) | (simp only [oo hO, sl]; cbv <;> (repeat' apply And.intro) <;> first | trivial | rfl))), (by (repeat' apply And.intro) <;> first | trivial | rfl), ?_⟩
  obtain ⟨R_2, hR_2, h⟩ := loopb h
  refine ⟨{ x : Nat × Int × (List Nat) × (List Int) × Int × Int // (F_spec_B10Whole_l0 O a3 x.1 x.2.1 x.2.2.1 x.2.2.2.1 x.2.2.2.2.1 x.2.2.2.2.2).bind R_2 = some r }, fun x => ⟨[(1, .int .i64 x.1.2.1), (2, .int .i64 a3), (7, .ptr 15 0), (8, .osl 31 1 0 (O.llen x.1.2.2.1))], [(15, .box [.sl false false 1 (O.llen x.1.2.2.2.1) (fun i1 => [.int .u8 (O.lget x.1.2.2.2.1 i1 0)]), .int .i64 x.1.2.2.2.2.1, .int .u64 x.1.2.2.2.2.2]), (31, .arr true true 1 (O.llen x.1.2.2.1) (fun i1 => [.flt .f32 (O.lget x.1.2.2.1 i1 0)]))]⟩, fun x => x.1.1, ⟨(KK, a2, ([] : List Nat), v1.code, v1.pos, v1.seed), h⟩, ?_, ?_⟩
  · (cbv <;> ((repeat' apply And.intro) <;> first | trivial | rfl | assumption | (simp only [oo hO, ff, sl]; done) | (simp only [oo hO, ff, sl]; omega) | (intro i hi; first | (cbv <;> (repeat' apply And.intro) <;> first | trivial | rfl) | (simp only [oo hO, ff, sl] at hi ⊢; (try simp only [gg, sl] at hi ⊢); (repeat' split) <;> first | (exfalso; omega) | (exfalso; exact absurd (Nat.lt_of_lt_of_le hi (Nat.min_le_left _ _)) (by assumption)) | (cbv <;> (repeat' apply And.intro) <;> first | trivial | rfl) | (rename_i q; subst q; cbv <;> (repeat' apply And.intro) <;> first | trivial | rfl) | (rename_i q _; subst q; cbv <;> (repeat' apply And.intro) <;> first | trivial | rfl)))))
  rintro ⟨⟨k_3, p4, p5, p6, p7, p8⟩, h⟩
  rcases k_3 with _ | k_3
  · cases noneb rfl h
  rw [F_spec_B10Whole_l0.eq_2] at h
  cbv
  refine ⟨fun b_4 => ?_, fun b_4 => ?_⟩
  rotate_left
  · cbv
    replace h := condf h (by first | exact b_4 | (simp only [oo hO, sl] at b_4 ⊢; exact b_4))
    replace h := leafb h hR_2
    replace h := (endb h).trans hr
    cases h
    ((repeat' apply And.intro) <;> first | trivial | rfl | assumption | (simp only [oo hO, ff, sl]; done) | (simp only [oo hO, ff, sl]; omega) | (intro i hi; first | (cbv <;> (repeat' apply And.intro) <;> first | trivial | rfl) | (simp only [oo hO, ff, sl] at hi ⊢; (try simp only [gg, sl] at hi ⊢); (repeat' split) <;> first | (exfalso; omega) | (exfalso; exact absurd (Nat.lt_of_lt_of_le hi (Nat.min_le_left _ _)) (by assumption)) | (cbv <;> (repeat' apply And.intro) <;> first | trivial | rfl) | (rename_i q; subst q; cbv <;> (repeat' apply And.intro) <;> first | trivial | rfl) | (rename_i q _; subst q; cbv <;> (repeat' apply And.intro) <;> first | trivial | rfl))))
  cbv
  replace h := condt h (by first | exact b_4 | (simp only [oo hO, sl] at b_4 ⊢; exact b_4))
  obtain ⟨g_5, h⟩ := gdb h
  refine ⟨(by first | exact g_5 | (simp only [oo hO] at g_5 ⊢; simp only [sl] at g_5 ⊢; omega)), ?_⟩
  obtain ⟨g_6, h⟩ := gdb h
  refine ⟨(by first | exact g_6 | (simp only [oo hO] at g_6 ⊢; simp only [sl] at g_6 ⊢; omega)), ?_⟩
  obtain ⟨⟨v2, v3⟩, e_7, h⟩ := callb h
  refine ⟨[15], _, _, _, _, true, c_spec_l00Src_pick hO hP e_7, ?_⟩
  cbv
  refine ⟨(by (repeat' apply And.intro) <;> first | trivial | rfl), (by (repeat' apply And.intro) <;> first | trivial | rfl | (intro i hi; first | (cbv <;> (repeat' apply And.intro) <;> first | trivial | rfl) | (simp only [oo hO, sl]; cbv <;> (repeat' apply And.intro) <;> first | trivial | rfl))), ?_⟩
  obtain ⟨g_8, h⟩ := gdb h
  refine ⟨(by first | exact g_8 | (simp only [oo hO] at g_8 ⊢; simp only [sl] at g_8 ⊢; omega)), ?_⟩
  obtain ⟨g_9, h⟩ := gdb h
  refine ⟨(by first | trivial | (simp only [oo hO, sl]; omega) | (simp only [oo hO, sl]; done)), (by first | exact g_9 | (simp only [oo hO] at g_9 ⊢; simp only [sl] at g_9 ⊢; omega)), (by first | trivial | (simp only [oo hO, sl]; omega) | (simp only [oo hO, sl]; done)), ?_⟩
  obtain ⟨g_10, h⟩ := gdb h
  refine ⟨(by first | exact g_10 | (simp only [oo hO] at g_10 ⊢; simp only [sl] at g_10 ⊢; omega)), ?_⟩
  refine ⟨⟨(k_3, (O.isub p4 1), (O.lapp p5 ([(O.fofI .f32 (O.isub v2 a3))] : List Nat)), v3.code, v3.pos, v3.seed), h⟩, ?_, ?_⟩
  · (cbv <;> ((repeat' apply And.intro) <;> first | trivial | rfl | assumption | (simp only [oo hO, ff, sl]; done) | (simp only [oo hO, ff, sl]; omega) | (intro i hi; first | (cbv <;> (repeat' apply And.intro) <;> first | trivial | rfl) | (simp only [oo hO, ff, sl] at hi ⊢; (try simp only [gg, sl] at hi ⊢); (repeat' split) <;> first | (exfalso; omega) | (exfalso; exact absurd (Nat.lt_of_lt_of_le hi (Nat.min_le_left _ _)) (by assumption)) | (cbv <;> (repeat' apply And.intro) <;> first | trivial | rfl) | (rename_i q; subst q; cbv <;> (repeat' apply And.intro) <;> first | trivial | rfl) | (rename_i q _; subst q; cbv <;> (repeat' apply And.intro) <;> first | trivial | rfl)))))
  · exact Nat.lt_succ_self k_3

end Go.Desk
