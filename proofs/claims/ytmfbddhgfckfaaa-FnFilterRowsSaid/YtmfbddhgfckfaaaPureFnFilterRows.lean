/- The plain law behind FnFilterRows: filters one after another do what each does, impulses, both ways. -/
import Derived.Test.YtmfbddhgfckfaaaPc
namespace Go.Desk
open Go Go.IntWalk
set_option linter.all false
set_option linter.unusedVariables false
set_option linter.unusedSimpArgs false
set_option maxRecDepth 100000

theorem set_mid {α : Type} (x y : α) (R : List α) : ∀ A : List α, (A ++ x :: R).set A.length y = A ++ y :: R
  | [] => rfl
  | a :: A => by simp [set_mid x y R A]

theorem rev_l : ∀ (n : Nat) (A M B : List Nat) (k : Nat), M.length = n → n < k → A.length + M.length + B.length ≤ 1000000 →
    F_slices_Reverse_float32_float32_l0 std k (A ++ (M ++ B)) (A.length : Int) ((A.length : Int) + (M.length : Int) - 1) = some (A ++ (M.reverse ++ B))
  | _, _, _, _, 0, _, h, _ => absurd h (Nat.not_lt_zero _)
  | n, A, M, B, k + 1, hn, hk, hl => by
    rw [F_slices_Reverse_float32_float32_l0.eq_2]
    by_cases h2 : n < 2
    · have e : std.ilt (A.length : Int) ((A.length : Int) + (M.length : Int) - 1) = false := by simp only [sio, decide_eq_false_iff_not]; omega
      rw [e]
      simp only [cond_false]
      have : M.reverse = M := by
        match M, hn with
        | [], _ => rfl
        | [x], _ => rfl
        | x :: y :: z, hn => simp at hn; omega
      rw [this]
    · obtain ⟨x, N, y, rfl⟩ : ∃ x N y, M = x :: (N ++ [y]) := by
        match M, hn with
        | [], hn => simp at hn; omega
        | x :: z, hn =>
          have hz : z ≠ [] := by intro e; subst e; simp at hn; omega
          exact ⟨x, z.dropLast, z.getLast hz, by rw [List.dropLast_concat_getLast]⟩
      simp only [List.length_cons, List.length_append, List.length_singleton, List.length_nil] at hn hl ⊢
      have e : std.ilt (A.length : Int) ((A.length : Int) + ((N.length + (0 + 1) + 1 : Nat) : Int) - 1) = true := by simp only [sio, decide_eq_true_eq]; omega
      rw [e]
      simp only [cond_true]
      have ej : ((A.length : Int) + ((N.length + (0 + 1) + 1 : Nat) : Int) - 1).toNat = A.length + N.length + 1 := by omega
      have g1 : std.pIdx ((A.length : Int) + ((N.length + (0 + 1) + 1 : Nat) : Int) - 1) (std.llen (A ++ (x :: (N ++ [y]) ++ B))) := by
        simp only [sio, List.length_append, List.length_cons, List.length_nil]; omega
      have g2 : std.pNlt (std.nadd 0 (std.toN ((A.length : Int) + ((N.length + (0 + 1) + 1 : Nat) : Int) - 1))) (std.llen (A ++ (x :: (N ++ [y]) ++ B))) := by
        simp only [sio, ej, List.length_append, List.length_cons, List.length_nil]; omega
      have g3 : std.pIdx (A.length : Int) (std.llen (A ++ (x :: (N ++ [y]) ++ B))) := by
        simp only [sio, List.length_append, List.length_cons, List.length_nil]; omega
      have g4 : std.pNlt (std.nadd 0 (std.toN (A.length : Int))) (std.llen (A ++ (x :: (N ++ [y]) ++ B))) := by
        simp only [sio, Int.toNat_natCast, List.length_append, List.length_cons, List.length_nil]; omega
      rw [gdt g1, gdt g2, gdt g3, gdt g4, gdt g3, gdt g4, gdt g1, gdt g2, gdt (pin_i64 (by simp only [sio]; omega) (by simp only [sio]; omega)), gdt (pin_i64 (by simp only [sio]; omega) (by simp only [sio]; omega))]
      simp only [sio, ej, Int.toNat_natCast, Nat.zero_add]
      have q1 : (A ++ (x :: (N ++ [y]) ++ B)).getD (A.length + N.length + 1) 0 = y := by
        have : A ++ (x :: (N ++ [y]) ++ B) = (A ++ x :: N) ++ y :: B := by simp
        rw [this, show A.length + N.length + 1 = (A ++ x :: N).length by simp; omega]
        exact getD_mid _ _ _ _
      have q2 : (A ++ (x :: (N ++ [y]) ++ B)).getD A.length 0 = x := by
        have : A ++ (x :: (N ++ [y]) ++ B) = A ++ x :: (N ++ [y] ++ B) := by simp
        rw [this]
        exact getD_mid _ _ _ _
      rw [q1, q2]
      have q3 : (A ++ (x :: (N ++ [y]) ++ B)).set A.length y = (A ++ y :: N) ++ y :: B := by
        have : A ++ (x :: (N ++ [y]) ++ B) = A ++ x :: (N ++ [y] ++ B) := by simp
        rw [this, set_mid]; simp
      rw [q3, show A.length + N.length + 1 = (A ++ y :: N).length by simp; omega, set_mid]
      have := rev_l N.length (A ++ [y]) N (x :: B) k rfl (by omega) (by simp; omega)
      simp only [List.length_append, List.length_singleton] at this
      have r1 : (A ++ y :: N) ++ x :: B = (A ++ [y]) ++ (N ++ x :: B) := by simp
      have r2 : ((A.length : Int) + 1) = ((A.length + 1 : Nat) : Int) := by omega
      have r3 : ((A.length : Int) + ((N.length + (0 + 1) + 1 : Nat) : Int) - 1 - 1) = ((A.length + 1 : Nat) : Int) + (N.length : Int) - 1 := by omega
      rw [r1, r2, r3, this]
      simp

theorem rev_eq (l : List Nat) (h : l.length ≤ 1000) : F_slices_Reverse_float32_float32 std l = some l.reverse := by
  unfold F_slices_Reverse_float32_float32
  rw [gdt (pin_i64 (by simp only [sio]; omega) (by simp only [sio]; omega))]
  have := rev_l l.length [] l [] KK rfl (by unfold KK; omega) (by simp; omega)
  simp only [List.nil_append, List.append_nil, List.length_nil] at this
  simp only [sio]
  rw [show ((l.length : Int) - 1) = (((0 : Nat) : Int) + (l.length : Int) - 1) by omega, show (0 : Int) = ((0 : Nat) : Int) from rfl, this]
  simp only [Option.bind_some]
  rw [gdt (by simp)]

theorem copy_eq (l : List Nat) (h : l.length ≤ 1000) : F_impl_copyNumbers std l = some l := by
  unfold F_impl_copyNumbers
  rw [gdt (by simp only [sio]; omega)]
  simp [sio]

theorem both_eq (f : GFilter) (xs : List Nat) (h : xs.length ≤ 256) :
    F_impl_FilterBothWays std f xs = some ((runN f 0 false ⟨0, 0, 0, 0⟩ (runN f 0 false ⟨0, 0, 0, 0⟩ xs).1.reverse).1.reverse, true) := by
  unfold F_impl_FilterBothWays F_impl_areSamples
  have e : std.ile (std.ofN (std.llen xs)) 256 = true := by simp only [sio, decide_eq_true_eq]; omega
  simp only [Option.bind_some, e, Bool.not_true, cond_false]
  rw [copy_eq _ (by omega)]
  simp only [Option.bind_some]
  have step : ∀ (l : List Nat) (k : Nat) (i : Int), l.length ≤ 256 → 0 ≤ i → i < 2 → F_impl_FilterBothWays_l0 std f (k + 1) l i = F_impl_FilterBothWays_l0 std f k (runN f 0 false ⟨0, 0, 0, 0⟩ l).1.reverse (i + 1) := by
    intro l k i hl h0 h1
    rw [F_impl_FilterBothWays_l0.eq_2]
    have e : std.ilt i 2 = true := by simp only [sio, decide_eq_true_eq]; exact h1
    rw [e]
    simp only [cond_true]
    rw [run_eq _ _ _ _ _ (by omega)]
    simp only [Option.bind_some]
    rw [rev_eq _ (by rw [runN_len]; omega)]
    simp only [Option.bind_some]
    rw [gdt (by simp [sio]), gdt (pin_i64 (by simp only [sio]; omega) (by simp only [sio]; omega))]
    rfl
  rw [show KK = (KK - 3) + 1 + 1 + 1 from rfl, step _ _ 0 h (by omega) (by omega), step _ _ (0 + 1) (by simp [runN_len, h]) (by omega) (by omega), F_impl_FilterBothWays_l0.eq_2]
  have e : std.ilt (0 + 1 + 1) 2 = false := by decide
  rw [e]
  rfl

theorem filters_eq (f g : GFilter) (form : Int) (m k : GMemory) (xs : List Nat) (hf : 0 ≤ form ∧ form ≤ 2) (h : xs.length ≤ 256) :
    F_impl_RunFilters std [f, g] form true [m, k] xs = some ((runN g form true k (runN f form true m xs).1).1, [(runN f form true m xs).2, (runN g form true k (runN f form true m xs).1).2], true) := by
  unfold F_impl_RunFilters F_impl_areSamples
  rw [form_eq form hf]
  have e : std.ile (std.ofN (std.llen xs)) 256 = true := by simp only [sio, decide_eq_true_eq]; omega
  have e1 : std.ilt 6 (std.ofN (std.llen [f, g])) = false := by simp [sio]
  have e2 : std.ieq (std.ofN (std.llen [m, k])) (std.ofN (std.llen [f, g])) = true := by simp [sio]
  simp only [Option.bind_some, e, e1, e2, Bool.not_true, cond_false]
  rw [copy_eq _ (by omega)]
  simp only [Option.bind_some]
  rw [show KK = (KK - 3) + 1 + 1 + 1 from rfl, F_impl_RunFilters_l0.eq_2]
  have e3 : std.ilt 0 (std.ofN (std.llen [f, g])) = true := by simp [sio]
  rw [e3]
  simp only [cond_true]
  rw [gdt (by simp [sio]), gdt (by simp [sio])]
  rw [show std.lget [f, g] (std.toN 0) (GFilter.mk 0 0 0 0 0) = f from rfl, show std.lget [m, k] (std.toN 0) (GMemory.mk 0 0 0 0) = m from rfl, run_eq _ _ _ _ _ (by omega)]
  simp only [Option.bind_some]
  rw [gdt (by simp [sio]), gdt (pin_i64 (by simp only [sio]; omega) (by simp only [sio]; omega)), F_impl_RunFilters_l0.eq_2]
  have e4 : std.ilt (std.iadd 0 1) (std.ofN (std.llen [f, g])) = true := by simp [sio]
  rw [e4]
  simp only [cond_true]
  rw [gdt (by simp [sio]), gdt (by simp [sio])]
  rw [show std.lget [f, g] (std.toN (std.iadd 0 1)) (GFilter.mk 0 0 0 0 0) = g from rfl, show std.lget [m, k] (std.toN (std.iadd 0 1)) (GMemory.mk 0 0 0 0) = k from rfl, run_eq _ _ _ _ _ (by rw [runN_len]; omega)]
  simp only [Option.bind_some]
  rw [gdt (by simp [sio]), gdt (pin_i64 (by simp only [sio]; omega) (by simp only [sio]; omega)), F_impl_RunFilters_l0.eq_2]
  have e5 : std.ilt (std.iadd (std.iadd 0 1) 1) (std.ofN (std.llen [f, g])) = false := by simp [sio]
  rw [e5]
  rfl

theorem impulse_eq (f : GFilter) (form : Int) (hf : 0 ≤ form ∧ form ≤ 2) : F_impl_ImpulseOf std f form 9 = some ((runN f form false ⟨0, 0, 0, 0⟩ [1065353216, 0, 0, 0, 0, 0, 0, 0, 0]).1, true) := by
  unfold F_impl_ImpulseOf
  rw [form_eq form hf]
  have e : F_impl_isCount std 9 = some true := by unfold F_impl_isCount F_impl_within; simp [sio]
  rw [e]
  simp only [Option.bind_some, Bool.not_true, cond_false]
  have e2 : F_impl_impulse std 9 = some [1065353216, 0, 0, 0, 0, 0, 0, 0, 0] := by
    unfold F_impl_impulse F_impl_zeros
    rw [gdt (by simp only [sio]; decide), gdt (by simp only [sio]; decide), gdt (by simp only [sio]; decide)]
    simp only [Option.bind_some]
    have e3 : std.ilt 0 9 = true := by decide
    rw [e3]
    simp only [cond_true]
    rw [gdt (by simp [sio]), gdt (by simp [sio])]
    rfl
  rw [e2]
  simp only [Option.bind_some]
  rw [run_eq _ _ _ _ _ (by decide)]
  rfl

theorem number_ok {s : Gl00Src} {n : Int} (h : SrcOk s n) (hn : n + 16 ≤ 1000000000000) : Ok (F_spec_l02DrawNumber std s) fun r => SrcOk r.2 (n + 16) := by
  unfold F_spec_l02DrawNumber
  refine ok_bind (one_ok h (by omega) _) ?_
  rintro ⟨b, s1⟩ h1
  refine ok_cond (fun _ => ?_) (fun _ => ?_)
  · refine ok_bind (float_ok h1 (by omega)) ?_
    rintro ⟨v, s2⟩ h2
    exact ok_some (h2.more (by omega) hn)
  · refine ok_bind (one_ok h1 (by omega) _) ?_
    rintro ⟨c, s2⟩ h2
    refine ok_cond (fun _ => ok_some (h2.more (by omega) hn)) (fun _ => ?_)
    refine ok_bind (pick_ok h2 (by omega) _) ?_
    rintro ⟨v, s3⟩ ⟨⟨v0, v1⟩, h3⟩
    have v0 : 0 ≤ v := v0
    have v1 : v < 33 ∨ v = 0 := v1
    exact ok_gd (pin_i64 (by show _ ≤ v - 16; omega) (by show v - 16 ≤ _; omega)) (ok_some (h3.more (by omega) hn))

theorem filter_ok {l : List Int} (h : ∀ x ∈ l, 0 ≤ x ∧ x ≤ 255) : Ok (F_spec_R8Filter std l) fun _ => True := by
  unfold F_spec_R8Filter F_spec_l00From
  simp only [Option.bind_some]
  refine ok_bind (P := fun _ => True) ?_ (fun ⟨_, _⟩ _ => ok_some trivial)
  unfold F_spec_l02DrawFilter
  refine ok_bind (number_ok (src0 h) (by omega)) ?_
  rintro ⟨v1, s1⟩ h1
  refine ok_bind (number_ok h1 (by omega)) ?_
  rintro ⟨v2, s2⟩ h2
  refine ok_bind (number_ok h2 (by omega)) ?_
  rintro ⟨v3, s3⟩ h3
  refine ok_bind (pick_ok h3 (by omega) _) ?_
  rintro ⟨v, s4⟩ ⟨⟨v0, v1'⟩, h4⟩
  have v0 : 0 ≤ v := v0
  have v1' : v < 15 ∨ v = 0 := v1'
  refine ok_gd (pin_i64 (by show _ ≤ v - 7; omega) (by show v - 7 ≤ _; omega)) ?_
  refine ok_bind (pick_ok h4 (by omega) _) ?_
  rintro ⟨u, s5⟩ ⟨⟨u0, u1⟩, h5⟩
  have u0 : 0 ≤ u := u0
  have u1 : u < 7 ∨ u = 0 := u1
  refine ok_gd (pin_i64 (by show _ ≤ u - 3; omega) (by show u - 3 ≤ _; omega)) ?_
  refine ok_bind (one_ok h5 (by omega) _) ?_
  rintro ⟨b, s6⟩ h6
  refine ok_cond (fun _ => ?_) (fun _ => ?_)
  · refine ok_bind (number_ok h6 (by omega)) ?_
    rintro ⟨v7, s7⟩ h7
    refine ok_bind (one_ok h7 (by omega) _) ?_
    rintro ⟨c, s8⟩ h8
    exact ok_cond (fun _ => ok_bind (number_ok h8 (by omega)) fun ⟨_, _⟩ _ => ok_some trivial) (fun _ => ok_some trivial)
  · refine ok_bind (one_ok h6 (by omega) _) ?_
    rintro ⟨c, s8⟩ h8
    exact ok_cond (fun _ => ok_bind (number_ok h8 (by omega)) fun ⟨_, _⟩ _ => ok_some trivial) (fun _ => ok_some trivial)

theorem memory_ok {l : List Int} (h : ∀ x ∈ l, 0 ≤ x ∧ x ≤ 255) : Ok (F_spec_R8Memory std l) fun _ => True := by
  unfold F_spec_R8Memory F_spec_l00From
  simp only [Option.bind_some]
  refine ok_bind (P := fun _ => True) ?_ (fun ⟨_, _⟩ _ => ok_some trivial)
  unfold F_spec_l02DrawMemory
  refine ok_bind (one_ok (src0 h) (by omega) _) ?_
  rintro ⟨b, s1⟩ h1
  refine ok_cond (fun _ => ok_some trivial) (fun _ => ?_)
  refine ok_bind (float_ok h1 (by omega)) ?_
  rintro ⟨v2, s2⟩ h2
  refine ok_bind (float_ok h2 (by omega)) ?_
  rintro ⟨v3, s3⟩ h3
  refine ok_bind (float_ok h3 (by omega)) ?_
  rintro ⟨v4, s4⟩ h4
  refine ok_bind (float_ok h4 (by omega)) ?_
  rintro ⟨v5, s5⟩ h5
  exact ok_some trivial

theorem samples_ok {l : List Int} (h : ∀ x ∈ l, 0 ≤ x ∧ x ≤ 255) : Ok (F_spec_R8Samples std l 10) fun r => r.length ≤ 10 := by
  unfold F_spec_R8Samples F_spec_l00From
  simp only [Option.bind_some]
  refine ok_gd (pin_i64 (by decide) (by decide)) ?_
  refine ok_bind (pick_ok (src0 h) (by omega) _) ?_
  rintro ⟨v, s1⟩ ⟨⟨v0, v1⟩, h1⟩
  have v0 : 0 ≤ v := v0
  have v1 : v < 10 + 1 ∨ v = 0 := v1
  refine ok_bind (floats_ok h1 v (by omega) (by omega)) ?_
  rintro ⟨r, s2⟩ ⟨h2, _⟩
  have h2 : r.length = v.toNat := h2
  exact ok_some (by omega)

theorem at_ok {l : List Int} (h : ∀ x ∈ l, 0 ≤ x ∧ x ≤ 255) (i n : Int) (hi : 0 ≤ i) (hn : 1 < n) : Ok (F_laws_r8At std l i n) fun r => 0 ≤ r ∧ r < n := by
  unfold F_laws_r8At
  refine ok_cond (fun _ => ok_some (by omega)) (fun _ => ok_cond (fun _ => ok_some (by omega)) (fun hb => ?_))
  have hb : i < (l.length : Int) := by simp only [sio, decide_eq_false_iff_not] at hb; omega
  refine ok_gd ⟨hi, hb⟩ (ok_gd (by show n ≠ 0; omega) (ok_some ?_))
  have := byte_wrap h (std.toN i)
  show 0 ≤ (std.wrap .i64 (std.lget l (std.toN i) 0)).tmod n ∧ (std.wrap .i64 (std.lget l (std.toN i) 0)).tmod n < n
  exact ⟨Int.tmod_nonneg _ this.1, Int.tmod_lt_of_pos _ (by omega)⟩

theorem pure_FnFilterRows (l0 l1 : List Int) (w0 : ∀ x ∈ l0, (Lit.int .u8 x).wf = true) (w1 : ∀ x ∈ l1, (Lit.int .u8 x).wf = true) (n0 : l0.length ≤ maxLen) (n1 : l1.length ≤ maxLen) :
    F_laws_FnFilterRows std l0 l1 = some true := by
  have b0 := wf_u8 w0
  have b1 := wf_u8 w1
  unfold F_laws_FnFilterRows
  obtain ⟨b, hb⟩ : ∃ b, F_laws_r8Long std l0 l1 = some b := by
    unfold F_laws_r8Long
    cases std.ilt 48 (std.ofN (std.llen l0)) <;> exact ⟨_, rfl⟩
  rw [hb]
  cases b with
  | true => rfl
  | false =>
  simp only [Option.bind_some, cond_false]
  obtain ⟨f, hf, _⟩ := filter_ok b0
  obtain ⟨g, hg, _⟩ := filter_ok b1
  obtain ⟨m, hm, _⟩ := memory_ok b0
  obtain ⟨k, hk, _⟩ := memory_ok b1
  obtain ⟨xs, hx, hxl⟩ := samples_ok b1
  obtain ⟨form, hform, hfr⟩ := at_ok b0 40 3 (by omega) (by omega)
  have hfr : 0 ≤ form ∧ form ≤ 2 := by omega
  have h00 : (0 : Int) ≤ 0 ∧ (0 : Int) ≤ 2 := by decide
  rw [hf, hg, hm, hk, hx, hform]
  simp only [Option.bind_some]
  rw [filters_eq _ _ _ _ _ _ hfr (by omega)]
  simp only [Option.bind_some]
  rw [runFilter_eq f form true m xs hfr (by omega)]
  simp only [Option.bind_some]
  rw [runFilter_eq g form true k _ hfr (by rw [runN_len]; omega)]
  simp only [Option.bind_some, Bool.not_true, cond_false]
  rw [r8same_eq _ (by rw [runN_len, runN_len]; omega)]
  simp only [Option.bind_some, Bool.not_true, cond_false]
  have e1 : ∀ a b : GMemory, std.ieq (std.ofN (std.llen [a, b])) 2 = true := by intro a b; simp [sio]
  rw [e1]
  simp only [Bool.not_true, cond_false]
  rw [gdt (by simp [sio]), gdt (by simp [sio])]
  have e2 : ∀ a b d : GMemory, std.lget [a, b] (std.nadd 0 (std.toN 0)) d = a := fun _ _ _ => rfl
  have e3 : ∀ a b d : GMemory, std.lget [a, b] (std.nadd 0 (std.toN 1)) d = b := fun _ _ _ => rfl
  rw [e2, sameMem_refl]
  simp only [Option.bind_some, Bool.not_true, cond_false]
  rw [gdt (by simp [sio]), gdt (by simp [sio]), e3, sameMem_refl]
  simp only [Option.bind_some, Bool.not_true, cond_false]
  rw [impulse_eq _ _ hfr]
  simp only [Option.bind_some]
  rw [runFilter_eq f form false _ _ hfr (by decide)]
  simp only [Option.bind_some]
  rw [both_eq _ _ (by omega)]
  simp only [Option.bind_some]
  rw [runFilter_eq f 0 false _ xs h00 (by omega)]
  simp only [Option.bind_some]
  rw [turned_eq _ (by rw [runN_len]; omega)]
  simp only [Option.bind_some]
  rw [runFilter_eq f 0 false _ _ h00 (by rw [List.length_reverse, runN_len]; omega)]
  simp only [Option.bind_some, cond_true]
  rw [r8same_eq _ (by rw [runN_len]; decide)]
  simp only [Option.bind_some, cond_true]
  rw [turned_eq _ (by rw [runN_len, List.length_reverse, runN_len]; omega)]
  simp only [Option.bind_some]
  rw [r8same_eq _ (by rw [List.length_reverse, runN_len, List.length_reverse, runN_len]; omega)]
  rfl

end Go.Desk
