/- The plain law behind FnRooms: blocks, answers, and a room of one delay. -/
import Derived.Test.YtmfbddhgfckfaaaPf
namespace Go.Desk
open Go Go.IntWalk
set_option linter.all false
set_option maxRecDepth 100000

/- drawing a room -/
theorem combs_draw : ∀ (j k : Nat) (m : Int) (out : List GDelay) (s : Gl00Src) (n : Int), SrcOk s n → n + 32 * j ≤ 1000000000000 → m.toNat ≤ j → j < k → out.length + j ≤ 1000 → m ≤ 1000 → (∀ d ∈ out, 1 ≤ d.Length ∧ d.Length ≤ 64) →
    Ok (F_spec_l03DrawRoom_l0 std k m s.code s.pos s.seed out) fun r => (r.1.length = out.length + m.toNat ∧ ∀ d ∈ r.1, 1 ≤ d.Length ∧ d.Length ≤ 64) ∧ SrcOk ⟨r.2.1, r.2.2.1, r.2.2.2⟩ (n + 32 * j)
  | j, 0, m, out, s, n, h, hn, hj, hk, hl, hm, ho => absurd hk (Nat.not_lt_zero _)
  | j, k + 1, m, out, s, n, h, hn, hj, hk, hl, hm, ho => by
    rw [F_spec_l03DrawRoom_l0.eq_2]
    refine ok_cond (fun hb => ?_) (fun hb => ?_)
    · have hm0 : 0 < m := by simpa [std] using hb
      obtain ⟨i, rfl⟩ : ∃ i, j = i + 1 := ⟨j - 1, by omega⟩
      refine ok_bind (drawDelay_ok (s := s) h (by omega)) ?_
      rintro ⟨d, s1⟩ ⟨hd, h1⟩
      refine ok_gd (by show out.length + 1 ≤ 1073741824; omega) (ok_gd (pin_i64 (by show _ ≤ m - 1; omega) (by show m - 1 ≤ _; omega)) ?_)
      have := combs_draw i k (m - 1) (out ++ [d]) s1 (n + 32) h1 (by omega) (by omega) (by omega) (by simp; omega) (by omega) (by intro q hq; rcases List.mem_append.1 hq with g | g; exact ho q g; rw [List.mem_singleton.1 g]; exact hd)
      refine ok_mono this ?_
      rintro ⟨l, c, p, q⟩ ⟨⟨e1, e2⟩, e3⟩
      have e1 : l.length = (out ++ [d]).length + (m - 1).toNat := e1
      refine ⟨⟨?_, e2⟩, e3.more (by omega) (by omega)⟩
      show l.length = out.length + m.toNat
      rw [e1, List.length_append, List.length_singleton]; omega
    · have hm0 : ¬ 0 < m := by simpa [std] using hb
      refine ok_some ⟨⟨?_, ho⟩, h.more (by omega) hn⟩
      show out.length = out.length + m.toNat
      omega
theorem passes_draw : ∀ (j k : Nat) (m : Int) (out : List GPass) (s : Gl00Src) (n : Int), SrcOk s n → n + 8 * j ≤ 1000000000000 → m.toNat ≤ j → j < k → out.length + j ≤ 1000 → m ≤ 1000 →
    Ok (F_spec_l03DrawRoom_l1 std k m s.code s.pos s.seed out) fun r => r.1.length = out.length + m.toNat ∧ SrcOk ⟨r.2.1, r.2.2.1, r.2.2.2⟩ (n + 8 * j)
  | j, 0, m, out, s, n, h, hn, hj, hk, hl, hm => absurd hk (Nat.not_lt_zero _)
  | j, k + 1, m, out, s, n, h, hn, hj, hk, hl, hm => by
    rw [F_spec_l03DrawRoom_l1.eq_2]
    refine ok_cond (fun hb => ?_) (fun hb => ?_)
    · have hm0 : 0 < m := by simpa [std] using hb
      obtain ⟨i, rfl⟩ : ∃ i, j = i + 1 := ⟨j - 1, by omega⟩
      refine ok_bind (pick_ok (s := s) h (by omega) _) ?_
      rintro ⟨v, s1⟩ ⟨⟨v0, v1⟩, h1⟩
      have v0 : 0 ≤ v := v0
      have v1 : v < 6 ∨ v = 0 := v1
      refine ok_gd (pin_i64 (by show _ ≤ 1 + v; omega) (by show 1 + v ≤ _; omega)) ?_
      refine ok_bind (pick_ok h1 (by omega) _) ?_
      rintro ⟨u, s2⟩ ⟨⟨u0, u1⟩, h2⟩
      have u0 : 0 ≤ u := u0
      have u1 : u < 17 ∨ u = 0 := u1
      refine ok_gd (pin_i64 (by show _ ≤ u - 8; omega) (by show u - 8 ≤ _; omega)) ?_
      refine ok_gd (by show out.length + 1 ≤ 1073741824; omega) (ok_gd (pin_i64 (by show _ ≤ m - 1; omega) (by show m - 1 ≤ _; omega)) ?_)
      have := passes_draw i k (m - 1) (out ++ [GPass.mk (std.iadd 1 v) (std.fop .quo .f32 (std.fofI .f32 (std.isub u 8)) 1098907648)]) s2 (n + 4) (h2.more (by omega) (by omega)) (by omega) (by omega) (by omega) (by simp; omega) (by omega)
      refine ok_mono this ?_
      rintro ⟨l, c, p, q⟩ ⟨e1, e3⟩
      refine ⟨?_, e3.more (by omega) (by omega)⟩
      show l.length = out.length + m.toNat
      have e1 : l.length = (out ++ [_]).length + (m - 1).toNat := e1
      rw [e1, List.length_append, List.length_singleton]; omega
    · have hm0 : ¬ 0 < m := by simpa [std] using hb
      refine ok_some ⟨?_, h.more (by omega) hn⟩
      show out.length = out.length + m.toNat
      omega

theorem drawRoom_ok {s : Gl00Src} {n : Int} (h : SrcOk s n) (hn : n + 1000 ≤ 1000000000000) : Ok (F_spec_l03DrawRoom std s) fun r => r.1.Combs.length ≤ 10 ∧ r.1.Passes.length ≤ 10 := by
  unfold F_spec_l03DrawRoom
  refine ok_bind (pick_ok h (by omega) _) ?_
  rintro ⟨v, s1⟩ ⟨⟨v0, v1⟩, h1⟩
  have v0 : 0 ≤ v := v0
  have v1 : v < 3 ∨ v = 0 := v1
  refine ok_gd (pin_i64 (by show _ ≤ 1 + v; omega) (by show 1 + v ≤ _; omega)) ?_
  refine ok_bind (combs_draw 3 KK (1 + v) [] s1 (n + 2) h1 (by omega) (by omega) (by unfold KK; omega) (by simp) (by omega) (by simp)) ?_
  rintro ⟨cs, c, p, q⟩ ⟨⟨hcl, _⟩, h2⟩
  have hcl : cs.length = 0 + (1 + v).toNat := hcl
  refine ok_bind (pick_ok h2 (by omega) _) ?_
  rintro ⟨w, s3⟩ ⟨⟨w0, w1⟩, h3⟩
  have w0 : 0 ≤ w := w0
  have w1 : w < 3 ∨ w = 0 := w1
  refine ok_bind (passes_draw 3 KK w [] s3 (n + 2 + 32 * 3 + 2) (h3.more (by omega) (by omega)) (by omega) (by omega) (by unfold KK; omega) (by simp) (by omega)) ?_
  rintro ⟨ps, c', p', q'⟩ ⟨hpl, h4⟩
  have hpl : ps.length = 0 + w.toNat := hpl
  refine ok_bind (plain_ok h4 (by omega)) ?_
  rintro ⟨a, s5⟩ h5
  refine ok_bind (plain_ok h5 (by omega)) ?_
  rintro ⟨b, s6⟩ h6
  refine ok_bind (pick_ok h6 (by omega) _) ?_
  rintro ⟨u, s7⟩ ⟨_, h7⟩
  refine ok_cond (fun _ => ok_some ⟨by simp, by show ps.length ≤ 10; omega⟩) (fun _ => ok_cond (fun _ => ?_) (fun _ => ok_cond (fun _ => ?_) (fun _ => ok_some ⟨by show cs.length ≤ 10; omega, by show ps.length ≤ 10; omega⟩)))
  · refine ok_bind (among_ok h7 (by omega) _ (by decide)) ?_
    rintro ⟨L, s8⟩ _
    refine ok_gd (by simp only [sio]; omega) (ok_gd (by show 0 + Int.toNat 0 < cs.length; simp; omega) (ok_some ⟨?_, by show ps.length ≤ 10; omega⟩))
    show (cs.set _ _).length ≤ 10
    rw [List.length_set]; omega
  · refine ok_gd (by show ps.length + 1 ≤ 1073741824; omega) (ok_some ⟨by show cs.length ≤ 10; omega, ?_⟩)
    show (ps ++ [_]).length ≤ 10
    rw [List.length_append, List.length_singleton]; omega

theorem specLength_eq (n : Int) : F_spec_l03Length std n = some (decide (1 ≤ n ∧ n ≤ 64)) := by
  unfold F_spec_l03Length F_spec_l00In
  simp only [sio]
  by_cases h1 : 1 ≤ n
  · by_cases h2 : n ≤ 64 <;> simp [h1, h2]
  · simp [h1]
theorem is_l0 (r : GRoom) : ∀ (xs pre : List GDelay) (k : Nat), r.Combs = pre ++ xs → xs.length < k → r.Combs.length ≤ 1000 →
    F_spec_l03Is_l0 std r k (pre.length : Int) = some (.inl ()) ∨ (F_spec_l03Is_l0 std r k (pre.length : Int) = some (.inr ()) ∧ ∀ d ∈ xs, 1 ≤ d.Length ∧ d.Length ≤ 64)
  | _, _, 0, _, h, _ => absurd h (Nat.not_lt_zero _)
  | [], pre, k + 1, hr, h, h2 => by
    rw [F_spec_l03Is_l0.eq_2]
    have : std.ilt (pre.length : Int) (std.ofN (std.llen r.Combs)) = false := by rw [hr]; simp [std]
    rw [this]; right; exact ⟨rfl, by simp⟩
  | x :: xs, pre, k + 1, hr, h, h2 => by
    rw [F_spec_l03Is_l0.eq_2]
    simp only [List.length_cons] at h
    have hlen : r.Combs.length = pre.length + (xs.length + 1) := by rw [hr]; simp
    have e1 : std.ilt (pre.length : Int) (std.ofN (std.llen r.Combs)) = true := by simp only [sio, decide_eq_true_eq]; omega
    rw [e1]
    simp only [cond_true]
    have e2 : std.lget r.Combs (std.toN (pre.length : Int)) (GDelay.mk 0 0 0 0 false) = x := by simp only [sio, Int.toNat_natCast]; rw [hr]; exact getD_mid _ _ _ _
    rw [gdt (by simp only [sio]; omega), e2, specLength_eq]
    simp only [Option.bind_some]
    by_cases hx : 1 ≤ x.Length ∧ x.Length ≤ 64
    · simp only [hx, and_self, decide_true, Bool.not_true, cond_false]
      rw [gdt (pin_i64 (by simp only [sio]; omega) (by simp only [sio]; omega))]
      have := is_l0 r xs (pre ++ [x]) k (by rw [hr]; simp) (by omega) h2
      simp only [List.length_append, List.length_singleton] at this
      simp only [sio]
      rw [show ((pre.length : Int) + 1) = ((pre.length + 1 : Nat) : Int) by omega]
      rcases this with g | ⟨g, g2⟩
      · left; exact g
      · right; refine ⟨g, ?_⟩
        intro d hd
        rcases List.mem_cons.1 hd with e | e
        · rw [e]; exact hx
        · exact g2 d e
    · left
      have : decide (1 ≤ x.Length ∧ x.Length ≤ 64) = false := by simpa using hx
      rw [this]; rfl
theorem is_l1 (r : GRoom) : ∀ (xs pre : List GPass) (k : Nat), r.Passes = pre ++ xs → xs.length < k → r.Passes.length ≤ 1000 →
    F_spec_l03Is_l1 std r k (pre.length : Int) = some (.inl ()) ∨ (F_spec_l03Is_l1 std r k (pre.length : Int) = some (.inr ()) ∧ ∀ d ∈ xs, 1 ≤ d.Length ∧ d.Length ≤ 64)
  | _, _, 0, _, h, _ => absurd h (Nat.not_lt_zero _)
  | [], pre, k + 1, hr, h, h2 => by
    rw [F_spec_l03Is_l1.eq_2]
    have : std.ilt (pre.length : Int) (std.ofN (std.llen r.Passes)) = false := by rw [hr]; simp [std]
    rw [this]; right; exact ⟨rfl, by simp⟩
  | x :: xs, pre, k + 1, hr, h, h2 => by
    rw [F_spec_l03Is_l1.eq_2]
    simp only [List.length_cons] at h
    have hlen : r.Passes.length = pre.length + (xs.length + 1) := by rw [hr]; simp
    have e1 : std.ilt (pre.length : Int) (std.ofN (std.llen r.Passes)) = true := by simp only [sio, decide_eq_true_eq]; omega
    rw [e1]
    simp only [cond_true]
    have e2 : std.lget r.Passes (std.toN (pre.length : Int)) (GPass.mk 0 0) = x := by simp only [sio, Int.toNat_natCast]; rw [hr]; exact getD_mid _ _ _ _
    rw [gdt (by simp only [sio]; omega), e2, specLength_eq]
    simp only [Option.bind_some]
    by_cases hx : 1 ≤ x.Length ∧ x.Length ≤ 64
    · simp only [hx, and_self, decide_true, Bool.not_true, cond_false]
      rw [gdt (pin_i64 (by simp only [sio]; omega) (by simp only [sio]; omega))]
      have := is_l1 r xs (pre ++ [x]) k (by rw [hr]; simp) (by omega) h2
      simp only [List.length_append, List.length_singleton] at this
      simp only [sio]
      rw [show ((pre.length : Int) + 1) = ((pre.length + 1 : Nat) : Int) by omega]
      rcases this with g | ⟨g, g2⟩
      · left; exact g
      · right; refine ⟨g, ?_⟩
        intro d hd
        rcases List.mem_cons.1 hd with e | e
        · rw [e]; exact hx
        · exact g2 d e
    · left
      have : decide (1 ≤ x.Length ∧ x.Length ≤ 64) = false := by simpa using hx
      rw [this]; rfl
theorem is_ok (r : GRoom) (h1 : r.Combs.length ≤ 1000) (h2 : r.Passes.length ≤ 1000) : Ok (F_spec_l03Is std r) fun p => p.2 = r ∧ (p.1 = true → RoomOk r) := by
  unfold F_spec_l03Is
  have a := is_l0 r r.Combs [] KK rfl (by unfold KK; omega) h1
  have b := is_l1 r r.Passes [] KK rfl (by unfold KK; omega) h2
  rw [show ((([] : List GDelay).length : Nat) : Int) = 0 from rfl] at a
  rw [show ((([] : List GPass).length : Nat) : Int) = 0 from rfl] at b
  rcases a with a | ⟨a, a2⟩
  · rw [a]; exact ok_some ⟨rfl, fun h => by cases h⟩
  · rw [a]
    simp only [Option.bind_some]
    rcases b with b | ⟨b, b2⟩
    · rw [b]; exact ok_some ⟨rfl, fun h => by cases h⟩
    · rw [b]
      simp only [Option.bind_some]
      refine ok_cond (fun c1 => ok_cond (fun c2 => ok_some ⟨rfl, fun c3 => ?_⟩) (fun _ => ok_some ⟨rfl, fun h => by cases h⟩)) (fun _ => ok_some ⟨rfl, fun h => by cases h⟩)
      simp only [sio, decide_eq_true_eq] at c1 c2 c3
      refine ⟨by omega, by omega, by omega, ?_⟩
      intro n hn
      rcases List.mem_append.1 hn with g | g
      · obtain ⟨d, hd, rfl⟩ := List.mem_map.1 g; exact a2 d hd
      · obtain ⟨d, hd, rfl⟩ := List.mem_map.1 g; exact b2 d hd

theorem room_ok {l : List Int} (h : ∀ x ∈ l, 0 ≤ x ∧ x ≤ 255) : Ok (F_spec_B10Room std l) RoomOk := by
  unfold F_spec_B10Room F_spec_l00From
  simp only [Option.bind_some]
  refine ok_bind (drawRoom_ok (src0 h) (by omega)) ?_
  rintro ⟨r, s⟩ ⟨h1, h2⟩
  have h1 : r.Combs.length ≤ 10 := h1
  have h2 : r.Passes.length ≤ 10 := h2
  refine ok_bind (is_ok r (by omega) (by omega)) ?_
  rintro ⟨b, r'⟩ ⟨e1, e2⟩
  have e1 : r' = r := e1
  subst e1
  refine ok_cond (fun _ => ok_some ⟨by simp, by simp, by simp, by simp [roomLens]⟩) (fun hb => ok_some (e2 ?_))
  show b = true
  simpa using hb

/- one delay -/
theorem room_sample {z y : Nat} (hz : z = 0 ∨ z = 2147483648) (hy : y < 4294967296) :
    std.fcmp .eql .f32 (std.fop .add .f32 z (std.fop .mul .f32 1065353216 (std.fop .add .f32 0 y))) y = true ∨
    (std.fcmp .eql .f32 (std.fop .add .f32 z (std.fop .mul .f32 1065353216 (std.fop .add .f32 0 y))) y = false ∧
      std.fcmp .neq .f32 (std.fop .add .f32 z (std.fop .mul .f32 1065353216 (std.fop .add .f32 0 y))) (std.fop .add .f32 z (std.fop .mul .f32 1065353216 (std.fop .add .f32 0 y))) = true ∧ std.fcmp .neq .f32 y y = true) := by
  cases hn : isN .f32 y with
  | true =>
    right
    have n0 : isN .f32 (nanOf .f32) = true := by decide
    rw [fop_nan (op := .add) (x := 0) (.inr hn), fop_nan (op := .mul) (.inr n0), fop_nan (op := .add) (.inr n0)]
    refine ⟨?_, neq_nan n0, neq_nan hn⟩
    show fc .eql .f32 (nanOf .f32) y = false
    unfold fc
    rw [order_nan_l n0]; rfl
  | false =>
    left
    have key : ∀ t, t < 4294967296 → isN .f32 t = false → (t = y ∨ ((y = 0 ∨ y = 2147483648) ∧ (t = 0 ∨ t = 2147483648))) → std.fcmp .eql .f32 (std.fop .add .f32 z (std.fop .mul .f32 1065353216 t)) y = true := by
      intro t ht htn hty
      rw [one_mul ht htn]
      rcases zero_add hz ht htn with e | ⟨e1, e2⟩
      · rw [e]
        rcases hty with g | ⟨g1, g2⟩
        · rw [g]; exact eql_refl hn
        · rcases g1 with rfl | rfl <;> rcases g2 with rfl | rfl <;> decide
      · have hy0 : y = 0 ∨ y = 2147483648 := by
          rcases hty with g | ⟨g1, _⟩
          · rw [← g]; exact e1
          · exact g1
        rcases e2 with e2 | e2 <;> rw [e2] <;> rcases hy0 with rfl | rfl <;> decide
    rcases zero_add (.inl rfl) hy hn with e | ⟨e1, e2⟩
    · rw [e]; exact key y hy hn (.inl rfl)
    · rcases e2 with e2 | e2
      · rw [e2]; exact key 0 (by decide) (by decide) (.inr ⟨e1, .inl rfl⟩)
      · rw [e2]; exact key 2147483648 (by decide) (by decide) (.inr ⟨e1, .inr rfl⟩)

theorem single_runs (d : GDelay) : ∀ (xs l : List Nat), (runS (roomN ⟨[d], [], 0, 1065353216⟩) [l] xs).1 =
    List.zipWith (fun x y => std.fop .add .f32 (std.fop .mul .f32 0 x) (std.fop .mul .f32 1065353216 (std.fop .add .f32 0 y))) xs (runS (dstep d) l xs).1
  | [], l => rfl
  | x :: xs, l => by
    simp only [runS, List.zipWith_cons_cons]
    have e : (roomN ⟨[d], [], 0, 1065353216⟩ [l] x).2 = [(dstep d l x).2] := rfl
    rw [e, single_runs d xs]
    rfl
theorem dstep_lt (d : GDelay) : ∀ (xs l : List Nat), ∀ y ∈ (runS (dstep d) l xs).1, y < 4294967296
  | [], l, y, h => by simp [runS] at h
  | x :: xs, l, y, h => by
    simp only [runS, List.mem_cons] at h
    rcases h with h | h
    · rw [h]; exact fop_lt _ _ _
    · exact dstep_lt d xs _ y h

theorem compare_l (v4 ys : List Nat) (hl : v4.length = ys.length) (hlt : ∀ y ∈ ys, y < 4294967296) (hle : v4.length ≤ 1000) :
    ∀ (j k i : Nat), j < k → v4.length = i + j →
    F_laws_FnRooms_l1 std v4 (List.zipWith (fun x y => std.fop .add .f32 (std.fop .mul .f32 0 x) (std.fop .mul .f32 1065353216 (std.fop .add .f32 0 y))) v4 ys) ys k (i : Int) = some (.inr ())
  | _, 0, _, h, _ => absurd h (Nat.not_lt_zero _)
  | 0, k + 1, i, h, h1 => by
    rw [F_laws_FnRooms_l1.eq_2]
    have : std.ilt (i : Int) (std.ofN (std.llen (List.zipWith (fun x y => std.fop .add .f32 (std.fop .mul .f32 0 x) (std.fop .mul .f32 1065353216 (std.fop .add .f32 0 y))) v4 ys))) = false := by
      simp only [sio, decide_eq_false_iff_not, List.length_zipWith]; omega
    rw [this]; rfl
  | j + 1, k + 1, i, h, h1 => by
    rw [F_laws_FnRooms_l1.eq_2]
    have ih := compare_l v4 ys hl hlt hle j k (i + 1) (by omega) (by omega)
    have hz : (List.zipWith (fun x y => std.fop .add .f32 (std.fop .mul .f32 0 x) (std.fop .mul .f32 1065353216 (std.fop .add .f32 0 y))) v4 ys).length = v4.length := by simp; omega
    have hi : i < v4.length := by omega
    have hi2 : i < ys.length := by omega
    have q1 : std.lget v4 (std.nadd 0 (std.toN (i : Int))) 0 = v4[i] := by
      simp only [sio, Int.toNat_natCast, Nat.zero_add]; rw [List.getD_eq_getElem?_getD, List.getElem?_eq_getElem hi]; rfl
    have q2 : std.lget ys (std.nadd 0 (std.toN (i : Int))) 0 = ys[i] := by
      simp only [sio, Int.toNat_natCast, Nat.zero_add]; rw [List.getD_eq_getElem?_getD, List.getElem?_eq_getElem hi2]; rfl
    have q3 : std.lget (List.zipWith (fun x y => std.fop .add .f32 (std.fop .mul .f32 0 x) (std.fop .mul .f32 1065353216 (std.fop .add .f32 0 y))) v4 ys) (std.nadd 0 (std.toN (i : Int))) 0 =
        std.fop .add .f32 (std.fop .mul .f32 0 v4[i]) (std.fop .mul .f32 1065353216 (std.fop .add .f32 0 ys[i])) := by
      simp only [sio, Int.toNat_natCast, Nat.zero_add]
      rw [List.getD_eq_getElem?_getD, List.getElem?_eq_getElem (by omega), Option.getD_some, List.getElem_zipWith]
    generalize hZ : (List.zipWith (fun x y => std.fop .add .f32 (std.fop .mul .f32 0 x) (std.fop .mul .f32 1065353216 (std.fop .add .f32 0 y))) v4 ys) = Z at hz q3 ih ⊢
    have e1 : std.ilt (i : Int) (std.ofN (std.llen Z)) = true := by simp only [sio, decide_eq_true_eq]; omega
    rw [e1]
    simp only [cond_true]
    have p1 : std.pIdx (i : Int) (std.llen v4) := by simp only [sio]; omega
    have p2 : std.pNlt (std.nadd 0 (std.toN (i : Int))) (std.llen v4) := by simp only [sio, Int.toNat_natCast]; omega
    have p3 : std.pIdx (i : Int) (std.llen Z) := by simp only [sio]; omega
    have p4 : std.pNlt (std.nadd 0 (std.toN (i : Int))) (std.llen Z) := by simp only [sio, Int.toNat_natCast]; omega
    have p5 : std.pIdx (i : Int) (std.llen ys) := by simp only [sio]; omega
    have p6 : std.pNlt (std.nadd 0 (std.toN (i : Int))) (std.llen ys) := by simp only [sio, Int.toNat_natCast]; omega
    have p7 : std.pIn .i64 (std.iadd (i : Int) 1) := pin_i64 (by simp only [sio]; omega) (by simp only [sio]; omega)
    have ei : std.iadd (i : Int) 1 = ((i + 1 : Nat) : Int) := by simp only [sio]; omega
    have p8 : std.pIn .i64 ((i + 1 : Nat) : Int) := pin_i64 (by omega) (by omega)
    rw [gdt p1, gdt p2, q1]
    unfold F_spec_IsFinite F_spec_l01Finite
    simp only [Option.bind_some, gdt p3, gdt p4, gdt p5, gdt p6, q2, q3, ei, gdt p8, ih]
    cases hf : std.fcmp .eql .f32 (std.fop .sub .f32 v4[i] v4[i]) 0 with
    | false => rfl
    | true =>
      simp only [cond_true]
      rcases room_sample (zero_mul (finite_num hf)) (hlt _ (List.getElem_mem hi2)) with g | ⟨g1, g2, g3⟩
      · rw [g]; rfl
      · rw [g1, g2, g3]; rfl

theorem sameLines_l (ls : List (List Nat)) (h : ∀ l ∈ ls, l.length ≤ 1000) : ∀ (xs pre : List (List Nat)) (k : Nat), ls = pre ++ xs → xs.length < k → ls.length ≤ 1000 → F_laws_FnRooms_l0 std ls ls k (pre.length : Int) = some (.inr ())
  | _, _, 0, _, h, _ => absurd h (Nat.not_lt_zero _)
  | [], pre, k + 1, hr, h1, h2 => by
    rw [F_laws_FnRooms_l0.eq_2]
    have : std.ilt (pre.length : Int) (std.ofN (std.llen ls)) = false := by rw [hr]; simp [std]
    rw [this]; rfl
  | x :: xs, pre, k + 1, hr, h1, h2 => by
    rw [F_laws_FnRooms_l0.eq_2]
    simp only [List.length_cons] at h1
    have hlen : ls.length = pre.length + (xs.length + 1) := by rw [hr]; simp
    have e1 : std.ilt (pre.length : Int) (std.ofN (std.llen ls)) = true := by simp only [sio, decide_eq_true_eq]; omega
    rw [e1]
    simp only [cond_true]
    have e2 : std.lget ls (std.nadd 0 (std.toN (pre.length : Int))) [] = x := by simp only [sio, Int.toNat_natCast, Nat.zero_add]; rw [hr]; exact getD_mid _ _ _ _
    have p1 : std.pIdx (pre.length : Int) (std.llen ls) := by simp only [sio]; omega
    have p2 : std.pNlt (std.nadd 0 (std.toN (pre.length : Int))) (std.llen ls) := by simp only [sio, Int.toNat_natCast]; omega
    rw [gdt p1, gdt p2, gdt p1, gdt p2, e2, b10same_eq x (h x (by rw [hr]; simp))]
    simp only [Option.bind_some, Bool.not_true, cond_false]
    rw [gdt (pin_i64 (by simp only [sio]; omega) (by simp only [sio]; omega))]
    have := sameLines_l ls h xs (pre ++ [x]) k (by rw [hr]; simp) (by omega) h2
    simp only [List.length_append, List.length_singleton] at this
    simp only [sio]
    rw [show ((pre.length : Int) + 1) = ((pre.length + 1 : Nat) : Int) by omega, this]

theorem runS_ok (r : GRoom) (hr : RoomOk r) (ls : List (List Nat)) (hl : LinesOk r ls) (xs : List Nat) : LinesOk r (runS (roomN r) ls xs).2 :=
  runS_inv (roomN r) (LinesOk r) (fun s x h => roomN_ok r hr s x h) xs ls hl
theorem knock_eq (m : Nat) (h : 1 ≤ m) (hm : m ≤ 256) : F_impl_impulse std (m : Int) = some ((List.replicate m 0).set 0 1065353216) := by
  unfold F_impl_impulse
  rw [zerosN_eq _ (by omega)]
  simp only [Option.bind_some, Int.toNat_natCast]
  have e : std.ilt 0 (m : Int) = true := by simp only [sio, decide_eq_true_eq]; omega
  rw [e]
  simp only [cond_true]
  rw [gdt (by simp only [sio, List.length_replicate]; omega), gdt (by simp only [sio, List.length_replicate, Int.toNat_zero]; omega)]
  rfl

theorem pure_FnRooms (l0 l1 : List Int) (w0 : ∀ x ∈ l0, (Lit.int .u8 x).wf = true) (w1 : ∀ x ∈ l1, (Lit.int .u8 x).wf = true) (n0 : l0.length ≤ maxLen) (n1 : l1.length ≤ maxLen) :
    F_laws_FnRooms std l0 l1 = some true := by
  have b0 := wf_u8 w0
  have b1 := wf_u8 w1
  unfold F_laws_FnRooms
  obtain ⟨b, hb⟩ := b10Long_some l0 l1
  rw [hb]
  cases b with
  | true => rfl
  | false =>
  simp only [Option.bind_some, cond_false]
  obtain ⟨r, hr, hok⟩ := room_ok b0
  obtain ⟨m, hm, hm0, hm1⟩ := b10At_ok b1 0 20 (by omega) (by omega) (by omega)
  obtain ⟨N, rfl⟩ : ∃ N : Nat, m = (N : Int) := ⟨m.toNat, by omega⟩
  have eN : std.iadd 1 (N : Int) = ((N + 1 : Nat) : Int) := by simp only [sio]; omega
  rw [hr, hm]
  simp only [Option.bind_some, eN]
  rw [gdt (pin_i64 (by omega) (by omega))]
  obtain ⟨xs, hx, hxl⟩ := numbers_ok b1 ((N + 1 : Nat) : Int) (by omega)
  have hxl : xs.length = N + 1 := by rw [hxl]; omega
  have eN2 : std.iadd ((N + 1 : Nat) : Int) 1 = ((N + 2 : Nat) : Int) := by simp only [sio]; omega
  rw [hx]
  simp only [Option.bind_some, eN2]
  rw [gdt (pin_i64 (by omega) (by omega))]
  obtain ⟨c, hc, hc0, hc1⟩ := b10At_ok b1 1 ((N + 2 : Nat) : Int) (by omega) (by omega) (by omega)
  obtain ⟨C, rfl⟩ : ∃ C : Nat, c = (C : Int) := ⟨c.toNat, by omega⟩
  have hCN : C ≤ N + 1 := by omega
  have cut1 : std.lsub xs (std.nadd 0 0) (std.nadd (std.nadd 0 0) (std.nsub (std.toN (C : Int)) 0)) = xs.take C := by simp [sio]
  have cut2 : std.lsub xs (std.nadd 0 (std.toN (C : Int))) (std.nadd (std.nadd 0 (std.toN (C : Int))) (std.nsub (std.llen xs) (std.toN (C : Int)))) = xs.drop C := by
    simp only [sio, Int.toNat_natCast, Nat.zero_add]
    rw [List.take_of_length_le (by rw [List.length_drop]; omega)]
  have g1 : std.pLe 0 (C : Int) := by simp only [sio]; omega
  have g2 : std.pNle (std.toN (C : Int)) (std.llen xs) := by simp only [sio, Int.toNat_natCast]; omega
  have hE := emptyN_ok r hok
  have hT : (xs.take C).length ≤ 256 := by rw [List.length_take]; omega
  have hD : (xs.drop C).length ≤ 256 := by rw [List.length_drop]; omega
  rw [hc, emptyRoom_eq r hok]
  simp only [Option.bind_some, cut1, cut2, gdt g1, gdt g2]
  rw [runRoom_eq r hok _ hE xs (by omega)]
  simp only [Option.bind_some]
  rw [runRoom_eq r hok _ hE _ hT]
  simp only [Option.bind_some]
  rw [runRoom_eq r hok _ (runS_ok r hok _ hE _) _ hD]
  simp only [Option.bind_some, Bool.not_true, cond_false]
  rw [valid_eq r hok]
  simp only [Option.bind_some, Bool.not_true, cond_false]
  have app := runS_append (roomN r) (xs.take C) (xs.drop C) (emptyN r)
  rw [List.take_append_drop] at app
  have app1 : std.lapp (std.lapp [] (runS (roomN r) (emptyN r) (xs.take C)).1) (runS (roomN r) (runS (roomN r) (emptyN r) (xs.take C)).2 (xs.drop C)).1 = (runS (roomN r) (emptyN r) xs).1 := by
    rw [app]; simp [sio]
  have app2 : (runS (roomN r) (runS (roomN r) (emptyN r) (xs.take C)).2 (xs.drop C)).2 = (runS (roomN r) (emptyN r) xs).2 := by rw [app]
  rw [gdt (by simp only [sio]; rw [runS_len, List.length_take]; omega), gdt (by simp only [sio]; rw [runS_len, runS_len, List.length_take, List.length_drop]; omega), app1, b10same_eq _ (by rw [runS_len]; omega)]
  simp only [Option.bind_some, Bool.not_true, cond_false, app2]
  have e1 : std.ieq (std.ofN (std.llen (runS (roomN r) (emptyN r) xs).2)) (std.ofN (std.llen (runS (roomN r) (emptyN r) xs).2)) = true := by simp [sio]
  rw [e1]
  simp only [Bool.not_true, cond_false]
  have hR := runS_ok r hok _ hE xs
  have c1 := hok.c1
  have c2 := hok.c2
  have c3 := hok.p
  have s1 := sameLines_l (runS (roomN r) (emptyN r) xs).2 (fun l h => by have := (hR.each hok l h).2; omega) (runS (roomN r) (emptyN r) xs).2 [] KK rfl (by rw [hR.len]; unfold KK; omega) (by rw [hR.len]; omega)
  rw [show ((([] : List (List Nat)).length : Nat) : Int) = 0 from rfl] at s1
  rw [s1]
  simp only [Option.bind_some]
  rw [gdt (by simp only [sio]; omega), gdt (by simp only [sio]; omega), gdt (by simp only [sio]; omega), gdt (by simp only [sio]; omega), gdt (by simp only [sio]; omega)]
  have hknock : std.lset (std.lrep (std.toN ((N + 1 : Nat) : Int)) 0) (std.nadd 0 (std.toN 0)) 1065353216 = (List.replicate (N + 1) 0).set 0 1065353216 := by
    simp only [sio, Int.toNat_natCast]; rfl
  have hkl : ((List.replicate (N + 1) 0).set 0 1065353216).length = N + 1 := by simp
  have ans : F_impl_AnswerOf std r ((N + 1 : Nat) : Int) = some ((runS (roomN r) (emptyN r) ((List.replicate (N + 1) 0).set 0 1065353216)).1, true) := by
    unfold F_impl_AnswerOf
    rw [valid_eq r hok]
    have hw : F_impl_within std ((N + 1 : Nat) : Int) 1 256 = some true := by
      unfold F_impl_within
      have a1 : std.ile 1 ((N + 1 : Nat) : Int) = true := by simp only [sio, decide_eq_true_eq]; omega
      have a2 : std.ile ((N + 1 : Nat) : Int) 256 = true := by simp only [sio, decide_eq_true_eq]; omega
      rw [a1, a2]; rfl
    rw [hw]
    simp only [Option.bind_some, Bool.not_true, cond_false]
    rw [room_empty_eq r hok]
    simp only [Option.bind_some]
    rw [knock_eq (N + 1) (by omega) (by omega)]
    simp only [Option.bind_some]
    rw [roomrun_eq r hok _ hE _ (by rw [hkl]; omega)]
    rfl
  rw [ans, hknock]
  simp only [Option.bind_some]
  rw [runRoom_eq r hok _ hE _ (by rw [hkl]; omega)]
  simp only [Option.bind_some, Bool.not_true, cond_false]
  rw [b10same_eq _ (by rw [runS_len, hkl]; omega)]
  simp only [Option.bind_some, Bool.not_true, cond_false]
  rw [gdt (by simp only [sio]; omega), gdt (by simp only [sio]; omega), gdt (by simp only [sio]; omega)]
  obtain ⟨d, ds, hds⟩ : ∃ d ds, r.Combs = d :: ds := by
    cases hC : r.Combs with
    | nil => rw [hC] at c1; simp at c1
    | cons d ds => exact ⟨d, ds, rfl⟩
  have hd : std.lget r.Combs (std.toN 0) (GDelay.mk 0 0 0 0 false) = d := by rw [hds]; rfl
  have hd1 : std.lsub r.Combs 0 (std.toN 1) = [d] := by rw [hds]; simp [sio]
  have hdl := hok.l d.Length (by unfold roomLens; rw [hds]; simp)
  rw [hd, hd1]
  have hempty : F_impl_EmptyLine std d.Length = some (List.replicate d.Length.toNat 0, true) := by
    unfold F_impl_EmptyLine
    rw [isLength_eq _ hdl.1 hdl.2]
    simp only [Option.bind_some, Bool.not_true, cond_false]
    rw [zerosN_eq _ (by omega)]
    rfl
  rw [hempty]
  simp only [Option.bind_some]
  have sok : RoomOk ⟨[d], [], 0, 1065353216⟩ := ⟨by simp, by simp, by simp, by simpa [roomLens] using hdl⟩
  have slo : LinesOk ⟨[d], [], 0, 1065353216⟩ [List.replicate d.Length.toNat 0] := by simp [LinesOk, roomLens]; omega
  rw [runRoom_eq _ sok _ slo xs (by omega)]
  simp only [Option.bind_some]
  rw [gdt (by simp only [sio]; omega)]
  have hrd := runDelay_eq d (List.replicate d.Length.toNat 0) xs hdl.1 hdl.2 (by simp; omega) (by omega)
  rw [show (GDelay.mk d.Length d.Feedback d.Dry d.Wet d.Flush) = d from rfl, hrd]
  simp only [Option.bind_some, Bool.not_true, cond_false]
  have e2 : std.ieq (std.ofN (std.llen (runS (roomN ⟨[d], [], 0, 1065353216⟩) [List.replicate d.Length.toNat 0] xs).1)) (std.ofN (std.llen (runS (dstep d) (List.replicate d.Length.toNat 0) xs).1)) = true := by
    simp only [sio, beq_iff_eq]; rw [runS_len, runS_len]
  rw [e2]
  simp only [Bool.not_true, cond_false]
  rw [single_runs]
  have cmp := compare_l xs (runS (dstep d) (List.replicate d.Length.toNat 0) xs).1 (by rw [runS_len]) (dstep_lt d xs _) (by omega) xs.length KK 0 (by unfold KK; omega) (by omega)
  rw [show ((0 : Nat) : Int) = 0 from rfl] at cmp
  rw [cmp]
  rfl

end Go.Desk
