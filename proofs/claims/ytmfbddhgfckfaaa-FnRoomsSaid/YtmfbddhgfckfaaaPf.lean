/- Plain laws: rooms. -/
import Derived.Test.YtmfbddhgfckfaaaPe
namespace Go.Desk
open Go Go.IntWalk
set_option linter.all false
set_option maxRecDepth 100000

def roomLens (r : GRoom) : List Int := r.Combs.map (·.Length) ++ r.Passes.map (·.Length)
structure RoomOk (r : GRoom) : Prop where
  c1 : 1 ≤ r.Combs.length
  c2 : r.Combs.length ≤ 4
  p : r.Passes.length ≤ 3
  l : ∀ n ∈ roomLens r, 1 ≤ n ∧ n ≤ 64

theorem lengths_l0 (r : GRoom) : ∀ (xs pre : List GDelay) (out : List Int) (k : Nat), r.Combs = pre ++ xs → xs.length < k → out.length + xs.length ≤ 1000 → pre.length + xs.length ≤ 1000 →
    F_impl_Room_lengths_l0 std r k out (pre.length : Int) = some (out ++ xs.map (·.Length))
  | _, _, _, 0, _, h, _, _ => absurd h (Nat.not_lt_zero _)
  | [], pre, out, k + 1, hr, h, h1, h2 => by
    rw [F_impl_Room_lengths_l0.eq_2]
    have : std.ilt (pre.length : Int) (std.ofN (std.llen r.Combs)) = false := by rw [hr]; simp [std]
    rw [this]; simp
  | x :: xs, pre, out, k + 1, hr, h, h1, h2 => by
    rw [F_impl_Room_lengths_l0.eq_2]
    simp only [List.length_cons] at h h1 h2
    have hlen : r.Combs.length = pre.length + (xs.length + 1) := by rw [hr]; simp
    have e1 : std.ilt (pre.length : Int) (std.ofN (std.llen r.Combs)) = true := by simp only [sio, decide_eq_true_eq]; omega
    rw [e1]
    simp only [cond_true]
    have e2 : std.lget r.Combs (std.toN (pre.length : Int)) (GDelay.mk 0 0 0 0 false) = x := by simp only [sio, Int.toNat_natCast]; rw [hr]; exact getD_mid _ _ _ _
    rw [gdt (by simp only [sio]; omega), gdt (by simp only [sio]; omega), gdt (pin_i64 (by simp only [sio]; omega) (by simp only [sio]; omega)), e2]
    have := lengths_l0 r xs (pre ++ [x]) (out ++ [x.Length]) k (by rw [hr]; simp) (by omega) (by simp; omega) (by simp; omega)
    simp only [List.length_append, List.length_singleton] at this
    simp only [sio]
    rw [show ((pre.length : Int) + 1) = ((pre.length + 1 : Nat) : Int) by omega, this]
    simp
theorem lengths_l1 (r : GRoom) : ∀ (xs pre : List GPass) (out : List Int) (k : Nat), r.Passes = pre ++ xs → xs.length < k → out.length + xs.length ≤ 1000 → pre.length + xs.length ≤ 1000 →
    F_impl_Room_lengths_l1 std r k out (pre.length : Int) = some (out ++ xs.map (·.Length))
  | _, _, _, 0, _, h, _, _ => absurd h (Nat.not_lt_zero _)
  | [], pre, out, k + 1, hr, h, h1, h2 => by
    rw [F_impl_Room_lengths_l1.eq_2]
    have : std.ilt (pre.length : Int) (std.ofN (std.llen r.Passes)) = false := by rw [hr]; simp [std]
    rw [this]; simp
  | x :: xs, pre, out, k + 1, hr, h, h1, h2 => by
    rw [F_impl_Room_lengths_l1.eq_2]
    simp only [List.length_cons] at h h1 h2
    have hlen : r.Passes.length = pre.length + (xs.length + 1) := by rw [hr]; simp
    have e1 : std.ilt (pre.length : Int) (std.ofN (std.llen r.Passes)) = true := by simp only [sio, decide_eq_true_eq]; omega
    rw [e1]
    simp only [cond_true]
    have e2 : std.lget r.Passes (std.toN (pre.length : Int)) (GPass.mk 0 0) = x := by simp only [sio, Int.toNat_natCast]; rw [hr]; exact getD_mid _ _ _ _
    rw [gdt (by simp only [sio]; omega), gdt (by simp only [sio]; omega), gdt (pin_i64 (by simp only [sio]; omega) (by simp only [sio]; omega)), e2]
    have := lengths_l1 r xs (pre ++ [x]) (out ++ [x.Length]) k (by rw [hr]; simp) (by omega) (by simp; omega) (by simp; omega)
    simp only [List.length_append, List.length_singleton] at this
    simp only [sio]
    rw [show ((pre.length : Int) + 1) = ((pre.length + 1 : Nat) : Int) by omega, this]
    simp
theorem lengths_eq (r : GRoom) (h1 : r.Combs.length ≤ 100) (h2 : r.Passes.length ≤ 100) : F_impl_Room_lengths std r = some (roomLens r) := by
  unfold F_impl_Room_lengths
  have a := lengths_l0 r r.Combs [] [] KK rfl (by unfold KK; omega) (by simp; omega) (by simp; omega)
  have b := lengths_l1 r r.Passes [] (r.Combs.map (·.Length)) KK rfl (by unfold KK; omega) (by simp; omega) (by simp; omega)
  simp only [List.nil_append, List.length_nil] at a b
  rw [show ((0 : Nat) : Int) = 0 from rfl] at a b
  rw [a]
  simp only [Option.bind_some]
  rw [b]
  rfl

theorem within_l (l : List Int) (h : ∀ n ∈ l, 1 ≤ n ∧ n ≤ 64) : ∀ (xs pre : List Int) (k : Nat), l = pre ++ xs → xs.length < k → l.length ≤ 1000 → F_impl_allWithin_l0 std l 1 64 k (pre.length : Int) = some (.inr ())
  | _, _, 0, _, h, _ => absurd h (Nat.not_lt_zero _)
  | [], pre, k + 1, hr, h1, h2 => by
    rw [F_impl_allWithin_l0.eq_2]
    have : std.ilt (pre.length : Int) (std.ofN (std.llen l)) = false := by rw [hr]; simp [std]
    rw [this]; rfl
  | x :: xs, pre, k + 1, hr, h1, h2 => by
    rw [F_impl_allWithin_l0.eq_2]
    have hlen : l.length = pre.length + (xs.length + 1) := by rw [hr]; simp
    have e1 : std.ilt (pre.length : Int) (std.ofN (std.llen l)) = true := by simp only [sio, decide_eq_true_eq]; omega
    rw [e1]
    simp only [cond_true]
    have e2 : std.lget l (std.toN (pre.length : Int)) 0 = x := by simp only [sio, Int.toNat_natCast]; rw [hr]; exact getD_mid _ _ _ _
    have hx := h x (by rw [hr]; simp)
    have e3 : F_impl_within std x 1 64 = some true := by unfold F_impl_within; simp [sio, hx.1, hx.2]
    rw [gdt (by simp only [sio]; omega), e2, e3]
    simp only [Option.bind_some, Bool.not_true, cond_false]
    rw [gdt (pin_i64 (by simp only [sio]; omega) (by simp only [sio]; omega))]
    simp only [List.length_cons] at h1
    have := within_l l h xs (pre ++ [x]) k (by rw [hr]; simp) (by omega) h2
    simp only [List.length_append, List.length_singleton] at this
    simp only [sio]
    rw [show ((pre.length : Int) + 1) = ((pre.length + 1 : Nat) : Int) by omega, this]
theorem roomLens_len (r : GRoom) : (roomLens r).length = r.Combs.length + r.Passes.length := by unfold roomLens; simp
theorem valid_eq (r : GRoom) (h : RoomOk r) : F_impl_ValidRoom std r = some true := by
  have h1 := h.c1
  have h2 := h.c2
  have h3 := h.p
  unfold F_impl_ValidRoom F_impl_size F_impl_within F_impl_allWithin
  have e1 : std.ile 1 (std.ofN (std.llen r.Combs)) = true := by simp only [sio, decide_eq_true_eq]; omega
  have e2 : std.ile (std.ofN (std.llen r.Combs)) 4 = true := by simp only [sio, decide_eq_true_eq]; omega
  have e3 : std.ile (std.ofN (std.llen r.Passes)) 3 = true := by simp only [sio, decide_eq_true_eq]; omega
  simp only [Option.bind_some, e1, e2, e3, cond_true]
  rw [lengths_eq _ (by omega) (by omega)]
  simp only [Option.bind_some]
  have := within_l (roomLens r) h.l (roomLens r) [] KK rfl (by rw [roomLens_len]; unfold KK; omega) (by rw [roomLens_len]; omega)
  rw [show ((([] : List Int).length : Nat) : Int) = 0 from rfl] at this
  rw [this]; rfl

def LinesOk (r : GRoom) (ls : List (List Nat)) : Prop := ls.map (fun l => (l.length : Int)) = roomLens r
theorem LinesOk.len {r : GRoom} {ls : List (List Nat)} (h : LinesOk r ls) : ls.length = r.Combs.length + r.Passes.length := by
  have := congrArg List.length h
  rw [List.length_map, roomLens_len] at this; exact this
theorem LinesOk.each {r : GRoom} {ls : List (List Nat)} (h : LinesOk r ls) (hr : RoomOk r) : ∀ l ∈ ls, 1 ≤ l.length ∧ l.length ≤ 64 := by
  intro l hl
  have : ((l.length : Nat) : Int) ∈ roomLens r := by rw [← h]; exact List.mem_map.2 ⟨l, hl, rfl⟩
  have := hr.l _ this
  omega

theorem lines_l (ls : List (List Nat)) (lens : List Int) (h : ls.map (fun l => (l.length : Int)) = lens) : ∀ (xs pre : List (List Nat)) (k : Nat), ls = pre ++ xs → xs.length < k → ls.length ≤ 1000 →
    F_impl_Room_areLines_l0 std ls lens k (pre.length : Int) = some (.inr ())
  | _, _, 0, _, h, _ => absurd h (Nat.not_lt_zero _)
  | [], pre, k + 1, hr, h1, h2 => by
    rw [F_impl_Room_areLines_l0.eq_2]
    have : std.ilt (pre.length : Int) (std.ofN (std.llen ls)) = false := by rw [hr]; simp [std]
    rw [this]; rfl
  | x :: xs, pre, k + 1, hr, h1, h2 => by
    rw [F_impl_Room_areLines_l0.eq_2]
    have hlen : ls.length = pre.length + (xs.length + 1) := by rw [hr]; simp
    have hl2 : lens.length = ls.length := by rw [← h]; simp
    have e1 : std.ilt (pre.length : Int) (std.ofN (std.llen ls)) = true := by simp only [sio, decide_eq_true_eq]; omega
    rw [e1]
    simp only [cond_true]
    have e2 : std.lget ls (std.toN (pre.length : Int)) [] = x := by simp only [sio, Int.toNat_natCast]; rw [hr]; exact getD_mid _ _ _ _
    have e3 : std.lget lens (std.nadd 0 (std.toN (pre.length : Int))) 0 = (x.length : Int) := by
      simp only [sio, Int.toNat_natCast, Nat.zero_add]
      have : lens = pre.map (fun l => (l.length : Int)) ++ (x.length : Int) :: xs.map (fun l => (l.length : Int)) := by rw [← h, hr]; simp
      rw [this]
      have := getD_mid (pre.map (fun l => (l.length : Int))) (xs.map (fun l => (l.length : Int))) (x.length : Int) 0
      rw [List.length_map] at this; exact this
    rw [gdt (by simp only [sio]; omega), e2, e3]
    unfold F_impl_size
    simp only [Option.bind_some]
    rw [gdt (by simp only [sio]; omega), gdt (by simp only [sio, Int.toNat_natCast]; omega)]
    have e4 : std.ieq (std.ofN (std.llen x)) (x.length : Int) = true := by simp [sio]
    rw [e4]
    simp only [Bool.not_true, cond_false]
    rw [gdt (pin_i64 (by simp only [sio]; omega) (by simp only [sio]; omega))]
    simp only [List.length_cons] at h1
    have := lines_l ls lens h xs (pre ++ [x]) k (by rw [hr]; simp) (by omega) h2
    simp only [List.length_append, List.length_singleton] at this
    simp only [sio]
    rw [show ((pre.length : Int) + 1) = ((pre.length + 1 : Nat) : Int) by omega, this]
theorem areLines_eq (r : GRoom) (ls : List (List Nat)) (h : RoomOk r) (hl : LinesOk r ls) : F_impl_Room_areLines std r ls = some true := by
  have h2 := h.c2
  have h3 := h.p
  have h4 := hl.len
  unfold F_impl_Room_areLines
  rw [lengths_eq _ (by omega) (by omega)]
  simp only [Option.bind_some]
  have e : std.ieq (std.ofN (std.llen ls)) (std.ofN (std.llen (roomLens r))) = true := by simp only [sio, beq_iff_eq, roomLens_len]; omega
  rw [e]
  simp only [Bool.not_true, cond_false]
  have := lines_l ls (roomLens r) hl ls [] KK rfl (by unfold KK; omega) (by omega)
  rw [show ((([] : List (List Nat)).length : Nat) : Int) = 0 from rfl] at this
  rw [this]; rfl

theorem zerosN_eq (n : Int) (h : 0 ≤ n ∧ n ≤ 1000) : F_impl_zeros std n = some (List.replicate n.toNat 0) := by
  unfold F_impl_zeros
  rw [gdt (by simp only [sio]; omega), gdt (by simp only [sio]; omega), gdt (by simp only [sio]; omega)]
  rfl
theorem empty_l (lens : List Int) (h : ∀ n ∈ lens, 1 ≤ n ∧ n ≤ 64) : ∀ (xs pre : List Int) (out : List (List Nat)) (k : Nat), lens = pre ++ xs → xs.length < k → out.length + xs.length ≤ 1000 → pre.length + xs.length ≤ 1000 →
    F_impl_Room_empty_l0 std lens k out (pre.length : Int) = some (out ++ xs.map (fun n => List.replicate n.toNat 0))
  | _, _, _, 0, _, h, _, _ => absurd h (Nat.not_lt_zero _)
  | [], pre, out, k + 1, hr, h, h1, h2 => by
    rw [F_impl_Room_empty_l0.eq_2]
    have : std.ilt (pre.length : Int) (std.ofN (std.llen lens)) = false := by rw [hr]; simp [std]
    rw [this]; simp
  | x :: xs, pre, out, k + 1, hr, h0, h1, h2 => by
    rw [F_impl_Room_empty_l0.eq_2]
    simp only [List.length_cons] at h0 h1 h2
    have hlen : lens.length = pre.length + (xs.length + 1) := by rw [hr]; simp
    have e1 : std.ilt (pre.length : Int) (std.ofN (std.llen lens)) = true := by simp only [sio, decide_eq_true_eq]; omega
    rw [e1]
    simp only [cond_true]
    have e2 : std.lget lens (std.nadd 0 (std.toN (pre.length : Int))) 0 = x := by simp only [sio, Int.toNat_natCast, Nat.zero_add]; rw [hr]; exact getD_mid _ _ _ _
    have hx := h x (by rw [hr]; simp)
    rw [gdt (by simp only [sio]; omega), gdt (by simp only [sio, Int.toNat_natCast]; omega), e2, zerosN_eq x (by omega)]
    simp only [Option.bind_some]
    rw [gdt (by simp only [sio]; omega), gdt (pin_i64 (by simp only [sio]; omega) (by simp only [sio]; omega))]
    have := empty_l lens h xs (pre ++ [x]) (out ++ [List.replicate x.toNat 0]) k (by rw [hr]; simp) (by omega) (by simp; omega) (by simp; omega)
    simp only [List.length_append, List.length_singleton] at this
    simp only [sio]
    rw [show ((pre.length : Int) + 1) = ((pre.length + 1 : Nat) : Int) by omega, this]
    simp
def emptyN (r : GRoom) : List (List Nat) := (roomLens r).map (fun n => List.replicate n.toNat 0)
theorem emptyN_ok (r : GRoom) (h : RoomOk r) : LinesOk r (emptyN r) := by
  unfold LinesOk emptyN
  rw [List.map_map]
  conv => rhs; rw [← List.map_id (roomLens r)]
  apply List.map_congr_left
  intro n hn
  have := h.l n hn
  simp only [Function.comp, List.length_replicate, id]
  omega
theorem room_empty_eq (r : GRoom) (h : RoomOk r) : F_impl_Room_empty std r = some (emptyN r) := by
  have h2 := h.c2
  have h3 := h.p
  unfold F_impl_Room_empty
  rw [lengths_eq _ (by omega) (by omega)]
  simp only [Option.bind_some]
  have := empty_l (roomLens r) h.l (roomLens r) [] [] KK rfl (by rw [roomLens_len]; unfold KK; omega) (by rw [roomLens_len]; simp; omega) (by rw [roomLens_len]; simp; omega)
  rw [show ((([] : List Int).length : Nat) : Int) = 0 from rfl] at this
  rw [this]
  rfl
theorem emptyRoom_eq (r : GRoom) (h : RoomOk r) : F_impl_EmptyRoom std r = some (emptyN r, true) := by
  unfold F_impl_EmptyRoom
  rw [valid_eq r h]
  simp only [Option.bind_some, Bool.not_true, cond_false]
  rw [room_empty_eq r h]
  rfl

/- running -/
noncomputable def combsN : List GDelay → List (List Nat) → Nat → List Nat × List (List Nat)
  | d :: ds, l :: ls, x => ((dstep d l x).1 :: (combsN ds ls x).1, (dstep d l x).2 :: (combsN ds ls x).2)
  | [], ls, _ => ([], ls)
  | _ :: _, [], _ => ([], [])
noncomputable def passN : List GPass → List (List Nat) → Nat → Nat × List (List Nat)
  | p :: ps, l :: ls, s => ((passN ps ls (pstep p l s).1).1, (pstep p l s).2 :: (passN ps ls (pstep p l s).1).2)
  | [], ls, s => (s, ls)
  | _ :: _, [], s => (s, [])
theorem combsN_lens : ∀ (ds : List GDelay) (ls : List (List Nat)) (x : Nat), ds.length ≤ ls.length → (∀ l ∈ ls, 1 ≤ l.length) → (combsN ds ls x).2.map (fun l => (l.length : Int)) = ls.map (fun l => (l.length : Int))
  | [], ls, x, _, _ => rfl
  | d :: ds, [], x, h, _ => by simp at h
  | d :: ds, l :: ls, x, h, hl => by
    simp only [combsN, List.map_cons]
    rw [dstep_len (hl l (by simp)), combsN_lens ds ls x (by simpa using h) (fun q hq => hl q (by simp [hq]))]
theorem passN_lens : ∀ (ds : List GPass) (ls : List (List Nat)) (x : Nat), ds.length ≤ ls.length → (∀ l ∈ ls, 1 ≤ l.length) → (passN ds ls x).2.map (fun l => (l.length : Int)) = ls.map (fun l => (l.length : Int))
  | [], ls, x, _, _ => rfl
  | d :: ds, [], x, h, _ => by simp at h
  | d :: ds, l :: ls, x, h, hl => by
    simp only [passN, List.map_cons]
    rw [pstep_len (hl l (by simp)), passN_lens ds ls _ (by simpa using h) (fun q hq => hl q (by simp [hq]))]
theorem combsN_len : ∀ (ds : List GDelay) (ls : List (List Nat)) (x : Nat), ds.length ≤ ls.length → (combsN ds ls x).1.length = ds.length
  | [], ls, x, _ => rfl
  | d :: ds, [], x, h => by simp at h
  | d :: ds, l :: ls, x, h => by simp only [combsN, List.length_cons]; rw [combsN_len ds ls x (by simpa using h)]

theorem combs_l (r : GRoom) (a3 : List Nat) (i : Int) (x : Nat) (hx : std.lget a3 (std.toN i) 0 = x) : ∀ (ds pre : List GDelay) (A ls : List (List Nat)) (out : List Nat) (k : Nat), r.Combs = pre ++ ds → A.length = pre.length → ds.length ≤ ls.length →
    (∀ l ∈ ls, 1 ≤ l.length ∧ l.length ≤ 1000) → ds.length < k → out.length + ds.length ≤ 1000 → pre.length + ds.length ≤ 1000 → A.length + ls.length ≤ 1000 →
    F_impl_Room_run_l1 std r a3 i k (A ++ ls) out (pre.length : Int) = some (A ++ (combsN ds ls x).2, out ++ (combsN ds ls x).1)
  | _, _, _, _, _, 0, _, _, _, _, h, _, _, _ => absurd h (Nat.not_lt_zero _)
  | [], pre, A, ls, out, k + 1, hr, hA, hd, hl, h, h1, h2, h3 => by
    rw [F_impl_Room_run_l1.eq_2]
    have : std.ilt (pre.length : Int) (std.ofN (std.llen r.Combs)) = false := by rw [hr]; simp [std]
    rw [this]; simp [combsN]
  | d :: ds, pre, A, [], out, k + 1, hr, hA, hd, hl, h, h1, h2, h3 => by simp at hd
  | d :: ds, pre, A, l :: ls, out, k + 1, hr, hA, hd, hl, h, h1, h2, h3 => by
    rw [F_impl_Room_run_l1.eq_2]
    simp only [List.length_cons] at h h1 h2 h3 hd
    have hlen : r.Combs.length = pre.length + (ds.length + 1) := by rw [hr]; simp
    have e1 : std.ilt (pre.length : Int) (std.ofN (std.llen r.Combs)) = true := by simp only [sio, decide_eq_true_eq]; omega
    rw [e1]
    simp only [cond_true]
    have e2 : std.lget r.Combs (std.toN (pre.length : Int)) (GDelay.mk 0 0 0 0 false) = d := by simp only [sio, Int.toNat_natCast]; rw [hr]; exact getD_mid _ _ _ _
    have e3 : std.lget (A ++ l :: ls) (std.nadd 0 (std.toN (pre.length : Int))) [] = l := by
      simp only [sio, Int.toNat_natCast, Nat.zero_add]; rw [← hA]; exact getD_mid _ _ _ _
    have hll := hl l (by simp)
    have g1 : std.pIdx (pre.length : Int) (std.llen r.Combs) := by simp only [sio]; omega
    have g2 : std.pIdx (pre.length : Int) (std.llen (A ++ l :: ls)) := by simp only [sio, List.length_append, List.length_cons]; omega
    have g3 : std.pNlt (std.nadd 0 (std.toN (pre.length : Int))) (std.llen (A ++ l :: ls)) := by simp only [sio, Int.toNat_natCast, List.length_append, List.length_cons]; omega
    rw [gdt g1, gdt g2, gdt g3, e2, e3, hx, dstep_eq _ _ _ hll.1 hll.2]
    simp only [Option.bind_some]
    rw [gdt g2, gdt g3, gdt (by simp only [sio]; omega), gdt (pin_i64 (by simp only [sio]; omega) (by simp only [sio]; omega))]
    have e4 : std.lset (A ++ l :: ls) (std.nadd 0 (std.toN (pre.length : Int))) (dstep d l x).2 = (A ++ [(dstep d l x).2]) ++ ls := by
      simp only [sio, Int.toNat_natCast, Nat.zero_add]; rw [← hA]
      have : ∀ (A : List (List Nat)) (u v : List Nat) (R : List (List Nat)), (A ++ u :: R).set A.length v = A ++ v :: R := by
        intro A; induction A with
        | nil => intro u v R; rfl
        | cons a A ih => intro u v R; simp [ih]
      rw [this]; simp
    rw [e4]
    have := combs_l r a3 i x hx ds (pre ++ [d]) (A ++ [(dstep d l x).2]) ls (out ++ [(dstep d l x).1]) k (by rw [hr]; simp) (by simp [hA]) (by omega) (fun q hq => hl q (by simp [hq])) (by omega) (by simp; omega) (by simp; omega) (by simp; omega)
    simp only [List.length_append, List.length_singleton] at this
    simp only [sio]
    rw [show ((pre.length : Int) + 1) = ((pre.length + 1 : Nat) : Int) by omega, this]
    simp [combsN]

theorem passes_l (r : GRoom) : ∀ (ps pre : List GPass) (A ls : List (List Nat)) (s : Nat) (k : Nat), r.Passes = pre ++ ps → A.length = r.Combs.length + pre.length → ps.length ≤ ls.length →
    (∀ l ∈ ls, 1 ≤ l.length ∧ l.length ≤ 1000) → ps.length < k → pre.length + ps.length ≤ 1000 → A.length + ls.length ≤ 1000 →
    F_impl_Room_run_l2 std r k (A ++ ls) s (pre.length : Int) = some (A ++ (passN ps ls s).2, (passN ps ls s).1)
  | _, _, _, _, _, 0, _, _, _, _, h, _, _ => absurd h (Nat.not_lt_zero _)
  | [], pre, A, ls, s, k + 1, hr, hA, hd, hl, h, h2, h3 => by
    rw [F_impl_Room_run_l2.eq_2]
    have : std.ilt (pre.length : Int) (std.ofN (std.llen r.Passes)) = false := by rw [hr]; simp [std]
    rw [this]; simp [passN]
  | d :: ds, pre, A, [], s, k + 1, hr, hA, hd, hl, h, h2, h3 => by simp at hd
  | d :: ds, pre, A, l :: ls, s, k + 1, hr, hA, hd, hl, h, h2, h3 => by
    rw [F_impl_Room_run_l2.eq_2]
    simp only [List.length_cons] at h h2 h3 hd
    have hlen : r.Passes.length = pre.length + (ds.length + 1) := by rw [hr]; simp
    have e1 : std.ilt (pre.length : Int) (std.ofN (std.llen r.Passes)) = true := by simp only [sio, decide_eq_true_eq]; omega
    rw [e1]
    simp only [cond_true]
    have e2 : std.lget r.Passes (std.toN (pre.length : Int)) (GPass.mk 0 0) = d := by simp only [sio, Int.toNat_natCast]; rw [hr]; exact getD_mid _ _ _ _
    have ei : (std.iadd (std.ofN (std.llen r.Combs)) (pre.length : Int)) = (A.length : Int) := by simp only [sio]; omega
    rw [gdt (by simp only [sio]; omega), ei]
    have e3 : std.lget (A ++ l :: ls) (std.nadd 0 (std.toN (A.length : Int))) [] = l := by
      simp only [sio, Int.toNat_natCast, Nat.zero_add]; exact getD_mid _ _ _ _
    have hll := hl l (by simp)
    have g2 : std.pIdx (A.length : Int) (std.llen (A ++ l :: ls)) := by simp only [sio, List.length_append, List.length_cons]; omega
    have g3 : std.pNlt (std.nadd 0 (std.toN (A.length : Int))) (std.llen (A ++ l :: ls)) := by simp only [sio, Int.toNat_natCast, List.length_append, List.length_cons]; omega
    rw [gdt (pin_i64 (by omega) (by omega)), gdt g2, gdt g3, e2, e3, pstep_eq _ _ _ hll.1 hll.2]
    simp only [Option.bind_some]
    rw [gdt g2, gdt g3, gdt (pin_i64 (by simp only [sio]; omega) (by simp only [sio]; omega))]
    have e4 : std.lset (A ++ l :: ls) (std.nadd 0 (std.toN (A.length : Int))) (pstep d l s).2 = (A ++ [(pstep d l s).2]) ++ ls := by
      simp only [sio, Int.toNat_natCast, Nat.zero_add]
      have : ∀ (A : List (List Nat)) (u v : List Nat) (R : List (List Nat)), (A ++ u :: R).set A.length v = A ++ v :: R := by
        intro A; induction A with
        | nil => intro u v R; rfl
        | cons a A ih => intro u v R; simp [ih]
      rw [this]; simp
    rw [e4]
    have := passes_l r ds (pre ++ [d]) (A ++ [(pstep d l s).2]) ls (pstep d l s).1 k (by rw [hr]; simp) (by simp; omega) (by omega) (fun q hq => hl q (by simp [hq])) (by omega) (by simp; omega) (by simp; omega)
    simp only [List.length_append, List.length_singleton] at this
    simp only [sio]
    rw [show ((pre.length : Int) + 1) = ((pre.length + 1 : Nat) : Int) by omega, this]
    simp [passN]

def sumN (l : List Nat) : Nat := l.foldl (fun a b => std.fop .add .f32 a b) 0
theorem sum_l : ∀ (xs pre : List Nat) (s k : Nat), xs.length < k → pre.length + xs.length ≤ 1000 → F_impl_sumOf_l0 std (pre ++ xs) k s (pre.length : Int) = some (xs.foldl (fun a b => std.fop .add .f32 a b) s)
  | _, _, _, 0, h, _ => absurd h (Nat.not_lt_zero _)
  | [], pre, s, k + 1, h, h1 => by
    rw [F_impl_sumOf_l0.eq_2]
    have : std.ilt (pre.length : Int) (std.ofN (std.llen (pre ++ []))) = false := by simp [std]
    rw [this]; rfl
  | x :: xs, pre, s, k + 1, h, h1 => by
    rw [F_impl_sumOf_l0.eq_2]
    simp only [List.length_cons] at h h1
    have e1 : std.ilt (pre.length : Int) (std.ofN (std.llen (pre ++ x :: xs))) = true := by
      simp only [sio, decide_eq_true_eq, List.length_append, List.length_cons]; omega
    rw [e1]
    simp only [cond_true]
    have e2 : std.lget (pre ++ x :: xs) (std.toN (pre.length : Int)) 0 = x := by simp only [sio, Int.toNat_natCast]; exact getD_mid _ _ _ _
    rw [gdt (by simp only [sio, List.length_append, List.length_cons]; omega), gdt (pin_i64 (by simp only [sio]; omega) (by simp only [sio]; omega)), e2]
    have := sum_l xs (pre ++ [x]) (std.fop .add .f32 s x) k (by omega) (by simp; omega)
    simp only [List.append_assoc, List.singleton_append, List.length_append, List.length_singleton] at this
    simp only [sio]
    rw [show ((pre.length : Int) + 1) = ((pre.length + 1 : Nat) : Int) by omega, this]
    rfl
theorem sum_eq (l : List Nat) (h : l.length ≤ 1000) : F_impl_sumOf std l = some (sumN l) := by
  unfold F_impl_sumOf
  have := sum_l l [] 0 KK (by unfold KK; omega) (by simp; omega)
  simp only [List.nil_append] at this
  rw [show ((([] : List Nat).length : Nat) : Int) = 0 from rfl] at this
  rw [this]; rfl

noncomputable def roomN (r : GRoom) (ls : List (List Nat)) (x : Nat) : Nat × List (List Nat) :=
  (std.fop .add .f32 (std.fop .mul .f32 r.Dry x) (std.fop .mul .f32 r.Wet (passN r.Passes ((combsN r.Combs ls x).2.drop r.Combs.length) (sumN (combsN r.Combs ls x).1)).1),
   (combsN r.Combs ls x).2.take r.Combs.length ++ (passN r.Passes ((combsN r.Combs ls x).2.drop r.Combs.length) (sumN (combsN r.Combs ls x).1)).2)
theorem roomN_ok (r : GRoom) (hr : RoomOk r) (ls : List (List Nat)) (x : Nat) (h : LinesOk r ls) : LinesOk r (roomN r ls x).2 := by
  have hlen := h.len
  have he := h.each hr
  have h1 : (combsN r.Combs ls x).2.map (fun l => (l.length : Int)) = ls.map (fun l => (l.length : Int)) := combsN_lens _ _ _ (by omega) (fun l hl => (he l hl).1)
  have hL : (combsN r.Combs ls x).2.length = ls.length := by simpa using congrArg List.length h1
  have h2 : ∀ l ∈ (combsN r.Combs ls x).2.drop r.Combs.length, 1 ≤ l.length := by
    intro l hl
    have : ((l.length : Nat) : Int) ∈ ls.map (fun l => (l.length : Int)) := by rw [← h1]; exact List.mem_map.2 ⟨l, List.mem_of_mem_drop hl, rfl⟩
    obtain ⟨q, hq, e⟩ := List.mem_map.1 this
    have := (he q hq).1
    have e' : (q.length : Int) = (l.length : Int) := e
    omega
  unfold LinesOk roomN
  simp only [List.map_append]
  rw [passN_lens _ _ _ (by rw [List.length_drop]; omega) h2, ← List.map_append, List.take_append_drop, h1]
  exact h

theorem room_l (r : GRoom) (hr : RoomOk r) : ∀ (xs pre out : List Nat) (ls : List (List Nat)) (k : Nat), LinesOk r ls → xs.length < k → out.length + xs.length ≤ 1000 → pre.length + xs.length ≤ 1000 →
    F_impl_Room_run_l3 std r (pre ++ xs) k ls out (pre.length : Int) = some ((runS (roomN r) ls xs).2, out ++ (runS (roomN r) ls xs).1)
  | _, _, _, _, 0, _, h, _, _ => absurd h (Nat.not_lt_zero _)
  | [], pre, out, ls, k + 1, hl, h, h1, h2 => by
    rw [F_impl_Room_run_l3.eq_2]
    have : std.ilt (pre.length : Int) (std.ofN (std.llen (pre ++ []))) = false := by simp [std]
    rw [this]; simp [runS]
  | x :: xs, pre, out, ls, k + 1, hl, h, h1, h2 => by
    have c2 := hr.c2
    have c3 := hr.p
    have hlen := hl.len
    have he := hl.each hr
    rw [F_impl_Room_run_l3.eq_2]
    simp only [List.length_cons] at h h1 h2
    have e1 : std.ilt (pre.length : Int) (std.ofN (std.llen (pre ++ x :: xs))) = true := by
      simp only [sio, decide_eq_true_eq, List.length_append, List.length_cons]; omega
    rw [e1]
    simp only [cond_true]
    have e2 : std.lget (pre ++ x :: xs) (std.toN (pre.length : Int)) 0 = x := by simp only [sio, Int.toNat_natCast]; exact getD_mid _ _ _ _
    rw [gdt (by simp only [sio, List.length_append, List.length_cons]; omega)]
    have a := combs_l r (pre ++ x :: xs) (pre.length : Int) x e2 r.Combs [] [] ls [] KK rfl rfl (by omega) (fun l h => ⟨(he l h).1, by have := (he l h).2; omega⟩) (by unfold KK; omega) (by simp; omega) (by simp; omega) (by simp; omega)
    simp only [List.nil_append] at a
    rw [show ((([] : List GDelay).length : Nat) : Int) = 0 from rfl] at a
    rw [a]
    simp only [Option.bind_some]
    rw [sum_eq _ (by rw [combsN_len _ _ _ (by omega)]; omega)]
    simp only [Option.bind_some]
    have hc : (combsN r.Combs ls x).2.map (fun l => (l.length : Int)) = ls.map (fun l => (l.length : Int)) := combsN_lens _ _ _ (by omega) (fun l hl => (he l hl).1)
    have hL : (combsN r.Combs ls x).2.length = ls.length := by simpa using congrArg List.length hc
    have hE : ∀ l ∈ (combsN r.Combs ls x).2, 1 ≤ l.length ∧ l.length ≤ 1000 := by
      intro l hl
      have : ((l.length : Nat) : Int) ∈ ls.map (fun l => (l.length : Int)) := by rw [← hc]; exact List.mem_map.2 ⟨l, hl, rfl⟩
      obtain ⟨q, hq, e⟩ := List.mem_map.1 this
      have := he q hq
      have e' : (q.length : Int) = (l.length : Int) := e
      omega
    have b := passes_l r r.Passes [] ((combsN r.Combs ls x).2.take r.Combs.length) ((combsN r.Combs ls x).2.drop r.Combs.length) (sumN (combsN r.Combs ls x).1) KK rfl
      (by rw [List.length_take]; simp; omega) (by rw [List.length_drop]; omega) (fun l hl => hE l (List.mem_of_mem_drop hl)) (by unfold KK; omega) (by simp; omega) (by rw [List.length_take, List.length_drop]; omega)
    rw [List.take_append_drop] at b
    rw [show ((([] : List GPass).length : Nat) : Int) = 0 from rfl] at b
    rw [b]
    simp only [Option.bind_some]
    rw [gdt (by simp only [sio]; omega), gdt (pin_i64 (by simp only [sio]; omega) (by simp only [sio]; omega)), e2]
    have := room_l r hr xs (pre ++ [x]) (out ++ [(roomN r ls x).1]) (roomN r ls x).2 k (roomN_ok r hr ls x hl) (by omega) (by simp; omega) (by simp; omega)
    simp only [List.append_assoc, List.singleton_append, List.length_append, List.length_singleton] at this
    simp only [runS]
    rw [← this]
    simp only [sio]
    rw [show ((pre.length : Int) + 1) = ((pre.length + 1 : Nat) : Int) by omega]
    rfl

theorem copies_l (ls : List (List Nat)) (h : ∀ l ∈ ls, l.length ≤ 1000) : ∀ (xs pre out : List (List Nat)) (k : Nat), ls = pre ++ xs → xs.length < k → out.length + xs.length ≤ 1000 → pre.length + xs.length ≤ 1000 →
    F_impl_Room_run_l0 std ls k out (pre.length : Int) = some (out ++ xs)
  | _, _, _, 0, _, h, _, _ => absurd h (Nat.not_lt_zero _)
  | [], pre, out, k + 1, hr, h, h1, h2 => by
    rw [F_impl_Room_run_l0.eq_2]
    have : std.ilt (pre.length : Int) (std.ofN (std.llen ls)) = false := by rw [hr]; simp [std]
    rw [this]; simp
  | x :: xs, pre, out, k + 1, hr, h0, h1, h2 => by
    rw [F_impl_Room_run_l0.eq_2]
    simp only [List.length_cons] at h0 h1 h2
    have hlen : ls.length = pre.length + (xs.length + 1) := by rw [hr]; simp
    have e1 : std.ilt (pre.length : Int) (std.ofN (std.llen ls)) = true := by simp only [sio, decide_eq_true_eq]; omega
    rw [e1]
    simp only [cond_true]
    have e2 : std.lget ls (std.toN (pre.length : Int)) [] = x := by simp only [sio, Int.toNat_natCast]; rw [hr]; exact getD_mid _ _ _ _
    rw [gdt (by simp only [sio]; omega), e2, copyN_eq x (h x (by rw [hr]; simp))]
    simp only [Option.bind_some]
    rw [gdt (by simp only [sio]; omega), gdt (pin_i64 (by simp only [sio]; omega) (by simp only [sio]; omega))]
    have := copies_l ls h xs (pre ++ [x]) (out ++ [x]) k (by rw [hr]; simp) (by omega) (by simp; omega) (by simp; omega)
    simp only [List.length_append, List.length_singleton] at this
    simp only [sio]
    rw [show ((pre.length : Int) + 1) = ((pre.length + 1 : Nat) : Int) by omega, this]
    simp

theorem roomrun_eq (r : GRoom) (hr : RoomOk r) (ls : List (List Nat)) (hl : LinesOk r ls) (xs : List Nat) (hx : xs.length ≤ 256) :
    F_impl_Room_run std r ls xs = some ((runS (roomN r) ls xs).1, (runS (roomN r) ls xs).2) := by
  have c2 := hr.c2
  have c3 := hr.p
  have hlen := hl.len
  unfold F_impl_Room_run
  have a := copies_l ls (fun l h => by have := (hl.each hr l h).2; omega) ls [] [] KK rfl (by unfold KK; omega) (by simp; omega) (by simp; omega)
  rw [show ((([] : List (List Nat)).length : Nat) : Int) = 0 from rfl] at a
  rw [a]
  simp only [Option.bind_some, List.nil_append]
  have b := room_l r hr xs [] [] ls KK hl (by unfold KK; omega) (by simp; omega) (by simp; omega)
  simp only [List.nil_append] at b
  rw [show ((([] : List Nat).length : Nat) : Int) = 0 from rfl] at b
  rw [b]; rfl
theorem runRoom_eq (r : GRoom) (hr : RoomOk r) (ls : List (List Nat)) (hl : LinesOk r ls) (xs : List Nat) (hx : xs.length ≤ 256) :
    F_impl_RunRoom std r ls xs = some ((runS (roomN r) ls xs).1, (runS (roomN r) ls xs).2, true) := by
  unfold F_impl_RunRoom
  rw [valid_eq r hr, samples_eq _ hx, areLines_eq r ls hr hl]
  simp only [Option.bind_some, Bool.not_true, cond_false]
  rw [roomrun_eq r hr ls hl xs hx]
  rfl

end Go.Desk
