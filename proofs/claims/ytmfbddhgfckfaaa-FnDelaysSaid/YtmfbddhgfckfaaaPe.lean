/- Plain laws: delays and passes. -/
import Derived.Test.YtmfbddhgfckfaaaPd
namespace Go.Desk
open Go Go.IntWalk
set_option linter.all false
set_option maxRecDepth 100000

theorem copyN_eq (l : List Nat) (h : l.length ≤ 1000) : F_impl_copyNumbers std l = some l := by
  unfold F_impl_copyNumbers
  rw [gdt (by simp only [sio]; omega)]
  simp [sio]
theorem lsub_all {α : Type} (l : List α) (a : Nat) : std.lsub l a l.length = l.drop a := by
  simp only [sio]
  rw [List.take_of_length_le]
  simp
noncomputable def takeN (l : List Nat) (x : Nat) : List Nat := l.drop 1 ++ [x]
theorem takeN_len {l : List Nat} {x : Nat} (h : 1 ≤ l.length) : (takeN l x).length = l.length := by unfold takeN; simp; omega
theorem take_eq (l : List Nat) (x : Nat) (h1 : 1 ≤ l.length) (h2 : l.length ≤ 1000) : F_impl_take std l x = some (takeN l x) := by
  unfold F_impl_take
  rw [gdt (by simp only [sio]; decide), gdt (by simp only [sio]; exact h1)]
  have e : std.lsub l (std.toN 1) (std.llen l) = l.drop 1 := lsub_all l 1
  rw [e, copyN_eq _ (by simp; omega)]
  simp only [Option.bind_some]
  rw [gdt (by simp only [sio, List.length_drop]; omega)]
  rfl

noncomputable def dstep (d : GDelay) (l : List Nat) (x : Nat) : Nat × List Nat :=
  (std.fop .add .f32 (std.fop .mul .f32 d.Dry x) (std.fop .mul .f32 d.Wet (l.getD 0 0)), takeN l (fluN (std.fop .add .f32 x (std.fop .mul .f32 d.Feedback (l.getD 0 0))) d.Flush))
theorem dstep_eq (d : GDelay) (l : List Nat) (x : Nat) (h1 : 1 ≤ l.length) (h2 : l.length ≤ 1000) : F_impl_Delay_step std d l x = some (dstep d l x) := by
  unfold F_impl_Delay_step
  rw [gdt (by simp only [sio]; omega), flu_eq]
  simp only [Option.bind_some]
  rw [take_eq _ _ h1 h2]
  rfl
theorem dstep_len {d : GDelay} {l : List Nat} {x : Nat} (h : 1 ≤ l.length) : (dstep d l x).2.length = l.length := takeN_len h

/-- steps one after another -/
def runS {S : Type} (f : S → Nat → Nat × S) : S → List Nat → List Nat × S
  | s, [] => ([], s)
  | s, x :: xs => ((f s x).1 :: (runS f (f s x).2 xs).1, (runS f (f s x).2 xs).2)
theorem runS_append {S : Type} (f : S → Nat → Nat × S) : ∀ (a b : List Nat) (s : S), runS f s (a ++ b) = ((runS f s a).1 ++ (runS f (runS f s a).2 b).1, (runS f (runS f s a).2 b).2)
  | [], b, s => by simp [runS]
  | x :: a, b, s => by simp only [List.cons_append, runS]; rw [runS_append f a b]
theorem runS_len {S : Type} (f : S → Nat → Nat × S) : ∀ (a : List Nat) (s : S), (runS f s a).1.length = a.length
  | [], s => rfl
  | x :: a, s => by simp only [runS, List.length_cons]; rw [runS_len f a]
theorem runS_inv {S : Type} (f : S → Nat → Nat × S) (I : S → Prop) (h : ∀ s x, I s → I (f s x).2) : ∀ (a : List Nat) (s : S), I s → I (runS f s a).2
  | [], s, hs => hs
  | x :: a, s, hs => runS_inv f I h a _ (h s x hs)

theorem delay_l (d : GDelay) : ∀ (xs pre out l : List Nat) (k : Nat), xs.length < k → out.length + xs.length ≤ 1000000 → pre.length + xs.length ≤ 1000000 → 1 ≤ l.length → l.length ≤ 1000 →
    F_impl_RunDelay_l0 std d (pre ++ xs) k l out (pre.length : Int) = some ((runS (dstep d) l xs).2, out ++ (runS (dstep d) l xs).1)
  | _, _, _, _, 0, h, _, _, _, _ => absurd h (Nat.not_lt_zero _)
  | [], pre, out, l, k + 1, h, h1, h2, h3, h4 => by
    rw [F_impl_RunDelay_l0.eq_2]
    have : std.ilt (pre.length : Int) (std.ofN (std.llen (pre ++ []))) = false := by simp [std]
    rw [this]
    simp [runS]
  | x :: xs, pre, out, l, k + 1, h, h1, h2, h3, h4 => by
    rw [F_impl_RunDelay_l0.eq_2]
    simp only [List.length_cons] at h h1 h2
    have e1 : std.ilt (pre.length : Int) (std.ofN (std.llen (pre ++ x :: xs))) = true := by
      simp only [sio, decide_eq_true_eq, List.length_append, List.length_cons]; omega
    rw [e1]
    simp only [cond_true]
    rw [gdt (by simp only [sio, List.length_append, List.length_cons]; omega)]
    have e2 : std.lget (pre ++ x :: xs) (std.toN (pre.length : Int)) 0 = x := by simp only [sio, Int.toNat_natCast]; exact getD_mid _ _ _ _
    rw [e2, dstep_eq _ _ _ h3 h4]
    simp only [Option.bind_some]
    rw [gdt (by simp only [sio]; omega), gdt (pin_i64 (by simp only [sio]; omega) (by simp only [sio]; omega))]
    have := delay_l d xs (pre ++ [x]) (out ++ [(dstep d l x).1]) (dstep d l x).2 k (by omega) (by simp; omega) (by simp; omega) (by rw [dstep_len h3]; exact h3) (by rw [dstep_len h3]; exact h4)
    simp only [List.append_assoc, List.singleton_append, List.length_append, List.length_singleton] at this
    simp only [sio]
    rw [show ((pre.length : Int) + 1) = ((pre.length + 1 : Nat) : Int) by omega, this]
    simp only [runS]

theorem isLength_eq (n : Int) (h1 : 1 ≤ n) (h2 : n ≤ 64) : F_impl_isLength std n = some true := by
  unfold F_impl_isLength F_impl_within
  simp [sio, h1, h2]
theorem samples_eq (xs : List Nat) (h : xs.length ≤ 256) : F_impl_areSamples std xs = some true := by
  unfold F_impl_areSamples
  have e : std.ile (std.ofN (std.llen xs)) 256 = true := by simp only [sio, decide_eq_true_eq]; omega
  rw [e]
theorem runDelay_eq (d : GDelay) (l xs : List Nat) (h1 : 1 ≤ d.Length) (h2 : d.Length ≤ 64) (hl : (l.length : Int) = d.Length) (hx : xs.length ≤ 256) :
    F_impl_RunDelay std d l xs = some ((runS (dstep d) l xs).1, (runS (dstep d) l xs).2, true) := by
  unfold F_impl_RunDelay F_impl_ValidDelay
  rw [isLength_eq _ h1 h2, samples_eq _ hx]
  have e2 : std.ieq (std.ofN (std.llen l)) d.Length = true := by simp only [sio, beq_iff_eq]; exact hl
  simp only [Option.bind_some, Bool.not_true, cond_false, F_impl_size, e2]
  rw [copyN_eq _ (by omega)]
  simp only [Option.bind_some]
  have := delay_l d xs [] [] l KK (by unfold KK; omega) (by simp; omega) (by simp; omega) (by omega) (by omega)
  simp only [List.nil_append, List.length_nil] at this
  rw [show ((0 : Nat) : Int) = 0 from rfl] at this
  rw [this]
  rfl

noncomputable def pstep (p : GPass) (l : List Nat) (x : Nat) : Nat × List Nat :=
  (std.fop .sub .f32 (l.getD 0 0) (std.fop .mul .f32 p.Gain (std.fop .add .f32 x (std.fop .mul .f32 p.Gain (l.getD 0 0)))), takeN l (std.fop .add .f32 x (std.fop .mul .f32 p.Gain (l.getD 0 0))))
theorem pstep_eq (p : GPass) (l : List Nat) (x : Nat) (h1 : 1 ≤ l.length) (h2 : l.length ≤ 1000) : F_impl_Pass_step std p l x = some (pstep p l x) := by
  unfold F_impl_Pass_step
  rw [gdt (by simp only [sio]; omega), take_eq _ _ h1 h2]
  rfl
theorem pstep_len {p : GPass} {l : List Nat} {x : Nat} (h : 1 ≤ l.length) : (pstep p l x).2.length = l.length := takeN_len h
theorem pass_l (d : GPass) : ∀ (xs pre out l : List Nat) (k : Nat), xs.length < k → out.length + xs.length ≤ 1000000 → pre.length + xs.length ≤ 1000000 → 1 ≤ l.length → l.length ≤ 1000 →
    F_impl_RunPass_l0 std d (pre ++ xs) k l out (pre.length : Int) = some ((runS (pstep d) l xs).2, out ++ (runS (pstep d) l xs).1)
  | _, _, _, _, 0, h, _, _, _, _ => absurd h (Nat.not_lt_zero _)
  | [], pre, out, l, k + 1, h, h1, h2, h3, h4 => by
    rw [F_impl_RunPass_l0.eq_2]
    have : std.ilt (pre.length : Int) (std.ofN (std.llen (pre ++ []))) = false := by simp [std]
    rw [this]
    simp [runS]
  | x :: xs, pre, out, l, k + 1, h, h1, h2, h3, h4 => by
    rw [F_impl_RunPass_l0.eq_2]
    simp only [List.length_cons] at h h1 h2
    have e1 : std.ilt (pre.length : Int) (std.ofN (std.llen (pre ++ x :: xs))) = true := by
      simp only [sio, decide_eq_true_eq, List.length_append, List.length_cons]; omega
    rw [e1]
    simp only [cond_true]
    rw [gdt (by simp only [sio, List.length_append, List.length_cons]; omega)]
    have e2 : std.lget (pre ++ x :: xs) (std.toN (pre.length : Int)) 0 = x := by simp only [sio, Int.toNat_natCast]; exact getD_mid _ _ _ _
    rw [e2, pstep_eq _ _ _ h3 h4]
    simp only [Option.bind_some]
    rw [gdt (by simp only [sio]; omega), gdt (pin_i64 (by simp only [sio]; omega) (by simp only [sio]; omega))]
    have := pass_l d xs (pre ++ [x]) (out ++ [(pstep d l x).1]) (pstep d l x).2 k (by omega) (by simp; omega) (by simp; omega) (by rw [pstep_len h3]; exact h3) (by rw [pstep_len h3]; exact h4)
    simp only [List.append_assoc, List.singleton_append, List.length_append, List.length_singleton] at this
    simp only [sio]
    rw [show ((pre.length : Int) + 1) = ((pre.length + 1 : Nat) : Int) by omega, this]
    simp only [runS]
theorem runPass_eq (d : GPass) (l xs : List Nat) (h1 : 1 ≤ d.Length) (h2 : d.Length ≤ 64) (hl : (l.length : Int) = d.Length) (hx : xs.length ≤ 256) :
    F_impl_RunPass std d l xs = some ((runS (pstep d) l xs).1, (runS (pstep d) l xs).2, true) := by
  unfold F_impl_RunPass
  rw [isLength_eq _ h1 h2, samples_eq _ hx]
  have e2 : std.ieq (std.ofN (std.llen l)) d.Length = true := by simp only [sio, beq_iff_eq]; exact hl
  simp only [Option.bind_some, Bool.not_true, cond_false, F_impl_size, e2]
  rw [copyN_eq _ (by omega)]
  simp only [Option.bind_some]
  have := pass_l d xs [] [] l KK (by unfold KK; omega) (by simp; omega) (by simp; omega) (by omega) (by omega)
  simp only [List.nil_append, List.length_nil] at this
  rw [show ((0 : Nat) : Int) = 0 from rfl] at this
  rw [this]
  rfl

/- the reference's sameness -/
theorem bits_some (x : Nat) : ∃ n, F_spec_l01Bits std x = some n := by
  unfold F_spec_l01Bits
  cases h : std.fcmp .neq .f32 x x
  · simp only [cond_false]
    have hn : isN .f32 x = false := by
      cases hx : isN .f32 x with
      | false => rfl
      | true => rw [neq_nan hx] at h; cases h
    unfold F_math_Float32bits
    rw [gdt hn]
    exact ⟨_, rfl⟩
  · exact ⟨_, rfl⟩
theorem ssame_refl (x : Nat) : F_spec_SameNumber std x x = some true := by
  obtain ⟨n, hn⟩ := bits_some x
  unfold F_spec_SameNumber F_spec_l01Same
  rw [hn]
  simp [sio]
theorem b10same_l (l : List Nat) : ∀ (j k i : Nat), j < k → l.length = i + j → l.length ≤ 1000000 → F_laws_b10Same_l0 std l l k (i : Int) = some (.inr ())
  | _, 0, _, h, _, _ => absurd h (Nat.not_lt_zero _)
  | 0, k + 1, i, h, h1, h2 => by
    rw [F_laws_b10Same_l0.eq_2]
    have : std.ilt (i : Int) (std.ofN (std.llen l)) = false := by simp only [sio, decide_eq_false_iff_not]; omega
    rw [this]; rfl
  | j + 1, k + 1, i, h, h1, h2 => by
    rw [F_laws_b10Same_l0.eq_2]
    have e1 : std.ilt (i : Int) (std.ofN (std.llen l)) = true := by simp only [sio, decide_eq_true_eq]; omega
    rw [e1]
    simp only [cond_true]
    rw [gdt (by simp only [sio]; omega), gdt (by simp only [sio]; omega), ssame_refl]
    simp only [Option.bind_some, Bool.not_true, cond_false]
    rw [gdt (pin_i64 (by simp only [sio]; omega) (by simp only [sio]; omega))]
    have := b10same_l l j k (i + 1) (by omega) (by omega) h2
    simp only [sio]
    rw [show ((i : Int) + 1) = ((i + 1 : Nat) : Int) by omega, this]
theorem b10same_eq (l : List Nat) (h : l.length ≤ 1000) : F_laws_b10Same std l l = some true := by
  unfold F_laws_b10Same
  have : std.ieq (std.ofN (std.llen l)) (std.ofN (std.llen l)) = true := by simp [sio]
  rw [this]
  simp only [Bool.not_true, cond_false]
  have := b10same_l l l.length KK 0 (by unfold KK; omega) (by omega) (by omega)
  rw [show ((0 : Nat) : Int) = 0 from rfl] at this
  rw [this]; rfl

theorem b10At_ok {l : List Int} (h : ∀ x ∈ l, 0 ≤ x ∧ x ≤ 255) (i n : Int) (hi : 0 ≤ i) (hi2 : i ≤ 1000) (hn : 1 ≤ n) : Ok (F_laws_b10At std l i n) fun r => 0 ≤ r ∧ r < n := by
  unfold F_laws_b10At
  refine ok_cond (fun _ => ok_some (by omega)) (fun hc => ok_cond (fun hb => ?_) (fun _ => ?_))
  · have hb : i < (l.length : Int) := by simp only [sio, decide_eq_true_eq] at hb; omega
    refine ok_gd ⟨hi, hb⟩ (ok_gd (by show n ≠ 0; omega) (ok_some ?_))
    have := byte_wrap h (std.toN i)
    show 0 ≤ (std.wrap .i64 (std.lget l (std.toN i) 0)).tmod n ∧ (std.wrap .i64 (std.lget l (std.toN i) 0)).tmod n < n
    exact ⟨Int.tmod_nonneg _ this.1, Int.tmod_lt_of_pos _ (by omega)⟩
  · refine ok_gd (pin_i64 (by show _ ≤ i * 37; omega) (by show i * 37 ≤ _; omega)) (ok_gd (pin_i64 (by show _ ≤ i * 37 + 11; omega) (by show i * 37 + 11 ≤ _; omega)) (ok_gd (by show n ≠ 0; omega) (ok_some ?_)))
    show 0 ≤ (i * 37 + 11).tmod n ∧ (i * 37 + 11).tmod n < n
    exact ⟨Int.tmod_nonneg _ (by omega), Int.tmod_lt_of_pos _ (by omega)⟩
theorem b10Long_some (a b : List Int) : ∃ r, F_laws_b10Long std a b = some r := by
  unfold F_laws_b10Long
  cases std.ilt 1048576 (std.ofN (std.llen a)) <;> exact ⟨_, rfl⟩
theorem numbers_ok {l : List Int} (h : ∀ x ∈ l, 0 ≤ x ∧ x ≤ 255) (n : Int) (hn : n ≤ 100000) : Ok (F_spec_B10Numbers std l n) fun r => r.length = n.toNat := by
  unfold F_spec_B10Numbers F_spec_l00From
  simp only [Option.bind_some]
  refine ok_bind (floats_ok (src0 h) n hn (by omega)) ?_
  rintro ⟨r, s2⟩ ⟨h2, _⟩
  exact ok_some h2

theorem drawDelay_ok {s : Gl00Src} {n : Int} (h : SrcOk s n) (hn : n + 32 ≤ 1000000000000) : Ok (F_spec_l03DrawDelay std s) fun r => (1 ≤ r.1.Length ∧ r.1.Length ≤ 64) ∧ SrcOk r.2 (n + 32) := by
  unfold F_spec_l03DrawDelay
  refine ok_bind (pick_ok h (by omega) _) ?_
  rintro ⟨v, s1⟩ ⟨⟨v0, v1⟩, h1⟩
  have v0 : 0 ≤ v := v0
  have v1 : v < 8 ∨ v = 0 := v1
  refine ok_gd (pin_i64 (by show _ ≤ 1 + v; omega) (by show 1 + v ≤ _; omega)) ?_
  refine ok_bind (one_ok h1 (by omega) _) ?_
  rintro ⟨b, s2⟩ h2
  refine ok_bind (one_ok h2 (by omega) _) ?_
  rintro ⟨c, s3⟩ h3
  have rest : ∀ L : Int, 1 ≤ L → L ≤ 64 → Ok ((F_spec_l00Src_pick std s3 33).bind fun (v7, v8) =>
    gd (std.pIn .i64 (std.isub v7 16)) <|
    (F_spec_l00Src_pick std v8 17).bind fun (v9, v10) =>
    (F_spec_l00Src_pick std v10 17).bind fun (v11, v12) =>
    (F_spec_l00Src_one std v12 10).bind fun (v13, v14) =>
    cond v13 (
      (F_spec_l01DrawFloat std v14).bind fun (v15, v16) =>
      some ((GDelay.mk L v15 (std.fop .quo .f32 (std.fofI .f32 v9) 1098907648) (std.fop .quo .f32 (std.fofI .f32 v11) 1098907648) b), v16)) (
      some ((GDelay.mk L (std.fop .quo .f32 (std.fofI .f32 (std.isub v7 16)) 1098907648) (std.fop .quo .f32 (std.fofI .f32 v9) 1098907648) (std.fop .quo .f32 (std.fofI .f32 v11) 1098907648) b), v14)))
      fun r => (1 ≤ r.1.Length ∧ r.1.Length ≤ 64) ∧ SrcOk r.2 (n + 32) := by
    intro L hL1 hL2
    refine ok_bind (pick_ok h3 (by omega) _) ?_
    rintro ⟨u, s4⟩ ⟨⟨u0, u1⟩, h4⟩
    have u0 : 0 ≤ u := u0
    have u1 : u < 33 ∨ u = 0 := u1
    refine ok_gd (pin_i64 (by show _ ≤ u - 16; omega) (by show u - 16 ≤ _; omega)) ?_
    refine ok_bind (pick_ok h4 (by omega) _) ?_
    rintro ⟨p, s5⟩ ⟨_, h5⟩
    refine ok_bind (pick_ok h5 (by omega) _) ?_
    rintro ⟨q, s6⟩ ⟨_, h6⟩
    refine ok_bind (one_ok h6 (by omega) _) ?_
    rintro ⟨e, s7⟩ h7
    refine ok_cond (fun _ => ?_) (fun _ => ok_some ⟨⟨hL1, hL2⟩, h7.more (by omega) hn⟩)
    refine ok_bind (float_ok h7 (by omega)) ?_
    rintro ⟨w, s8⟩ h8
    exact ok_some ⟨⟨hL1, hL2⟩, h8.more (by omega) hn⟩
  exact ok_cond (fun _ => rest 64 (by omega) (by omega)) (fun _ => rest (1 + v) (by omega) (by omega))

end Go.Desk
