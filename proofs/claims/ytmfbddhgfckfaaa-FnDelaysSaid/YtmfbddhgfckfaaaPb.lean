/- Plain laws: what is drawn from bytes is drawn. -/
import Derived.Test.YtmfbddhgfckfaaaPa
import Derived.IntWalk
import Derived.Laws.Bits64
namespace Go.Desk
open Go Go.IntWalk
set_option linter.all false
set_option linter.unusedVariables false
set_option linter.unusedSimpArgs false
set_option maxRecDepth 100000

/-- it answers, and what it answers is so -/
def Ok {α : Type} (x : Option α) (Q : α → Prop) : Prop := ∃ r, x = some r ∧ Q r
section
variable {α β : Type} {Q : α → Prop}
theorem ok_some {a : α} (h : Q a) : Ok (some a) Q := ⟨a, rfl, h⟩
theorem ok_gd {p : Prop} {x : Option α} (hp : p) (h : Ok x Q) : Ok (gd p x) Q := by rw [gd_pos hp]; exact h
theorem ok_cond {b : Bool} {x y : Option α} (ht : b = true → Ok x Q) (hf : b = false → Ok y Q) : Ok (cond b x y) Q := by
  cases b
  · exact hf rfl
  · exact ht rfl
theorem ok_bind {P : β → Prop} {x : Option β} {f : β → Option α} (h : Ok x P) (hf : ∀ r, P r → Ok (f r) Q) : Ok (x.bind f) Q := by
  obtain ⟨r, rfl, hr⟩ := h
  exact hf r hr
theorem ok_mono {P : α → Prop} {x : Option α} (h : Ok x P) (hQ : ∀ r, P r → Q r) : Ok x Q := by
  obtain ⟨r, rfl, hr⟩ := h
  exact ⟨r, rfl, hQ r hr⟩
end

theorem pin_i64 {n : Int} (h1 : -9223372036854775808 ≤ n) (h2 : n ≤ 9223372036854775807) : std.pIn .i64 n := ⟨h1, h2⟩

structure SrcOk (s : Gl00Src) (n : Int) : Prop where
  p0 : 0 ≤ s.pos
  p1 : s.pos ≤ n
  c : ∀ x ∈ s.code, 0 ≤ x ∧ x ≤ 255
  m : n ≤ 1000000000000
theorem SrcOk.more {s : Gl00Src} {n m : Int} (h : SrcOk s n) (h1 : n ≤ m) (h2 : m ≤ 1000000000000) : SrcOk s m := ⟨h.p0, Int.le_trans h.p1 h1, h.c, h2⟩

theorem getD_mem_or {l : List Int} {i : Nat} : l.getD i 0 = 0 ∨ l.getD i 0 ∈ l := by
  rw [List.getD_eq_getElem?_getD]
  cases h : l[i]? with
  | none => exact .inl rfl
  | some x => exact .inr (List.mem_of_getElem? h)

theorem and255 (a : Int) : 0 ≤ std.wrap .i64 (std.bits .and .u64 a 255) ∧ std.wrap .i64 (std.bits .and .u64 a 255) ≤ 255 := by
  have h : std.bits .and .u64 a 255 = IntKind.u64.wrap ((BitVec.ofInt 64 a &&& BitVec.ofInt 64 255).toNat : Int) := rfl
  have h2 : (BitVec.ofInt 64 a &&& BitVec.ofInt 64 255).toNat ≤ 255 := by
    rw [BitVec.toNat_and]
    exact Nat.le_trans Nat.and_le_right (by decide)
  have h3 : IntKind.u64.wrap ((BitVec.ofInt 64 a &&& BitVec.ofInt 64 255).toNat : Int) = ((BitVec.ofInt 64 a &&& BitVec.ofInt 64 255).toNat : Int) := by
    rw [IntKind.wrap_u64]; omega
  rw [h, h3]
  have h4 : std.wrap .i64 ((BitVec.ofInt 64 a &&& BitVec.ofInt 64 255).toNat : Int) = ((BitVec.ofInt 64 a &&& BitVec.ofInt 64 255).toNat : Int) := i64_in _ (by omega)
  rw [h4]; omega

theorem byte_wrap {l : List Int} (h : ∀ x ∈ l, 0 ≤ x ∧ x ≤ 255) (i : Nat) : 0 ≤ std.wrap .i64 (std.lget l i 0) ∧ std.wrap .i64 (std.lget l i 0) ≤ 255 := by
  have : 0 ≤ l.getD i 0 ∧ l.getD i 0 ≤ 255 := by
    rcases getD_mem_or (l := l) (i := i) with e | e
    · rw [e]; omega
    · exact h _ e
  show 0 ≤ IntKind.i64.wrap (l.getD i 0) ∧ IntKind.i64.wrap (l.getD i 0) ≤ 255
  rw [i64_in _ (by omega)]; exact this

theorem next_ok {s : Gl00Src} {n : Int} (h : SrcOk s n) (hn : n + 1 ≤ 1000000000000) : Ok (F_spec_l00Src_next std s) fun r => (0 ≤ r.1 ∧ r.1 ≤ 255) ∧ SrcOk r.2 (n + 1) := by
  have h0 := h.p0
  have h1 := h.p1
  have ok : ∀ x, SrcOk ⟨s.code, s.pos + 1, x⟩ (n + 1) := fun x => ⟨by show 0 ≤ s.pos + 1; omega, by show s.pos + 1 ≤ n + 1; omega, h.c, hn⟩
  unfold F_spec_l00Src_next
  refine ok_cond (fun hb => ?_) (fun hb => ?_)
  · refine ok_gd ⟨h0, by simpa [std] using hb⟩ (ok_gd (pin_i64 (by show _ ≤ s.pos + 1; omega) (by show s.pos + 1 ≤ _; omega)) ?_)
    refine ok_cond (fun _ => ok_some ⟨byte_wrap h.c _, ok _⟩) (fun _ => ok_gd (by show (0:Int) ≤ 40; decide) (ok_gd (by show (40:Int) ≤ 63; decide) (ok_some ⟨and255 _, ok _⟩)))
  · refine ok_gd (pin_i64 (by show _ ≤ s.pos + 1; omega) (by show s.pos + 1 ≤ _; omega)) ?_
    refine ok_cond (fun _ => ok_some ⟨by show (0:Int) ≤ 0 ∧ (0:Int) ≤ 255; decide, ok _⟩) (fun _ => ok_gd (by show (0:Int) ≤ 40; decide) (ok_gd (by show (40:Int) ≤ 63; decide) (ok_some ⟨and255 _, ok _⟩)))

theorem pick_ok {s : Gl00Src} {n : Int} (h : SrcOk s n) (hn : n + 2 ≤ 1000000000000) (k : Int) : Ok (F_spec_l00Src_pick std s k) fun r => (0 ≤ r.1 ∧ (r.1 < k ∨ r.1 = 0)) ∧ SrcOk r.2 (n + 2) := by
  unfold F_spec_l00Src_pick
  refine ok_cond (fun _ => ok_some ⟨⟨by omega, .inr rfl⟩, h.more (by omega) hn⟩) (fun hb => ?_)
  have hk : 1 < k := by simp [std] at hb; omega
  refine ok_bind (next_ok h (by omega)) ?_
  rintro ⟨v, s1⟩ ⟨⟨v0, v1⟩, h1⟩
  refine ok_cond (fun _ => ?_) (fun _ => ?_)
  · refine ok_gd (pin_i64 (by show _ ≤ v * 256; omega) (by show v * 256 ≤ _; omega)) ?_
    refine ok_bind (next_ok h1 (by omega)) ?_
    rintro ⟨u, s2⟩ ⟨⟨u0, u1⟩, h2⟩
    refine ok_gd (pin_i64 (by show _ ≤ v * 256 + u; omega) (by show v * 256 + u ≤ _; omega)) (ok_gd (by show k ≠ 0; omega) (ok_some ⟨?_, h2.more (by omega) hn⟩))
    show 0 ≤ (v * 256 + u).tmod k ∧ ((v * 256 + u).tmod k < k ∨ _)
    exact ⟨Int.tmod_nonneg _ (by omega), .inl (Int.tmod_lt_of_pos _ (by omega))⟩
  · refine ok_gd (by show k ≠ 0; omega) (ok_some ⟨?_, h1.more (by omega) hn⟩)
    show 0 ≤ v.tmod k ∧ (v.tmod k < k ∨ _)
    exact ⟨Int.tmod_nonneg _ v0, .inl (Int.tmod_lt_of_pos _ (by omega))⟩

theorem one_ok {s : Gl00Src} {n : Int} (h : SrcOk s n) (hn : n + 2 ≤ 1000000000000) (k : Int) : Ok (F_spec_l00Src_one std s k) fun r => SrcOk r.2 (n + 2) := by
  unfold F_spec_l00Src_one
  refine ok_bind (pick_ok h hn k) ?_
  rintro ⟨v, s1⟩ ⟨_, h1⟩
  exact ok_some h1

theorem among_ok {s : Gl00Src} {n : Int} (h : SrcOk s n) (hn : n + 2 ≤ 1000000000000) (l : List Int) (hl : 1 ≤ l.length) : Ok (F_spec_l00Src_among std s l) fun r => r.1 ∈ l ∧ SrcOk r.2 (n + 2) := by
  unfold F_spec_l00Src_among
  refine ok_bind (pick_ok h hn _) ?_
  rintro ⟨v, s1⟩ ⟨⟨v0, v1⟩, h1⟩
  have v0 : 0 ≤ v := v0
  have v2 : v < (l.length : Int) := by rcases v1 with g | g <;> simp only [std] at g <;> omega
  refine ok_gd ⟨v0, v2⟩ (ok_some ⟨?_, h1⟩)
  show l.getD v.toNat 0 ∈ l
  rw [List.getD_eq_getElem?_getD, List.getElem?_eq_getElem (by omega : v.toNat < l.length)]
  exact List.getElem_mem _

theorem from_ok (n : Int) : Ok (F_spec_l01From std n) fun _ => True := by
  unfold F_spec_l01From
  refine ok_bind (P := fun _ => True) ?_ (fun r _ => ok_some trivial)
  unfold F_math_Float32frombits
  refine ok_gd ?_ (ok_some trivial)
  show (IntKind.u32.wrap n).toNat < 2 ^ 32
  rw [IntKind.wrap_u32]; omega

theorem plain_ok {s : Gl00Src} {n : Int} (h : SrcOk s n) (hn : n + 4 ≤ 1000000000000) : Ok (F_spec_l01DrawPlain std s) fun r => SrcOk r.2 (n + 4) := by
  unfold F_spec_l01DrawPlain
  refine ok_bind (pick_ok h (by omega) _) ?_
  rintro ⟨v, s1⟩ ⟨⟨v0, v1⟩, h1⟩
  have v0 : 0 ≤ v := v0
  have v1 : v < 129 ∨ v = 0 := v1
  refine ok_gd (pin_i64 (by show _ ≤ v - 64; omega) (by show v - 64 ≤ _; omega)) ?_
  refine ok_bind (one_ok h1 (by omega) _) ?_
  rintro ⟨b, s2⟩ h2
  have h2' : SrcOk s2 (n + 4) := h2.more (by omega) hn
  exact ok_cond (fun _ => ok_some h2') (fun _ => ok_some h2')

theorem float_ok {s : Gl00Src} {n : Int} (h : SrcOk s n) (hn : n + 12 ≤ 1000000000000) : Ok (F_spec_l01DrawFloat std s) fun r => SrcOk r.2 (n + 12) := by
  unfold F_spec_l01DrawFloat
  refine ok_bind (one_ok h (by omega) _) ?_
  rintro ⟨b, s1⟩ h1
  refine ok_cond (fun _ => ?_) (fun _ => ?_)
  · refine ok_bind (plain_ok h1 (by omega)) ?_
    rintro ⟨v, s2⟩ h2
    exact ok_some (h2.more (by omega) hn)
  · refine ok_bind (pick_ok h1 (by omega) _) ?_
    rintro ⟨c, s2⟩ ⟨_, h2⟩
    refine ok_cond (fun _ => ?_) (fun _ => ok_cond (fun _ => ?_) (fun _ => ok_cond (fun _ => ?_) (fun _ => ?_)))
    · refine ok_bind (among_ok h2 (by omega) _ (by decide)) ?_
      rintro ⟨v, s3⟩ ⟨_, h3⟩
      exact ok_bind (from_ok _) fun _ _ => ok_some (h3.more (by omega) hn)
    · refine ok_bind (pick_ok h2 (by omega) _) ?_
      rintro ⟨v, s3⟩ ⟨⟨v0, v1⟩, h3⟩
      have v0 : 0 ≤ v := v0
      have v1 : v < 65536 ∨ v = 0 := v1
      refine ok_gd (pin_i64 (by show _ ≤ v * 65536; omega) (by show v * 65536 ≤ _; omega)) ?_
      refine ok_bind (pick_ok h3 (by omega) _) ?_
      rintro ⟨u, s4⟩ ⟨⟨u0, u1⟩, h4⟩
      have u0 : 0 ≤ u := u0
      have u1 : u < 65536 ∨ u = 0 := u1
      refine ok_gd (pin_i64 (by show _ ≤ v * 65536 + u; omega) (by show v * 65536 + u ≤ _; omega)) ?_
      exact ok_bind (from_ok _) fun _ _ => ok_some (h4.more (by omega) hn)
    · refine ok_bind (pick_ok h2 (by omega) _) ?_
      rintro ⟨v, s3⟩ ⟨⟨v0, v1⟩, h3⟩
      have v0 : 0 ≤ v := v0
      have v1 : v < 65536 ∨ v = 0 := v1
      refine ok_gd (pin_i64 (by show _ ≤ v * 65536; omega) (by show v * 65536 ≤ _; omega)) ?_
      exact ok_bind (from_ok _) fun _ _ => ok_some (h3.more (by omega) hn)
    · refine ok_bind (plain_ok h2 (by omega)) ?_
      rintro ⟨v, s3⟩ h3
      refine ok_bind (among_ok h3 (by omega) _ (by decide)) ?_
      rintro ⟨u, s4⟩ ⟨_, h4⟩
      exact ok_bind (from_ok _) fun _ _ => ok_some (h4.more (by omega) hn)

theorem floats_l_ok (b : Bool) : ∀ (j k : Nat) (m : Int) (out : List Nat) (s : Gl00Src) (n : Int), SrcOk s n → n + 12 * j ≤ 1000000000000 → m.toNat ≤ j → j < k → out.length + j ≤ 1000000 →
    Ok (F_spec_l01DrawFloats_l0 std b k m out s.code s.pos s.seed) fun r => r.1.length = out.length + m.toNat ∧ SrcOk ⟨r.2.1, r.2.2.1, r.2.2.2⟩ (n + 12 * j)
  | j, 0, m, out, s, n, h, hn, hj, hk, hl => absurd hk (Nat.not_lt_zero _)
  | j, k + 1, m, out, s, n, h, hn, hj, hk, hl => by
    rw [F_spec_l01DrawFloats_l0.eq_2]
    refine ok_cond (fun hb => ?_) (fun hb => ?_)
    · have hm : 0 < m := by simpa [std] using hb
      obtain ⟨i, rfl⟩ : ∃ i, j = i + 1 := ⟨j - 1, by omega⟩
      have rest : ∀ (v : Nat) (s1 : Gl00Src), SrcOk s1 (n + 12) → Ok (gd (std.pSmall (std.nadd (std.llen out) 1)) (gd (std.pIn .i64 (std.isub m 1)) (F_spec_l01DrawFloats_l0 std b k (std.isub m 1) (std.lapp out [v]) s1.code s1.pos s1.seed)))
          fun r => r.1.length = out.length + m.toNat ∧ SrcOk ⟨r.2.1, r.2.2.1, r.2.2.2⟩ (n + 12 * ((i + 1 : Nat) : Int)) := by
        intro v s1 h1
        have hm2 : m ≤ 1000000 := by omega
        refine ok_gd (by show out.length + 1 ≤ 1073741824; omega) (ok_gd (pin_i64 (by show _ ≤ m - 1; omega) (by show m - 1 ≤ _; omega)) ?_)
        have := floats_l_ok b i k (m - 1) (out ++ [v]) s1 (n + 12) h1 (by omega) (by omega) (by omega) (by simp; omega)
        refine ok_mono this ?_
        rintro ⟨l, c, p, q⟩ ⟨e1, e2⟩
        have e1 : l.length = (out ++ [v]).length + (m - 1).toNat := e1
        refine ⟨?_, e2.more (by omega) (by omega)⟩
        show l.length = out.length + m.toNat
        rw [e1, List.length_append, List.length_singleton]; omega
      have es : (Gl00Src.mk s.code s.pos s.seed) = s := rfl
      refine ok_cond (fun _ => ?_) (fun _ => ?_)
      · refine ok_bind (float_ok h (by omega)) ?_
        rintro ⟨v, s1⟩ h1
        exact rest v s1 h1
      · refine ok_bind (plain_ok h (by omega)) ?_
        rintro ⟨v, s1⟩ h1
        exact rest v s1 (h1.more (by omega) (by omega))
    · have hm : ¬ 0 < m := by simpa [std] using hb
      refine ok_some ⟨?_, h.more (by omega) hn⟩
      show out.length = out.length + m.toNat
      omega

theorem floats_ok {s : Gl00Src} {n : Int} (h : SrcOk s n) (m : Int) (hm : m ≤ 100000) (hn : n + 2 + 12 * m.toNat ≤ 1000000000000) :
    Ok (F_spec_l01DrawFloats std s m) fun r => r.1.length = m.toNat ∧ SrcOk r.2 (n + 2 + 12 * m.toNat) := by
  unfold F_spec_l01DrawFloats
  refine ok_bind (one_ok h (by omega) _) ?_
  rintro ⟨b, s1⟩ h1
  refine ok_bind (floats_l_ok b m.toNat KK m [] s1 (n + 2) h1 (by omega) (Nat.le_refl _) (by unfold KK; omega) (by simp; omega)) ?_
  rintro ⟨l, c, p, q⟩ ⟨e1, e2⟩
  exact ok_some ⟨by simpa using e1, e2⟩

theorem src0 {l : List Int} (h : ∀ x ∈ l, 0 ≤ x ∧ x ≤ 255) : SrcOk ⟨l, 0, 0⟩ 0 := ⟨Int.le_refl _, Int.le_refl _, h, by decide⟩
theorem wf_u8 {l : List Int} (h : ∀ x ∈ l, (Lit.int .u8 x).wf = true) : ∀ x ∈ l, 0 ≤ x ∧ x ≤ 255 := by
  intro x hx
  have := h x hx
  simp only [Lit.wf, Bool.and_eq_true, decide_eq_true_eq] at this
  have e1 : IntKind.u8.min = 0 := rfl
  have e2 : IntKind.u8.max = 255 := rfl
  rw [e1, e2] at this
  exact this

end Go.Desk
