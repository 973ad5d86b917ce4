/- V-logic, part 7: operations that write or make memory. -/
import Derived.Test.YtmfbddhgfckfaaaVf
namespace Go.Desk
open Go
set_option linter.all false
set_option linter.unusedVariables false

variable {c : Ctx} {L : LMap} {I : Nat → Prop} {s : St} {a : Act} {w : World} {P : Program} {T : Nat → TI} {B : Nat}

theorem fresh_rel {v : V} {x : Value} (hp : plainC v = true) (hf : freshC [v] = true) (h : Rel w L B v I x) : Rel w L B v (cut true B I) x := by
  cases v <;> simp only [plainC] at hp <;> first | (cases hp; done) | skip
  all_goals simp only [Rel] at h ⊢
  all_goals first | exact h | skip
  rename_i fr dfr z n f
  simp only [freshC, Bool.and_true, Bool.and_eq_true] at hf
  obtain ⟨rfl, rfl⟩ := hf
  obtain ⟨ad, cap, h1, h2, h3⟩ := h
  have hc : ∀ b, cut true B I b → cut true B (cut true B I) b := fun b hb => ⟨hb, hb.2⟩
  refine ⟨ad, cap, h1, h2, fun hn => ?_⟩
  obtain ⟨b, off, h4, h5, h6⟩ := h3 hn
  exact ⟨b, off, h4, hc b h5, fun i hi => ⟨(h6 i hi).1, RelAt.mono (fun _ _ h => h) (Nat.le_refl _) _ _ _ _ _ (Evo.refl w _) hc rfl (h6 i hi).2⟩⟩
theorem freshC_cons {v : V} {r : List V} (h : freshC (v :: r) = true) : freshC [v] = true ∧ freshC r = true := by
  cases v <;> simp_all [freshC]
theorem fresh_relL : ∀ {vs : List V} {xs : List Value}, (∀ v ∈ vs, plainC v = true) → freshC vs = true → RelL w L B vs I xs → RelL w L B vs (cut true B I) xs
  | [], xs, _, _, h => by simpa [RelL] using h
  | v :: vs, xs, hp, hf, h => by
    simp only [RelL] at h ⊢
    obtain ⟨x, r, rfl, h1, h2⟩ := h
    have := freshC_cons hf
    exact ⟨x, r, rfl, fresh_rel (hp v (by simp)) this.1 h1, fresh_relL (fun u hu => hp u (by simp [hu])) this.2 h2⟩
theorem cut_relL {vs : List V} {xs : List Value} (hp : ∀ v ∈ vs, plainC v = true) {d : Bool} (hd : d = true → freshC vs = true) (h : RelL w L B vs I xs) : RelL w L B vs (cut d B I) xs := by
  cases d
  · exact RelL.mono (fun _ _ h => h) (Nat.le_refl _) _ _ _ _ (Evo.refl w I) (fun b hb => ⟨hb, fun h => by cases h⟩) h
  · exact fresh_relL hp (hd rfl) h
theorem plain_n0 {v : V} {x : Value} (hp : plainC v = true) (h : Rel w L B v I x) : Rel w N0 B v I x := by
  cases v <;> simp only [plainC] at hp <;> first | (cases hp; done) | (simpa only [Rel] using h)
theorem plain_n0L : ∀ {vs : List V} {xs : List Value}, (∀ v ∈ vs, plainC v = true) → RelL w L B vs I xs → RelL w N0 B vs I xs
  | [], xs, _, h => by simpa [RelL] using h
  | v :: vs, xs, hp, h => by
    simp only [RelL] at h ⊢
    obtain ⟨x, r, rfl, h1, h2⟩ := h
    exact ⟨x, r, rfl, plain_n0 (hp v (by simp)) h1, plain_n0L (fun u hu => hp u (by simp [hu])) h2⟩
theorem cut_sub {d d' : Bool} {J : Nat → Prop} (hd : d' = true → d = true) (hI : ∀ b, I b → J b) : ∀ b, cut d B I b → cut d' B J b := fun b hb => ⟨hI b hb.1, fun h => hb.2 (hd h)⟩

theorem notIn_ne : ∀ {fz : List (Nat × AObj)} {o : Nat}, notIn o fz = true → ∀ ob : Nat → AObj, upO fz ob o = ob o
  | [], o, _, ob => rfl
  | (i, x) :: r, o, h, ob => by
    simp only [notIn, Bool.and_eq_true, Bool.not_eq_true'] at h
    rw [upO_cons, if_neg (by intro e; subst e; simp at h)]
    exact notIn_ne h.2 ob

theorem row_cells {b q : Nat} {cs : Array Value} {e : TypeId} {vs : List Value} (hb : w.heap[b]? = some (.cells cs e (0, 0))) (hq : q + vs.length ≤ cs.size) :
    (w.setRow b (splice cs q vs)).heap[b]? = some (.cells (splice cs q vs) e (0, 0)) ∧
    (∀ j, j < q ∨ q + vs.length ≤ j → (w.setRow b (splice cs q vs)).cell? ⟨b, j, none⟩ = w.cell? ⟨b, j, none⟩) ∧
    (∀ j u, vs[j]? = some u → (w.setRow b (splice cs q vs)).cell? ⟨b, q + j, none⟩ = some u) := by
  have hb' := setRow_heap w b cs (splice cs q vs) e (0, 0) hb
  refine ⟨hb', fun j hj => ?_, fun j u hj => ?_⟩
  · simp only [World.cell?, hb', hb, splice_get cs q vs hq]
    by_cases h1 : j < q
    · simp [h1]
    · have h2 : ¬ j < q + vs.length := by omega
      simp [h1, h2]
  · have hjl : j < vs.length := by
      rcases Nat.lt_or_ge j vs.length with g | g
      · exact g
      · simp [List.getElem?_eq_none g] at hj
    simp only [World.cell?, hb', splice_get cs q vs hq]
    have h1 : ¬ q + j < q := by omega
    have h2 : q + j < q + vs.length := by omega
    simp [h1, h2, hj]

def GivesU (P : Program) (c : Ctx) (a : Act) (w : World) (M : Sem Unit) (s : St) (d : Option Nat) (e : Eff) : Prop :=
  ∃ w' L' I', M.run P w = .ok () w' ∧ Sim c L' I' (s.app d e) (a.put d undef) w'

theorem store_sound (hT : TOk P T) (h : Sim c L I s a w) (d : Option Nat) (hd : ∀ x, d = some x → x < c.N) {t : Nat} {v u : V} {x y : Value} (hv : Rel w L c.B v I x) (hu : Rel w L c.B u I y)
    (hok : AllOk ((effStore ⟨std, T⟩ t v u).run s.ob).ok) : GivesU P c a w (Instr.storeAt t x y) s d ((effStore ⟨std, T⟩ t v u).run s.ob) := by
  unfold effStore at hok ⊢
  cases hf : fits (T t) u
  · simp only [hf, cond, Rd.run] at hok; exact fail_elim hok
  simp only [hf, cond] at hok ⊢
  obtain ⟨f0, f1, f2, f3, f4, f5⟩ := fits_cells hf hu
  cases v <;> simp only [Rd.run] at hok ⊢ <;> first | exact fail_elim hok | skip
  case ptr o off =>
    cases ho : s.ob o <;> simp only [ho, Rd.run] at hok ⊢ <;> first | exact fail_elim hok | skip
    rename_i cs
    cases hle : nble (off + (T t).sz) (lenV cs) <;> simp only [hle, Rd.run] at hok ⊢ <;> first | exact fail_elim hok | skip
    have hle' : off + (T t).sz ≤ cs.length := by rw [← lenV_eq]; exact le_of_nble hle
    simp only [Rel] at hv
    obtain ⟨b, base, h1, rfl⟩ := hv
    obtain ⟨l, h2, h3⟩ := h.ob o (by rw [ho]; simp)
    rw [h1] at h2; cases h2
    rw [ho] at h3
    obtain ⟨b', base', cc, e, g1, g2, g3⟩ := h3
    cases g1
    have hsz : base + off + (T t).sz ≤ cc.size := by
      obtain ⟨z, q1, _⟩ := RelAt.cell cs I b base (off + (T t).sz - 1) g3 (by omega)
      simp only [World.cell?, g2] at q1
      have : base + (off + (T t).sz - 1) < cc.size := by
        rcases Nat.lt_or_ge (base + (off + (T t).sz - 1)) cc.size with g | g
        · exact g
        · simp [Array.getElem?_eq_none g] at q1
      omega
    have hrun := store_part hT hf hu g2 hsz
    have hvl : y.cells.toList.length = (T t).sz := by simpa using f3
    obtain ⟨r1, r2, r3⟩ := row_cells (w := w) (q := base + off) (vs := y.cells.toList) g2 (by rw [hvl]; exact hsz)
    refine ⟨w.setRow b (splice cc (base + off) y.cells.toList), L, I, by simp [Instr.storeAt, Instr.sureAddr, hrun], ?_⟩
    refine Sim.putV (s := { s with ob := upO [(o, .box (setV cs off (vcells u)))] s.ob }) ?_ d hd (by simp [Rel])
    refine h.updO o (.box (setV cs off (vcells u))) (by rw [ho]; rfl) rfl h1 ⟨rfl, rfl⟩ (by simp) (fun k hk => setRow_other _ _ _ _ hk) g2 r1 (splice_size _ _ _ (by rw [hvl]; exact hsz)) (fun he => ?_)
    refine ⟨b, base, _, e, rfl, r1, ?_⟩
    refine RelAt.set cs off (vcells u) y.cells.toList I b base g3 (RelL.mono (fun _ _ h => h) (Nat.le_refl _) _ _ _ _ he (fun _ h => h) f2) he (fun j hj => ?_) (fun j z hj => ?_)
    · exact r2 _ (by omega)
    · exact ⟨r3 j z hj, f4 z (List.mem_of_getElem? hj)⟩
  case eptr o z i off =>
    cases ho : s.ob o <;> simp only [ho, Rd.run, Rd.run_bind] at hok ⊢ <;> first | exact fail_elim hok | skip
    rename_i own dfr z' n f
    cases hdat : (datL std (vcells u)).run s.ob with
    | mk o1 q1 =>
    obtain ⟨ps, fz⟩ := q1
    rw [hdat] at hok
    cases o1 <;> simp only [Rd.run] at hok ⊢ <;> first | exact fail_elim hok | skip
    rename_i xs
    cases hc : (nbeq z z' && nble (off + (T t).sz) z && notIn o fz) <;> simp only [hc, Rd.run] at hok ⊢ <;> first | exact fail_elim hok | skip
    simp only [Bool.and_eq_true] at hc
    have hzz := eq_of_nbeq hc.1.1
    subst hzz
    have hle' : off + (T t).sz ≤ z := le_of_nble hc.1.2
    have hin : i < n := hok.1
    obtain ⟨d1, d2, d3, d4⟩ := datL_sound h f2 hdat hok.2
    obtain ⟨I1, hI1, hS1⟩ := freezeAll h fz d1
    have hxs := d4 I1 _ hI1 (frozen_upO d1) hS1
    have ho1 : upO fz s.ob o = .arr own dfr z n f := by rw [notIn_ne hc.2, ho]
    simp only [Rel] at hv
    obtain ⟨b, base, h1, rfl⟩ := hv
    obtain ⟨l, h2, h3⟩ := hS1.ob o (by simp only [ho1]; simp)
    rw [h1] at h2; cases h2
    simp only [ho1] at h3
    rcases h3.2 with ⟨g, _⟩ | ⟨b', base', cc, e, g1, g2, g3, g4, g5⟩
    · omega
    cases g1
    have hiz : i * z + z ≤ n * z := by rw [← Nat.succ_mul]; exact Nat.mul_le_mul_right z hin
    have hvl : y.cells.toList.length = (T t).sz := by simpa using f3
    have hsz : base + i * z + off + (T t).sz ≤ cc.size := by omega
    have hrun := store_part hT hf hu g2 hsz
    obtain ⟨r1, r2, r3⟩ := row_cells (w := w) (q := base + i * z + off) (vs := y.cells.toList) g2 (by rw [hvl]; exact hsz)
    refine ⟨w.setRow b (splice cc (base + i * z + off) y.cells.toList), L, I1, by simp [Instr.storeAt, Instr.sureAddr, hrun], ?_⟩
    refine Sim.putV (s := { s with ob := upO [(o, _)] (upO fz s.ob) }) ?_ d hd (by simp [Rel])
    refine Sim.updO (s := { s with ob := upO fz s.ob }) hS1 o _ (by simp only [ho1]; rfl) rfl h1 ⟨rfl, rfl⟩ (by simp) (fun k hk => setRow_other _ _ _ _ hk) g2 r1 (splice_size _ _ _ (by rw [hvl]; exact hsz)) (fun he => ?_)
    refine ⟨h3.1, .inr ⟨b, base, _, e, rfl, r1, g3, by rw [splice_size _ _ _ (by rw [hvl]; exact hsz)]; exact g4, fun j hj => ?_⟩⟩
    have hcut := cut_sub (B := c.B) (I := I1) (J := I1) (d := dfr) (d' := dfr && freshC xs) (by intro hh; simp at hh; exact hh.1) (fun _ h => h)
    by_cases ej : j = i
    · subst ej
      have hn : std.neq j j = true := by simp [std]
      simp only [hn]
      refine ⟨by rw [← lenV_eq, lenV_set, lenV_eq]; exact (g5 j hj).1, ?_⟩
      have hold := RelAt.mono (w := w) (w' := w) (L := N0) (L' := N0) (B := c.B) (B' := c.B) (fun _ _ h => h) (Nat.le_refl _) (f j) _ _ b _ (Evo.refl w _) hcut rfl (g5 j hj).2
      refine RelAt.set (f j) off xs y.cells.toList _ b (base + j * z) hold (RelL.mono (fun _ _ h => h) (Nat.le_refl _) _ _ _ _ (he.sub fun b hb => hb.1) (fun _ h => h)
        (cut_relL d2 (by intro hh; simp at hh; exact hh.2) (plain_n0L d2 hxs))) (he.sub fun b hb => hb.1) (fun k hk => r2 _ (by omega)) (fun k q hk => ⟨r3 k q hk, f4 q (List.mem_of_getElem? hk)⟩)
    · have hn : std.neq j i = false := by simpa [std] using ej
      simp only [hn]
      refine ⟨(g5 j hj).1, ?_⟩
      refine RelAt.copy (f j) _ b _ b _ (RelAt.mono (w := w) (w' := w) (L := N0) (L' := N0) (B := c.B) (B' := c.B) (fun _ _ h => h) (Nat.le_refl _) (f j) _ _ b _ (Evo.refl w _) hcut rfl (g5 j hj).2) (he.sub fun b hb => hb.1) (fun k hk => r2 _ ?_)
      rw [(g5 j hj).1] at hk
      rcases Nat.lt_or_gt_of_ne ej with g | g
      · have : j * z + z ≤ i * z := by rw [← Nat.succ_mul]; exact Nat.mul_le_mul_right z g
        omega
      · have : i * z + z ≤ j * z := by rw [← Nat.succ_mul]; exact Nat.mul_le_mul_right z g
        omega

end Go.Desk
