/- V-logic, part 15: renaming, and knowing less. -/
import Derived.Test.YtmfbddhgfckfaaaVn
import Derived.Test.YtmfbddhgfckfaaaVm
namespace Go.Desk
open Go
set_option linter.all false
set_option linter.unusedVariables false

variable {c : Ctx} {L L' : LMap} {I J : Nat → Prop} {s : St} {a : Act} {w : World} {P : Program} {T : Nat → TI} {B : Nat}

theorem allP_iff : ∀ (ps : List Prop) (q : Prop), allP ps q ↔ AllOk ps ∧ q
  | [], q => by simp [allP, AllOk]
  | p :: r, q => by simp only [allP, AllOk, allP_iff r q, and_assoc]

/-- what a renaming collects: arrays that have no name there -/
def FzIn (s : St) (m : List (Nat × Nat)) (lent : Bool) (fz : List (Nat × AObj)) : Prop :=
  ∀ p ∈ fz, lk m p.1 = none ∧ ∃ own d z n f, s.ob p.1 = .arr own d z n f ∧ p.2 = frzOf own d z n f ∧ (own = true ∨ lent = true)

structure Ren (L L' : LMap) (I J : Nat → Prop) (m : List (Nat × Nat)) : Prop where
  L : ∀ o o', lk m o = some o' → ∀ l, L o = some l → L' o' = some l
  I : ∀ b, I b → J b

theorem Ren.bind3 {α β γ : Type} {x : Rd (α × β × γ)} {f : α × β × γ → Rd (α × β × γ)} (ob : Nat → AObj) : (x.bind f).run ob = (f (x.run ob)).run ob := Rd.run_bind ob x f

theorem run_map {α : Type} {x : Rd (Option α × List Prop × List (Nat × AObj))} {g : α → V} (ob : Nat → AObj) {v' : V} {ps : List Prop} {fz : List (Nat × AObj)}
    (h : (x.bind fun (a, p, u) => .pure (a.map g, p, u)).run ob = (some v', ps, fz)) : ∃ y, x.run ob = (some y, ps, fz) ∧ v' = g y := by
  rw [Rd.run_bind] at h
  generalize hx : x.run ob = r at h
  obtain ⟨o, p, u⟩ := r
  simp only [Rd.run] at h
  cases o with
  | none => simp at h
  | some y =>
    simp at h
    obtain ⟨h1, h2, h3⟩ := h
    exact ⟨y, by rw [h2, h3], h1.symm⟩

section conv
variable {m : List (Nat × Nat)} {lent : Bool}

theorem conv_osl (h : Sim c L I s a w) (hR : Ren L L' I J m) {o z lo n : Nat} {x : Value} (hv : Rel w L c.B (.osl o z lo n) I x) {v' : V} {ps : List Prop} {fz : List (Nat × AObj)}
    (hr : (conv std m lent (.osl o z lo n)).run s.ob = (some v', ps, fz)) (hok : AllOk ps) (hJ : ∀ p ∈ fz, ∀ b base, L p.1 = some (.at_ b base) → J b) :
    FzIn s m lent fz ∧ Rel w L' c.B v' J x := by
  simp only [Rel] at hv
  obtain ⟨l, ad, cap, h1, rfl, h3, h4⟩ := hv
  simp only [conv] at hr
  cases hm : lk m o with
  | some o' =>
    rw [hm] at hr
    simp only [Rd.run] at hr
    obtain ⟨e1, e2, e3⟩ : V.osl o' z lo n = v' ∧ [] = ps ∧ [] = fz := by simpa using hr
    subst e1; subst e2; subst e3
    refine ⟨fun p hp => (by cases hp), ?_⟩
    simp only [Rel]
    exact ⟨l, ad, cap, hR.L o o' hm l h1, rfl, h3, h4⟩
  | none =>
    rw [hm] at hr
    simp only [Rd.run] at hr
    cases ho : s.ob o <;> simp only [ho, Rd.run] at hr <;> first | (simp at hr; done) | skip
    · rename_i own dfr z' k f
      cases hz : nbeq z z' && (own || lent) <;> simp only [hz, cond] at hr <;> first | (simp at hr; done) | skip
      obtain ⟨hz1, hz2⟩ := Bool.and_eq_true_iff.1 hz
      have hzz := eq_of_nbeq hz1
      subst hzz
      obtain ⟨e1, e2, e3⟩ : V.sl own dfr z n (fun i => f (std.nadd lo i)) = v' ∧ [std.pNle (std.nadd lo n) k] = ps ∧ [(o, frzOf own dfr z k f)] = fz := by simpa using hr
      subst e1; subst e2; subst e3
      have hle : lo + n ≤ k := hok.1
      obtain ⟨l', k1, k2⟩ := h.ob o (by rw [ho]; simp)
      rw [h1] at k1; cases k1
      rw [ho] at k2
      refine ⟨fun p hp => ?_, ?_⟩
      · simp at hp; subst hp
        exact ⟨hm, own, dfr, z, k, f, ho, rfl, by simpa using hz2⟩
      · simp only [Rel]
        refine ⟨ad, cap, rfl, h3, fun hpos => ?_⟩
        obtain ⟨b, p, q1, q2, _, q4⟩ := arr_rows (w := w) (B := c.B) (I := J) (J := cut own c.B J) (x := .nilFunc) hle h4 (k2.2.imp id (by
          rintro ⟨b, base, cc, e, g1, g2, g3, g4, g5⟩
          exact ⟨b, base, cc, e, g1, g2, ⟨hJ (o, frzOf own dfr z k f) (by simp) b base (g1 ▸ h1), g3⟩, g4, fun i hi => ⟨(g5 i hi).1, RelAt.mono n0 (Nat.le_refl _) _ _ _ _ _ (Evo.refl w _) (fun b hb => ⟨hR.I b hb.1, hb.2⟩) rfl (g5 i hi).2⟩⟩)) hpos
        exact ⟨b, p, q1, q2, q4⟩
    · rename_i dfr z' k f
      cases hz : nbeq z z' <;> simp only [hz, cond] at hr <;> first | (simp at hr; done) | skip
      have hzz := eq_of_nbeq hz
      subst hzz
      obtain ⟨e1, e2, e3⟩ : V.sl true dfr z n (fun i => f (std.nadd lo i)) = v' ∧ [std.pNle (std.nadd lo n) k] = ps ∧ [] = fz := by simpa using hr
      subst e1; subst e2; subst e3
      have hle : lo + n ≤ k := hok.1
      obtain ⟨l', k1, k2⟩ := h.ob o (by rw [ho]; simp)
      rw [h1] at k1; cases k1
      rw [ho] at k2
      refine ⟨fun p hp => (by cases hp), ?_⟩
      simp only [Rel]
      refine ⟨ad, cap, rfl, h3, fun hpos => ?_⟩
      obtain ⟨b, p, q1, q2, _, q4⟩ := arr_rows (w := w) (B := c.B) (I := J) (J := cut true c.B J) (x := .nilFunc) hle h4 (k2.2.imp id (by
        rintro ⟨b, base, cc, e, g1, g2, g3, g4, g5, g6⟩
        exact ⟨b, base, cc, e, g1, g2, ⟨hR.I b g3, fun _ => g4⟩, g5, fun i hi => ⟨(g6 i hi).1, RelAt.mono n0 (Nat.le_refl _) _ _ _ _ _ (Evo.refl w _) (fun b hb => ⟨hR.I b hb.1, hb.2⟩) rfl (g6 i hi).2⟩⟩)) hpos
      exact ⟨b, p, q1, q2, q4⟩

theorem conv_self (hR : Ren L L' I J m) {v : V} {x : Value} (hn : ∀ L1 L2, Rel w L1 c.B v I x → Rel w L2 c.B v I x) (hv : Rel w L c.B v I x) {v' : V} {ps : List Prop} {fz : List (Nat × AObj)}
    (hr : (some v, ([] : List Prop), ([] : List (Nat × AObj))) = (some v', ps, fz)) : FzIn s m lent fz ∧ Rel w L' c.B v' J x := by
  obtain ⟨e1, e2, e3⟩ : v = v' ∧ [] = ps ∧ [] = fz := by simpa using hr
  subst e1; subst e2; subst e3
  exact ⟨fun p hp => (by cases hp), Rel.mono (fun _ _ h => h) (Nat.le_refl _) _ _ _ _ (Evo.refl w I) hR.I (hn _ _ hv)⟩

mutual
theorem ren_sound (h : Sim c L I s a w) (hR : Ren L L' I J m) : ∀ (v : V) (x : Value), Rel w L c.B v I x → ∀ (v' : V) (ps : List Prop) (fz : List (Nat × AObj)),
    (conv std m lent v).run s.ob = (some v', ps, fz) → AllOk ps → (∀ p ∈ fz, ∀ b base, L p.1 = some (.at_ b base) → J b) → FzIn s m lent fz ∧ Rel w L' c.B v' J x
  | .un, x, hv, v', ps, fz, hr, hok, hJ => conv_self (v := .un) hR (fun _ _ h => by simpa only [Rel] using h) hv (by simpa only [conv, Rd.run] using hr)
  | .und, x, hv, v', ps, fz, hr, hok, hJ => conv_self (v := .und) hR (fun _ _ h => by simpa only [Rel] using h) hv (by simpa only [conv, Rd.run] using hr)
  | .bool b, x, hv, v', ps, fz, hr, hok, hJ => conv_self (v := .bool b) hR (fun _ _ h => by simpa only [Rel] using h) hv (by simpa only [conv, Rd.run] using hr)
  | .int k n, x, hv, v', ps, fz, hr, hok, hJ => conv_self (v := .int k n) hR (fun _ _ h => by simpa only [Rel] using h) hv (by simpa only [conv, Rd.run] using hr)
  | .flt k n, x, hv, v', ps, fz, hr, hok, hJ => conv_self (v := .flt k n) hR (fun _ _ h => by simpa only [Rel] using h) hv (by simpa only [conv, Rd.run] using hr)
  | .str l, x, hv, v', ps, fz, hr, hok, hJ => conv_self (v := .str l) hR (fun _ _ h => by simpa only [Rel] using h) hv (by simpa only [conv, Rd.run] using hr)
  | .nil, x, hv, v', ps, fz, hr, hok, hJ => conv_self (v := .nil) hR (fun _ _ h => by simpa only [Rel] using h) hv (by simpa only [conv, Rd.run] using hr)
  | .nptr, x, hv, v', ps, fz, hr, hok, hJ => conv_self (v := .nptr) hR (fun _ _ h => by simpa only [Rel] using h) hv (by simpa only [conv, Rd.run] using hr)
  | .ifc b, x, hv, v', ps, fz, hr, hok, hJ => conv_self (v := .ifc b) hR (fun _ _ h => by simpa only [Rel] using h) hv (by simpa only [conv, Rd.run] using hr)
  | .sl fr dfr z n f, x, hv, v', ps, fz, hr, hok, hJ => conv_self (v := .sl fr dfr z n f) hR (fun _ _ h => by simpa only [Rel] using h) hv (by simpa only [conv, Rd.run] using hr)
  | .dptr cs, x, hv, v', ps, fz, hr, hok, hJ => conv_self (v := .dptr cs) hR (fun _ _ h => by simpa only [Rel] using h) hv (by simpa only [conv, Rd.run] using hr)
  | .osl o z lo n, x, hv, v', ps, fz, hr, hok, hJ => conv_osl h hR hv hr hok hJ
  | .ptr o off, x, hv, v', ps, fz, hr, hok, hJ => by
    simp only [conv, Rd.run] at hr
    simp only [Rel] at hv
    obtain ⟨b, base, h1, h2⟩ := hv
    cases hm : lk m o with
    | none => rw [hm] at hr; simp at hr
    | some o' =>
      rw [hm] at hr
      obtain ⟨e1, e2, e3⟩ : V.ptr o' off = v' ∧ [] = ps ∧ [] = fz := by simpa using hr
      subst e1; subst e2; subst e3
      refine ⟨fun p hp => (by cases hp), ?_⟩
      simp only [Rel]
      exact ⟨b, base, hR.L o o' hm _ h1, h2⟩
  | .eptr o z i off, x, hv, v', ps, fz, hr, hok, hJ => by
    simp only [conv, Rd.run] at hr
    simp only [Rel] at hv
    obtain ⟨b, base, h1, h2⟩ := hv
    cases hm : lk m o with
    | none => rw [hm] at hr; simp at hr
    | some o' =>
      rw [hm] at hr
      obtain ⟨e1, e2, e3⟩ : V.eptr o' z i off = v' ∧ [] = ps ∧ [] = fz := by simpa using hr
      subst e1; subst e2; subst e3
      refine ⟨fun p hp => (by cases hp), ?_⟩
      simp only [Rel]
      exact ⟨b, base, hR.L o o' hm _ h1, h2⟩
  | .agg cs, x, hv, v', ps, fz, hr, hok, hJ => by
    simp only [conv] at hr
    obtain ⟨ys, hy, rfl⟩ := run_map s.ob hr
    simp only [Rel] at hv ⊢
    obtain ⟨vs, rfl, h2⟩ := hv
    obtain ⟨g1, g2⟩ := renL_sound h hR cs vs.toList h2 ys ps fz hy hok hJ
    exact ⟨g1, vs, rfl, g2⟩
  | .tup cs, x, hv, v', ps, fz, hr, hok, hJ => by
    simp only [conv] at hr
    obtain ⟨ys, hy, rfl⟩ := run_map s.ob hr
    simp only [Rel] at hv ⊢
    obtain ⟨vs, rfl, h2⟩ := hv
    obtain ⟨g1, g2⟩ := renL_sound h hR cs vs.toList h2 ys ps fz hy hok hJ
    exact ⟨g1, vs, rfl, g2⟩
  | .fn f cs, x, hv, v', ps, fz, hr, hok, hJ => by
    simp only [conv] at hr
    obtain ⟨ys, hy, rfl⟩ := run_map s.ob hr
    simp only [Rel] at hv ⊢
    obtain ⟨vs, rfl, h2⟩ := hv
    obtain ⟨g1, g2⟩ := renL_sound h hR cs vs.toList h2 ys ps fz hy hok hJ
    exact ⟨g1, vs, rfl, g2⟩
theorem renL_sound (h : Sim c L I s a w) (hR : Ren L L' I J m) : ∀ (cs : List V) (xs : List Value), RelL w L c.B cs I xs → ∀ (cs' : List V) (ps : List Prop) (fz : List (Nat × AObj)),
    (convL std m lent cs).run s.ob = (some cs', ps, fz) → AllOk ps → (∀ p ∈ fz, ∀ b base, L p.1 = some (.at_ b base) → J b) → FzIn s m lent fz ∧ RelL w L' c.B cs' J xs
  | [], xs, hv, cs', ps, fz, hr, hok, hJ => by
    simp only [convL, Rd.run] at hr
    obtain ⟨e1, e2, e3⟩ : [] = cs' ∧ [] = ps ∧ [] = fz := by simpa using hr
    subst e1; subst e2; subst e3
    refine ⟨fun p hp => (by cases hp), ?_⟩
    simp only [RelL] at hv ⊢
    exact hv
  | v :: r, xs, hv, cs', ps, fz, hr, hok, hJ => by
    simp only [RelL] at hv
    obtain ⟨x, xr, rfl, h1, h2⟩ := hv
    simp only [convL, Rd.run_bind, Rd.run] at hr
    generalize e1 : (conv std m lent v).run s.ob = r1 at hr
    generalize e2 : (convL std m lent r).run s.ob = r2 at hr
    obtain ⟨o1, p1, f1⟩ := r1
    obtain ⟨o2, p2, f2⟩ := r2
    simp only at hr
    cases o1 <;> cases o2 <;> simp only at hr <;> first | (simp at hr; done) | skip
    rename_i y ys
    obtain ⟨hr1, hr2, hr3⟩ : y :: ys = cs' ∧ p1 ++ p2 = ps ∧ f1 ++ f2 = fz := by simpa using hr
    subst hr1; subst hr2; subst hr3
    have hok' := AllOk.append hok
    obtain ⟨a1, a2⟩ := ren_sound h hR v x h1 y p1 f1 e1 hok'.1 fun p hp => hJ p (by simp [hp])
    obtain ⟨b1, b2⟩ := renL_sound h hR r xr h2 ys p2 f2 e2 hok'.2 fun p hp => hJ p (by simp [hp])
    refine ⟨fun p hp => ?_, ?_⟩
    · rcases List.mem_append.1 hp with e | e
      · exact a1 p e
      · exact b1 p e
    · simp only [RelL]
      exact ⟨x, xr, rfl, a2, b2⟩
end
end conv

/- knowing less -/
theorem scal_at : ∀ (cs : List V) (L L' : LMap) (B B' : Nat) (I J : Nat → Prop) (b p : Nat), scalC cs = true → RelAt w L B cs I b p → RelAt w L' B' cs J b p
  | [], _, _, _, _, _, _, _, _, _, _ => by simp [RelAt]
  | v :: r, L, L', B, B', I, J, b, p, hs, h => by
    simp only [RelAt] at h ⊢
    obtain ⟨⟨x, h1, h1', h2⟩, h3⟩ := h
    cases v <;> simp only [scalC] at hs <;> first | (cases hs; done) | skip
    all_goals exact ⟨⟨x, h1, h1', by simpa only [Rel] using h2⟩, scal_at r L L' B B' I J b (p + 1) hs h3⟩

theorem kEq_eq : ∀ k k' : IntKind, kEq k k' = true → k = k' := by intro k k' h; cases k <;> cases k' <;> first | rfl | cases h
theorem fkEq_eq : ∀ k k' : FloatKind, fkEq k k' = true → k = k' := by intro k k' h; cases k <;> cases k' <;> first | rfl | cases h


theorem deep_at {cl dfr dfr' : Bool} {n : Nat} {g : Nat → List V} {q : Prop} (h : deepOk cl dfr dfr' n g q) : q ∧ (dfr' = true → (cl = false ∧ dfr = true) ∨ ∀ i, i < n → scalC (g i) = true) := by
  unfold deepOk at h
  cases dfr' <;> simp only at h
  · exact ⟨h, fun h => (by cases h)⟩
  · cases cl <;> cases dfr <;> simp only at h
    · exact ⟨h.2, fun _ => .inr h.1⟩
    · exact ⟨h, fun _ => .inl (by simp)⟩
    · exact ⟨h.2, fun _ => .inr h.1⟩
    · exact ⟨h.2, fun _ => .inr h.1⟩

theorem leL_len {cl tp : Bool} : ∀ (cs ds : List V), LeL cl tp cs ds → cs.length = ds.length
  | [], [], _ => rfl
  | [], _ :: _, h => by simp [LeL] at h
  | _ :: _, [], h => by simp [LeL] at h
  | _ :: r, _ :: q, h => by simp only [LeL] at h; simp [leL_len r q h.2]

mutual
theorem le_sound {cl : Bool} {B' : Nat} (hB : cl = false → B' = B) : ∀ (u : V) (tp : Bool) (v : V) (L L' : LMap) (I J : Nat → Prop) (x : Value), (∀ o ∈ refs u, ∀ l, L o = some l → L' o = some l) →
    (tp = true → ∀ o ∈ refs u, ∃ l, L' o = some l) → (∀ b, I b → J b) → Le cl tp v u → Rel w L B v I x → Rel w L' B' u J x
  | .un, tp, v, L, L', I, J, x, hL, hs, hI, h, hr => by simp [Rel]
  | .und, tp, v, L, L', I, J, x, hL, hs, hI, h, hr => by
    cases v <;> simp only [Le] at h <;> first | (exact h.elim) | (simpa only [Rel] using hr)
  | .bool b, tp, v, L, L', I, J, x, hL, hs, hI, h, hr => by
    cases v <;> simp only [Le] at h <;> first | (exact h.elim) | (subst h; simpa only [Rel] using hr)
  | .int k n, tp, v, L, L', I, J, x, hL, hs, hI, h, hr => by
    cases v <;> simp only [Le] at h <;> first | (exact h.elim) | skip
    rename_i k' n'
    cases hk : kEq k' k <;> rw [hk] at h <;> simp only [cond] at h
    subst h; have := kEq_eq _ _ hk; subst this; simpa only [Rel] using hr
  | .flt k n, tp, v, L, L', I, J, x, hL, hs, hI, h, hr => by
    cases v <;> simp only [Le] at h <;> first | (exact h.elim) | skip
    rename_i k' n'
    cases hk : fkEq k' k <;> rw [hk] at h <;> simp only [cond] at h
    subst h; have := fkEq_eq _ _ hk; subst this; simpa only [Rel] using hr
  | .str l, tp, v, L, L', I, J, x, hL, hs, hI, h, hr => by
    cases v <;> simp only [Le] at h <;> first | (exact h.elim) | (subst h; simpa only [Rel] using hr)
  | .nil, tp, v, L, L', I, J, x, hL, hs, hI, h, hr => by
    cases v <;> simp only [Le] at h <;> first | (exact h.elim) | (simpa only [Rel] using hr)
  | .nptr, tp, v, L, L', I, J, x, hL, hs, hI, h, hr => by
    cases v <;> simp only [Le] at h <;> first | (exact h.elim) | (simpa only [Rel] using hr)
  | .ifc b, tp, v, L, L', I, J, x, hL, hs, hI, h, hr => by
    cases v <;> simp only [Le] at h <;> first | (exact h.elim) | (subst h; simpa only [Rel] using hr)
  | .sl fr' dfr' z' n' f', tp, v, L, L', I, J, x, hL, hs, hI, h, hr => by
    cases v <;> simp only [Le] at h <;> first | (exact h.elim) | skip
    · subst h
      simp only [Rel] at hr ⊢
      exact ⟨none, 0, hr, Nat.le_refl _, fun h => absurd h (Nat.lt_irrefl _)⟩
    · rename_i fr dfr z n f
      cases hz : nbeq z z' && flagOk cl fr fr' <;> rw [hz] at h <;> simp only [cond] at h
      obtain ⟨hz1, hz2⟩ := Bool.and_eq_true_iff.1 hz
      have hzz := eq_of_nbeq hz1
      subst hzz
      obtain ⟨hn, hd⟩ := h
      subst hn
      obtain ⟨hq, hd⟩ := deep_at hd
      simp only [Rel] at hr ⊢
      obtain ⟨ad, cap, h1, h2, h3⟩ := hr
      refine ⟨ad, cap, h1, h2, fun hpos => ?_⟩
      obtain ⟨b, off, h4, h5, h6⟩ := h3 hpos
      refine ⟨b, off, h4, ?_, fun i hi => ?_⟩
      · refine ⟨hI b h5.1, fun hf => ?_⟩
        subst hf
        unfold flagOk at hz2
        cases cl <;> simp only at hz2
        · rw [hB rfl]; exact h5.2 (by simpa using hz2)
        · simp at hz2
      · obtain ⟨g1, g2⟩ := h6 i hi
        refine ⟨(leL_len _ _ (hq i hi)).symm.trans g1, ?_⟩
        cases dfr' with
        | false => exact leA_sound hB (f' i) false (f i) N0 N0 (cut dfr B I) _ b _ (fun _ _ _ h => h) (fun h => by cases h) (fun b hb => ⟨hI b hb.1, fun h => by cases h⟩) (hq i hi) g2
        | true =>
          rcases hd rfl with ⟨e1, e2⟩ | hs
          · subst e2; rw [hB e1]
            exact leA_sound (fun _ => rfl) (f' i) false (f i) N0 N0 (cut true B I) _ b _ (fun _ _ _ h => h) (fun h => by cases h) (fun b hb => ⟨hI b hb.1, hb.2⟩) (hq i hi) g2
          · exact scal_at _ N0 N0 B' B' _ _ b _ (hs i hi) (leA_sound hB (f' i) false (f i) N0 N0 (cut dfr B I) (fun _ => True) b _ (fun _ _ _ h => h) (fun h => by cases h) (fun b hb => trivial) (hq i hi) g2)
  | .agg ds, tp, v, L, L', I, J, x, hL, hs, hI, h, hr => by
    cases v <;> simp only [Le] at h <;> first | (exact h.elim) | skip
    simp only [Rel] at hr ⊢
    obtain ⟨vs, h1, h2⟩ := hr
    exact ⟨vs, h1, leL_sound hB ds tp _ L L' I J _ (by simpa [refs] using hL) (by simpa [refs] using hs) hI h h2⟩
  | .tup ds, tp, v, L, L', I, J, x, hL, hs, hI, h, hr => by
    cases v <;> simp only [Le] at h <;> first | (exact h.elim) | skip
    simp only [Rel] at hr ⊢
    obtain ⟨vs, h1, h2⟩ := hr
    exact ⟨vs, h1, leL_sound hB ds tp _ L L' I J _ (by simpa [refs] using hL) (by simpa [refs] using hs) hI h h2⟩
  | .fn g ds, tp, v, L, L', I, J, x, hL, hs, hI, h, hr => by
    cases v <;> simp only [Le] at h <;> first | (exact h.elim) | skip
    rename_i g' cs
    cases hg : nbeq g' g <;> rw [hg] at h <;> simp only [cond] at h
    have := eq_of_nbeq hg
    subst this
    simp only [Rel] at hr ⊢
    obtain ⟨vs, h1, h2⟩ := hr
    exact ⟨vs, h1, leL_sound hB ds tp _ L L' I J _ (by simpa [refs] using hL) (by simpa [refs] using hs) hI h h2⟩
  | .ptr o' off', tp, v, L, L', I, J, x, hL, hs, hI, h, hr => by
    cases v <;> simp only [Le] at h <;> first | (exact h.elim) | skip
    rename_i o off
    cases hg : nbeq o o' && nbeq off off' <;> rw [hg] at h <;> simp only [cond] at h
    obtain ⟨g1, g2⟩ := Bool.and_eq_true_iff.1 hg
    have g1 := eq_of_nbeq g1; have g2 := eq_of_nbeq g2
    subst g1; subst g2
    simp only [Rel] at hr ⊢
    obtain ⟨b, base, h1, h2⟩ := hr
    exact ⟨b, base, hL o (by simp [refs]) _ h1, h2⟩
  | .eptr o' z' i' off', tp, v, L, L', I, J, x, hL, hs, hI, h, hr => by
    cases v <;> simp only [Le] at h <;> first | (exact h.elim) | skip
    rename_i o z i off
    cases hg : nbeq o o' && nbeq z z' && nbeq off off' <;> rw [hg] at h <;> simp only [cond] at h
    obtain ⟨g0, g3⟩ := Bool.and_eq_true_iff.1 hg
    obtain ⟨g1, g2⟩ := Bool.and_eq_true_iff.1 g0
    have g1 := eq_of_nbeq g1; have g2 := eq_of_nbeq g2; have g3 := eq_of_nbeq g3
    subst g1; subst g2; subst g3; subst h
    simp only [Rel] at hr ⊢
    obtain ⟨b, base, h1, h2⟩ := hr
    exact ⟨b, base, hL o (by simp [refs]) _ h1, h2⟩
  | .osl o' z' lo' n', tp, v, L, L', I, J, x, hL, hs, hI, h, hr => by
    cases v <;> simp only [Le] at h <;> first | (exact h.elim) | skip
    · cases tp <;> simp only at h
      subst h
      obtain ⟨l, hl⟩ := hs rfl o' (by simp [refs])
      simp only [Rel] at hr ⊢
      exact ⟨l, none, 0, hl, hr, Nat.le_refl _, .inl (by simp)⟩
    · rename_i o z lo n
      cases hg : nbeq o o' && nbeq z z' <;> rw [hg] at h <;> simp only [cond] at h
      obtain ⟨g1, g2⟩ := Bool.and_eq_true_iff.1 hg
      have g1 := eq_of_nbeq g1; have g2 := eq_of_nbeq g2
      subst g1; subst g2
      obtain ⟨e1, e2⟩ := h
      subst e1; subst e2
      simp only [Rel] at hr ⊢
      obtain ⟨l, ad, cap, h1, h2⟩ := hr
      exact ⟨l, ad, cap, hL o (by simp [refs]) _ h1, h2⟩
  | .dptr ds, tp, v, L, L', I, J, x, hL, hs, hI, h, hr => by
    cases v <;> simp only [Le] at h <;> first | (exact h.elim) | skip
    rename_i cs
    simp only [Rel] at hr ⊢
    obtain ⟨b, p, h1, h2, h3⟩ := hr
    exact ⟨b, p, h1, hI b h2, leA_sound hB ds false cs N0 N0 I J b p (fun _ _ _ h => h) (fun h => by cases h) hI h h3⟩
theorem leL_sound {cl : Bool} {B' : Nat} (hB : cl = false → B' = B) : ∀ (ds : List V) (tp : Bool) (cs : List V) (L L' : LMap) (I J : Nat → Prop) (xs : List Value), (∀ o ∈ refsL ds, ∀ l, L o = some l → L' o = some l) →
    (tp = true → ∀ o ∈ refsL ds, ∃ l, L' o = some l) → (∀ b, I b → J b) → LeL cl tp cs ds → RelL w L B cs I xs → RelL w L' B' ds J xs
  | [], tp, cs, L, L', I, J, xs, hL, hs, hI, h, hr => by
    cases cs <;> simp only [LeL] at h
    simpa only [RelL] using hr
  | u :: q, tp, cs, L, L', I, J, xs, hL, hs, hI, h, hr => by
    cases cs <;> simp only [LeL] at h
    simp only [RelL] at hr ⊢
    obtain ⟨x, xr, rfl, h1, h2⟩ := hr
    exact ⟨x, xr, rfl, le_sound hB u tp _ L L' I J x (fun o ho => hL o (by simp [refsL, ho])) (fun ht o ho => hs ht o (by simp [refsL, ho])) hI h.1 h1,
      leL_sound hB q tp _ L L' I J xr (fun o ho => hL o (by simp [refsL, ho])) (fun ht o ho => hs ht o (by simp [refsL, ho])) hI h.2 h2⟩
theorem leA_sound {cl : Bool} {B' : Nat} (hB : cl = false → B' = B) : ∀ (ds : List V) (tp : Bool) (cs : List V) (L L' : LMap) (I J : Nat → Prop) (b p : Nat), (∀ o ∈ refsL ds, ∀ l, L o = some l → L' o = some l) →
    (tp = true → ∀ o ∈ refsL ds, ∃ l, L' o = some l) → (∀ b, I b → J b) → LeL cl tp cs ds → RelAt w L B cs I b p → RelAt w L' B' ds J b p
  | [], tp, cs, L, L', I, J, b, p, hL, hs, hI, h, hr => by simp [RelAt]
  | u :: q, tp, cs, L, L', I, J, b, p, hL, hs, hI, h, hr => by
    cases cs <;> simp only [LeL] at h
    simp only [RelAt] at hr ⊢
    obtain ⟨⟨x, h1, h1', h2⟩, h3⟩ := hr
    exact ⟨⟨x, h1, h1', le_sound hB u tp _ L L' I J x (fun o ho => hL o (by simp [refsL, ho])) (fun ht o ho => hs ht o (by simp [refsL, ho])) hI h.1 h2⟩,
      leA_sound hB q tp _ L L' I J b (p + 1) (fun o ho => hL o (by simp [refsL, ho])) (fun ht o ho => hs ht o (by simp [refsL, ho])) hI h.2 h3⟩
end

end Go.Desk
