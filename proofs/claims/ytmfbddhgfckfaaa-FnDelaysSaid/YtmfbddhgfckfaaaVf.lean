/- V-logic, part 6: what each operation does on the machine is what 'eff' says. -/
import Derived.Test.YtmfbddhgfckfaaaVe
namespace Go.Desk
open Go
set_option linter.all false
set_option linter.unusedVariables false

variable {c : Ctx} {L : LMap} {I : Nat → Prop} {s : St} {a : Act} {w : World} {P : Program} {T : Nat → TI} {B : Nat}

theorem Rd.run_bind {α β : Type} (ob : Nat → AObj) (x : Rd α) (f : α → Rd β) : (x.bind f).run ob = (f (x.run ob)).run ob := by
  induction x with
  | pure a => rfl
  | get o k ih => exact ih (ob o)

theorem vlit_rel (v : Value) : Rel w L B (vlit v) I v := by
  unfold vlit
  split
  · simp [Rel]
  · simp [Rel]
  · rename_i b
    cases h : decide (b < 4294967296)
    · simp [Rel]
    · have : b < 4294967296 := by simpa [nblt_eq] using h
      simp only [cond, Rel]; exact ⟨b, rfl, rfl, this⟩
  · rename_i b
    cases h : decide (b < 18446744073709551616)
    · simp [Rel]
    · have : b < 18446744073709551616 := by simpa [nblt_eq] using h
      simp only [cond, Rel]; exact ⟨b, rfl, rfl, this⟩
  · simp only [Rel]; exact ⟨_, rfl, rfl⟩
  · simp [Rel]
  · simp [Rel]
  · simp [Rel]
  · simp [Rel]
theorem map_vlit_rel : ∀ l : List Value, RelL w L B (l.map vlit) I l
  | [] => by simp [RelL]
  | v :: l => by simp only [List.map, RelL]; exact ⟨v, l, rfl, vlit_rel v, map_vlit_rel l⟩
theorem vconst_rel (v : Value) : Rel w L B (vconst v) I v := by
  unfold vconst
  split
  · rename_i cs
    simp only [Rel]; exact ⟨cs, rfl, map_vlit_rel _⟩
  · exact vlit_rel v

theorem Sim.ev (h : Sim c L I s a w) (x : Operand) : Rel w L c.B (s.ev x) I (a.eval x) := by
  cases x with
  | tmp t => exact h.tm t
  | const v => exact vconst_rel v
  | global g => simp [St.ev, Rel]
  | func f => simp only [St.ev, Act.eval, Rel]; exact ⟨#[], rfl, by simp [RelL]⟩

theorem Sim.app_val (h : Sim c L I s a w) (d : Option Nat) (hd : ∀ x, d = some x → x < c.N) {v : V} {x : Value} {ok : List Prop} (hv : Rel w L c.B v I x) :
    Sim c L I (s.app d ⟨ok, v, [], []⟩) (a.put d x) w := h.putV d hd hv

/-- what is shown of an operation that gives a value -/
def Gives (P : Program) (c : Ctx) (a : Act) (w : World) (M : Sem Value) (s : St) (d : Option Nat) (e : Eff) : Prop :=
  ∃ x w' L' I', M.run P w = .ok x w' ∧ Sim c L' I' (s.app d e) (a.put d x) w'
def AllOk : List Prop → Prop
  | [] => True
  | p :: r => p ∧ AllOk r

theorem Gives.val (h : Sim c L I s a w) (d : Option Nat) (hd : ∀ x, d = some x → x < c.N) {v : V} {x : Value} {M : Sem Value} {ok : List Prop}
    (hr : M.run P w = .ok x w) (hv : Rel w L c.B v I x) : Gives P c a w M s d ⟨ok, v, [], []⟩ :=
  ⟨x, w, L, I, hr, h.app_val d hd hv⟩
/-- a NaN's bits may be asked of the tape -/
theorem Gives.val_drew (h : Sim c L I s a w) (d : Option Nat) (hd : ∀ x, d = some x → x < c.N) {v : V} {x : Value} {M : Sem Value} {ok : List Prop}
    (hr : M.run P w = .ok x w.drew) (hv : ∀ w, Rel w L c.B v I x) : Gives P c a w M s d ⟨ok, v, [], []⟩ :=
  ⟨x, w.drew, L, I, hr, h.drew.app_val d hd (hv _)⟩

theorem fail_elim {α : Prop} (h : AllOk Eff.fail.ok) : α := by simp [Eff.fail, AllOk] at h

theorem addr_add (b p n : Nat) : (⟨b, p, none⟩ : Addr).add n = ⟨b, p + n, none⟩ := by
  unfold Addr.add
  split
  · rename_i e; subst e; rfl
  · rfl

theorem load_sound (hT : TOk P T) (h : Sim c L I s a w) (d : Option Nat) (hd : ∀ x, d = some x → x < c.N) {t : Nat} {v : V} {x : Value} (hv : Rel w L c.B v I x)
    (hok : AllOk ((effLoad ⟨std, T⟩ t v).run s.ob).ok) : Gives P c a w (Instr.loadAt t x) s d ((effLoad ⟨std, T⟩ t v).run s.ob) := by
  cases v <;> simp only [effLoad, Rd.run] at hok ⊢ <;> first | exact fail_elim hok | skip
  case ptr o off =>
    cases ho : s.ob o <;> simp only [ho, Rd.run] at hok ⊢ <;> first | exact fail_elim hok | skip
    rename_i cs
    cases hp : partV (T t) cs off <;> simp only [hp, Rd.run, Eff.v] at hok ⊢ <;> first | exact fail_elim hok | skip
    simp only [Rel] at hv
    obtain ⟨b, base, h1, rfl⟩ := hv
    obtain ⟨l, h2, h3⟩ := h.ob o (by rw [ho]; simp)
    rw [h1] at h2; cases h2
    rw [ho] at h3
    obtain ⟨b', base', cc, e, g1, g2, g3⟩ := h3
    cases g1
    obtain ⟨y, k1, k2⟩ := load_part hT hp g3
    exact Gives.val h d hd (by simp [Instr.loadAt, Instr.sureAddr, k1]) k2
  case eptr o z i off =>
    cases ho : s.ob o <;> simp only [ho, Rd.run] at hok ⊢ <;> first | exact fail_elim hok | skip
    all_goals
      rename_i z' n f
      cases hz : nbeq z z' <;> cases hp : partV (T t) (f i) off <;> simp only [hz, hp, Rd.run, Eff.vc] at hok ⊢ <;> first | exact fail_elim hok | skip
      simp only [Rel] at hv
      obtain ⟨b, base, h1, rfl⟩ := hv
      obtain ⟨l, h2, h3⟩ := h.ob o (by rw [ho]; simp)
      rw [h1] at h2; cases h2
      rw [ho] at h3
      have hi : i < n := hok.1
      have hzz := eq_of_nbeq hz
      subst hzz
      rcases h3.2 with ⟨g, _⟩ | ⟨b', base', cc, e, g1, g2, g3⟩
      · omega
      · cases g1
        have g5 := g3
        obtain ⟨y, k1, k2⟩ := load_part hT hp (by first | exact (g3.2.2 i hi).2 | exact (g3.2.2.2 i hi).2)
        exact Gives.val h d hd (by simp [Instr.loadAt, Instr.sureAddr, k1]) (Rel.mono n0 (Nat.le_refl _) _ _ _ _ (Evo.refl w _) (fun b hb => hb.1) k2)
  case dptr cs =>
    cases hp : partV (T t) cs 0 <;> simp only [hp, Rd.run, Eff.v] at hok ⊢ <;> first | exact fail_elim hok | skip
    simp only [Rel] at hv
    obtain ⟨b, p, rfl, h1, h2⟩ := hv
    obtain ⟨y, k1, k2⟩ := load_part hT hp h2
    exact Gives.val h d hd (by simpa [Instr.loadAt, Instr.sureAddr] using k1) (Rel.mono n0 (Nat.le_refl _) _ _ _ _ (Evo.refl w _) (fun _ h => h) k2)

/- own slices that become data -/
def FzOk (s : St) (fz : List (Nat × AObj)) : Prop := ∀ p ∈ fz, ∃ d z n f, s.ob p.1 = .arr true d z n f ∧ p.2 = .frz d z n f
theorem upO_cons (o : Nat) (x : AObj) (r : List (Nat × AObj)) (ob : Nat → AObj) (i : Nat) : upO ((o, x) :: r) ob i = if i = o then x else upO r ob i := by
  simp only [upO]
  by_cases e : i = o
  · subst e; simp
  · simp [beq_f e, e]
theorem upO_append (l r : List (Nat × AObj)) (ob : Nat → AObj) : upO (l ++ r) ob = upO l (upO r ob) := by
  induction l with
  | nil => rfl
  | cons p l ih => obtain ⟨o, x⟩ := p; funext i; simp only [List.cons_append, upO_cons, ih]
theorem upO_fz {s : St} {fz : List (Nat × AObj)} (h : FzOk s fz) (o : Nat) : upO fz s.ob o = s.ob o ∨ (∃ d z n f, s.ob o = .arr true d z n f ∧ upO fz s.ob o = .frz d z n f) := by
  induction fz with
  | nil => exact .inl rfl
  | cons p r ih =>
    obtain ⟨i, x⟩ := p
    rw [upO_cons]
    by_cases e : o = i
    · subst e
      obtain ⟨d, z, n, f, h1, h2⟩ := h (o, x) (by simp)
      simp only at h1 h2
      exact .inr ⟨d, z, n, f, h1, by simp [h2]⟩
    · rw [if_neg e]; exact ih fun p hp => h p (by simp [hp])
theorem freezeAll (h : Sim c L I s a w) : ∀ fz : List (Nat × AObj), FzOk s fz → ∃ I', (∀ b, I b → I' b) ∧ Sim c L I' { s with ob := upO fz s.ob } a w
  | [], _ => ⟨I, fun _ h => h, h⟩
  | (o, x) :: r, hf => by
    obtain ⟨I', h1, h2⟩ := freezeAll h r fun p hp => hf p (by simp [hp])
    obtain ⟨d, z, n, f, h3, h4⟩ := hf (o, x) (by simp)
    simp only at h3 h4
    rcases upO_fz (s := s) (fz := r) (fun p hp => hf p (by simp [hp])) o with e | ⟨d', z', n', f', e, e'⟩
    · have := Sim.freeze (s := { s with ob := upO r s.ob }) h2 o (dfr := d) (z := z) (n := n) (f := f) (by simp only [e, h3])
      refine ⟨addI I' L o, fun b hb => Or.inl (h1 b hb), ?_⟩
      rw [h4]; exact this
    · refine ⟨I', h1, ?_⟩
      have : upO ((o, x) :: r) s.ob = upO r s.ob := by
        funext i
        rw [upO_cons]
        by_cases ei : i = o
        · subst ei; rw [if_pos rfl, e', h4]; rw [h3] at e; cases e; rfl
        · rw [if_neg ei]
      rw [this]; exact h2

theorem AllOk.append {l r : List Prop} (h : AllOk (l ++ r)) : AllOk l ∧ AllOk r := by
  induction l with
  | nil => exact ⟨trivial, h⟩
  | cons p l ih => exact ⟨⟨h.1, (ih h.2).1⟩, (ih h.2).2⟩

theorem plain_one {v : V} (h : plainC v = true) : oneC v = true := by cases v <;> simp [plainC] at h <;> rfl

/-- the rows of an own or frozen array, as a slice that reads it -/
theorem arr_rows {l : Loc} {z m lo n : Nat} {f : Nat → List V} {dfr : Bool} {J : Nat → Prop} {x : Value} {a' : Option Addr} {cap : Nat} (hn : lo + n ≤ m)
    (hx : (n = 0 ∧ cap = 0) ∨ ∃ (b base : Nat) (c : Array Value) (e : TypeId), l = .at_ b base ∧ a' = some ⟨b, base + lo * z, none⟩ ∧ w.heap[b]? = some (.cells c e (0, 0)) ∧ base + (lo + cap) * z ≤ c.size)
    (ho : (m = 0 ∧ l = .nil) ∨ ∃ (b base : Nat) (c : Array Value) (e : TypeId), l = .at_ b base ∧ w.heap[b]? = some (.cells c e (0, 0)) ∧ J b ∧ base + m * z ≤ c.size ∧
      ∀ i, i < m → (f i).length = z ∧ RelAt w N0 B (f i) (cut dfr B I) b (base + i * z)) :
    0 < n → ∃ b p, a' = some ⟨b, p, none⟩ ∧ J b ∧ b < w.heap.size ∧ ∀ i, i < n → (f (lo + i)).length = z ∧ RelAt w N0 B (f (lo + i)) (cut dfr B I) b (p + i * z) := by
  intro hpos
  rcases hx with ⟨g, _⟩ | ⟨b, base, cc, e, g1, g2, g3, g4⟩
  · omega
  rcases ho with ⟨g, _⟩ | ⟨b', base', cc', e', k1, k2, k3, k4, k5⟩
  · omega
  rw [g1] at k1; cases k1
  refine ⟨b, base + lo * z, g2, k3, heap_lt g3, fun i hi => ?_⟩
  have := k5 (lo + i) (by omega)
  refine ⟨this.1, ?_⟩
  have e1 : base + lo * z + i * z = base + (lo + i) * z := by rw [Nat.add_mul]; omega
  rw [e1]; exact this.2

/-- a state behind some freezing -/
def Frozen (s s' : St) (fz : List (Nat × AObj)) : Prop := (∀ p ∈ fz, s'.ob p.1 = p.2) ∧ ∀ o d z n f, s.ob o = .frz d z n f → s'.ob o = .frz d z n f
theorem frozen_upO {fz : List (Nat × AObj)} (hf : FzOk s fz) : Frozen s { s with ob := upO fz s.ob } fz := by
  refine ⟨fun p hp => ?_, fun o d z n f ho => ?_⟩
  · obtain ⟨d, z, n, f, h1, h2⟩ := hf p hp
    have : ∀ (l : List (Nat × AObj)), FzOk s l → p ∈ l → upO l s.ob p.1 = p.2 := by
      intro l
      induction l with
      | nil => intro _ h; cases h
      | cons q r ih =>
        intro hl hm
        obtain ⟨i, x⟩ := q
        rw [upO_cons]
        by_cases e : p.1 = i
        · rw [if_pos e]
          obtain ⟨d', z', n', f', g1, g2⟩ := hl (i, x) (by simp)
          simp only at g1 g2
          rw [← e, h1] at g1; cases g1; rw [g2, h2]
        · rw [if_neg e]
          rcases List.mem_cons.1 hm with e' | e'
          · exact absurd (by rw [e']) e
          · exact ih (fun q hq => hl q (by simp [hq])) e'
    exact this fz hf hp
  · rcases upO_fz hf o with e | ⟨d', z', n', f', e, _⟩
    · simp only [e, ho]
    · rw [ho] at e; cases e

theorem dat1_sound (h : Sim c L I s a w) {v : V} {x : Value} (hv : Rel w L c.B v I x) {out : V} {ps : List Prop} {fz : List (Nat × AObj)}
    (hr : (dat1 std v).run s.ob = (some out, ps, fz)) (hok : AllOk ps) :
    FzOk s fz ∧ plainC out = true ∧ ∀ I' s', (∀ b, I b → I' b) → Frozen s s' fz → Sim c L I' s' a w → Rel w L c.B out I' x := by
  have simple : plainC v = true → (dat1 std v).run s.ob = (some v, [], []) → FzOk s fz ∧ plainC out = true ∧ ∀ I' s', (∀ b, I b → I' b) → Frozen s s' fz → Sim c L I' s' a w → Rel w L c.B out I' x := by
    intro hp he
    rw [he] at hr
    cases hr
    exact ⟨fun p hq => (by cases hq), hp, fun I' _ hI _ _ => Rel.mono (fun _ _ h => h) (Nat.le_refl _) _ _ _ _ (Evo.refl w I) hI hv⟩
  cases v <;> first | exact simple rfl rfl | (simp [dat1, plainC, Rd.run] at hr; done) | skip
  rename_i o z lo n
  simp only [dat1, Rd.run] at hr
  simp only [Rel] at hv
  obtain ⟨l, ad, cap, h1, rfl, h3, h4⟩ := hv
  have fin : ∀ {dfr : Bool} {m : Nat} {f : Nat → List V} (I' : Nat → Prop) (s' : St), lo + n ≤ m → s'.ob o = .frz dfr z m f → Sim c L I' s' a w →
      Rel w L c.B (.sl true dfr z n (fun i => f (std.nadd lo i))) I' (.slice ad n cap) := by
    intro dfr m f I' s' hle ho hS
    obtain ⟨l', k1, k2⟩ := hS.ob o (by rw [ho]; simp)
    rw [h1] at k1; cases k1
    rw [ho] at k2
    simp only [Rel]
    refine ⟨ad, cap, rfl, h3, fun hpos => ?_⟩
    obtain ⟨b, p, q1, q2, _, q4⟩ := arr_rows (w := w) (B := c.B) (I := I') (J := cut true c.B I') (x := .nilFunc) hle h4 (k2.2.imp id (by
      rintro ⟨b, base, cc, e, g1, g2, g3, g4, g5, g6⟩
      exact ⟨b, base, cc, e, g1, g2, ⟨g3, fun _ => g4⟩, g5, g6⟩)) hpos
    exact ⟨b, p, q1, q2, q4⟩
  cases ho : s.ob o <;> simp only [ho, Rd.run] at hr <;> first | (simp at hr; done) | skip
  · rename_i own dfr z' m f
    cases own <;> simp only [Rd.run] at hr <;> first | (simp at hr; done) | skip
    cases hz : nbeq z z' <;> simp only [hz, cond] at hr <;> first | (simp at hr; done) | skip
    obtain ⟨hr1, hr2, hr3⟩ : V.sl true dfr z n (fun i => f (std.nadd lo i)) = out ∧ [std.pNle (std.nadd lo n) m] = ps ∧ [(o, AObj.frz dfr z' m f)] = fz := by
      simpa using hr
    subst hr1; subst hr2; subst hr3
    have hzz := eq_of_nbeq hz
    subst hzz
    have hle : lo + n ≤ m := hok.1
    refine ⟨fun p hp => ?_, rfl, fun I' s' hI hF hS => fin I' s' hle (hF.1 (o, _) (by simp)) hS⟩
    simp at hp; subst hp; exact ⟨dfr, z, m, f, ho, rfl⟩
  · rename_i dfr z' m f
    cases hz : nbeq z z' <;> simp only [hz, cond] at hr <;> first | (simp at hr; done) | skip
    obtain ⟨hr1, hr2, hr3⟩ : V.sl true dfr z n (fun i => f (std.nadd lo i)) = out ∧ [std.pNle (std.nadd lo n) m] = ps ∧ [] = fz := by
      simpa using hr
    subst hr1; subst hr2; subst hr3
    have hzz := eq_of_nbeq hz
    subst hzz
    have hle : lo + n ≤ m := hok.1
    exact ⟨fun p hp => (by cases hp), rfl, fun I' s' hI hF hS => fin I' s' hle (hF.2 _ _ _ _ _ ho) hS⟩

theorem datL_sound (h : Sim c L I s a w) : ∀ {vs : List V} {xs : List Value}, RelL w L c.B vs I xs → ∀ {out : List V} {ps : List Prop} {fz : List (Nat × AObj)},
    (datL std vs).run s.ob = (some out, ps, fz) → AllOk ps → FzOk s fz ∧ (∀ v ∈ out, plainC v = true) ∧ out.length = vs.length ∧
      ∀ I' s', (∀ b, I b → I' b) → Frozen s s' fz → Sim c L I' s' a w → RelL w L c.B out I' xs
  | [], xs, hx, out, ps, fz, hr, _ => by
    simp only [datL, Rd.run] at hr
    cases hr
    simp only [RelL] at hx
    subst hx
    exact ⟨fun p hp => (by cases hp), fun v hv => (by cases hv), rfl, fun _ _ _ _ _ => by simp [RelL]⟩
  | v :: vs, xs, hx, out, ps, fz, hr, hok => by
    simp only [RelL] at hx
    obtain ⟨x, r, rfl, hx1, hx2⟩ := hx
    simp only [datL, Rd.run_bind, Rd.run] at hr
    cases e1 : (dat1 std v).run s.ob with
    | mk o1 q1 =>
      obtain ⟨p1, f1⟩ := q1
      cases e2 : (datL std vs).run s.ob with
      | mk o2 q2 =>
        obtain ⟨p2, f2⟩ := q2
        rw [e1, e2] at hr
        simp only at hr
        cases o1 <;> cases o2 <;> simp only at hr <;> first | (simp at hr; done) | skip
        rename_i y ys
        obtain ⟨hr1, hr2, hr3⟩ : y :: ys = out ∧ p1 ++ p2 = ps ∧ f1 ++ f2 = fz := by simpa using hr
        subst hr1; subst hr2; subst hr3
        have hok' := AllOk.append hok
        obtain ⟨a1, a2, a3⟩ := dat1_sound h hx1 e1 hok'.1
        obtain ⟨b1, b2, b3, b4⟩ := datL_sound h hx2 e2 hok'.2
        refine ⟨fun p hp => ?_, fun u hu => ?_, by simp [b3], fun I' s' hI hF hS => ?_⟩
        · rcases List.mem_append.1 hp with e | e
          · exact a1 p e
          · exact b1 p e
        · rcases List.mem_cons.1 hu with e | e
          · subst e; exact a2
          · exact b2 u e
        · simp only [RelL]
          exact ⟨x, r, rfl, a3 I' s' hI ⟨fun p hp => hF.1 p (by simp [hp]), hF.2⟩ hS, b4 I' s' hI ⟨fun p hp => hF.1 p (by simp [hp]), hF.2⟩ hS⟩

end Go.Desk
