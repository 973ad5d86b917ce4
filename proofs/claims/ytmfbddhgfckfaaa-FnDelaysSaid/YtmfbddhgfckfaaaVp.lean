/- V-logic, part 16: a state that knows a table may be taken for the table. -/
import Derived.Test.YtmfbddhgfckfaaaVo
namespace Go.Desk
open Go
set_option linter.all false
set_option linter.unusedVariables false

variable {c : Ctx} {L L' : LMap} {I J : Nat → Prop} {s : St} {a : Act} {w : World} {P : Program} {T : Nat → TI} {B : Nat} {m : List (Nat × Nat)}

theorem noDup_nodup : ∀ l : List Nat, noDup l = true → l.Nodup
  | [], _ => List.nodup_nil
  | a :: r, h => by
    simp only [noDup, Bool.and_eq_true, Bool.not_eq_true', List.any_eq_false] at h
    refine List.nodup_cons.2 ⟨fun hm => ?_, noDup_nodup r h.2⟩
    exact h.1 a hm (beq_t a)
theorem lk_mem : ∀ (m : List (Nat × Nat)) (o o' : Nat), lk m o = some o' → (o, o') ∈ m
  | [], o, o', h => by simp [lk] at h
  | (x, y) :: r, o, o', h => by
    simp only [lk] at h
    cases e : nbeq o x <;> rw [e] at h <;> simp only [cond] at h
    · exact List.mem_cons_of_mem _ (lk_mem r o o' h)
    · have := eq_of_nbeq e; subst this; cases h; exact List.mem_cons_self
theorem inv_mem : ∀ (m : List (Nat × Nat)) (o o' : Nat), inv m o' = some o → (o, o') ∈ m
  | [], o, o', h => by simp [inv] at h
  | (x, y) :: r, o, o', h => by
    simp only [inv] at h
    cases e : nbeq o' y <;> rw [e] at h <;> simp only [cond] at h
    · exact List.mem_cons_of_mem _ (inv_mem r o o' h)
    · have := eq_of_nbeq e; subst this; cases h; exact List.mem_cons_self
theorem lk_of_mem : ∀ (m : List (Nat × Nat)) (o o' : Nat), (m.map (·.1)).Nodup → (o, o') ∈ m → lk m o = some o'
  | [], o, o', _, h => by cases h
  | (x, y) :: r, o, o', hd, h => by
    simp only [List.map, List.nodup_cons] at hd
    simp only [lk]
    by_cases e : o = x
    · subst e
      simp only [beq_t, cond]
      rcases List.mem_cons.1 h with g | g
      · cases g; rfl
      · exact absurd (List.mem_map.2 ⟨_, g, rfl⟩) hd.1
    · rw [beq_f e]
      simp only [cond]
      rcases List.mem_cons.1 h with g | g
      · cases g; exact absurd rfl e
      · exact lk_of_mem r o o' hd.2 g
theorem inv_of_mem : ∀ (m : List (Nat × Nat)) (o o' : Nat), (m.map (·.2)).Nodup → (o, o') ∈ m → inv m o' = some o
  | [], o, o', _, h => by cases h
  | (x, y) :: r, o, o', hd, h => by
    simp only [List.map, List.nodup_cons] at hd
    simp only [inv]
    by_cases e : o' = y
    · subst e
      simp only [beq_t, cond]
      rcases List.mem_cons.1 h with g | g
      · cases g; rfl
      · exact absurd (List.mem_map.2 ⟨_, g, rfl⟩) hd.1
    · rw [beq_f e]
      simp only [cond]
      rcases List.mem_cons.1 h with g | g
      · cases g; exact absurd rfl e
      · exact inv_of_mem r o o' hd.2 g

theorem key_mem : ∀ (ob : List (Nat × AObj)) (o : Nat), isKey ob o = true → (o, lkO ob o) ∈ ob
  | [], o, h => by simp [isKey] at h
  | (x, y) :: r, o, h => by
    simp only [isKey, lkO] at h ⊢
    cases e : nbeq o x <;> rw [e] at h <;> simp only [cond] at h ⊢
    · exact List.mem_cons_of_mem _ (key_mem r o h)
    · have := eq_of_nbeq e; subst this; exact List.mem_cons_self
theorem no_key : ∀ (ob : List (Nat × AObj)) (o : Nat), isKey ob o = false → lkO ob o = .no
  | [], o, h => rfl
  | (x, y) :: r, o, h => by
    simp only [isKey, lkO] at h ⊢
    cases e : nbeq o x <;> rw [e] at h <;> simp only [cond] at h ⊢
    · exact no_key r o h
    · cases h
theorem keyAll : ∀ (ob : List (Nat × AObj)) (l : List Nat), isKeyAll ob l = true → ∀ o ∈ l, isKey ob o = true
  | ob, [], _, o, h => by cases h
  | ob, x :: r, h, o, ho => by
    simp only [isKeyAll, Bool.and_eq_true] at h
    rcases List.mem_cons.1 ho with e | e
    · subst e; exact h.1
    · exact keyAll ob r h.2 o e
theorem refsOb_mem : ∀ (ob l : List (Nat × AObj)), refsOb ob l = true → ∀ p ∈ l, ∀ o ∈ objRefs p.2, isKey ob o = true
  | ob, [], _, p, h => by cases h
  | ob, (x, y) :: r, h, p, hp => by
    simp only [refsOb, Bool.and_eq_true] at h
    rcases List.mem_cons.1 hp with e | e
    · subst e; exact keyAll ob _ h.1
    · exact refsOb_mem ob r h.2 p e
theorem covO_mem {O : Ops} : ∀ (l : List (Nat × AObj)), CovO O m s l → ∀ p ∈ l, (match inv m p.1 with | some o' => LeO O false m s.ob (s.ob o') p.2 | none => ghost p.2)
  | [], _, p, h => by cases h
  | (x, y) :: r, h, p, hp => by
    simp only [CovO] at h
    rcases List.mem_cons.1 hp with e | e
    · subst e; exact h.1
    · exact covO_mem r h.2 p e

/- what the renaming collects, before it is known that data hold there -/
theorem ren_fzL (h : Sim c L I s a w) {lent : Bool} {cs cs' : List V} {xs : List Value} {ps : List Prop} {fz : List (Nat × AObj)} (hv : RelL w L c.B cs I xs)
    (hr : (convL std m lent cs).run s.ob = (some cs', ps, fz)) (hok : AllOk ps) (hR : Ren L L' I J m) : FzIn s m lent fz :=
  (renL_sound (J := fun _ => True) h ⟨hR.L, fun _ _ => trivial⟩ cs xs hv cs' ps fz hr hok fun _ _ _ _ _ => trivial).1
theorem ren_fz1 (h : Sim c L I s a w) {lent : Bool} {v v' : V} {x : Value} {ps : List Prop} {fz : List (Nat × AObj)} (hv : Rel w L c.B v I x)
    (hr : (conv std m lent v).run s.ob = (some v', ps, fz)) (hok : AllOk ps) (hR : Ren L L' I J m) : FzIn s m lent fz :=
  (ren_sound (J := fun _ => True) h ⟨hR.L, fun _ _ => trivial⟩ v x hv v' ps fz hr hok fun _ _ _ _ _ => trivial).1

/-- the blocks of own arrays that have no name in m are taken for data -/
def OwnIn (L : LMap) (s : St) (m : List (Nat × Nat)) (J : Nat → Prop) : Prop := ∀ o d z n f, lk m o = none → s.ob o = .arr true d z n f → ∀ b base, L o = some (.at_ b base) → J b
theorem OwnIn.fz {fz : List (Nat × AObj)} (h : OwnIn L s m J) (hf : FzIn s m false fz) : ∀ p ∈ fz, ∀ b base, L p.1 = some (.at_ b base) → J b := by
  intro p hp b base hl
  obtain ⟨h1, own, d, z, n, f, h2, _, h3⟩ := hf p hp
  rcases h3 with h3 | h3
  · subst h3; exact h p.1 d z n f h1 h2 b base hl
  · cases h3

theorem leO_sound {cl : Bool} {B' : Nat} {L1 : LMap} {x y : AObj} {l : Loc} (h : Sim c L I s a w) (hR : Ren L L1 I J m) (hB : cl = false → B' = c.B) (hJ : cl = false → OwnIn L s m J)
    (hL : ∀ o ∈ objRefs y, ∀ l, L1 o = some l → L' o = some l) (hs : cl = false → ∀ o ∈ objRefs y, ∃ l, L' o = some l)
    (hle : LeO std cl m s.ob x y) (hx : ObjOk w L c.B I l x) : x ≠ .no ∧ y.mut = x.mut ∧ (cl = true → y.mut = true) ∧ ObjOk w L' B' J l y := by
  have rows : ∀ (dfr dfr' : Bool) (z n : Nat) (f f' : Nat → List V) (b base : Nat), deepOk cl dfr dfr' n f' (∀ i, i < n → LeL cl false (f i) (f' i)) →
      (∀ i, i < n → (f i).length = z ∧ RelAt w N0 c.B (f i) (cut dfr c.B I) b (base + i * z)) → ∀ i, i < n → (f' i).length = z ∧ RelAt w N0 B' (f' i) (cut dfr' B' J) b (base + i * z) := by
    intro dfr dfr' z n f f' b base hd hr i hi
    obtain ⟨hq, hd⟩ := deep_at hd
    obtain ⟨g1, g2⟩ := hr i hi
    refine ⟨(leL_len _ _ (hq i hi)).symm.trans g1, ?_⟩
    cases dfr' with
    | false => exact leA_sound hB (f' i) false (f i) N0 N0 (cut dfr c.B I) _ b _ (fun _ _ _ h => h) (fun h => by cases h) (fun b hb => ⟨hR.I b hb.1, fun h => by cases h⟩) (hq i hi) g2
    | true =>
      rcases hd rfl with ⟨e1, e2⟩ | hs
      · subst e2; rw [hB e1]
        exact leA_sound (fun _ => rfl) (f' i) false (f i) N0 N0 (cut true c.B I) _ b _ (fun _ _ _ h => h) (fun h => by cases h) (fun b hb => ⟨hR.I b hb.1, hb.2⟩) (hq i hi) g2
      · exact scal_at _ N0 N0 B' B' _ _ b _ (hs i hi) (leA_sound hB (f' i) false (f i) N0 N0 (cut dfr c.B I) (fun _ => True) b _ (fun _ _ _ h => h) (fun h => by cases h) (fun b hb => trivial) (hq i hi) g2)
  cases x <;> cases y <;> simp only [LeO] at hle <;> first | (exact hle.elim) | skip
  · rename_i cs ds
    split at hle
    · rename_i cs' ps fz hc
      cases hfz : fzOk cl fz <;> rw [hfz] at hle <;> simp only [cond] at hle
      obtain ⟨hok, hle⟩ := (allP_iff _ _).1 hle
      obtain ⟨b, base, cc, e, h1, h2, h3⟩ := hx
      obtain ⟨vs, g1, g2, g3⟩ := h3.vals
      have hfi := ren_fzL h g3 hc hok hR
      have hJ' : ∀ p ∈ fz, ∀ b base, L p.1 = some (.at_ b base) → J b := by
        cases cl with
        | false => exact (hJ rfl).fz hfi
        | true =>
          cases fz with
          | nil => intro p hp; cases hp
          | cons _ _ => simp [fzOk] at hfz
      have r1 := (renL_sound h hR cs vs g3 cs' ps fz hc hok hJ').2
      have r2 := leL_sound hB ds (!cl) cs' L1 L' J J vs (by simpa [objRefs] using hL) (fun ht o ho => hs (by simpa using ht) o (by simpa [objRefs] using ho)) (fun _ h => h) hle r1
      exact ⟨by simp, rfl, fun _ => rfl, b, base, cc, e, h1, h2, RelAt.of_vals ds J b base vs r2 g2⟩
    · exact hle.elim
  · rename_i own dfr z n f own' dfr' z' n' f'
    cases hz : nbeq z z' && ownOk cl own own' <;> rw [hz] at hle <;> simp only [cond] at hle
    obtain ⟨hz1, hz2⟩ := Bool.and_eq_true_iff.1 hz
    have hzz := eq_of_nbeq hz1
    subst hzz
    obtain ⟨hn, hd⟩ := hle
    subst hn
    refine ⟨by simp, rfl, fun _ => rfl, hx.1, hx.2.imp id ?_⟩
    rintro ⟨b, base, cc, e, h1, h2, h3, h4, h5⟩
    refine ⟨b, base, cc, e, h1, h2, ?_, h4, rows dfr dfr' z n f f' b base hd h5⟩
    intro ho
    subst ho
    simp only [ownOk, Bool.and_eq_true, Bool.not_eq_true'] at hz2
    rw [hB hz2.2]; exact h3 hz2.1
  · rename_i dfr z n f dfr' z' n' f'
    cases hz : nbeq z z' && !cl <;> rw [hz] at hle <;> simp only [cond] at hle
    obtain ⟨hz1, hz2⟩ := Bool.and_eq_true_iff.1 hz
    have hzz := eq_of_nbeq hz1
    subst hzz
    obtain ⟨hn, hd⟩ := hle
    subst hn
    have hcl : cl = false := by simpa using hz2
    refine ⟨by simp, rfl, (fun e => by rw [hcl] at e; cases e), hx.1, hx.2.imp id ?_⟩
    rintro ⟨b, base, cc, e, h1, h2, h3, h4, h5, h6⟩
    exact ⟨b, base, cc, e, h1, h2, hR.I b h3, by rw [hB hcl]; exact h4, h5, rows dfr dfr' z n f f' b base hd h6⟩

def covL (L : LMap) (m : List (Nat × Nat)) (ob : List (Nat × AObj)) : LMap := fun o => match inv m o with | some o' => L o' | none => some .nil
def keyL (L : LMap) (ob : List (Nat × AObj)) : LMap := fun o => bif isKey ob o then L o else none
def covI (L : LMap) (I : Nat → Prop) (s : St) (m : List (Nat × Nat)) : Nat → Prop := fun b => I b ∨ ∃ o base d z n f, lk m o = none ∧ s.ob o = .arr true d z n f ∧ L o = some (.at_ b base)

theorem tm_sound {L1 : LMap} {ob : List (Nat × AObj)} (h : Sim c L I s a w) (hR : Ren L L1 I J m) (hJ : OwnIn L s m J) (hk : ∀ o, isKey ob o = true → ∀ l, L1 o = some l → L' o = some l) (hs : ∀ o, isKey ob o = true → ∃ l, L' o = some l) :
    ∀ (l : List (Nat × V)), CovT std m s l → refsTm ob l = true → ∀ t, Rel w L' c.B (lkV l t) J (a.tmps.getD t undef)
  | [], _, _, t => by simp [lkV, Rel]
  | (t0, v) :: r, hc, hr, t => by
    simp only [CovT] at hc
    simp only [refsTm, Bool.and_eq_true] at hr
    simp only [lkV]
    cases e : nbeq t t0 <;> simp only [cond]
    · exact tm_sound h hR hJ hk hs r hc.2 hr.2 t
    · have e := eq_of_nbeq e
      subst e
      have h1 := hc.1
      split at h1
      · rename_i v' ps fz hcv
        obtain ⟨hok, hle⟩ := (allP_iff _ _).1 h1
        have hf := ren_fz1 h (h.tm t) hcv hok hR
        have r1 := (ren_sound h hR _ _ (h.tm t) v' ps fz hcv hok (hJ.fz hf)).2
        exact le_sound (fun _ => rfl) v true v' L1 L' J J _ (fun o ho => hk o (keyAll ob _ hr.1 o ho)) (fun _ o ho => hs o (keyAll ob _ hr.1 o ho)) (fun _ h => h) hle r1
      · exact h1.elim

theorem borOk_lt : ∀ (M : Nat) (m : List (Nat × Nat)) (ob : List (Nat × AObj)), borOk m ob M = true → ∀ j, j < M → lk m j = some j ∧ isKey ob j = true
  | 0, m, ob, _, j, hj => by omega
  | n + 1, m, ob, h, j, hj => by
    simp only [borOk, Bool.and_eq_true] at h
    obtain ⟨⟨h1, h2⟩, h3⟩ := h
    by_cases e : j = n
    · subst e
      refine ⟨?_, h2⟩
      cases hm : lk m j with
      | none => rw [hm] at h1; cases h1
      | some k => rw [hm] at h1; have := eq_of_nbeq h1; rw [this]
    · exact borOk_lt n m ob h3 j (by omega)

theorem cov_sound {t : Tbl} (h : Sim c L I s a w) (hc : Cov std c.M m s t) : ∃ L' I', Sim c L' I' t.st a w := by
  unfold Cov at hc
  cases hm : mapOk m c.M t <;> rw [hm] at hc <;> simp only [cond] at hc
  obtain ⟨hct, hco⟩ := hc
  simp only [mapOk, Bool.and_eq_true] at hm
  obtain ⟨⟨⟨⟨⟨m1, m2⟩, m3⟩, m4⟩, m5⟩, m6⟩ := hm
  have d1 := noDup_nodup _ m1
  have d2 := noDup_nodup _ m2
  have hbor := borOk_lt _ _ _ m4
  have hcov := covO_mem _ hco
  have hinv : ∀ o o', lk m o = some o' → inv m o' = some o := fun o o' e => inv_of_mem m o o' d2 (lk_mem m o o' e)
  have hlk : ∀ o o', inv m o' = some o → lk m o = some o' := fun o o' e => lk_of_mem m o o' d1 (inv_mem m o o' e)
  let L1 := covL L m t.ob
  let L' := keyL L1 t.ob
  let J := covI L I s m
  have hR : Ren L L1 I J m := ⟨fun o o' e l hl => by simp only [L1, covL, hinv o o' e]; exact hl, fun b hb => .inl hb⟩
  have hJ : OwnIn L s m J := fun o d z n f e ho b base hl => .inr ⟨o, base, d, z, n, f, e, ho, hl⟩
  have hk : ∀ o, isKey t.ob o = true → ∀ l, L1 o = some l → L' o = some l := fun o ho l hl => by simp only [L', keyL, ho, cond]; exact hl
  -- what a key is known to be
  have hkey : ∀ o, isKey t.ob o = true → (∃ p l, inv m o = some p ∧ L p = some l ∧ ObjOk w L c.B I l (s.ob p) ∧ LeO std false m s.ob (s.ob p) (lkO t.ob o)) ∨ (inv m o = none ∧ ghost (lkO t.ob o)) := by
    intro o ho
    have := hcov _ (key_mem t.ob o ho)
    simp only at this
    cases hi : inv m o with
    | none => rw [hi] at this; exact .inr ⟨rfl, this⟩
    | some p =>
      rw [hi] at this
      simp only at this
      have hne : s.ob p ≠ .no := by
        intro e
        rw [e] at this
        cases hh : lkO t.ob o <;> rw [hh] at this <;> simp [LeO] at this
      obtain ⟨l, h1, h2⟩ := h.ob p hne
      exact .inl ⟨p, l, rfl, h1, h2, this⟩
  have hs : ∀ o, isKey t.ob o = true → ∃ l, L' o = some l := by
    intro o ho
    rcases hkey o ho with ⟨p, l, h1, h2, _⟩ | ⟨h1, _⟩
    · exact ⟨l, hk o ho l (by simp only [L1, covL, h1]; exact h2)⟩
    · exact ⟨.nil, hk o ho .nil (by simp only [L1, covL, h1])⟩
  have hrf := refsOb_mem t.ob t.ob m6
  have hat : ∀ o b base, L' o = some (.at_ b base) → ∃ p, inv m o = some p ∧ L p = some (.at_ b base) ∧ isKey t.ob o = true ∧ (s.ob p).mut = (lkO t.ob o).mut := by
    intro o b base e
    cases hi : isKey t.ob o with
    | false => simp only [L', keyL, hi, cond] at e; cases e
    | true =>
      simp only [L', keyL, hi, cond] at e
      rcases hkey o hi with ⟨p, l, h1, h2, h3, h4⟩ | ⟨h1, _⟩
      · simp only [L1, covL, h1] at e
        exact ⟨p, h1, e, rfl, ((leO_sound (L' := L') h hR (B' := c.B) (fun _ => rfl) (fun _ => hJ) (fun r hr => hk r (hrf _ (key_mem _ _ hi) r hr)) (fun _ r hr => hs r (hrf _ (key_mem _ _ hi) r hr)) h4 h3).2.1).symm⟩
      · simp only [L1, covL, h1] at e; cases e
  have hst : ∀ o, t.st.ob o = lkO t.ob o := fun _ => rfl
  refine ⟨L', J, ?_⟩
  refine { h with tm := fun i => tm_sound (ob := t.ob) h hR hJ hk hs t.tm hct m5 i, ob := ?_, sep := ?_, imm := ?_, dom := ?_, us := ?_, bnd := ?_, lim := ?_, bor := ?_ }
  · intro o ho
    rw [hst] at ho ⊢
    cases hi : isKey t.ob o with
    | false => exact absurd (no_key _ _ hi) ho
    | true =>
      rcases hkey o hi with ⟨p, l, h1, h2, h3, h4⟩ | ⟨h1, h2⟩
      · refine ⟨l, hk o hi l (by simp only [L1, covL, h1]; exact h2), ?_⟩
        exact (leO_sound h hR (fun _ => rfl) (fun _ => hJ) (fun r hr => hk r (hrf _ (key_mem _ _ hi) r hr)) (fun _ r hr => hs r (hrf _ (key_mem _ _ hi) r hr)) h4 h3).2.2.2
      · refine ⟨.nil, hk o hi .nil (by simp only [L1, covL, h1]), ?_⟩
        cases hx : lkO t.ob o <;> rw [hx] at h2 <;> simp only [ghost] at h2
        rename_i own d z n f
        cases hz : own && nble 1 z <;> rw [hz] at h2 <;> simp only [cond] at h2
        exact ⟨le_of_nble (Bool.and_eq_true_iff.1 hz).2, .inl ⟨h2, rfl⟩⟩
  · intro o o' b base base' mo mo' eo eo'
    obtain ⟨p, h1, h2, h3, h4⟩ := hat o b base eo
    obtain ⟨p', h1', h2', h3', h4'⟩ := hat o' b base' eo'
    have := h.sep p p' b base base' (h4.trans mo) (h4'.trans mo') h2 h2'
    subst this
    have e1 := hlk _ _ h1; have e2 := hlk _ _ h1'
    rw [e1] at e2; cases e2; rfl
  · intro o b base mo eo hb
    obtain ⟨p, h1, h2, h3, h4⟩ := hat o b base eo
    rcases hb with hb | ⟨q, base', d, z, n, f, g1, g2, g3⟩
    · exact h.imm p b base (h4.trans mo) h2 hb
    · have := h.sep p q b base base' (h4.trans mo) (by rw [g2]; rfl) h2 g3
      subst this
      rw [hlk _ _ h1] at g1; cases g1
  · intro o b base mo eo
    obtain ⟨p, h1, h2, h3, h4⟩ := hat o b base eo
    exact h.dom p b base (h4.trans mo) h2
  · intro o ho
    have : isKey t.ob o = false := ho
    simp only [L', keyL, this, cond]
  · rintro b (hb | ⟨q, base', d, z, n, f, g1, g2, g3⟩)
    · exact h.bnd b hb
    · exact h.lt (by rw [g2]; simp) g3
  · rintro b (hb | ⟨q, base', d, z, n, f, g1, g2, g3⟩)
    · exact h.lim b hb
    · right
      obtain ⟨l, k1, k2⟩ := h.ob q (by rw [g2]; simp)
      rw [g3] at k1; cases k1
      rw [g2] at k2
      rcases k2.2 with ⟨_, e⟩ | ⟨b', base'', cc, e, k3, _, k4, _⟩
      · cases e
      · cases k3; exact k4 rfl
  · intro j hj
    obtain ⟨e1, e2⟩ := hbor j hj
    have := hinv _ _ e1
    simp only [L', keyL, e2, cond, L1, covL, this]
    exact h.bor j hj

end Go.Desk
