/- V-logic, part 17: calls. -/
import Derived.Test.YtmfbddhgfckfaaaVp
namespace Go.Desk
open Go
set_option linter.all false
set_option linter.unusedVariables false

variable {c : Ctx} {L L' : LMap} {I J : Nat → Prop} {s : St} {a : Act} {w : World} {P : Program} {T : Nat → TI} {B : Nat} {m : List (Nat × Nat)}

mutual
theorem V.ren_rel {g : Nat → Nat} {L1 L2 : LMap} (hg : ∀ j l, L1 j = some l → L2 (g j) = some l) : ∀ (v : V) (x : Value), Rel w L1 B v I x → Rel w L2 B (v.ren g) I x
  | .un, x, h => by simp [V.ren, Rel]
  | .und, x, h => by simpa only [V.ren, Rel] using h
  | .bool _, x, h => by simpa only [V.ren, Rel] using h
  | .int _ _, x, h => by simpa only [V.ren, Rel] using h
  | .flt _ _, x, h => by simpa only [V.ren, Rel] using h
  | .str _, x, h => by simpa only [V.ren, Rel] using h
  | .nil, x, h => by simpa only [V.ren, Rel] using h
  | .nptr, x, h => by simpa only [V.ren, Rel] using h
  | .ifc _, x, h => by simpa only [V.ren, Rel] using h
  | .sl _ _ _ _ _, x, h => by simpa only [V.ren, Rel] using h
  | .dptr _, x, h => by simpa only [V.ren, Rel] using h
  | .osl o z lo n, x, h => by
    simp only [V.ren, Rel] at h ⊢
    obtain ⟨l, ad, cap, h1, h2⟩ := h
    exact ⟨l, ad, cap, hg _ _ h1, h2⟩
  | .ptr o off, x, h => by
    simp only [V.ren, Rel] at h ⊢
    obtain ⟨b, base, h1, h2⟩ := h
    exact ⟨b, base, hg _ _ h1, h2⟩
  | .eptr o z i off, x, h => by
    simp only [V.ren, Rel] at h ⊢
    obtain ⟨b, base, h1, h2⟩ := h
    exact ⟨b, base, hg _ _ h1, h2⟩
  | .agg cs, x, h => by
    simp only [V.ren, Rel] at h ⊢
    obtain ⟨vs, h1, h2⟩ := h
    exact ⟨vs, h1, renL_rel hg cs _ h2⟩
  | .tup cs, x, h => by
    simp only [V.ren, Rel] at h ⊢
    obtain ⟨vs, h1, h2⟩ := h
    exact ⟨vs, h1, renL_rel hg cs _ h2⟩
  | .fn _ cs, x, h => by
    simp only [V.ren, Rel] at h ⊢
    obtain ⟨vs, h1, h2⟩ := h
    exact ⟨vs, h1, renL_rel hg cs _ h2⟩
theorem renL_rel {g : Nat → Nat} {L1 L2 : LMap} (hg : ∀ j l, L1 j = some l → L2 (g j) = some l) : ∀ (cs : List V) (xs : List Value), RelL w L1 B cs I xs → RelL w L2 B (renL g cs) I xs
  | [], xs, h => by simpa only [renL, RelL] using h
  | v :: r, xs, h => by
    simp only [renL, RelL] at h ⊢
    obtain ⟨x, xr, rfl, h1, h2⟩ := h
    exact ⟨x, xr, rfl, V.ren_rel hg v x h1, renL_rel hg r xr h2⟩
end
theorem renA_rel {g : Nat → Nat} {L1 L2 : LMap} (hg : ∀ j l, L1 j = some l → L2 (g j) = some l) : ∀ (cs : List V) (b p : Nat), RelAt w L1 B cs I b p → RelAt w L2 B (renL g cs) I b p
  | [], b, p, h => by simp [renL, RelAt]
  | v :: r, b, p, h => by
    simp only [renL, RelAt] at h ⊢
    obtain ⟨⟨x, h1, h1', h2⟩, h3⟩ := h
    exact ⟨⟨x, h1, h1', V.ren_rel hg v x h2⟩, renA_rel hg r b (p + 1) h3⟩
theorem AObj.ren_ok {g : Nat → Nat} {L1 L2 : LMap} (hg : ∀ j l, L1 j = some l → L2 (g j) = some l) {l : Loc} : ∀ x : AObj, ObjOk w L1 B I l x → ObjOk w L2 B I l (x.ren g)
  | .no, h => trivial
  | .box cs, h => by
    obtain ⟨b, base, cc, e, h1, h2, h3⟩ := h
    exact ⟨b, base, cc, e, h1, h2, renA_rel hg cs b base h3⟩
  | .arr .., h => h
  | .frz .., h => h
theorem AObj.ren_mut (g : Nat → Nat) (x : AObj) : (x.ren g).mut = x.mut := by cases x <;> rfl

theorem ObjOk.less {B' : Nat} (hB : B' ≤ B) (hI : ∀ b, I b → J b) {l : Loc} : ∀ x : AObj, ObjOk w L B I l x → ObjOk w L B' J l x
  | .no, h => trivial
  | .box cs, h => by
    obtain ⟨b, base, cc, e, h1, h2, h3⟩ := h
    exact ⟨b, base, cc, e, h1, h2, RelAt.mono (fun _ _ h => h) hB cs _ _ b base (Evo.refl w I) hI rfl h3⟩
  | .arr own dfr z n f, h => by
    refine ⟨h.1, h.2.imp id ?_⟩
    rintro ⟨b, base, cc, e, h1, h2, h3, h4, h5⟩
    exact ⟨b, base, cc, e, h1, h2, fun ho => Nat.le_trans hB (h3 ho), h4, fun i hi => ⟨(h5 i hi).1, RelAt.mono (fun _ _ h => h) hB _ _ _ b _ (Evo.refl w _) (fun b hb => ⟨hI b hb.1, fun h => Nat.le_trans hB (hb.2 h)⟩) rfl (h5 i hi).2⟩⟩
  | .frz dfr z n f, h => by
    refine ⟨h.1, h.2.imp id ?_⟩
    rintro ⟨b, base, cc, e, h1, h2, h3, h3', h4, h5⟩
    exact ⟨b, base, cc, e, h1, h2, hI b h3, Nat.le_trans hB h3', h4, fun i hi => ⟨(h5 i hi).1, RelAt.mono (fun _ _ h => h) hB _ _ _ b _ (Evo.refl w _) (fun b hb => ⟨hI b hb.1, fun h => Nat.le_trans hB (hb.2 h)⟩) rfl (h5 i hi).2⟩⟩

/-- only what is made since -/
def since (B : Nat) (I : Nat → Prop) : Nat → Prop := fun b => I b ∧ B ≤ b
mutual
theorem sinceV_rel : ∀ (v : V) (x : Value), freshV v = true → Rel w L B v I x → Rel w L B v (since B I) x
  | .un, x, hf, h => by simp [Rel]
  | .und, x, hf, h => by simpa only [Rel] using h
  | .bool _, x, hf, h => by simpa only [Rel] using h
  | .int _ _, x, hf, h => by simpa only [Rel] using h
  | .flt _ _, x, hf, h => by simpa only [Rel] using h
  | .str _, x, hf, h => by simpa only [Rel] using h
  | .nil, x, hf, h => by simpa only [Rel] using h
  | .nptr, x, hf, h => by simpa only [Rel] using h
  | .ifc _, x, hf, h => by simpa only [Rel] using h
  | .sl fr dfr z n f, x, hf, h => by
    simp only [freshV, Bool.and_eq_true] at hf
    obtain ⟨e1, e2⟩ := hf
    subst e1; subst e2
    simp only [Rel] at h ⊢
    obtain ⟨ad, cap, h1, h2, h3⟩ := h
    refine ⟨ad, cap, h1, h2, fun hp => ?_⟩
    obtain ⟨b, off, h4, h5, h6⟩ := h3 hp
    refine ⟨b, off, h4, ⟨⟨h5.1, h5.2 rfl⟩, h5.2⟩, fun i hi => ⟨(h6 i hi).1, RelAt.mono (fun _ _ h => h) (Nat.le_refl _) _ _ _ b _ (Evo.refl w _) (fun b hb => ⟨⟨hb.1, hb.2 rfl⟩, hb.2⟩) rfl (h6 i hi).2⟩⟩
  | .dptr _, x, hf, h => by simp [freshV] at hf
  | .osl o z lo n, x, hf, h => by simpa only [Rel] using h
  | .ptr o off, x, hf, h => by simpa only [Rel] using h
  | .eptr o z i off, x, hf, h => by simpa only [Rel] using h
  | .agg cs, x, hf, h => by
    simp only [Rel] at h ⊢
    obtain ⟨vs, h1, h2⟩ := h
    exact ⟨vs, h1, sinceL_rel cs _ (by simpa only [freshV] using hf) h2⟩
  | .tup cs, x, hf, h => by
    simp only [Rel] at h ⊢
    obtain ⟨vs, h1, h2⟩ := h
    exact ⟨vs, h1, sinceL_rel cs _ (by simpa only [freshV] using hf) h2⟩
  | .fn _ cs, x, hf, h => by
    simp only [Rel] at h ⊢
    obtain ⟨vs, h1, h2⟩ := h
    exact ⟨vs, h1, sinceL_rel cs _ (by simpa only [freshV] using hf) h2⟩
theorem sinceL_rel : ∀ (cs : List V) (xs : List Value), freshVs cs = true → RelL w L B cs I xs → RelL w L B cs (since B I) xs
  | [], xs, hf, h => by simpa only [RelL] using h
  | v :: r, xs, hf, h => by
    simp only [freshVs, Bool.and_eq_true] at hf
    simp only [RelL] at h ⊢
    obtain ⟨x, xr, rfl, h1, h2⟩ := h
    exact ⟨x, xr, rfl, sinceV_rel v x hf.1 h1, sinceL_rel r xr hf.2 h2⟩
end
theorem sinceA_rel : ∀ (cs : List V) (b p : Nat), freshVs cs = true → RelAt w L B cs I b p → RelAt w L B cs (since B I) b p
  | [], b, p, hf, h => by simp [RelAt]
  | v :: r, b, p, hf, h => by
    simp only [freshVs, Bool.and_eq_true] at hf
    simp only [RelAt] at h ⊢
    obtain ⟨⟨x, h1, h1', h2⟩, h3⟩ := h
    exact ⟨⟨x, h1, h1', sinceV_rel v x hf.1 h2⟩, sinceA_rel r b (p + 1) hf.2 h3⟩
theorem sinceO_ok {l : Loc} : ∀ x : AObj, freshO x = true → ObjOk w L B I l x → ObjOk w L B (since B I) l x
  | .no, hf, h => trivial
  | .box cs, hf, h => by
    obtain ⟨b, base, cc, e, h1, h2, h3⟩ := h
    exact ⟨b, base, cc, e, h1, h2, sinceA_rel cs b base hf h3⟩
  | .arr own dfr z n f, hf, h => by
    have hf : dfr = true := hf
    subst hf
    refine ⟨h.1, h.2.imp id ?_⟩
    rintro ⟨b, base, cc, e, h1, h2, h3, h4, h5⟩
    exact ⟨b, base, cc, e, h1, h2, h3, h4, fun i hi => ⟨(h5 i hi).1, RelAt.mono (fun _ _ h => h) (Nat.le_refl _) _ _ _ b _ (Evo.refl w _) (fun b hb => ⟨⟨hb.1, hb.2 rfl⟩, hb.2⟩) rfl (h5 i hi).2⟩⟩
  | .frz .., hf, h => by cases hf
theorem freshOs_get : ∀ (l : List AObj) (j : Nat) (x : AObj), freshOs l = true → l[j]? = some x → freshO x = true
  | [], j, x, h, e => by simp at e
  | y :: r, 0, x, h, e => by simp only [freshOs, Bool.and_eq_true] at h; simp at e; subst e; exact h.1
  | y :: r, j + 1, x, h, e => by simp only [freshOs, Bool.and_eq_true] at h; exact freshOs_get r j x h.2 (by simpa using e)

/- lists -/
theorem upO_not : ∀ (l : List (Nat × AObj)) (ob : Nat → AObj) (o : Nat), (∀ p ∈ l, p.1 ≠ o) → upO l ob o = ob o
  | [], ob, o, h => rfl
  | (i, x) :: r, ob, o, h => by
    rw [upO_cons, if_neg (fun e => h (i, x) List.mem_cons_self e.symm)]
    exact upO_not r ob o fun p hp => h p (List.mem_cons_of_mem _ hp)
theorem pairUp_inv : ∀ (bids : List Nat) (k j : Nat), k ≤ j → inv (pairUp bids k) j = bids[j - k]?
  | [], k, j, h => by simp [pairUp, inv]
  | b :: bs, k, j, h => by
    simp only [pairUp, inv]
    by_cases e : j = k
    · subst e; simp
    · rw [beq_f e]
      simp only [cond]
      rw [pairUp_inv bs (k + 1) j (by omega), show j - k = j - (k + 1) + 1 from by omega, List.getElem?_cons_succ]
theorem pairUp_lk : ∀ (bids : List Nat) (k o j : Nat), lk (pairUp bids k) o = some j → k ≤ j ∧ bids[j - k]? = some o
  | [], k, o, j, h => by simp [pairUp, lk] at h
  | b :: bs, k, o, j, h => by
    simp only [pairUp, lk] at h
    cases e : nbeq o b <;> rw [e] at h <;> simp only [cond] at h
    · obtain ⟨h1, h2⟩ := pairUp_lk bs (k + 1) o j h
      refine ⟨by omega, ?_⟩
      rw [show j - k = j - (k + 1) + 1 from by omega, List.getElem?_cons_succ]; exact h2
    · have := eq_of_nbeq e
      subst this; cases h; simp
theorem pairUp_get : ∀ (bids : List Nat) (k o j : Nat), bids[j]? = some o → ∃ j', lk (pairUp bids k) o = some j'
  | [], k, o, j, h => by simp at h
  | b :: bs, k, o, j, h => by
    simp only [pairUp, lk]
    by_cases e : o = b
    · subst e; exact ⟨k, by simp⟩
    · rw [beq_f e]
      cases j with
      | zero => simp at h; exact absurd h.symm e
      | succ j => exact pairUp_get bs (k + 1) o j (by simpa using h)
theorem leOs_get {O : Ops} : ∀ (bids : List Nat) (bor : List AObj), LeOs O m s.ob bids bor → ∀ (j : Nat) (x : AObj), bor[j]? = some x → ∃ o, bids[j]? = some o ∧ LeO O true m s.ob (s.ob o) x
  | [], [], _, j, x, h => by simp at h
  | b :: bs, [], h, _, _, _ => by simp [LeOs] at h
  | [], _ :: _, h, _, _, _ => by simp [LeOs] at h
  | b :: bs, y :: ys, h, j, x, hx => by
    simp only [LeOs] at h
    cases j with
    | zero => simp at hx; subst hx; exact ⟨b, rfl, h.1⟩
    | succ j => exact leOs_get bs ys h.2 j x (by simpa using hx)
theorem dropN_get {α : Type} : ∀ (n : Nat) (l : List α) (k : Nat), (dropN n l)[k]? = l[n + k]?
  | 0, l, k => by simp [dropN]
  | n + 1, [], k => by simp [dropN]
  | n + 1, x :: l, k => by rw [dropN, dropN_get n l k, show n + 1 + k = n + k + 1 from by omega, List.getElem?_cons_succ]
theorem news_mem (g : Nat → Nat) (d : Nat) : ∀ (l : List AObj) (k i : Nat) (x : AObj), l[i]? = some x → (nid d (k + i), x.ren g) ∈ news g d k l
  | [], k, i, x, h => by simp at h
  | y :: r, k, 0, x, h => by simp at h; subst h; simp [news]
  | y :: r, k, i + 1, x, h => by
    simp only [news]
    refine List.mem_cons_of_mem _ ?_
    have := news_mem g d r (k + 1) i x (by simpa using h)
    rw [show k + (i + 1) = k + 1 + i from by omega]; exact this
theorem upO_news (g : Nat → Nat) (d : Nat) (ob : Nat → AObj) : ∀ (l : List AObj) (k o : Nat), (∃ (i : Nat) (x : AObj), l[i]? = some x ∧ o = nid d (k + i) ∧ upO (news g d k l) ob o = x.ren g) ∨ ((∀ (i : Nat) (x : AObj), l[i]? = some x → o ≠ nid d (k + i)) ∧ upO (news g d k l) ob o = ob o)
  | [], k, o => .inr ⟨fun i x hi => by simp at hi, rfl⟩
  | y :: r, k, o => by
    simp only [news, upO_cons]
    by_cases e : o = nid d k
    · exact .inl ⟨0, y, rfl, by simpa using e, by rw [if_pos e]⟩
    · rw [if_neg e]
      rcases upO_news g d ob r (k + 1) o with ⟨i, x, h1, h2, h3⟩ | ⟨h1, h2⟩
      · exact .inl ⟨i + 1, x, by simpa using h1, by rw [h2, show k + 1 + i = k + (i + 1) from by omega], h3⟩
      · refine .inr ⟨fun i x hi => ?_, h2⟩
        cases i with
        | zero => simpa using e
        | succ i => rw [show k + (i + 1) = k + 1 + i from by omega]; exact h1 i x (by simpa using hi)
theorem newOk_mem : ∀ (us : Nat → Bool) (l : List (Nat × AObj)), newOk us l = true → ∀ p ∈ l, us p.1 = false ∧ 16 ≤ p.1
  | us, [], _, p, h => by cases h
  | us, (i, x) :: r, h, p, hp => by
    simp only [newOk, Bool.and_eq_true, Bool.not_eq_true'] at h
    obtain ⟨⟨h1, h2⟩, h3⟩ := h
    rcases List.mem_cons.1 hp with e | e
    · subst e; exact ⟨h1, le_of_nble h2⟩
    · exact newOk_mem us r h3 p e
theorem upU_mem : ∀ (l : List (Nat × AObj)) (us : Nat → Bool) (o : Nat), upU l us o = false → us o = false ∧ ∀ p ∈ l, p.1 ≠ o
  | [], us, o, h => ⟨h, fun p hp => by cases hp⟩
  | (i, x) :: r, us, o, h => by
    simp only [upU] at h
    cases e : nbeq o i <;> rw [e] at h <;> simp only [cond] at h
    · obtain ⟨h1, h2⟩ := upU_mem r us o h
      refine ⟨h1, fun p hp => ?_⟩
      rcases List.mem_cons.1 hp with g | g
      · subst g; intro e'; simp only at e'; rw [e', beq_t] at e; cases e
      · exact h2 p g
    · cases h
theorem upO_backs (g : Nat → Nat) (ob ob0 : Nat → AObj) (r : List (Nat × AObj)) : ∀ (bids : List Nat) (out : List AObj) (o : Nat), bids.Nodup → bids.length ≤ out.length →
    (∃ (j : Nat) (x : AObj), bids[j]? = some o ∧ out[j]? = some x ∧ upO (backs g ob bids out ++ r) ob0 o = (AObj.back (ob o) x).ren g) ∨ ((∀ j : Nat, bids[j]? ≠ some o) ∧ upO (backs g ob bids out ++ r) ob0 o = upO r ob0 o)
  | [], out, o, _, _ => .inr ⟨fun j => by simp, by simp [backs]⟩
  | b :: bs, [], o, _, h => by simp at h
  | b :: bs, x :: xs, o, hn, hl => by
    simp only [backs, List.cons_append, upO_cons]
    simp only [List.nodup_cons] at hn
    by_cases e : o = b
    · subst e; exact .inl ⟨0, x, rfl, rfl, by rw [if_pos rfl]⟩
    · rw [if_neg e]
      rcases upO_backs g ob ob0 r bs xs o hn.2 (by simpa using hl) with ⟨j, y, h1, h2, h3⟩ | ⟨h1, h2⟩
      · exact .inl ⟨j + 1, y, by simpa using h1, by simpa using h2, h3⟩
      · refine .inr ⟨fun j => ?_, h2⟩
        cases j with
        | zero => simpa using fun h => e h.symm
        | succ j => simpa using h1 j
theorem allFz_get : ∀ (l : List (Nat × AObj)), allFz l = true → ∀ p ∈ l, ∃ d z n f, p.2 = .frz d z n f
  | [], _, p, h => by cases h
  | (i, x) :: r, h, p, hp => by
    cases x <;> simp only [allFz] at h <;> first | (cases h; done) | skip
    rcases List.mem_cons.1 hp with e | e
    · subst e; exact ⟨_, _, _, _, rfl⟩
    · exact allFz_get r h p e
theorem nodup_get : ∀ {l : List Nat} (hn : l.Nodup) {i j x : Nat} (hi : l[i]? = some x) (hj : l[j]? = some x), i = j
  | [], _, i, j, x, hi, hj => by simp at hi
  | y :: r, hn, 0, 0, x, hi, hj => rfl
  | y :: r, hn, 0, j + 1, x, hi, hj => by
    simp at hi hj; subst hi
    exact absurd (List.mem_of_getElem? hj) (List.nodup_cons.1 hn).1
  | y :: r, hn, i + 1, 0, x, hi, hj => by
    simp at hi hj; subst hj
    exact absurd (List.mem_of_getElem? hi) (List.nodup_cons.1 hn).1
  | y :: r, hn, i + 1, j + 1, x, hi, hj => by
    exact congrArg (· + 1) (nodup_get (x := x) (List.nodup_cons.1 hn).2 (by simpa using hi) (by simpa using hj))

theorem CallsX.mono {g : Nat} {vs : Array Value} {R R' : Ending → World → Prop} (h : CallsX P g vs w R) (hr : ∀ e w', R e w' → R' e w') : CallsX P g vs w R' :=
  h.imp (fun h => ⟨h.1, h.2.mono hr⟩) fun ⟨v, w', h1, h2⟩ => ⟨v, w', h1, hr _ _ h2⟩

def callL (bids : List Nat) (L : LMap) : LMap := fun j => match bids[j]? with | some o => L o | none => none

/-- what the call is begun with -/
theorem call_pre (h : Sim c L I s a w) {bids : List Nat} {bor : List AObj} {args args' cargs : List V} {vs : Array Value} {ps : List Prop} {fzs : List (Nat × AObj)} (hv : RelL w L c.B args I vs.toList)
    (hr : (convL std (pairUp bids 0) true args).run s.ob = (some args', ps, fzs)) (hok : AllOk ps) (hn : bids.Nodup) (h16 : bids.length ≤ 16) (hlen : bids.length = bor.length)
    (hle : LeL true false args' cargs) (hos : LeOs std (pairUp bids 0) s.ob bids bor) {I1 : Nat → Prop} {s1 : St} (hI1 : ∀ b, I b → I1 b) (h1 : Sim c L I1 s1 a w) (hob : ∀ j o : Nat, bids[j]? = some o → s1.ob o = s.ob o) :
    FzIn s (pairUp bids 0) true fzs ∧ ConPre w (callL bids L) (fun b => I1 b ∨ ∃ p ∈ fzs, ∃ base, L p.1 = some (.at_ b base)) bor cargs vs := by
  have hlk : ∀ o o', lk (pairUp bids 0) o = some o' → bids[o']? = some o := fun o o' e => by simpa using (pairUp_lk bids 0 o o' e).2
  have hR : Ren L (callL bids L) I (fun b => I1 b ∨ ∃ p ∈ fzs, ∃ base, L p.1 = some (.at_ b base)) (pairUp bids 0) :=
    ⟨fun o o' e l hl => by simp only [callL, hlk o o' e]; exact hl, fun b hb => .inl (hI1 b hb)⟩
  have hfi := ren_fzL h hv hr hok hR
  have hobj : ∀ (j : Nat) (x : AObj), bor[j]? = some x → ∃ (o : Nat) (l : Loc), bids[j]? = some o ∧ L o = some l ∧ (s.ob o).mut = true ∧ x.mut = true ∧
      ObjOk w (callL bids L) w.heap.size (fun b => I1 b ∨ ∃ p ∈ fzs, ∃ base, L p.1 = some (.at_ b base)) l x := by
    intro j x hx
    obtain ⟨o, ho, hle⟩ := leOs_get bids bor hos j x hx
    have hne : s.ob o ≠ .no := by
      intro e; rw [e] at hle
      cases x <;> simp [LeO] at hle
    obtain ⟨l, k1, k2⟩ := h.ob o hne
    obtain ⟨_, g1, g2, g3⟩ := leO_sound (cl := true) (B' := w.heap.size) (L' := callL bids L) h hR (fun h => by cases h) (fun h => by cases h) (fun _ _ _ h => h) (fun h => by cases h) hle k2
    exact ⟨o, l, ho, k1, g1.symm.trans (g2 rfl), g2 rfl, g3⟩
  have hat : ∀ (j b base : Nat), callL bids L j = some (.at_ b base) → ∃ o : Nat, bids[j]? = some o ∧ L o = some (.at_ b base) ∧ (s.ob o).mut = true := by
    intro j b base e
    simp only [callL] at e
    cases ho : bids[j]? with
    | none => rw [ho] at e; cases e
    | some o =>
      rw [ho] at e
      have hj : j < bor.length := by rw [← hlen]; exact (List.getElem?_eq_some_iff.1 ho).1
      obtain ⟨o', l, k1, _, k3, _⟩ := hobj j _ (List.getElem?_eq_getElem hj)
      rw [ho] at k1; cases k1
      exact ⟨o, rfl, e, k3⟩
  refine ⟨hfi, ?_⟩
  refine { few := by omega, bnd := ?_, args := ?_, obj := ?_, no := ?_, sep := ?_, imm := ?_ }
  · rintro b (hb | ⟨p, hp, base, hl⟩)
    · exact h1.bnd b hb
    · obtain ⟨_, own, d, z, n, f, k1, _⟩ := hfi p hp
      exact h.lt (by rw [k1]; simp) hl
  · have r1 := (renL_sound h hR args vs.toList hv args' ps fzs hr hok fun p hp b base hl => .inr ⟨p, hp, base, hl⟩).2
    exact leL_sound (cl := true) (B' := w.heap.size) (fun h => by cases h) cargs false args' _ _ _ _ vs.toList (fun _ _ _ h => h) (fun h => by cases h) (fun _ h => h) hle r1
  · intro j x hx
    obtain ⟨o, l, k1, k2, k3, k4, k5⟩ := hobj j x hx
    exact ⟨k4, l, by simp only [callL, k1]; exact k2, k5⟩
  · intro j hj
    have : bids[j]? = none := List.getElem?_eq_none (by omega)
    simp only [callL, this]
  · intro j k b base base' hj hk ej ek
    obtain ⟨o, k1, k2, k3⟩ := hat j b base ej
    obtain ⟨o', k1', k2', k3'⟩ := hat k b base' ek
    have := h.sep o o' b base base' k3 k3' k2 k2'
    subst this
    exact nodup_get hn k1 k1'
  · intro j b base hj ej
    obtain ⟨o, k1, k2, k3⟩ := hat j b base ej
    rintro (hb | ⟨p, hp, base', hl⟩)
    · exact h1.imm o b base (by rw [hob j o k1]; exact k3) k2 hb
    · obtain ⟨q1, own, d, z, n, f, q2, _⟩ := hfi p hp
      have := h.sep o p.1 b base base' k3 (by rw [q2]; rfl) k2 hl
      subst this
      obtain ⟨j', e⟩ := pairUp_get bids 0 p.1 j k1
      rw [e] at q1; cases q1

/-- what the call leaves -/
theorem call_post {bids : List Nat} {bor : List AObj} {res : V} {out : List AObj} {w' : World} {L1 : LMap} {v : Value} {I1 J K : Nat → Prop} {s1 : St} {d0 : Nat}
    (h1 : Sim c L I1 s1 a w) (hJ : ∀ b, J b → b < w.heap.size) (hp : ConPost w (callL bids L) J bor res out w' L1 v)
    (hn : bids.Nodup) (hlen : bids.length = bor.length) (hmut : ∀ j o : Nat, bids[j]? = some o → (s1.ob o).mut = true) (hnew : newOk s1.us (news (renum bids.length bids d0) d0 0 (dropN bids.length out)) = true)
    (hK : ∀ b, K b → I1 b ∨ freshOf w w' L1 bor.length out.length b) (hres : Rel w' L1 w.heap.size res K v) (hobj : ∀ (j : Nat) (x : AObj), out[j]? = some x → x.mut = true ∧ ∃ l, L1 j = some l ∧ ObjOk w' L1 w.heap.size K l x)
    (d : Option Nat) (hd : ∀ x, d = some x → x < c.N) {fzs : List (Nat × AObj)} {ob0 : Nat → AObj} (hs1 : s1.ob = upO fzs ob0) (hs0 : ∀ j o : Nat, bids[j]? = some o → ob0 o = s1.ob o) :
    ∃ L' I', Sim c L' I' (St.putO ⟨s1.tm, upO (news (renum bids.length bids d0) d0 0 (dropN bids.length out)) (upO (backs (renum bids.length bids d0) ob0 bids out ++ fzs) ob0), upU (news (renum bids.length bids d0) d0 0 (dropN bids.length out)) s1.us⟩ d (res.ren (renum bids.length bids d0))) (a.put d v) w' := by
  have hBw : c.B ≤ w.heap.size := h1.keep.le
  have hle : bids.length ≤ out.length := by rw [hlen]; exact hp.le
  have hk : ∀ k, bor.length + k < out.length → s1.us (nid d0 k) = false ∧ 16 ≤ nid d0 k := by
    intro k hk
    have := news_mem (renum bids.length bids d0) d0 (dropN bids.length out) 0 k (out[bor.length + k]) (by rw [dropN_get, hlen]; exact List.getElem?_eq_getElem hk)
    have := newOk_mem _ _ hnew _ this
    simpa using this
  obtain ⟨L2, hL2⟩ : ∃ L2 : LMap, ∀ o, L2 o = if 16 * d0 ≤ o ∧ bor.length + (o - 16 * d0) < out.length then L1 (bor.length + (o - 16 * d0)) else L o := ⟨_, fun _ => rfl⟩
  have L2new : ∀ k, bor.length + k < out.length → L2 (nid d0 k) = L1 (bor.length + k) := by
    intro k hk
    have e : nid d0 k - 16 * d0 = k := by unfold nid; omega
    rw [hL2, e, if_pos ⟨by unfold nid; omega, hk⟩]
  have L2old : ∀ o, (∀ k, bor.length + k < out.length → o ≠ nid d0 k) → L2 o = L o := by
    intro o ho
    rw [hL2, if_neg]
    rintro ⟨h1, h2⟩
    exact ho _ h2 (by unfold nid; omega)
  have hLext : ∀ o l, L o = some l → L2 o = some l := by
    intro o l hl
    rw [L2old o]
    · exact hl
    · intro k hk' e
      subst e
      rw [h1.us _ (hk k hk').1] at hl; cases hl
  have hbid : ∀ j, j < bor.length → ∃ o : Nat, bids[j]? = some o ∧ L1 j = L o := by
    intro j hj
    have : j < bids.length := by omega
    refine ⟨bids[j], List.getElem?_eq_getElem this, ?_⟩
    rw [hp.same j hj]
    simp only [callL, List.getElem?_eq_getElem this]
  have hg : ∀ j l, L1 j = some l → L2 (renum bids.length bids d0 j) = some l := by
    intro j l hl
    by_cases hj : j < bor.length
    · obtain ⟨o, h2, h3⟩ := hbid j hj
      simp only [renum, h2]
      exact hLext o l (h3 ▸ hl)
    · have hN : j < out.length := by
        rcases Nat.lt_or_ge j out.length with h | h
        · exact h
        · rw [hp.no j h] at hl; cases hl
      have h2 : bids[j]? = none := List.getElem?_eq_none (by omega)
      simp only [renum, h2, hlen]
      rw [L2new _ (by omega), show bor.length + (j - bor.length) = j from by omega]; exact hl
  have hlent : ∀ b, (∃ j base, j < bor.length ∧ callL bids L j = some (.at_ b base)) → ∃ (j o base : Nat), bids[j]? = some o ∧ L o = some (.at_ b base) ∧ (s1.ob o).mut = true := by
    rintro b ⟨j, base, hj, hl⟩
    obtain ⟨o, h2, _⟩ := hbid j hj
    simp only [callL, h2] at hl
    exact ⟨j, o, base, h2, hl, hmut j o h2⟩
  have hI : ∀ b, I1 b → I1 b ∨ freshOf w w' L1 bor.length out.length b := fun b hb => .inl hb
  have hevo : Evo w w' I1 := by
    refine ⟨fun b hb => hp.keep.same b (h1.bnd b hb) fun hx => ?_, hp.keep.size⟩
    obtain ⟨j, o, base, _, h3, h4⟩ := hlent b hx
    exact h1.imm o b base h4 h3 hb
  have hsame : ∀ o b base, s1.ob o ≠ .no → (∀ j : Nat, bids[j]? ≠ some o) → L o = some (.at_ b base) → w'.heap[b]? = w.heap[b]? := by
    intro o b base ho hnb hl
    refine hp.keep.same b (h1.lt ho hl) fun hx => ?_
    obtain ⟨j, o', base', h2, h3, h4⟩ := hlent b hx
    cases hm : (s1.ob o).mut with
    | true =>
      have := h1.sep o o' b base base' hm h4 hl h3
      subst this; exact hnb j h2
    | false =>
      obtain ⟨l, k1, k2⟩ := h1.ob o ho
      rw [hl] at k1; cases k1
      cases hx : s1.ob o <;> rw [hx] at hm ho k2 <;> first | (cases hm; done) | (exact absurd rfl ho) | skip
      rcases k2.2 with ⟨_, e⟩ | ⟨b', base'', cc, e, k3, _, k4, _⟩
      · cases e
      · cases k3; exact h1.imm o' b base' h4 h3 k4
  obtain ⟨ob2, hob2⟩ : ∃ ob2, ob2 = upO (news (renum bids.length bids d0) d0 0 (dropN bids.length out)) (upO (backs (renum bids.length bids d0) ob0 bids out ++ fzs) ob0) := ⟨_, rfl⟩
  obtain ⟨us2, hus2⟩ : ∃ us2, us2 = upU (news (renum bids.length bids d0) d0 0 (dropN bids.length out)) s1.us := ⟨_, rfl⟩
  have hcase : ∀ o, (∃ (k : Nat) (x : AObj), out[bor.length + k]? = some x ∧ o = nid d0 k ∧ ob2 o = x.ren (renum bids.length bids d0) ∧ L2 o = L1 (bor.length + k)) ∨
      (∃ (j : Nat) (x : AObj), bids[j]? = some o ∧ out[j]? = some x ∧ ob2 o = (AObj.back (s1.ob o) x).ren (renum bids.length bids d0) ∧ L2 o = L o ∧ L o = L1 j) ∨
      ((∀ j : Nat, bids[j]? ≠ some o) ∧ ob2 o = s1.ob o ∧ L2 o = L o) := by
    intro o
    rw [hob2]
    rcases upO_news (renum bids.length bids d0) d0 (upO (backs (renum bids.length bids d0) ob0 bids out ++ fzs) ob0) (dropN bids.length out) 0 o with ⟨i, x, h2, h3, h4⟩ | ⟨h2, h3⟩
    · rw [dropN_get, hlen] at h2
      rw [Nat.zero_add] at h3
      exact .inl ⟨i, x, h2, h3, h4, by rw [h3]; exact L2new i (List.getElem?_eq_some_iff.1 h2).1⟩
    · have hold : L2 o = L o := L2old o fun k hk' e => by
        refine h2 k (out[bor.length + k]) (by rw [dropN_get, hlen]; exact List.getElem?_eq_getElem hk') ?_
        rw [Nat.zero_add]; exact e
      rcases upO_backs (renum bids.length bids d0) ob0 ob0 fzs bids out o hn hle with ⟨j, x, k1, k2, k3⟩ | ⟨k1, k2⟩
      · refine .inr (.inl ⟨j, x, k1, k2, ?_, hold, ?_⟩)
        · rw [h3, k3, hs0 j o k1]
        · obtain ⟨o', q1, q2⟩ := hbid j (by rw [← hlen]; exact (List.getElem?_eq_some_iff.1 k1).1)
          rw [k1] at q1; cases q1; exact q2.symm
      · exact .inr (.inr ⟨k1, by rw [h3, k2, hs1], hold⟩)
  have hcls : ∀ o b base, (ob2 o).mut = true → L2 o = some (.at_ b base) → (∃ k, bor.length + k < out.length ∧ o = nid d0 k ∧ L1 (bor.length + k) = some (.at_ b base) ∧ w.heap.size ≤ b) ∨
      ((s1.ob o).mut = true ∧ L o = some (.at_ b base) ∧ b < w.heap.size) := by
    intro o b base hm hl
    rcases hcase o with ⟨k, x, h2, h3, h4, h5⟩ | ⟨j, x, h2, h3, h4, h5, h6⟩ | ⟨h2, h3, h4⟩
    · have hk' := (List.getElem?_eq_some_iff.1 h2).1
      rw [h5] at hl
      exact .inl ⟨k, hk', h3, hl, hp.new _ b base (by omega) hk' hl⟩
    · rw [h5] at hl
      exact .inr ⟨hmut j o h2, hl, h1.lt (AObj.ne_of_mut (hmut j o h2)) hl⟩
    · rw [h4] at hl; rw [h3] at hm
      exact .inr ⟨hm, hl, h1.lt (AObj.ne_of_mut hm) hl⟩
  refine ⟨L2, fun b => I1 b ∨ freshOf w w' L1 bor.length out.length b, ?_⟩
  rw [← hob2, ← hus2]
  refine Sim.putV (s := ⟨s1.tm, ob2, us2⟩) ?_ d hd (Rel.mono (fun _ _ h => h) hBw _ _ _ _ (Evo.refl w' K) hK (V.ren_rel hg res v hres))
  refine { h1 with tm := fun t => Rel.mono hLext (Nat.le_refl _) _ _ _ _ hevo hI (h1.tm t), ob := ?_, sep := ?_, imm := ?_, dom := ?_, us := ?_, bnd := ?_, lim := ?_, bor := ?_, keep := ?_ }
  · intro o ho
    simp only at ho ⊢
    rcases hcase o with ⟨k, x, h2, h3, h4, h5⟩ | ⟨j, x, h2, h3, h4, h5, h6⟩ | ⟨h2, h3, h4⟩
    · obtain ⟨_, l, k1, k2⟩ := hobj _ x h2
      rw [h4, h5]
      exact ⟨l, k1, AObj.ren_ok hg x (ObjOk.less hBw hK x k2)⟩
    · obtain ⟨_, l, k1, k2⟩ := hobj _ x h3
      rw [h4, h5, h6]
      refine ⟨l, k1, AObj.ren_ok hg _ ?_⟩
      obtain ⟨l', q1, q2⟩ := h1.ob o (AObj.ne_of_mut (hmut j o h2))
      rw [h6, k1] at q1; cases q1
      have k3 := ObjOk.less hBw hK x k2
      cases hy : s1.ob o with
      | arr own d z n f =>
        cases x with
        | arr own' d' z' n' f' =>
          rw [hy] at q2
          refine ⟨k3.1, k3.2.imp id ?_⟩
          rintro ⟨b, base, cc, e, g1, g2, g3, g4⟩
          refine ⟨b, base, cc, e, g1, g2, fun ho => ?_, g4⟩
          rcases q2.2 with ⟨_, e'⟩ | ⟨b', base', cc', e', r1, _, r2, _⟩
          · rw [g1] at e'; cases e'
          · rw [g1] at r1; cases r1; exact r2 ho
        | _ => exact k3
      | _ => exact k3
    · rw [h3] at ho ⊢
      rw [h4]
      obtain ⟨l, k1, k2⟩ := h1.ob o ho
      exact ⟨l, k1, k2.mono hLext hevo hI fun b base e => hsame o b base ho h2 (e ▸ k1)⟩
  · intro o o' b base base' mo mo' eo eo'
    rcases hcls o b base mo eo with ⟨k, h2, h3, h4, h5⟩ | ⟨h2, h3, h4⟩ <;> rcases hcls o' b base' mo' eo' with ⟨k', h2', h3', h4', h5'⟩ | ⟨h2', h3', h4'⟩
    · have := hp.sep _ _ b base base' h2 h2' h4 h4'
      rw [h3, h3', show k = k' from by omega]
    · omega
    · omega
    · exact h1.sep o o' b base base' h2 h2' h3 h3'
  · intro o b base mo eo hb
    rcases hcls o b base mo eo with ⟨k, h2, h3, h4, h5⟩ | ⟨h2, h3, h4⟩
    · rcases hb with hb | hb
      · have := h1.bnd b hb; omega
      · exact hb.2.2 _ base (by omega) h2 h4
    · rcases hb with hb | hb
      · exact h1.imm o b base h2 h3 hb
      · have := hb.1; omega
  · intro o b base mo eo
    rcases hcls o b base mo eo with ⟨k, h2, h3, h4, h5⟩ | ⟨h2, h3, h4⟩
    · exact .inl (Nat.le_trans hBw h5)
    · exact h1.dom o b base h2 h3
  · intro o ho
    simp only [hus2] at ho
    obtain ⟨h2, h3⟩ := upU_mem _ _ _ ho
    rw [L2old o]
    · exact h1.us o h2
    · intro k hk' e
      have := news_mem (renum bids.length bids d0) d0 (dropN bids.length out) 0 k (out[bor.length + k]) (by rw [dropN_get, hlen]; exact List.getElem?_eq_getElem hk')
      rw [Nat.zero_add] at this
      exact h3 _ this e.symm
  · rintro b (hb | hb)
    · exact Nat.lt_of_lt_of_le (h1.bnd b hb) hp.keep.le
    · exact hb.2.1
  · rintro b (hb | hb)
    · exact h1.lim b hb
    · exact .inr (Nat.le_trans hBw hb.1)
  · intro j hj
    rw [L2old j]
    · exact h1.bor j hj
    · intro k hk' e
      have := (hk k hk').2
      have := h1.few
      omega
  · refine ⟨Nat.le_trans h1.keep.le hp.keep.le, fun b hb hx => ?_, fun b cs e hc => ?_, hp.keep.os.trans h1.keep.os, hp.keep.outp.trans h1.keep.outp, fun a => (hp.keep.frz a).trans (h1.keep.frz a)⟩
    · refine (hp.keep.same b (Nat.lt_of_lt_of_le hb h1.keep.le) fun hl => ?_).trans (h1.keep.same b hb hx)
      obtain ⟨j, o, base, h2, h3, h4⟩ := hlent b hl
      rcases h1.dom o b base h4 h3 with g | g
      · exact absurd hb (Nat.not_lt.2 g)
      · exact hx g
    · obtain ⟨c1, k1, k2⟩ := h1.keep.size b cs e hc
      obtain ⟨c2, k3, k4⟩ := hp.keep.size b c1 e k1
      exact ⟨c2, k3, k4.trans k2⟩

end Go.Desk
