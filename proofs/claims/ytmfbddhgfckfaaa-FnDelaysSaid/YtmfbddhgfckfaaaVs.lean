/- V-logic, part 22: functions. -/
import Derived.Test.YtmfbddhgfckfaaaVu
namespace Go.Desk
open Go
set_option linter.all false
set_option linter.unusedVariables false

variable {c : Ctx} {L L' : LMap} {I J : Nat → Prop} {s : St} {a : Act} {w : World} {P : Program} {T : Nat → TI} {B : Nat} {m : List (Nat × Nat)}

theorem enum_key : ∀ (l : List AObj) (n o : Nat), isKey (enumO n l) o = true → n ≤ o ∧ o < n + l.length ∧ l[o - n]? = some (lkO (enumO n l) o)
  | [], n, o, h => by simp [enumO, isKey] at h
  | x :: r, n, o, h => by
    simp only [enumO, isKey, lkO] at h ⊢
    by_cases e : o = n
    · subst e; simp [beq_t]
    · rw [beq_f e] at h ⊢
      simp only [cond] at h ⊢
      obtain ⟨h1, h2, h3⟩ := enum_key r (n + 1) o h
      refine ⟨by omega, by simp; omega, ?_⟩
      rw [show o - n = o - (n + 1) + 1 from by omega, List.getElem?_cons_succ]; exact h3
theorem enum_get : ∀ (l : List AObj) (n j : Nat) (x : AObj), l[j]? = some x → isKey (enumO n l) (n + j) = true ∧ lkO (enumO n l) (n + j) = x
  | [], n, j, x, h => by simp at h
  | y :: r, n, 0, x, h => by simp at h; subst h; simp [enumO, isKey, lkO]
  | y :: r, n, j + 1, x, h => by
    have := enum_get r (n + 1) j x (by simpa using h)
    rw [show n + 1 + j = n + (j + 1) from by omega] at this
    simp only [enumO, isKey, lkO]
    rw [beq_f (by omega)]; exact this
theorem getV_get : ∀ (l : List V) (t : Nat), getV l t = (l[t]?).getD .und
  | [], t => by simp [getV]
  | v :: r, 0 => by simp [getV]
  | v :: r, t + 1 => by simp [getV, getV_get r t]
theorem relL_get : ∀ (cs : List V) (xs : List Value), RelL w L B cs I xs → ∀ t : Nat, Rel w L B ((cs[t]?).getD .und) I ((xs[t]?).getD undef)
  | [], xs, h, t => by simp only [RelL] at h; subst h; simp [Rel]
  | v :: r, xs, h, t => by
    simp only [RelL] at h
    obtain ⟨x, xr, rfl, h1, h2⟩ := h
    cases t with
    | zero => simpa using h1
    | succ t => simpa using relL_get r xr h2 t

def readR (tmps : Array Value) : ResultVar → Sem Value
  | .tmp t => pure (tmps.getD t undef)
  | .cell b t => do loadVar t (← asAddr (tmps.getD b undef))
theorem results_eq (fn : Func) (tmps : Array Value) : results fn tmps = (do let vs ← fn.results.mapM (readR tmps); pure (if h : vs.size = 1 then vs[0] else .tuple vs)) := by
  unfold results
  have : (fun r : ResultVar => (match r with | .tmp t => pure (tmps.getD t undef) | .cell a t => do loadVar t (← asAddr (tmps.getD a undef)) : Sem Value)) = readR tmps := by
    funext r; cases r <;> rfl
  rw [← this]
  rfl

theorem results_sound (hT : TOk P T) (h : Sim c L I s a w) : ∀ (rs : List ResultVar) {k : List V → Prop}, retV ⟨std, T⟩ s rs k →
    ∃ vs xs, (rs.mapM (readR a.tmps)).run P w = .ok xs w ∧ RelL w L c.B vs I xs ∧ k vs
  | [], k, hk => ⟨[], [], by simp, by simp [RelL], hk⟩
  | .tmp t :: r, k, hk => by
    simp only [retV] at hk
    obtain ⟨vs, xs, h1, h2, h3⟩ := results_sound hT h r hk
    refine ⟨s.tm t :: vs, a.tmps.getD t undef :: xs, ?_, ?_, h3⟩
    · rw [List.mapM_cons]; simp [readR, h1]
    · simp only [RelL]; exact ⟨_, _, rfl, h.tm t, h2⟩
  | .cell b t :: r, k, hk => by
    simp only [retV] at hk
    have hb := h.tm b
    split at hk <;> first | (exact hk.elim) | skip
    rename_i o off ho
    split at hk <;> first | (exact hk.elim) | skip
    rename_i cs hcs
    split at hk <;> first | (exact hk.elim) | skip
    rename_i v hv
    obtain ⟨vs, xs, h1, h2, h3⟩ := results_sound hT h r hk
    rw [ho] at hb
    simp only [Rel] at hb
    obtain ⟨bl, base, k1, k2⟩ := hb
    obtain ⟨l, k3, k4⟩ := h.ob o (by rw [hcs]; simp)
    rw [k1] at k3; cases k3
    rw [hcs] at k4
    obtain ⟨b', base', cc, e, k5, _, k6⟩ := k4
    cases k5
    obtain ⟨x, k7, k8⟩ := load_part hT hv k6
    refine ⟨v :: vs, x :: xs, ?_, ?_, h3⟩
    · rw [List.mapM_cons]; simp [readR, h1, k2, asAddr, k7]
    · simp only [RelL]; exact ⟨_, _, rfl, k8, h2⟩

theorem pack_rel {vs : List V} {xs : Array Value} (h : RelL w L B vs I xs.toList) : Rel w L B (packV vs) I (if h : xs.size = 1 then xs[0] else .tuple xs) := by
  have hl : xs.size = vs.length := by rw [← Array.length_toList]; exact RelL.length vs I _ h
  cases vs with
  | nil =>
    have : ¬ xs.size = 1 := by simp only [List.length] at hl; omega
    rw [dif_neg this]
    simp only [packV, Rel]
    exact ⟨xs, rfl, h⟩
  | cons v r =>
    cases r with
    | nil =>
      have h1 : xs.size = 1 := by simpa only [List.length] using hl
      rw [dif_pos h1]
      simp only [RelL] at h
      obtain ⟨x, xr, e, h2, h3⟩ := h
      simp only [packV]
      have : xs[0] = x := by
        have : xs.toList[0]? = some x := by rw [e]; rfl
        simpa [h1] using this
      rw [this]; exact h2
    | cons v' r' =>
      have : ¬ xs.size = 1 := by simp only [List.length] at hl; omega
      rw [dif_neg this]
      simp only [packV, Rel]
      exact ⟨xs, rfl, h⟩

theorem allMut_get : ∀ (l : List AObj) (j : Nat) (x : AObj), allMut l = true → l[j]? = some x → x.mut = true
  | [], j, x, h, e => by simp at e
  | y :: r, j, x, h, e => by
    cases y <;> simp only [allMut] at h <;> first | (cases h; done) | skip
    all_goals
      cases j with
      | zero => simp at e; subst e; rfl
      | succ j => exact allMut_get r j x h (by simpa using e)

theorem Cov.keys {O : Ops} {M : Nat} {t : Tbl} (h : Cov O M m s t) : ∀ j, j < M → isKey t.ob j = true := by
  unfold Cov at h
  cases hm : mapOk m M t <;> rw [hm] at h <;> simp only [cond] at h
  simp only [mapOk, Bool.and_eq_true] at hm
  exact fun j hj => (borOk_lt _ _ _ hm.1.1.2 j hj).2

theorem con_of_fwp (hT : TOk P T) (hmo : P.follows .mixedOrders = true) {g : Nat} {fn : Func} (hf : P.funcs[g]? = some fn) (hname : (fn.name == "runtime.NumGoroutine") = false) {bor : List AObj} {args : List V} {res : V} {out : List AObj}
    (h : fwp ⟨std, T⟩ P fn bor args res out) : Con P g bor args res out := by
  intro w L I vs pre
  unfold fwp at h
  cases hb : fn.body with
  | none => rw [hb] at h; exact h.elim
  | some code =>
    rw [hb] at h
    simp only at h
    cases hm : allMut out && nble (lenV args) fn.ntmps <;> rw [hm] at h <;> simp only [cond] at h
    obtain ⟨hmut, hnt⟩ := Bool.and_eq_true_iff.1 hm
    have hlen := RelL.length args I vs.toList pre.args
    have hsz : vs.size ≤ fn.ntmps := by
      have := le_of_nble hnt
      rw [lenV_eq] at this
      have : vs.size = args.length := by simpa using hlen
      omega
    refine .inl ⟨?_, ?_⟩
    · have hname' : ¬ fn.name = "runtime.NumGoroutine" := by simpa using hname
      simp [callFunc, hf, hb, hname']
    refine calls_of_wp hf hb ?_
    let c : Ctx := ⟨w, fun b => ∃ j base, j < bor.length ∧ L j = some (.at_ b base), fn.ntmps, bor.length, L, I⟩
    have hS : Sim c L I (entry bor args) { tmps := vs ++ Array.replicate (fn.ntmps - vs.size) undef, defers := [] } w := by
      have hmob : ∀ o, (entry bor args).ob o ≠ .no → o < bor.length ∧ bor[o]? = some ((entry bor args).ob o) := by
        intro o ho
        cases hk : isKey (enumO 0 bor) o with
        | false => exact absurd (no_key _ _ hk) ho
        | true => obtain ⟨_, h2, h3⟩ := enum_key bor 0 o hk; exact ⟨by simpa using h2, by simpa [entry] using h3⟩
      refine { tm := ?_, ob := ?_, sep := ?_, imm := ?_, dom := ?_, us := ?_, bnd := pre.bnd, lim := fun b hb => .inl hb, bor := fun _ _ => rfl, df := rfl, sz := ?_, keep := ?_, few := pre.few }
      · intro t
        have := relL_get args vs.toList pre.args t
        simp only [entry, getV_get]
        rw [Array.getD_eq_getD_getElem?]
        rcases Nat.lt_or_ge t vs.size with ht | ht
        · rw [Array.getElem?_append_left ht]; simpa using this
        · have hva : vs.size = args.length := by simpa using hlen
          have e1 : args[t]? = none := List.getElem?_eq_none (by omega)
          rw [e1]
          simp only [Option.getD_none, Rel]
          rw [Array.getElem?_append_right ht, Array.getElem?_replicate]
          split <;> rfl
      · intro o ho
        obtain ⟨h1, h2⟩ := hmob o ho
        obtain ⟨_, l, h3, h4⟩ := pre.obj o _ h2
        exact ⟨l, h3, h4⟩
      · intro o o' b base base' mo mo' eo eo'
        exact pre.sep o o' b base base' (hmob o (AObj.ne_of_mut mo)).1 (hmob o' (AObj.ne_of_mut mo')).1 eo eo'
      · intro o b base mo eo
        exact pre.imm o b base (hmob o (AObj.ne_of_mut mo)).1 eo
      · intro o b base mo eo
        exact .inr ⟨o, base, (hmob o (AObj.ne_of_mut mo)).1, eo⟩
      · intro o ho
        have ho : isKey (enumO 0 bor) o = false := ho
        rcases Nat.lt_or_ge o bor.length with h1 | h1
        · have := (enum_get bor 0 o _ (List.getElem?_eq_getElem h1)).1
          rw [Nat.zero_add, ho] at this; cases this
        · exact pre.no o h1
      · simp; exact Nat.add_sub_cancel' hsz
      · exact ⟨Nat.le_refl _, fun _ _ _ => rfl, fun b cs e h => ⟨cs, h, rfl⟩, rfl, rfl, fun _ => rfl⟩
    refine vwp_sound hT hmo code hS h ?_
    have fin : ∀ s L1 I1 a w1, Sim c L1 I1 s a w1 → (retV ⟨std, T⟩ s fn.results.toList fun vs => Cov std bor.length (findM bor.length (one s (packV vs)) ⟨[(0, res)], enumO 0 out⟩) (one s (packV vs)) ⟨[(0, res)], enumO 0 out⟩) →
        a.defers = [] ∧ ∃ v, (results fn a.tmps).run P w1 = .ok v w1 ∧ ∃ v' L', Ending.returned v = .returned v' ∧ ConPost w L I bor res out w1 L' v' := by
      intro s L1 I1 a w1 h hk
      obtain ⟨rv, xs, h1, h2, h3⟩ := results_sound hT h fn.results.toList hk
      refine ⟨h.df, (if h : xs.toArray.size = 1 then xs.toArray[0] else .tuple xs.toArray), ?_, (if h : xs.toArray.size = 1 then xs.toArray[0] else .tuple xs.toArray), ?_⟩
      · rw [results_eq, Array.mapM_eq_mapM_toList]
        simp [h1]
      · have hpk := pack_rel (xs := xs.toArray) h2
        have h4 : Sim { c with N := 1 } L1 I1 (one s (packV rv)) ⟨#[(if h : xs.toArray.size = 1 then xs.toArray[0] else .tuple xs.toArray)], []⟩ w1 :=
          { h with tm := fun t => (by cases t with | zero => exact hpk | succ t => simp [one, Rel]), df := rfl, sz := rfl }
        obtain ⟨L2, I2, h5⟩ := cov_sound h4 h3
        have hkeys := Cov.keys h3
        have hst : ∀ o, (Tbl.st ⟨[(0, res)], enumO 0 out⟩).ob o = lkO (enumO 0 out) o := fun _ => rfl
        have hob : ∀ (j : Nat) (x : AObj), out[j]? = some x → (Tbl.st ⟨[(0, res)], enumO 0 out⟩).ob j = x ∧ x.mut = true := by
          intro j x hx
          have := (enum_get out 0 j x hx).2
          rw [Nat.zero_add] at this
          exact ⟨this, allMut_get out j x hmut hx⟩
        have hle : bor.length ≤ out.length := by
          rcases Nat.lt_or_ge out.length bor.length with hlt | hge
          · have := (enum_key out 0 _ (hkeys out.length hlt)).2.1
            omega
          · exact hge
        have hget : ∀ j, j < out.length → True ∧ ((Tbl.st ⟨[(0, res)], enumO 0 out⟩).ob j).mut = true := by
          intro j hj
          have e : out[j]? = some (out[j]) := List.getElem?_eq_getElem hj
          have := hob j _ e
          exact ⟨trivial, by rw [this.1]; exact this.2⟩
        have hfr : ∀ b, I2 b → I b ∨ freshOf w w1 L2 bor.length out.length b := by
          intro b hb
          rcases h5.lim b hb with g | g
          · exact .inl g
          · exact .inr ⟨g, h5.bnd b hb, fun j base h1 h2 e => h5.imm j b base (hget j h2).2 e hb⟩
        have hsame : ∀ j, j < bor.length → L2 j = L j := fun j hj => h5.bor j hj
        refine ⟨L2, rfl, { le := hle, res := ?_, no := ?_, same := hsame, obj := ?_, new := ?_, sep := ?_, keep := h5.keep }⟩
        · have := h5.tm 0
          exact Rel.mono (fun _ _ h => h) (Nat.le_refl _) _ _ _ _ (Evo.refl w1 I2) hfr (by simpa [Tbl.st, lkV] using this)
        · intro j hj
          refine h5.us j ?_
          cases hk : isKey (enumO 0 out) j with
          | false => exact hk
          | true => have := (enum_key out 0 j hk).2.1; omega
        · intro j x hx
          obtain ⟨h6, h7⟩ := hob j x hx
          obtain ⟨l, h8, h9⟩ := h5.ob j (by rw [h6]; exact AObj.ne_of_mut h7)
          rw [h6] at h9
          exact ⟨h7, l, h8, h9.less (Nat.le_refl _) hfr⟩
        · intro j b base h1 h2 e
          rcases h5.dom j b base (hget j h2).2 e with g | ⟨j', base', g1, g2⟩
          · exact g
          · have := h5.sep j j' b base base' (hget j h2).2 (hget j' (by omega)).2 e ((hsame j' g1).trans g2)
            omega
        · exact fun j k b base base' h1 h2 e1 e2 => h5.sep j k b base base' (hget j h1).2 (hget k h2).2 e1 e2
    rintro e s L1 I1 a w1 hk h
    cases e with
    | normal => exact fin s L1 I1 a w1 h hk
    | exit id => exact hk.elim
    | ret => exact fin s L1 I1 a w1 h hk

end Go.Desk
