/- V-logic, part 18: calls and regions are sound. -/
import Derived.Test.YtmfbddhgfckfaaaVq
namespace Go.Desk
open Go
set_option linter.all false
set_option linter.unusedVariables false

variable {c : Ctx} {L L' : LMap} {I J : Nat → Prop} {s : St} {a : Act} {w : World} {P : Program} {T : Nat → TI} {B : Nat} {m : List (Nat × Nat)}

theorem vcall_sound (h : Sim c L I s a w) {g : Nat} {args : List V} {vs : Array Value} (hv : RelL w L c.B args I vs.toList) {d : Option Nat} (hd : ∀ x, d = some x → x < c.N) {k : St → Prop}
    (hk : vcall ⟨std, T⟩ P g args d s k) : CallsX P g vs w fun e w' => ∃ v s' L' I', e = .returned v ∧ k s' ∧ Sim c L' I' s' (a.put d v) w' := by
  obtain ⟨bids, bor, cargs, res, out, fz, hcon, hc⟩ := hk
  unfold callOk at hc
  split at hc <;> first | (exact hc.elim) | skip
  rename_i args' ps fzs hr
  cases hb : (noDup bids && nble bids.length 16 && nble bids.length out.length && nbeq bids.length bor.length && aliasOk fz fzs res out && newOk s.us (news (renum bids.length bids (d.getD 0)) (d.getD 0) 0 (dropN bids.length out))) <;> rw [hb] at hc <;> simp only [cond] at hc
  simp only [Bool.and_eq_true] at hb
  obtain ⟨⟨⟨⟨⟨b1, b2⟩, b3⟩, b4⟩, b5⟩, b6⟩ := hb
  obtain ⟨hok, hle, hos, hc⟩ := (allP_iff _ _).1 hc
  have hn := noDup_nodup _ b1
  have h16 := le_of_nble b2
  have hlo := le_of_nble b3
  have hlen := eq_of_nbeq b4
  have hR0 : Ren L (callL bids L) I I (pairUp bids 0) := ⟨fun o o' e l hl => by
    have : bids[o']? = some o := by simpa using (pairUp_lk bids 0 o o' e).2
    simp only [callL, this]; exact hl, fun _ h => h⟩
  have hfi := ren_fzL h hv hr hok hR0
  have hnot : ∀ j o : Nat, bids[j]? = some o → ∀ p ∈ fzs, p.1 ≠ o := by
    intro j o hj p hp e
    obtain ⟨q1, _⟩ := hfi p hp
    obtain ⟨j', e'⟩ := pairUp_get bids 0 o j hj
    rw [e, e'] at q1; cases q1
  have hmut0 : ∀ j o : Nat, bids[j]? = some o → (s.ob o).mut = true := by
    intro j o hj
    have hjl : j < bor.length := by rw [← hlen]; exact (List.getElem?_eq_some_iff.1 hj).1
    obtain ⟨o', ho', hle⟩ := leOs_get bids bor hos j _ (List.getElem?_eq_getElem hjl)
    rw [hj] at ho'; cases ho'
    cases hso : s.ob o <;> rw [hso] at hle <;> first | rfl | skip
    · cases hx : bor[j] <;> rw [hx] at hle <;> simp [LeO] at hle
    · cases hx : bor[j] <;> rw [hx] at hle <;> simp [LeO] at hle
  cases fz with
  | true =>
    have hFz : FzOk s fzs := by
      intro p hp
      obtain ⟨q1, own, d', z, n, f, q2, q3, _⟩ := hfi p hp
      obtain ⟨d'', z', n', f', q4⟩ := allFz_get fzs b5 p hp
      cases own with
      | true => exact ⟨d', z, n, f, q2, q3⟩
      | false => rw [q4] at q3; cases q3
    obtain ⟨I1, hI1, h1⟩ := freezeAll h fzs hFz
    have hob : ∀ j o : Nat, bids[j]? = some o → ({ s with ob := upO fzs s.ob } : St).ob o = s.ob o := fun j o hj => upO_not fzs s.ob o (hnot j o hj)
    obtain ⟨_, hpre⟩ := call_pre h hv hr hok hn h16 hlen hle hos hI1 h1 hob
    refine CallsX.mono (hcon w (callL bids L) _ vs hpre) fun e w' => ?_
    rintro ⟨v, L1, rfl, hp⟩
    have hK : ∀ b, ((I1 b ∨ ∃ p ∈ fzs, ∃ base, L p.1 = some (.at_ b base)) ∨ freshOf w w' L1 bor.length out.length b) → I1 b ∨ freshOf w w' L1 bor.length out.length b := by
      rintro b ((hb | ⟨p, hp, base, hl⟩) | hb)
      · exact .inl hb
      · left
        have e := (frozen_upO hFz).1 p hp
        obtain ⟨d', z, n, f, q1, q2⟩ := hFz p hp
        obtain ⟨l, k1, k2⟩ := h1.ob p.1 (by rw [e, q2]; simp)
        rw [hl] at k1; cases k1
        rw [e, q2] at k2
        rcases k2.2 with ⟨_, e'⟩ | ⟨b', base', cc, e', r1, _, r2, _⟩
        · cases e'
        · cases r1; exact r2
      · exact .inr hb
    obtain ⟨L', I', hS⟩ := call_post (d0 := d.getD 0) h1 hpre.bnd hp hn hlen (fun j o hj => by rw [hob j o hj]; exact hmut0 j o hj) b6 hK hp.res hp.obj d hd (fzs := fzs) (ob0 := s.ob) rfl (fun j o hj => (hob j o hj).symm)
    exact ⟨v, _, L', I', rfl, hc, hS⟩
  | false =>
    obtain ⟨_, hpre⟩ := call_pre h hv hr hok hn h16 hlen hle hos (fun _ h => h) h (fun _ _ _ => rfl)
    refine CallsX.mono (hcon w (callL bids L) _ vs hpre) fun e w' => ?_
    rintro ⟨v, L1, rfl, hp⟩
    simp only [aliasOk, Bool.and_eq_true] at b5
    have hK : ∀ b, since w.heap.size (fun b => (I b ∨ ∃ p ∈ fzs, ∃ base, L p.1 = some (.at_ b base)) ∨ freshOf w w' L1 bor.length out.length b) b → I b ∨ freshOf w w' L1 bor.length out.length b := by
      rintro b ⟨hb | hb, hge⟩
      · have := hpre.bnd b hb; omega
      · exact .inr hb
    obtain ⟨L', I', hS⟩ := call_post (d0 := d.getD 0) h hpre.bnd hp hn hlen hmut0 b6 hK (sinceV_rel _ _ b5.1 hp.res)
      (fun j x hx => ⟨(hp.obj j x hx).1, (hp.obj j x hx).2.imp fun l h => ⟨h.1, sinceO_ok x (freshOs_get _ _ _ b5.2 hx) h.2⟩⟩) d hd (fzs := []) (ob0 := s.ob) rfl (fun _ _ _ => rfl)
    exact ⟨v, _, L', I', rfl, hc, hS⟩

/- one operation -/
theorem relL_append : ∀ {cs ds : List V} {xs ys : List Value}, RelL w L B cs I xs → RelL w L B ds I ys → RelL w L B (cs ++ ds) I (xs ++ ys)
  | [], ds, xs, ys, h, h' => by simp only [RelL] at h; subst h; exact h'
  | v :: r, ds, xs, ys, h, h' => by
    simp only [RelL] at h
    obtain ⟨x, xr, rfl, h1, h2⟩ := h
    simp only [List.cons_append, RelL]
    exact ⟨x, xr ++ ys, rfl, h1, relL_append h2 h'⟩

/-- what goes on behind an operation -/
def After (c : Ctx) (k : St → Prop) (a : Act) (w : World) : Prop := ∃ s L I, k s ∧ Sim c L I s a w

theorem newOk_nil (us : Nat → Bool) : newOk us [] = true := rfl

theorem call_exec {o : Oper} {f : Operand} {args : Array Operand} {tys : Array TypeId} (hop : o.op = .call ⟨.value f, args, tys⟩) {g : Nat} {cap : Array Value} (hf : a.eval f = .func (.func g) #[] cap) :
    (execOp a.eval o).run P w = (callFunc g (args.map a.eval ++ cap)).run P w := by
  simp [execOp, hop, resolve, hf, Deferred.ofValue, invoke]

theorem upon_of_calls {o : Oper} {next : Act → World → Prop} {Q : Exit → Act → World → Prop} {g : Nat} {vs : Array Value} {R : Ending → World → Prop} (h : CallsX P g vs w R)
    (hr : ∀ e w', R e w' → ∃ v, e = .returned v ∧ next (a.put o.dst v) w') : o.upon P a next Q ((callFunc g vs).run P w) := by
  rcases h with ⟨h1, h2⟩ | ⟨v, w', h1, h2⟩
  · rw [h1, Oper.upon_enter]
    refine h2.mono fun e w' hR => ?_
    obtain ⟨v, rfl, h3⟩ := hr e w' hR
    exact h3
  · rw [h1, Oper.upon_value]
    obtain ⟨v', e, h3⟩ := hr _ _ h2
    cases e; exact h3

theorem eff_wp (hT : TOk P T) (h : Sim c L I s a w) (o : Oper) (hd : ∀ x, o.dst = some x → x < c.N) {next : Act → World → Prop} {Q : Exit → Act → World → Prop}
    (hok : AllOk ((eff ⟨std, T⟩ (o.dst.getD 0) s.ev o.op).run s.ob).ok) (hnw : newOk s.us ((eff ⟨std, T⟩ (o.dst.getD 0) s.ev o.op).run s.ob).new = true)
    (hn : ∀ a w, After c (· = s.app o.dst ((eff ⟨std, T⟩ (o.dst.getD 0) s.ev o.op).run s.ob)) a w → next a w) : o.wp P a w next Q := by
  obtain ⟨r, x, w', L', I', h1, h2, h3⟩ := eff_sound hT h o hd (o.dst.getD 0) hok hnw
  unfold Oper.wp
  rw [h1]
  rcases h2 with h2 | ⟨h2, h2'⟩
  · subst h2; rw [Oper.upon_value]; exact hn _ _ ⟨_, L', I', rfl, h3⟩
  · subst h2; subst h2'; rw [Oper.upon_skip]; exact hn _ _ ⟨_, L', I', rfl, h3⟩

theorem vact_sound (hT : TOk P T) (h : Sim c L I s a w) (o : Oper) (hd : ∀ x, o.dst = some x → x < c.N) {k : St → Prop} {next : Act → World → Prop} {Q : Exit → Act → World → Prop}
    (hk : vact ⟨std, T⟩ P o s k) (hn : ∀ a w, After c k a w → next a w) : o.wp P a w next Q := by
  have plain : ∀ e, e = (eff ⟨std, T⟩ (o.dst.getD 0) s.ev o.op).run s.ob → allP e.ok (bif newOk s.us e.new then k (s.app o.dst e) else False) → o.wp P a w next Q := by
    intro e he hk
    obtain ⟨hok, hk⟩ := (allP_iff _ _).1 hk
    cases hnw : newOk s.us e.new <;> rw [hnw] at hk <;> simp only [cond] at hk
    subst he
    refine eff_wp hT h o hd hok hnw ?_
    rintro a w ⟨s', L', I', e, h'⟩
    subst e
    exact hn a w ⟨_, L', I', hk, h'⟩
  unfold vact at hk
  split at hk
  · rename_i cnd x y hop
    have hc := h.ev cnd
    split at hk
    · rename_i t ht
      rw [ht] at hc
      simp only [Rel] at hc
      have : (execOp a.eval o).run P w = .ok (.value (if t then a.eval x else a.eval y)) w := by
        simp [execOp, hop, hc, asBool]
      unfold Oper.wp
      rw [this, Oper.upon_value]
      cases t with
      | true => exact hn _ _ ⟨_, L, I, hk.1 rfl, h.putV o.dst hd (h.ev x)⟩
      | false => exact hn _ _ ⟨_, L, I, hk.2 rfl, h.putV o.dst hd (h.ev y)⟩
    · exact hk.elim
  · rename_i f args tys hop
    have hf := h.ev f
    split at hk
    · rename_i g cap hg
      rw [hg] at hf
      simp only [Rel] at hf
      obtain ⟨vs, hf1, hf2⟩ := hf
      unfold Oper.wp
      rw [call_exec hop hf1]
      refine upon_of_calls (vcall_sound h ?_ hd hk) ?_
      · have := evs_ok h args.toList
        rw [Array.toList_append, Array.toList_map]
        exact relL_append this hf2
      · rintro e w' ⟨v, s', L', I', rfl, h1, h2⟩
        exact ⟨v, rfl, hn _ _ ⟨s', L', I', h1, h2⟩⟩
    · exact hk.elim
  · exact plain _ rfl hk

theorem dstOk_lt {N : Nat} {d : Option Nat} (h : dstOk N d = true) : ∀ x, d = some x → x < N := by
  intro x hx; subst hx
  simpa [dstOk, nblt_eq] using h

theorem Sim.put_bool (h : Sim c L I s a w) {g : Nat} {b b' : Bool} (hg : s.tm g = .bool b) (e : b = b') : Sim c L I (s.put g (.bool b')) a w := by
  subst e
  refine { h with tm := fun t => ?_ }
  simp only [St.put]
  by_cases e : t = g
  · subst e; simp only [beq_t, cond]; rw [← hg]; exact h.tm t
  · rw [beq_f e]; exact h.tm t

def OpsDone (c : Ctx) (k : St → Prop) (Q : Exit → Act → World → Prop) : Prop := ∀ a w, After c k a w → Q .normal a w

theorem vop_sound (hT : TOk P T) (h : Sim c L I s a w) (ops : Array Oper) (i : Nat) (o : Oper) (hi : ops[i]? = some o) (rest : List Nat) {k : St → Prop} {Q : Exit → Act → World → Prop}
    (hk : vop ⟨std, T⟩ P c.N ops.toList o s k) (hn : ∀ a w, After c k a w → wpOps P ops Q rest a w) : wpOps P ops Q (i :: rest) a w := by
  unfold vop at hk
  cases hd : dstOk c.N o.dst <;> rw [hd] at hk <;> simp only [cond] at hk
  have hd := dstOk_lt hd
  simp only [wpOps, hi]
  cases hgd : o.guard with
  | none =>
    rw [hgd] at hk
    simp only at hk
    have hw : Region.wanted o (yielded ops a.tmps) = true := by simp [Region.wanted, hgd]
    rw [if_pos hw]
    exact .inl (vact_sound hT h o hd hk hn)
  | some gw =>
    obtain ⟨j, want⟩ := gw
    rw [hgd] at hk
    simp only [Array.getElem?_toList] at hk
    cases hj : (ops[j]?).bind (·.dst) with
    | none => rw [hj] at hk; exact hk.elim
    | some g =>
      rw [hj] at hk
      simp only at hk
      have ht := h.tm g
      have hyb : ∀ b, a.tmps.getD g undef = .bool b → yielded ops a.tmps j = some b := by
        intro b hb
        unfold yielded
        rw [hj]
        simp only [Option.bind_some]
        rw [Array.getD_eq_getD_getElem?] at hb
        cases he : a.tmps[g]? with
        | none => rw [he] at hb; simp [undef] at hb
        | some x => rw [he] at hb; simp at hb; subst hb; rfl
      have hyu : a.tmps.getD g undef = undef → yielded ops a.tmps j = none := by
        intro hb
        unfold yielded
        rw [hj]
        simp only [Option.bind_some]
        rw [Array.getD_eq_getD_getElem?] at hb
        cases he : a.tmps[g]? with
        | none => rfl
        | some x => rw [he] at hb; simp at hb; subst hb; rfl
      have hwd : ∀ y, yielded ops a.tmps j = y → Region.wanted o (yielded ops a.tmps) = (y == some want) := by
        intro y hy; simp [Region.wanted, hgd, hy]
      cases hs : s.tm g <;> rw [hs] at hk ht <;> simp only at hk <;> first | (exact hk.elim) | skip
      · simp only [Rel] at ht
        have hw := hwd _ (hyu ht)
        rw [if_neg (by rw [hw]; simp)]
        exact hn _ _ ⟨_, L, I, hk, h.putV o.dst hd (by simp [Rel])⟩
      · rename_i b
        simp only [Rel] at ht
        have hw := hwd _ (hyb b ht)
        by_cases e : b = want
        · rw [if_pos (by rw [hw, e]; simp)]
          exact .inl (vact_sound hT (h.put_bool hs e) o hd (hk.1 e) hn)
        · rw [if_neg (by rw [hw]; simpa using e)]
          have e' : b = !want := by cases b <;> cases want <;> first | rfl | exact absurd rfl e
          exact hn _ _ ⟨_, L, I, hk.2 e', (h.put_bool hs e').putV o.dst hd (by simp [Rel])⟩

theorem vops_sound (hT : TOk P T) (ops : Array Oper) {k : St → Prop} {Q : Exit → Act → World → Prop} (hn : ∀ a w, After c k a w → Q .normal a w) :
    ∀ (l : List Oper) (i : Nat), (∀ j, l[j]? = ops[i + j]?) → ∀ {s : St} {L : LMap} {I : Nat → Prop} {a : Act} {w : World}, Sim c L I s a w → vops ⟨std, T⟩ P c.N ops.toList l s k → wpOps P ops Q (List.range' i l.length) a w
  | [], i, hl, s, L, I, a, w, h, hk => by
    simp only [vops] at hk
    simp only [List.length_nil, List.range'_zero, wpOps]
    exact hn _ _ ⟨s, L, I, hk, h⟩
  | o :: r, i, hl, s, L, I, a, w, h, hk => by
    simp only [vops] at hk
    simp only [List.length_cons, List.range'_succ]
    refine vop_sound hT h ops i o (by have := hl 0; simpa using this.symm) _ hk ?_
    rintro a w ⟨s', L', I', hk', h'⟩
    exact vops_sound hT ops hn r (i + 1) (fun j => by have := hl (j + 1); rw [List.getElem?_cons_succ] at this; rw [this]; congr 1; omega) h' hk'

end Go.Desk
