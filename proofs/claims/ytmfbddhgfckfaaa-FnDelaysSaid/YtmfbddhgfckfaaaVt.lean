/- V-logic, part 19: regions whose order is drawn. -/
import Derived.Test.YtmfbddhgfckfaaaVr
import Derived.Orders
namespace Go.Desk
open Go
set_option linter.all false
set_option linter.unusedVariables false

variable {c : Ctx} {L L' : LMap} {I J : Nat → Prop} {s : St} {a : Act} {w : World} {P : Program} {T : Nat → TI} {B : Nat} {m : List (Nat × Nat)}

/- the same is read, the same is done -/
theorem Rd.congr {α : Type} {ob ob' : Nat → AObj} : ∀ (x : Rd α), (∀ o ∈ x.reads ob, ob' o = ob o) → x.run ob' = x.run ob
  | .pure a, _ => rfl
  | .get o k, h => by
    simp only [Rd.reads] at h
    simp only [Rd.run]
    have e : ob' o = ob o := h o List.mem_cons_self
    rw [e]
    exact Rd.congr (k (ob o)) fun o' ho' => h o' (List.mem_cons_of_mem _ ho')

theorem ev_congr {s s' : St} : ∀ (l : List Operand), (∀ t ∈ tmpsOf l, s'.tm t = s.tm t) → ∀ x ∈ l, s'.ev x = s.ev x
  | [], _, x, h => by cases h
  | y :: r, h, x, hx => by
    rcases List.mem_cons.1 hx with e | e
    · subst e
      cases x with
      | tmp t => exact h t (by simp [tmpsOf])
      | const v => rfl
      | global g => rfl
      | func f => rfl
    · refine ev_congr r (fun t ht => h t ?_) x e
      cases y <;> simp only [tmpsOf] <;> first | exact List.mem_cons_of_mem _ ht | exact ht

theorem eff_congr {E : Env} {d : Nat} {ev ev' : Operand → V} (op : Op) (h : ∀ x ∈ op.operands.toList, ev' x = ev x) (hc : ∀ f args tys, op ≠ .call ⟨.value f, args, tys⟩) : eff E d ev' op = eff E d ev op := by
  cases op <;> simp only [eff] <;> simp only [Op.operands] at h
  case build t parts =>
    have : (parts.toList.map fun p => (p.1, ev' p.2)) = parts.toList.map fun p => (p.1, ev p.2) :=
      List.map_congr_left fun p hp => by rw [h p.2 (by simp; exact ⟨p.1, by simpa using hp⟩)]
    rw [this]
  case buildSlice t len parts =>
    have : (parts.toList.map fun p => (p.1, ev' p.2)) = parts.toList.map fun p => (p.1, ev p.2) :=
      List.map_congr_left fun p hp => by rw [h p.2 (by simp; exact ⟨p.1, by simpa using hp⟩)]
    rw [this]
  case makeFunc fn first captured =>
    cases fn <;> simp only []
    have : captured.toList.map ev' = captured.toList.map ev := List.map_congr_left fun p hp => h p (by simp; exact .inr (by simpa using hp))
    rw [this]
  case call cl =>
    obtain ⟨callee, args, tys⟩ := cl
    cases callee <;> simp only []
    have : args.toList.map ev' = args.toList.map ev := List.map_congr_left fun p hp => h p (by simpa [Call.operands] using hp)
    rw [this]
  case slice t x lo hi mx =>
    cases mx <;> simp only []
    have h1 : ev' x = ev x := h x (by simp)
    have h2 : lo.map ev' = lo.map ev := by cases lo with | none => rfl | some y => simp only [Option.map]; rw [h y (by simp)]
    have h3 : hi.map ev' = hi.map ev := by cases hi with | none => rfl | some y => simp only [Option.map]; rw [h y (by simp)]
    rw [h1, h2, h3]
  all_goals (try (simp only [Array.toList_append, List.mem_append, List.mem_cons, List.not_mem_nil, or_false, forall_eq_or_imp, forall_eq] at h))
  all_goals (first | rfl | (simp only [h]; done) | skip)

def RecOk (P : Program) (c : Ctx) (ops : Array Oper) (i : Nat) (s : St) (r : Rec) : Prop :=
  ∀ (s' : St) (L : LMap) (I : Nat → Prop) (a : Act) (w : World), Sim c L I s' a w → (∀ t ∈ r.rt, s'.tm t = s.tm t) → (∀ o ∈ r.ro, s'.ob o = s.ob o) → newOk s'.us r.new = true →
    ∀ (K : Act → World → Prop) (Q : Exit → Act → World → Prop), (∀ a w, After c (· = r.app s') a w → K a w) → wpOp P ops Q i K a w

theorem guard_run (h : Sim c L I s a w) {ops : Array Oper} {o : Oper} {rt : List Nat} (hg : guardV ops.toList o s = .run rt) : Region.wanted o (yielded ops a.tmps) = true := by
  unfold guardV at hg
  cases hgd : o.guard with
  | none => simp [Region.wanted, hgd]
  | some gw =>
    obtain ⟨j, want⟩ := gw
    rw [hgd] at hg
    simp only [Array.getElem?_toList] at hg
    cases hj : (ops[j]?).bind (·.dst) with
    | none => rw [hj] at hg; cases hg
    | some g =>
      rw [hj] at hg
      simp only at hg
      have ht := h.tm g
      have key : ∀ b, s.tm g = .bool b → b = want → Region.wanted o (yielded ops a.tmps) = true := by
        intro b hb e
        rw [hb] at ht
        simp only [Rel] at ht
        have : yielded ops a.tmps j = some b := by
          unfold yielded
          rw [hj]
          simp only [Option.bind_some]
          rw [Array.getD_eq_getD_getElem?] at ht
          cases he : a.tmps[g]? with
          | none => rw [he] at ht; simp [undef] at ht
          | some x => rw [he] at ht; simp at ht; subst ht; rfl
        simp [Region.wanted, hgd, this, e]
      split at hg
      · cases hg
      · rename_i hb
        cases want
        · cases hg
        · exact key true hb rfl
      · rename_i hb
        cases want
        · exact key false hb rfl
        · cases hg
      · cases hg
theorem guard_skip (h : Sim c L I s a w) {ops : Array Oper} {o : Oper} {rt : List Nat} (hg : guardV ops.toList o s = .skip rt) : Region.wanted o (yielded ops a.tmps) = false := by
  unfold guardV at hg
  cases hgd : o.guard with
  | none => rw [hgd] at hg; cases hg
  | some gw =>
    obtain ⟨j, want⟩ := gw
    rw [hgd] at hg
    simp only [Array.getElem?_toList] at hg
    cases hj : (ops[j]?).bind (·.dst) with
    | none => rw [hj] at hg; cases hg
    | some g =>
      rw [hj] at hg
      simp only at hg
      have ht := h.tm g
      have key : ∀ b, s.tm g = .bool b → b ≠ want → Region.wanted o (yielded ops a.tmps) = false := by
        intro b hb e
        rw [hb] at ht
        simp only [Rel] at ht
        have : yielded ops a.tmps j = some b := by
          unfold yielded
          rw [hj]
          simp only [Option.bind_some]
          rw [Array.getD_eq_getD_getElem?] at ht
          cases he : a.tmps[g]? with
          | none => rw [he] at ht; simp [undef] at ht
          | some x => rw [he] at ht; simp at ht; subst ht; rfl
        simp [Region.wanted, hgd, this, e]
      split at hg
      · rename_i hb
        rw [hb] at ht
        simp only [Rel] at ht
        have : yielded ops a.tmps j = none := by
          unfold yielded
          rw [hj]
          simp only [Option.bind_some]
          rw [Array.getD_eq_getD_getElem?] at ht
          cases he : a.tmps[g]? with
          | none => rfl
          | some x => rw [he] at ht; simp at ht; subst ht; rfl
        simp [Region.wanted, hgd, this]
      · rename_i hb
        cases want
        · exact key true hb (by simp)
        · cases hg
      · rename_i hb
        cases want
        · cases hg
        · exact key false hb (by simp)
      · cases hg
theorem guard_congr {ops : List Oper} {o : Oper} {s s' : St} {rt : List Nat} : (guardV ops o s = .run rt → (∀ t ∈ rt, s'.tm t = s.tm t) → guardV ops o s' = .run rt) ∧ (guardV ops o s = .skip rt → (∀ t ∈ rt, s'.tm t = s.tm t) → guardV ops o s' = .skip rt) := by
  unfold guardV
  cases o.guard with
  | none => exact ⟨fun h _ => h, fun h _ => h⟩
  | some gw =>
    obtain ⟨j, want⟩ := gw
    simp only
    cases (ops[j]?).bind (·.dst) with
    | none => exact ⟨fun h _ => h, fun h _ => h⟩
    | some g =>
      simp only
      constructor
      · intro h hag
        have hg : rt = [g] := by
          revert h
          cases hs : s.tm g <;> first | (intro h; cases h; done) | skip
          rename_i b
          cases b <;> cases want <;> intro h <;> cases h <;> rfl
        rw [hag g (by rw [hg]; simp)]; exact h
      · intro h hag
        have hg : rt = [g] := by
          revert h
          cases hs : s.tm g <;> first | (intro h; cases h; done) | (intro h; cases h; rfl) | skip
          rename_i b
          cases b <;> cases want <;> intro h <;> cases h <;> rfl
        rw [hag g (by rw [hg]; simp)]; exact h

theorem wpOp_of_run {ops : Array Oper} {i : Nat} {o : Oper} (hi : ops[i]? = some o) (hw : Region.wanted o (yielded ops a.tmps) = true) {K : Act → World → Prop} {Q : Exit → Act → World → Prop}
    (h : o.wp P a w K Q) : wpOp P ops Q i K a w := by
  unfold wpOp
  rw [hi]
  simp only
  rw [if_pos hw]
  exact .inl h

/- calls -/
theorem leO_congr {O : Ops} {cl : Bool} {ob ob' : Nat → AObj} {x y : AObj} (h : ∀ cs, x = .box cs → ∀ o ∈ (convL O m cl cs).reads ob, ob' o = ob o) (hl : LeO O cl m ob x y) : LeO O cl m ob' x y := by
  cases x <;> cases y <;> simp only [LeO] at hl ⊢ <;> first | exact hl | skip
  rename_i cs ds
  rw [Rd.congr _ (h cs rfl)]; exact hl
theorem leOs_congr {O : Ops} {ob ob' : Nat → AObj} : ∀ (bids : List Nat) (bor : List AObj), (∀ b ∈ bids, ob' b = ob b) → (∀ o ∈ boxReads O m ob bids, ob' o = ob o) → LeOs O m ob bids bor → LeOs O m ob' bids bor
  | [], [], _, _, h => h
  | [], _ :: _, _, _, h => by simp [LeOs] at h
  | _ :: _, [], _, _, h => by simp [LeOs] at h
  | b :: bs, x :: xs, h1, h2, h => by
    simp only [LeOs] at h ⊢
    rw [h1 b List.mem_cons_self]
    have h3 : ∀ o ∈ boxReads O m ob bs, ob' o = ob o := by
      intro o ho
      refine h2 o ?_
      simp only [boxReads]
      split <;> first | exact List.mem_append_right _ ho | exact ho
    refine ⟨leO_congr (fun cs hcs o ho => h2 o ?_) h.1, leOs_congr bs xs (fun b hb => h1 b (List.mem_cons_of_mem _ hb)) h3 h.2⟩
    simp only [boxReads, hcs]
    exact List.mem_append_left _ ho
theorem backs_congr {g : Nat → Nat} {ob ob' : Nat → AObj} : ∀ (bids : List Nat) (out : List AObj), (∀ b ∈ bids, ob' b = ob b) → backs g ob' bids out = backs g ob bids out
  | [], out, _ => by simp [backs]
  | _ :: _, [], _ => by simp [backs]
  | b :: bs, x :: xs, h => by
    simp only [backs]
    rw [h b List.mem_cons_self, backs_congr bs xs fun b hb => h b (List.mem_cons_of_mem _ hb)]

theorem vrec1_sound (hT : TOk P T) {ops : Array Oper} {i : Nat} {o : Oper} (hi : ops[i]? = some o) (hd : ∀ x, o.dst = some x → x < c.N) {rt : List Nat} (hg : guardV ops.toList o s = .run rt) {k : Rec → Prop}
    (hk : vrec1 ⟨std, T⟩ P o s rt k) : ∃ r, k r ∧ r.o = o ∧ (newOk s.us r.new = true) ∧ RecOk P c ops i s r := by
  have hw : ∀ {s' : St} {L : LMap} {I : Nat → Prop} {a : Act} {w : World}, Sim c L I s' a w → (∀ t ∈ rt, s'.tm t = s.tm t) → Region.wanted o (yielded ops a.tmps) = true :=
    fun h hag => guard_run h (guard_congr.1 hg hag)
  have plain : (∀ f args tys, o.op ≠ .call ⟨.value f, args, tys⟩) → ∀ x e, x = eff ⟨std, T⟩ (o.dst.getD 0) s.ev o.op → e = x.run s.ob → allP e.ok (bif newOk s.us e.new then k ⟨o, rt ++ tmpsOf o.op.operands.toList, x.reads s.ob, e.val, e.upd, e.new⟩ else False) →
      ∃ r, k r ∧ r.o = o ∧ (newOk s.us r.new = true) ∧ RecOk P c ops i s r := by
    intro hnc x e hx he hk
    obtain ⟨hok, hk⟩ := (allP_iff _ _).1 hk
    cases hnw : newOk s.us e.new <;> rw [hnw] at hk <;> simp only [cond] at hk
    refine ⟨_, hk, rfl, hnw, ?_⟩
    intro s' L I a w h h1 h2 h3 K Q hK
    simp only at h1 h2 h3
    refine wpOp_of_run hi (hw h fun t ht => h1 t (List.mem_append_left _ ht)) ?_
    have e1 : eff ⟨std, T⟩ (o.dst.getD 0) s'.ev o.op = x := by
      rw [hx]
      exact eff_congr o.op (ev_congr _ fun t ht => h1 t (List.mem_append_right _ ht)) hnc
    have e2 : (eff ⟨std, T⟩ (o.dst.getD 0) s'.ev o.op).run s'.ob = e := by
      rw [e1, he]; exact Rd.congr x h2
    refine eff_wp hT h o hd (by rw [e2]; exact hok) (by rw [e2]; exact h3) ?_
    rw [e2]
    exact hK
  unfold vrec1 at hk
  split at hk
  · rename_i cnd x y hop
    split at hk <;> first | (exact hk.elim) | skip
    rename_i t ht
    have key : ∀ (b : Bool) (z : Operand), t = b → z = (if b then x else y) → k ⟨o, rt ++ tmpsOf [cnd, x, y], [], s.ev z, [], []⟩ → ∃ r, k r ∧ r.o = o ∧ (newOk s.us r.new = true) ∧ RecOk P c ops i s r := by
      intro b z hb hz hk
      refine ⟨_, hk, rfl, rfl, ?_⟩
      intro s' L I a w h h1 h2 h3 K Q hK
      simp only at h1 h2 h3
      refine wpOp_of_run hi (hw h fun t ht => h1 t (List.mem_append_left _ ht)) ?_
      have hev := ev_congr (s := s) (s' := s') [cnd, x, y] fun t ht => h1 t (List.mem_append_right _ ht)
      have hc := h.ev cnd
      rw [hev cnd (by simp), ht] at hc
      simp only [Rel] at hc
      have : (execOp a.eval o).run P w = .ok (.value (if t then a.eval x else a.eval y)) w := by
        simp [execOp, hop, hc, asBool]
      unfold Oper.wp
      rw [this, Oper.upon_value]
      have hz' : (if t then a.eval x else a.eval y) = a.eval z := by rw [hz, hb]; cases b <;> rfl
      rw [hz']
      refine hK _ _ ⟨_, L, I, rfl, ?_⟩
      refine h.putV o.dst hd ?_
      have : s'.ev z = s.ev z := hev z (by rw [hz]; cases b <;> simp)
      rw [← this]; exact h.ev z
    cases t with
    | true => exact key true x rfl rfl (hk.1 rfl)
    | false => exact key false y rfl rfl (hk.2 rfl)
  · rename_i f args tys hop
    split at hk <;> first | (exact hk.elim) | skip
    rename_i g cap hf
    obtain ⟨bids, bor, cargs, res, out, fz, hcon, hc⟩ := hk
    have hc0 := hc
    unfold callOk at hc
    split at hc <;> first | (exact hc.elim) | skip
    rename_i args' ps fzs hr
    cases hb : (noDup bids && nble bids.length 16 && nble bids.length out.length && nbeq bids.length bor.length && aliasOk fz fzs res out && newOk s.us (news (renum bids.length bids (o.dst.getD 0)) (o.dst.getD 0) 0 (dropN bids.length out))) <;> rw [hb] at hc <;> simp only [cond] at hc
    obtain ⟨hok, hle, hos, hc⟩ := (allP_iff _ _).1 hc
    have hnw := (Bool.and_eq_true_iff.1 hb).2
    have hb5 := (Bool.and_eq_true_iff.1 hb).1
    refine ⟨_, hc, rfl, hnw, ?_⟩
    intro s' L I a w h h1 h2 h3 K Q hK
    simp only at h1 h2 h3
    refine wpOp_of_run hi (hw h fun t ht => h1 t (List.mem_append_left _ ht)) ?_
    have hev := ev_congr (s := s) (s' := s') (f :: args.toList) fun t ht => h1 t (List.mem_append_right _ ht)
    have hargs : args.toList.map s'.ev = args.toList.map s.ev := List.map_congr_left fun p hp => hev p (List.mem_cons_of_mem _ hp)
    refine vact_sound (k := (· = Rec.app ⟨o, rt ++ tmpsOf (f :: args.toList), bids ++ ((convL std (pairUp bids 0) true (args.toList.map s.ev ++ cap)).reads s.ob ++ boxReads std (pairUp bids 0) s.ob bids), res.ren (renum bids.length bids (o.dst.getD 0)), backs (renum bids.length bids (o.dst.getD 0)) s.ob bids out ++ fzsOf fz fzs, news (renum bids.length bids (o.dst.getD 0)) (o.dst.getD 0) 0 (dropN bids.length out)⟩ s')) hT h o hd ?_ hK
    unfold vact
    rw [hop]
    simp only
    rw [hev f List.mem_cons_self, hf]
    simp only
    refine ⟨bids, bor, cargs, res, out, fz, hcon, ?_⟩
    unfold callOk
    rw [hargs, Rd.congr _ fun o' ho' => h2 o' (List.mem_append_right _ (List.mem_append_left _ ho')), hr]
    simp only
    have hb' : (noDup bids && nble bids.length 16 && nble bids.length out.length && nbeq bids.length bor.length && aliasOk fz fzs res out && newOk s'.us (news (renum bids.length bids (o.dst.getD 0)) (o.dst.getD 0) 0 (dropN bids.length out))) = true := by
      rw [hb5, h3]; rfl
    rw [hb']
    simp only [cond]
    refine (allP_iff _ _).2 ⟨hok, hle, leOs_congr bids bor (fun b hb => h2 b (List.mem_append_left _ hb)) (fun o' ho' => h2 o' (List.mem_append_right _ (List.mem_append_right _ ho'))) hos, ?_⟩
    rw [backs_congr bids out fun b hb => h2 b (List.mem_append_left _ hb)]
    rfl
  · rename_i op h1 h2
    exact plain (fun f args tys => h2 f args tys) _ _ rfl rfl hk

def Chain (P : Program) (c : Ctx) (ops : Array Oper) : Nat → St → List Rec → St → Prop
  | i, s, [], s' => s = s'
  | i, s, r :: rs, s' => RecOk P c ops i s r ∧ newOk s.us r.new = true ∧ Chain P c ops (i + 1) (r.app s) rs s'

theorem recOk_eq {ops : Array Oper} {i : Nat} {r : Rec} {v : V} (h : RecOk P c ops i s r) (e : r.val = v) : RecOk P c ops i s { r with val := v } := by
  subst e; exact h

theorem vrec_sound (hT : TOk P T) {ops : Array Oper} {K : List Rec → St → Prop} : ∀ (rest : List Oper) (i : Nat) (s : St) (acc : List Rec), (∀ j, rest[j]? = ops[i + j]?) → vrec ⟨std, T⟩ P c.N ops.toList i rest s acc K →
    ∃ rs s', rs.map (·.o) = rest ∧ Chain P c ops i s rs s' ∧ K (acc ++ rs) s'
  | [], i, s, acc, hl, hk => by
    simp only [vrec] at hk
    exact ⟨[], s, rfl, rfl, by simpa only [List.append_nil] using hk⟩
  | o :: rest, i, s, acc, hl, hk => by
    simp only [vrec] at hk
    cases hd : dstOk c.N o.dst <;> rw [hd] at hk <;> simp only [cond] at hk
    have hd := dstOk_lt hd
    have hi : ops[i]? = some o := by have := hl 0; simpa using this.symm
    have hl' : ∀ j, rest[j]? = ops[i + 1 + j]? := fun j => by have := hl (j + 1); rw [List.getElem?_cons_succ] at this; rw [this]; congr 1; omega
    have go : ∀ r : Rec, r.o = o → newOk s.us r.new = true → RecOk P c ops i s r → vrec ⟨std, T⟩ P c.N ops.toList (i + 1) rest (r.app s) (acc ++ [r]) K →
        ∃ rs s', rs.map (·.o) = o :: rest ∧ Chain P c ops i s rs s' ∧ K (acc ++ rs) s' := by
      intro r ho hn hr hk
      obtain ⟨rs, s', h1, h2, h3⟩ := vrec_sound hT rest (i + 1) (r.app s) (acc ++ [r]) hl' hk
      exact ⟨r :: rs, s', by simp [h1, ho], ⟨hr, hn, h2⟩, by simpa using h3⟩
    split at hk
    · exact hk.elim
    · rename_i rt hg
      refine go _ rfl rfl ?_ hk
      intro s' L I a w h h1 h2 h3 K Q hK
      simp only at h1
      unfold wpOp
      rw [hi]
      simp only
      rw [if_neg (by rw [guard_skip h (guard_congr.2 hg h1)]; simp)]
      exact hK _ _ ⟨_, L, I, rfl, h.putV o.dst hd (by simp [Rel])⟩
    · rename_i rt hg
      obtain ⟨r, h1, h2, h3, h4⟩ := vrec1_sound (c := c) hT hi hd hg hk
      split at h1
      · rename_i b _ hv
        cases b with
        | true => exact go { r with val := .bool true } h2 h3 (recOk_eq h4 hv) (h1.1 rfl)
        | false => exact go { r with val := .bool false } h2 h3 (recOk_eq h4 hv) (h1.2 rfl)
      · exact go r h2 h3 h4 h1

/- what is done so far, in any order, is what is done in the written order -/
def appD (D : Nat → Bool) : Nat → St → List Rec → St
  | _, s, [] => s
  | i, s, r :: rs => appD D (i + 1) (bif D i then r.app s else s) rs

theorem app_tm (r : Rec) (s : St) (t : Nat) : (r.app s).tm t = if t ∈ r.wt then r.val else s.tm t := by
  unfold Rec.app St.app Rec.wt
  cases r.o.dst with
  | none => simp [St.putO]
  | some d =>
    simp only [St.putO, St.put, List.mem_singleton]
    by_cases e : t = d
    · subst e; simp
    · rw [beq_f e, if_neg e]; rfl
theorem app_ob (r : Rec) (s : St) (o : Nat) : (r.app s).ob o = upO r.new (upO r.upd s.ob) o := by
  unfold Rec.app St.app
  cases r.o.dst <;> rfl
theorem app_us (r : Rec) (s : St) (o : Nat) : (r.app s).us o = upU r.new s.us o := by
  unfold Rec.app St.app
  cases r.o.dst <;> rfl
theorem upO_key : ∀ (l : List (Nat × AObj)) (ob ob' : Nat → AObj) (o : Nat), o ∈ keysO l → upO l ob o = upO l ob' o
  | [], ob, ob', o, h => by cases h
  | (i, x) :: r, ob, ob', o, h => by
    rw [upO_cons, upO_cons]
    by_cases e : o = i
    · rw [if_pos e, if_pos e]
    · rw [if_neg e, if_neg e]
      simp only [keysO] at h
      rcases List.mem_cons.1 h with g | g
      · exact absurd g e
      · exact upO_key r ob ob' o g
theorem upO_nokey : ∀ (l : List (Nat × AObj)) (ob : Nat → AObj) (o : Nat), o ∉ keysO l → upO l ob o = ob o
  | [], ob, o, h => rfl
  | (i, x) :: r, ob, o, h => by
    simp only [keysO, List.mem_cons, not_or] at h
    rw [upO_cons, if_neg h.1]
    exact upO_nokey r ob o h.2
theorem upU_key : ∀ (l : List (Nat × AObj)) (us : Nat → Bool) (o : Nat), upU l us o = true ↔ us o = true ∨ o ∈ keysO l
  | [], us, o => by simp [upU, keysO]
  | (i, x) :: r, us, o => by
    simp only [upU, keysO, List.mem_cons]
    by_cases e : o = i
    · subst e; simp
    · rw [beq_f e]
      simp only [cond, upU_key r us o]
      constructor
      · rintro (h | h)
        · exact .inl h
        · exact .inr (.inr h)
      · rintro (h | h | h)
        · exact .inl h
        · exact absurd h e
        · exact .inr h
/-- an object behind a record: written there, or as it was -/
theorem app_obw (r : Rec) (s : St) (o : Nat) : (o ∈ r.wo → ∀ s' : St, (r.app s).ob o = (r.app s').ob o) ∧ (o ∉ r.wo → (r.app s).ob o = s.ob o) := by
  simp only [app_ob, Rec.wo, List.mem_append, not_or]
  refine ⟨fun h s' => ?_, fun h => ?_⟩
  · by_cases hn : o ∈ keysO r.new
    · exact upO_key _ _ _ _ hn
    · rw [upO_nokey _ _ _ hn, upO_nokey _ _ _ hn]
      exact upO_key _ _ _ _ (h.resolve_right hn)
  · rw [upO_nokey _ _ _ h.2, upO_nokey _ _ _ h.1]

theorem appD_tm (t : Nat) (D D' : Nat → Bool) : ∀ (rs : List Rec) (i : Nat) (s s' : St), (∀ (j : Nat) (r : Rec), rs[j]? = some r → t ∈ r.wt → D (i + j) = D' (i + j)) → s.tm t = s'.tm t → (appD D i s rs).tm t = (appD D' i s' rs).tm t
  | [], i, s, s', _, h => h
  | r :: rs, i, s, s', hD, h => by
    simp only [appD]
    refine appD_tm t D D' rs (i + 1) _ _ (fun j q hj hq => by have := hD (j + 1) q (by simpa using hj) hq; rw [show i + 1 + j = i + (j + 1) from by omega]; exact this) ?_
    by_cases ht : t ∈ r.wt
    · have e : D i = D' i := hD 0 r (by simp) ht
      rw [e]
      cases D' i
      · exact h
      · simp only [cond, app_tm, if_pos ht]
    · cases D i <;> cases D' i <;> simp only [cond, app_tm, if_neg ht] <;> exact h
theorem appD_ob (o : Nat) (D D' : Nat → Bool) : ∀ (rs : List Rec) (i : Nat) (s s' : St), (∀ (j : Nat) (r : Rec), rs[j]? = some r → o ∈ r.wo → D (i + j) = D' (i + j)) → s.ob o = s'.ob o → (appD D i s rs).ob o = (appD D' i s' rs).ob o
  | [], i, s, s', _, h => h
  | r :: rs, i, s, s', hD, h => by
    simp only [appD]
    refine appD_ob o D D' rs (i + 1) _ _ (fun j q hj hq => by have := hD (j + 1) q (by simpa using hj) hq; rw [show i + 1 + j = i + (j + 1) from by omega]; exact this) ?_
    by_cases ht : o ∈ r.wo
    · have e : D i = D' i := hD 0 r (by simp) ht
      rw [e]
      cases D' i
      · exact h
      · simp only [cond]; exact (app_obw r s o).1 ht s'
    · cases D i <;> cases D' i <;> simp only [cond, (app_obw r _ o).2 ht] <;> exact h
theorem appD_us (o : Nat) (D : Nat → Bool) : ∀ (rs : List Rec) (i : Nat) (s : St), (appD D i s rs).us o = true ↔ s.us o = true ∨ ∃ (j : Nat) (r : Rec), rs[j]? = some r ∧ D (i + j) = true ∧ o ∈ keysO r.new
  | [], i, s => by simp [appD]
  | r :: rs, i, s => by
    simp only [appD]
    rw [appD_us o D rs (i + 1)]
    constructor
    · rintro (h | ⟨j, q, h1, h2, h3⟩)
      · cases hd : D i <;> rw [hd] at h <;> simp only [cond] at h
        · exact .inl h
        · rw [app_us, upU_key] at h
          rcases h with h | h
          · exact .inl h
          · exact .inr ⟨0, r, rfl, hd, h⟩
      · exact .inr ⟨j + 1, q, by simpa using h1, by rw [show i + (j + 1) = i + 1 + j from by omega]; exact h2, h3⟩
    · rintro (h | ⟨j, q, h1, h2, h3⟩)
      · left
        cases D i <;> simp only [cond]
        · exact h
        · rw [app_us, upU_key]; exact .inl h
      · cases j with
        | zero =>
          simp at h1; subst h1
          left
          have h2 : D i = true := h2
          rw [h2]
          simp only [cond, app_us, upU_key]; exact .inr h3
        | succ j => exact .inr ⟨j, q, by simpa using h1, by rw [show i + 1 + j = i + (j + 1) from by omega]; exact h2, h3⟩
theorem appD_false : ∀ (rs : List Rec) (i : Nat) (s : St) (D : Nat → Bool), (∀ j, i ≤ j → D j = false) → appD D i s rs = s
  | [], i, s, D, h => rfl
  | r :: rs, i, s, D, h => by
    simp only [appD, h i (Nat.le_refl _), cond]
    exact appD_false rs (i + 1) s D fun j hj => h j (by omega)
/-- the record at i is the last -/
theorem appD_at : ∀ (rs : List Rec) (i k : Nat) (s : St) (r : Rec), rs[k]? = some r → appD (fun j => nblt j (i + k + 1)) i s rs = r.app (appD (fun j => nblt j (i + k)) i s rs)
  | [], i, k, s, r, h => by simp at h
  | q :: rs, i, 0, s, r, h => by
    simp at h; subst h
    simp only [appD, Nat.add_zero]
    have e1 : nblt i (i + 1) = true := by simp [nblt_eq]
    have e2 : nblt i i = false := by cases h : nblt i i with | false => rfl | true => simp [nblt_eq] at h
    rw [e1, e2]
    simp only [cond]
    rw [appD_false rs (i + 1) (q.app s), appD_false rs (i + 1) s]
    · intro j hj; cases h : nblt j i with | false => rfl | true => simp [nblt_eq] at h; omega
    · intro j hj; cases h : nblt j (i + 1) with | false => rfl | true => simp [nblt_eq] at h; omega
  | q :: rs, i, k + 1, s, r, h => by
    simp only [appD]
    have e1 : nblt i (i + (k + 1) + 1) = true := by simp [nblt_eq]; omega
    have e2 : nblt i (i + (k + 1)) = true := by simp [nblt_eq]
    rw [e1, e2]
    have := appD_at rs (i + 1) k (q.app s) r (by simpa using h)
    rw [show i + (k + 1) = i + 1 + k from by omega]
    exact this
theorem chain_at {ops : Array Oper} : ∀ (rs : List Rec) (i : Nat) (s s' : St), Chain P c ops i s rs s' → ∀ (k : Nat) (r : Rec), rs[k]? = some r →
    RecOk P c ops (i + k) (appD (fun j => nblt j (i + k)) i s rs) r ∧ newOk (appD (fun j => nblt j (i + k)) i s rs).us r.new = true
  | [], i, s, s', h, k, r, hr => by simp at hr
  | q :: rs, i, s, s', h, 0, r, hr => by
    simp at hr; subst hr
    rw [appD_false (q :: rs) i s _ (fun j hj => by cases h : nblt j (i + 0) with | false => rfl | true => simp [nblt_eq] at h; omega)]
    exact ⟨h.1, h.2.1⟩
  | q :: rs, i, s, s', h, k + 1, r, hr => by
    have := chain_at rs (i + 1) (q.app s) s' h.2.2 k r (by simpa using hr)
    have e2 : nblt i (i + (k + 1)) = true := by simp [nblt_eq]
    simp only [appD, e2, cond]
    rw [show i + (k + 1) = i + 1 + k from by omega]
    exact this
theorem chain_end {ops : Array Oper} : ∀ (rs : List Rec) (i : Nat) (s s' : St), Chain P c ops i s rs s' → ∀ D : Nat → Bool, (∀ j, j < rs.length → D (i + j) = true) → s' = appD D i s rs
  | [], i, s, s', h, D, hD => h.symm
  | q :: rs, i, s, s', h, D, hD => by
    have e : D i = true := hD 0 (by simp)
    simp only [appD, e, cond]
    exact chain_end rs (i + 1) (q.app s) s' h.2.2 D fun j hj => by rw [show i + 1 + j = i + (j + 1) from by omega]; exact hD (j + 1) (by simpa using hj)

/- what must lie ahead -/
theorem binds_any (e : Edge) : Region.binds .any e = bindsAny e := by
  unfold Region.binds bindsAny
  cases e.ground <;> rfl
theorem back_at : ∀ (l : List Oper) (i j : Nat) (o : Oper), allBack i l = true → l[j]? = some o → ∀ e ∈ o.after.toList, bindsAny e = true → e.on < i + j
  | [], i, j, o, h, hj => by simp at hj
  | q :: l, i, 0, o, h, hj => by
    simp at hj; subst hj
    simp only [allBack, Bool.and_eq_true] at h
    have : ∀ (es : List Edge), edgesBack i es = true → ∀ e ∈ es, bindsAny e = true → e.on < i := by
      intro es
      induction es with
      | nil => intro _ e he; cases he
      | cons x xs ih =>
        intro hx e he hb
        simp only [edgesBack, Bool.and_eq_true] at hx
        rcases List.mem_cons.1 he with g | g
        · subst g; rw [hb] at hx; simpa [nblt_eq] using hx.1
        · exact ih hx.2 e g hb
    exact this _ h.1
  | q :: l, i, j + 1, o, h, hj => by
    simp only [allBack, Bool.and_eq_true] at h
    have := back_at l (i + 1) j o h.2 (by simpa using hj)
    intro e he hb; have := this e he hb; omega

theorem getN_lt : ∀ (l : List Nat) (i j : Nat), Nat.testBit (getN l i) j = true → i < l.length
  | [], i, j, h => by simp [getN] at h
  | x :: l, 0, j, h => by simp
  | x :: l, i + 1, j, h => by have := getN_lt l i j h; simp; exact this
theorem getN_append : ∀ (l r : List Nat) (i : Nat), getN (l ++ r) i = if i < l.length then getN l i else getN r (i - l.length)
  | [], r, i => by simp
  | x :: l, r, 0 => by simp [getN]
  | x :: l, r, i + 1 => by
    simp only [List.cons_append, getN, List.length_cons, Nat.add_lt_add_iff_right, Nat.add_sub_add_right]
    exact getN_append l r i
theorem mask_ok {D : Nat → Bool} {acc : List Nat} (hacc : ∀ x, x < acc.length → D x = true → ∀ j, Nat.testBit (getN acc x) j = true → D j = true) :
    ∀ (es : List Edge), (∀ e ∈ es, bindsAny e = true → D e.on = true) → ∀ j, Nat.testBit (maskOf acc es) j = true → D j = true
  | [], _, j, h => by simp [maskOf] at h
  | e :: es, hD, j, h => by
    simp only [maskOf] at h
    have ih := mask_ok hacc es (fun e he => hD e (List.mem_cons_of_mem _ he)) j
    cases hb : bindsAny e <;> rw [hb] at h <;> simp only [cond] at h
    · exact ih h
    · have hon := hD e List.mem_cons_self hb
      change Nat.testBit ((1 <<< e.on ||| getN acc e.on) ||| maskOf acc es) j = true at h
      rw [Nat.testBit_or, Nat.testBit_or, Nat.testBit_shiftLeft] at h
      simp only [Bool.or_eq_true, Bool.and_eq_true, decide_eq_true_eq] at h
      rcases h with (⟨h1, h2⟩ | h) | h
      · have : j - e.on = 0 := by
          rcases Nat.eq_zero_or_pos (j - e.on) with g | g
          · exact g
          · exfalso
            have h3 : Nat.testBit 1 (j - e.on) = false := by
              obtain ⟨n, hn⟩ : ∃ n, j - e.on = n + 1 := ⟨j - e.on - 1, by omega⟩
              rw [hn, Nat.testBit_succ]; simp
            rw [h3] at h2; cases h2
        have : j = e.on := by omega
        rw [this]; exact hon
      · exact hacc e.on (getN_lt _ _ _ h) hon j h
      · exact ih h
theorem masks_ok {D : Nat → Bool} : ∀ (l : List Oper) (acc : List Nat), (∀ x, x < acc.length → D x = true → ∀ j, Nat.testBit (getN acc x) j = true → D j = true) →
    (∀ (k : Nat) (o : Oper), l[k]? = some o → D (acc.length + k) = true → ∀ e ∈ o.after.toList, bindsAny e = true → D e.on = true) →
    ∀ (k : Nat) (o : Oper), l[k]? = some o → (∀ e ∈ o.after.toList, bindsAny e = true → D e.on = true) → ∀ j, Nat.testBit (getN (masks l acc) (acc.length + k)) j = true → D j = true
  | [], acc, _, _, k, o, h, _, j, _ => by simp at h
  | q :: l, acc, hacc, hD, k, o, hk, hcl, j, hb => by
    simp only [masks] at hb
    have hnew : ∀ x, x < (acc ++ [maskOf acc q.after.toList]).length → D x = true → ∀ j, Nat.testBit (getN (acc ++ [maskOf acc q.after.toList]) x) j = true → D j = true := by
      intro x hx hDx j hj
      rw [getN_append] at hj
      by_cases h : x < acc.length
      · rw [if_pos h] at hj; exact hacc x h hDx j hj
      · rw [if_neg h] at hj
        have hxe : x = acc.length := by simp at hx; omega
        subst hxe
        simp only [Nat.sub_self, getN] at hj
        exact mask_ok hacc _ (hD 0 q (by simp) (by simpa using hDx)) j hj
    cases k with
    | zero =>
      simp at hk; subst hk
      have hpre : ∀ (l : List Oper) (acc : List Nat) (x : Nat), x < acc.length → getN (masks l acc) x = getN acc x := by
        intro l
        induction l with
        | nil => intro acc x _; rfl
        | cons y ys ih =>
          intro acc x hx
          simp only [masks]
          rw [ih _ _ (by simp; omega), getN_append, if_pos hx]
      rw [Nat.add_zero, hpre _ _ _ (by simp), getN_append, if_neg (Nat.lt_irrefl _)] at hb
      simp only [Nat.sub_self, getN] at hb
      exact mask_ok hacc _ hcl j hb
    | succ k =>
      refine masks_ok l (acc ++ [maskOf acc q.after.toList]) hnew ?_ k o (by simpa using hk) hcl j ?_
      · intro k' o' hk' hDk
        refine hD (k' + 1) o' (by simpa using hk') ?_
        simp only [List.length_append, List.length_cons, List.length_nil] at hDk
        rw [show acc.length + (k' + 1) = acc.length + (0 + 1) + k' from by omega]; exact hDk
      · simp only [List.length_append, List.length_cons, List.length_nil]
        rw [show acc.length + (0 + 1) + k = acc.length + (k + 1) from by omega]; exact hb

theorem indep1_at (r : Rec) (m : Nat) : ∀ (qs : List Rec) (j0 : Nat), indep1 r m qs j0 = true → ∀ (j : Nat) (q : Rec), qs[j]? = some q → dep q r = true → Nat.testBit m (j0 + j) = true
  | [], j0, _, j, q, h, _ => by simp at h
  | x :: qs, j0, h, 0, q, hq, hd => by
    simp at hq; subst hq
    simp only [indep1, Bool.and_eq_true] at h
    rw [hd] at h; exact h.1
  | x :: qs, j0, h, j + 1, q, hq, hd => by
    simp only [indep1, Bool.and_eq_true] at h
    have := indep1_at r m qs (j0 + 1) h.2 j q (by simpa using hq) hd
    rw [show j0 + (j + 1) = j0 + 1 + j from by omega]; exact this
theorem indepAll_at : ∀ (rs pre : List Rec) (ms : List Nat), indepAll pre rs ms = true → ∀ (i : Nat) (r : Rec), rs[i]? = some r → ∀ (j : Nat) (q : Rec), j < pre.length + i → (pre ++ rs)[j]? = some q → dep q r = true → Nat.testBit (getN ms i) j = true
  | [], pre, ms, _, i, r, h, _, _, _, _, _ => by simp at h
  | x :: rs, pre, [], h, _, _, _, _, _, _, _, _ => by simp [indepAll] at h
  | x :: rs, pre, m :: ms, h, i, r, hr, j, q, hj, hq, hd => by
    simp only [indepAll, Bool.and_eq_true] at h
    cases i with
    | zero =>
      simp at hr; subst hr
      have hjl : j < pre.length := by simpa using hj
      rw [List.getElem?_append_left hjl] at hq
      have := indep1_at x m pre 0 h.1 j q hq hd
      rw [Nat.zero_add] at this; exact this
    | succ i =>
      simp only [getN]
      exact indepAll_at rs (pre ++ [x]) ms h.2 i r (by simpa using hr) j q (by simp; omega) (by simpa using hq) hd

theorem memN_of {x : Nat} : ∀ {l : List Nat}, x ∈ l → memN x l = true
  | y :: r, h => by
    simp only [memN]
    by_cases e : x = y
    · subst e; simp
    · rw [beq_f e]; simp only [cond]
      exact memN_of ((List.mem_cons.1 h).resolve_left e)
theorem meets_of {x : Nat} : ∀ {l l' : List Nat}, x ∈ l → x ∈ l' → meets l l' = true
  | y :: r, l', h, h' => by
    simp only [meets]
    rcases List.mem_cons.1 h with e | e
    · subst e; rw [memN_of h']; rfl
    · cases memN y l' <;> simp only [cond]
      exact meets_of e h'

def cnt (p : Nat → Bool) : List Nat → Nat
  | [] => 0
  | x :: r => (bif p x then 1 else 0) + cnt p r
theorem cnt_le {p p' : Nat → Bool} (h : ∀ j, p' j = true → p j = true) : ∀ l, cnt p' l ≤ cnt p l
  | [] => Nat.le_refl _
  | x :: r => by
    simp only [cnt]
    have := cnt_le h r
    cases h1 : p' x
    · simp only [cond]; omega
    · rw [h x h1]; simp only [cond]; omega
theorem cnt_lt {p p' : Nat → Bool} (h : ∀ j, p' j = true → p j = true) {i : Nat} (h1 : p i = true) (h2 : p' i = false) : ∀ l, i ∈ l → cnt p' l < cnt p l
  | x :: r, hm => by
    simp only [cnt]
    have := cnt_le h r
    rcases List.mem_cons.1 hm with e | e
    · subst e; rw [h1, h2]; simp only [cond]; omega
    · have := cnt_lt h h1 h2 r e
      cases h3 : p' x
      · simp only [cond]; omega
      · rw [h x h3]; simp only [cond]; omega
theorem cnt_zero {p : Nat → Bool} : ∀ l, cnt p l = 0 → ∀ i ∈ l, p i = false
  | x :: r, h, i, hi => by
    simp only [cnt] at h
    cases hp : p x with
    | true => rw [hp] at h; simp only [cond] at h; omega
    | false =>
      rcases List.mem_cons.1 hi with e | e
      · subst e; exact hp
      · exact cnt_zero r (by omega) i e

theorem getD_set {l : Array Bool} {i j : Nat} (hi : i < l.size) : (l.setIfInBounds i true).getD j false = if j = i then true else l.getD j false := by
  simp only [Array.getD_eq_getD_getElem?]
  by_cases h : j = i
  · subst h; simp [hi]
  · simp [h, Array.getElem?_setIfInBounds_ne (fun e => h e.symm)]

theorem newOk_of : ∀ (us : Nat → Bool) (l : List (Nat × AObj)), (∀ o ∈ keysO l, us o = false ∧ 16 ≤ o) → newOk us l = true
  | us, [], _ => rfl
  | us, (i, x) :: r, h => by
    simp only [newOk, Bool.and_eq_true, Bool.not_eq_true']
    have := h i (by simp [keysO])
    exact ⟨⟨this.1, nble_of_le this.2⟩, newOk_of us r fun o ho => h o (by simp [keysO, ho])⟩
theorem newOk_key : ∀ (us : Nat → Bool) (l : List (Nat × AObj)), newOk us l = true → ∀ o ∈ keysO l, us o = false ∧ 16 ≤ o
  | us, [], _, o, h => by cases h
  | us, (i, x) :: r, h, o, ho => by
    simp only [newOk, Bool.and_eq_true, Bool.not_eq_true'] at h
    simp only [keysO] at ho
    rcases List.mem_cons.1 ho with e | e
    · subst e; exact ⟨h.1.1, le_of_nble h.1.2⟩
    · exact newOk_key us r h.2 o e

end Go.Desk
