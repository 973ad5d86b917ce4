/- V-logic, part 5: rows of cells are read and written; types. -/
import Derived.Test.YtmfbddhgfckfaaaVd
namespace Go.Desk
open Go
set_option linter.all false
set_option linter.unusedVariables false

/- types -/
def kOfD (P : Program) : TypeDesc → TK
  | .bool => .bool
  | .int k => .int k
  | .float k => .flt k
  | .string => .str
  | .pointer e => .ptr e
  | .slice e => .slice e
  | .struct fs => .struct (fs.toList.map fun f => (f.offset, ((P.info? f.type).map (·.size)).getD 0))
  | .func .. => .func
  | .interface _ => .iface
  | .tuple _ => .tuple
  | _ => .other
def kOf (P : Program) (t : Nat) : TK :=
  match P.underlying t with
  | some d => kOfD P d
  | none => .other
def litOk : Value → Bool
  | .float .f32 b => nblt b 4294967296
  | .float .f64 b => nblt b 18446744073709551616
  | .agg _ => false
  | .tuple _ => false
  | _ => true
def zeroL (l : List Value) : List V := match l.all litOk with | true => l.map vlit | false => []
def zeroOf : Option Value → List V
  | some z => zeroL z.cells.toList
  | none => []
def tiOf (P : Program) (t : Nat) : TI :=
  match P.info? t with
  | none => default
  | some i => ⟨kOf P t, i.size, i.bytes, zeroOf i.zero⟩
def TOk (P : Program) (T : Nat → TI) : Prop := ∀ t, T t = tiOf P t ∨ T t = default

variable {c : Ctx} {L : LMap} {I : Nat → Prop} {s : St} {a : Act} {w : World} {P : Program} {T : Nat → TI} {B : Nat}

theorem kOf_under {P : Program} {t : Nat} (h : kOf P t ≠ .other) : ∃ d, P.underlying t = some d ∧ kOf P t = kOfD P d := by
  unfold kOf at h ⊢
  cases hu : P.underlying t with
  | none => rw [hu] at h; exact absurd rfl h
  | some d => exact ⟨d, rfl, rfl⟩

theorem T_info (hT : TOk P T) {t : Nat} (h : (T t).k ≠ .other) : ∃ i, P.info? t = some i ∧ i.size = (T t).sz ∧ i.bytes = (T t).byt ∧ (T t).k = kOf P t ∧
    (T t).zero = zeroOf i.zero := by
  rcases hT t with e | e
  · rw [e] at h ⊢
    unfold tiOf at h ⊢
    cases hi : P.info? t with
    | none => rw [hi] at h; exact absurd rfl h
    | some i => exact ⟨i, rfl, rfl, rfl, rfl, rfl⟩
  · rw [e] at h; exact absurd rfl h

theorem T_desc (hT : TOk P T) {t : Nat} (h : (T t).k ≠ .other) : ∃ d, P.underlying t = some d ∧ (T t).k = kOfD P d := by
  obtain ⟨i, _, _, _, h4, _⟩ := T_info hT h
  obtain ⟨d, h1, h2⟩ := kOf_under (P := P) (t := t) (by rw [← h4]; exact h)
  exact ⟨d, h1, h4.trans h2⟩
theorem T_slice (hT : TOk P T) {t e : Nat} (h : (T t).k = .slice e) : P.underlying t = some (.slice e) := by
  obtain ⟨d, h1, h2⟩ := T_desc hT (t := t) (by rw [h]; simp)
  rw [h] at h2; cases d <;> simp only [kOfD] at h2 <;> cases h2; exact h1
theorem T_str (hT : TOk P T) {t : Nat} (h : (T t).k = .str) : P.underlying t = some .string := by
  obtain ⟨d, h1, h2⟩ := T_desc hT (t := t) (by rw [h]; simp)
  rw [h] at h2; cases d <;> simp only [kOfD] at h2 <;> cases h2; exact h1
theorem T_bool (hT : TOk P T) {t : Nat} (h : (T t).k = .bool) : P.underlying t = some .bool := by
  obtain ⟨d, h1, h2⟩ := T_desc hT (t := t) (by rw [h]; simp)
  rw [h] at h2; cases d <;> simp only [kOfD] at h2 <;> cases h2; exact h1
theorem T_int (hT : TOk P T) {t : Nat} {k : IntKind} (h : (T t).k = .int k) : P.underlying t = some (.int k) := by
  obtain ⟨d, h1, h2⟩ := T_desc hT (t := t) (by rw [h]; simp)
  rw [h] at h2; cases d <;> simp only [kOfD] at h2 <;> cases h2; exact h1
theorem T_flt (hT : TOk P T) {t : Nat} {k : FloatKind} (h : (T t).k = .flt k) : P.underlying t = some (.float k) := by
  obtain ⟨d, h1, h2⟩ := T_desc hT (t := t) (by rw [h]; simp)
  rw [h] at h2; cases d <;> simp only [kOfD] at h2 <;> cases h2; exact h1
theorem T_iface (hT : TOk P T) {t : Nat} (h : (T t).k = .iface) : ∃ ms, P.underlying t = some (.interface ms) := by
  obtain ⟨d, h1, h2⟩ := T_desc hT (t := t) (by rw [h]; simp)
  rw [h] at h2; cases d <;> simp only [kOfD] at h2 <;> cases h2; exact ⟨_, h1⟩
theorem T_struct (hT : TOk P T) {t : Nat} {fs : List (Nat × Nat)} (h : (T t).k = .struct fs) : ∃ fields : Array Field, P.underlying t = some (.struct fields) ∧
    fs = fields.toList.map fun f => (f.offset, ((P.info? f.type).map (·.size)).getD 0) := by
  obtain ⟨d, h1, h2⟩ := T_desc hT (t := t) (by rw [h]; simp)
  rw [h] at h2; cases d <;> simp only [kOfD] at h2 <;> cases h2; exact ⟨_, h1, rfl⟩

theorem run_sizeOf (hT : TOk P T) {t : Nat} (h : (T t).k ≠ .other) (w : World) : (sizeOf t).run P w = .ok (T t).sz w := by
  obtain ⟨i, h1, h2, _⟩ := T_info hT h
  simp [sizeOf, typeInfo, h1, h2]
theorem run_isAgg (hT : TOk P T) {t : Nat} (h : (T t).k ≠ .other) (w : World) : (isAgg t).run P w = .ok (T t).agg w := by
  obtain ⟨d, hd, hk⟩ := T_desc hT h
  have hag : (T t).agg = (match kOfD P d with | .struct _ => true | _ => false) := by unfold TI.agg; rw [hk]; cases kOfD P d <;> rfl
  rw [hk] at h
  rw [hag]
  cases d <;> simp only [kOfD] at h ⊢ <;> first | (exact absurd rfl h) | simp [isAgg, run_underlying hd]

/- lists of cells -/
theorem lenV_eq : ∀ l : List V, lenV l = l.length
  | [] => rfl
  | _ :: l => by simp [lenV, lenV_eq l]

theorem RelAt.vals : ∀ (cs : List V) (I : Nat → Prop) (b p : Nat), RelAt w L B cs I b p →
    ∃ vs : List Value, vs.length = cs.length ∧ (∀ j v, vs[j]? = some v → w.cell? ⟨b, p + j, none⟩ = some v ∧ v.oneCell' = true) ∧ RelL w L B cs I vs
  | [], I, b, p, _ => ⟨[], rfl, by simp, by simp [RelL]⟩
  | x :: cs, I, b, p, h => by
    simp only [RelAt] at h
    obtain ⟨⟨v, h1, h1', h2⟩, h3⟩ := h
    obtain ⟨vs, g1, g2, g3⟩ := RelAt.vals cs I b (p + 1) h3
    refine ⟨v :: vs, by simp [g1], ?_, ?_⟩
    · intro j u hj
      cases j with
      | zero => simp at hj; subst hj; exact ⟨by simpa using h1, h1'⟩
      | succ j =>
        have := g2 j u (by simpa using hj)
        rw [show p + (j + 1) = p + 1 + j from by omega]; exact this
    · simp only [RelL]
      exact ⟨v, vs, rfl, h2, g3⟩
theorem RelL.length : ∀ (cs : List V) (I : Nat → Prop) (vs : List Value), RelL w L B cs I vs → vs.length = cs.length
  | [], I, vs, h => by simp only [RelL] at h; subst h; rfl
  | x :: cs, I, vs, h => by
    simp only [RelL] at h
    obtain ⟨v, r, rfl, _, h3⟩ := h
    simp [RelL.length cs I r h3]
theorem RelAt.of_vals : ∀ (cs : List V) (I : Nat → Prop) (b p : Nat) (vs : List Value), RelL w L B cs I vs →
    (∀ j v, vs[j]? = some v → w.cell? ⟨b, p + j, none⟩ = some v ∧ v.oneCell' = true) → RelAt w L B cs I b p
  | [], I, b, p, vs, _, _ => by simp [RelAt]
  | x :: cs, I, b, p, vs, h, hc => by
    simp only [RelL] at h
    obtain ⟨v, r, rfl, h2, h3⟩ := h
    simp only [RelAt]
    refine ⟨⟨v, by simpa using (hc 0 v rfl).1, (hc 0 v rfl).2, h2⟩, RelAt.of_vals cs I b (p + 1) r h3 fun j u hj => ?_⟩
    have := hc (j + 1) u (by simpa using hj)
    rw [show p + 1 + j = p + (j + 1) from by omega]; exact this
theorem RelAt.drop : ∀ (n : Nat) (cs : List V) (I : Nat → Prop) (b p : Nat), RelAt w L B cs I b p → RelAt w L B (dropV n cs) I b (p + n)
  | 0, cs, I, b, p, h => h
  | n + 1, [], I, b, p, _ => by simp [dropV, RelAt]
  | n + 1, x :: cs, I, b, p, h => by
    simp only [RelAt] at h
    have := RelAt.drop n cs I b (p + 1) h.2
    rw [show p + (n + 1) = p + 1 + n from by omega]; exact this
theorem RelAt.take : ∀ (n : Nat) (cs : List V) (I : Nat → Prop) (b p : Nat), RelAt w L B cs I b p → RelAt w L B (takeV n cs) I b p
  | 0, cs, I, b, p, h => by simp [takeV, RelAt]
  | n + 1, [], I, b, p, _ => by simp [takeV, RelAt]
  | n + 1, x :: cs, I, b, p, h => by
    simp only [RelAt, takeV] at h ⊢
    exact ⟨h.1, RelAt.take n cs I b (p + 1) h.2⟩
theorem lenV_take : ∀ (n : Nat) (cs : List V), n ≤ lenV cs → lenV (takeV n cs) = n
  | 0, cs, _ => rfl
  | n + 1, [], h => by simp [lenV] at h
  | n + 1, x :: cs, h => by simp only [lenV] at h; simp [takeV, lenV, lenV_take n cs (by omega)]
theorem lenV_drop : ∀ (n : Nat) (cs : List V), lenV (dropV n cs) = lenV cs - n
  | 0, cs => rfl
  | n + 1, [] => by simp [dropV, lenV]
  | n + 1, x :: cs => by simp [dropV, lenV, lenV_drop n cs]
theorem lenV_set : ∀ (l : List V) (n : Nat) (vs : List V), lenV (setV l n vs) = lenV l
  | l, 0, [] => by cases l <;> rfl
  | [], 0, _ :: _ => rfl
  | [], n + 1, vs => by simp [setV]
  | x :: l, 0, v :: vs => by simp [setV, lenV, lenV_set l 0 vs]
  | x :: l, n + 1, vs => by simp [setV, lenV, lenV_set l n vs]

/-- a variable is read out of a row of cells -/
theorem load_part (hT : TOk P T) {t : Nat} {cs : List V} {off : Nat} {v : V} {b p : Nat} (h : partV (T t) cs off = some v) (hr : RelAt w L B cs I b p) :
    ∃ x, (loadVar t ⟨b, p + off, none⟩).run P w = .ok x w ∧ Rel w L B v I x := by
  have hk : (T t).k ≠ .other := by
    intro e
    unfold partV at h
    rw [show (T t).known = false from by unfold TI.known; rw [e]] at h
    cases h
  unfold partV at h
  rw [show (T t).known = true from by unfold TI.known; cases hh : (T t).k <;> first | rfl | exact absurd hh hk] at h
  cases hag : (T t).agg
  · rw [hag] at h
    simp only at h
    have hd := hr.drop off
    cases hcs : dropV off cs with
    | nil => rw [hcs] at h; cases h
    | cons y ys =>
      rw [hcs] at h hd
      cases h
      simp only [RelAt] at hd
      obtain ⟨⟨x, h1, _, h2⟩, _⟩ := hd
      exact ⟨x, by simp [loadVar, run_isAgg hT hk, hag, h1], h2⟩
  · rw [hag] at h
    simp only at h
    cases hle : nble (off + (T t).sz) (lenV cs)
    · rw [hle] at h; cases h
    · rw [hle] at h
      simp only [cond] at h
      cases h
      have hle' : off + (T t).sz ≤ lenV cs := le_of_nble hle
      have hd := (hr.drop off).take (T t).sz
      obtain ⟨vs, g1, g2, g3⟩ := hd.vals
      have hlen : vs.length = (T t).sz := by
        rw [g1, ← lenV_eq, lenV_take]; rw [lenV_drop]; omega
      refine ⟨.agg vs.toArray, ?_, by simp only [Rel]; exact ⟨_, rfl, by simpa using g3⟩⟩
      have hl := run_loadCells_list (P := P) w ⟨b, p + off, none⟩ vs (fun j u hj => by
        have := (g2 j u hj).1
        unfold Addr.add
        split
        · rename_i e; subst e; simpa using this
        · exact this)
      rw [hlen] at hl
      simp [loadVar, run_isAgg hT hk, hag, run_sizeOf hT hk, hl]


theorem Rel.one {v : V} {x : Value} (h : oneC v = true) (hr : Rel w L B v I x) : x.oneCell' = true := by
  cases v <;> simp only [oneC] at h <;> first | (cases h; done) | skip
  all_goals simp only [Rel] at hr
  case bool => subst hr; rfl
  case int => subst hr; rfl
  case flt => obtain ⟨b, h1, _⟩ := hr; subst h1; rfl
  case str => obtain ⟨b, h1, _⟩ := hr; subst h1; rfl
  case nil => subst hr; rfl
  case nptr => subst hr; rfl
  case ifc b => cases b; · rw [hr.1 rfl]; rfl
                · obtain ⟨t, x, h1⟩ := hr.2 rfl; subst h1; rfl
  case sl => obtain ⟨a, cap, h1, _⟩ := hr; subst h1; rfl
  case ptr => obtain ⟨b, base, _, h1⟩ := hr; subst h1; rfl
  case eptr => obtain ⟨b, base, _, h1⟩ := hr; subst h1; rfl
  case dptr => obtain ⟨b, base, h1, _⟩ := hr; subst h1; rfl
  case osl => obtain ⟨l, a, cap, _, h1, _⟩ := hr; subst h1; rfl
  case fn => obtain ⟨vs, h1, _⟩ := hr; subst h1; rfl
theorem Rel.one_cells {v : V} {x : Value} (h : oneC v = true) (hr : Rel w L B v I x) : x.cells = #[x] := by
  have := Rel.one h hr
  cases x <;> first | rfl | (simp [Value.oneCell'] at this)
theorem RelL.allOne : ∀ {cs : List V} {vs : List Value}, allOne cs = true → RelL w L B cs I vs → ∀ u ∈ vs, u.oneCell' = true
  | [], vs, _, h => by simp only [RelL] at h; subst h; simp
  | x :: cs, vs, ho, h => by
    simp only [RelL] at h
    obtain ⟨v, r, rfl, h2, h3⟩ := h
    simp only [Desk.allOne, Bool.and_eq_true] at ho
    intro u hu
    rcases List.mem_cons.1 hu with e | e
    · subst e; exact Rel.one ho.1 h2
    · exact RelL.allOne ho.2 h3 u e

theorem known_ne {t : TI} (h : t.known = true) : t.k ≠ .other := by intro e; unfold TI.known at h; rw [e] at h; cases h

theorem fits_cells {t : TI} {x : V} {v : Value} (h : fits t x = true) (hr : Rel w L B x I v) :
    t.k ≠ .other ∧ 1 ≤ t.sz ∧ RelL w L B (vcells x) I v.cells.toList ∧ v.cells.size = t.sz ∧ (∀ u ∈ v.cells.toList, u.oneCell' = true) ∧ (vcells x).length = t.sz := by
  unfold fits at h
  cases hkn : t.known
  · rw [hkn] at h; cases h
  rw [hkn] at h
  simp only [Bool.true_and, Bool.and_eq_true] at h
  obtain ⟨hone, h⟩ := h
  refine ⟨known_ne hkn, le_of_nble hone, ?_⟩
  cases hag : t.agg
  · rw [hag] at h
    have h1 : oneC x = true ∧ nbeq t.sz 1 = true := by
      cases x <;> simp only at h <;> first | exact ⟨rfl, h⟩ | (cases h; done)
    have hsz : t.sz = 1 := eq_of_nbeq h1.2
    have hvc : vcells x = [x] := by cases x <;> simp [oneC] at h1 <;> rfl
    have hc := Rel.one_cells h1.1 hr
    rw [hvc, hc, hsz]
    refine ⟨by simp only [RelL]; exact ⟨v, [], rfl, hr, rfl⟩, rfl, ?_, rfl⟩
    intro u hu; simp at hu; subst hu; exact Rel.one h1.1 hr
  · rw [hag] at h
    cases x <;> simp only at h <;> first | (cases h; done) | skip
    rename_i cs
    simp only [Bool.and_eq_true] at h
    simp only [Rel] at hr
    obtain ⟨vs, rfl, h2⟩ := hr
    have hl := RelL.length _ _ _ h2
    have hz := eq_of_nbeq h.1
    rw [lenV_eq] at hz
    exact ⟨h2, by simpa [Value.cells, ← hz] using hl, RelL.allOne h.2 h2, hz⟩

/-- a row of which some cells are written -/
def splice (cs : Array Value) (q : Nat) (vs : List Value) : Array Value := (cs.toList.take q ++ vs ++ cs.toList.drop (q + vs.length)).toArray
theorem splice_size (cs : Array Value) (q : Nat) (vs : List Value) (h : q + vs.length ≤ cs.size) : (splice cs q vs).size = cs.size := by
  simp [splice]; omega
theorem splice_get (cs : Array Value) (q : Nat) (vs : List Value) (h : q + vs.length ≤ cs.size) (j : Nat) :
    (splice cs q vs)[j]? = if j < q then cs[j]? else if j < q + vs.length then vs[j - q]? else cs[j]? := by
  simp only [splice, List.getElem?_toArray, List.append_assoc]
  by_cases h1 : j < q
  · rw [if_pos h1, List.getElem?_append_left (by simp; omega), List.getElem?_take_of_lt h1]; simp
  · rw [if_neg h1, List.getElem?_append_right (by simp; omega)]
    have hq : (cs.toList.take q).length = q := by simp; omega
    rw [hq]
    by_cases h2 : j < q + vs.length
    · rw [if_pos h2, List.getElem?_append_left (by omega)]
    · rw [if_neg h2, List.getElem?_append_right (by omega), List.getElem?_drop]
      rw [show q + vs.length + (j - q - vs.length) = j from by omega]; simp

theorem store_part (hT : TOk P T) {t : Nat} {x : V} {v : Value} {b q : Nat} {cs : Array Value} {e : TypeId} (h : fits (T t) x = true) (hr : Rel w L B x I v)
    (hb : w.heap[b]? = some (.cells cs e (0, 0))) (hq : q + (T t).sz ≤ cs.size) :
    (storeVar t ⟨b, q, none⟩ v).run P w = .ok () (w.setRow b (splice cs q v.cells.toList)) := by
  obtain ⟨h0, _, h1, h2, h3, h4⟩ := fits_cells h hr
  have hl : v.cells.toList.length = (T t).sz := by simpa using h2
  have := run_storeCells_at (P := P) b q e v.cells.toList 0 cs w hb (by rw [hl]; omega) h3
  simp only [Nat.add_zero] at this
  simp [storeVar, run_sizeOf hT h0, h2, this, splice]

/-- cells behind a write: those that were written -/
theorem RelAt.set : ∀ (l : List V) (n : Nat) (vs : List V) (xs : List Value) (I : Nat → Prop) (b p : Nat) {w w' : World}, RelAt w L B l I b p → RelL w' L B vs I xs → Evo w w' I →
    (∀ j, j < n ∨ n + xs.length ≤ j → w'.cell? ⟨b, p + j, none⟩ = w.cell? ⟨b, p + j, none⟩) → (∀ j u, xs[j]? = some u → w'.cell? ⟨b, p + n + j, none⟩ = some u ∧ u.oneCell' = true) →
    RelAt w' L B (setV l n vs) I b p
  | [], n, vs, xs, I, b, p, w, w', _, _, _, _, _ => by cases n <;> cases vs <;> simp [setV, RelAt]
  | y :: l, 0, [], xs, I, b, p, w, w', h, hv, he, ho, _ => by
    simp only [RelL] at hv; subst hv
    simp only [setV, RelAt] at h ⊢
    refine ⟨?_, ?_⟩
    · obtain ⟨u, h1, h1', h2⟩ := h.1
      exact ⟨u, by rw [← h1]; simpa using ho 0 (by simp), h1', Rel.mono (fun _ _ h => h) (Nat.le_refl _) _ _ _ _ he (fun _ h => h) h2⟩
    · have := RelAt.set l 0 [] [] I b (p + 1) (w := w) (w' := w') h.2 (by simp [RelL]) he (fun j hj => by
        have := ho (j + 1) (by simp)
        rw [show p + 1 + j = p + (j + 1) from by omega]; exact this) (by simp)
      cases l <;> simpa [setV] using this
  | y :: l, 0, v :: vs, xs, I, b, p, w, w', h, hv, he, ho, hx => by
    simp only [RelL] at hv
    obtain ⟨u, r, rfl, h1, h2⟩ := hv
    simp only [setV, RelAt] at h ⊢
    refine ⟨⟨u, by simpa using (hx 0 u rfl).1, (hx 0 u rfl).2, h1⟩, ?_⟩
    refine RelAt.set l 0 vs r I b (p + 1) (w := w) (w' := w') h.2 h2 he (fun j hj => ?_) (fun j u' hj => ?_)
    · have := ho (j + 1) (by simp at hj ⊢; omega)
      rw [show p + 1 + j = p + (j + 1) from by omega]; exact this
    · have := hx (j + 1) u' (by simpa using hj)
      rw [show p + 1 + 0 + j = p + 0 + (j + 1) from by omega]; exact this
  | y :: l, n + 1, vs, xs, I, b, p, w, w', h, hv, he, ho, hx => by
    simp only [setV, RelAt] at h ⊢
    refine ⟨?_, ?_⟩
    · obtain ⟨u, h1, h1', h2⟩ := h.1
      exact ⟨u, by rw [← h1]; simpa using ho 0 (by simp), h1', Rel.mono (fun _ _ h => h) (Nat.le_refl _) _ _ _ _ he (fun _ h => h) h2⟩
    · refine RelAt.set l n vs xs I b (p + 1) (w := w) (w' := w') h.2 hv he (fun j hj => ?_) (fun j u' hj => ?_)
      · have := ho (j + 1) (by omega)
        rw [show p + 1 + j = p + (j + 1) from by omega]; exact this
      · have := hx j u' hj
        rw [show p + 1 + n + j = p + (n + 1) + j from by omega]; exact this

/-- cells that have been copied -/
theorem RelAt.copy : ∀ (cs : List V) (I : Nat → Prop) (b p b' q : Nat) {w w' : World}, RelAt w L B cs I b p → Evo w w' I →
    (∀ j, j < cs.length → w'.cell? ⟨b', q + j, none⟩ = w.cell? ⟨b, p + j, none⟩) → RelAt w' L B cs I b' q
  | [], I, b, p, b', q, w, w', _, _, _ => by simp [RelAt]
  | x :: cs, I, b, p, b', q, w, w', h, he, hc => by
    simp only [RelAt] at h ⊢
    obtain ⟨⟨v, h1, h1', h2⟩, h3⟩ := h
    refine ⟨⟨v, by rw [← h1]; simpa using hc 0 (by simp), h1', Rel.mono (fun _ _ h => h) (Nat.le_refl _) _ _ _ _ he (fun _ h => h) h2⟩, ?_⟩
    refine RelAt.copy cs I b (p + 1) b' (q + 1) h3 he fun j hj => ?_
    have := hc (j + 1) (by simp; omega)
    rw [show q + 1 + j = q + (j + 1) from by omega, show p + 1 + j = p + (j + 1) from by omega]; exact this
theorem RelAt.cell : ∀ (cs : List V) (I : Nat → Prop) (b p j : Nat), RelAt w L B cs I b p → j < cs.length → ∃ v, w.cell? ⟨b, p + j, none⟩ = some v ∧ v.oneCell' = true
  | [], I, b, p, j, _, h => by simp at h
  | x :: cs, I, b, p, j, h, hj => by
    simp only [RelAt] at h
    cases j with
    | zero => obtain ⟨⟨v, h1, h2, _⟩, _⟩ := h; exact ⟨v, h1, h2⟩
    | succ j =>
      have := RelAt.cell cs I b (p + 1) j h.2 (by simpa using hj)
      rw [show p + (j + 1) = p + 1 + j from by omega]; exact this

end Go.Desk
