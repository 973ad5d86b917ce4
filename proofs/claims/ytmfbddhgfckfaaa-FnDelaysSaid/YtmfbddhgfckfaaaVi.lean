/- V-logic, part 9: literals. -/
import Derived.Test.YtmfbddhgfckfaaaVh
namespace Go.Desk
open Go
set_option linter.all false
set_option linter.unusedVariables false

variable {c : Ctx} {L : LMap} {I : Nat → Prop} {s : St} {a : Act} {w : World} {P : Program} {T : Nat → TI} {B : Nat}

theorem foldl_set_get (off : Nat) : ∀ (vs : List Value) (k : Nat) (cs : Array Value) (j : Nat), off + k + vs.length ≤ cs.size →
    ((vs.zipIdx k).foldl (fun (cs : Array Value) (p : Value × Nat) => cs.setIfInBounds (off + p.2) p.1) cs)[j]? = (if off + k ≤ j ∧ j < off + k + vs.length then vs[j - (off + k)]? else cs[j]?)
  | [], k, cs, j, _ => by simp; intro h1 h2; omega
  | v :: vs, k, cs, j, h => by
    simp only [List.zipIdx_cons, List.foldl_cons]
    rw [foldl_set_get off vs (k + 1) _ j (by simp at h ⊢; omega)]
    simp only [List.length_cons] at h ⊢
    by_cases h1 : off + k ≤ j ∧ j < off + k + (vs.length + 1)
    · rw [if_pos h1]
      by_cases h2 : j = off + k
      · subst h2
        rw [if_neg (by omega)]
        simp [show off + k < cs.size from by omega]
      · rw [if_pos (by omega)]
        rw [show j - (off + k) = (j - (off + (k + 1))) + 1 from by omega]
        simp
    · rw [if_neg h1, if_neg (by omega)]
      rw [Array.getElem?_setIfInBounds_ne (by omega)]
theorem foldl_set_size (off : Nat) : ∀ (vs : List (Value × Nat)) (cs : Array Value), (vs.foldl (fun (cs : Array Value) (p : Value × Nat) => cs.setIfInBounds (off + p.2) p.1) cs).size = cs.size
  | [], cs => rfl
  | v :: vs, cs => by simp only [List.foldl_cons]; rw [foldl_set_size off vs]; simp
theorem foldl_fill (off : Nat) (v : Array Value) (cs : Array Value) :
    v.zipIdx.foldl (fun (cs : Array Value) (x : Value × Nat) => match x with | (c, j) => cs.setIfInBounds (off + j) c) cs =
      (v.toList.zipIdx).foldl (fun (cs : Array Value) (p : Value × Nat) => cs.setIfInBounds (off + p.2) p.1) cs := by
  rw [← Array.foldl_toList]
  simp

/-- rows of a literal -/
def InvF (w : World) (L : LMap) (B : Nat) (I : Nat → Prop) (z : Nat) (l : List (List V)) (cells : Array Value) : Prop :=
  cells.size = l.length * z ∧ ∀ i x, l[i]? = some x → x.length = z ∧ ∃ vs : List Value, RelL w L B x I vs ∧ ∀ j u, vs[j]? = some u → cells[i * z + j]? = some u ∧ u.oneCell' = true

theorem RelL.lt {cs : List V} {vs : List Value} {j : Nat} {u : Value} (h : RelL w L B cs I vs) (hj : vs[j]? = some u) : j < cs.length := by
  rw [← RelL.length _ _ _ h]
  rcases Nat.lt_or_ge j vs.length with g | g
  · exact g
  · rw [List.getElem?_eq_none g] at hj; cases hj

def PartsOk (w : World) (L : LMap) (B : Nat) (I : Nat → Prop) : List (Nat × V) → List (Nat × Value) → Prop
  | [], q => q = []
  | (i, v) :: r, q => ∃ x q', q = (i, x) :: q' ∧ Rel w L B v I x ∧ PartsOk w L B I r q'

theorem vcells_rel {v : V} {x : Value} (hv : Rel w L B v I x) (h1 : allOne (vcells v) = true) : RelL w L B (vcells v) I x.cells.toList ∧ ∀ u ∈ x.cells.toList, u.oneCell' = true := by
  by_cases hag : ∃ cs, v = .agg cs
  · obtain ⟨cs, rfl⟩ := hag
    simp only [Rel] at hv
    obtain ⟨vs, rfl, h2⟩ := hv
    exact ⟨h2, RelL.allOne h1 h2⟩
  · have hvc : vcells v = [v] := by cases v <;> first | rfl | exact absurd ⟨_, rfl⟩ hag
    rw [hvc] at h1 ⊢
    simp only [allOne, Bool.and_true] at h1
    rw [Rel.one_cells h1 hv]
    refine ⟨by simp only [RelL]; exact ⟨x, [], rfl, hv, rfl⟩, fun u hu => ?_⟩
    simp at hu; subst hu; exact Rel.one h1 hv

theorem fill_sound {z : Nat} : ∀ {parts : List (Nat × V)} {qs : List (Nat × Value)} {l l' : List (List V)} {cells : Array Value}, PartsOk w L B I parts qs →
    fillParts z l parts = some l' → InvF w L B I z l cells → ∃ cells', Instr.fill (fun i => some (i * z, z)) cells qs = some cells' ∧ InvF w L B I z l' cells' ∧ l'.length = l.length
  | [], qs, l, l', cells, hq, hf, hi => by
    simp only [PartsOk] at hq; subst hq
    simp only [fillParts] at hf; cases hf
    exact ⟨cells, rfl, hi, rfl⟩
  | (i, v) :: r, qs, l, l', cells, hq, hf, hi => by
    simp only [PartsOk] at hq
    obtain ⟨x, q', rfl, hv, hq'⟩ := hq
    simp only [fillParts] at hf
    cases hc : (nbeq (lenV (vcells v)) z && nblt i l.length && allOne (vcells v)) <;> simp only [hc, cond] at hf <;> first | (cases hf; done) | skip
    simp only [Bool.and_eq_true] at hc
    have hz : (vcells v).length = z := by rw [← lenV_eq]; exact eq_of_nbeq hc.1.1
    have hil : i < l.length := by simpa [nblt_eq] using hc.1.2
    obtain ⟨hr, hone⟩ := vcells_rel hv hc.2
    have hxs : x.cells.size = z := by rw [← hz, ← RelL.length _ _ _ hr]; simp
    have hle : i * z + z ≤ cells.size := by rw [hi.1, ← Nat.succ_mul]; exact Nat.mul_le_mul_right z hil
    let cells1 := x.cells.zipIdx.foldl (fun (cs : Array Value) (p : Value × Nat) => match p with | (c, j) => cs.setIfInBounds (i * z + j) c) cells
    have hget : ∀ j, cells1[j]? = if i * z ≤ j ∧ j < i * z + z then x.cells.toList[j - i * z]? else cells[j]? := by
      intro j
      simp only [cells1, foldl_fill]
      have := foldl_set_get (i * z) x.cells.toList 0 cells j (by simp [hxs]; exact hle)
      rw [this]
      simp [hxs]
    have hsize : cells1.size = cells.size := by simp only [cells1, foldl_fill]; exact foldl_set_size _ _ _
    have hinv : InvF w L B I z (l.set i (vcells v)) cells1 := by
      refine ⟨by rw [hsize, hi.1]; simp, fun k y hk => ?_⟩
      by_cases e : k = i
      · subst e
        have : y = vcells v := by
          rw [List.getElem?_set_self hil] at hk; cases hk; rfl
        subst this
        refine ⟨hz, x.cells.toList, hr, fun j u hj => ⟨?_, hone u (List.mem_of_getElem? hj)⟩⟩
        have hjl := hr.lt hj
        rw [hz] at hjl
        rw [hget, if_pos (by omega), show k * z + j - k * z = j from by omega]; exact hj
      · rw [List.getElem?_set_ne (fun h => e h.symm)] at hk
        obtain ⟨g1, vs, g2, g3⟩ := hi.2 k y hk
        refine ⟨g1, vs, g2, fun j u hj => ⟨?_, (g3 j u hj).2⟩⟩
        have hjl := g2.lt hj
        rw [g1] at hjl
        rw [hget, if_neg ?_]
        · exact (g3 j u hj).1
        · rcases Nat.lt_or_gt_of_ne e with g | g
          · have : k * z + z ≤ i * z := by rw [← Nat.succ_mul]; exact Nat.mul_le_mul_right z g
            omega
          · have : i * z + z ≤ k * z := by rw [← Nat.succ_mul]; exact Nat.mul_le_mul_right z g
            omega
    obtain ⟨cells', k1, k2, k3⟩ := fill_sound hq' hf hinv
    refine ⟨cells', ?_, k2, by rw [k3]; simp⟩
    simp only [Instr.fill]
    rw [if_neg ?_]
    · exact k1
    · simp only [hxs]
      simp; exact hle

theorem datLL_sound (h : Sim c L I s a w) {z : Nat} : ∀ {l l' : List (List V)} {ps : List Prop} {fz : List (Nat × AObj)},
    (datLL std l).run s.ob = (some l', ps, fz) → AllOk ps → (∀ x ∈ l, ∃ vs, RelL w L c.B x I vs) → FzOk s fz ∧ l'.length = l.length ∧ (∀ x ∈ l', ∀ v ∈ x, plainC v = true) ∧
      (∀ (i : Nat) (x : List V) (vs : List Value), l[i]? = some x → RelL w L c.B x I vs → ∃ y, l'[i]? = some y ∧ y.length = x.length ∧
        ∀ I' s', (∀ b, I b → I' b) → Frozen s s' fz → Sim c L I' s' a w → RelL w L c.B y I' vs)
  | [], l', ps, fz, hr, _, _ => by
    simp only [datLL, Rd.run] at hr; cases hr
    exact ⟨fun p hp => (by cases hp), rfl, fun x hx => (by cases hx), fun i x vs hi => by simp at hi⟩
  | x :: l, l', ps, fz, hr, hok, hrel => by
    simp only [datLL, Rd.run_bind, Rd.run] at hr
    cases e1 : (datL std x).run s.ob with
    | mk o1 q1 =>
    obtain ⟨p1, f1⟩ := q1
    cases e2 : (datLL std l).run s.ob with
    | mk o2 q2 =>
    obtain ⟨p2, f2⟩ := q2
    rw [e1, e2] at hr
    simp only at hr
    cases o1 <;> cases o2 <;> simp only at hr <;> first | (simp at hr; done) | skip
    rename_i y ys
    obtain ⟨hr1, hr2, hr3⟩ : y :: ys = l' ∧ p1 ++ p2 = ps ∧ f1 ++ f2 = fz := by simpa using hr
    subst hr1; subst hr2; subst hr3
    have hok' := AllOk.append hok
    obtain ⟨b1, b2, b3, b4⟩ := datLL_sound h (z := z) e2 hok'.2 (fun x hx => hrel x (by simp [hx]))
    obtain ⟨vs0, hx0⟩ := hrel x (by simp)
    obtain ⟨a1, a2, a3, _⟩ := datL_sound h hx0 e1 hok'.1
    refine ⟨fun p hp => ?_, by simp [b2], fun q hq => ?_, fun i q vs hi hqv => ?_⟩
    · rcases List.mem_append.1 hp with e | e
      · exact a1 p e
      · exact b1 p e
    · rcases List.mem_cons.1 hq with e | e
      · subst e; exact a2
      · exact b3 q e
    · cases i with
      | zero =>
        simp at hi; subst hi
        obtain ⟨_, _, _, a4⟩ := datL_sound h hqv e1 hok'.1
        exact ⟨y, rfl, a3, fun I' s' hI hF hS => a4 I' s' hI ⟨fun p hp => hF.1 p (by simp [hp]), hF.2⟩ hS⟩
      | succ i =>
        obtain ⟨y', g1, g2, g3⟩ := b4 i q vs (by simpa using hi) hqv
        exact ⟨y', by simpa using g1, g2, fun I' s' hI hF hS => g3 I' s' hI ⟨fun p hp => hF.1 p (by simp [hp]), hF.2⟩ hS⟩

theorem litElems_get : ∀ (l : List (List V)) (k i : Nat) (x : List V), l[i]? = some x → litElems std l k (k + i) = x
  | [], k, i, x, h => by simp at h
  | [y], k, i, x, h => by
    cases i with
    | zero => simp at h; subst h; rfl
    | succ i => simp at h
  | y :: y' :: r, k, i, x, h => by
    cases i with
    | zero => simp at h; subst h; simp [litElems, std]
    | succ i =>
      have := litElems_get (y' :: r) (k + 1) i x (by simpa using h)
      have hne : std.neq (k + (i + 1)) k = false := by simp [std]
      simp only [litElems, hne, cond]
      rw [show k + (i + 1) = k + 1 + i from by omega]; exact this
theorem freshLL_mem : ∀ {l : List (List V)}, freshLL l = true → ∀ x ∈ l, freshC x = true
  | [], _, x, hx => by cases hx
  | y :: l, h, x, hx => by
    simp only [freshLL, Bool.and_eq_true] at h
    rcases List.mem_cons.1 hx with e | e
    · subst e; exact h.1
    · exact freshLL_mem h.2 x e

theorem zeros_inv (hT : TOk P T) {e : Nat} {z : Value} (z2 : z.cells.size = (T e).sz) (z3 : ∀ (w : World) L B I, RelL w L B (T e).zero I z.cells.toList) (z4 : ∀ u ∈ z.cells.toList, u.oneCell' = true)
    (hlen : (T e).zero.length = (T e).sz) (k : Nat) : InvF w L B I (T e).sz (List.replicate k (T e).zero) ((Array.range (k * (T e).sz)).map (fun j => z.cells[j % z.cells.size]!)) := by
  refine ⟨by simp, fun j x hj => ?_⟩
  have hjk : j < k := by
    rcases Nat.lt_or_ge j k with g | g
    · exact g
    · rw [List.getElem?_eq_none (by simpa using g)] at hj; cases hj
  have : x = (T e).zero := by rw [List.getElem?_replicate, if_pos hjk] at hj; cases hj; rfl
  subst this
  refine ⟨hlen, z.cells.toList, z3 _ _ _ _, fun q v hq => ⟨?_, z4 v (List.mem_of_getElem? hq)⟩⟩
  have hql : q < (T e).sz := by
    rw [← z2]
    rcases Nat.lt_or_ge q z.cells.size with g | g
    · exact g
    · rw [List.getElem?_eq_none (by simpa using g)] at hq; cases hq
  have hjz : j * (T e).sz + q < k * (T e).sz := by
    have : j * (T e).sz + (T e).sz ≤ k * (T e).sz := by rw [← Nat.succ_mul]; exact Nat.mul_le_mul_right _ (by omega)
    omega
  have hmod : (j * (T e).sz + q) % z.cells.size = q := by rw [z2, Nat.mul_comm, Nat.mul_add_mod]; exact Nat.mod_eq_of_lt hql
  rw [Array.getElem?_map, Array.getElem?_range, if_pos hjz]
  simp only [Option.map_some, hmod]
  have hqs : q < z.cells.size := by rw [z2]; exact hql
  have := hq
  simp only [Array.getElem?_toList] at this
  rw [getElem!_pos z.cells q hqs]
  rw [Array.getElem?_eq_getElem hqs] at this
  exact this

theorem buildSlice_sound (hT : TOk P T) (h : Sim c L I s a w) (d : Option Nat) (hd : ∀ x, d = some x → x < c.N) {t len dn : Nat} {parts : List (Nat × V)} {qs : Array (Nat × Value)}
    (hq : PartsOk w L c.B I parts qs.toList) (hok : AllOk ((effBuildSlice ⟨std, T⟩ dn t len parts).run s.ob).ok) (hn : newOk s.us ((effBuildSlice ⟨std, T⟩ dn t len parts).run s.ob).new = true) :
    Gives P c a w (Instr.buildSlice t len qs) s d ((effBuildSlice ⟨std, T⟩ dn t len parts).run s.ob) := by
  unfold effBuildSlice at hok hn ⊢
  cases ht : (T t).k <;> simp only [ht, Rd.run] at hok hn ⊢ <;> first | exact fail_elim hok | skip
  rename_i e
  cases hf : fillParts (T e).sz (List.replicate len (T e).zero) parts <;> simp only [hf, Rd.run, Rd.run_bind] at hok hn ⊢ <;> first | exact fail_elim hok | skip
  rename_i l
  cases hdat : (datLL std l).run s.ob with
  | mk o1 q1 =>
  obtain ⟨ps, fz⟩ := q1
  rw [hdat] at hok hn
  cases o1 <;> simp only [Rd.run] at hok hn ⊢ <;> first | exact fail_elim hok | skip
  rename_i l'
  cases hc : ((T e).known && nble 1 (T e).sz && nbeq (lenV (T e).zero) (T e).sz && nble (len * (T e).sz) 16777216) <;> simp only [hc, cond, Rd.run] at hok hn ⊢ <;> first | exact fail_elim hok | skip
  simp only [Bool.and_eq_true] at hc
  obtain ⟨⟨⟨c1, c2⟩, c3⟩, c4⟩ := hc
  have hsz1 := le_of_nble c2
  have hsmall := le_of_nble c4
  have hlen : (T e).zero.length = (T e).sz := by rw [← lenV_eq]; exact eq_of_nbeq c3
  obtain ⟨z, z1, z2, z3, z4⟩ := T_zero hT c1 hsz1 (eq_of_nbeq c3) w
  obtain ⟨cells, k1, k2, k3⟩ := fill_sound hq hf (zeros_inv (w := w) (L := L) (B := c.B) (I := I) hT z2 z3 z4 hlen len)
  rw [List.length_replicate] at k3
  have hrel : ∀ x ∈ l, ∃ vs, RelL w L c.B x I vs := by
    intro x hx
    obtain ⟨i, hi⟩ := List.getElem?_of_mem hx
    obtain ⟨_, vs, g, _⟩ := k2.2 i x hi
    exact ⟨vs, g⟩
  obtain ⟨d1, d2, d3, d4⟩ := datLL_sound h (z := (T e).sz) hdat hok hrel
  obtain ⟨I1, hI1, hS1⟩ := freezeAll h fz d1
  have hrun : (Instr.buildSlice t len qs).run P w = .ok (.slice (some ⟨w.heap.size, 0, none⟩) len len) (w.alloc (.cells cells e)) := by
    simp only [Instr.buildSlice, Sem.run_bind, run_underlying (T_slice hT ht), Result.andThen_ok, run_sizeOf hT (known_ne c1)]
    have hns : ¬ (len * (T e).sz > 2 ^ 24) := by omega
    simp only [hns, if_false]
    by_cases hz0 : len * (T e).sz = 0
    · have hl0 : len = 0 := by
        rcases Nat.eq_zero_or_pos len with g | g
        · exact g
        · have := Nat.mul_le_mul g hsz1; omega
      subst hl0
      simp only [Nat.zero_mul, if_true]
      simp only [Nat.zero_mul] at k1
      have e0 : ∀ g : Nat → Value, Array.map g (Array.range 0) = #[] := fun g => by simp
      rw [e0] at k1
      simp [e0, k1, run_newRow]
    · simp only [hz0, if_false, Sem.run_bind, z1, Result.andThen_ok, Sem.run_pure]
      rw [k1]
      simp [run_newRow]
  refine ⟨_, _, setL L (nid dn 0) (.at_ w.heap.size 0), I1, hrun, ?_⟩
  have hcs : cells.size = len * (T e).sz := by rw [k2.1, k3]
  refine Sim.putV (s := { s with ob := upO [(nid dn 0, _)] (upO fz s.ob), us := upU [(nid dn 0, _)] s.us }) ?_ d hd ?_
  · refine new_arr (s := { s with ob := upO fz s.ob }) hS1 hn e cells hsz1 (by rw [hcs]; exact Nat.le_refl _) fun i hi => ?_
    have hil : i < l.length := by omega
    obtain ⟨g1, vs, g2, g3⟩ := k2.2 i _ (List.getElem?_eq_getElem hil)
    obtain ⟨y, y1, y2, y3⟩ := d4 i _ vs (List.getElem?_eq_getElem hil) g2
    have hy := litElems_get l' 0 i y y1
    rw [Nat.zero_add] at hy
    simp only [hy]
    refine ⟨by rw [y2, g1], ?_⟩
    have hyv := y3 I1 _ hI1 (frozen_upO d1) hS1
    refine RelAt.of_vals y _ _ _ vs (RelL.mono (fun _ _ h => h) (Nat.le_refl _) _ _ _ _ ((evo_alloc w _ hS1.bnd).sub fun b hb => hb.1) (fun _ h => h)
      (cut_relL (d3 y (List.mem_of_getElem? y1)) (fun hh => freshLL_mem hh y (List.mem_of_getElem? y1)) (plain_n0L (d3 y (List.mem_of_getElem? y1)) hyv))) fun j u hj => ?_
    rw [alloc_cell]
    exact g3 j u hj
  · exact osl_new (Nat.le_refl _) (by rw [hcs]; exact Nat.le_refl _)

end Go.Desk
