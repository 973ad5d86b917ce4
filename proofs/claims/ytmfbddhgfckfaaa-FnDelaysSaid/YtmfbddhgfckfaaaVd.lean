/- V-logic, part 4: steps on memory keep the relation. -/
import Derived.Test.YtmfbddhgfckfaaaVc
import Derived.Laws.Append
import Derived.Laws.AppendOwn
import Derived.Laws.CopyRow
import Derived.Laws.World
namespace Go.Desk
open Go
set_option linter.all false
set_option linter.unusedVariables false

variable {c : Ctx} {L : LMap} {I : Nat → Prop} {s : St} {a : Act} {w : World}

theorem getD_setIfInBounds (t : Array Value) (d i : Nat) (x u : Value) (hd : d < t.size) : (t.setIfInBounds d x).getD i u = if i = d then x else t.getD i u := by
  simp only [Array.getD_eq_getD_getElem?]
  by_cases h : i = d
  · subst h; simp [hd]
  · simp [h, Array.getElem?_setIfInBounds_ne (fun e => h e.symm)]

theorem beq_f {a b : Nat} (h : a ≠ b) : nbeq a b = false := by
  cases hh : nbeq a b
  · rfl
  · exact absurd (eq_of_nbeq hh) h
theorem beq_t (a : Nat) : nbeq a a = true := nbeq_refl a

theorem Sim.putV (h : Sim c L I s a w) (d : Option Nat) (hd : ∀ x, d = some x → x < c.N) {v : V} {x : Value} (hv : Rel w L c.B v I x) :
    Sim c L I (s.putO d v) (a.put d x) w := by
  cases d with
  | none => exact h
  | some d =>
    have hd' : d < a.tmps.size := by rw [h.sz]; exact hd d rfl
    refine { h with tm := fun t => ?_, sz := ?_ }
    · simp only [St.putO, St.put, Act.put, getD_setIfInBounds _ _ _ _ _ hd']
      by_cases e : t = d
      · subst e; simpa [beq_t] using hv
      · have : nbeq t d = false := beq_f e
        simp only [this, e, if_false, cond]; exact h.tm t
    · simp only [Act.put, Array.size_setIfInBounds]; exact h.sz

theorem Sim.drew (h : Sim c L I s a w) : Sim c L I s a w.drew := by
  have he : Evo w w.drew I := ⟨fun _ _ => rfl, fun b c e hc => ⟨c, hc, rfl⟩⟩
  have hL : ∀ o l, L o = some l → L o = some l := fun _ _ h => h
  refine { h with tm := fun t => Rel.mono hL (Nat.le_refl _) _ _ _ _ he (fun _ h => h) (h.tm t), ob := fun o ho => ?_, bnd := h.bnd, keep := ⟨h.keep.le, h.keep.same, h.keep.size, h.keep.os, h.keep.outp, h.keep.frz⟩ }
  obtain ⟨l, h1, h2⟩ := h.ob o ho
  exact ⟨l, h1, h2.mono hL he (fun _ h => h) (fun _ _ _ => rfl)⟩

/-- one step of the world for everything at once -/
theorem Sim.evo {w' : World} {L' : LMap} {I' : Nat → Prop} (h : Sim c L I s a w) (hL : ∀ o l, L o = some l → L' o = some l) (hus : ∀ o, s.us o = false → L' o = none)
    (he : Evo w w' I) (hI : ∀ b, I b → I' b) (hb : ∀ o b base, s.ob o ≠ .no → L o = some (.at_ b base) → w'.heap[b]? = w.heap[b]?)
    (himm : ∀ o b base, (s.ob o).mut = true → L' o = some (.at_ b base) → ¬ I' b) (hbnd : ∀ b, I' b → b < w'.heap.size) (hlim : ∀ b, I' b → c.I0 b ∨ c.B ≤ b)
    (hsep : ∀ o l, s.ob o ≠ .no → L' o = some l → L o = some l) (hbor : ∀ j, j < c.M → L' j = c.L0 j)
    (hk : Keeps c.w0 c.X w') : Sim c L' I' s a w' where
  tm t := Rel.mono hL (Nat.le_refl _) _ _ _ _ he hI (h.tm t)
  ob o ho := by
    obtain ⟨l, h1, h2⟩ := h.ob o ho
    exact ⟨l, hL _ _ h1, h2.mono hL he hI (fun b base e => hb o b base ho (e ▸ h1))⟩
  sep o o' b base base' m m' e e' := h.sep o o' b base base' m m' (hsep _ _ (by intro h; rw [h] at m; cases m) e) (hsep _ _ (by intro h; rw [h] at m'; cases m') e')
  imm := himm
  dom o b base m e := h.dom o b base m (hsep _ _ (by intro h; rw [h] at m; cases m) e)
  us := hus
  bnd := hbnd
  lim := hlim
  bor := hbor
  df := h.df
  sz := h.sz
  few := h.few
  keep := hk

theorem frozen_of_block {w w' : World} {a : Addr} (h : w'.heap[a.block]? = w.heap[a.block]?) : w'.frozen? a = w.frozen? a := by
  simp only [World.frozen?, h]
theorem frozen_zero {w : World} {a : Addr} {cs : Array Value} {e : TypeId} (h : w.heap[a.block]? = some (.cells cs e (0, 0))) : w.frozen? a = false := by
  simp [World.frozen?, h]
theorem keeps_alloc {vs : Array Value} {e0 : TypeId} (h : Keeps c.w0 c.X w) : Keeps c.w0 c.X (w.alloc (.cells vs e0)) := by
  let o : Obj := .cells vs e0
  have hs : ∀ b, b < w.heap.size → (w.alloc (.cells vs e0)).heap[b]? = w.heap[b]? := fun b hb => by
    change (w.heap.push o)[b]? = w.heap[b]?
    simp [Array.getElem?_push, Nat.ne_of_lt hb]
  refine ⟨by simp; exact Nat.le_succ_of_le h.le, fun b hb hx => (hs b (Nat.lt_of_lt_of_le hb h.le)).trans (h.same b hb hx), fun b cs e hc => ?_, h.os, h.outp, fun a => ?_⟩
  rotate_left
  · rw [← h.frz a]
    rcases Nat.lt_trichotomy a.block w.heap.size with g | g | g
    · exact frozen_of_block (hs _ g)
    · have e1 : (w.alloc (.cells vs e0)).heap[a.block]? = some (.cells vs e0 (0, 0)) := by
        change (w.heap.push o)[a.block]? = _
        rw [g]; simp [o]
      have e2 : w.heap[a.block]? = none := by rw [g]; simp
      rw [frozen_zero e1]; simp [World.frozen?, e2]
    · have e1 : (w.alloc (.cells vs e0)).heap[a.block]? = none := by
        change (w.heap.push o)[a.block]? = none
        apply Array.getElem?_eq_none; simp; omega
      have e2 : w.heap[a.block]? = none := by apply Array.getElem?_eq_none; omega
      simp [World.frozen?, e1, e2]
  obtain ⟨c', h1, h2⟩ := h.size b cs e hc
  have : b < w.heap.size := by
    rcases Nat.lt_or_ge b w.heap.size with g | g
    · exact g
    · simp [Array.getElem?_eq_none g] at h1
  exact ⟨c', (hs b this).trans h1, h2⟩

theorem heap_lt {w : World} {b : Nat} {x : Obj} (h : w.heap[b]? = some x) : b < w.heap.size := by
  rcases Nat.lt_or_ge b w.heap.size with g | g
  · exact g
  · simp [Array.getElem?_eq_none g] at h

theorem alloc_old (w : World) (o : Obj) {b : Nat} (hb : b < w.heap.size) : (w.alloc o).heap[b]? = w.heap[b]? := by
  change (w.heap.push o)[b]? = w.heap[b]?
  simp [Array.getElem?_push, Nat.ne_of_lt hb]
theorem alloc_new (w : World) (o : Obj) : (w.alloc o).heap[w.heap.size]? = some o := by
  change (w.heap.push o)[w.heap.size]? = some o
  simp
theorem evo_alloc (w : World) (o : Obj) {I : Nat → Prop} (hb : ∀ b, I b → b < w.heap.size) : Evo w (w.alloc o) I :=
  ⟨fun b h => alloc_old w o (hb b h), fun b c e h => ⟨c, (alloc_old w o (heap_lt h)).trans h, rfl⟩⟩

theorem ObjOk.lt {B : Nat} {b base : Nat} {x : AObj} (hx : x ≠ .no) (h : ObjOk w L B I (.at_ b base) x) : b < w.heap.size := by
  cases x with
  | no => exact absurd rfl hx
  | box cs => obtain ⟨b', base', cc, e, g1, g2, _⟩ := h; cases g1; exact heap_lt g2
  | arr own dfr z n f =>
    rcases h.2 with ⟨_, g⟩ | ⟨b', base', cc, e, g1, g2, _⟩
    · cases g
    · cases g1; exact heap_lt g2
  | frz dfr z n f =>
    rcases h.2 with ⟨_, g⟩ | ⟨b', base', cc, e, g1, g2, _⟩
    · cases g
    · cases g1; exact heap_lt g2

theorem Sim.lt (h : Sim c L I s a w) {o b base : Nat} (ho : s.ob o ≠ .no) (hl : L o = some (.at_ b base)) : b < w.heap.size := by
  obtain ⟨l, h1, h2⟩ := h.ob o ho
  rw [hl] at h1; cases h1
  exact h2.lt ho

theorem AObj.ne_of_mut {x : AObj} (h : x.mut = true) : x ≠ .no := by intro e; rw [e] at h; cases h

/-- a block that no object names is made: the relation stays -/
theorem Sim.alloc (h : Sim c L I s a w) (vs : Array Value) (e : TypeId) : Sim c L I s a (w.alloc (.cells vs e)) :=
  h.evo (fun _ _ h => h) h.us (evo_alloc w _ h.bnd) (fun _ h => h) (fun o' b base ho hl => alloc_old w _ (h.lt ho hl)) h.imm
    (fun b hb => by simp; exact Nat.lt_succ_of_lt (h.bnd b hb)) h.lim (fun _ _ _ h => h) h.bor (keeps_alloc h.keep)

def setL (L : LMap) (o : Nat) (l : Loc) : LMap := fun i => if i = o then some l else L i
theorem setL_ext {L : LMap} {o : Nat} (ho : L o = none) (l : Loc) : ∀ i x, L i = some x → setL L o l i = some x := by
  intro i x hx
  unfold setL
  split
  · rename_i e; subst e; rw [ho] at hx; cases hx
  · exact hx

/-- a new object, in the memory that is there already -/
theorem Sim.addO (h : Sim c L I s a w) (o : Nat) (x : AObj) (l : Loc) (ho : s.us o = false) (hM : c.M ≤ o)
    (hx : ObjOk w (setL L o l) c.B I l x) (hl : ∀ b base, l = .at_ b base → c.B ≤ b ∧ ¬ I b ∧ ∀ o' base', s.ob o' ≠ .no → L o' ≠ some (.at_ b base')) :
    Sim c (setL L o l) I { s with ob := upO [(o, x)] s.ob, us := upU [(o, x)] s.us } a w := by
  have hno : L o = none := h.us o ho
  have hL := setL_ext hno l
  have hnob : s.ob o = .no := by
    cases hh : s.ob o with
    | no => rfl
    | _ =>
      obtain ⟨l', h1, _⟩ := h.ob o (by rw [hh]; simp)
      rw [hno] at h1; cases h1
  have hob : ∀ i, upO [(o, x)] s.ob i = if i = o then x else s.ob i := by
    intro i
    simp only [upO]
    by_cases e : i = o
    · subst e; simp
    · simp [beq_f e, e]
  have hset : ∀ i, i ≠ o → setL L o l i = L i := fun i e => by simp [setL, e]
  have hseto : setL L o l o = some l := by simp [setL]
  refine { h with tm := fun t => Rel.mono hL (Nat.le_refl _) _ _ _ _ (Evo.refl w I) (fun _ h => h) (h.tm t), ob := ?_, sep := ?_, imm := ?_, dom := ?_, us := ?_, bor := ?_ }
  · intro i hi
    simp only [hob] at hi ⊢
    by_cases e : i = o
    · subst e; rw [if_pos rfl] at hi ⊢; exact ⟨l, hseto, hx⟩
    · rw [if_neg e] at hi ⊢
      obtain ⟨l', h1, h2⟩ := h.ob i hi
      exact ⟨l', (hset i e).trans h1, h2.mono hL (Evo.refl w I) (fun _ h => h) (fun _ _ _ => rfl)⟩
  · intro i j b base base' mi mj ei ej
    simp only [hob] at mi mj
    by_cases e : i = o
    · by_cases e' : j = o
      · rw [e, e']
      · rw [if_neg e'] at mj
        rw [e, hseto] at ei; rw [hset j e'] at ej
        cases ei
        exact absurd ej ((hl b base rfl).2.2 j base' (AObj.ne_of_mut mj))
    · rw [if_neg e] at mi; rw [hset i e] at ei
      by_cases e' : j = o
      · rw [e', hseto] at ej; cases ej
        exact absurd ei ((hl b base' rfl).2.2 i base (AObj.ne_of_mut mi))
      · rw [if_neg e'] at mj; rw [hset j e'] at ej
        exact h.sep i j b base base' mi mj ei ej
  · intro i b base mi ei
    simp only [hob] at mi
    by_cases e : i = o
    · rw [e, hseto] at ei; cases ei; exact (hl b base rfl).2.1
    · rw [if_neg e] at mi; rw [hset i e] at ei; exact h.imm i b base mi ei
  · intro i b base mi ei
    simp only [hob] at mi
    by_cases e : i = o
    · rw [e, hseto] at ei; cases ei; exact .inl (hl b base rfl).1
    · rw [if_neg e] at mi; rw [hset i e] at ei; exact h.dom i b base mi ei
  · intro i hi
    simp only [upU] at hi
    by_cases e : i = o
    · subst e; simp at hi
    · rw [hset i e]; simp only [beq_f e, cond] at hi; exact h.us i hi
  · intro j hj
    rw [hset j (by omega)]; exact h.bor j hj

/-- a new object in a new block -/
theorem Sim.newO (h : Sim c L I s a w) (o : Nat) (x : AObj) (cells : Array Value) (e : TypeId) (ho : s.us o = false) (hM : c.M ≤ o)
    (hx : ObjOk (w.alloc (.cells cells e)) (setL L o (.at_ w.heap.size 0)) c.B I (.at_ w.heap.size 0) x) :
    Sim c (setL L o (.at_ w.heap.size 0)) I { s with ob := upO [(o, x)] s.ob, us := upU [(o, x)] s.us } a (w.alloc (.cells cells e)) := by
  refine (h.alloc cells e).addO o x _ ho hM hx ?_
  intro b base hb
  cases hb
  refine ⟨h.keep.le, fun hI => absurd (h.bnd _ hI) (Nat.lt_irrefl _), fun o' base' ho' hl => absurd (h.lt ho' hl) (Nat.lt_irrefl _)⟩

/-- an object gives up its place in the table -/
theorem Sim.drop (h : Sim c L I s a w) (o : Nat) : Sim c L I { s with ob := upO [(o, .no)] s.ob } a w := by
  have hob : ∀ i, upO [(o, AObj.no)] s.ob i = if i = o then .no else s.ob i := by
    intro i
    simp only [upO]
    by_cases e : i = o
    · subst e; simp
    · simp [beq_f e, e]
  refine { h with tm := h.tm, ob := ?_, sep := ?_, imm := ?_, dom := ?_ }
  · intro i hi
    simp only [hob] at hi ⊢
    by_cases e : i = o
    · rw [if_pos e] at hi; exact absurd rfl hi
    · rw [if_neg e] at hi ⊢; exact h.ob i hi
  · intro i j b base base' mi mj ei ej
    simp only [hob] at mi mj
    by_cases e : i = o
    · rw [if_pos e] at mi; cases mi
    · by_cases e' : j = o
      · rw [if_pos e'] at mj; cases mj
      · rw [if_neg e] at mi; rw [if_neg e'] at mj; exact h.sep i j b base base' mi mj ei ej
  · intro i b base mi ei
    simp only [hob] at mi
    by_cases e : i = o
    · rw [if_pos e] at mi; cases mi
    · rw [if_neg e] at mi; exact h.imm i b base mi ei
  · intro i b base mi ei
    simp only [hob] at mi
    by_cases e : i = o
    · rw [if_pos e] at mi; cases mi
    · rw [if_neg e] at mi; exact h.dom i b base mi ei

/-- an object's row is written -/
theorem Sim.updO (h : Sim c L I s a w) (o : Nat) (x' : AObj) {w' : World} {b base : Nat} {cs cs' : Array Value} {e : TypeId} (hm : (s.ob o).mut = true) (hm' : x'.mut = true)
    (hl : L o = some (.at_ b base)) (hos : w'.os = w.os ∧ w'.output = w.output) (hsz : w'.heap.size = w.heap.size) (hoth : ∀ k, k ≠ b → w'.heap[k]? = w.heap[k]?) (hb : w.heap[b]? = some (.cells cs e (0, 0)))
    (hb' : w'.heap[b]? = some (.cells cs' e (0, 0))) (hcs : cs'.size = cs.size) (hx : Evo w w' I → ObjOk w' L c.B I (.at_ b base) x') :
    Sim c L I { s with ob := upO [(o, x')] s.ob } a w' := by
  have hL : ∀ o l, L o = some l → L o = some l := fun _ _ h => h
  have hIb : ¬ I b := h.imm o b base hm hl
  have he : Evo w w' I := by
    refine ⟨fun k hk => hoth k (fun e => hIb (e ▸ hk)), fun k q e' hq => ?_⟩
    by_cases ek : k = b
    · subst ek; rw [hb] at hq; cases hq; exact ⟨cs', hb', hcs⟩
    · exact ⟨q, (hoth k ek).trans hq, rfl⟩
  have hob : ∀ i, upO [(o, x')] s.ob i = if i = o then x' else s.ob i := by
    intro i
    simp only [upO]
    by_cases e : i = o
    · subst e; simp
    · simp [beq_f e, e]
  have mutob : ∀ i, (upO [(o, x')] s.ob i).mut = true → (s.ob i).mut = true := by
    intro i hi
    rw [hob] at hi
    by_cases e : i = o
    · subst e; exact hm
    · rwa [if_neg e] at hi
  refine { h with tm := fun t => Rel.mono hL (Nat.le_refl _) _ _ _ _ he (fun _ h => h) (h.tm t), ob := ?_, sep := ?_, imm := ?_, dom := ?_, bnd := ?_, keep := ?_ }
  · intro i hi
    simp only [hob] at hi ⊢
    by_cases ei : i = o
    · subst ei; rw [if_pos rfl] at hi ⊢; exact ⟨_, hl, hx he⟩
    · rw [if_neg ei] at hi ⊢
      obtain ⟨l', h1, h2⟩ := h.ob i hi
      refine ⟨l', h1, h2.mono hL he (fun _ h => h) (fun k base' hk => hoth k ?_)⟩
      intro ek
      subst hk; subst ek
      cases hmi : (s.ob i).mut
      · cases hs : s.ob i with
        | no => exact hi hs
        | box _ => rw [hs] at hmi; cases hmi
        | arr _ _ _ _ _ => rw [hs] at hmi; cases hmi
        | frz d z n f =>
          rw [hs] at h2
          rcases h2.2 with ⟨_, g⟩ | ⟨b', base'', cc, e'', g1, g2, g3, _⟩
          · cases g
          · cases g1; exact hIb g3
      · exact ei (h.sep i o k base' base hmi hm h1 hl)
  · intro i j k base1 base2 mi mj ei ej
    exact h.sep i j k base1 base2 (mutob i mi) (mutob j mj) ei ej
  · exact fun i k base' mi ei => h.imm i k base' (mutob i mi) ei
  · exact fun i k base' mi ei => h.dom i k base' (mutob i mi) ei
  · exact fun k hk => by rw [hsz]; exact h.bnd k hk
  · refine ⟨by rw [hsz]; exact h.keep.le, fun k hk hX => ?_, fun k q e' hq => ?_, hos.1.trans h.keep.os, hos.2.trans h.keep.outp, fun a => ?_⟩
    · refine (hoth k ?_).trans (h.keep.same k hk hX)
      intro ek; subst ek
      rcases h.dom o k base hm hl with g | g
      · exact absurd hk (Nat.not_lt.2 g)
      · exact hX g
    · obtain ⟨q', h1, h2⟩ := h.keep.size k q e' hq
      by_cases ek : k = b
      · subst ek; rw [hb] at h1; cases h1; exact ⟨cs', hb', hcs.trans h2⟩
      · exact ⟨q', (hoth k ek).trans h1, h2⟩
    · rw [← h.keep.frz a]
      by_cases ek : a.block = b
      · subst ek; rw [frozen_zero hb, frozen_zero hb']
      · exact frozen_of_block (hoth _ ek)

/-- an own array is frozen -/
def addI (I : Nat → Prop) (L : LMap) (o : Nat) : Nat → Prop := fun b => I b ∨ ∃ base, L o = some (.at_ b base)
theorem Sim.freeze (h : Sim c L I s a w) (o : Nat) {dfr : Bool} {z n : Nat} {f : Nat → List V} (ho : s.ob o = .arr true dfr z n f) :
    Sim c L (addI I L o) { s with ob := upO [(o, .frz dfr z n f)] s.ob } a w := by
  have hL : ∀ o l, L o = some l → L o = some l := fun _ _ h => h
  have hI : ∀ b, I b → addI I L o b := fun b hb => .inl hb
  have hm : (s.ob o).mut = true := by rw [ho]; rfl
  obtain ⟨l, h1, h2⟩ := h.ob o (AObj.ne_of_mut hm)
  rw [ho] at h2
  have hob : ∀ i, upO [(o, AObj.frz dfr z n f)] s.ob i = if i = o then .frz dfr z n f else s.ob i := by
    intro i
    simp only [upO]
    by_cases e : i = o
    · subst e; simp
    · simp [beq_f e, e]
  have mutob : ∀ i, (upO [(o, AObj.frz dfr z n f)] s.ob i).mut = true → (s.ob i).mut = true ∧ i ≠ o := by
    intro i hi
    rw [hob] at hi
    by_cases e : i = o
    · rw [if_pos e] at hi; cases hi
    · rw [if_neg e] at hi; exact ⟨hi, e⟩
  refine { h with tm := fun t => Rel.mono hL (Nat.le_refl _) _ _ _ _ (Evo.refl w I) hI (h.tm t), ob := ?_, sep := ?_, imm := ?_, dom := ?_, bnd := ?_, lim := ?_ }
  · intro i hi
    simp only [hob] at hi ⊢
    by_cases ei : i = o
    · subst ei; rw [if_pos rfl] at hi ⊢
      refine ⟨l, h1, h2.1, h2.2.imp id ?_⟩
      rintro ⟨b, base, cc, e, g1, g2, g3, g4, g5⟩
      subst g1
      exact ⟨b, base, cc, e, rfl, g2, .inr ⟨base, h1⟩, g3 rfl, g4, fun i hi => ⟨(g5 i hi).1, RelAt.mono (fun _ _ h => h) (Nat.le_refl _) _ _ _ _ _ (Evo.refl w _) (fun b hb => ⟨hI b hb.1, hb.2⟩) rfl (g5 i hi).2⟩⟩
    · rw [if_neg ei] at hi ⊢
      obtain ⟨l', g1, g2⟩ := h.ob i hi
      exact ⟨l', g1, g2.mono hL (Evo.refl w I) hI (fun _ _ _ => rfl)⟩
  · exact fun i j k b1 b2 mi mj ei ej => h.sep i j k b1 b2 (mutob i mi).1 (mutob j mj).1 ei ej
  · intro i k base mi ei
    have := mutob i mi
    rintro (g | ⟨base', g⟩)
    · exact h.imm i k base this.1 ei g
    · exact this.2 (h.sep i o k base base' this.1 hm ei g)
  · exact fun i k b1 mi ei => h.dom i k b1 (mutob i mi).1 ei
  · rintro k (g | ⟨base, g⟩)
    · exact h.bnd k g
    · exact h.lt (AObj.ne_of_mut hm) g
  · rintro k (g | ⟨base, g⟩)
    · exact h.lim k g
    · rw [h1] at g; cases g
      rcases h2.2 with ⟨_, g⟩ | ⟨b, base, cc, e, g1, g2, g3, _⟩
      · cases g
      · cases g1; exact .inr (g3 rfl)

end Go.Desk
