/- V-logic, part 2: what abstract values and states say of the machine's memory. -/
import Derived.Test.YtmfbddhgfckfaaaVa
import Derived.Laws.World
import Derived.Laws.Sem
import Derived.Laws.Cells
import Derived.Laws.CopyRow
namespace Go.Desk
open Go
set_option linter.all false
set_option linter.unusedVariables false

inductive Loc where
  | nil
  | at_ (b base : Nat)
abbrev LMap := Nat → Option Loc

def cut (fr : Bool) (B : Nat) (I : Nat → Prop) : Nat → Prop := fun b => I b ∧ (fr = true → B ≤ b)

/-- data name no object -/
abbrev N0 : LMap := fun _ => none

mutual
def Rel (w : World) : LMap → Nat → V → (Nat → Prop) → Value → Prop
  | _, _, .un, _, _ => True
  | _, _, .und, _, v => v = undef
  | _, _, .bool b, _, v => v = .bool b
  | _, _, .int k n, _, v => v = .int k n
  | _, _, .flt k n, _, v => ∃ b, v = .float k b ∧ canon k b = n ∧ b < 2 ^ k.format.width
  | _, _, .str l, _, v => ∃ s, v = .string s ∧ s.data.toList = l
  | _, _, .nil, _, v => v = .slice none 0 0
  | _, _, .nptr, _, v => v = .pointer none
  | _, _, .ifc b, _, v => (b = false → v = .nilIface) ∧ (b = true → ∃ t x, v = .iface t x)
  | _, B, .sl fr dfr z n f, I, v => ∃ a cap, v = .slice a n cap ∧ n ≤ cap ∧ (0 < n → ∃ b off, a = some ⟨b, off, none⟩ ∧ cut fr B I b ∧
      ∀ i, i < n → (f i).length = z ∧ RelAt w N0 B (f i) (cut dfr B I) b (off + i * z))
  | L, B, .agg cs, I, v => ∃ vs, v = .agg vs ∧ RelL w L B cs I vs.toList
  | L, B, .tup cs, I, v => ∃ vs, v = .tuple vs ∧ RelL w L B cs I vs.toList
  | L, _, .ptr o off, _, v => ∃ b base, L o = some (.at_ b base) ∧ v = .pointer (some ⟨b, base + off, none⟩)
  | L, _, .eptr o z i off, _, v => ∃ b base, L o = some (.at_ b base) ∧ v = .pointer (some ⟨b, base + i * z + off, none⟩)
  | _, B, .dptr cs, I, v => ∃ b p, v = .pointer (some ⟨b, p, none⟩) ∧ I b ∧ RelAt w N0 B cs I b p
  | L, _, .osl o z lo n, _, v => ∃ l a cap, L o = some l ∧ v = .slice a n cap ∧ n ≤ cap ∧ ((n = 0 ∧ cap = 0) ∨ ∃ (b base : Nat) (c : Array Value) (e : TypeId), l = .at_ b base ∧
      a = some ⟨b, base + lo * z, none⟩ ∧ w.heap[b]? = some (Obj.cells c e (0, 0)) ∧ base + (lo + cap) * z ≤ c.size)
  | L, B, .fn f cap, I, v => ∃ vs, v = .func (.func f) #[] vs ∧ RelL w L B cap I vs.toList
def RelL (w : World) : LMap → Nat → List V → (Nat → Prop) → List Value → Prop
  | _, _, [], _, vs => vs = []
  | L, B, c :: cs, I, vs => ∃ v r, vs = v :: r ∧ Rel w L B c I v ∧ RelL w L B cs I r
def RelAt (w : World) : LMap → Nat → List V → (Nat → Prop) → Nat → Nat → Prop
  | _, _, [], _, _, _ => True
  | L, B, c :: cs, I, b, p => (∃ v, w.cell? ⟨b, p, none⟩ = some v ∧ v.oneCell' = true ∧ Rel w L B c I v) ∧ RelAt w L B cs I b (p + 1)
end

/-- memory goes on: what nobody writes stays; rows keep their size -/
structure Evo (w w' : World) (I : Nat → Prop) : Prop where
  same : ∀ b, I b → w'.heap[b]? = w.heap[b]?
  size : ∀ (b : Nat) (c : Array Value) (e : TypeId), w.heap[b]? = some (Obj.cells c e (0, 0)) → ∃ c' : Array Value, w'.heap[b]? = some (Obj.cells c' e (0, 0)) ∧ c'.size = c.size

theorem cell_of_block {w w' : World} {b p : Nat} (h : w'.heap[b]? = w.heap[b]?) : w'.cell? ⟨b, p, none⟩ = w.cell? ⟨b, p, none⟩ := by
  simp only [World.cell?, h]

theorem Evo.refl (w : World) (I : Nat → Prop) : Evo w w I := ⟨fun _ _ => rfl, fun b c e h => ⟨c, h, rfl⟩⟩
theorem Evo.trans {w w' w'' : World} {I : Nat → Prop} (h : Evo w w' I) (h' : Evo w' w'' I) : Evo w w'' I :=
  ⟨fun b hb => (h'.same b hb).trans (h.same b hb), fun b c e hc => by
    obtain ⟨c', h1, h2⟩ := h.size b c e hc
    obtain ⟨c'', h3, h4⟩ := h'.size b c' e h1
    exact ⟨c'', h3, h4.trans h2⟩⟩
theorem Evo.sub {w w' : World} {I J : Nat → Prop} (h : Evo w w' I) (hs : ∀ b, J b → I b) : Evo w w' J := ⟨fun b hb => h.same b (hs b hb), h.size⟩

mutual
theorem Rel.mono' {w w' : World} {B B' : Nat} (hB : B' ≤ B) :
    ∀ (v : V) (L L' : LMap) (hL : ∀ o l, L o = some l → L' o = some l) (I I' : Nat → Prop) (x : Value), Evo w w' I → (∀ b, I b → I' b) → Rel w L B v I x → Rel w' L' B' v I' x
  | .un, L, L', hL, _, _, _, _, _, _ => by simp [Rel]
  | .und, L, L', hL, _, _, _, _, _, h => by simpa [Rel] using h
  | .bool b, L, L', hL, _, _, _, _, _, h => by simpa [Rel] using h
  | .int k n, L, L', hL, _, _, _, _, _, h => by simpa [Rel] using h
  | .flt k n, L, L', hL, _, _, _, _, _, h => by simpa [Rel] using h
  | .str l, L, L', hL, _, _, _, _, _, h => by simpa [Rel] using h
  | .nil, L, L', hL, _, _, _, _, _, h => by simpa [Rel] using h
  | .nptr, L, L', hL, _, _, _, _, _, h => by simpa [Rel] using h
  | .ifc b, L, L', hL, _, _, _, _, _, h => by simpa [Rel] using h
  | .sl fr dfr z n f, L, L', hL, I, I', x, he, hI, h => by
    simp only [Rel] at h ⊢
    obtain ⟨a, cap, h1, h2, h3⟩ := h
    refine ⟨a, cap, h1, h2, fun hn => ?_⟩
    obtain ⟨b, off, h4, h5, h6⟩ := h3 hn
    have hc : ∀ r b, cut r B I b → cut r B' I' b := fun r b hb => ⟨hI b hb.1, fun h => Nat.le_trans hB (hb.2 h)⟩
    refine ⟨b, off, h4, hc _ b h5, fun i hi => ⟨(h6 i hi).1, ?_⟩⟩
    exact RelAt.mono' hB (f i) N0 N0 (fun _ _ h => h) _ _ b _ (he.sub fun b hb => hb.1) (hc _) (he.same b h5.1) (h6 i hi).2
  | .agg cs, L, L', hL, I, I', x, he, hI, h => by
    simp only [Rel] at h ⊢
    obtain ⟨vs, h1, h2⟩ := h
    exact ⟨vs, h1, RelL.mono' hB cs L L' hL _ _ _ he hI h2⟩
  | .tup cs, L, L', hL, I, I', x, he, hI, h => by
    simp only [Rel] at h ⊢
    obtain ⟨vs, h1, h2⟩ := h
    exact ⟨vs, h1, RelL.mono' hB cs L L' hL _ _ _ he hI h2⟩
  | .ptr o off, L, L', hL, _, _, _, _, _, h => by
    simp only [Rel] at h ⊢
    obtain ⟨b, base, h1, h2⟩ := h
    exact ⟨b, base, hL _ _ h1, h2⟩
  | .eptr o z i off, L, L', hL, _, _, _, _, _, h => by
    simp only [Rel] at h ⊢
    obtain ⟨b, base, h1, h2⟩ := h
    exact ⟨b, base, hL _ _ h1, h2⟩
  | .dptr cs, L, L', hL, I, I', x, he, hI, h => by
    simp only [Rel] at h ⊢
    obtain ⟨b, p, h1, h2, h3⟩ := h
    exact ⟨b, p, h1, hI b h2, RelAt.mono' hB cs N0 N0 (fun _ _ h => h) _ _ b p he hI (he.same b h2) h3⟩
  | .osl o z lo n, L, L', hL, _, _, _, he, _, h => by
    simp only [Rel] at h ⊢
    obtain ⟨l, a, cap, h1, h2, h3, h4⟩ := h
    refine ⟨l, a, cap, hL _ _ h1, h2, h3, h4.imp id ?_⟩
    rintro ⟨b, base, c, e, g1, g2, g3, g4⟩
    obtain ⟨c', g5, g6⟩ := he.size b c e g3
    exact ⟨b, base, c', e, g1, g2, g5, by omega⟩
  | .fn f cap, L, L', hL, I, I', x, he, hI, h => by
    simp only [Rel] at h ⊢
    obtain ⟨vs, h1, h2⟩ := h
    exact ⟨vs, h1, RelL.mono' hB cap L L' hL _ _ _ he hI h2⟩
theorem RelL.mono' {w w' : World} {B B' : Nat} (hB : B' ≤ B) :
    ∀ (cs : List V) (L L' : LMap) (hL : ∀ o l, L o = some l → L' o = some l) (I I' : Nat → Prop) (xs : List Value), Evo w w' I → (∀ b, I b → I' b) → RelL w L B cs I xs → RelL w' L' B' cs I' xs
  | [], L, L', hL, _, _, _, _, _, h => by simpa [RelL] using h
  | c :: cs, L, L', hL, I, I', xs, he, hI, h => by
    simp only [RelL] at h ⊢
    obtain ⟨v, r, h1, h2, h3⟩ := h
    exact ⟨v, r, h1, Rel.mono' hB c L L' hL _ _ _ he hI h2, RelL.mono' hB cs L L' hL _ _ _ he hI h3⟩
theorem RelAt.mono' {w w' : World} {B B' : Nat} (hB : B' ≤ B) :
    ∀ (cs : List V) (L L' : LMap) (hL : ∀ o l, L o = some l → L' o = some l) (I I' : Nat → Prop) (b p : Nat), Evo w w' I → (∀ b, I b → I' b) → w'.heap[b]? = w.heap[b]? → RelAt w L B cs I b p → RelAt w' L' B' cs I' b p
  | [], L, L', hL, _, _, _, _, _, _, _, _ => by simp [RelAt]
  | c :: cs, L, L', hL, I, I', b, p, he, hI, hb, h => by
    simp only [RelAt] at h ⊢
    obtain ⟨⟨v, h1, h1', h2⟩, h3⟩ := h
    exact ⟨⟨v, (cell_of_block hb).trans h1, h1', Rel.mono' hB c L L' hL _ _ _ he hI h2⟩, RelAt.mono' hB cs L L' hL _ _ b _ he hI hb h3⟩
end

theorem Rel.mono {w w' : World} {L L' : LMap} {B B' : Nat} (hL : ∀ o l, L o = some l → L' o = some l) (hB : B' ≤ B)
    (v : V) (I I' : Nat → Prop) (x : Value) (he : Evo w w' I) (hI : ∀ b, I b → I' b) (h : Rel w L B v I x) : Rel w' L' B' v I' x := Rel.mono' hB v L L' hL I I' x he hI h
theorem RelL.mono {w w' : World} {L L' : LMap} {B B' : Nat} (hL : ∀ o l, L o = some l → L' o = some l) (hB : B' ≤ B)
    (cs : List V) (I I' : Nat → Prop) (xs : List Value) (he : Evo w w' I) (hI : ∀ b, I b → I' b) (h : RelL w L B cs I xs) : RelL w' L' B' cs I' xs := RelL.mono' hB cs L L' hL I I' xs he hI h
theorem RelAt.mono {w w' : World} {L L' : LMap} {B B' : Nat} (hL : ∀ o l, L o = some l → L' o = some l) (hB : B' ≤ B)
    (cs : List V) (I I' : Nat → Prop) (b p : Nat) (he : Evo w w' I) (hI : ∀ b, I b → I' b) (hb : w'.heap[b]? = w.heap[b]?) (h : RelAt w L B cs I b p) : RelAt w' L' B' cs I' b p := RelAt.mono' hB cs L L' hL I I' b p he hI hb h
/-- what names no object does not ask where objects lie -/
theorem n0 {L' : LMap} : ∀ o l, N0 o = some l → L' o = some l := fun _ _ h => by cases h

def AObj.mut : AObj → Bool
  | .box _ | .arr .. => true
  | _ => false

def ObjOk (w : World) (L : LMap) (B : Nat) (I : Nat → Prop) (l : Loc) : AObj → Prop
  | .no => True
  | .box cs => ∃ (b base : Nat) (c : Array Value) (e : TypeId), l = .at_ b base ∧ w.heap[b]? = some (Obj.cells c e (0, 0)) ∧ RelAt w L B cs I b base
  | .arr own dfr z n f => 1 ≤ z ∧ ((n = 0 ∧ l = .nil) ∨ ∃ (b base : Nat) (c : Array Value) (e : TypeId), l = .at_ b base ∧ w.heap[b]? = some (Obj.cells c e (0, 0)) ∧ (own = true → B ≤ b) ∧
      base + n * z ≤ c.size ∧ ∀ i, i < n → (f i).length = z ∧ RelAt w N0 B (f i) (cut dfr B I) b (base + i * z))
  | .frz dfr z n f => 1 ≤ z ∧ ((n = 0 ∧ l = .nil) ∨ ∃ (b base : Nat) (c : Array Value) (e : TypeId), l = .at_ b base ∧ w.heap[b]? = some (Obj.cells c e (0, 0)) ∧ I b ∧ B ≤ b ∧
      base + n * z ≤ c.size ∧ ∀ i, i < n → (f i).length = z ∧ RelAt w N0 B (f i) (cut dfr B I) b (base + i * z))

theorem ObjOk.mono {w w' : World} {L L' : LMap} {B : Nat} {I I' : Nat → Prop} {l : Loc} {x : AObj} (hL : ∀ o l, L o = some l → L' o = some l)
    (he : Evo w w' I) (hI : ∀ b, I b → I' b) (hb : ∀ b base, l = .at_ b base → w'.heap[b]? = w.heap[b]?) (h : ObjOk w L B I l x) : ObjOk w' L' B I' l x := by
  have hc : ∀ dfr b, cut dfr B I b → cut dfr B I' b := fun _ b hb => ⟨hI b hb.1, hb.2⟩
  cases x with
  | no => trivial
  | box cs =>
    obtain ⟨b, base, c, e, h1, h2, h3⟩ := h
    exact ⟨b, base, c, e, h1, (hb _ _ h1).trans h2, RelAt.mono hL (Nat.le_refl _) cs _ _ b base he hI (hb _ _ h1) h3⟩
  | arr own dfr z n f =>
    refine ⟨h.1, h.2.imp id ?_⟩
    rintro ⟨b, base, c, e, h1, h2, h3, h4, h5⟩
    exact ⟨b, base, c, e, h1, (hb _ _ h1).trans h2, h3, h4, fun i hi => ⟨(h5 i hi).1,
      RelAt.mono (fun _ _ h => h) (Nat.le_refl _) (f i) _ _ b _ (he.sub fun b hb => hb.1) (hc dfr) (hb _ _ h1) (h5 i hi).2⟩⟩
  | frz dfr z n f =>
    refine ⟨h.1, h.2.imp id ?_⟩
    rintro ⟨b, base, c, e, h1, h2, h3, h4, h5, h6⟩
    exact ⟨b, base, c, e, h1, (hb _ _ h1).trans h2, hI b h3, h4, h5, fun i hi => ⟨(h6 i hi).1,
      RelAt.mono (fun _ _ h => h) (Nat.le_refl _) (f i) _ _ b _ (he.sub fun b hb => hb.1) (hc dfr) (hb _ _ h1) (h6 i hi).2⟩⟩

/-- what the call leaves alone: blocks that were there, but for those lent to it (X), whose rows keep their size -/
structure Keeps (w0 : World) (X : Nat → Prop) (w : World) : Prop where
  le : w0.heap.size ≤ w.heap.size
  same : ∀ b, b < w0.heap.size → ¬ X b → w.heap[b]? = w0.heap[b]?
  size : ∀ (b : Nat) (c : Array Value) (e : TypeId), w0.heap[b]? = some (Obj.cells c e (0, 0)) → ∃ c' : Array Value, w.heap[b]? = some (Obj.cells c' e (0, 0)) ∧ c'.size = c.size
  os : w.os = w0.os
  outp : w.output = w0.output
  frz : ∀ a, w.frozen? a = w0.frozen? a

/-- what a call begins with -/
structure Ctx where
  w0 : World
  X : Nat → Prop
  N : Nat
  M : Nat
  L0 : LMap
  I0 : Nat → Prop
abbrev Ctx.B (c : Ctx) : Nat := c.w0.heap.size

structure Sim (c : Ctx) (L : LMap) (I : Nat → Prop) (s : St) (a : Act) (w : World) : Prop where
  tm : ∀ t, Rel w L c.B (s.tm t) I (a.tmps.getD t undef)
  ob : ∀ o, s.ob o ≠ .no → ∃ l, L o = some l ∧ ObjOk w L c.B I l (s.ob o)
  sep : ∀ o o' b base base', (s.ob o).mut = true → (s.ob o').mut = true → L o = some (.at_ b base) → L o' = some (.at_ b base') → o = o'
  imm : ∀ o b base, (s.ob o).mut = true → L o = some (.at_ b base) → ¬ I b
  dom : ∀ o b base, (s.ob o).mut = true → L o = some (.at_ b base) → c.B ≤ b ∨ c.X b
  us : ∀ o, s.us o = false → L o = none
  bnd : ∀ b, I b → b < w.heap.size
  lim : ∀ b, I b → c.I0 b ∨ c.B ≤ b
  bor : ∀ j, j < c.M → L j = c.L0 j
  df : a.defers = []
  sz : a.tmps.size = c.N
  keep : Keeps c.w0 c.X w
  few : c.M ≤ 16

end Go.Desk
