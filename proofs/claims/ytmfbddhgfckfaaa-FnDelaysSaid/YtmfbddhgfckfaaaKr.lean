/- From a contract to the row of a law that takes two slices of bytes. -/
import Derived.Test.YtmfbddhgfckfaaaKc
import Derived.WalkKit
import Derived.ProofKit
import Derived.OpenShut
import Derived.ChangeOld
import Derived.Below
import Derived.Carry
namespace Go.Desk
open Go
set_option linter.all false

def IsRow (k : IntKind) (w : World) (a : Option Addr) (len cap : Nat) (zs : List Int) : Prop :=
  (a = none ∧ len = 0 ∧ cap = 0 ∧ zs = []) ∨
  ∃ x, a = some x ∧ len ≤ cap ∧ cap ≤ maxLen ∧ zs.length = cap ∧ (∀ i, i < zs.length → w.cell? (x.add i) = some (.int k (zs.getD i 0))) ∧ ∀ n ∈ zs, (Lit.int k n).wf = true

def bytesV (l : List Int) : V := .sl false false 1 (std.llen l) (fun i => [.int .u8 (std.lget l i 0)])

theorem cell_lt {w : World} {a : Addr} {v : Value} (h : w.cell? a = some v) : a.block < w.heap.size ∧ a.spot = none := by
  unfold World.cell? at h
  split at h
  · rename_i hb
    split at h
    · cases h
    · refine ⟨?_, ?_⟩
      · rcases Nat.lt_or_ge a.block w.heap.size with hlt | hge
        · exact hlt
        · rw [Array.getElem?_eq_none hge] at hb; cases hb
      · cases hs : a.spot with
        | none => rfl
        | some s => rename_i hn; rw [hs] at hn; exact absurd rfl hn
  · cases h

theorem rel_bytes {w : World} {a : Option Addr} {len cap : Nat} {zs : List Int} (h : IsRow .u8 w a len cap zs) :
    Rel w N0 w.heap.size (bytesV (zs.take len)) (fun b => b < w.heap.size) (.slice a len cap) := by
  unfold bytesV
  simp only [Rel]
  rcases h with ⟨rfl, rfl, rfl, rfl⟩ | ⟨x, rfl, h1, h2, h3, h4, h5⟩
  · exact ⟨none, 0, rfl, Nat.le_refl _, fun hn => by simp [std] at hn⟩
  · have hl : std.llen (zs.take len) = len := by simp only [std, List.length_take]; omega
    refine ⟨some x, cap, by rw [hl], by rw [hl]; exact h1, fun hn => ?_⟩
    rw [hl] at hn
    have c0 := cell_lt (h4 0 (by omega))
    obtain ⟨b, off, spot⟩ := x
    simp only [Addr.add, if_true] at c0
    obtain ⟨c1, c2⟩ := c0
    subst c2
    refine ⟨b, off, rfl, ⟨c1, fun h => by cases h⟩, fun i hi => ⟨rfl, ?_⟩⟩
    rw [hl] at hi
    simp only [RelAt, and_true]
    have hc := h4 i (by omega)
    have e : Addr.add ⟨b, off, none⟩ i = ⟨b, off + i * 1, none⟩ := by
      unfold Addr.add
      split
      · subst i; simp
      · simp
    rw [e] at hc
    refine ⟨_, hc, rfl, ?_⟩
    have e2 : std.lget (zs.take len) i 0 = zs.getD i 0 := by
      simp only [std, List.getD_eq_getElem?_getD, List.getElem?_take, hi, if_true]
    rw [e2]
    simp only [Rel]

theorem keeps_grown {w w' : World} (h : Keeps w (fun _ => False) w') (may : MemPlace → Prop) : w.keptBut w' may := by
  refine ⟨h.os, h.outp, fun i hi => ?_⟩
  rw [h.same i hi (fun f => f)]
  split <;> simp_all
theorem keeps_same {w w' : World} (h : Keeps w (fun _ => False) w') {p : MemPlace} (hp : p.block < w.heap.size) : w.sameAt w' p := by
  cases p with
  | cell b o => exact World.cell?_of_block (w := w) (h.same b hp (fun f => f))
  | map b => exact h.same b hp (fun f => f)

theorem walk2 {g : Nat} {fn : Func} (hf : Prg.funcs[g]? = some fn) (hname : ¬ fn.name = "runtime.NumGoroutine") {c : Code} (hb : fn.body = some c) {l0 l1 : List Int}
    (hcon : Con Prg g [] [bytesV l0, bytesV l1] (.bool true) []) {w : World} {x0 x1 : Value}
    (h0 : Rel w N0 w.heap.size (bytesV l0) (fun b => b < w.heap.size) x0) (h1 : Rel w N0 w.heap.size (bytesV l1) (fun b => b < w.heap.size) x1) :
    Calls Prg g #[x0, x1] w fun e w' => e = .returned (.bool true) ∧ Keeps w (fun _ => False) w' := by
  have pre : ConPre w N0 (fun b => b < w.heap.size) [] [bytesV l0, bytesV l1] #[x0, x1] :=
    { few := by simp
      bnd := fun b h => h
      args := by simp only [RelL]; exact ⟨x0, [x1], rfl, h0, x1, [], rfl, h1, rfl⟩
      obj := fun j x hx => by simp at hx
      no := fun j _ => rfl
      sep := fun j k b base base' h => by simp at h
      imm := fun j b base h => by simp at h }
  have key := hcon w N0 (fun b => b < w.heap.size) #[x0, x1] pre
  have done : Calls Prg g #[x0, x1] w fun e w' => ∃ v L', e = .returned v ∧ ConPost w N0 (fun b => b < w.heap.size) [] (.bool true) [] w' L' v := by
    rcases key with ⟨_, h⟩ | ⟨v, w', h, _⟩
    · exact h
    · exfalso
      have : (callFunc g #[x0, x1]).run Prg w = .ok (.enter g #[x0, x1]) w := by simp [callFunc, hf, hname, hb]
      rw [this] at h
      cases h
  refine done.mono fun e w' => ?_
  rintro ⟨v, L', rfl, post⟩
  have hr := post.res
  simp only [Rel] at hr
  subst hr
  refine ⟨rfl, ?_⟩
  exact ⟨post.keep.le, fun b hb _ => post.keep.same b hb (by rintro ⟨j, base, hj, _⟩; simp at hj), post.keep.size, post.keep.os, post.keep.outp, post.keep.frz⟩

end Go.Desk
