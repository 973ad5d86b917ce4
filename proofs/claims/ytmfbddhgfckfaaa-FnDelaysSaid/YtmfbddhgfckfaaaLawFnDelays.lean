/- The law FnDelays of the given program returns true for every pair of slices of bytes. No conditions. -/
import Derived.Test.YtmfbddhgfckfaaaRows
import Derived.Test.YtmfbddhgfckfaaaPureFnDelays
import Derived.Test.YtmfbddhgfckfaaaKr
import Derived.Test.YtmfbddhgfckfaaaGc1
namespace Go.Proofs.Ytmfbddhgfckfaaa.fnDelays
open Go.ChangeShapes Go.WideShapes Go.ChangeAt Go.RowKit
set_option linter.all false
theorem own : ownKnob Try.prog.godebug = none := by kernel_rfl
theorem laidOut : laidOutB Try.prog = true := by kernel_rfl
theorem law (l0 l1 : List Int) (h0 : ∀ x ∈ l0, (Lit.int .u8 x).wf = true) (h1 : ∀ x ∈ l1, (Lit.int .u8 x).wf = true) (n0 : l0.length ≤ maxLen) (n1 : l1.length ≤ maxLen) :
    Go.Desk.Con Go.Desk.Prg 5 [] [Go.Desk.bytesV l0, Go.Desk.bytesV l1] (.bool true) [] :=
  Go.Desk.c_laws_FnDelays rfl rfl (Go.Desk.pure_FnDelays l0 l1 h0 h1 n0 n1)
set_option maxRecDepth 100000 in
theorem lifted (os : Os) (started : os.Started) (H : Type) (enc : TypeId × Value → H) :
    ReturnsInHanded {} Try.checked os 5 .any (Rows.fnDelaysSpec.pre6 enc Try.prog Try.f5 Rows.fnDelaysRow.domain false) (Rows.fnDelaysSpec.post enc Try.prog Try.f5 false true false false) := by
  refine returnsInHanded_of_change (C := Try.checked) own started (by kernel_rfl) Try.func5
    (ChangeSpec.witness6 (enc := enc) (C := Try.checked) false ⟨#[], #[.slice none 0 0, .slice none 0 0], []⟩ 8 (by kernel_rfl) (by kernel_rfl) (by kernel_rfl) (by kernel_rfl)) ?_
  intro W base args ds gs before hval0 hW hcnd _
  have hval : ∀ (j : Nat) t v, Try.f5.params[j]? = some t → args[j]? = some v → Value.okWide Try.prog W .any base t v := hval0
  have hW' := hW
  obtain ⟨p, q, hA0, hV, rfl, hfz, hnd⟩ := hW
  have hA : DataW.TrodAll enc Try.prog W 0 (fun _ => true) true Try.f5.params.toList args.toList ds p := hA0
  rw [Try.params5] at hA hval
  obtain ⟨v0, vs0, d0, ds0, p0, q0, hargs, rfl, rfl, h0, r0⟩ := trodAll_cons hA
  obtain ⟨v1, vs1, d1, ds1, p1, q1, rfl, rfl, rfl, h1, r1⟩ := trodAll_cons r0
  obtain ⟨rfl, rfl, rfl⟩ := trodAll_nil r1
  obtain rfl : args = #[v0, v1] := by cases args; simp_all
  obtain ⟨rfl, rfl⟩ := trodVars_none hV
  obtain ⟨a0, len0, cap0, rfl⟩ := okWide_slice Try.underlying22 (hval 0 22 v0 rfl rfl)
  have k0 := h0
  have lt0 : ∀ x ∈ p0, x.block < W.heap.size := by obtain ⟨m, hm⟩ := k0; exact DataW.trod_lt m _ _ _ hm
  obtain ⟨z0, w0⟩ : ∃ zs, Go.Desk.IsRow .u8 W a0 len0 cap0 zs := by
    obtain ⟨fuel, hf⟩ := h0
    rcases open_ints Try.underlying22 Try.underlying5 (by kernel_rfl) hf with ⟨hcs, _⟩ | ⟨x, l, c, zs, hcs, _, hl, hm, hz, _, hcell, hwz⟩
    · simp [Value.cells] at hcs
      obtain ⟨rfl, rfl, rfl⟩ := hcs
      exact ⟨[], .inl ⟨rfl, rfl, rfl, rfl⟩⟩
    · simp [Value.cells] at hcs
      obtain ⟨rfl, rfl, rfl⟩ := hcs
      exact ⟨zs, .inr ⟨_, rfl, hl, hm, by simpa using hz, hcell, hwz⟩⟩
  have wf0 : (∀ x ∈ z0.take len0, (Lit.int .u8 x).wf = true) ∧ (z0.take len0).length ≤ maxLen := by
    rcases w0 with ⟨_, _, _, rfl⟩ | ⟨x, _, e1, e2, e3, _, e4⟩
    · simp
    · exact ⟨fun x hx => e4 x (List.mem_of_mem_take hx), by rw [List.length_take]; omega⟩
  obtain ⟨a1, len1, cap1, rfl⟩ := okWide_slice Try.underlying22 (hval 1 22 v1 rfl rfl)
  have k1 := h1
  have lt1 : ∀ x ∈ p1, x.block < W.heap.size := by obtain ⟨m, hm⟩ := k1; exact DataW.trod_lt m _ _ _ hm
  obtain ⟨z1, w1⟩ : ∃ zs, Go.Desk.IsRow .u8 W a1 len1 cap1 zs := by
    obtain ⟨fuel, hf⟩ := h1
    rcases open_ints Try.underlying22 Try.underlying5 (by kernel_rfl) hf with ⟨hcs, _⟩ | ⟨x, l, c, zs, hcs, _, hl, hm, hz, _, hcell, hwz⟩
    · simp [Value.cells] at hcs
      obtain ⟨rfl, rfl, rfl⟩ := hcs
      exact ⟨[], .inl ⟨rfl, rfl, rfl, rfl⟩⟩
    · simp [Value.cells] at hcs
      obtain ⟨rfl, rfl, rfl⟩ := hcs
      exact ⟨zs, .inr ⟨_, rfl, hl, hm, by simpa using hz, hcell, hwz⟩⟩
  have wf1 : (∀ x ∈ z1.take len1, (Lit.int .u8 x).wf = true) ∧ (z1.take len1).length ≤ maxLen := by
    rcases w1 with ⟨_, _, _, rfl⟩ | ⟨x, _, e1, e2, e3, _, e4⟩
    · simp
    · exact ⟨fun x hx => e4 x (List.mem_of_mem_take hx), by rw [List.length_take]; omega⟩
  clear hA0 hval0
  refine (Go.Desk.walk2 Try.func5 (by simpa using (show (Try.f5.name == "runtime.NumGoroutine") = false by kernel_rfl)) (c := (Try.f5.body).getD .skip) (by rfl) (law _ _ wf0.1 wf1.1 wf0.2 wf1.2) (Go.Desk.rel_bytes w0) (Go.Desk.rel_bytes w1)).mono fun e W' ⟨he, bel⟩ => ?_
  subst he
  exact ⟨_, rfl, _, _, _, [], _, [], hW', trodAll_mk1 (shut_bool Try.underlying4 _), (trodAll_cons_mk (WideElems.Trod_stays laidOut (by kernel_rfl) (of_decide_eq_true (by kernel_rfl)) k0 (fun x hx => Go.Desk.keeps_same bel (lt0 x hx)) (fun x hx => by simpa using lt0 x hx)) (trodAll_cons_mk (WideElems.Trod_stays laidOut (by kernel_rfl) (of_decide_eq_true (by kernel_rfl)) k1 (fun x hx => Go.Desk.keeps_same bel (lt1 x hx)) (fun x hx => by simpa using lt1 x hx)) trodAll_mk0)), rfl, Go.Desk.keeps_grown bel _, fun h => by cases h⟩
theorem over : Rows.fnDelaysRow.holds Try.pinned (OpenSpec.ofChange Rows.fnDelaysSpec) :=
  OpenClaim.holds_of_wide 5 Try.f5 rfl rfl rfl rfl rfl rfl rfl ⟨rfl, rfl, rfl, rfl, rfl⟩ rfl rfl rfl rfl rfl (by kernel_rfl) Try.func5 (by kernel_rfl)
    (of_decide_eq_true (by kernel_rfl)) (by unfold Func.isWrapper; first | (rw [if_pos (by decide +kernel)]; kernel_rfl) | (rw [if_neg (by decide +kernel)]; exact ⟨rfl, rfl⟩))
    (fun os started H enc _ => lifted os started H enc)
theorem proved : Rows.FnDelaysSaid := over
end Go.Proofs.Ytmfbddhgfckfaaa.fnDelays
namespace Go.Proofs.Ytmfbddhgfckfaaa
/-- The row, under a short name, for the claim. -/
theorem fnDelays_holds : Rows.FnDelaysSaid := fnDelays.proved
end Go.Proofs.Ytmfbddhgfckfaaa
