/- V-logic, part 8: operations that make memory. -/
import Derived.Test.YtmfbddhgfckfaaaVg
namespace Go.Desk
open Go
set_option linter.all false
set_option linter.unusedVariables false

variable {c : Ctx} {L : LMap} {I : Nat → Prop} {s : St} {a : Act} {w : World} {P : Program} {T : Nat → TI} {B : Nat}

theorem litOk_one {v : Value} (h : litOk v = true) : v.oneCell' = true := by cases v <;> first | rfl | (simp [litOk] at h)
theorem T_zero (hT : TOk P T) {t : Nat} (hk : (T t).known = true) (h1 : 1 ≤ (T t).sz) (h2 : lenV (T t).zero = (T t).sz) (w : World) :
    ∃ z : Value, (zeroValue t).run P w = .ok z w ∧ z.cells.size = (T t).sz ∧ (∀ (w : World) L B I, RelL w L B (T t).zero I z.cells.toList) ∧ ∀ u ∈ z.cells.toList, u.oneCell' = true := by
  obtain ⟨i, i1, i2, i3, i4, i5⟩ := T_info hT (known_ne hk)
  cases hz : i.zero with
  | none => rw [hz] at i5; simp only [zeroOf] at i5; rw [i5] at h2; simp only [lenV] at h2; omega
  | some z =>
    rw [hz] at i5
    simp only [zeroOf, zeroL] at i5
    cases hall : z.cells.toList.all litOk
    · rw [hall] at i5; simp only at i5; rw [i5] at h2; simp only [lenV] at h2; omega
    · rw [hall] at i5; simp only at i5
      refine ⟨z, by simp [zeroValue, typeInfo, i1, hz], ?_, fun w L B I => by rw [i5]; exact map_vlit_rel _, fun u hu => litOk_one (List.all_eq_true.1 hall u hu)⟩
      rw [← h2, i5, lenV_eq]; simp

theorem alloc_cell (w : World) (vs : Array Value) (e : TypeId) (j : Nat) : (w.alloc (.cells vs e)).cell? ⟨w.heap.size, j, none⟩ = vs[j]? := by
  simp only [World.cell?, alloc_new]; simp

theorem run_newRow (e : TypeId) (vs : Array Value) (w : World) : (newRow e vs).run P w = .ok ⟨w.heap.size, 0, none⟩ (w.alloc (.cells vs e)) := by
  simp [newRow]

theorem newOk_one {us : Nat → Bool} {o : Nat} {x : AObj} (h : newOk us [(o, x)] = true) : us o = false ∧ 16 ≤ o := by
  simp only [newOk, Bool.and_true, Bool.and_eq_true, Bool.not_eq_true'] at h
  exact ⟨h.1, le_of_nble h.2⟩

/-- a new variable -/
theorem new_box (h : Sim c L I s a w) {o : Nat} {cs : List V} (hn : newOk s.us [(o, .box cs)] = true) (e : TypeId) (vs : Array Value) (hr : RelL w L c.B cs I vs.toList)
    (h1 : ∀ u ∈ vs.toList, u.oneCell' = true) :
    Sim c (setL L o (.at_ w.heap.size 0)) I { s with ob := upO [(o, .box cs)] s.ob, us := upU [(o, .box cs)] s.us } a (w.alloc (.cells vs e)) := by
  obtain ⟨n1, n2⟩ := newOk_one hn
  refine h.newO o (.box cs) vs e n1 (Nat.le_trans h.few n2) ?_
  refine ⟨w.heap.size, 0, vs, e, rfl, alloc_new _ _, ?_⟩
  refine RelAt.of_vals cs I _ 0 vs.toList (RelL.mono (setL_ext (h.us o n1) _) (Nat.le_refl _) _ _ _ _ (evo_alloc w _ h.bnd) (fun _ h => h) hr) fun j v hj => ?_
  refine ⟨by rw [Nat.zero_add, alloc_cell]; simpa using hj, h1 v (List.mem_of_getElem? hj)⟩

theorem alloc_sound (hT : TOk P T) (h : Sim c L I s a w) (d : Option Nat) (hd : ∀ x, d = some x → x < c.N) (o : Nat) {e : Nat} {ok : List Prop}
    (hc : ((T e).known && nble 1 (T e).sz && nbeq (lenV (T e).zero) (T e).sz) = true) (hn : newOk s.us [(o, .box (T e).zero)] = true) :
    Gives P c a w (Instr.alloc e true (.tuple #[])) s d ⟨ok, .ptr o 0, [], [(o, .box (T e).zero)]⟩ := by
  simp only [Bool.and_eq_true] at hc
  obtain ⟨z, z1, z2, z3, z4⟩ := T_zero hT hc.1.1 (le_of_nble hc.1.2) (eq_of_nbeq hc.2) w
  refine ⟨.pointer (some ⟨w.heap.size, 0, none⟩), w.alloc (.cells z.cells e), setL L o (.at_ w.heap.size 0), I, by simp [Instr.alloc, z1, newVar, run_newRow], ?_⟩
  exact Sim.putV (s := { s with ob := upO [(o, .box (T e).zero)] s.ob, us := upU [(o, .box (T e).zero)] s.us }) (new_box h hn e z.cells (z3 _ _ _ _) z4) d hd
    (by simp only [Rel]; exact ⟨w.heap.size, 0, by simp [setL], rfl⟩)

theorem box_sound (hT : TOk P T) (h : Sim c L I s a w) (d : Option Nat) (hd : ∀ x, d = some x → x < c.N) (o : Nat) {e : Nat} {ok : List Prop} {v : V} {x : Value} (hv : Rel w L c.B v I x)
    (hf : fits (T e) v = true) (hn : newOk s.us [(o, .box (vcells v))] = true) :
    Gives P c a w (Instr.box e x) s d ⟨ok, .ptr o 0, [], [(o, .box (vcells v))]⟩ := by
  obtain ⟨f0, f1, f2, f3, f4, f5⟩ := fits_cells hf hv
  refine ⟨.pointer (some ⟨w.heap.size, 0, none⟩), w.alloc (.cells x.cells e), setL L o (.at_ w.heap.size 0), I, by simp [Instr.box, newVar, run_newRow], ?_⟩
  exact Sim.putV (s := { s with ob := upO [(o, .box (vcells v))] s.ob, us := upU [(o, .box (vcells v))] s.us }) (new_box h hn e x.cells f2 f4) d hd
    (by simp only [Rel]; exact ⟨w.heap.size, 0, by simp [setL], rfl⟩)

/-- a new array -/
theorem new_arr (h : Sim c L I s a w) {o : Nat} {dfr : Bool} {z n : Nat} {f : Nat → List V} (hn : newOk s.us [(o, .arr true dfr z n f)] = true) (e : TypeId) (vs : Array Value) (hz : 1 ≤ z)
    (hsz : n * z ≤ vs.size)
    (hr : ∀ i, i < n → (f i).length = z ∧ RelAt (w.alloc (.cells vs e)) N0 c.B (f i) (cut dfr c.B I) w.heap.size (i * z)) :
    Sim c (setL L o (.at_ w.heap.size 0)) I { s with ob := upO [(o, .arr true dfr z n f)] s.ob, us := upU [(o, .arr true dfr z n f)] s.us } a (w.alloc (.cells vs e)) := by
  obtain ⟨n1, n2⟩ := newOk_one hn
  refine h.newO o (.arr true dfr z n f) vs e n1 (Nat.le_trans h.few n2) ?_
  refine ⟨hz, .inr ⟨w.heap.size, 0, vs, e, rfl, alloc_new _ _, fun _ => h.keep.le, by omega, fun i hi => ⟨(hr i hi).1, ?_⟩⟩⟩
  rw [Nat.zero_add]
  exact (hr i hi).2

theorem osl_new {o z n : Nat} {vs : Array Value} {e : TypeId} {cap : Nat} (hcap : n ≤ cap) (hsz : cap * z ≤ vs.size) :
    Rel (w.alloc (.cells vs e)) (setL L o (.at_ w.heap.size 0)) B (.osl o z 0 n) I (.slice (some ⟨w.heap.size, 0, none⟩) n cap) := by
  simp only [Rel]
  refine ⟨.at_ w.heap.size 0, _, cap, by simp [setL], rfl, hcap, .inr ⟨w.heap.size, 0, vs, e, rfl, by simp, alloc_new _ _, by simpa using hsz⟩⟩

theorem make_sound (hT : TOk P T) (h : Sim c L I s a w) (d : Option Nat) (hd : ∀ x, d = some x → x < c.N) (o : Nat) {t e : Nat} {n cp : Int} {ok : List Prop} (ht : (T t).k = .slice e)
    (hc : ((T e).known && nble 1 (T e).sz && nbeq (lenV (T e).zero) (T e).sz && nble (T e).byt 65536) = true)
    (h0 : 0 ≤ n) (hle : n ≤ cp) (hsm : cp.toNat ≤ 1073741824) (hn : newOk s.us [(o, .arr true true (T e).sz n.toNat (fun _ => (T e).zero))] = true) :
    Gives P c a w (Instr.makeSlice t (.int .i64 n) (.int .i64 cp)) s d ⟨ok, .osl o (T e).sz 0 n.toNat, [], [(o, .arr true true (T e).sz n.toNat (fun _ => (T e).zero))]⟩ := by
  simp only [Bool.and_eq_true] at hc
  obtain ⟨⟨⟨c1, c2⟩, c3⟩, c4⟩ := hc
  have hsz1 := le_of_nble c2
  have hbyt := le_of_nble c4
  obtain ⟨z, z1, z2, z3, z4⟩ := T_zero hT c1 hsz1 (eq_of_nbeq c3) w
  obtain ⟨i, i1, i2, i3, i4, i5⟩ := T_info hT (known_ne c1)
  obtain ⟨m, rfl⟩ := Int.eq_ofNat_of_zero_le h0
  obtain ⟨k, rfl⟩ := Int.eq_ofNat_of_zero_le (Int.le_trans h0 hle)
  simp only [Int.toNat_natCast] at hsm hn ⊢
  have hmk : m ≤ k := by omega
  have w1 : IntKind.i64.wrap (m : Int) = m := by simp [IntKind.wrap, IntKind.signed, IntKind.bits]; omega
  have w2 : IntKind.i64.wrap (k : Int) = k := by simp [IntKind.wrap, IntKind.signed, IntKind.bits]; omega
  have hb : (i.bytes : Int) * (k : Int) ≤ 281474976710656 := by
    rw [i3]
    have : (T e).byt * k ≤ 65536 * 1073741824 := Nat.mul_le_mul hbyt hsm
    have h2 : ((T e).byt : Int) * (k : Int) = (((T e).byt * k : Nat) : Int) := by simp
    rw [h2]; omega
  have hb' : (i.bytes : Int) * (m : Int) ≤ 281474976710656 := by
    have : i.bytes * m ≤ i.bytes * k := Nat.mul_le_mul_left _ hmk
    have h2 : (i.bytes : Int) * (k : Int) = ((i.bytes * k : Nat) : Int) := by simp
    have h3 : (i.bytes : Int) * (m : Int) = ((i.bytes * m : Nat) : Int) := by simp
    omega
  have hti : (typeInfo e).run P w = .ok i w := by simp [typeInfo, i1]
  let vs : Array Value := (Array.range (k * (T e).sz)).map (fun j => ((if k * (T e).sz = 0 then (#[] : Array Value) else z.cells)[j % (if k * (T e).sz = 0 then (#[] : Array Value) else z.cells).size]!))
  have hrun : (Instr.makeSlice t (.int .i64 (m : Int)) (.int .i64 (k : Int))).run P w = .ok (.slice (some ⟨w.heap.size, 0, none⟩) m k) (w.alloc (.cells vs e)) := by
    have t1 : ¬ ((k : Int) < 0) := by omega
    have t2 : ¬ ((i.bytes : Int) * (k : Int) > 2 ^ 48) := by omega
    have t3 : ¬ ((m : Int) < 0) := by omega
    have t4 : ¬ ((m : Int) > (k : Int)) := by omega
    simp only [Instr.makeSlice, Sem.run_bind, run_underlying (T_slice hT ht), Result.andThen_ok, asInt, asIntOf, Sem.run_pure, hti, w1, w2]
    simp only [t1, t2, t3, t4, decide_false, Bool.or_false, Bool.false_or, if_false, Bool.false_eq_true, Sem.run_bind, run_askRoom, Result.andThen_ok, run_sizeOf hT (known_ne c1), Int.toNat_natCast]
    by_cases hz0 : k * (T e).sz = 0
    · simp [hz0, run_newRow, vs]
    · simp [hz0, z1, run_newRow, vs]
  refine ⟨_, _, setL L o (.at_ w.heap.size 0), I, hrun, ?_⟩
  have hvs : vs.size = k * (T e).sz := by simp [vs]
  refine Sim.putV (s := { s with ob := upO [(o, .arr true true (T e).sz m (fun _ => (T e).zero))] s.ob, us := upU [(o, .arr true true (T e).sz m (fun _ => (T e).zero))] s.us }) ?_ d hd ?_
  · refine new_arr h hn e vs hsz1 (by rw [hvs]; exact Nat.mul_le_mul_right _ hmk) fun j hj => ?_
    have hlen : (T e).zero.length = (T e).sz := by rw [← lenV_eq]; exact eq_of_nbeq c3
    refine ⟨hlen, ?_⟩
    refine RelAt.of_vals (T e).zero _ _ _ z.cells.toList (z3 _ _ _ _) fun q v hq => ?_
    have hql : q < (T e).sz := by
      rw [← z2]
      rcases Nat.lt_or_ge q z.cells.size with g | g
      · exact g
      · rw [List.getElem?_eq_none (by simpa using g)] at hq; cases hq
    have hjk : j * (T e).sz + q < k * (T e).sz := by
      have : j * (T e).sz + (T e).sz ≤ k * (T e).sz := by rw [← Nat.succ_mul]; exact Nat.mul_le_mul_right _ (by omega)
      omega
    refine ⟨?_, z4 v (List.mem_of_getElem? hq)⟩
    rw [alloc_cell]
    have hne : ¬ k * (T e).sz = 0 := by omega
    have hmod : (j * (T e).sz + q) % z.cells.size = q := by rw [z2, Nat.mul_comm, Nat.mul_add_mod]; exact Nat.mod_eq_of_lt hql
    simp only [vs, hne, if_false, Array.getElem?_map]
    rw [Array.getElem?_range, if_pos hjk]
    simp only [Option.map_some, hmod]
    have hqs : q < z.cells.size := by rw [z2]; exact hql
    have := hq
    simp only [Array.getElem?_toList] at this
    rw [getElem!_pos z.cells q hqs]
    rw [Array.getElem?_eq_getElem hqs] at this
    exact this
  · exact osl_new hmk (by rw [hvs]; exact Nat.le_refl _)

end Go.Desk
