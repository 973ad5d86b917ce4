/- V-logic, part 10: append and copy. -/
import Derived.Test.YtmfbddhgfckfaaaVi
namespace Go.Desk
open Go
set_option linter.all false
set_option linter.unusedVariables false

variable {c : Ctx} {L : LMap} {I : Nat → Prop} {s : St} {a : Act} {w : World} {P : Program} {T : Nat → TI} {B : Nat}

/-- values that are elements, one behind the other -/
def Rowed (w : World) (L : LMap) (B : Nat) (J : Nat → Prop) (z n : Nat) (g : Nat → List V) (vs : List Value) : Prop :=
  vs.length = n * z ∧ (∀ u ∈ vs, u.oneCell' = true) ∧ ∀ i, i < n → (g i).length = z ∧ ∃ us : List Value, RelL w L B (g i) J us ∧ ∀ j u, us[j]? = some u → vs[i * z + j]? = some u

theorem idx_lt {i n z j : Nat} (hi : i < n) (hj : j < z) : i * z + j < n * z := by
  have : i * z + z ≤ n * z := by rw [← Nat.succ_mul]; exact Nat.mul_le_mul_right _ hi
  omega

/-- elements in memory, read -/
theorem rowed_of_mem {J : Nat → Prop} {z n : Nat} {g : Nat → List V} {b p : Nat} (hz : 1 ≤ z) (h : ∀ i, i < n → (g i).length = z ∧ RelAt w L B (g i) J b (p + i * z)) :
    ∃ vs : List Value, Rowed w L B J z n g vs ∧ ∀ j v, vs[j]? = some v → w.cell? ⟨b, p + j, none⟩ = some v := by
  have hc : ∀ q, q < n * z → ∃ v, w.cell? ⟨b, p + q, none⟩ = some v ∧ v.oneCell' = true := by
    intro q hq
    have hi : q / z < n := Nat.div_lt_of_lt_mul (by rw [Nat.mul_comm]; exact hq)
    obtain ⟨g1, g2⟩ := h (q / z) hi
    have hm := Nat.mod_lt q (show 0 < z from hz)
    obtain ⟨v, k1, k2⟩ := RelAt.cell (g (q / z)) J b (p + q / z * z) (q % z) g2 (by rw [g1]; exact hm)
    refine ⟨v, ?_, k2⟩
    have : p + q / z * z + q % z = p + q := by have := Nat.div_add_mod q z; rw [Nat.mul_comm] at this; omega
    rw [← this]; exact k1
  let vs : List Value := (List.range (n * z)).map fun q => (w.cell? ⟨b, p + q, none⟩).getD undef
  have hget : ∀ j v, vs[j]? = some v → j < n * z ∧ w.cell? ⟨b, p + j, none⟩ = some v := by
    intro j v hj
    have hjl : j < n * z := by
      rcases Nat.lt_or_ge j (n * z) with g | g
      · exact g
      · rw [List.getElem?_eq_none (by simpa [vs] using g)] at hj; cases hj
    obtain ⟨u, k1, _⟩ := hc j hjl
    simp only [vs, List.getElem?_map, List.getElem?_range hjl, Option.map_some, k1, Option.getD_some, Option.some.injEq] at hj
    subst hj
    exact ⟨hjl, k1⟩
  have hget' : ∀ j v, j < n * z → w.cell? ⟨b, p + j, none⟩ = some v → vs[j]? = some v := by
    intro j v hj hv
    simp only [vs, List.getElem?_map, List.getElem?_range hj, Option.map_some, hv, Option.getD_some]
  refine ⟨vs, ⟨by simp [vs], fun u hu => ?_, fun i hi => ⟨(h i hi).1, ?_⟩⟩, fun j v hj => (hget j v hj).2⟩
  · obtain ⟨j, hj⟩ := List.getElem?_of_mem hu
    obtain ⟨j1, j2⟩ := hget j u hj
    obtain ⟨v, k1, k2⟩ := hc j j1
    rw [j2] at k1; cases k1; exact k2
  · obtain ⟨us, u1, u2, u3⟩ := RelAt.vals _ _ _ _ (h i hi).2
    refine ⟨us, u3, fun j u hj => ?_⟩
    have hjz : j < z := by
      rw [← (h i hi).1, ← u1]
      rcases Nat.lt_or_ge j us.length with g | g
      · exact g
      · rw [List.getElem?_eq_none g] at hj; cases hj
    refine hget' _ u (idx_lt hi hjz) ?_
    rw [show p + (i * z + j) = p + i * z + j from by omega]
    exact (u2 j u hj).1

theorem Rowed.mono {w' : World} {L' : LMap} {J J' : Nat → Prop} {z n : Nat} {g : Nat → List V} {vs : List Value} (hL : ∀ o l, L o = some l → L' o = some l) (he : Evo w w' J) (hJ : ∀ b, J b → J' b)
    (h : Rowed w L B J z n g vs) : Rowed w' L' B J' z n g vs :=
  ⟨h.1, h.2.1, fun i hi => ⟨(h.2.2 i hi).1, let ⟨us, u1, u2⟩ := (h.2.2 i hi).2; ⟨us, RelL.mono hL (Nat.le_refl _) _ _ _ _ he hJ u1, u2⟩⟩⟩

/-- and found again where they are laid -/
theorem Rowed.at_ {J : Nat → Prop} {z n : Nat} {g : Nat → List V} {vs : List Value} {b q : Nat} (h : Rowed w L B J z n g vs) (hc : ∀ j v, vs[j]? = some v → w.cell? ⟨b, q + j, none⟩ = some v) :
    ∀ i, i < n → (g i).length = z ∧ RelAt w L B (g i) J b (q + i * z) := by
  intro i hi
  obtain ⟨h1, us, u1, u2⟩ := h.2.2 i hi
  refine ⟨h1, RelAt.of_vals _ _ _ _ us u1 fun j v hj => ?_⟩
  have := u2 j v hj
  refine ⟨?_, h.2.1 v (List.mem_of_getElem? this)⟩
  rw [show q + i * z + j = q + (i * z + j) from by omega]
  exact hc _ v this

/-- the source of an append or a copy -/
theorem src_sound (h : Sim c L I s a w) {v : V} {x : Value} (hv : Rel w L c.B v I x) {z' k : Nat} {g : Nat → List V} {fr : Bool} {ps : List Prop} {z : Nat} (hz : 1 ≤ z)
    (hr : (srcOf std v).run s.ob = (some (z', k, g, fr), ps)) (hok : AllOk ps) (hzz : (nbeq z' z || isNil v) = true) :
    (Builtin.lenOf x).run P w = .ok k w ∧ ∃ vs : List Value, Rowed w N0 c.B (cut fr c.B I) z k g vs ∧ (Builtin.firstCells z k x).run P w = .ok vs.toArray w := by
  have hbeq : ∀ {z' : Nat}, isNil v = false → (nbeq z' z || isNil v) = true → z' = z := by
    intro z' hn hh; rw [hn, Bool.or_false] at hh; exact eq_of_nbeq hh
  cases v <;> simp only [srcOf, elemsOf, Rd.run] at hr <;> first | (simp at hr; done) | skip
  case str l =>
    simp only [Rel] at hv
    obtain ⟨sb, rfl, hl⟩ := hv
    obtain ⟨⟨e1, e2, e3, e4⟩, e5⟩ : (1 = z' ∧ std.slen l = k ∧ (fun i => [V.int .u8 (std.sidx l i)]) = g ∧ true = fr) ∧ [] = ps := by simpa using hr
    have := hbeq (z' := z') rfl hzz
    subst this; subst e1; subst e2; subst e3; subst e4
    have hsz : sb.size = l.length := by rw [← hl]; rfl
    refine ⟨by simp [Builtin.lenOf, std, hsz], (sb.data.map fun b => Value.int .u8 b.toNat).toList, ⟨by simp [std, ← hl], ?_, ?_⟩, ?_⟩
    · intro u hu; simp at hu; obtain ⟨b, _, rfl⟩ := hu; rfl
    · intro i hi
      refine ⟨rfl, [Value.int .u8 (std.sidx l i)], by simp [RelL, Rel], fun j u hj => ?_⟩
      cases j with
      | succ j => simp at hj
      | zero =>
        simp at hj; subst hj
        have hil : i < l.length := hi
        have : sb.data[i]? = some l[i] := by
          rw [← Array.getElem?_toList, hl]; exact List.getElem?_eq_getElem hil
        simp [this, std, List.getD, List.getElem?_eq_getElem hil]
    · have : sb.extract 0 (std.slen l) = sb := by
        simp only [std, ← hsz]; exact ByteArray.extract_zero_size
      simp [Builtin.firstCells, this]
      exact Array.ext' (by simp)
  case nil =>
    simp only [Rel] at hv; subst hv
    obtain ⟨⟨e1, e2, e3, e4⟩, e5⟩ : (0 = z' ∧ 0 = k ∧ (fun _ => []) = g ∧ true = fr) ∧ [] = ps := by simpa using hr
    subst e2
    exact ⟨by simp [Builtin.lenOf], [], ⟨by simp, by simp, fun i hi => by omega⟩, by simp [Builtin.firstCells]⟩
  case sl fr' dfr z0 n f =>
    obtain ⟨⟨e1, e2, e3, e4⟩, e5⟩ : (z0 = z' ∧ n = k ∧ f = g ∧ dfr = fr) ∧ [] = ps := by simpa using hr
    have := hbeq (z' := z') rfl hzz
    subst this; subst e1; subst e2; subst e3; subst e4
    simp only [Rel] at hv
    obtain ⟨ad, cap, rfl, h2, h3⟩ := hv
    refine ⟨by simp [Builtin.lenOf], ?_⟩
    by_cases hn : 0 < n
    · obtain ⟨b, p, rfl, h5, h6⟩ := h3 hn
      obtain ⟨vs, v1, v2⟩ := rowed_of_mem hz h6
      exact ⟨vs, v1, run_firstCells_some w z0 n _ n cap vs v1.1 fun j u hj => by rw [addr_add]; exact v2 j u hj⟩
    · have : n = 0 := by omega
      subst this
      refine ⟨[], ⟨by simp, by simp, fun i hi => by omega⟩, ?_⟩
      cases ad with
      | none => simp [Builtin.firstCells]
      | some ad => exact run_firstCells_some w z0 0 ad 0 cap [] (by simp) (by simp)
  case osl o z0 lo n =>
    simp only [Rel] at hv
    obtain ⟨l, ad, cap, h1, rfl, h3, h4⟩ := hv
    have fin : ∀ {dfr : Bool} {m : Nat} {f : Nat → List V} {J : Nat → Prop}, z0 = z → lo + n ≤ m →
        ((m = 0 ∧ l = .nil) ∨ ∃ (b base : Nat) (cc : Array Value) (e : TypeId), l = .at_ b base ∧ w.heap[b]? = some (.cells cc e (0, 0)) ∧ J b ∧ base + m * z ≤ cc.size ∧ ∀ i, i < m → (f i).length = z ∧ RelAt w N0 c.B (f i) (cut dfr c.B I) b (base + i * z)) →
        ∃ vs : List Value, Rowed w N0 c.B (cut dfr c.B I) z n (fun i => f (lo + i)) vs ∧ (Builtin.firstCells z n (.slice ad n cap)).run P w = .ok vs.toArray w := by
      intro dfr m f J ez hle ho
      subst ez
      by_cases hn : 0 < n
      · obtain ⟨b, p, rfl, _, _, q4⟩ := arr_rows (w := w) (B := c.B) (I := I) (J := J) (x := .nilFunc) hle h4 ho hn
        obtain ⟨vs, v1, v2⟩ := rowed_of_mem hz q4
        exact ⟨vs, v1, run_firstCells_some w z0 n _ n cap vs v1.1 fun j u hj => by rw [addr_add]; exact v2 j u hj⟩
      · have : n = 0 := by omega
        subst this
        refine ⟨[], ⟨by simp, by simp, fun i hi => by omega⟩, ?_⟩
        cases ad with
        | none => simp [Builtin.firstCells]
        | some ad => exact run_firstCells_some w z0 0 ad 0 cap [] (by simp) (by simp)
    cases ho : s.ob o <;> simp only [ho, Rd.run] at hr <;> first | (simp at hr; done) | skip
    · rename_i own dfr zz m f
      cases hq : nbeq z0 zz <;> simp only [hq, cond] at hr <;> first | (simp at hr; done) | skip
      obtain ⟨⟨e1, e2, e3, e4⟩, e5⟩ : (z0 = z' ∧ n = k ∧ (fun i => f (std.nadd lo i)) = g ∧ dfr = fr) ∧ [std.pNle (std.nadd lo n) m] = ps := by simpa using hr
      have h7 := hbeq (z' := z') rfl hzz
      have h8 := eq_of_nbeq hq
      subst h8; subst h7; subst e1; subst e2; subst e3; subst e4; subst e5
      obtain ⟨l', k1, k2⟩ := h.ob o (by rw [ho]; simp)
      rw [h1] at k1; cases k1
      rw [ho] at k2
      exact ⟨by simp [Builtin.lenOf], fin (J := fun _ => True) rfl hok.1 (k2.2.imp id (by rintro ⟨b, base, cc, e, g1, g2, g3, g4, g5⟩; exact ⟨b, base, cc, e, g1, g2, trivial, g4, g5⟩))⟩
    · rename_i dfr zz m f
      cases hq : nbeq z0 zz <;> simp only [hq, cond] at hr <;> first | (simp at hr; done) | skip
      obtain ⟨⟨e1, e2, e3, e4⟩, e5⟩ : (z0 = z' ∧ n = k ∧ (fun i => f (std.nadd lo i)) = g ∧ dfr = fr) ∧ [std.pNle (std.nadd lo n) m] = ps := by simpa using hr
      have h7 := hbeq (z' := z') rfl hzz
      have h8 := eq_of_nbeq hq
      subst h8; subst h7; subst e1; subst e2; subst e3; subst e4; subst e5
      obtain ⟨l', k1, k2⟩ := h.ob o (by rw [ho]; simp)
      rw [h1] at k1; cases k1
      rw [ho] at k2
      exact ⟨by simp [Builtin.lenOf], fin (J := fun _ => True) rfl hok.1 (k2.2.imp id (by rintro ⟨b, base, cc, e, g1, g2, g3, g4, g5, g6⟩; exact ⟨b, base, cc, e, g1, g2, trivial, g5, g6⟩))⟩

theorem isSrc_under (hT : TOk P T) {u : Nat} (h : isSrc (T u) = true) : P.underlying u = some .string ∨ ∃ e, P.underlying u = some (.slice e) := by
  unfold isSrc at h
  cases hk : (T u).k <;> rw [hk] at h <;> first | (cases h; done) | skip
  · exact .inl (T_str hT hk)
  · exact .inr ⟨_, T_slice hT hk⟩

theorem elem_info (hT : TOk P T) {e : Nat} (hk : (T e).known = true) : ∃ i, P.info? e = some i ∧ i.bytes = (T e).byt ∧ i.size = (T e).sz := by
  obtain ⟨i, i1, i2, i3, i4, i5⟩ := T_info hT (known_ne hk)
  exact ⟨i, i1, i3, i2⟩

/-- append where there is room -/
theorem run_append_in (hT : TOk P T) {t u e : Nat} {ty : TypeId} {base : Option Addr} {n cap k : Nat} {x : Value} {vs : List Value} {w' : World} (ht : (T t).k = .slice e) (hs : isSrc (T u) = true) (hk : (T e).known = true)
    (hlen : (Builtin.lenOf x).run P w = .ok k w) (hroom : n + k ≤ cap) (hsrc : (Builtin.firstCells (T e).sz k x).run P w = .ok vs.toArray w)
    (hst : match base with | some ad => (storeCells (ad.add (n * (T e).sz)) vs).run P w = .ok () w' | none => w' = w) :
    (Builtin.append_ #[t, u] ty #[.slice base n cap, x]).run P w = .ok (.slice base (n + k) cap) w' := by
  obtain ⟨i, i1, i2, i3⟩ := elem_info hT hk
  rw [← i3] at hsrc hst
  rcases isSrc_under hT hs with hu | ⟨e', hu⟩
  all_goals
    cases base with
    | none =>
      simp only at hst; subst hst
      simp [Builtin.append_, run_underlying (T_slice hT ht), run_underlying hu, sizeOf, typeInfo, i1, hlen, hroom, hsrc]
    | some ad =>
      simp only at hst
      simp [Builtin.append_, run_underlying (T_slice hT ht), run_underlying hu, sizeOf, typeInfo, i1, hlen, hroom, hsrc, hst]

/-- append where there is none -/
theorem run_append_out (hT : TOk P T) {t u e : Nat} {ty : TypeId} {base : Option Addr} {n cap k : Nat} {x z : Value} {old vs : List Value} (ht : (T t).k = .slice e) (hs : isSrc (T u) = true) (hk : (T e).known = true)
    (hbyt : (T e).byt ≤ 65536) (hsm : n + k ≤ 1073741824)
    (hlen : (Builtin.lenOf x).run P w = .ok k w) (hroom : ¬ n + k ≤ cap) (hsrc : (Builtin.firstCells (T e).sz k x).run P w.drew = .ok vs.toArray w.drew)
    (hold : (Builtin.firstCells (T e).sz n (.slice base n cap)).run P w.drew = .ok old.toArray w.drew) (hz : (zeroValue e).run P w.drew = .ok z w.drew) :
    ∃ newCap, n + k ≤ newCap ∧ (Builtin.append_ #[t, u] ty #[.slice base n cap, x]).run P w =
      .ok (.slice (some ⟨w.heap.size, 0, none⟩) (n + k) newCap) (w.drew.alloc (.cells (old.toArray ++ vs.toArray ++ Builtin.zeroCells z.cells (newCap - (n + k))) e)) := by
  obtain ⟨i, i1, i2, i3⟩ := elem_info hT hk
  rw [← i3] at hsrc hold
  have hb : (n + k) * i.bytes ≤ 140737488355328 := by
    rw [i2]
    have : (n + k) * (T e).byt ≤ 1073741824 * 65536 := Nat.mul_le_mul hsm hbyt
    omega
  have hfit := growslice_fits (show cap < n + k from by omega) hb
  have h63' : ¬ (9223372036854775807 < ((n : Int) + (k : Int))) := by omega
  have h48' : ¬ (281474976710656 < Builtin.nextslicecap (n + k) cap * i.bytes) := by omega
  refine ⟨grownCap w (n + k) cap e, grownCap_ge w (n + k) cap e, ?_⟩
  rcases isSrc_under hT hs with hu | ⟨e', hu⟩
  all_goals
    simp [Builtin.append_, run_underlying (T_slice hT ht), run_underlying hu, sizeOf, typeInfo, i1, hlen, hroom, h63', h48', Question.forced, hsrc, hold, hz, newRow, grownCap]
    congr 2
    apply Array.ext'
    simp [List.append_assoc]

theorem evo_drew (w : World) (I : Nat → Prop) : Evo w w.drew I := ⟨fun _ _ => rfl, fun b c e hc => ⟨c, hc, rfl⟩⟩

theorem Sim.alone (h : Sim c L I s a w) {o o' b base base' : Nat} (hm : (s.ob o).mut = true) (hl : L o = some (.at_ b base)) (ho : s.ob o' ≠ .no) (hl' : L o' = some (.at_ b base')) : o' = o := by
  cases hmut : (s.ob o').mut
  · obtain ⟨l, h1, h2⟩ := h.ob o' ho
    rw [hl'] at h1; cases h1
    cases hs : s.ob o' with
    | no => exact absurd hs ho
    | box _ => rw [hs] at hmut; cases hmut
    | arr _ _ _ _ _ => rw [hs] at hmut; cases hmut
    | frz d z n f =>
      rw [hs] at h2
      rcases h2.2 with ⟨_, g⟩ | ⟨b', base'', cc, e'', g1, g2, g3, _⟩
      · cases g
      · cases g1; exact absurd g3 (h.imm o b base hm hl)
  · exact h.sep o' o b base' base hmut hm hl' hl

theorem upO_one (o : Nat) (x : AObj) (ob : Nat → AObj) (i : Nat) : upO [(o, x)] ob i = if i = o then x else ob i := by
  rw [upO_cons]; rfl

/-- rows laid into a new block -/
theorem laid_new {J : Nat → Prop} {z n : Nat} {g : Nat → List V} {vs : List Value} {pre : Array Value} {post : Array Value} {e : TypeId} (h : Rowed w L B J z n g vs) :
    ∀ j v, vs[j]? = some v → (w.alloc (.cells (pre ++ vs.toArray ++ post) e)).cell? ⟨w.heap.size, pre.size + j, none⟩ = some v := by
  intro j v hj
  have hjl : j < vs.length := by
    rcases Nat.lt_or_ge j vs.length with g | g
    · exact g
    · rw [List.getElem?_eq_none g] at hj; cases hj
  rw [alloc_cell, Array.getElem?_append_left (by simp; omega), Array.getElem?_append_right (by omega)]
  simpa using hj

theorem append_sound (hT : TOk P T) (h : Sim c L I s a w) (d : Option Nat) (hd : ∀ x, d = some x → x < c.N) {dn t u : Nat} {ty : TypeId} {vx vy : V} {x y : Value} (hx : Rel w L c.B vx I x) (hy : Rel w L c.B vy I y)
    (hok : AllOk ((effAppend ⟨std, T⟩ dn t u vx vy).run s.ob).ok) (hn : newOk s.us ((effAppend ⟨std, T⟩ dn t u vx vy).run s.ob).new = true) :
    Gives P c a w (Builtin.append_ #[t, u] ty #[x, y]) s d ((effAppend ⟨std, T⟩ dn t u vx vy).run s.ob) := by
  unfold effAppend at hok hn ⊢
  cases ht : (T t).k <;> simp only [ht, Rd.run] at hok hn ⊢ <;> first | exact fail_elim hok | skip
  rename_i e
  simp only [Rd.run_bind] at hok hn ⊢
  cases hsr : (srcOf std vy).run s.ob with
  | mk o1 ps =>
  rw [hsr] at hok hn
  rcases o1 with _ | ⟨z', k, g, fr⟩
  · simp only [Rd.run] at hok; exact fail_elim hok
  simp only at hok hn ⊢
  cases hc : ((nbeq z' (T e).sz || isNil vy) && isSrc (T u) && (T e).known && nble 1 (T e).sz && nbeq (lenV (T e).zero) (T e).sz && nble (T e).byt 65536) <;>
    simp only [hc, cond, Rd.run] at hok hn ⊢ <;> first | exact fail_elim hok | skip
  simp only [Bool.and_eq_true] at hc
  obtain ⟨⟨⟨⟨⟨c0, c1⟩, c2⟩, c3⟩, c4⟩, c5⟩ := hc
  have hz1 := le_of_nble c3
  have hbyt := le_of_nble c5
  obtain ⟨zv, z1, z2, z3, z4⟩ := T_zero hT c2 hz1 (eq_of_nbeq c4) w.drew
  have hrest : ∀ q, (Builtin.zeroCells zv.cells q).size = q * (T e).sz := fun q => by rw [size_zeroCells, z2]
  cases vx <;> simp only [Rd.run] at hok hn ⊢ <;> first | exact fail_elim hok | skip
  case nil =>
    simp only [Rel] at hx; subst hx
    obtain ⟨q1, vs, q2, q3⟩ := src_sound (P := P) h hy hz1 hsr hok.2 c0
    have hsm : k ≤ 1073741824 := hok.1
    by_cases hk0 : k = 0
    · subst hk0
      have hrun := run_append_in (ty := ty) hT (base := none) (n := 0) (cap := 0) (w' := w) ht c1 c2 q1 (by omega) q3 rfl
      obtain ⟨n1, n2⟩ := newOk_one hn
      have hS := h.addO (nid dn 0) (.arr true fr (T e).sz 0 g) .nil n1 (Nat.le_trans h.few n2) ⟨hz1, .inl ⟨rfl, rfl⟩⟩ (fun b base hb => by cases hb)
      exact ⟨_, _, _, I, hrun, hS.putV d hd (by simp only [Rel]; exact ⟨.nil, none, 0, by simp [setL], rfl, by omega, .inl (by simp)⟩)⟩
    · obtain ⟨_, vs', q2', q3'⟩ := src_sound (P := P) h.drew (Rel.mono (fun _ _ h => h) (Nat.le_refl _) _ _ _ _ (evo_drew w I) (fun _ h => h) hy) hz1 hsr hok.2 c0
      obtain ⟨newCap, r1, r2⟩ := run_append_out (ty := ty) hT (base := none) (n := 0) (cap := 0) (old := []) (z := zv) ht c1 c2 hbyt (by omega) q1 (by omega) q3' (by simp [Builtin.firstCells]) z1
      rw [Nat.zero_add] at r1 r2
      refine ⟨_, _, setL L (nid dn 0) (.at_ w.heap.size 0), I, r2, ?_⟩
      have hsz : ((([] : List Value).toArray ++ vs'.toArray ++ Builtin.zeroCells zv.cells (newCap - k)) : Array Value).size = newCap * (T e).sz := by
        simp only [Array.size_append, hrest, List.size_toArray, q2'.1, List.length_nil]
        rw [Nat.zero_add, ← Nat.add_mul]; congr 1; omega
      refine Sim.putV (s := { s with ob := upO [(nid dn 0, _)] s.ob, us := upU [(nid dn 0, _)] s.us }) ?_ d hd ?_
      · refine new_arr h.drew hn e _ hz1 (by rw [hsz]; exact Nat.mul_le_mul_right _ r1) fun i hi => ?_
        have hl := laid_new (pre := ([] : List Value).toArray) (post := Builtin.zeroCells zv.cells (newCap - k)) (e := e) q2'
        have hm := q2'.mono (w' := w.drew.alloc (.cells (([] : List Value).toArray ++ vs'.toArray ++ Builtin.zeroCells zv.cells (newCap - k)) e)) (fun _ _ h => h) ((evo_alloc w.drew _ h.drew.bnd).sub fun b hb => hb.1) (fun _ h => h)
        have := hm.at_ (b := w.heap.size) (q := 0) (fun j v hj => by simpa using hl j v hj) i hi
        simpa using this
      · exact osl_new r1 (by rw [hsz]; exact Nat.le_refl _)
  case osl o z0 lo n =>
    cases ho : s.ob o <;> simp only [ho, Rd.run] at hok hn ⊢ <;> first | exact fail_elim hok | skip
    rename_i own dfr zz m f
    cases own <;> simp only [Rd.run] at hok hn ⊢ <;> first | exact fail_elim hok | skip
    cases hq : (nbeq z0 (T e).sz && nbeq zz z0) <;> simp only [hq, Rd.run] at hok hn ⊢ <;> first | exact fail_elim hok | skip
    simp only [Bool.and_eq_true] at hq
    have e1 := eq_of_nbeq hq.1
    have e2 := eq_of_nbeq hq.2
    subst e2; subst e1
    obtain ⟨q1, vs, q2, q3⟩ := src_sound (P := P) h hy hz1 hsr hok.2.2 c0
    have hsm : n + k ≤ 1073741824 := hok.2.1
    have hm : lo + n = m := hok.1
    simp only [Rel] at hx
    obtain ⟨l, ad, cap, h1, rfl, h3, h4⟩ := hx
    obtain ⟨l', k1, k2⟩ := h.ob o (by rw [ho]; simp)
    rw [h1] at k1; cases k1
    rw [ho] at k2
    have hmut : (s.ob o).mut = true := by rw [ho]; rfl
    obtain ⟨n1, n2⟩ := newOk_one hn
    have hcutI : ∀ (d1 d2 : Bool), (d2 = true → d1 = true) → ∀ b, cut d1 c.B I b → cut d2 c.B I b := fun d1 d2 hd b hb => ⟨hb.1, fun h => hb.2 (hd h)⟩
    by_cases hroom : n + k ≤ cap
    · rcases h4 with ⟨hn0, hc0⟩ | ⟨b, base, cc, et, g1, g2, g3, g4⟩
      · -- an empty slice without room: nothing is written
        have hk0 : k = 0 := by omega
        subst hk0; subst hn0; subst hc0
        have hvs : vs = [] := by have := q2.1; simpa using this
        subst hvs
        have hrun := run_append_in (ty := ty) hT (base := ad) (n := 0) (cap := 0) (w' := w) ht c1 c2 q1 (by omega) q3 (by cases ad <;> simp [storeCells])
        have hS := (h.drop o).addO (nid dn 0) (.arr true (dfr && fr) (T e).sz 0 (fun j => bif std.nlt j 0 then f (std.nadd lo j) else g (std.nsub j 0))) .nil n1 (Nat.le_trans h.few n2) ⟨hz1, .inl ⟨rfl, rfl⟩⟩ (fun b base hb => by cases hb)
        exact ⟨_, _, _, I, hrun, hS.putV d hd (by simp only [Rel]; exact ⟨.nil, ad, 0, by simp [setL], rfl, by simp [std], .inl (by simp [std])⟩)⟩
      · -- room: written in place
        subst g1
        rcases k2.2 with ⟨_, g⟩ | ⟨b', base', cc', e', j1, j2, j3, j4, j5⟩
        · cases g
        cases j1
        rw [g3] at j2; cases j2
        have hq' : base + lo * (T e).sz + n * (T e).sz + vs.length ≤ cc.size := by
          rw [q2.1]
          have : base + lo * (T e).sz + n * (T e).sz + k * (T e).sz = base + (lo + (n + k)) * (T e).sz := by simp only [Nat.add_mul]; omega
          rw [this]
          have : (lo + (n + k)) * (T e).sz ≤ (lo + cap) * (T e).sz := Nat.mul_le_mul_right _ (by omega)
          omega
        obtain ⟨r1, r2, r3⟩ := row_cells (w := w) (q := base + lo * (T e).sz + n * (T e).sz) (vs := vs) g3 hq'
        have hst := run_storeCells_at (P := P) b (base + lo * (T e).sz + n * (T e).sz) et vs 0 cc w g3 (by omega) q2.2.1
        simp only [Nat.add_zero] at hst
        subst g2
        have hrun := run_append_in (ty := ty) hT (base := some ⟨b, base + lo * (T e).sz, none⟩) (n := n) (cap := cap) (w' := w.setRow b (splice cc (base + lo * (T e).sz + n * (T e).sz) vs)) ht c1 c2 q1 hroom q3
          (by simp only [addr_add]; exact hst)
        have hmz : base + m * (T e).sz = base + lo * (T e).sz + n * (T e).sz := by rw [← hm, Nat.add_mul]; omega
        have hkeep : Evo w (w.setRow b (splice cc (base + lo * (T e).sz + n * (T e).sz) vs)) I → ∀ i, i < m → (f i).length = (T e).sz ∧
            RelAt (w.setRow b (splice cc (base + lo * (T e).sz + n * (T e).sz) vs)) N0 c.B (f i) (cut dfr c.B I) b (base + i * (T e).sz) := by
          intro he i hi
          refine ⟨(j5 i hi).1, RelAt.copy _ _ b _ b _ (j5 i hi).2 (he.sub fun b hb => hb.1) fun j hj => r2 _ ?_⟩
          rw [(j5 i hi).1] at hj
          have := idx_lt hi hj
          omega
        have hU := h.updO (w' := w.setRow b (splice cc (base + lo * (T e).sz + n * (T e).sz) vs)) o (.arr true dfr (T e).sz m f) hmut rfl h1 ⟨rfl, rfl⟩ (by simp) (fun q hq => setRow_other _ _ _ _ hq) g3 r1 (splice_size _ _ _ hq') (fun he =>
          ⟨hz1, .inr ⟨b, base, _, et, rfl, r1, j3, by rw [splice_size _ _ _ hq']; exact j4, hkeep he⟩⟩)
        have he : Evo w (w.setRow b (splice cc (base + lo * (T e).sz + n * (T e).sz) vs)) I := by
          refine ⟨fun q hq => setRow_other _ _ _ _ (fun e => h.imm o b base hmut h1 (e ▸ hq)), fun q c' e' hq => ?_⟩
          by_cases eq : q = b
          · subst eq; rw [g3] at hq; cases hq; exact ⟨_, r1, splice_size _ _ _ hq'⟩
          · exact ⟨c', (setRow_other _ _ _ _ eq).trans hq, rfl⟩
        have hD := hU.drop o
        have hob : upO [(o, AObj.no)] (upO [(o, AObj.arr true dfr (T e).sz m f)] s.ob) = upO [(o, .no)] s.ob := by
          funext i; simp only [upO_one]; by_cases e : i = o <;> simp [e]
        simp only [hob] at hD
        have hS := hD.addO (nid dn 0) (.arr true (dfr && fr) (T e).sz (n + k) (fun j => bif std.nlt j n then f (std.nadd lo j) else g (std.nsub j n))) (.at_ b (base + lo * (T e).sz)) n1 (Nat.le_trans h.few n2) (by
            refine ⟨hz1, .inr ⟨b, base + lo * (T e).sz, _, et, rfl, r1, j3, ?_, fun i hi => ?_⟩⟩
            · rw [splice_size _ _ _ hq', Nat.add_mul]; rw [q2.1] at hq'; omega
            · by_cases hin : i < n
              · have hlt : std.nlt i n = true := by simpa [std] using hin
                simp only [hlt, cond]
                have := hkeep he (lo + i) (by omega)
                refine ⟨this.1, ?_⟩
                have e3 : base + lo * (T e).sz + i * (T e).sz = base + (lo + i) * (T e).sz := by rw [Nat.add_mul]; omega
                rw [e3]
                exact RelAt.mono (fun _ _ h => h) (Nat.le_refl _) _ _ _ _ _ (Evo.refl _ _) (hcutI _ _ (by intro hh; simp at hh; exact hh.1)) rfl this.2
              · have hlt : std.nlt i n = false := by simpa [std] using hin
                simp only [hlt, cond]
                have hR := (q2.mono (fun _ _ h => h) (he.sub fun b hb => hb.1) (fun _ h => h)).at_ (b := b) (q := base + lo * (T e).sz + n * (T e).sz) r3 (i - n) (by omega)
                refine ⟨hR.1, ?_⟩
                have e3 : base + lo * (T e).sz + i * (T e).sz = base + lo * (T e).sz + n * (T e).sz + (i - n) * (T e).sz := by
                  have : i * (T e).sz = n * (T e).sz + (i - n) * (T e).sz := by rw [← Nat.add_mul]; congr 1; omega
                  omega
                rw [e3]
                exact RelAt.mono (fun _ _ h => h) (Nat.le_refl _) _ _ _ _ _ (Evo.refl _ _) (hcutI _ _ (by intro hh; simp at hh; exact hh.2)) rfl hR.2) (by
            intro b' base' hb
            cases hb
            refine ⟨j3 rfl, h.imm o b base hmut h1, fun o' base' ho' hl' => ?_⟩
            simp only [upO_one] at ho'
            by_cases eo : o' = o
            · rw [if_pos eo] at ho'; exact ho' rfl
            · rw [if_neg eo] at ho'; exact eo (h.alone hmut h1 ho' hl'))
        exact ⟨_, _, _, I, hrun, hS.putV d hd (by
          simp only [Rel]
          refine ⟨_, _, cap, by simp [setL], rfl, hroom, .inr ⟨b, base + lo * (T e).sz, _, et, rfl, by simp, r1, ?_⟩⟩
          rw [splice_size _ _ _ hq', Nat.zero_add]
          have : base + lo * (T e).sz + cap * (T e).sz = base + (lo + cap) * (T e).sz := by rw [Nat.add_mul]; omega
          omega)⟩
    · -- a new array
      obtain ⟨_, vs', q2', q3'⟩ := src_sound (P := P) h.drew (Rel.mono (fun _ _ h => h) (Nat.le_refl _) _ _ _ _ (evo_drew w I) (fun _ h => h) hy) hz1 hsr hok.2.2 c0
      have hold : ∃ old : List Value, Rowed w.drew N0 c.B (cut dfr c.B I) (T e).sz n (fun i => f (lo + i)) old ∧ (Builtin.firstCells (T e).sz n (.slice ad n cap)).run P w.drew = .ok old.toArray w.drew := by
        by_cases hn0 : 0 < n
        · obtain ⟨b, p, e1, _, _, q4⟩ := arr_rows (w := w) (B := c.B) (I := I) (J := fun _ => True) (m := m) (x := .nilFunc) (by omega) h4 (k2.2.imp id (by
            rintro ⟨b, base, cc, e, g1, g2, g3, g4, g5⟩; exact ⟨b, base, cc, e, g1, g2, trivial, g4, g5⟩)) hn0
          subst e1
          have q4' : ∀ i, i < n → (f (lo + i)).length = (T e).sz ∧ RelAt w.drew N0 c.B (f (lo + i)) (cut dfr c.B I) b (p + i * (T e).sz) := fun i hi =>
            ⟨(q4 i hi).1, RelAt.mono (fun _ _ h => h) (Nat.le_refl _) _ _ _ _ _ (evo_drew w _) (fun _ h => h) rfl (q4 i hi).2⟩
          obtain ⟨old, v1, v2⟩ := rowed_of_mem hz1 q4'
          exact ⟨old, v1, run_firstCells_some w.drew (T e).sz n _ n cap old v1.1 fun j u hj => by rw [addr_add]; exact v2 j u hj⟩
        · have : n = 0 := by omega
          subst this
          refine ⟨[], ⟨by simp, by simp, fun i hi => by omega⟩, ?_⟩
          cases ad with
          | none => simp [Builtin.firstCells]
          | some ad => exact run_firstCells_some w.drew (T e).sz 0 ad 0 cap [] (by simp) (by simp)
      obtain ⟨old, o1, o2⟩ := hold
      obtain ⟨newCap, r1, r2⟩ := run_append_out (ty := ty) hT (base := ad) (n := n) (cap := cap) (old := old) (z := zv) ht c1 c2 hbyt hsm q1 hroom q3' o2 z1
      refine ⟨_, _, setL L (nid dn 0) (.at_ w.heap.size 0), I, r2, ?_⟩
      have hsz : ((old.toArray ++ vs'.toArray ++ Builtin.zeroCells zv.cells (newCap - (n + k))) : Array Value).size = newCap * (T e).sz := by
        simp only [Array.size_append, hrest, List.size_toArray, q2'.1, o1.1]
        rw [← Nat.add_mul, ← Nat.add_mul]; congr 1; omega
      refine Sim.putV (s := { s with ob := upO [(nid dn 0, _)] (upO [(o, .no)] s.ob), us := upU [(nid dn 0, _)] s.us }) ?_ d hd ?_
      · refine new_arr (s := { s with ob := upO [(o, .no)] s.ob }) (h.drew.drop o) hn e _ hz1 (by rw [hsz]; exact Nat.mul_le_mul_right _ r1) fun i hi => ?_
        have hev := (evo_alloc w.drew (.cells (old.toArray ++ vs'.toArray ++ Builtin.zeroCells zv.cells (newCap - (n + k))) e) h.drew.bnd)
        by_cases hin : i < n
        · have hlt : std.nlt i n = true := by simpa [std] using hin
          simp only [hlt]
          have hl := laid_new (w := w.drew) (pre := #[]) (post := vs'.toArray ++ Builtin.zeroCells zv.cells (newCap - (n + k))) (e := e) o1
          have hmm := o1.mono (fun _ _ h => h) (hev.sub fun b hb => hb.1) (fun _ h => h)
          have := hmm.at_ (b := w.heap.size) (q := 0) (fun j v hj => by
            have := hl j v hj
            rw [show (#[] ++ old.toArray ++ (vs'.toArray ++ Builtin.zeroCells zv.cells (newCap - (n + k))) : Array Value) = old.toArray ++ vs'.toArray ++ Builtin.zeroCells zv.cells (newCap - (n + k)) from by simp only [Array.append_assoc, Array.empty_append]] at this
            simpa using this) i hin
          rw [Nat.zero_add] at this
          exact ⟨this.1, RelAt.mono (fun _ _ h => h) (Nat.le_refl _) _ _ _ _ _ (Evo.refl _ _) (hcutI _ _ (by intro hh; simp at hh; exact hh.1)) rfl this.2⟩
        · have hlt : std.nlt i n = false := by simpa [std] using hin
          simp only [hlt]
          have hl := laid_new (w := w.drew) (pre := old.toArray) (post := Builtin.zeroCells zv.cells (newCap - (n + k))) (e := e) q2'
          have hmm := q2'.mono (fun _ _ h => h) (hev.sub fun b hb => hb.1) (fun _ h => h)
          have := hmm.at_ (b := w.heap.size) (q := n * (T e).sz) (fun j v hj => by have := hl j v hj; simpa [o1.1] using this) (i - n) (by have hi' : i < n + k := hi; omega)
          refine ⟨this.1, ?_⟩
          have e3 : i * (T e).sz = n * (T e).sz + (i - n) * (T e).sz := by rw [← Nat.add_mul]; congr 1; omega
          rw [e3]
          exact RelAt.mono (fun _ _ h => h) (Nat.le_refl _) _ _ _ _ _ (Evo.refl _ _) (hcutI _ _ (by intro hh; simp at hh; exact hh.2)) rfl this.2
      · exact osl_new r1 (by rw [hsz]; exact Nat.le_refl _)
end Go.Desk
