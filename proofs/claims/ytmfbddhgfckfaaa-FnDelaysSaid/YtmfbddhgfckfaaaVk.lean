/- V-logic, part 11: operations that only compute. -/
import Derived.Test.YtmfbddhgfckfaaaVj
import Derived.Laws.Slices
import Derived.Laws.Tables
namespace Go.Desk
open Go
set_option linter.all false
set_option linter.unusedVariables false

variable {c : Ctx} {L : LMap} {I : Nat → Prop} {s : St} {a : Act} {w : World} {P : Program} {T : Nat → TI} {B : Nat}

theorem len_sound (hT : TOk P T) (h : Sim c L I s a w) (d : Option Nat) (hd : ∀ x, d = some x → x < c.N) {t : Nat} {ty : TypeId} {v : V} {x : Value} (hv : Rel w L c.B v I x)
    (hs : isSrc (T t) = true) (hok : AllOk ((effLen ⟨std, T⟩ (T t).k v).run s.ob).ok) : Gives P c a w (Builtin.len_ #[t] ty #[x]) s d ((effLen ⟨std, T⟩ (T t).k v).run s.ob) := by
  unfold isSrc at hs
  cases hk : (T t).k <;> rw [hk] at hs <;> first | (cases hs; done) | skip
  · rw [hk] at hok
    cases v <;> simp only [effLen, Rd.run, Eff.v] at hok ⊢ <;> first | exact fail_elim hok | skip
    simp only [Rel] at hv
    obtain ⟨sb, rfl, hl⟩ := hv
    have hsz : sb.size = (sb.data.toList).length := rfl
    rw [hl] at hsz
    exact Gives.val h d hd (x := goInt sb.size) (by simp [Builtin.len_, run_underlying (T_str hT hk)]) (by simp [Rel, goInt, std, hsz])
  · rename_i e
    rw [hk] at hok
    cases v <;> simp only [effLen, Rd.run, Eff.v] at hok ⊢ <;> first | exact fail_elim hok | skip
    · simp only [Rel] at hv; subst hv
      exact Gives.val h d hd (x := goInt 0) (by simp [Builtin.len_, run_underlying (T_slice hT hk)]) (by simp [Rel, goInt])
    · rename_i fr dfr z n f
      simp only [Rel] at hv; obtain ⟨ad, cap, rfl, _⟩ := hv
      exact Gives.val h d hd (x := goInt n) (by simp [Builtin.len_, run_underlying (T_slice hT hk)]) (by simp [Rel, goInt, std])
    · rename_i o z lo n
      simp only [Rel] at hv; obtain ⟨l, ad, cap, _, rfl, _⟩ := hv
      exact Gives.val h d hd (x := goInt n) (by simp [Builtin.len_, run_underlying (T_slice hT hk)]) (by simp [Rel, goInt, std])

def RelO (w : World) (L : LMap) (B : Nat) (I : Nat → Prop) : Option V → Option Value → Prop
  | none, x => x = none
  | some v, x => ∃ y, x = some y ∧ Rel w L B v I y

theorem bounds_sound {isS : Bool} {lo hi : Option V} {lo' hi' : Option Value} {l h : Option Int × Nat} {n cap : Nat} (hlo : RelO w L B I lo lo') (hhi : RelO w L B I hi hi')
    (h1 : bnd std lo 0 = some l) (h2 : bnd std hi n = some h) (hok : AllOk (bconds std l h n)) (hn : n ≤ cap) :
    (Instr.sliceBounds isS n cap lo' hi' none).run P w = .ok (l.2, h.2, cap) w ∧ l.2 ≤ h.2 ∧ h.2 ≤ n := by
  have get : ∀ {v : V} {x : Value} {q : Option Int × Nat} {k : Nat}, bnd std (some v) k = some q → Rel w L B v I x → ∃ kd i, v = .int kd i ∧ x = .int kd i ∧ q = (some i, i.toNat) := by
    intro v x q k hb hv
    cases v <;> simp only [bnd] at hb <;> first | (cases hb; done) | skip
    rename_i kd i
    simp only [Rel] at hv
    cases hb
    exact ⟨kd, i, rfl, hv, rfl⟩
  cases lo with
  | none =>
    simp only [RelO] at hlo; subst hlo
    simp only [bnd] at h1; cases h1
    cases hi with
    | none =>
      simp only [RelO] at hhi; subst hhi
      simp only [bnd] at h2; cases h2
      refine ⟨by simp [Instr.sliceBounds], by simp, Nat.le_refl _⟩
    | some vh =>
      obtain ⟨y, rfl, hy⟩ := hhi
      obtain ⟨kd, i, rfl, rfl, rfl⟩ := get h2 hy
      have c0 : (0 : Int) ≤ i := hok.1
      have c1 : i.toNat ≤ n := hok.2.1
      refine ⟨by simp [Instr.sliceBounds, run_sliceBound w kd i cap _ c0 (by omega)], by simp, c1⟩
  | some vl =>
    obtain ⟨x, rfl, hx⟩ := hlo
    obtain ⟨kd, i, rfl, rfl, rfl⟩ := get h1 hx
    cases hi with
    | none =>
      simp only [RelO] at hhi; subst hhi
      simp only [bnd] at h2; cases h2
      have c0 : (0 : Int) ≤ i := hok.1
      have c1 : i.toNat ≤ n := hok.2.1
      refine ⟨by simp [Instr.sliceBounds, run_sliceBound w kd i n _ c0 (by omega)], c1, Nat.le_refl _⟩
    | some vh =>
      obtain ⟨y, rfl, hy⟩ := hhi
      obtain ⟨kd', j, rfl, rfl, rfl⟩ := get h2 hy
      have c0 : (0 : Int) ≤ i := hok.1
      have c1 : (0 : Int) ≤ j := hok.2.1
      have c2 : i.toNat ≤ j.toNat := hok.2.2.1
      have c3 : j.toNat ≤ n := hok.2.2.2.1
      refine ⟨by simp [Instr.sliceBounds, run_sliceBound w kd' j cap _ c1 (by omega), run_sliceBound w kd i j.toNat _ c0 (by omega)], c2, c3⟩

theorem slice_sound (hT : TOk P T) (h : Sim c L I s a w) (d : Option Nat) (hd : ∀ x, d = some x → x < c.N) {t : Nat} {v : V} {x : Value} (hv : Rel w L c.B v I x)
    {lo hi : Option V} {lo' hi' : Option Value} (hlo : RelO w L c.B I lo lo') (hhi : RelO w L c.B I hi hi')
    (hok : AllOk ((effSlice ⟨std, T⟩ t v lo hi).run s.ob).ok) : Gives P c a w (Instr.sliceAt t x lo' hi' none) s d ((effSlice ⟨std, T⟩ t v lo hi).run s.ob) := by
  unfold effSlice at hok ⊢
  cases v <;> simp only [Rd.run] at hok ⊢ <;> first | exact fail_elim hok | skip
  case str sl =>
    cases hk : (T t).k <;> cases h1 : bnd std lo 0 <;> cases h2 : bnd std hi (std.slen sl) <;> simp only [hk, h1, h2, Rd.run, Eff.vc] at hok ⊢ <;> first | exact fail_elim hok | skip
    rename_i l hh
    simp only [Rel] at hv
    obtain ⟨sb, rfl, hl⟩ := hv
    have hsz : sb.size = std.slen sl := by show sb.data.toList.length = sl.length; rw [hl]
    obtain ⟨b1, b2, b3⟩ := bounds_sound (P := P) (isS := false) (cap := std.slen sl) hlo hhi h1 h2 hok (Nat.le_refl _)
    refine Gives.val h d hd (x := .string (sb.extract l.2 hh.2)) ?_ ?_
    · simp [Instr.sliceAt, run_underlying (T_str hT hk), Instr.slice, hsz, b1]
    · simp only [Rel]
      refine ⟨_, rfl, ?_⟩
      simp only [std]
      rw [ByteArray.data_extract, Array.toList_extract, hl]
  case nil =>
    cases hk : (T t).k <;> cases h1 : bnd std lo 0 <;> cases h2 : bnd std hi 0 <;> simp only [hk, h1, h2, Rd.run, Eff.vc] at hok ⊢ <;> first | exact fail_elim hok | skip
    rename_i e l hh
    simp only [Rel] at hv; subst hv
    cases hkn : (T e).known <;> simp only [hkn, cond, Rd.run] at hok ⊢ <;> first | exact fail_elim hok | skip
    obtain ⟨b1, b2, b3⟩ := bounds_sound (P := P) (isS := true) (cap := 0) hlo hhi h1 h2 hok (Nat.le_refl _)
    have e1 : hh.2 = 0 := by omega
    have e2 : l.2 = 0 := by omega
    rw [e1, e2] at b1
    refine Gives.val h d hd (x := .slice none 0 0) ?_ (by simp [Rel])
    simp [Instr.sliceAt, run_underlying (T_slice hT hk), Instr.slice, b1, run_sizeOf hT (known_ne hkn)]
  case sl fr dfr z n f =>
    cases hk : (T t).k <;> cases h1 : bnd std lo 0 <;> cases h2 : bnd std hi n <;> simp only [hk, h1, h2, Rd.run] at hok ⊢ <;> first | exact fail_elim hok | skip
    rename_i e l hh
    cases hz : ((T e).known && nbeq z (T e).sz) <;> simp only [hz, cond, Rd.run, Eff.vc] at hok ⊢ <;> first | exact fail_elim hok | skip
    simp only [Bool.and_eq_true] at hz
    have hzz := eq_of_nbeq hz.2
    subst hzz
    simp only [Rel] at hv
    obtain ⟨ad, cap, rfl, g2, g3⟩ := hv
    obtain ⟨b1, b2, b3⟩ := bounds_sound (P := P) (isS := true) (cap := cap) hlo hhi h1 h2 hok g2
    refine Gives.val h d hd (x := .slice (if cap = l.2 then ad else ad.map (·.add (l.2 * (T e).sz))) (hh.2 - l.2) (cap - l.2)) ?_ ?_
    · simp [Instr.sliceAt, run_underlying (T_slice hT hk), Instr.slice, b1, run_sizeOf hT (known_ne hz.1)]
    · simp only [Rel]
      refine ⟨_, _, rfl, by simp only [std]; omega, fun hpos => ?_⟩
      simp only [std] at hpos
      obtain ⟨b, off, e1, e2, e3⟩ := g3 (by omega)
      subst e1
      refine ⟨b, off + l.2 * (T e).sz, ?_, e2, fun i hi => ?_⟩
      · rw [if_neg (by omega)]; simp [addr_add]
      · simp only [std] at hi ⊢
        have := e3 (l.2 + i) (by omega)
        rw [Nat.add_mul] at this
        rw [show off + l.2 * (T e).sz + i * (T e).sz = off + (l.2 * (T e).sz + i * (T e).sz) from by omega]
        exact this
  case osl o z b0 n =>
    cases hk : (T t).k <;> cases h1 : bnd std lo 0 <;> cases h2 : bnd std hi n <;> simp only [hk, h1, h2, Rd.run] at hok ⊢ <;> first | exact fail_elim hok | skip
    rename_i e l hh
    cases hz : ((T e).known && nbeq z (T e).sz) <;> simp only [hz, cond, Rd.run, Eff.vc] at hok ⊢ <;> first | exact fail_elim hok | skip
    simp only [Bool.and_eq_true] at hz
    have hzz := eq_of_nbeq hz.2
    subst hzz
    simp only [Rel] at hv
    obtain ⟨lc, ad, cap, g1, rfl, g2, g3⟩ := hv
    obtain ⟨b1, b2, b3⟩ := bounds_sound (P := P) (isS := true) (cap := cap) hlo hhi h1 h2 hok g2
    refine Gives.val h d hd (x := .slice (if cap = l.2 then ad else ad.map (·.add (l.2 * (T e).sz))) (hh.2 - l.2) (cap - l.2)) ?_ ?_
    · simp [Instr.sliceAt, run_underlying (T_slice hT hk), Instr.slice, b1, run_sizeOf hT (known_ne hz.1)]
    · simp only [Rel]
      refine ⟨lc, _, _, g1, rfl, by simp only [std]; omega, ?_⟩
      by_cases hc : cap = l.2
      · left; simp only [std]; omega
      · rcases g3 with ⟨q1, q2⟩ | ⟨b, base, cc, et, q1, q2, q3, q4⟩
        · omega
        · right
          subst q2
          refine ⟨b, base, cc, et, q1, ?_, q3, ?_⟩
          · rw [if_neg hc]; simp [addr_add, std, Nat.add_mul]; omega
          · simp only [std]
            have : b0 + l.2 + (cap - l.2) = b0 + cap := by omega
            rw [this]; exact q4

theorem indexAddr_sound (hT : TOk P T) (h : Sim c L I s a w) (d : Option Nat) (hd : ∀ x, d = some x → x < c.N) {t : Nat} {v u : V} {x y : Value} (hv : Rel w L c.B v I x) (hu : Rel w L c.B u I y)
    (hok : AllOk ((effIndexAddr ⟨std, T⟩ t v u).run s.ob).ok) : Gives P c a w (Instr.indexAt t x y) s d ((effIndexAddr ⟨std, T⟩ t v u).run s.ob) := by
  unfold effIndexAddr at hok ⊢
  cases hk : (T t).k <;> simp only [hk] at hok ⊢ <;> first | exact fail_elim hok | skip
  rename_i e
  cases v <;> cases u <;> simp only [Rd.run] at hok ⊢ <;> first | exact fail_elim hok | skip
  · rename_i fr dfr z n f kd i
    cases hz : ((T e).known && nbeq z (T e).sz) <;> simp only [hz, cond, Rd.run, Eff.vc] at hok ⊢ <;> first | exact fail_elim hok | skip
    simp only [Bool.and_eq_true] at hz
    have hzz := eq_of_nbeq hz.2
    subst hzz
    simp only [Rel] at hv hu
    subst hu
    obtain ⟨ad, cap, rfl, g2, g3⟩ := hv
    obtain ⟨i0, i1⟩ : (0 : Int) ≤ i ∧ i < (n : Int) := hok.1
    obtain ⟨b, off, rfl, e2, e3⟩ := g3 (by omega)
    refine Gives.val h d hd (x := .pointer (some ⟨b, off + i.toNat * (T e).sz, none⟩)) ?_ ?_
    · simp [Instr.indexAt, asIntOf, run_underlying (T_slice hT hk), i0, i1, run_sizeOf hT (known_ne hz.1), addr_add]
    · simp only [Rel]
      have := e3 i.toNat (by omega)
      exact ⟨b, _, rfl, e2.1, RelAt.mono (fun _ _ h => h) (Nat.le_refl _) _ _ _ _ _ (Evo.refl _ _) (fun b hb => hb.1) rfl this.2⟩
  · rename_i o z lo n kd i
    cases hz : ((T e).known && nbeq z (T e).sz) <;> simp only [hz, cond, Rd.run, Eff.vc] at hok ⊢ <;> first | exact fail_elim hok | skip
    simp only [Bool.and_eq_true] at hz
    have hzz := eq_of_nbeq hz.2
    subst hzz
    simp only [Rel] at hv hu
    subst hu
    obtain ⟨l, ad, cap, g1, rfl, g2, g3⟩ := hv
    obtain ⟨i0, i1⟩ : (0 : Int) ≤ i ∧ i < (n : Int) := hok.1
    rcases g3 with ⟨q1, q2⟩ | ⟨b, base, cc, et, q1, q2, q3, q4⟩
    · omega
    subst q2
    refine Gives.val h d hd (x := .pointer (some ⟨b, base + lo * (T e).sz + i.toNat * (T e).sz, none⟩)) ?_ ?_
    · simp [Instr.indexAt, asIntOf, run_underlying (T_slice hT hk), i0, i1, run_sizeOf hT (known_ne hz.1), addr_add]
    · simp only [Rel]
      refine ⟨b, base, q1 ▸ g1, ?_⟩
      simp only [std, Nat.add_mul, Nat.add_zero]
      rw [Nat.add_assoc]

theorem index_str_sound (hT : TOk P T) (h : Sim c L I s a w) (d : Option Nat) (hd : ∀ x, d = some x → x < c.N) {t : Nat} {l : List UInt8} {kd : IntKind} {i : Int} {x y : Value} {ok : List Prop}
    (hk : (T t).k = .str) (hv : Rel w L c.B (.str l) I x) (hu : Rel w L c.B (.int kd i) I y) (hi : 0 ≤ i ∧ i < (l.length : Int)) :
    Gives P c a w (Instr.index t x y) s d ⟨ok, .int .u8 (std.sidx l (std.toN i)), [], []⟩ := by
  simp only [Rel] at hv hu
  obtain ⟨sb, rfl, hl⟩ := hv
  subst hu
  have hlt : i.toNat < l.length := by omega
  have hsz : i.toNat < sb.size := by show i.toNat < sb.data.size; rw [← Array.length_toList, hl]; exact hlt
  have hget : sb[i.toNat] = l[i.toNat] := by
    subst hl; rfl
  refine Gives.val h d hd (x := .int .u8 (sb[i.toNat].toNat : Nat)) ?_ ?_
  · simp [Instr.index, asIntOf, run_underlying (T_str hT hk), hi.1, hsz]
  · simp only [Rel, std, List.getD, List.getElem?_eq_getElem hlt, Option.getD_some, hget]

theorem fieldAddr_sound (hT : TOk P T) (h : Sim c L I s a w) (d : Option Nat) (hd : ∀ x, d = some x → x < c.N) {t f : Nat} {v : V} {x : Value} (hv : Rel w L c.B v I x)
    (hok : AllOk ((effFieldAddr ⟨std, T⟩ t v f).run s.ob).ok) : Gives P c a w (Instr.fieldAt t x f) s d ((effFieldAddr ⟨std, T⟩ t v f).run s.ob) := by
  unfold effFieldAddr at hok ⊢
  cases hk : (T t).k <;> simp only [hk] at hok ⊢ <;> first | exact fail_elim hok | skip
  rename_i fs
  obtain ⟨fields, hu, hfs⟩ := T_struct hT hk
  cases hf : fs[f]? <;> simp only [hf, Rd.run] at hok ⊢ <;> first | exact fail_elim hok | skip
  rename_i q
  obtain ⟨off, sz⟩ := q
  cases hz : nble 1 sz <;> simp only [hz, cond, Rd.run] at hok ⊢ <;> first | exact fail_elim hok | skip
  have hz1 := le_of_nble hz
  rw [hfs] at hf
  simp only [List.getElem?_map, Option.map_eq_some_iff] at hf
  obtain ⟨fd, hfd, hq⟩ := hf
  cases hq
  have hfd' : fields[f]? = some fd := by simpa using hfd
  obtain ⟨inf, hinf⟩ : ∃ i, P.info? fd.type = some i := by
    cases hi : P.info? fd.type with
    | none => rw [hi] at hz1; simp at hz1
    | some i => exact ⟨i, rfl⟩
  rw [hinf] at hz1
  have hsz : (sizeOf fd.type).run P w = .ok inf.size w := by simp [sizeOf, typeInfo, hinf]
  have hne : ¬ inf.size = 0 := by simp at hz1; omega
  have hrun : ∀ b p, (Instr.fieldAt t (.pointer (some ⟨b, p, none⟩)) f).run P w = .ok (.pointer (some ⟨b, p + fd.offset, none⟩)) w := fun b p => by
    simp [Instr.fieldAt, run_underlying hu, hfd', Instr.sureAddr, fieldPlace, hsz, hne, addr_add]
  cases v <;> simp only [Rd.run, Eff.v] at hok ⊢ <;> first | exact fail_elim hok | skip
  · simp only [Rel] at hv
    obtain ⟨b, base, h1, rfl⟩ := hv
    exact Gives.val h d hd (hrun _ _) (by simp only [Rel]; exact ⟨b, base, h1, by rw [Nat.add_assoc]⟩)
  · simp only [Rel] at hv
    obtain ⟨b, base, h1, rfl⟩ := hv
    exact Gives.val h d hd (hrun _ _) (by simp only [Rel]; exact ⟨b, base, h1, by simp only [Nat.add_assoc]⟩)
  · simp only [Rel] at hv
    obtain ⟨b, p, rfl, h1, h2⟩ := hv
    exact Gives.val h d hd (hrun _ _) (by simp only [Rel]; exact ⟨b, p + fd.offset, rfl, h1, h2.drop fd.offset⟩)

/- structs -/
theorem RelL_iff : ∀ {cs : List V} {vs : List Value}, RelL w L B cs I vs ↔ vs.length = cs.length ∧ ∀ (j : Nat) (x : V) (v : Value), cs[j]? = some x → vs[j]? = some v → Rel w L B x I v
  | [], vs => by
    simp only [RelL]
    constructor
    · rintro rfl; exact ⟨rfl, fun j x v h => by simp at h⟩
    · rintro ⟨h, _⟩; simpa using h
  | y :: cs, vs => by
    simp only [RelL]
    constructor
    · rintro ⟨v, r, rfl, h1, h2⟩
      obtain ⟨g1, g2⟩ := RelL_iff.1 h2
      refine ⟨by simp [g1], fun j x u hj hu => ?_⟩
      cases j with
      | zero => simp at hj hu; subst hj; subst hu; exact h1
      | succ j => exact g2 j x u (by simpa using hj) (by simpa using hu)
    · rintro ⟨h1, h2⟩
      cases vs with
      | nil => simp at h1
      | cons v r => exact ⟨v, r, rfl, h2 0 y v rfl rfl, RelL_iff.2 ⟨by simpa using h1, fun j x u hj hu => h2 (j + 1) x u (by simpa using hj) (by simpa using hu)⟩⟩
theorem setV_get : ∀ (l : List V) (n : Nat) (vs : List V) (j : Nat), n + vs.length ≤ l.length → (setV l n vs)[j]? = if n ≤ j ∧ j < n + vs.length then vs[j - n]? else l[j]?
  | l, 0, [], j, h => by cases l <;> simp [setV]
  | [], 0, v :: vs, j, h => by simp at h
  | [], n + 1, vs, j, h => by simp at h
  | y :: l, 0, v :: vs, j, h => by
    cases j with
    | zero => simp [setV]
    | succ j =>
      have := setV_get l 0 vs j (by simp at h ⊢; omega)
      simp only [setV, List.getElem?_cons_succ, this, List.length_cons]
      by_cases g : j < vs.length
      · simp [g]
      · simp [g]
  | y :: l, n + 1, vs, j, h => by
    cases j with
    | zero => simp [setV]
    | succ j =>
      have := setV_get l n vs j (by simp at h ⊢; omega)
      simp only [setV, List.getElem?_cons_succ, this]
      by_cases g : n ≤ j ∧ j < n + vs.length
      · rw [if_pos g, if_pos (by omega), show j + 1 - (n + 1) = j - n from by omega]
      · rw [if_neg g, if_neg (by omega)]

theorem buildGo_sound {fs : List (Nat × Nat)} : ∀ {parts : List (Nat × V)} {qs : List (Nat × Value)} {cs cs' : List V} {cells : Array Value}, PartsOk w L B I parts qs →
    buildGo fs cs parts = some cs' → RelL w L B cs I cells.toList → ∃ cells', Instr.fill (fs.toArray[·]?) cells qs = some cells' ∧ RelL w L B cs' I cells'.toList
  | [], qs, cs, cs', cells, hq, hb, hr => by
    simp only [PartsOk] at hq; subst hq
    simp only [buildGo] at hb; cases hb
    exact ⟨cells, rfl, hr⟩
  | (i, v) :: r, qs, cs, cs', cells, hq, hb, hr => by
    simp only [PartsOk] at hq
    obtain ⟨x, q', rfl, hv, hq'⟩ := hq
    simp only [buildGo] at hb
    cases hf : fs[i]? <;> simp only [hf] at hb <;> first | (cases hb; done) | skip
    rename_i q
    obtain ⟨off, z⟩ := q
    cases hc : (nbeq (lenV (vcells v)) z && nble (off + z) (lenV cs) && allOne (vcells v)) <;> simp only [hc, cond] at hb <;> first | (cases hb; done) | skip
    simp only [Bool.and_eq_true] at hc
    have hz : (vcells v).length = z := by rw [← lenV_eq]; exact eq_of_nbeq hc.1.1
    have hle : off + z ≤ cs.length := by rw [← lenV_eq]; exact le_of_nble hc.1.2
    obtain ⟨hr1, hone⟩ := vcells_rel hv hc.2
    have hxs : x.cells.size = z := by rw [← hz, ← RelL.length _ _ _ hr1]; simp
    obtain ⟨l1, l2⟩ := RelL_iff.1 hr
    have hcl : cells.size = cs.length := by simpa using l1
    let cells1 := x.cells.zipIdx.foldl (fun (cs : Array Value) (p : Value × Nat) => match p with | (c, j) => cs.setIfInBounds (off + j) c) cells
    have hget : ∀ j, cells1[j]? = if off ≤ j ∧ j < off + z then x.cells.toList[j - off]? else cells[j]? := by
      intro j
      simp only [cells1, foldl_fill]
      have := foldl_set_get off x.cells.toList 0 cells j (by simp [hxs]; omega)
      rw [this]
      simp [hxs]
    have hsize : cells1.size = cells.size := by simp only [cells1, foldl_fill]; exact foldl_set_size _ _ _
    obtain ⟨m1, m2⟩ := RelL_iff.1 hr1
    have hnew : RelL w L B (setV cs off (vcells v)) I cells1.toList := by
      refine RelL_iff.2 ⟨by simp only [Array.length_toList, hsize, hcl]; rw [← lenV_eq, ← lenV_eq, lenV_set], fun j y u hj hu => ?_⟩
      rw [setV_get cs off (vcells v) j (by rw [hz]; exact hle), hz] at hj
      rw [Array.getElem?_toList, hget] at hu
      by_cases g : off ≤ j ∧ j < off + z
      · rw [if_pos g] at hj hu; exact m2 _ y u hj hu
      · rw [if_neg g] at hj hu; exact l2 j y u hj (by simpa using hu)
    obtain ⟨cells', k1, k2⟩ := buildGo_sound hq' hb hnew
    refine ⟨cells', ?_, k2⟩
    simp only [Instr.fill]
    have hfa : fs.toArray[i]? = some (off, z) := by simpa using hf
    simp only [hfa]
    rw [if_neg ?_]
    · exact k1
    · simp only [hxs]; simp; omega

theorem places_some {P : Program} : ∀ {fields : List Field}, sizesOk (fields.map fun f => (f.offset, ((P.info? f.type).map (·.size)).getD 0)) = true →
    fields.mapM (fun f => (P.info? f.type).map fun i => (f.offset, i.size)) = some (fields.map fun f => (f.offset, ((P.info? f.type).map (·.size)).getD 0))
  | [], _ => rfl
  | f :: fs, h => by
    simp only [List.map_cons, sizesOk, Bool.and_eq_true] at h
    have hz1 := le_of_nble h.1
    cases hi : P.info? f.type with
    | none => rw [hi] at hz1; simp at hz1
    | some i => simp [List.mapM_cons, hi, places_some h.2]

theorem build_sound (hT : TOk P T) (h : Sim c L I s a w) (d : Option Nat) (hd : ∀ x, d = some x → x < c.N) {t : Nat} {parts : List (Nat × V)} {qs : Array (Nat × Value)} (hq : PartsOk w L c.B I parts qs.toList)
    (hok : AllOk ((effBuild ⟨std, T⟩ t parts).run s.ob).ok) : Gives P c a w (Instr.build t qs) s d ((effBuild ⟨std, T⟩ t parts).run s.ob) := by
  unfold effBuild at hok ⊢
  cases hk : (T t).k <;> simp only [hk, Rd.run] at hok ⊢ <;> first | exact fail_elim hok | skip
  rename_i fs
  cases hc : ((T t).known && nble 1 (T t).sz && nbeq (lenV (T t).zero) (T t).sz && sizesOk fs) <;> simp only [hc, cond, Rd.run] at hok ⊢ <;> first | exact fail_elim hok | skip
  cases hb : buildGo fs (T t).zero parts <;> simp only [hb, Rd.run, Eff.v] at hok ⊢ <;> first | exact fail_elim hok | skip
  rename_i cs
  simp only [Bool.and_eq_true] at hc
  obtain ⟨⟨⟨c1, c2⟩, c3⟩, c4⟩ := hc
  obtain ⟨z, z1, z2, z3, z4⟩ := T_zero hT c1 (le_of_nble c2) (eq_of_nbeq c3) w
  obtain ⟨i, i1, i2, i3, i4, i5⟩ := T_info hT (known_ne c1)
  obtain ⟨fields, hu, hfs⟩ := T_struct hT hk
  obtain ⟨cells, k1, k2⟩ := buildGo_sound hq hb (z3 w L c.B I)
  have hzero : i.zero = some z := by
    have := z1
    simp only [zeroValue, Sem.run_bind, typeInfo, run_program, Result.andThen_ok, i1, Sem.run_pure] at this
    cases hz : i.zero with
    | none => rw [hz] at this; simp at this
    | some z' => rw [hz] at this; simp at this; rw [this]
  have hbuilt : P.built t qs.toList = some cells := by
    unfold Program.built
    rw [i1, hu]
    simp only [hzero]
    rw [places_some (by rw [← hfs]; exact c4), ← hfs]
    exact k1
  exact Gives.val h d hd (run_build w t qs cells hbuilt) (by simp only [Rel]; exact ⟨_, rfl, k2⟩)

end Go.Desk
