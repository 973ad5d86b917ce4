/- V-logic, part 13: every operation but calls and 'pick'. -/
import Derived.Test.YtmfbddhgfckfaaaVl
namespace Go.Desk
open Go
set_option linter.all false
set_option linter.unusedVariables false

variable {c : Ctx} {L : LMap} {I : Nat → Prop} {s : St} {a : Act} {w : World} {P : Program} {T : Nat → TI} {B : Nat}

theorem shift_sound (h : Sim c L I s a w) (d : Option Nat) (hd : ∀ x, d = some x → x < c.N) {op : BinOp} {t : Nat} {v u : V} {x y : Value} {ox oy : Operand} (hv : Rel w L c.B v I x) (hu : Rel w L c.B u I y)
    (hok : AllOk ((effShift ⟨std, T⟩ op v u).run s.ob).ok) :
    Gives P c a w (do eqGuard op t ox oy x y; binOp op t x y) s d ((effShift ⟨std, T⟩ op v u).run s.ob) := by
  unfold effShift at hok ⊢
  cases v <;> cases u <;> simp only [Rd.run] at hok ⊢ <;> first | exact fail_elim hok | skip
  rename_i k m k' n
  simp only [Rel] at hv hu; subst hv; subst hu
  cases op <;> simp only [Rd.run, Eff.vc] at hok ⊢ <;> first | exact fail_elim hok | skip
  · have h0 : (0 : Int) ≤ n := hok.1
    have hn : ¬ n < 0 := by omega
    exact Gives.val h d hd (x := .int k (k.wrap (m * 2 ^ min n.toNat k.bits))) (by simp [eqGuard_int, binOp, Op.shift, hn]) (by simp [Rel, std, bitsOf])
  · have h0 : (0 : Int) ≤ n := hok.1
    have hn : ¬ n < 0 := by omega
    exact Gives.val h d hd (x := .int k (m.fdiv (2 ^ min n.toNat k.bits))) (by simp [eqGuard_int, binOp, Op.shift, hn]) (by simp [Rel, std, bitsOf])

theorem un_sound (h : Sim c L I s a w) (d : Option Nat) (hd : ∀ x, d = some x → x < c.N) {op : UnOp} {v : V} {x : Value} (hv : Rel w L c.B v I x)
    (hok : AllOk ((effUn ⟨std, T⟩ op v).run s.ob).ok) : Gives P c a w (Op.unary op x) s d ((effUn ⟨std, T⟩ op v).run s.ob) := by
  unfold effUn at hok ⊢
  cases op <;> cases v <;> simp only [Rd.run, Eff.v] at hok ⊢ <;> first | exact fail_elim hok | skip
  · rename_i k n
    simp only [Rel] at hv; subst hv
    cases k <;> simp only [Rd.run, Eff.vc] at hok ⊢ <;> first | exact fail_elim hok | skip
    refine Gives.val h d hd (x := .int .i64 (IntKind.i64.wrap (0 - n))) (by simp [Op.unary, Op.intArith]) ?_
    simp only [Rel]
    refine congrArg (Value.int .i64) ?_
    have h1 : IntKind.i64.min ≤ -n ∧ -n ≤ IntKind.i64.max := hok.1
    rw [show (0 - n : Int) = -n from by omega]; exact wrap_i64 h1
  · rename_i k n
    simp only [Rel] at hv
    obtain ⟨b, rfl, hm, hb⟩ := hv
    subst hm
    refine Gives.val h d hd (x := .float k (Op.negFloat k b)) (by simp [Op.unary]) ?_
    simp only [Rel, std, fneg_canon]
    exact ⟨_, rfl, rfl, fneg_lt hb⟩
  · rename_i b
    simp only [Rel] at hv; subst hv
    exact Gives.val h d hd (x := .bool (!b)) (by simp [Op.unary]) (by simp [Rel])

theorem under_some (hT : TOk P T) {t : Nat} (h : (T t).known = true) : ∃ d, P.underlying t = some d := by
  obtain ⟨d, h1, _⟩ := T_desc hT (known_ne h); exact ⟨d, h1⟩

theorem conv_sound (hT : TOk P T) (h : Sim c L I s a w) (d : Option Nat) (hd : ∀ x, d = some x → x < c.N) {sr t : Nat} {v : V} {x : Value} (hv : Rel w L c.B v I x) (hs : (T sr).known = true)
    (hok : AllOk ((effConv ⟨std, T⟩ t v).run s.ob).ok) : Gives P c a w (convert sr t x) s d ((effConv ⟨std, T⟩ t v).run s.ob) := by
  unfold effConv at hok ⊢
  obtain ⟨us, hus⟩ := under_some hT hs
  cases hk : (T t).k <;> cases v <;> simp only [hk, Rd.run, Eff.v, Eff.vc] at hok ⊢ <;> first | exact fail_elim hok | skip
  · rename_i k j n
    simp only [Rel] at hv; subst hv
    refine Gives.val h d hd (x := .int k (k.wrap n)) ?_ (by simp [Rel, std])
    cases us <;> simp [convert, run_underlying hus, run_underlying (T_int hT hk), Conv.intToInt]
  · rename_i k j n
    simp only [Rel] at hv
    obtain ⟨b, rfl, hm, hb⟩ := hv
    obtain ⟨m, m1, m2, m3⟩ := hok.1
    have hm' : (j.decode b).toInt .zero = some m := by
      cases hn : (j.decode b).isNaN
      · rw [← canon_of_num hn, hm]; exact m1
      · obtain ⟨sg, tt, e⟩ := isNaN_elim ((nan_canon j b).trans hn)
        rw [hm] at e; rw [e] at m1; cases m1
    have e2 : std.ftoI j n = m := by simp [std, m1]
    refine Gives.val h d hd (x := .int k m) ?_ (by simp only [Rel, e2])
    cases us <;> simp [convert, run_underlying hus, run_underlying (T_int hT hk), Conv.floatToInt, hm', m2, m3]
  · rename_i k j n
    simp only [Rel] at hv; subst hv
    refine Gives.val h d hd (x := .float k (k.nearest n)) ?_ ?_
    · cases us <;> simp [convert, run_underlying hus, run_underlying (T_flt hT hk), Conv.intToFloat]
    · simp only [Rel, std]
      exact ⟨_, rfl, rfl, k.format.write_lt (.number (n < 0) n.natAbs 0)⟩
  · rename_i k j n
    simp only [Rel] at hv
    obtain ⟨b, rfl, hm, hb⟩ := hv
    subst hm
    have hc : ∀ w : World, (convert sr t (.float j b)).run P w = (Conv.floatToFloat j b k).run P w := by
      intro w
      cases us <;> simp [convert, run_underlying hus, run_underlying (T_flt hT hk)]
    by_cases hjk : j = k
    · subst hjk
      refine Gives.val h d hd (x := .float j b) ?_ ?_
      · rw [hc]; simp [Conv.floatToFloat]
      · simp only [Rel, std, fcv, if_true, canon_canon]; exact ⟨b, rfl, rfl, hb⟩
    · cases hdec : j.decode b with
      | nan sg tt =>
        have hnan : (j.decode b).isNaN = true := by rw [hdec]; rfl
        have hq : ∀ t : Nat, canon k (Question.cut (.nanConv k b) t) = nanOf k ∧ Question.cut (.nanConv k b) t < 2 ^ k.format.width := by
          intro t
          have := run_fop (P := P) .add k (nanOf k) (nanOf k) (by simp) { w with tape := fun _ _ => t }
          obtain ⟨r, w', r1, r2, r3, r4⟩ := this
          have hfa : fa .add k (nanOf k) (nanOf k) = none := fa_nan_l _ _ _ _ (nanOf_nan k)
          have hadd : k.format.add (nanOf k) (nanOf k) = none := hfa
          simp only [Op.floatArith, Sem.run_bind, Sem.run_pure, Result.andThen_ok, hadd] at r1
          simp [Question.forced] at r1
          have e : Question.cut (.nanBits k (nanOf k) (nanOf k)) t = Question.cut (.nanConv k b) t := by cases k <;> rfl
          rw [e] at r1
          rw [r1.1]
          rw [hfa] at r3
          exact ⟨r3, r4⟩
        refine Gives.val_drew h d hd (x := .float k (Question.cut (.nanConv k b) (w.tape w.drawn (.nanConv k b)))) ?_ (fun w' => ?_)
        · rw [hc]; simp [Conv.floatToFloat, hjk, hdec, Question.forced]
        · have hcn : canon k (fcv j k (canon j b)) = nanOf k := by
            rw [fcv_canon]; unfold fcv; rw [if_neg hjk, hdec]; exact canon_of_nan (nanOf_nan k)
          simp only [Rel, std, hcn]
          exact ⟨_, rfl, (hq _).1, (hq _).2⟩
      | infinity sg =>
        refine Gives.val h d hd (x := .float k (k.encode (.infinity sg))) ?_ ?_
        · rw [hc]; simp [Conv.floatToFloat, hjk, hdec]
        · simp only [Rel, std, fcv_canon]
          unfold fcv; rw [if_neg hjk, hdec]
          exact ⟨_, rfl, rfl, k.format.write_lt _⟩
      | number sg m e =>
        have hnum : (j.decode b).isNaN = false := by rw [hdec]; rfl
        have hp : (k.decode (k.encode (.number sg m e))).isInfinity = false := by
          have := hok.1
          rw [canon_of_num hnum] at this
          rcases this with g | g
          · exact absurd g hjk
          · rw [hdec] at g; exact g
        refine Gives.val h d hd (x := .float k (k.encode (.number sg m e))) ?_ ?_
        · rw [hc]; simp [Conv.floatToFloat, hjk, hdec, hp]
        · simp only [Rel, std, fcv_canon]
          unfold fcv; rw [if_neg hjk, hdec]
          exact ⟨_, rfl, rfl, k.format.write_lt _⟩

theorem parts_ok (h : Sim c L I s a w) : ∀ l : List (Nat × Operand), PartsOk w L c.B I (l.map fun p => (p.1, s.ev p.2)) (l.map fun p => (p.1, a.eval p.2))
  | [] => by simp [PartsOk]
  | (i, x) :: r => by
    simp only [List.map_cons, PartsOk]
    exact ⟨_, _, rfl, h.ev x, parts_ok h r⟩
theorem evs_ok (h : Sim c L I s a w) : ∀ l : List Operand, RelL w L c.B (l.map s.ev) I (l.map a.eval)
  | [] => by simp [RelL]
  | x :: r => by simp only [List.map_cons, RelL]; exact ⟨_, _, rfl, h.ev x, evs_ok h r⟩
theorem relO_ok (h : Sim c L I s a w) (x : Option Operand) : RelO w L c.B I (x.map s.ev) (x.map a.eval) := by
  cases x with
  | none => simp [RelO]
  | some x => exact ⟨_, rfl, h.ev x⟩

/-- an operation that is carried out -/
def Does (P : Program) (c : Ctx) (a : Act) (w : World) (o : Oper) (s : St) (e : Eff) : Prop :=
  ∃ n x w' L' I', (execOp a.eval o).run P w = .ok n w' ∧ (n = .value x ∨ (n = .skip ∧ x = undef)) ∧ Sim c L' I' (s.app o.dst e) (a.put o.dst x) w'

theorem Does.of_gives {M : Sem Value} {o : Oper} {e : Eff} (h : Gives P c a w M s o.dst e) (hx : ∀ x w', M.run P w = .ok x w' → (execOp a.eval o).run P w = .ok (.value x) w') : Does P c a w o s e := by
  obtain ⟨x, w', L', I', h1, h2⟩ := h
  exact ⟨_, x, w', L', I', hx x w' h1, .inl rfl, h2⟩

theorem ifc_sound (hT : TOk P T) (h : Sim c L I s a w) (o : Oper) (hd : ∀ x, o.dst = some x → x < c.N) {op : BinOp} {t yt : Nat} {x y : Operand} (hop : o.op = .binOp op t x y yt)
    (hi : isIfcNil (s.ev x) y = true) (hok : AllOk ((effIfc ⟨std, T⟩ op t (s.ev x)).run s.ob).ok) : Does P c a w o s ((effIfc ⟨std, T⟩ op t (s.ev x)).run s.ob) := by
  have hx := h.ev x
  unfold isIfcNil at hi
  split at hi
  · rename_i b hb
    rw [hb] at hx hok ⊢
    simp only [Rel] at hx
    simp only [effIfc] at hok ⊢
    cases hk : (T t).k <;> simp only [hk, Rd.run] at hok ⊢ <;> first | exact fail_elim hok | skip
    obtain ⟨ms, hms⟩ := T_iface hT hk
    have key : ∀ v : Value, ((v = .nilIface ∧ b = false) ∨ (∃ tt u, v = .iface tt u) ∧ b = true) → (Op.equal t v .nilIface).run P w = .ok (!b) w ∧ (∀ q, (eqGuard q t x (.const .nilIface) v .nilIface).run P w = .ok () w) := by
      rintro v (⟨rfl, rfl⟩ | ⟨⟨tt, u, rfl⟩, rfl⟩)
      · refine ⟨?_, fun q => by cases q <;> simp [eqGuard]⟩
        have : ∀ d, (Op.equalIn (d + 1) t .nilIface .nilIface).run P w = .ok true w := fun d => by simp only [Op.equalIn, Sem.run_bind, run_underlying hms, Result.andThen_ok, Sem.run_pure]
        exact this 9999
      · refine ⟨?_, fun q => by cases q <;> simp [eqGuard]⟩
        have : ∀ d, (Op.equalIn (d + 1) t (.iface tt u) .nilIface).run P w = .ok false w := fun d => by simp only [Op.equalIn, Sem.run_bind, run_underlying hms, Result.andThen_ok, Sem.run_pure]
        exact this 9999
    have hcase : (a.eval x = .nilIface ∧ b = false) ∨ (∃ tt u, a.eval x = .iface tt u) ∧ b = true := by
      cases b
      · exact .inl ⟨hx.1 rfl, rfl⟩
      · exact .inr ⟨hx.2 rfl, rfl⟩
    obtain ⟨k1, k2⟩ := key _ hcase
    have hcn : a.eval (.const .nilIface) = .nilIface := rfl
    cases op <;> simp only [Rd.run, Eff.v] at hok ⊢ <;> first | exact fail_elim hok | skip
    · refine Does.of_gives (M := (do pure (.bool (← Op.equal t (a.eval x) .nilIface)))) (Gives.val h o.dst hd (x := .bool (!b)) (by simp [k1]) (by simp [Rel])) (fun y w' hy => ?_)
      have hb : binOp .eql t (a.eval x) .nilIface = (do pure (.bool (← Op.equal t (a.eval x) .nilIface))) := by
        rcases hcase with ⟨e, _⟩ | ⟨⟨tt, u, e⟩, _⟩ <;> rw [e] <;> rfl
      simp only [execOp, hop, hcn, Sem.run_bind, k2, Result.andThen_ok, hb] at hy ⊢
      rw [k1] at hy ⊢
      simpa using hy
    · refine Does.of_gives (M := (do pure (.bool (!(← Op.equal t (a.eval x) .nilIface))))) (Gives.val h o.dst hd (x := .bool b) (by simp [k1]) (by simp [Rel])) (fun y w' hy => ?_)
      have hb : binOp .neq t (a.eval x) .nilIface = (do pure (.bool (!(← Op.equal t (a.eval x) .nilIface)))) := by
        rcases hcase with ⟨e, _⟩ | ⟨⟨tt, u, e⟩, _⟩ <;> rw [e] <;> rfl
      simp only [execOp, hop, hcn, Sem.run_bind, k2, Result.andThen_ok, hb] at hy ⊢
      rw [k1] at hy ⊢
      simpa using hy
  · cases hi

theorem effMake_sound (hT : TOk P T) (h : Sim c L I s a w) (d : Option Nat) (hd : ∀ x, d = some x → x < c.N) {dn t : Nat} {v u : V} {x y : Value} (hl : Rel w L c.B v I x) (hcp : Rel w L c.B u I y)
    (hok : AllOk ((effMake ⟨std, T⟩ dn t v u).run s.ob).ok) (hn : newOk s.us ((effMake ⟨std, T⟩ dn t v u).run s.ob).new = true) : Gives P c a w (Instr.makeSlice t x y) s d ((effMake ⟨std, T⟩ dn t v u).run s.ob) := by
  unfold effMake at hok hn ⊢
  split at hok
  · rename_i n m
    simp only [Rel] at hl hcp
    subst hl; subst hcp
    cases hk : (T t).k <;> simp only [hk, Rd.run] at hok hn ⊢ <;> first | exact fail_elim hok | skip
    rename_i e
    cases hc : ((T e).known && nble 1 (T e).sz && nbeq (lenV (T e).zero) (T e).sz && nble (T e).byt 65536) <;> simp only [hc, cond, Rd.run] at hok hn ⊢ <;> first | exact fail_elim hok | skip
    exact make_sound hT h d hd _ hk hc hok.1 hok.2.1 hok.2.2.1 hn
  · exact fail_elim hok

theorem effIndex_sound (hT : TOk P T) (h : Sim c L I s a w) (d : Option Nat) (hd : ∀ x, d = some x → x < c.N) {t : Nat} {v u : V} {x y : Value} (hx : Rel w L c.B v I x) (hi : Rel w L c.B u I y)
    (hok : AllOk ((effIndex ⟨std, T⟩ t v u).run s.ob).ok) : Gives P c a w (Instr.index t x y) s d ((effIndex ⟨std, T⟩ t v u).run s.ob) := by
  unfold effIndex at hok ⊢
  split at hok
  · cases hk : (T t).k <;> simp only [hk, Rd.run, Eff.vc] at hok ⊢ <;> first | exact fail_elim hok | skip
    exact index_str_sound hT h d hd hk hx hi hok.1
  · exact fail_elim hok

theorem effExtract_sound (h : Sim c L I s a w) (d : Option Nat) (hd : ∀ x, d = some x → x < c.N) {i : Nat} {v : V} {x : Value} (hx : Rel w L c.B v I x)
    (hok : AllOk ((effExtract v i).run s.ob).ok) : Gives P c a w (Instr.extract x i) s d ((effExtract v i).run s.ob) := by
  unfold effExtract at hok ⊢
  split at hok
  · rename_i vs
    cases e2 : vs[i]? <;> simp only [e2, Rd.run, Eff.v] at hok ⊢ <;> first | exact fail_elim hok | skip
    rename_i v
    simp only [Rel] at hx
    obtain ⟨xs, rfl, hr⟩ := hx
    obtain ⟨l1, l2⟩ := RelL_iff.1 hr
    have hlt : i < vs.length := by
      rcases Nat.lt_or_ge i vs.length with g | g
      · exact g
      · rw [List.getElem?_eq_none g] at e2; cases e2
    have hget : xs[i]? = some (xs[i]'(by have := l1; simp at this; omega)) := Array.getElem?_eq_getElem _
    exact Gives.val h d hd (by simp only [Instr.extract, hget]; rfl) (l2 i v _ e2 (by simp [hget]))
  · exact fail_elim hok

theorem nilCheck_sound (h : Sim c L I s a w) (o : Oper) (hd : ∀ x, o.dst = some x → x < c.N) {x : Operand} (hop : o.op = .nilCheck x) (hp : ∃ b p, a.eval x = .pointer (some ⟨b, p, none⟩)) :
    Does P c a w o s ⟨[], s.ev x, [], []⟩ := by
  obtain ⟨b, p, e⟩ := hp
  exact Does.of_gives (M := pure (a.eval x)) (Gives.val h o.dst hd (by simp) (h.ev x)) (fun y w' hy => by simp at hy; simp [execOp, hop, e, ← hy.1, ← hy.2])

theorem minmax_sound (h : Sim c L I s a w) (d : Option Nat) (hd : ∀ x, d = some x → x < c.N) {f : Int → Int → Int} {g : Value → Value → Sem Value} (hg : ∀ k m n, g (.int k m) (.int k n) = pure (.int k (f m n)))
    {v u : V} {x y : Value} (hv : Rel w L c.B v I x) (hu : Rel w L c.B u I y) (hok : AllOk ((effMinMax f v u).run s.ob).ok) :
    Gives P c a w (g x y) s d ((effMinMax f v u).run s.ob) := by
  unfold effMinMax at hok ⊢
  split at hok
  · rename_i m n
    simp only [Rel] at hv hu
    subst hv; subst hu
    exact Gives.val h d hd (x := .int .i64 (f m n)) (by simp [hg]) (by simp [Rel])
  · exact fail_elim hok

theorem effB_sound (hT : TOk P T) (h : Sim c L I s a w) (d : Option Nat) (hd : ∀ x, d = some x → x < c.N) {dn : Nat} {b : Builtin} {ty : TypeId} {args : List V} {xs : List Value} {tys : Array Nat} (hx : RelL w L c.B args I xs)
    (hok : AllOk ((effB ⟨std, T⟩ dn b args tys.toList).run s.ob).ok) (hn : newOk s.us ((effB ⟨std, T⟩ dn b args tys.toList).run s.ob).new = true) :
    ∃ M : Sem Value, (∀ consts, builtin b tys ty consts xs.toArray = (do pure (.value (← M)))) ∧ Gives P c a w M s d ((effB ⟨std, T⟩ dn b args tys.toList).run s.ob) := by
  have two : ∀ {v u : V}, RelL w L c.B [v, u] I xs → ∃ x y, xs = [x, y] ∧ Rel w L c.B v I x ∧ Rel w L c.B u I y := by
    intro v u h
    simp only [RelL] at h
    obtain ⟨x, r, rfl, h1, y, r', rfl, h2, rfl⟩ := h
    exact ⟨x, y, rfl, h1, h2⟩
  unfold effB at hok hn ⊢
  cases b <;> simp only [Rd.run] at hok hn ⊢ <;> first | exact fail_elim hok | skip
  · split at hok
    · rename_i x y t u htys
      obtain ⟨x', y', rfl, h1, h2⟩ := two hx
      have et : tys = #[t, u] := by apply Array.ext'; simpa using htys
      subst et
      exact ⟨Builtin.append_ #[t, u] ty #[x', y'], fun _ => rfl, append_sound hT h d hd h1 h2 hok hn⟩
    · exact fail_elim hok
  · split at hok
    · rename_i x t htys
      have et : tys = #[t] := by apply Array.ext'; simpa using htys
      subst et
      simp only [RelL] at hx
      obtain ⟨x', r, rfl, h1, rfl⟩ := hx
      cases hs : isSrc (T t) <;> simp only [hs, cond, Rd.run] at hok hn ⊢ <;> first | exact fail_elim hok | skip
      exact ⟨Builtin.len_ #[t] ty #[x'], fun _ => rfl, len_sound hT h d hd h1 hs hok⟩
    · exact fail_elim hok
  · split at hok
    · rename_i x y
      obtain ⟨x', y', rfl, h1, h2⟩ := two hx
      exact ⟨Builtin.max2 x' y', fun _ => by simp [builtin, Builtin.max_], minmax_sound h d hd (fun k m n => by simp [Builtin.max2, std]) h1 h2 hok⟩
    · exact fail_elim hok
  · split at hok
    · rename_i x y
      obtain ⟨x', y', rfl, h1, h2⟩ := two hx
      exact ⟨Builtin.min2 x' y', fun _ => by simp [builtin, Builtin.min_], minmax_sound h d hd (fun k m n => by simp [Builtin.min2, std]) h1 h2 hok⟩
    · exact fail_elim hok

theorem eff_sound (hT : TOk P T) (h : Sim c L I s a w) (o : Oper) (hd : ∀ x, o.dst = some x → x < c.N) (dn : Nat) (hok : AllOk ((eff ⟨std, T⟩ dn s.ev o.op).run s.ob).ok)
    (hn : newOk s.us ((eff ⟨std, T⟩ dn s.ev o.op).run s.ob).new = true) : Does P c a w o s ((eff ⟨std, T⟩ dn s.ev o.op).run s.ob) := by
  cases hop : o.op <;> simp only [hop, eff, Rd.run] at hok hn ⊢ <;> first | exact fail_elim hok | skip
  case move x =>
    exact Does.of_gives (M := pure (a.eval x)) (Gives.val h o.dst hd (by simp) (h.ev x)) (fun y w' hy => by simp at hy; simp [execOp, hop, hy.1, hy.2])
  case assign x =>
    exact Does.of_gives (M := pure (a.eval x)) (Gives.val h o.dst hd (by simp) (h.ev x)) (fun y w' hy => by simp at hy; simp [execOp, hop, hy.1, hy.2])
  case alloc e =>
    cases hc : ((T e).known && nble 1 (T e).sz && nbeq (lenV (T e).zero) (T e).sz) <;> simp only [hc, cond, Rd.run] at hok hn ⊢ <;> first | exact fail_elim hok | skip
    exact Does.of_gives (alloc_sound hT h o.dst hd _ hc hn) (fun y w' hy => by simp [execOp, hop, hy])
  case box e x =>
    cases hc : fits (T e) (s.ev x) <;> simp only [hc, cond, Rd.run] at hok hn ⊢ <;> first | exact fail_elim hok | skip
    exact Does.of_gives (box_sound hT h o.dst hd _ (h.ev x) hc hn) (fun y w' hy => by simp [execOp, hop, hy])
  case build t parts =>
    exact Does.of_gives (build_sound hT h o.dst hd (qs := parts.map fun (i, x) => (i, a.eval x)) (by simpa using parts_ok h parts.toList) hok) (fun y w' hy => by simp [execOp, hop, hy])
  case buildSlice t len parts =>
    exact Does.of_gives (buildSlice_sound hT h o.dst hd (qs := parts.map fun (i, x) => (i, a.eval x)) (by simpa using parts_ok h parts.toList) hok hn) (fun y w' hy => by simp [execOp, hop, hy])
  case load t x =>
    exact Does.of_gives (load_sound hT h o.dst hd (h.ev x) hok) (fun y w' hy => by simp [execOp, hop, hy])
  case store t x y =>
    obtain ⟨w', L', I', h1, h2⟩ := store_sound hT h o.dst hd (h.ev x) (h.ev y) hok
    exact ⟨_, undef, w', L', I', by simp [execOp, hop, h1], .inr ⟨rfl, rfl⟩, h2⟩
  case nilCheck x =>
    have hx := h.ev x
    cases hv : s.ev x <;> simp only [hv, Rd.run, Eff.v] at hok hn ⊢ <;> first | exact fail_elim hok | skip
    all_goals
      rw [hv] at hx
      simp only [Rel] at hx
    · obtain ⟨b, base, _, e⟩ := hx
      rw [← hv]; exact nilCheck_sound h o hd hop ⟨_, _, e⟩
    · obtain ⟨b, base, _, e⟩ := hx
      rw [← hv]; exact nilCheck_sound h o hd hop ⟨_, _, e⟩
    · obtain ⟨b, base, e, _⟩ := hx
      rw [← hv]; exact nilCheck_sound h o hd hop ⟨_, _, e⟩
  case binOp op t x y yt =>
    cases hs : isShift op <;> simp only [hs] at hok hn ⊢
    · cases hi : isIfcNil (s.ev x) y <;> simp only [hi] at hok hn ⊢
      · exact Does.of_gives (bin_sound hT h o.dst hd (ox := x) (oy := y) (h.ev x) (h.ev y) hs hok) (fun z w' hz => by simp only [execOp, hop, Sem.run_bind] at hz ⊢; rw [hz]; rfl)
      · exact ifc_sound hT h o hd hop hi hok
    · exact Does.of_gives (shift_sound h o.dst hd (ox := x) (oy := y) (t := t) (h.ev x) (h.ev y) hok) (fun z w' hz => by simp only [execOp, hop, Sem.run_bind] at hz ⊢; rw [hz]; rfl)
  case unOp op t x =>
    exact Does.of_gives (un_sound h o.dst hd (h.ev x) hok) (fun y w' hy => by simp [execOp, hop, hy])
  case convert sr t x =>
    cases hc : (T sr).known <;> simp only [hc, cond, Rd.run] at hok hn ⊢ <;> first | exact fail_elim hok | skip
    exact Does.of_gives (conv_sound hT h o.dst hd (h.ev x) hc hok) (fun y w' hy => by simp [execOp, hop, hy])
  case makeSlice t l cp =>
    exact Does.of_gives (effMake_sound hT h o.dst hd (h.ev l) (h.ev cp) hok hn) (fun y w' hy => by simp [execOp, hop, hy])
  case slice t x lo hi mx =>
    cases mx <;> simp only [Rd.run] at hok hn ⊢ <;> first | exact fail_elim hok | skip
    exact Does.of_gives (slice_sound hT h o.dst hd (h.ev x) (relO_ok h lo) (relO_ok h hi) hok) (fun y w' hy => by simp [execOp, hop, hy])
  case fieldAddr t x f =>
    exact Does.of_gives (fieldAddr_sound hT h o.dst hd (h.ev x) hok) (fun y w' hy => by simp [execOp, hop, hy])
  case indexAddr t x i =>
    exact Does.of_gives (indexAddr_sound hT h o.dst hd (h.ev x) (h.ev i) hok) (fun y w' hy => by simp [execOp, hop, hy])
  case index t x i =>
    exact Does.of_gives (effIndex_sound hT h o.dst hd (h.ev x) (h.ev i) hok) (fun y w' hy => by simp [execOp, hop, hy])
  case extract x i =>
    exact Does.of_gives (effExtract_sound h o.dst hd (h.ev x) hok) (fun y w' hy => by simp [execOp, hop, hy])
  case makeFunc fn first captured =>
    cases fn <;> simp only [Rd.run] at hok hn ⊢ <;> first | exact fail_elim hok | skip
    rename_i f
    cases hf : first.toList <;> simp only [hf, Rd.run, Eff.v] at hok hn ⊢ <;> first | exact fail_elim hok | skip
    have hf' : first = #[] := by apply Array.ext'; simpa using hf
    refine Does.of_gives (M := Instr.makeFunc (.func f) #[] (captured.map a.eval)) (Gives.val h o.dst hd (x := .func (.func f) #[] (captured.map a.eval)) (by simp [Instr.makeFunc]) ?_) (fun y w' hy => by simp [execOp, hop, hf', hy])
    simp only [Rel]
    exact ⟨_, rfl, by simpa using evs_ok h captured.toList⟩
  case call cl =>
    obtain ⟨callee, args, argTypes⟩ := cl
    cases callee <;> simp only [Rd.run] at hok hn ⊢ <;> first | exact fail_elim hok | skip
    rename_i b
    obtain ⟨M, hM, hg⟩ := effB_sound hT h o.dst hd (dn := dn) (b := b) (ty := o.type) (tys := argTypes) (evs_ok h args.toList) hok hn
    refine Does.of_gives hg fun y w' hy => ?_
    have e : (args.toList.map a.eval).toArray = args.map a.eval := by apply Array.ext'; simp
    have key : ∀ cs, builtin b argTypes o.type cs (args.map a.eval) = (do pure (.value (← M))) := fun cs => by rw [← e]; exact hM cs
    simp only [execOp, hop, resolve, Sem.run_bind, Sem.run_pure, Result.andThen_ok, invoke]
    rw [key]
    simp [hy]

end Go.Desk
