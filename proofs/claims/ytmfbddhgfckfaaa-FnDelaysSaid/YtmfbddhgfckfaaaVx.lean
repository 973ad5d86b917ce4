/- V-logic, part 23: functions of the library that have no body. -/
import Derived.Test.YtmfbddhgfckfaaaVs
import Derived.KernelRfl
namespace Go.Desk
open Go
set_option linter.all false
set_option linter.unusedVariables false

variable {P : Program}

/-- a value that leads nowhere -/
def flat : V → Bool
  | .bool _ | .int _ _ | .flt _ _ => true
  | _ => false
theorem flat_rel {w w' : World} {L L' : LMap} {B B' : Nat} {I I' : Nat → Prop} {v : V} {x : Value} (h : flat v = true) (hr : Rel w L B v I x) : Rel w' L' B' v I' x := by
  cases v <;> simp only [flat] at h <;> first | (cases h; done) | (simpa only [Rel] using hr)

theorem con_ext {g : Nat} {fn : Func} {f : Array Value → Sem Value} (hf : P.funcs[g]? = some fn) (hname : (fn.name == "runtime.NumGoroutine") = false) (hb : fn.body.isNone = true)
    (hn : Extern.findNext fn = none) (he : Extern.find fn = some f) {args : List V} {res : V} (hres : flat res = true)
    (h : ∀ (w : World) (vs : Array Value), RelL w N0 w.heap.size args (fun _ => False) vs.toList → ∃ v, ((f vs).run P w = .ok v w ∨ (f vs).run P w = .ok v w.drew) ∧ Rel w N0 w.heap.size res (fun _ => False) v)
    (hargs : args.all flat = true) : Con P g [] args res [] := by
  intro w L I vs pre
  have hv : RelL w N0 w.heap.size args (fun _ => False) vs.toList := by
    have : ∀ (cs : List V) (xs : List Value), cs.all flat = true → RelL w L w.heap.size cs I xs → RelL w N0 w.heap.size cs (fun _ => False) xs := by
      intro cs
      induction cs with
      | nil => intro xs _ h; simpa only [RelL] using h
      | cons v r ih =>
        intro xs ha h
        simp only [List.all_cons, Bool.and_eq_true] at ha
        simp only [RelL] at h ⊢
        obtain ⟨x, xr, rfl, h1, h2⟩ := h
        exact ⟨x, xr, rfl, flat_rel ha.1 h1, ih xr ha.2 h2⟩
    exact this args _ hargs pre.args
  obtain ⟨v, hrun, hrel⟩ := h w vs hv
  have hname' : ¬ fn.name = "runtime.NumGoroutine" := by simpa using hname
  have hb : fn.body = none := by simpa using hb
  have post : ∀ w', (w' = w ∨ w' = w.drew) → ConPost w L I [] res [] w' L v := by
    intro w' hw
    have hh : w'.heap = w.heap := by rcases hw with h | h <;> subst h <;> rfl
    have ho : w'.os = w.os ∧ w'.output = w.output := by rcases hw with h | h <;> subst h <;> exact ⟨rfl, rfl⟩
    refine { le := Nat.le_refl _, res := flat_rel hres hrel, no := fun j hj => pre.no j hj, same := fun _ _ => rfl, obj := fun j x hx => by simp at hx, new := fun j b base h1 h2 => by simp at h2, sep := fun j k b base base' h1 => by simp at h1, keep := ?_ }
    exact ⟨by rw [hh]; exact Nat.le_refl _, fun b _ _ => by rw [hh], fun b c e h => ⟨c, by rw [hh]; exact h, rfl⟩, ho.1, ho.2, fun a => by simp only [World.frozen?, hh]⟩
  refine .inr ?_
  rcases hrun with hr | hr
  · exact ⟨v, w, by simp [callFunc, hf, hname', hb, hn, he, hr], v, L, rfl, post w (.inl rfl)⟩
  · exact ⟨v, w.drew, by simp [callFunc, hf, hname', hb, hn, he, hr], v, L, rfl, post w.drew (.inr rfl)⟩

theorem one_arg {w : World} {v : V} {vs : Array Value} (h : RelL w N0 w.heap.size [v] (fun _ => False) vs.toList) : ∃ x, vs = #[x] ∧ Rel w N0 w.heap.size v (fun _ => False) x := by
  simp only [RelL] at h
  obtain ⟨x, r, h1, h2, h3⟩ := h
  refine ⟨x, ?_, h2⟩
  apply Array.ext'
  rw [h1, h3]

/-- is this one of the bits of a NaN? -/
def isN (k : FloatKind) (n : Nat) : Bool := (k.decode n).isNaN
theorem bits_of {k : FloatKind} {b n : Nat} (h : canon k b = n) (hn : isN k n = false) : b = n := by
  have : (k.decode b).isNaN = false := by rw [← nan_canon, h]; exact hn
  rw [canon_of_num this] at h; exact h

theorem con_f32bits {g : Nat} {fn : Func} (hf : P.funcs[g]? = some fn) (hname : (fn.name == "runtime.NumGoroutine") = false) (hb : fn.body.isNone = true)
    (hn : Extern.findNext fn = none) (he : Extern.find fn = some Extern.MathFloatBits.float32bits) {n : Nat} (h : isN .f32 n = false) : Con P g [] [.flt .f32 n] (.int .u32 n) [] := by
  refine con_ext hf hname hb hn he rfl (fun w vs hv => ?_) rfl
  obtain ⟨x, rfl, hx⟩ := one_arg hv
  simp only [Rel] at hx
  obtain ⟨b, rfl, h1, h2⟩ := hx
  have := bits_of h1 h
  subst this
  exact ⟨.int .u32 b, .inl (by rw [show Extern.MathFloatBits.float32bits #[.float .f32 b] = pure (.int .u32 b) from rfl]; simp), by simp [Rel]⟩
theorem con_f64bits {g : Nat} {fn : Func} (hf : P.funcs[g]? = some fn) (hname : (fn.name == "runtime.NumGoroutine") = false) (hb : fn.body.isNone = true)
    (hn : Extern.findNext fn = none) (he : Extern.find fn = some Extern.MathFloatBits.float64bits) {n : Nat} (h : isN .f64 n = false) : Con P g [] [.flt .f64 n] (.int .u64 n) [] := by
  refine con_ext hf hname hb hn he rfl (fun w vs hv => ?_) rfl
  obtain ⟨x, rfl, hx⟩ := one_arg hv
  simp only [Rel] at hx
  obtain ⟨b, rfl, h1, h2⟩ := hx
  have := bits_of h1 h
  subst this
  exact ⟨.int .u64 b, .inl (by rw [show Extern.MathFloatBits.float64bits #[.float .f64 b] = pure (.int .u64 b) from rfl]; simp), by simp [Rel]⟩
theorem con_f32from {g : Nat} {fn : Func} (hf : P.funcs[g]? = some fn) (hname : (fn.name == "runtime.NumGoroutine") = false) (hb : fn.body.isNone = true)
    (hn : Extern.findNext fn = none) (he : Extern.find fn = some Extern.MathFloatBits.float32frombits) {n : Int} (h : n.toNat < 2 ^ 32) : Con P g [] [.int .u32 n] (.flt .f32 (canon .f32 n.toNat)) [] := by
  refine con_ext hf hname hb hn he rfl (fun w vs hv => ?_) rfl
  obtain ⟨x, rfl, hx⟩ := one_arg hv
  simp only [Rel] at hx
  subst hx
  refine ⟨.float .f32 n.toNat, .inl (by rw [show Extern.MathFloatBits.float32frombits #[.int .u32 n] = pure (.float .f32 n.toNat) from rfl]; simp), ?_⟩
  simp only [Rel]
  exact ⟨n.toNat, rfl, rfl, h⟩
theorem con_f64from {g : Nat} {fn : Func} (hf : P.funcs[g]? = some fn) (hname : (fn.name == "runtime.NumGoroutine") = false) (hb : fn.body.isNone = true)
    (hn : Extern.findNext fn = none) (he : Extern.find fn = some Extern.MathFloatBits.float64frombits) {n : Int} (h : n.toNat < 2 ^ 64) : Con P g [] [.int .u64 n] (.flt .f64 (canon .f64 n.toNat)) [] := by
  refine con_ext hf hname hb hn he rfl (fun w vs hv => ?_) rfl
  obtain ⟨x, rfl, hx⟩ := one_arg hv
  simp only [Rel] at hx
  subst hx
  refine ⟨.float .f64 n.toNat, .inl (by rw [show Extern.MathFloatBits.float64frombits #[.int .u64 n] = pure (.float .f64 n.toNat) from rfl]; simp), ?_⟩
  simp only [Rel]
  exact ⟨n.toNat, rfl, rfl, h⟩
def integralV (way : Ieee.Toward) (n : Nat) : Nat := FloatKind.f64.encode ((FloatKind.f64.decode n).integral way)
/-- rounding to whole numbers, of what is a number -/
theorem con_integral {g : Nat} {fn : Func} {name : String} {way : Ieee.Toward} (hf : P.funcs[g]? = some fn) (hname : (fn.name == "runtime.NumGoroutine") = false) (hb : fn.body.isNone = true)
    (hn : Extern.findNext fn = none) (he : Extern.find fn = some (Extern.MathFloor.toIntegral name way)) {n : Nat} (h : isN .f64 n = false) (h2 : isN .f64 (integralV way n) = false) (h3 : integralV way n < 2 ^ 64) : Con P g [] [.flt .f64 n] (.flt .f64 (integralV way n)) [] := by
  refine con_ext hf hname hb hn he rfl (fun w vs hv => ?_) rfl
  obtain ⟨x, rfl, hx⟩ := one_arg hv
  simp only [Rel] at hx
  obtain ⟨b, rfl, h4, h5⟩ := hx
  have := bits_of h4 h
  subst this
  refine ⟨.float .f64 (integralV way b), .inl ?_, ?_⟩
  · unfold isN at h
    have e : Extern.MathFloor.toIntegral name way #[.float .f64 b] = (match FloatKind.f64.decode b with
      | .nan s t => if FloatKind.f64.format.quiet t = t then pure (.float .f64 b) else do
        let kept ← choose (.extern "math.Floor,Ceil,Trunc,RoundToEven.signallingNaN kept" 2)
        pure (.float .f64 (if kept == 1 then b else FloatKind.f64.encode (.nan s (FloatKind.f64.format.quiet t))))
      | d => pure (.float .f64 (FloatKind.f64.encode (d.integral way)))) := rfl
    rw [e]
    unfold integralV
    cases hd : FloatKind.f64.decode b with
    | nan s t => rw [hd] at h; cases h
    | _ => simp
  · simp only [Rel]
    exact ⟨_, rfl, canon_of_num h2, h3⟩
def sqrtV (n : Nat) : Nat := match FloatKind.f64.format.sqrt n with | some r => r | none => nanOf .f64
theorem con_sqrt {g : Nat} {fn : Func} (hf : P.funcs[g]? = some fn) (hname : (fn.name == "runtime.NumGoroutine") = false) (hb : fn.body.isNone = true)
    (hn : Extern.findNext fn = none) (he : Extern.find fn = some Extern.MathSqrt.sqrt) {n r : Nat} (h : isN .f64 n = false) (hr : FloatKind.f64.format.sqrt n = some r) (h2 : isN .f64 r = false) (h3 : r < 2 ^ 64) : Con P g [] [.flt .f64 n] (.flt .f64 r) [] := by
  refine con_ext hf hname hb hn he rfl (fun w vs hv => ?_) rfl
  obtain ⟨x, rfl, hx⟩ := one_arg hv
  simp only [Rel] at hx
  obtain ⟨b, rfl, h4, h5⟩ := hx
  have := bits_of h4 h
  subst this
  refine ⟨.float .f64 r, .inl ?_, ?_⟩
  · have e : Extern.MathSqrt.sqrt #[.float .f64 b] = (match FloatKind.f64.format.sqrt b with
      | some r => pure (.float .f64 r)
      | none => do pure (.float .f64 (← choose (.nanBits .f64 b b)))) := rfl
    rw [e, hr]; simp
  · simp only [Rel]
    exact ⟨_, rfl, canon_of_num h2, h3⟩

end Go.Desk
