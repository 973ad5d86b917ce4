/- V-logic, part 14: tables of what is known, contracts, and the weakest precondition. -/
import Derived.Test.YtmfbddhgfckfaaaVm
namespace Go.Desk
open Go
set_option linter.all false
set_option linter.unusedVariables false

def lk : List (Nat × Nat) → Nat → Option Nat
  | [], _ => none
  | (a, b) :: r, o => bif nbeq o a then some b else lk r o
def kEq : IntKind → IntKind → Bool
  | .i8, .i8 | .i16, .i16 | .i32, .i32 | .i64, .i64 | .u8, .u8 | .u16, .u16 | .u32, .u32 | .u64, .u64 => true
  | _, _ => false
def fkEq : FloatKind → FloatKind → Bool
  | .f32, .f32 | .f64, .f64 => true
  | _, _ => false

def frzOf (own dfr : Bool) (z k : Nat) (f : Nat → List V) : AObj := match own with | true => .frz dfr z k f | false => .no

mutual
/-- a value renamed: ids by m; own arrays that have no name there become data -/
def conv (O : Ops) (m : List (Nat × Nat)) (lent : Bool) : V → Rd (Option V × List Prop × List (Nat × AObj))
  | .osl o z lo n => match lk m o with
    | some o' => .pure (some (.osl o' z lo n), [], [])
    | none => .get o fun
      | .arr own dfr z' k f => .pure (bif nbeq z z' && (own || lent) then some (.sl own dfr z n (fun i => f (O.nadd lo i))) else none, [O.pNle (O.nadd lo n) k], [(o, frzOf own dfr z' k f)])
      | .frz dfr z' k f => .pure (bif nbeq z z' then some (.sl true dfr z n (fun i => f (O.nadd lo i))) else none, [O.pNle (O.nadd lo n) k], [])
      | _ => .pure (none, [], [])
  | .ptr o off => .pure (match lk m o with | some o' => some (.ptr o' off) | none => none, [], [])
  | .eptr o z i off => .pure (match lk m o with | some o' => some (.eptr o' z i off) | none => none, [], [])
  | .agg cs => (convL O m lent cs).bind fun (a, p, u) => .pure (a.map V.agg, p, u)
  | .tup cs => (convL O m lent cs).bind fun (a, p, u) => .pure (a.map V.tup, p, u)
  | .fn f cs => (convL O m lent cs).bind fun (a, p, u) => .pure (a.map (V.fn f), p, u)
  | v => .pure (some v, [], [])
def convL (O : Ops) (m : List (Nat × Nat)) (lent : Bool) : List V → Rd (Option (List V) × List Prop × List (Nat × AObj))
  | [] => .pure (some [], [], [])
  | v :: r => (conv O m lent v).bind fun (a, p, u) => (convL O m lent r).bind fun (b, q, w) =>
    .pure (match a, b with | some a, some b => some (a :: b) | _, _ => none, p ++ q, u ++ w)
end

def scalC : List V → Bool
  | [] => true
  | .bool _ :: r | .int _ _ :: r | .flt _ _ :: r | .str _ :: r => scalC r
  | _ => false

/-- may the deep flag be claimed? -/
def deepOk (cl dfr dfr' : Bool) (n : Nat) (g : Nat → List V) (q : Prop) : Prop :=
  match dfr' with
  | false => q
  | true => match cl, dfr with
    | false, true => q
    | _, _ => (∀ i, i < n → scalC (g i) = true) ∧ q
def flagOk (cl fr fr' : Bool) : Bool :=
  match fr' with
  | false => true
  | true => !cl && fr

mutual
/-- the left value is known to be what the right one says; 'cl': seen from a callee, to whom nothing is fresh; 'tp': what is empty may be said to be an empty own array -/
def Le (cl tp : Bool) : V → V → Prop
  | _, .un => True
  | .und, .und => True
  | .bool a, .bool b => a = b
  | .int k a, .int k' b => bif kEq k k' then a = b else False
  | .flt k a, .flt k' b => bif fkEq k k' then a = b else False
  | .str a, .str b => a = b
  | .nil, .nil => True
  | .nil, .sl _ _ _ n _ => n = 0
  | .nil, .osl _ _ _ n => match tp with | true => n = 0 | false => False
  | .nptr, .nptr => True
  | .ifc a, .ifc b => a = b
  | .sl fr dfr z n f, .sl fr' dfr' z' n' f' => bif nbeq z z' && flagOk cl fr fr' then n = n' ∧ deepOk cl dfr dfr' n' f' (∀ i, i < n' → LeL cl false (f i) (f' i)) else False
  | .agg cs, .agg ds => LeL cl tp cs ds
  | .tup cs, .tup ds => LeL cl tp cs ds
  | .ptr o off, .ptr o' off' => bif nbeq o o' && nbeq off off' then True else False
  | .eptr o z i off, .eptr o' z' i' off' => bif nbeq o o' && nbeq z z' && nbeq off off' then i = i' else False
  | .osl o z lo n, .osl o' z' lo' n' => bif nbeq o o' && nbeq z z' then lo = lo' ∧ n = n' else False
  | .fn f cs, .fn f' ds => bif nbeq f f' then LeL cl tp cs ds else False
  | .dptr cs, .dptr ds => LeL cl false cs ds
  | _, _ => False
def LeL (cl tp : Bool) : List V → List V → Prop
  | [], [] => True
  | v :: r, u :: q => Le cl tp v u ∧ LeL cl tp r q
  | _, _ => False
end

def fzOk (cl : Bool) : List (Nat × AObj) → Bool
  | [] => true
  | _ => !cl
def ownOk (cl own own' : Bool) : Bool := match own' with | true => own && !cl | false => cl || !own
/-- an object is known to be what another one says -/
def LeO (O : Ops) (cl : Bool) (m : List (Nat × Nat)) (ob : Nat → AObj) : AObj → AObj → Prop
  | .box cs, .box ds => match (convL O m cl cs).run ob with
    | (some cs', ps, fz) => bif fzOk cl fz then allP ps (LeL cl (!cl) cs' ds) else False
    | _ => False
  | .arr own dfr z n f, .arr own' dfr' z' n' f' => bif nbeq z z' && ownOk cl own own' then n = n' ∧ deepOk cl dfr dfr' n' f' (∀ i, i < n' → LeL cl false (f i) (f' i)) else False
  | .frz dfr z n f, .frz dfr' z' n' f' => bif nbeq z z' && !cl then n = n' ∧ deepOk cl dfr dfr' n' f' (∀ i, i < n' → LeL cl false (f i) (f' i)) else False
  | _, _ => False

/-- what is known at a place of the code -/
structure Tbl where
  tm : List (Nat × V)
  ob : List (Nat × AObj)
def lkV : List (Nat × V) → Nat → V
  | [], _ => .un
  | (t, v) :: r, i => bif nbeq i t then v else lkV r i
def lkO : List (Nat × AObj) → Nat → AObj
  | [], _ => .no
  | (t, v) :: r, i => bif nbeq i t then v else lkO r i
def isKey : List (Nat × AObj) → Nat → Bool
  | [], _ => false
  | (t, _) :: r, i => bif nbeq i t then true else isKey r i
def Tbl.st (t : Tbl) : St := ⟨lkV t.tm, lkO t.ob, isKey t.ob⟩

def inv : List (Nat × Nat) → Nat → Option Nat
  | [], _ => none
  | (a, b) :: r, o => bif nbeq o b then some a else inv r o
def noDup : List Nat → Bool
  | [] => true
  | a :: r => !(r.any (nbeq a)) && noDup r
mutual
/-- ids that are named -/
def refs : V → List Nat
  | .osl o _ _ _ | .ptr o _ | .eptr o _ _ _ => [o]
  | .agg cs | .tup cs | .fn _ cs => refsL cs
  | _ => []
def refsL : List V → List Nat
  | [] => []
  | v :: r => refs v ++ refsL r
end
def objRefs : AObj → List Nat
  | .box cs => refsL cs
  | _ => []
def borOk (m : List (Nat × Nat)) (ob : List (Nat × AObj)) : Nat → Bool
  | 0 => true
  | n + 1 => (match lk m n with | some k => nbeq k n | none => false) && isKey ob n && borOk m ob n
def isKeyAll (ob : List (Nat × AObj)) : List Nat → Bool
  | [] => true
  | o :: r => isKey ob o && isKeyAll ob r
def refsTm (ob : List (Nat × AObj)) : List (Nat × V) → Bool
  | [] => true
  | (_, v) :: r => isKeyAll ob (refs v) && refsTm ob r
def refsOb (ob : List (Nat × AObj)) : List (Nat × AObj) → Bool
  | [] => true
  | (_, x) :: r => isKeyAll ob (objRefs x) && refsOb ob r
def mapOk (m : List (Nat × Nat)) (M : Nat) (t : Tbl) : Bool :=
  noDup (m.map (·.1)) && noDup (m.map (·.2)) && noDup (t.ob.map (·.1)) && borOk m t.ob M && refsTm t.ob t.tm && refsOb t.ob t.ob

def CovT (O : Ops) (m : List (Nat × Nat)) (s : St) : List (Nat × V) → Prop
  | [] => True
  | (t, v) :: r => (match (conv O m false (s.tm t)).run s.ob with
    | (some v', ps, _) => allP ps (Le false true v' v)
    | _ => False) ∧ CovT O m s r
def ghost : AObj → Prop
  | .arr own _ z n _ => bif own && nble 1 z then n = 0 else False
  | _ => False
def CovO (O : Ops) (m : List (Nat × Nat)) (s : St) : List (Nat × AObj) → Prop
  | [] => True
  | (o, x) :: r => (match inv m o with
    | some o' => LeO O false m s.ob (s.ob o') x
    | none => ghost x) ∧ CovO O m s r
/-- the state knows at least what the table says (M: how many objects were lent) -/
def Cov (O : Ops) (M : Nat) (m : List (Nat × Nat)) (s : St) (t : Tbl) : Prop :=
  bif mapOk m M t then CovT O m s t.tm ∧ CovO O m s t.ob else False

/- the names are found by comparing: nothing needs to be known of this search -/
def addP (m : List (Nat × Nat)) (a b : Nat) : List (Nat × Nat) := match lk m a with
  | some _ => m
  | none => match inv m b with | some _ => m | none => (a, b) :: m
mutual
def uni (m : List (Nat × Nat)) : V → V → List (Nat × Nat)
  | .osl o _ _ _, .osl o' _ _ _ => addP m o o'
  | .ptr o _, .ptr o' _ => addP m o o'
  | .eptr o _ _ _, .eptr o' _ _ _ => addP m o o'
  | .agg cs, .agg ds => uniL m cs ds
  | .tup cs, .tup ds => uniL m cs ds
  | .fn _ cs, .fn _ ds => uniL m cs ds
  | _, _ => m
def uniL (m : List (Nat × Nat)) : List V → List V → List (Nat × Nat)
  | v :: r, u :: q => uniL (uni m v u) r q
  | _, _ => m
end
def uniT (s : St) (m : List (Nat × Nat)) : List (Nat × V) → List (Nat × Nat)
  | [] => m
  | (t, v) :: r => uniT s (uni m (s.tm t) v) r
def uniO (s : St) (m : List (Nat × Nat)) : List (Nat × AObj) → List (Nat × Nat)
  | [] => m
  | (o, x) :: r => uniO s (match inv m o with | some o' => (match s.ob o', x with | .box cs, .box ds => uniL m cs ds | _, _ => m) | none => m) r
def idM : Nat → List (Nat × Nat)
  | 0 => []
  | n + 1 => (n, n) :: idM n
def findM (M : Nat) (s : St) (t : Tbl) : List (Nat × Nat) := uniO s (uniO s (uniT s (idM M) t.tm) t.ob) t.ob

/- contracts -/
def CallsX (P : Program) (g : Nat) (vs : Array Value) (w : World) (R : Ending → World → Prop) : Prop :=
  ((callFunc g vs).run P w = .ok (.enter g vs) w ∧ Calls P g vs w R) ∨ ∃ v w', (callFunc g vs).run P w = .ok (.value v) w' ∧ R (.returned v) w'

structure ConPre (w : World) (L : LMap) (I : Nat → Prop) (bor : List AObj) (args : List V) (vs : Array Value) : Prop where
  few : bor.length ≤ 16
  bnd : ∀ b, I b → b < w.heap.size
  args : RelL w L w.heap.size args I vs.toList
  obj : ∀ j x, bor[j]? = some x → x.mut = true ∧ ∃ l, L j = some l ∧ ObjOk w L w.heap.size I l x
  no : ∀ j, bor.length ≤ j → L j = none
  sep : ∀ j k b base base', j < bor.length → k < bor.length → L j = some (.at_ b base) → L k = some (.at_ b base') → j = k
  imm : ∀ j b base, j < bor.length → L j = some (.at_ b base) → ¬ I b

def freshOf (w w' : World) (L' : LMap) (n m : Nat) : Nat → Prop := fun b => w.heap.size ≤ b ∧ b < w'.heap.size ∧ ∀ j base, n ≤ j → j < m → L' j ≠ some (.at_ b base)

structure ConPost (w : World) (L : LMap) (I : Nat → Prop) (bor : List AObj) (res : V) (out : List AObj) (w' : World) (L' : LMap) (v : Value) : Prop where
  le : bor.length ≤ out.length
  res : Rel w' L' w.heap.size res (fun b => I b ∨ freshOf w w' L' bor.length out.length b) v
  no : ∀ j, out.length ≤ j → L' j = none
  same : ∀ j, j < bor.length → L' j = L j
  obj : ∀ j x, out[j]? = some x → x.mut = true ∧ ∃ l, L' j = some l ∧ ObjOk w' L' w.heap.size (fun b => I b ∨ freshOf w w' L' bor.length out.length b) l x
  new : ∀ j b base, bor.length ≤ j → j < out.length → L' j = some (.at_ b base) → w.heap.size ≤ b
  sep : ∀ j k b base base', j < out.length → k < out.length → L' j = some (.at_ b base) → L' k = some (.at_ b base') → j = k
  keep : Keeps w (fun b => ∃ j base, j < bor.length ∧ L j = some (.at_ b base)) w'

/-- called with these values, and these objects lent to it, function g returns this value, and the objects are these then (behind those lent: new ones) -/
def Con (P : Program) (g : Nat) (bor : List AObj) (args : List V) (res : V) (out : List AObj) : Prop :=
  ∀ (w : World) (L : LMap) (I : Nat → Prop) (vs : Array Value), ConPre w L I bor args vs →
    CallsX P g vs w fun e w' => ∃ v L', e = .returned v ∧ ConPost w L I bor res out w' L' v

/- the weakest precondition -/
inductive VExit where
  | normal
  | exit (id : Nat)
  | ret

def renum (n : Nat) (bids : List Nat) (d : Nat) (o : Nat) : Nat := match bids[o]? with | some b => b | none => nid d (o - n)
mutual
def V.ren (g : Nat → Nat) : V → V
  | .osl o z lo n => .osl (g o) z lo n
  | .ptr o off => .ptr (g o) off
  | .eptr o z i off => .eptr (g o) z i off
  | .agg cs => .agg (renL g cs)
  | .tup cs => .tup (renL g cs)
  | .fn f cs => .fn f (renL g cs)
  | v => v
def renL (g : Nat → Nat) : List V → List V
  | [] => []
  | v :: r => v.ren g :: renL g r
end
def AObj.ren (g : Nat → Nat) : AObj → AObj
  | .box cs => .box (renL g cs)
  | x => x
/-- an object that comes back has the owner that it had -/
def AObj.back : AObj → AObj → AObj
  | .arr own _ _ _ _, .arr _ dfr z n f => .arr own dfr z n f
  | _, x => x
def backs (g : Nat → Nat) (ob : Nat → AObj) : List Nat → List AObj → List (Nat × AObj)
  | b :: bs, x :: xs => (b, (AObj.back (ob b) x).ren g) :: backs g ob bs xs
  | _, _ => []
def news (g : Nat → Nat) (d : Nat) : Nat → List AObj → List (Nat × AObj)
  | _, [] => []
  | k, x :: xs => (nid d k, x.ren g) :: news g d (k + 1) xs
mutual
/-- all that the value leads to is fresh -/
def freshV : V → Bool
  | .sl fr dfr _ _ _ => fr && dfr
  | .agg cs | .tup cs | .fn _ cs => freshVs cs
  | .dptr _ => false
  | _ => true
def freshVs : List V → Bool
  | [] => true
  | v :: r => freshV v && freshVs r
end
def freshO : AObj → Bool
  | .arr _ dfr _ _ _ => dfr
  | .box cs => freshVs cs
  | _ => false
def freshOs : List AObj → Bool
  | [] => true
  | x :: r => freshO x && freshOs r
structure Two (a b : Prop) : Prop where
  l : a
  r : b
structure Tri (a b c : Prop) : Prop where
  l : a
  m : b
  r : c
def allFz : List (Nat × AObj) → Bool
  | [] => true
  | (_, .frz ..) :: r => allFz r
  | _ => false
def pairUp : List Nat → Nat → List (Nat × Nat)
  | [], _ => []
  | b :: bs, k => (b, k) :: pairUp bs (k + 1)
def LeOs (O : Ops) (m : List (Nat × Nat)) (ob : Nat → AObj) : List Nat → List AObj → Prop
  | [], [] => True
  | b :: bs, x :: xs => LeO O true m ob (ob b) x ∧ LeOs O m ob bs xs
  | _, _ => False
def dropN {α : Type} : Nat → List α → List α
  | 0, l => l
  | _ + 1, [] => []
  | n + 1, _ :: l => dropN n l

def aliasOk (fz : Bool) (fzs : List (Nat × AObj)) (res : V) (out : List AObj) : Bool := match fz with | true => allFz fzs | false => freshV res && freshOs out
def fzsOf (fz : Bool) (fzs : List (Nat × AObj)) : List (Nat × AObj) := match fz with | true => fzs | false => []
def callOk (E : Env) (s : St) (d : Nat) (bids : List Nat) (bor : List AObj) (args cargs : List V) (res : V) (out : List AObj) (fz : Bool) (k : List (Nat × AObj) → Prop) : Prop :=
  match (convL E.O (pairUp bids 0) true args).run s.ob with
  | (some args', ps, fzs) =>
    bif noDup bids && nble bids.length 16 && nble bids.length out.length && nbeq bids.length bor.length && aliasOk fz fzs res out && newOk s.us (news (renum bids.length bids d) d 0 (dropN bids.length out))
    then allP ps (Tri (LeL true false args' cargs) (LeOs E.O (pairUp bids 0) s.ob bids bor) (k (fzsOf fz fzs)))
    else False
  | _ => False

def vcall (E : Env) (P : Program) (g : Nat) (args : List V) (d : Option Nat) (s : St) (k : St → Prop) : Prop :=
  ∃ (bids : List Nat) (bor : List AObj) (cargs : List V) (res : V) (out : List AObj) (fz : Bool), Con P g bor cargs res out ∧
    callOk E s (d.getD 0) bids bor args cargs res out fz fun fzs =>
      let g := renum bids.length bids (d.getD 0)
      k (s.app d ⟨[], res.ren g, backs g s.ob bids out ++ fzs, news g (d.getD 0) 0 (dropN bids.length out)⟩)

def dstOk (N : Nat) : Option Nat → Bool
  | none => true
  | some d => nblt d N

def vact (E : Env) (P : Program) (o : Oper) (s : St) (k : St → Prop) : Prop :=
  match o.op with
  | .pick c a b => match s.ev c with
    | .bool t => Two (t = true → k (s.putO o.dst (s.ev a))) (t = false → k (s.putO o.dst (s.ev b)))
    | _ => False
  | .call ⟨.value f, args, _⟩ => match s.ev f with
    | .fn g cap => vcall E P g (args.toList.map s.ev ++ cap) o.dst s k
    | _ => False
  | op =>
    let e := (eff E (o.dst.getD 0) s.ev op).run s.ob
    allP e.ok (bif newOk s.us e.new then k (s.app o.dst e) else False)

def vop (E : Env) (P : Program) (N : Nat) (ops : List Oper) (o : Oper) (s : St) (k : St → Prop) : Prop :=
  bif dstOk N o.dst then
    match o.guard with
    | none => vact E P o s k
    | some (j, want) => match (ops[j]?).bind (·.dst) with
      | none => False
      | some g => match s.tm g with
        | .bool b => Two (b = want → vact E P o (s.put g (.bool want)) k) (b = !want → k ((s.put g (.bool !want)).putO o.dst .und))
        | .und => k (s.putO o.dst .und)
        | _ => False
  else False

def vops (E : Env) (P : Program) (N : Nat) (ops : List Oper) : List Oper → St → (St → Prop) → Prop
  | [], s, k => k s
  | o :: r, s, k => vop E P N ops o s fun s' => vops E P N ops r s' k

/- regions whose order is drawn: what each operation reads and writes is kept, and what is not ordered must not meet -/
structure Rec where
  o : Oper
  rt : List Nat
  ro : List Nat
  val : V
  upd : List (Nat × AObj)
  new : List (Nat × AObj)
def Rec.app (r : Rec) (s : St) : St := s.app r.o.dst ⟨[], r.val, r.upd, r.new⟩
def tmpsOf : List Operand → List Nat
  | [] => []
  | .tmp t :: r => t :: tmpsOf r
  | _ :: r => tmpsOf r
def isGuard (i : Nat) : List Oper → Bool
  | [] => false
  | o :: r => match o.guard with
    | some (j, _) => bif nbeq i j then true else isGuard i r
    | none => isGuard i r
inductive GV where
  | run (rt : List Nat)
  | skip (rt : List Nat)
  | bad
def guardV (ops : List Oper) (o : Oper) (s : St) : GV :=
  match o.guard with
  | none => .run []
  | some (j, want) => match (ops[j]?).bind (·.dst) with
    | none => .bad
    | some g => match s.tm g with
      | .und => .skip [g]
      | .bool true => match want with | true => .run [g] | false => .skip [g]
      | .bool false => match want with | false => .run [g] | true => .skip [g]
      | _ => .bad
def boxReads (O : Ops) (m : List (Nat × Nat)) (ob : Nat → AObj) : List Nat → List Nat
  | [] => []
  | b :: r => match ob b with
    | .box cs => (convL O m true cs).reads ob ++ boxReads O m ob r
    | _ => boxReads O m ob r
def vrec1 (E : Env) (P : Program) (o : Oper) (s : St) (rt : List Nat) (k : Rec → Prop) : Prop :=
  match o.op with
  | .pick c a b => match s.ev c with
    | .bool t => Two (t = true → k ⟨o, rt ++ tmpsOf [c, a, b], [], s.ev a, [], []⟩) (t = false → k ⟨o, rt ++ tmpsOf [c, a, b], [], s.ev b, [], []⟩)
    | _ => False
  | .call ⟨.value f, args, _⟩ => match s.ev f with
    | .fn g cap => ∃ (bids : List Nat) (bor : List AObj) (cargs : List V) (res : V) (out : List AObj) (fz : Bool), Con P g bor cargs res out ∧
      callOk E s (o.dst.getD 0) bids bor (args.toList.map s.ev ++ cap) cargs res out fz fun fzs =>
        let g := renum bids.length bids (o.dst.getD 0)
        k ⟨o, rt ++ tmpsOf (f :: args.toList), bids ++ ((convL E.O (pairUp bids 0) true (args.toList.map s.ev ++ cap)).reads s.ob ++ boxReads E.O (pairUp bids 0) s.ob bids), res.ren g, backs g s.ob bids out ++ fzs, news g (o.dst.getD 0) 0 (dropN bids.length out)⟩
    | _ => False
  | op =>
    let x := eff E (o.dst.getD 0) s.ev op
    let e := x.run s.ob
    allP e.ok (bif newOk s.us e.new then k ⟨o, rt ++ tmpsOf op.operands.toList, x.reads s.ob, e.val, e.upd, e.new⟩ else False)
def vrec (E : Env) (P : Program) (N : Nat) (ops : List Oper) : Nat → List Oper → St → List Rec → (List Rec → St → Prop) → Prop
  | _, [], s, acc, K => K acc s
  | i, o :: rest, s, acc, K => bif dstOk N o.dst then
      match guardV ops o s with
      | .bad => False
      | .skip rt => vrec E P N ops (i + 1) rest (Rec.app ⟨o, rt, [], .und, [], []⟩ s) (acc ++ [⟨o, rt, [], .und, [], []⟩]) K
      | .run rt => vrec1 E P o s rt fun r => match isGuard i ops, r.val with
        | true, .bool b => Two (b = true → vrec E P N ops (i + 1) rest (Rec.app { r with val := .bool true } s) (acc ++ [{ r with val := .bool true }]) K)
            (b = false → vrec E P N ops (i + 1) rest (Rec.app { r with val := .bool false } s) (acc ++ [{ r with val := .bool false }]) K)
        | _, _ => vrec E P N ops (i + 1) rest (r.app s) (acc ++ [r]) K
    else False
def bindsAny (e : Edge) : Bool := match e.ground with
  | .textOnly _ | .gcOnly _ => false
  | _ => true
def getN : List Nat → Nat → Nat
  | [], _ => 0
  | x :: _, 0 => x
  | _ :: r, n + 1 => getN r n
def maskOf (acc : List Nat) : List Edge → Nat
  | [] => 0
  | e :: r => bif bindsAny e then Nat.lor (Nat.lor (Nat.shiftLeft 1 e.on) (getN acc e.on)) (maskOf acc r) else maskOf acc r
def masks : List Oper → List Nat → List Nat
  | [], acc => acc
  | o :: r, acc => masks r (acc ++ [maskOf acc o.after.toList])
def memN (x : Nat) : List Nat → Bool
  | [] => false
  | y :: r => bif nbeq x y then true else memN x r
def meets : List Nat → List Nat → Bool
  | [], _ => false
  | x :: r, l => bif memN x l then true else meets r l
def keysO : List (Nat × AObj) → List Nat
  | [] => []
  | (o, _) :: r => o :: keysO r
def Rec.wt (r : Rec) : List Nat := match r.o.dst with | some d => [d] | none => []
def Rec.wo (r : Rec) : List Nat := keysO r.upd ++ keysO r.new
def dep (q r : Rec) : Bool := meets q.wt r.rt || meets q.wt r.wt || meets q.rt r.wt || meets q.wo r.ro || meets q.wo r.wo || meets q.ro r.wo
def indep1 (r : Rec) (m : Nat) : List Rec → Nat → Bool
  | [], _ => true
  | q :: qs, j => (bif dep q r then Nat.testBit m j else true) && indep1 r m qs (j + 1)
def indepAll : List Rec → List Rec → List Nat → Bool
  | _, [], _ => true
  | pre, r :: rs, m :: ms => indep1 r m pre 0 && indepAll (pre ++ [r]) rs ms
  | _, _ :: _, [] => false
def edgesBack (i : Nat) : List Edge → Bool
  | [] => true
  | e :: r => (bif bindsAny e then nblt e.on i else true) && edgesBack i r
def allBack : Nat → List Oper → Bool
  | _, [] => true
  | i, o :: r => edgesBack i o.after.toList && allBack (i + 1) r
def vany (E : Env) (P : Program) (N : Nat) (ops : List Oper) (s : St) (k : St → Prop) : Prop :=
  vrec E P N ops 0 ops s [] fun recs s' => bif allBack 0 ops && indepAll [] recs (masks ops []) then k s' else False

def vwp (E : Env) (P : Program) (N M : Nat) : Code → St → (VExit → St → Prop) → Prop
  | .skip, s, k => k .normal s
  | .label _, s, k => k .normal s
  | .region _ ops false, s, k => vops E P N ops.toList ops.toList s fun s' => k .normal s'
  | .region _ ops true, s, k => vany E P N ops.toList s fun s' => k .normal s'
  | .seq a b, s, k => vwp E P N M a s fun
    | .normal, s' => vwp E P N M b s' k
    | e, s' => k e s'
  | .cond c a b, s, k => match s.ev c with
    | .bool t => Two (t = true → vwp E P N M a s k) (t = false → vwp E P N M b s k)
    | _ => False
  | .block id c, s, k => vwp E P N M c s fun
    | .exit i, s' => bif nbeq i id then k .normal s' else k (.exit i) s'
    | e, s' => k e s'
  | .loop c, s, k => ∃ (ι : Type) (S : ι → Tbl) (μ : ι → Nat) (x0 : ι), Cov E.O M (findM M s (S x0)) s (S x0) ∧
      ∀ x, vwp E P N M c (S x).st fun
        | .normal, s' => ∃ x', Cov E.O M (findM M s' (S x')) s' (S x') ∧ μ x' < μ x
        | e, s' => k e s'
  | .exit id, s, k => k (.exit id) s
  | .ret, s, k => k .ret s
  | _, _, _ => False


/- functions -/
def retV (E : Env) (s : St) : List ResultVar → (List V → Prop) → Prop
  | [], k => k []
  | .tmp t :: r, k => retV E s r fun vs => k (s.tm t :: vs)
  | .cell a t :: r, k => match s.tm a with
    | .ptr o off => match s.ob o with
      | .box cs => match partV (E.T t) cs off with
        | some v => retV E s r fun vs => k (v :: vs)
        | none => False
      | _ => False
    | _ => False
def allMut : List AObj → Bool
  | [] => true
  | .box _ :: r | .arr .. :: r => allMut r
  | _ => false
def packV : List V → V
  | [v] => v
  | vs => .tup vs
def enumO : Nat → List AObj → List (Nat × AObj)
  | _, [] => []
  | n, x :: r => (n, x) :: enumO (n + 1) r
/-- the state in which there is but the result -/
def one (s : St) (v : V) : St := { s with tm := fun | 0 => v | _ => .un }
def finP (E : Env) (M : Nat) (rs : List ResultVar) (res : V) (out : List AObj) : VExit → St → Prop
  | .exit _, _ => False
  | _, s => retV E s rs fun vs => Cov E.O M (findM M (one s (packV vs)) ⟨[(0, res)], enumO 0 out⟩) (one s (packV vs)) ⟨[(0, res)], enumO 0 out⟩
def getV : List V → Nat → V
  | [], _ => .und
  | v :: _, 0 => v
  | _ :: r, n + 1 => getV r n
def entry (bor : List AObj) (args : List V) : St := ⟨getV args, lkO (enumO 0 bor), isKey (enumO 0 bor)⟩
def fwp (E : Env) (P : Program) (f : Func) (bor : List AObj) (args : List V) (res : V) (out : List AObj) : Prop :=
  match f.body with
  | some c => bif allMut out && nble (lenV args) f.ntmps then vwp E P f.ntmps bor.length c (entry bor args) (finP E bor.length f.results.toList res out) else False
  | none => False

end Go.Desk
