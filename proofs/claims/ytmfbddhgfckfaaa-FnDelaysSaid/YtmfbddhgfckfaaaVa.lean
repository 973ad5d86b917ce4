/- V-logic, part 1: abstract values, states, and the abstract meaning of code. Nothing here speaks of the machine. -/
import Derived.Calls
namespace Go.Desk
open Go
set_option linter.all false
set_option linter.unusedVariables false

/- comparing of numbers, in words that are reckoned at once -/
def nbeq (a b : Nat) : Bool := a == b
def nble (a b : Nat) : Bool := decide (a ≤ b)
def nblt (a b : Nat) : Bool := decide (a < b)
@[simp] theorem nbeq_eq (a b : Nat) : (nbeq a b = true) = (a = b) := by simp [nbeq]
@[simp] theorem nble_eq (a b : Nat) : (nble a b = true) = (a ≤ b) := by simp [nble]
theorem nblt_eq (a b : Nat) : (nblt a b = true) = (a < b) := by simp [nblt]
@[simp] theorem nbeq_refl (a : Nat) : nbeq a a = true := by simp
@[simp] theorem nbeq_false (a b : Nat) : (nbeq a b = false) = ¬ a = b := by simp [nbeq]
theorem eq_of_nbeq {a b : Nat} (h : nbeq a b = true) : a = b := by simpa using h
theorem ne_of_nbeq {a b : Nat} (h : nbeq a b = false) : a ≠ b := by simpa using h
theorem le_of_nble {a b : Nat} (h : nble a b = true) : a ≤ b := by simpa using h
theorem nble_of_le {a b : Nat} (h : a ≤ b) : nble a b = true := by simpa using h

/-- ONE NaN a kind: the bits of a number, all not-a-numbers being one. -/
def canon (k : FloatKind) (b : Nat) : Nat :=
  match k with
  | .f32 => bif decide (2139095040 < b % 2147483648) then 2143289344 else b
  | .f64 => bif decide (9218868437227405312 < b % 9223372036854775808) then 9221120237041090560 else b

/-- Arithmetic, kept closed while code is evaluated: a variable of this type stands for 'std'. -/
structure Ops where
  iadd : Int → Int → Int
  isub : Int → Int → Int
  imul : Int → Int → Int
  idiv : Int → Int → Int
  irem : Int → Int → Int
  ineg : Int → Int
  wrap : IntKind → Int → Int
  ilt : Int → Int → Bool
  ile : Int → Int → Bool
  ieq : Int → Int → Bool
  bits : BinOp → IntKind → Int → Int → Int
  toN : Int → Nat
  ofN : Nat → Int
  imin : Int → Int → Int
  imax : Int → Int → Int
  nadd : Nat → Nat → Nat
  nsub : Nat → Nat → Nat
  nlt : Nat → Nat → Bool
  neq : Nat → Nat → Bool
  band : Bool → Bool → Bool
  beq : Bool → Bool → Bool
  pIn : IntKind → Int → Prop
  pIdx : Int → Nat → Prop
  pLe : Int → Int → Prop
  pNe : Int → Int → Prop
  pNle : Nat → Nat → Prop
  pNlt : Nat → Nat → Prop
  pNeq : Nat → Nat → Prop
  pSmall : Nat → Prop
  fop : BinOp → FloatKind → Nat → Nat → Nat
  fcmp : BinOp → FloatKind → Nat → Nat → Bool
  fneg : FloatKind → Nat → Nat
  fconv : FloatKind → FloatKind → Nat → Nat
  fofI : FloatKind → Int → Nat
  ftoI : FloatKind → Nat → Int
  pConv : FloatKind → FloatKind → Nat → Prop
  pToI : FloatKind → IntKind → Nat → Prop
  pNum : FloatKind → Nat → Prop
  funary : Nat → Nat → Nat
  slen : List UInt8 → Nat
  sidx : List UInt8 → Nat → Int
  ssub : List UInt8 → Nat → Nat → List UInt8
  sapp : List UInt8 → List UInt8 → List UInt8
  scmp : BinOp → List UInt8 → List UInt8 → Bool
  llen : {α : Type} → List α → Nat
  lget : {α : Type} → List α → Nat → α → α
  lapp : {α : Type} → List α → List α → List α
  lset : {α : Type} → List α → Nat → α → List α
  lsub : {α : Type} → List α → Nat → Nat → List α
  lrep : {α : Type} → Nat → α → List α

inductive V where
  | un
  | und
  | bool (b : Bool)
  | int (k : IntKind) (n : Int)
  | flt (k : FloatKind) (n : Nat)
  | str (l : List UInt8)
  | nil
  | nptr
  | ifc (b : Bool)
  | sl (fr dfr : Bool) (z n : Nat) (f : Nat → List V)
  | agg (cs : List V)
  | tup (vs : List V)
  | ptr (o off : Nat)
  | eptr (o z i off : Nat)
  | dptr (cs : List V)
  | osl (o z lo n : Nat)
  | fn (f : Nat) (cap : List V)

instance : Inhabited V := ⟨.un⟩

/-- An object: a variable's cells; an array that is the call's own (or lent to it); an array that nobody writes any more. -/
inductive AObj where
  | no
  | box (cs : List V)
  | arr (own dfr : Bool) (z n : Nat) (f : Nat → List V)
  | frz (dfr : Bool) (z n : Nat) (f : Nat → List V)

structure St where
  tm : Nat → V
  ob : Nat → AObj
  us : Nat → Bool

def St.put (s : St) (d : Nat) (v : V) : St := { s with tm := fun i => bif nbeq i d then v else s.tm i }
def St.putO (s : St) (d : Option Nat) (v : V) : St := match d with | some d => s.put d v | none => s
def upO : List (Nat × AObj) → (Nat → AObj) → Nat → AObj
  | [], ob => ob
  | (i, x) :: r, ob => fun o => bif nbeq o i then x else upO r ob o
def upU : List (Nat × AObj) → (Nat → Bool) → Nat → Bool
  | [], us => us
  | (i, _) :: r, us => fun o => bif nbeq o i then true else upU r us o

/-- types, as far as code asks for them -/
inductive TK where
  | bool | int (k : IntKind) | flt (k : FloatKind) | str | ptr (e : Nat) | slice (e : Nat)
  | struct (fs : List (Nat × Nat)) | func | iface | tuple | other
structure TI where
  k : TK
  sz : Nat
  byt : Nat
  zero : List V
instance : Inhabited TI := ⟨⟨.other, 0, 0, []⟩⟩

structure Env where
  O : Ops
  T : Nat → TI

def nanOf : FloatKind → Nat
  | .f32 => 2143289344
  | .f64 => 9221120237041090560

def TI.known (t : TI) : Bool := match t.k with | .other => false | _ => true
def TI.agg (t : TI) : Bool := match t.k with | .struct _ => true | _ => false

/-- constants -/
def vlit : Value → V
  | .bool b => .bool b
  | .int k n => .int k n
  | .float .f32 b => bif decide (b < 4294967296) then .flt .f32 (canon .f32 b) else .un
  | .float .f64 b => bif decide (b < 18446744073709551616) then .flt .f64 (canon .f64 b) else .un
  | .string s => .str s.data.toList
  | .slice none 0 0 => .nil
  | .pointer none => .nptr
  | .nilIface => .ifc false
  | _ => .un
def vconst : Value → V
  | .agg cs => .agg (cs.toList.map vlit)
  | v => vlit v

def St.ev (s : St) : Operand → V
  | .tmp t => s.tm t
  | .const v => vconst v
  | .func f => .fn f []
  | .global _ => .un

/-- reading objects -/
inductive Rd (α : Type) where
  | pure (a : α)
  | get (o : Nat) (k : AObj → Rd α)
def Rd.bind {α β : Type} : Rd α → (α → Rd β) → Rd β
  | .pure a, f => f a
  | .get o k, f => .get o fun x => (k x).bind f
def Rd.run {α : Type} (ob : Nat → AObj) : Rd α → α
  | .pure a => a
  | .get o k => (k (ob o)).run ob
def Rd.reads {α : Type} (ob : Nat → AObj) : Rd α → List Nat
  | .pure _ => []
  | .get o k => o :: (k (ob o)).reads ob

/-- what an operation does -/
structure Eff where
  ok : List Prop
  val : V
  upd : List (Nat × AObj)
  new : List (Nat × AObj)
def Eff.fail : Eff := ⟨[False], .un, [], []⟩
def Eff.v (v : V) : Rd Eff := .pure ⟨[], v, [], []⟩
def Eff.vc (ok : List Prop) (v : V) : Rd Eff := .pure ⟨ok, v, [], []⟩
def allP : List Prop → Prop → Prop
  | [], x => x
  | p :: r, x => p ∧ allP r x

def nid (d j : Nat) : Nat := 16 * d + j

def vcells : V → List V
  | .agg cs => cs
  | v => [v]
def dropV : Nat → List V → List V
  | 0, l => l
  | _ + 1, [] => []
  | n + 1, _ :: l => dropV n l
def takeV : Nat → List V → List V
  | 0, _ => []
  | _ + 1, [] => []
  | n + 1, a :: l => a :: takeV n l
def setV : List V → Nat → List V → List V
  | l, 0, [] => l
  | [], _, _ => []
  | _ :: l, 0, v :: vs => v :: setV l 0 vs
  | a :: l, n + 1, vs => a :: setV l n vs
def lenV : List V → Nat
  | [] => 0
  | _ :: l => lenV l + 1
/-- a variable's value out of cells -/
def partV (t : TI) (cs : List V) (off : Nat) : Option V :=
  bif t.known then match t.agg with
  | true => bif nble (off + t.sz) (lenV cs) then some (.agg (takeV t.sz (dropV off cs))) else none
  | false => match dropV off cs with
    | v :: _ => some v
    | [] => none
  else none
/-- are all slices among the cells fresh to the bottom? -/
def freshC : List V → Bool
  | [] => true
  | .sl fr dfr _ _ _ :: r => fr && dfr && freshC r
  | _ :: r => freshC r

/-- is it a value of one cell that an array's element can hold? -/
def plainC : V → Bool
  | .bool _ | .int _ _ | .flt _ _ | .str _ | .nil | .sl _ _ _ _ _ => true
  | _ => false

/-- data out of a value: own slices become data; what is looked at is named and, if it is the call's own, frozen -/
def dat1 (O : Ops) : V → Rd (Option V × List Prop × List (Nat × AObj))
  | .osl o z lo n => .get o fun
    | .arr true dfr z' m f => .pure (bif nbeq z z' then some (.sl true dfr z n (fun i => f (O.nadd lo i))) else none, [O.pNle (O.nadd lo n) m], [(o, .frz dfr z' m f)])
    | .frz dfr z' m f => .pure (bif nbeq z z' then some (.sl true dfr z n (fun i => f (O.nadd lo i))) else none, [O.pNle (O.nadd lo n) m], [])
    | _ => .pure (none, [], [])
  | v => .pure (bif plainC v then some v else none, [], [])
def datL (O : Ops) : List V → Rd (Option (List V) × List Prop × List (Nat × AObj))
  | [] => .pure (some [], [], [])
  | v :: r => (dat1 O v).bind fun (a, p, u) => (datL O r).bind fun (b, q, w) =>
    .pure (match a, b with | some a, some b => some (a :: b) | _, _ => none, p ++ q, u ++ w)

/-- the elements that a slice value holds: z, number, function, fresh to the bottom; with conditions -/
def elemsOf (O : Ops) : V → Rd (Option (Nat × Nat × (Nat → List V) × Bool) × List Prop)
  | .nil => .pure (some (0, 0, fun _ => [], true), [])
  | .sl _ dfr z n f => .pure (some (z, n, f, dfr), [])
  | .osl o z lo n => .get o fun
    | .arr _ dfr z' m f => .pure (bif nbeq z z' then some (z, n, fun i => f (O.nadd lo i), dfr) else none, [O.pNle (O.nadd lo n) m])
    | .frz dfr z' m f => .pure (bif nbeq z z' then some (z, n, fun i => f (O.nadd lo i), dfr) else none, [O.pNle (O.nadd lo n) m])
    | _ => .pure (none, [])
  | _ => .pure (none, [])

def effLoad (E : Env) (t : Nat) : V → Rd Eff
  | .ptr o off => .get o fun
    | .box cs => match partV (E.T t) cs off with | some v => Eff.v v | none => .pure .fail
    | _ => .pure .fail
  | .eptr o z i off => .get o fun
    | .arr _ _ z' n f => match nbeq z z', partV (E.T t) (f i) off with | true, some v => Eff.vc [E.O.pNlt i n] v | _, _ => .pure .fail
    | .frz _ z' n f => match nbeq z z', partV (E.T t) (f i) off with | true, some v => Eff.vc [E.O.pNlt i n] v | _, _ => .pure .fail
    | _ => .pure .fail
  | .dptr cs => match partV (E.T t) cs 0 with | some v => Eff.v v | none => .pure .fail
  | _ => .pure .fail

/-- surely the value of one cell? -/
def oneC : V → Bool
  | .un | .und | .agg _ | .tup _ => false
  | _ => true
def allOne : List V → Bool
  | [] => true
  | c :: r => oneC c && allOne r
def fits (t : TI) (x : V) : Bool :=
  t.known && nble 1 t.sz && match t.agg, x with
  | true, .agg cs => nbeq (lenV cs) t.sz && allOne cs
  | true, _ => false
  | false, .agg _ | false, .tup _ | false, .un | false, .und => false
  | false, _ => nbeq t.sz 1

def notIn (o : Nat) : List (Nat × AObj) → Bool
  | [] => true
  | (i, _) :: r => !(nbeq o i) && notIn o r

def effStore (E : Env) (t : Nat) (a x : V) : Rd Eff :=
  bif fits (E.T t) x then
    match a with
    | .ptr o off => .get o fun
      | .box cs => bif nble (off + (E.T t).sz) (lenV cs) then .pure ⟨[], .und, [(o, .box (setV cs off (vcells x)))], []⟩ else .pure .fail
      | _ => .pure .fail
    | .eptr o z i off => .get o fun
      | .arr own dfr z' n f => (datL E.O (vcells x)).bind fun
        | (some xs, ps, fz) => bif nbeq z z' && nble (off + (E.T t).sz) z && notIn o fz then
            .pure ⟨E.O.pNlt i n :: ps, .und, (o, .arr own (dfr && freshC xs) z n (fun j => bif E.O.neq j i then setV (f j) off xs else f j)) :: fz, []⟩ else .pure .fail
        | _ => .pure .fail
      | _ => .pure .fail
    | _ => .pure .fail
  else .pure .fail

def litElems (O : Ops) : List (List V) → Nat → Nat → List V
  | [], _ => fun _ => []
  | [x], _ => fun _ => x
  | x :: r, k => fun i => bif O.neq i k then x else litElems O r (k + 1) i
def fillParts (z : Nat) : List (List V) → List (Nat × V) → Option (List (List V))
  | l, [] => some l
  | l, (i, v) :: r => bif nbeq (lenV (vcells v)) z && nblt i l.length && allOne (vcells v) then fillParts z (l.set i (vcells v)) r else none
def datLL (O : Ops) : List (List V) → Rd (Option (List (List V)) × List Prop × List (Nat × AObj))
  | [] => .pure (some [], [], [])
  | v :: r => (datL O v).bind fun (a, p, u) => (datLL O r).bind fun (b, q, w) =>
    .pure (match a, b with | some a, some b => some (a :: b) | _, _ => none, p ++ q, u ++ w)
def freshLL : List (List V) → Bool
  | [] => true
  | x :: r => freshC x && freshLL r
def effBuildSlice (E : Env) (d t len : Nat) (parts : List (Nat × V)) : Rd Eff :=
  match (E.T t).k with
  | .slice e =>
    match fillParts (E.T e).sz (List.replicate len (E.T e).zero) parts with
    | some l => (datLL E.O l).bind fun
      | (some l, ps, fz) => bif (E.T e).known && nble 1 (E.T e).sz && nbeq (lenV (E.T e).zero) (E.T e).sz && nble (len * (E.T e).sz) 16777216 then
          .pure ⟨ps, .osl (nid d 0) (E.T e).sz 0 len, fz, [(nid d 0, .arr true (freshLL l) (E.T e).sz len (litElems E.O l 0))]⟩ else .pure .fail
      | _ => .pure .fail
    | none => .pure .fail
  | _ => .pure .fail

def buildGo (fs : List (Nat × Nat)) : List V → List (Nat × V) → Option (List V)
  | cs, [] => some cs
  | cs, (i, v) :: r => match fs[i]? with
    | some (off, z) => bif nbeq (lenV (vcells v)) z && nble (off + z) (lenV cs) && allOne (vcells v) then buildGo fs (setV cs off (vcells v)) r else none
    | none => none
def sizesOk : List (Nat × Nat) → Bool
  | [] => true
  | (_, z) :: r => nble 1 z && sizesOk r
def effBuild (E : Env) (t : Nat) (parts : List (Nat × V)) : Rd Eff :=
  match (E.T t).k with
  | .struct fs => bif (E.T t).known && nble 1 (E.T t).sz && nbeq (lenV (E.T t).zero) (E.T t).sz && sizesOk fs then
      match buildGo fs (E.T t).zero parts with
      | some cs => Eff.v (.agg cs)
      | none => .pure .fail
    else .pure .fail
  | _ => .pure .fail

/-- what a builtin takes its elements from -/
def srcOf (O : Ops) : V → Rd (Option (Nat × Nat × (Nat → List V) × Bool) × List Prop)
  | .str l => .pure (some (1, O.slen l, fun i => [V.int .u8 (O.sidx l i)], true), [])
  | x => elemsOf O x
def isNil : V → Bool
  | .nil => true
  | _ => false
def isSrc (t : TI) : Bool :=
  match t.k with
  | .slice _ | .str => true
  | _ => false

def effAppend (E : Env) (d t u : Nat) (s x : V) : Rd Eff :=
  match (E.T t).k with
  | .slice e =>
    (srcOf E.O x).bind fun
    | (some (z', k, g, fr), ps) =>
      bif (nbeq z' (E.T e).sz || isNil x) && isSrc (E.T u) && (E.T e).known && nble 1 (E.T e).sz && nbeq (lenV (E.T e).zero) (E.T e).sz && nble (E.T e).byt 65536 then
        match s with
        | .nil => .pure ⟨E.O.pSmall k :: ps, .osl (nid d 0) (E.T e).sz 0 k, [], [(nid d 0, .arr true fr (E.T e).sz k g)]⟩
        | .osl o z lo n => .get o fun
          | .arr true dfr z'' m f => bif nbeq z (E.T e).sz && nbeq z'' z then
              .pure ⟨E.O.pNeq (E.O.nadd lo n) m :: E.O.pSmall (E.O.nadd n k) :: ps, .osl (nid d 0) z 0 (E.O.nadd n k), [(o, .no)],
                [(nid d 0, .arr true (dfr && fr) z (E.O.nadd n k) (fun j => bif E.O.nlt j n then f (E.O.nadd lo j) else g (E.O.nsub j n)))]⟩ else .pure .fail
          | _ => .pure .fail
        | _ => .pure .fail
      else .pure .fail
    | _ => .pure .fail
  | _ => .pure .fail

def effCopy (E : Env) (t u : Nat) (dst x : V) : Rd Eff :=
  match (E.T t).k with
  | .slice e =>
    (srcOf E.O x).bind fun
    | (some (z', k, g, fr), ps) =>
      match dst with
      | .osl o z lo n => .get o fun
        | .arr own dfr z'' m f => bif isSrc (E.T u) && (E.T e).known && nbeq z' z && nbeq z (E.T e).sz && nbeq z'' z && nble 1 z then
            .pure ⟨E.O.pNle (E.O.nadd lo n) m :: E.O.pNeq k n :: ps, .int .i64 (E.O.ofN n),
              [(o, .arr own (dfr && fr) z m (fun j => bif E.O.nlt j lo then f j else bif E.O.nlt j (E.O.nadd lo n) then g (E.O.nsub j lo) else f j))], []⟩ else .pure .fail
        | _ => .pure .fail
      | _ => .pure .fail
    | _ => .pure .fail
  | _ => .pure .fail

def effLen (E : Env) : TK → V → Rd Eff
  | .str, .str l => Eff.v (.int .i64 (E.O.ofN (E.O.slen l)))
  | .slice _, .nil => Eff.v (.int .i64 0)
  | .slice _, .sl _ _ _ n _ => Eff.v (.int .i64 (E.O.ofN n))
  | .slice _, .osl _ _ _ n => Eff.v (.int .i64 (E.O.ofN n))
  | _, _ => .pure .fail

def bnd (O : Ops) (v : Option V) (dflt : Nat) : Option (Option Int × Nat) :=
  match v with
  | none => some (none, dflt)
  | some (.int _ n) => some (some n, O.toN n)
  | _ => none
def bconds (O : Ops) (l h : Option Int × Nat) (n : Nat) : List Prop :=
  match l.1, h.1 with
  | none, none => []
  | some a, none => [O.pLe 0 a, O.pNle (O.toN a) n]
  | none, some b => [O.pLe 0 b, O.pNle (O.toN b) n]
  | some a, some b => [O.pLe 0 a, O.pLe 0 b, O.pNle (O.toN a) (O.toN b), O.pNle (O.toN b) n]

def effSlice (E : Env) (t : Nat) (x : V) (lo hi : Option V) : Rd Eff :=
  match x with
  | .str s => match (E.T t).k, bnd E.O lo 0, bnd E.O hi (E.O.slen s) with
    | .str, some l, some h => Eff.vc (bconds E.O l h (E.O.slen s)) (.str (E.O.ssub s l.2 h.2))
    | _, _, _ => .pure .fail
  | .nil => match (E.T t).k, bnd E.O lo 0, bnd E.O hi 0 with
    | .slice e, some l, some h => bif (E.T e).known then Eff.vc (bconds E.O l h 0) .nil else .pure .fail
    | _, _, _ => .pure .fail
  | .sl fr dfr z n f => match (E.T t).k, bnd E.O lo 0, bnd E.O hi n with
    | .slice e, some l, some h => bif (E.T e).known && nbeq z (E.T e).sz then Eff.vc (bconds E.O l h n) (.sl fr dfr z (E.O.nsub h.2 l.2) (fun i => f (E.O.nadd l.2 i))) else .pure .fail
    | _, _, _ => .pure .fail
  | .osl o z b n => match (E.T t).k, bnd E.O lo 0, bnd E.O hi n with
    | .slice e, some l, some h => bif (E.T e).known && nbeq z (E.T e).sz then Eff.vc (bconds E.O l h n) (.osl o z (E.O.nadd b l.2) (E.O.nsub h.2 l.2)) else .pure .fail
    | _, _, _ => .pure .fail
  | _ => .pure .fail

def effMake (E : Env) (d t : Nat) (len cap : V) : Rd Eff :=
  match len, cap with
  | .int .i64 n, .int .i64 c => match (E.T t).k with
   | .slice e =>
    bif (E.T e).known && nble 1 (E.T e).sz && nbeq (lenV (E.T e).zero) (E.T e).sz && nble (E.T e).byt 65536 then
      .pure ⟨[E.O.pLe 0 n, E.O.pLe n c, E.O.pSmall (E.O.toN c)], .osl (nid d 0) (E.T e).sz 0 (E.O.toN n), [],
        [(nid d 0, .arr true true (E.T e).sz (E.O.toN n) (fun _ => (E.T e).zero))]⟩ else .pure .fail
   | _ => .pure .fail
  | _, _ => .pure .fail

def effIndexAddr (E : Env) (t : Nat) (x i : V) : Rd Eff :=
  match (E.T t).k, x, i with
  | .slice e, .osl o z lo n, .int _ i => bif (E.T e).known && nbeq z (E.T e).sz then Eff.vc [E.O.pIdx i n] (.eptr o z (E.O.nadd lo (E.O.toN i)) 0) else .pure .fail
  | .slice e, .sl _ _ z n f, .int _ i => bif (E.T e).known && nbeq z (E.T e).sz then Eff.vc [E.O.pIdx i n] (.dptr (f (E.O.toN i))) else .pure .fail
  | _, _, _ => .pure .fail

def effFieldAddr (E : Env) (t : Nat) (x : V) (f : Nat) : Rd Eff :=
  match (E.T t).k with
  | .struct fs => match fs[f]? with
    | some (off, sz) => bif nble 1 sz then
        match x with
        | .ptr o b => Eff.v (.ptr o (b + off))
        | .eptr o z i b => Eff.v (.eptr o z i (b + off))
        | .dptr cs => Eff.v (.dptr (dropV off cs))
        | _ => .pure .fail
      else .pure .fail
    | none => .pure .fail
  | _ => .pure .fail

def effBin (E : Env) (op : BinOp) (t : Nat) (x y : V) : Rd Eff :=
  match x, y with
  | .int k a, .int k' b =>
    match decide (k = k') with
    | false => .pure .fail
    | true =>
    match op with
    | .add => match k with | .i64 => Eff.vc [E.O.pIn .i64 (E.O.iadd a b)] (.int .i64 (E.O.iadd a b)) | k => Eff.v (.int k (E.O.wrap k (E.O.iadd a b)))
    | .sub => match k with | .i64 => Eff.vc [E.O.pIn .i64 (E.O.isub a b)] (.int .i64 (E.O.isub a b)) | k => Eff.v (.int k (E.O.wrap k (E.O.isub a b)))
    | .mul => match k with | .i64 => Eff.vc [E.O.pIn .i64 (E.O.imul a b)] (.int .i64 (E.O.imul a b)) | k => Eff.v (.int k (E.O.wrap k (E.O.imul a b)))
    | .quo => Eff.vc [E.O.pNe b 0, E.O.pIn k (E.O.idiv a b)] (.int k (E.O.idiv a b))
    | .rem => Eff.vc [E.O.pNe b 0] (.int k (E.O.irem a b))
    | .and | .or | .xor | .andNot => Eff.v (.int k (E.O.bits op k a b))
    | .lss => Eff.v (.bool (E.O.ilt a b))
    | .leq => Eff.v (.bool (E.O.ile a b))
    | .gtr => Eff.v (.bool (E.O.ilt b a))
    | .geq => Eff.v (.bool (E.O.ile b a))
    | .eql => Eff.v (.bool (E.O.ieq a b))
    | .neq => Eff.v (.bool (!(E.O.ieq a b)))
    | _ => .pure .fail
  | .flt k a, .flt k' b =>
    match decide (k = k') with
    | false => .pure .fail
    | true =>
    match op with
    | .add | .sub | .mul | .quo => Eff.v (.flt k (E.O.fop op k a b))
    | .eql | .neq | .lss | .leq | .gtr | .geq => Eff.v (.bool (E.O.fcmp op k a b))
    | _ => .pure .fail
  | .str a, .str b =>
    match op with
    | .add => Eff.vc [E.O.pSmall (E.O.slen a), E.O.pSmall (E.O.slen b)] (.str (E.O.sapp a b))
    | .eql | .neq => Eff.v (.bool (E.O.scmp op a b))
    | _ => .pure .fail
  | .bool a, .bool b =>
    match op, (E.T t).k with
    | .eql, .bool => Eff.v (.bool (E.O.beq a b))
    | .neq, .bool => Eff.v (.bool (!(E.O.beq a b)))
    | _, _ => .pure .fail
  | _, _ => .pure .fail

def effShift (E : Env) (op : BinOp) (x y : V) : Rd Eff :=
  match x, y with
  | .int k a, .int yk b => match op with
    | .shl | .shr => Eff.vc [E.O.pLe 0 b, E.O.pLe b 63] (.int k (E.O.bits op k a b))
    | _ => .pure .fail
  | _, _ => .pure .fail

def effUn (E : Env) (op : UnOp) (x : V) : Rd Eff :=
  match op, x with
  | .not, .bool b => Eff.v (.bool (!b))
  | .neg, .int .i64 n => Eff.vc [E.O.pIn .i64 (E.O.ineg n)] (.int .i64 (E.O.ineg n))
  | .neg, .flt k n => Eff.v (.flt k (E.O.fneg k n))
  | _, _ => .pure .fail

def effConv (E : Env) (t : Nat) (x : V) : Rd Eff :=
  match (E.T t).k, x with
  | .int k, .int _ n => Eff.v (.int k (E.O.wrap k n))
  | .flt k, .int _ n => Eff.v (.flt k (E.O.fofI k n))
  | .flt k, .flt j n => Eff.vc [E.O.pConv j k n] (.flt k (E.O.fconv j k n))
  | .int k, .flt j n => Eff.vc [E.O.pToI j k n] (.int k (E.O.ftoI j n))
  | _, _ => .pure .fail

def isShift : BinOp → Bool
  | .shl | .shr => true
  | _ => false

def isI64 : V → Bool
  | .int .i64 _ => true
  | _ => false

def isIfcNil : V → Operand → Bool
  | .ifc _, .const .nilIface => true
  | _, _ => false
def effIfc (E : Env) (op : BinOp) (t : Nat) : V → Rd Eff
  | .ifc b => match (E.T t).k with
    | .iface => match op with
      | .eql => Eff.v (.bool (!b))
      | .neq => Eff.v (.bool b)
      | _ => .pure .fail
    | _ => .pure .fail
  | _ => .pure .fail
def effIndex (E : Env) (t : Nat) : V → V → Rd Eff
  | .str l, .int _ i => match (E.T t).k with
    | .str => Eff.vc [E.O.pIdx i (E.O.slen l)] (.int .u8 (E.O.sidx l (E.O.toN i)))
    | _ => .pure .fail
  | _, _ => .pure .fail
def effExtract : V → Nat → Rd Eff
  | .tup vs, i => match vs[i]? with | some v => Eff.v v | none => .pure .fail
  | _, _ => .pure .fail
def effMinMax (f : Int → Int → Int) : V → V → Rd Eff
  | .int .i64 x, .int .i64 y => Eff.v (.int .i64 (f x y))
  | _, _ => .pure .fail
def effB (E : Env) (d : Nat) (b : Builtin) (args : List V) (tys : List Nat) : Rd Eff :=
  match b with
  | .append => match args, tys with
    | [x, y], [t, u] => effAppend E d t u x y
    | _, _ => .pure .fail
  | .len => match args, tys with
    | [x], [t] => bif isSrc (E.T t) then effLen E (E.T t).k x else .pure .fail
    | _, _ => .pure .fail
  | .min => match args with
    | [x, y] => effMinMax E.O.imin x y
    | _ => .pure .fail
  | .max => match args with
    | [x, y] => effMinMax E.O.imax x y
    | _ => .pure .fail
  | _ => .pure .fail

/-- all operations but calls of functions and 'pick' -/
def eff (E : Env) (d : Nat) (ev : Operand → V) : Op → Rd Eff
  | .move x | .assign x => Eff.v (ev x)
  | .alloc e => bif (E.T e).known && nble 1 (E.T e).sz && nbeq (lenV (E.T e).zero) (E.T e).sz then .pure ⟨[], .ptr (nid d 0) 0, [], [(nid d 0, .box (E.T e).zero)]⟩ else .pure .fail
  | .box e x => bif fits (E.T e) (ev x) then .pure ⟨[], .ptr (nid d 0) 0, [], [(nid d 0, .box (vcells (ev x)))]⟩ else .pure .fail
  | .build t parts => effBuild E t (parts.toList.map fun p => (p.1, ev p.2))
  | .buildSlice t len parts => effBuildSlice E d t len (parts.toList.map fun p => (p.1, ev p.2))
  | .load t a => effLoad E t (ev a)
  | .store t a x => effStore E t (ev a) (ev x)
  | .nilCheck x => match ev x with
    | .ptr o b => Eff.v (.ptr o b)
    | .eptr o z i b => Eff.v (.eptr o z i b)
    | .dptr cs => Eff.v (.dptr cs)
    | _ => .pure .fail
  | .binOp op t x y _ => match isShift op with
    | true => effShift E op (ev x) (ev y)
    | false => match isIfcNil (ev x) y with
      | true => effIfc E op t (ev x)
      | false => effBin E op t (ev x) (ev y)
  | .unOp op _ x => effUn E op (ev x)
  | .convert r t x => bif (E.T r).known then effConv E t (ev x) else .pure .fail
  | .makeSlice t l c => effMake E d t (ev l) (ev c)
  | .slice t x lo hi none => effSlice E t (ev x) (lo.map ev) (hi.map ev)
  | .fieldAddr t x f => effFieldAddr E t (ev x) f
  | .indexAddr t x i => effIndexAddr E t (ev x) (ev i)
  | .index t x i => effIndex E t (ev x) (ev i)
  | .extract x i => effExtract (ev x) i
  | .makeFunc (.func f) first captured => match first.toList with
    | [] => Eff.v (.fn f (captured.toList.map ev))
    | _ => .pure .fail
  | .call c => match c.callee with
    | .builtin b => effB E d b (c.args.toList.map ev) c.argTypes.toList
    | _ => .pure .fail
  | _ => .pure .fail

def newOk (us : Nat → Bool) : List (Nat × AObj) → Bool
  | [] => true
  | (i, _) :: r => !(us i) && nble 16 i && newOk us r

def St.app (s : St) (d : Option Nat) (e : Eff) : St :=
  St.putO { s with ob := upO e.new (upO e.upd s.ob), us := upU e.new s.us } d e.val

end Go.Desk
