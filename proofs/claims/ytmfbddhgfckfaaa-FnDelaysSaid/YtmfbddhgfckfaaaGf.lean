/- The functions of the program, as Lean functions, printed by a program of mine (gen.py). -/
import Derived.Test.YtmfbddhgfckfaaaKc
namespace Go.Desk
open Go
set_option linter.all false
set_option maxRecDepth 100000
set_option linter.unusedVariables false
set_option maxHeartbeats 4000000
structure Gl00Src where
  code : (List Int)
  pos : Int
  seed : Int
def Gl00Src.z : Gl00Src := ⟨[], 0, 0⟩
structure GFilter where
  B0 : Nat
  B1 : Nat
  B2 : Nat
  A1 : Nat
  A2 : Nat
def GFilter.z : GFilter := ⟨0, 0, 0, 0, 0⟩
structure GMemory where
  A : Nat
  B : Nat
  C : Nat
  D : Nat
def GMemory.z : GMemory := ⟨0, 0, 0, 0⟩
structure GDelay where
  Length : Int
  Feedback : Nat
  Dry : Nat
  Wet : Nat
  Flush : Bool
def GDelay.z : GDelay := ⟨0, 0, 0, 0, false⟩
structure GPass where
  Length : Int
  Gain : Nat
def GPass.z : GPass := ⟨0, 0⟩
structure GRoom where
  Combs : (List GDelay)
  Passes : (List GPass)
  Dry : Nat
  Wet : Nat
def GRoom.z : GRoom := ⟨[], [], 0, 0⟩
structure GTrack where
  Samples : (List Nat)
  Tenths : Int
  Pan : Nat
  Mute : Bool
  Solo : Bool
def GTrack.z : GTrack := ⟨[], 0, 0, false, false⟩
def fl00Src_code (x : Gl00Src) : (List Int) := x.code
def fl00Src_pos (x : Gl00Src) : Int := x.pos
def fl00Src_seed (x : Gl00Src) : Int := x.seed
def fFilter_B0 (x : GFilter) : Nat := x.B0
def fFilter_B1 (x : GFilter) : Nat := x.B1
def fFilter_B2 (x : GFilter) : Nat := x.B2
def fFilter_A1 (x : GFilter) : Nat := x.A1
def fFilter_A2 (x : GFilter) : Nat := x.A2
def fMemory_A (x : GMemory) : Nat := x.A
def fMemory_B (x : GMemory) : Nat := x.B
def fMemory_C (x : GMemory) : Nat := x.C
def fMemory_D (x : GMemory) : Nat := x.D
def fDelay_Length (x : GDelay) : Int := x.Length
def fDelay_Feedback (x : GDelay) : Nat := x.Feedback
def fDelay_Dry (x : GDelay) : Nat := x.Dry
def fDelay_Wet (x : GDelay) : Nat := x.Wet
def fDelay_Flush (x : GDelay) : Bool := x.Flush
def fPass_Length (x : GPass) : Int := x.Length
def fPass_Gain (x : GPass) : Nat := x.Gain
def fRoom_Combs (x : GRoom) : (List GDelay) := x.Combs
def fRoom_Passes (x : GRoom) : (List GPass) := x.Passes
def fRoom_Dry (x : GRoom) : Nat := x.Dry
def fRoom_Wet (x : GRoom) : Nat := x.Wet
def fTrack_Samples (x : GTrack) : (List Nat) := x.Samples
def fTrack_Tenths (x : GTrack) : Int := x.Tenths
def fTrack_Pan (x : GTrack) : Nat := x.Pan
def fTrack_Mute (x : GTrack) : Bool := x.Mute
def fTrack_Solo (x : GTrack) : Bool := x.Solo
theorem ff : (∀ x : Gl00Src, x.code = fl00Src_code x) ∧ (∀ x : Gl00Src, x.pos = fl00Src_pos x) ∧ (∀ x : Gl00Src, x.seed = fl00Src_seed x) ∧ (∀ x : GFilter, x.B0 = fFilter_B0 x) ∧ (∀ x : GFilter, x.B1 = fFilter_B1 x) ∧ (∀ x : GFilter, x.B2 = fFilter_B2 x) ∧ (∀ x : GFilter, x.A1 = fFilter_A1 x) ∧ (∀ x : GFilter, x.A2 = fFilter_A2 x) ∧ (∀ x : GMemory, x.A = fMemory_A x) ∧ (∀ x : GMemory, x.B = fMemory_B x) ∧ (∀ x : GMemory, x.C = fMemory_C x) ∧ (∀ x : GMemory, x.D = fMemory_D x) ∧ (∀ x : GDelay, x.Length = fDelay_Length x) ∧ (∀ x : GDelay, x.Feedback = fDelay_Feedback x) ∧ (∀ x : GDelay, x.Dry = fDelay_Dry x) ∧ (∀ x : GDelay, x.Wet = fDelay_Wet x) ∧ (∀ x : GDelay, x.Flush = fDelay_Flush x) ∧ (∀ x : GPass, x.Length = fPass_Length x) ∧ (∀ x : GPass, x.Gain = fPass_Gain x) ∧ (∀ x : GRoom, x.Combs = fRoom_Combs x) ∧ (∀ x : GRoom, x.Passes = fRoom_Passes x) ∧ (∀ x : GRoom, x.Dry = fRoom_Dry x) ∧ (∀ x : GRoom, x.Wet = fRoom_Wet x) ∧ (∀ x : GTrack, x.Samples = fTrack_Samples x) ∧ (∀ x : GTrack, x.Tenths = fTrack_Tenths x) ∧ (∀ x : GTrack, x.Pan = fTrack_Pan x) ∧ (∀ x : GTrack, x.Mute = fTrack_Mute x) ∧ (∀ x : GTrack, x.Solo = fTrack_Solo x) :=
  ⟨fun _ => rfl, fun _ => rfl, fun _ => rfl, fun _ => rfl, fun _ => rfl, fun _ => rfl, fun _ => rfl, fun _ => rfl, fun _ => rfl, fun _ => rfl, fun _ => rfl, fun _ => rfl, fun _ => rfl, fun _ => rfl, fun _ => rfl, fun _ => rfl, fun _ => rfl, fun _ => rfl, fun _ => rfl, fun _ => rfl, fun _ => rfl, fun _ => rfl, fun _ => rfl, fun _ => rfl, fun _ => rfl, fun _ => rfl, fun _ => rfl, fun _ => rfl⟩

/-- loop.example/g01170/laws.r8Long -/
noncomputable def F_laws_r8Long (O : Ops) (a1 : (List Int)) (a2 : (List Int)) : Option Bool :=
  cond (O.ilt 48 (O.ofN (O.llen a1))) (
    some true) (
    some (O.ilt 48 (O.ofN (O.llen a2))))

/-- loop.example/g01170/spec.l00From -/
noncomputable def F_spec_l00From (O : Ops) (a1 : (List Int)) : Option Gl00Src :=
  some (Gl00Src.mk a1 0 0)

/-- (*loop.example/g01170/spec.l00Src).next -/
noncomputable def F_spec_l00Src_next (O : Ops) (a1 : Gl00Src) : Option (Int × Gl00Src) :=
  cond (O.ilt a1.pos (O.ofN (O.llen a1.code))) (
    gd (O.pIdx a1.pos (O.llen a1.code)) <|
    gd (O.pIn .i64 (O.iadd a1.pos 1)) <|
    cond (O.ile (O.iadd a1.pos 1) (O.ofN (O.llen a1.code))) (
      some ((O.wrap .i64 (O.lget a1.code (O.toN a1.pos) 0)), (Gl00Src.mk a1.code (O.iadd a1.pos 1) (O.wrap .u64 (O.iadd (O.wrap .u64 (O.iadd (O.wrap .u64 (O.imul a1.seed 6364136223846793005)) (O.wrap .u64 (O.wrap .i64 (O.lget a1.code (O.toN a1.pos) 0))))) 1442695040888963407))))) (
      gd (O.pLe 0 40) <|
      gd (O.pLe 40 63) <|
      some ((O.wrap .i64 (O.bits .and .u64 (O.bits .shr .u64 (O.wrap .u64 (O.iadd (O.wrap .u64 (O.iadd (O.wrap .u64 (O.imul a1.seed 6364136223846793005)) (O.wrap .u64 (O.wrap .i64 (O.lget a1.code (O.toN a1.pos) 0))))) 1442695040888963407)) 40) 255)), (Gl00Src.mk a1.code (O.iadd a1.pos 1) (O.wrap .u64 (O.iadd (O.wrap .u64 (O.iadd (O.wrap .u64 (O.imul a1.seed 6364136223846793005)) (O.wrap .u64 (O.wrap .i64 (O.lget a1.code (O.toN a1.pos) 0))))) 1442695040888963407)))))) (
    gd (O.pIn .i64 (O.iadd a1.pos 1)) <|
    cond (O.ile (O.iadd a1.pos 1) (O.ofN (O.llen a1.code))) (
      some (0, (Gl00Src.mk a1.code (O.iadd a1.pos 1) (O.wrap .u64 (O.iadd (O.wrap .u64 (O.iadd (O.wrap .u64 (O.imul a1.seed 6364136223846793005)) (O.wrap .u64 0))) 1442695040888963407))))) (
      gd (O.pLe 0 40) <|
      gd (O.pLe 40 63) <|
      some ((O.wrap .i64 (O.bits .and .u64 (O.bits .shr .u64 (O.wrap .u64 (O.iadd (O.wrap .u64 (O.iadd (O.wrap .u64 (O.imul a1.seed 6364136223846793005)) (O.wrap .u64 0))) 1442695040888963407)) 40) 255)), (Gl00Src.mk a1.code (O.iadd a1.pos 1) (O.wrap .u64 (O.iadd (O.wrap .u64 (O.iadd (O.wrap .u64 (O.imul a1.seed 6364136223846793005)) (O.wrap .u64 0))) 1442695040888963407))))))

/-- (*loop.example/g01170/spec.l00Src).pick -/
noncomputable def F_spec_l00Src_pick (O : Ops) (a1 : Gl00Src) (a2 : Int) : Option (Int × Gl00Src) :=
  cond (O.ile a2 1) (
    some (0, a1)) (
    (F_spec_l00Src_next O a1).bind fun (v1, v2) =>
    cond (O.ilt 200 a2) (
      gd (O.pIn .i64 (O.imul v1 256)) <|
      (F_spec_l00Src_next O v2).bind fun (v3, v4) =>
      gd (O.pIn .i64 (O.iadd (O.imul v1 256) v3)) <|
      gd (O.pNe a2 0) <|
      some ((O.irem (O.iadd (O.imul v1 256) v3) a2), v4)) (
      gd (O.pNe a2 0) <|
      some ((O.irem v1 a2), v2)))

/-- (*loop.example/g01170/spec.l00Src).one -/
noncomputable def F_spec_l00Src_one (O : Ops) (a1 : Gl00Src) (a2 : Int) : Option (Bool × Gl00Src) :=
  (F_spec_l00Src_pick O a1 a2).bind fun (v1, v2) =>
  some ((O.ieq v1 0), v2)

/-- loop.example/g01170/spec.l01DrawPlain -/
noncomputable def F_spec_l01DrawPlain (O : Ops) (a1 : Gl00Src) : Option (Nat × Gl00Src) :=
  (F_spec_l00Src_pick O a1 129).bind fun (v1, v2) =>
  gd (O.pIn .i64 (O.isub v1 64)) <|
  (F_spec_l00Src_one O v2 4).bind fun (v3, v4) =>
  cond v3 (
    some ((O.fop .quo .f32 (O.fofI .f32 (O.isub v1 64)) 1088421888), v4)) (
    some ((O.fop .quo .f32 (O.fofI .f32 (O.isub v1 64)) 1098907648), v4))

/-- (*loop.example/g01170/spec.l00Src).among -/
noncomputable def F_spec_l00Src_among (O : Ops) (a1 : Gl00Src) (a2 : (List Int)) : Option (Int × Gl00Src) :=
  (F_spec_l00Src_pick O a1 (O.ofN (O.llen a2))).bind fun (v1, v2) =>
  gd (O.pIdx v1 (O.llen a2)) <|
  some ((O.lget a2 (O.toN v1) 0), v2)

/-- loop.example/g01170/spec.l01From -/
noncomputable def F_spec_l01From (O : Ops) (a1 : Int) : Option Nat :=
  (F_math_Float32frombits O (O.wrap .u32 a1)).bind fun v1 =>
  some v1

/-- loop.example/g01170/spec.l01DrawFloat -/
noncomputable def F_spec_l01DrawFloat (O : Ops) (a1 : Gl00Src) : Option (Nat × Gl00Src) :=
  (F_spec_l00Src_one O a1 12).bind fun (v1, v2) =>
  cond (!v1) (
    (F_spec_l01DrawPlain O v2).bind fun (v3, v4) =>
    some (v3, v4)) (
    (F_spec_l00Src_pick O v2 4).bind fun (v5, v6) =>
    cond (O.ieq v5 0) (
      (F_spec_l00Src_among O v6 ([0, 2147483648, 2139095040, 4286578688, 2143289344, 1, 2139095039, 8388608, 8388607, 2147483649] : List Int)).bind fun (v7, v8) =>
      (F_spec_l01From O v7).bind fun v9 =>
      some (v9, v8)) (
      cond (O.ieq v5 1) (
        (F_spec_l00Src_pick O v6 65536).bind fun (v10, v11) =>
        gd (O.pIn .i64 (O.imul v10 65536)) <|
        (F_spec_l00Src_pick O v11 65536).bind fun (v12, v13) =>
        gd (O.pIn .i64 (O.iadd (O.imul v10 65536) v12)) <|
        (F_spec_l01From O (O.iadd (O.imul v10 65536) v12)).bind fun v14 =>
        some (v14, v13)) (
        cond (O.ieq v5 2) (
          (F_spec_l00Src_pick O v6 65536).bind fun (v15, v16) =>
          gd (O.pIn .i64 (O.imul v15 65536)) <|
          (F_spec_l01From O (O.imul v15 65536)).bind fun v17 =>
          some (v17, v16)) (
          (F_spec_l01DrawPlain O v6).bind fun (v18, v19) =>
          (F_spec_l00Src_among O v19 ([8388608, 2130706432, 1610612736, 536870912] : List Int)).bind fun (v20, v21) =>
          (F_spec_l01From O v20).bind fun v22 =>
          some ((O.fop .mul .f32 v18 v22), v21)))))

/-- loop.example/g01170/spec.l02DrawNumber -/
noncomputable def F_spec_l02DrawNumber (O : Ops) (a1 : Gl00Src) : Option (Nat × Gl00Src) :=
  (F_spec_l00Src_one O a1 8).bind fun (v1, v2) =>
  cond v1 (
    (F_spec_l01DrawFloat O v2).bind fun (v3, v4) =>
    some (v3, v4)) (
    (F_spec_l00Src_one O v2 3).bind fun (v5, v6) =>
    cond v5 (
      some (0, v6)) (
      (F_spec_l00Src_pick O v6 33).bind fun (v7, v8) =>
      gd (O.pIn .i64 (O.isub v7 16)) <|
      some ((O.fop .quo .f32 (O.fofI .f32 (O.isub v7 16)) 1090519040), v8)))

/-- loop.example/g01170/spec.l02DrawFilter -/
noncomputable def F_spec_l02DrawFilter (O : Ops) (a1 : Gl00Src) : Option (GFilter × Gl00Src) :=
  (F_spec_l02DrawNumber O a1).bind fun (v1, v2) =>
  (F_spec_l02DrawNumber O v2).bind fun (v3, v4) =>
  (F_spec_l02DrawNumber O v4).bind fun (v5, v6) =>
  (F_spec_l00Src_pick O v6 15).bind fun (v7, v8) =>
  gd (O.pIn .i64 (O.isub v7 7)) <|
  (F_spec_l00Src_pick O v8 7).bind fun (v9, v10) =>
  gd (O.pIn .i64 (O.isub v9 3)) <|
  (F_spec_l00Src_one O v10 4).bind fun (v11, v12) =>
  cond v11 (
    (F_spec_l02DrawNumber O v12).bind fun (v13, v14) =>
    (F_spec_l00Src_one O v14 4).bind fun (v15, v16) =>
    cond v15 (
      (F_spec_l02DrawNumber O v16).bind fun (v17, v18) =>
      some ((GFilter.mk v1 v3 v5 v13 v17), v18)) (
      some ((GFilter.mk v1 v3 v5 v13 (O.fop .quo .f32 (O.fofI .f32 (O.isub v9 3)) 1090519040)), v16))) (
    (F_spec_l00Src_one O v12 4).bind fun (v19, v20) =>
    cond v19 (
      (F_spec_l02DrawNumber O v20).bind fun (v21, v22) =>
      some ((GFilter.mk v1 v3 v5 (O.fop .quo .f32 (O.fofI .f32 (O.isub v7 7)) 1090519040) v21), v22)) (
      some ((GFilter.mk v1 v3 v5 (O.fop .quo .f32 (O.fofI .f32 (O.isub v7 7)) 1090519040) (O.fop .quo .f32 (O.fofI .f32 (O.isub v9 3)) 1090519040)), v20)))

/-- loop.example/g01170/spec.R8Filter -/
noncomputable def F_spec_R8Filter (O : Ops) (a1 : (List Int)) : Option GFilter :=
  (F_spec_l00From O a1).bind fun v1 =>
  (F_spec_l02DrawFilter O v1).bind fun (v2, v3) =>
  some v2

/-- loop.example/g01170/spec.l02DrawMemory -/
noncomputable def F_spec_l02DrawMemory (O : Ops) (a1 : Gl00Src) : Option (GMemory × Gl00Src) :=
  (F_spec_l00Src_one O a1 3).bind fun (v1, v2) =>
  cond v1 (
    some ((GMemory.mk 0 0 0 0), v2)) (
    (F_spec_l01DrawFloat O v2).bind fun (v3, v4) =>
    (F_spec_l01DrawFloat O v4).bind fun (v5, v6) =>
    (F_spec_l01DrawFloat O v6).bind fun (v7, v8) =>
    (F_spec_l01DrawFloat O v8).bind fun (v9, v10) =>
    some ((GMemory.mk v3 v5 v7 v9), v10))

/-- loop.example/g01170/spec.R8Memory -/
noncomputable def F_spec_R8Memory (O : Ops) (a1 : (List Int)) : Option GMemory :=
  (F_spec_l00From O a1).bind fun v1 =>
  (F_spec_l02DrawMemory O v1).bind fun (v2, v3) =>
  some v2

noncomputable def F_spec_l01DrawFloats_l0 (O : Ops) (v1 : Bool) : Nat → Int → (List Nat) → (List Int) → Int → Int → Option ((List Nat) × (List Int) × Int × Int)
  | 0, _, _, _, _, _ => none
  | k + 1, p7, p8, p9, p10, p11 =>
    cond (O.ilt 0 p7) (
      cond v1 (
        (F_spec_l01DrawFloat O (Gl00Src.mk p9 p10 p11)).bind fun (v3, v4) =>
        gd (O.pSmall (O.nadd (O.llen p8) 1)) <|
        gd (O.pIn .i64 (O.isub p7 1)) <|
        F_spec_l01DrawFloats_l0 O v1 k (O.isub p7 1) (O.lapp p8 ([v3] : List Nat)) v4.code v4.pos v4.seed) (
        (F_spec_l01DrawPlain O (Gl00Src.mk p9 p10 p11)).bind fun (v5, v6) =>
        gd (O.pSmall (O.nadd (O.llen p8) 1)) <|
        gd (O.pIn .i64 (O.isub p7 1)) <|
        F_spec_l01DrawFloats_l0 O v1 k (O.isub p7 1) (O.lapp p8 ([v5] : List Nat)) v6.code v6.pos v6.seed)) (
      some (p8, p9, p10, p11))

/-- loop.example/g01170/spec.l01DrawFloats -/
noncomputable def F_spec_l01DrawFloats (O : Ops) (a1 : Gl00Src) (a2 : Int) : Option ((List Nat) × Gl00Src) :=
  (F_spec_l00Src_one O a1 4).bind fun (v1, v2) =>
  (F_spec_l01DrawFloats_l0 O v1 KK a2 ([] : List Nat) v2.code v2.pos v2.seed).bind fun (p12, p13, p14, p15) =>
  some (p12, (Gl00Src.mk p13 p14 p15))

/-- loop.example/g01170/spec.R8Samples -/
noncomputable def F_spec_R8Samples (O : Ops) (a1 : (List Int)) (a2 : Int) : Option (List Nat) :=
  (F_spec_l00From O a1).bind fun v1 =>
  gd (O.pIn .i64 (O.iadd a2 1)) <|
  (F_spec_l00Src_pick O v1 (O.iadd a2 1)).bind fun (v2, v3) =>
  (F_spec_l01DrawFloats O v3 v2).bind fun (v4, v5) =>
  some v4

/-- loop.example/g01170/laws.r8At -/
noncomputable def F_laws_r8At (O : Ops) (a1 : (List Int)) (a2 : Int) (a3 : Int) : Option Int :=
  cond (O.ile a3 1) (
    some 0) (
    cond (O.ile (O.ofN (O.llen a1)) a2) (
      some 0) (
      gd (O.pIdx a2 (O.llen a1)) <|
      gd (O.pNe a3 0) <|
      some (O.irem (O.wrap .i64 (O.lget a1 (O.toN a2) 0)) a3)))

/-- loop.example/g01170/impl.within -/
noncomputable def F_impl_within (O : Ops) (a1 : Int) (a2 : Int) (a3 : Int) : Option Bool :=
  cond (O.ile a2 a1) (
    some (O.ile a1 a3)) (
    some false)

/-- loop.example/g01170/impl.isForm -/
noncomputable def F_impl_isForm (O : Ops) (a1 : Int) : Option Bool :=
  (F_impl_within O a1 0 2).bind fun v1 =>
  some v1

/-- loop.example/g01170/impl.areSamples -/
noncomputable def F_impl_areSamples (O : Ops) (a1 : (List Nat)) : Option Bool :=
  some (O.ile (O.ofN (O.llen a1)) 256)

/-- loop.example/g01170/impl.copyNumbers -/
noncomputable def F_impl_copyNumbers (O : Ops) (a1 : (List Nat)) : Option (List Nat) :=
  gd (O.pSmall (O.nadd 0 (O.llen a1))) <|
  some (O.lapp ([] : List Nat) a1)

/-- loop.example/g01170/impl.IsSubnormal -/
noncomputable def F_impl_IsSubnormal (O : Ops) (a1 : Nat) : Option Bool :=
  cond (O.fcmp .neq .f32 a1 0) (
    cond (O.fcmp .lss .f32 a1 8388608) (
      some (O.fcmp .gtr .f32 a1 2155872256)) (
      some false)) (
    some false)

/-- math.Copysign -/
noncomputable def F_math_Copysign (O : Ops) (a1 : Nat) (a2 : Nat) : Option Nat :=
  (F_math_Float64bits O a1).bind fun v1 =>
  (F_math_Float64bits O a2).bind fun v2 =>
  (F_math_Float64frombits O (O.bits .or .u64 (O.bits .andNot .u64 v1 9223372036854775808) (O.bits .and .u64 v2 9223372036854775808))).bind fun v3 =>
  some v3

/-- loop.example/g01170/impl.FlushNumber -/
noncomputable def F_impl_FlushNumber (O : Ops) (a1 : Nat) : Option Nat :=
  (F_impl_IsSubnormal O a1).bind fun v1 =>
  cond (!v1) (
    some a1) (
    gd (O.pConv .f32 .f64 a1) <|
    (F_math_Copysign O 0 (O.fconv .f32 .f64 a1)).bind fun v2 =>
    gd (O.pConv .f64 .f32 v2) <|
    some (O.fconv .f64 .f32 v2))

/-- loop.example/g01170/impl.flushed -/
noncomputable def F_impl_flushed (O : Ops) (a1 : Nat) (a2 : Bool) : Option Nat :=
  cond a2 (
    (F_impl_FlushNumber O a1).bind fun v1 =>
    some v1) (
    some a1)

/-- (loop.example/g01170/impl.Filter).step -/
noncomputable def F_impl_Filter_step (O : Ops) (a1 : GFilter) (a2 : Int) (a3 : Bool) (a4 : GMemory) (a5 : Nat) : Option (Nat × GMemory) :=
  cond (O.ieq a2 0) (
    (F_impl_flushed O (O.fop .sub .f32 (O.fop .sub .f32 (O.fop .add .f32 (O.fop .add .f32 (O.fop .mul .f32 a1.B0 a5) (O.fop .mul .f32 a1.B1 a4.A)) (O.fop .mul .f32 a1.B2 a4.B)) (O.fop .mul .f32 a1.A1 a4.C)) (O.fop .mul .f32 a1.A2 a4.D)) a3).bind fun v1 =>
    (F_impl_flushed O a5 a3).bind fun v2 =>
    (F_impl_flushed O a4.A a3).bind fun v3 =>
    (F_impl_flushed O v1 a3).bind fun v4 =>
    (F_impl_flushed O a4.C a3).bind fun v5 =>
    some (v1, (GMemory.mk v2 v3 v4 v5))) (
    cond (O.ieq a2 1) (
      (F_impl_flushed O (O.fop .add .f32 (O.fop .mul .f32 a1.B0 a5) a4.A) a3).bind fun v6 =>
      (F_impl_flushed O (O.fop .add .f32 (O.fop .sub .f32 (O.fop .mul .f32 a1.B1 a5) (O.fop .mul .f32 a1.A1 v6)) a4.B) a3).bind fun v7 =>
      (F_impl_flushed O (O.fop .sub .f32 (O.fop .mul .f32 a1.B2 a5) (O.fop .mul .f32 a1.A2 v6)) a3).bind fun v8 =>
      (F_impl_flushed O 0 a3).bind fun v9 =>
      (F_impl_flushed O 0 a3).bind fun v10 =>
      some (v6, (GMemory.mk v7 v8 v9 v10))) (
      (F_impl_flushed O (O.fop .sub .f32 (O.fop .sub .f32 a5 (O.fop .mul .f32 a1.A1 a4.A)) (O.fop .mul .f32 a1.A2 a4.B)) a3).bind fun v11 =>
      (F_impl_flushed O (O.fop .add .f32 (O.fop .add .f32 (O.fop .mul .f32 a1.B0 v11) (O.fop .mul .f32 a1.B1 a4.A)) (O.fop .mul .f32 a1.B2 a4.B)) a3).bind fun v12 =>
      (F_impl_flushed O v11 a3).bind fun v13 =>
      (F_impl_flushed O a4.A a3).bind fun v14 =>
      (F_impl_flushed O 0 a3).bind fun v15 =>
      (F_impl_flushed O 0 a3).bind fun v16 =>
      some (v12, (GMemory.mk v13 v14 v15 v16))))

noncomputable def F_impl_Filter_run_l0 (O : Ops) (a1 : GFilter) (a2 : Int) (a3 : Bool) (a5 : (List Nat)) : Nat → (List Nat) → Int → Nat → Nat → Nat → Nat → Option (Nat × Nat × Nat × Nat × (List Nat))
  | 0, _, _, _, _, _, _ => none
  | k + 1, p3, p4, p5, p6, p7, p8 =>
    cond (O.ilt p4 (O.ofN (O.llen a5))) (
      gd (O.pIdx p4 (O.llen a5)) <|
      (F_impl_Filter_step O a1 a2 a3 (GMemory.mk p5 p6 p7 p8) (O.lget a5 (O.toN p4) 0)).bind fun (v1, v2) =>
      gd (O.pSmall (O.nadd (O.llen p3) 1)) <|
      gd (O.pIn .i64 (O.iadd p4 1)) <|
      F_impl_Filter_run_l0 O a1 a2 a3 a5 k (O.lapp p3 ([v1] : List Nat)) (O.iadd p4 1) v2.A v2.B v2.C v2.D) (
      some (p5, p6, p7, p8, p3))

/-- (loop.example/g01170/impl.Filter).run -/
noncomputable def F_impl_Filter_run (O : Ops) (a1 : GFilter) (a2 : Int) (a3 : Bool) (a4 : GMemory) (a5 : (List Nat)) : Option ((List Nat) × GMemory) :=
  (F_impl_Filter_run_l0 O a1 a2 a3 a5 KK ([] : List Nat) 0 a4.A a4.B a4.C a4.D).bind fun (p9, p10, p11, p12, p13) =>
  some (p13, (GMemory.mk p9 p10 p11 p12))

noncomputable def F_impl_RunFilters_l0 (O : Ops) (a1 : (List GFilter)) (a2 : Int) (a3 : Bool) (a4 : (List GMemory)) : Nat → (List Nat) → (List GMemory) → Int → Option ((List Nat) × (List GMemory))
  | 0, _, _, _ => none
  | k + 1, p6, p7, p8 =>
    cond (O.ilt p8 (O.ofN (O.llen a1))) (
      gd (O.pIdx p8 (O.llen a1)) <|
      gd (O.pIdx p8 (O.llen a4)) <|
      (F_impl_Filter_run O (GFilter.mk ((O.lget a1 (O.toN p8) (GFilter.mk 0 0 0 0 0)).B0) ((O.lget a1 (O.toN p8) (GFilter.mk 0 0 0 0 0)).B1) ((O.lget a1 (O.toN p8) (GFilter.mk 0 0 0 0 0)).B2) ((O.lget a1 (O.toN p8) (GFilter.mk 0 0 0 0 0)).A1) ((O.lget a1 (O.toN p8) (GFilter.mk 0 0 0 0 0)).A2)) a2 a3 (GMemory.mk ((O.lget a4 (O.toN p8) (GMemory.mk 0 0 0 0)).A) ((O.lget a4 (O.toN p8) (GMemory.mk 0 0 0 0)).B) ((O.lget a4 (O.toN p8) (GMemory.mk 0 0 0 0)).C) ((O.lget a4 (O.toN p8) (GMemory.mk 0 0 0 0)).D)) p6).bind fun (v4, v5) =>
      gd (O.pSmall (O.nadd (O.llen p7) 1)) <|
      gd (O.pIn .i64 (O.iadd p8 1)) <|
      F_impl_RunFilters_l0 O a1 a2 a3 a4 k v4 (O.lapp p7 ([v5] : List GMemory)) (O.iadd p8 1)) (
      some (p6, p7))

/-- loop.example/g01170/impl.RunFilters -/
noncomputable def F_impl_RunFilters (O : Ops) (a1 : (List GFilter)) (a2 : Int) (a3 : Bool) (a4 : (List GMemory)) (a5 : (List Nat)) : Option ((List Nat) × (List GMemory) × Bool) :=
  (F_impl_isForm O a2).bind fun v1 =>
  cond (!v1) (
    some (([] : List Nat), ([] : List GMemory), false)) (
    (F_impl_areSamples O a5).bind fun v2 =>
    cond (!v2) (
      some (([] : List Nat), ([] : List GMemory), false)) (
      cond (O.ilt 6 (O.ofN (O.llen a1))) (
        some (([] : List Nat), ([] : List GMemory), false)) (
        cond (!(O.ieq (O.ofN (O.llen a4)) (O.ofN (O.llen a1)))) (
          some (([] : List Nat), ([] : List GMemory), false)) (
          (F_impl_copyNumbers O a5).bind fun v3 =>
          (F_impl_RunFilters_l0 O a1 a2 a3 a4 KK v3 ([] : List GMemory) 0).bind fun (p9, p10) =>
          some (p9, p10, true)))))

/-- loop.example/g01170/impl.RunFilter -/
noncomputable def F_impl_RunFilter (O : Ops) (a1 : GFilter) (a2 : Int) (a3 : Bool) (a4 : GMemory) (a5 : (List Nat)) : Option ((List Nat) × GMemory × Bool) :=
  (F_impl_isForm O a2).bind fun v1 =>
  cond (!v1) (
    some (([] : List Nat), (GMemory.mk 0 0 0 0), false)) (
    (F_impl_areSamples O a5).bind fun v2 =>
    cond (!v2) (
      some (([] : List Nat), (GMemory.mk 0 0 0 0), false)) (
      (F_impl_Filter_run O a1 a2 a3 a4 a5).bind fun (v3, v4) =>
      some (v3, v4, true)))

/-- loop.example/g01170/impl.SameNumber -/
noncomputable def F_impl_SameNumber (O : Ops) (a1 : Nat) (a2 : Nat) : Option Bool :=
  cond (O.fcmp .neq .f32 a1 a1) (
    cond (O.fcmp .neq .f32 a1 a1) (
      some (O.fcmp .neq .f32 a2 a2)) (
      some false)) (
    cond (O.fcmp .neq .f32 a2 a2) (
      cond (O.fcmp .neq .f32 a1 a1) (
        some (O.fcmp .neq .f32 a2 a2)) (
        some false)) (
      (F_math_Float32bits O a1).bind fun v1 =>
      (F_math_Float32bits O a2).bind fun v2 =>
      some (O.ieq v1 v2)))

noncomputable def F_laws_r8Same_l0 (O : Ops) (a1 : (List Nat)) (a2 : (List Nat)) : Nat → Int → Option (Sum Unit Unit)
  | 0, _ => none
  | k + 1, p2 =>
    cond (O.ilt p2 (O.ofN (O.llen a1))) (
      gd (O.pIdx p2 (O.llen a1)) <|
      gd (O.pIdx p2 (O.llen a2)) <|
      (F_impl_SameNumber O (O.lget a1 (O.toN p2) 0) (O.lget a2 (O.toN p2) 0)).bind fun v1 =>
      cond (!v1) (
        some (.inl ())) (
        gd (O.pIn .i64 (O.iadd p2 1)) <|
        F_laws_r8Same_l0 O a1 a2 k (O.iadd p2 1))) (
      some (.inr ()))

/-- loop.example/g01170/laws.r8Same -/
noncomputable def F_laws_r8Same (O : Ops) (a1 : (List Nat)) (a2 : (List Nat)) : Option Bool :=
  cond (!(O.ieq (O.ofN (O.llen a1)) (O.ofN (O.llen a2)))) (
    some false) (
    (F_laws_r8Same_l0 O a1 a2 KK 0).bind fun z => match z with
    | (.inl ()) =>
      some false
    | (.inr ()) =>
      some true)

/-- loop.example/g01170/impl.SameMemory -/
noncomputable def F_impl_SameMemory (O : Ops) (a1 : GMemory) (a2 : GMemory) : Option Bool :=
  (F_impl_SameNumber O a1.A a2.A).bind fun v1 =>
  cond v1 (
    (F_impl_SameNumber O a1.B a2.B).bind fun v2 =>
    cond v2 (
      (F_impl_SameNumber O a1.C a2.C).bind fun v3 =>
      cond v3 (
        (F_impl_SameNumber O a1.D a2.D).bind fun v4 =>
        some v4) (
        some false)) (
      some false)) (
    some false)

/-- loop.example/g01170/impl.isCount -/
noncomputable def F_impl_isCount (O : Ops) (a1 : Int) : Option Bool :=
  (F_impl_within O a1 0 256).bind fun v1 =>
  some v1

/-- loop.example/g01170/impl.zeros -/
noncomputable def F_impl_zeros (O : Ops) (a1 : Int) : Option (List Nat) :=
  gd (O.pLe 0 a1) <|
  gd (O.pLe a1 a1) <|
  gd (O.pSmall (O.toN a1)) <|
  some (O.lrep (O.toN a1) 0)

/-- loop.example/g01170/impl.impulse -/
noncomputable def F_impl_impulse (O : Ops) (a1 : Int) : Option (List Nat) :=
  (F_impl_zeros O a1).bind fun v1 =>
  cond (O.ilt 0 a1) (
    gd (O.pIdx 0 (O.llen v1)) <|
    gd (O.pNlt (O.nadd 0 (O.toN 0)) (O.llen v1)) <|
    some (O.lset v1 (O.nadd 0 (O.toN 0)) 1065353216)) (
    some v1)

/-- loop.example/g01170/impl.ImpulseOf -/
noncomputable def F_impl_ImpulseOf (O : Ops) (a1 : GFilter) (a2 : Int) (a3 : Int) : Option ((List Nat) × Bool) :=
  (F_impl_isForm O a2).bind fun v1 =>
  cond (!v1) (
    some (([] : List Nat), false)) (
    (F_impl_isCount O a3).bind fun v2 =>
    cond (!v2) (
      some (([] : List Nat), false)) (
      (F_impl_impulse O a3).bind fun v3 =>
      (F_impl_Filter_run O a1 a2 false (GMemory.mk 0 0 0 0) v3).bind fun (v4, v5) =>
      some (v4, true)))

noncomputable def F_slices_Reverse_float32_float32_l0 (O : Ops) : Nat → (List Nat) → Int → Int → Option (List Nat)
  | 0, _, _, _ => none
  | k + 1, p1, p2, p3 =>
    cond (O.ilt p2 p3) (
      gd (O.pIdx p3 (O.llen p1)) <|
      gd (O.pNlt (O.nadd 0 (O.toN p3)) (O.llen p1)) <|
      gd (O.pIdx p2 (O.llen p1)) <|
      gd (O.pNlt (O.nadd 0 (O.toN p2)) (O.llen p1)) <|
      gd (O.pIdx p2 (O.llen p1)) <|
      gd (O.pNlt (O.nadd 0 (O.toN p2)) (O.llen p1)) <|
      gd (O.pIdx p3 (O.llen p1)) <|
      gd (O.pNlt (O.nadd 0 (O.toN p3)) (O.llen p1)) <|
      gd (O.pIn .i64 (O.iadd p2 1)) <|
      gd (O.pIn .i64 (O.isub p3 1)) <|
      F_slices_Reverse_float32_float32_l0 O k (O.lset (O.lset p1 (O.nadd 0 (O.toN p2)) (O.lget p1 (O.nadd 0 (O.toN p3)) 0)) (O.nadd 0 (O.toN p3)) (O.lget p1 (O.nadd 0 (O.toN p2)) 0)) (O.iadd p2 1) (O.isub p3 1)) (
      some p1)

/-- slices.Reverse[[]float32,float32] -/
noncomputable def F_slices_Reverse_float32_float32 (O : Ops) (a1 : (List Nat)) : Option (List Nat) :=
  gd (O.pIn .i64 (O.isub (O.ofN (O.llen a1)) 1)) <|
  (F_slices_Reverse_float32_float32_l0 O KK a1 0 (O.isub (O.ofN (O.llen a1)) 1)).bind fun p4 =>
  gd (O.pNeq (O.llen p4) (O.llen a1)) <|
  some p4

noncomputable def F_impl_FilterBothWays_l0 (O : Ops) (a1 : GFilter) : Nat → (List Nat) → Int → Option (List Nat)
  | 0, _, _ => none
  | k + 1, p6, p7 =>
    cond (O.ilt p7 2) (
      (F_impl_Filter_run O a1 0 false (GMemory.mk 0 0 0 0) p6).bind fun (v3, v4) =>
      (F_slices_Reverse_float32_float32 O v3).bind fun v5 =>
      gd (O.pNeq (O.llen v5) (O.llen v3)) <|
      gd (O.pIn .i64 (O.iadd p7 1)) <|
      F_impl_FilterBothWays_l0 O a1 k v5 (O.iadd p7 1)) (
      some p6)

/-- loop.example/g01170/impl.FilterBothWays -/
noncomputable def F_impl_FilterBothWays (O : Ops) (a1 : GFilter) (a2 : (List Nat)) : Option ((List Nat) × Bool) :=
  (F_impl_areSamples O a2).bind fun v1 =>
  cond (!v1) (
    some (([] : List Nat), false)) (
    (F_impl_copyNumbers O a2).bind fun v2 =>
    (F_impl_FilterBothWays_l0 O a1 KK v2 0).bind fun p8 =>
    some (p8, true))

noncomputable def F_laws_r8Turned_l0 (O : Ops) (a1 : (List Nat)) : Nat → (List Nat) → Int → Option (List Nat)
  | 0, _, _ => none
  | k + 1, p1, p2 =>
    cond (O.ile 0 p2) (
      gd (O.pIdx p2 (O.llen a1)) <|
      gd (O.pSmall (O.nadd (O.llen p1) 1)) <|
      gd (O.pIn .i64 (O.isub p2 1)) <|
      F_laws_r8Turned_l0 O a1 k (O.lapp p1 ([(O.lget a1 (O.toN p2) 0)] : List Nat)) (O.isub p2 1)) (
      some p1)

/-- loop.example/g01170/laws.r8Turned -/
noncomputable def F_laws_r8Turned (O : Ops) (a1 : (List Nat)) : Option (List Nat) :=
  gd (O.pIn .i64 (O.isub (O.ofN (O.llen a1)) 1)) <|
  (F_laws_r8Turned_l0 O a1 KK ([] : List Nat) (O.isub (O.ofN (O.llen a1)) 1)).bind fun p3 =>
  some p3

/-- loop.example/g01170/laws.FnFilterRows -/
noncomputable def F_laws_FnFilterRows (O : Ops) (a1 : (List Int)) (a2 : (List Int)) : Option Bool :=
  (F_laws_r8Long O a1 a2).bind fun v1 =>
  cond v1 (
    some true) (
    (F_spec_R8Filter O a1).bind fun v2 =>
    (F_spec_R8Filter O a2).bind fun v3 =>
    (F_spec_R8Memory O a1).bind fun v4 =>
    (F_spec_R8Memory O a2).bind fun v5 =>
    (F_spec_R8Samples O a2 10).bind fun v6 =>
    (F_laws_r8At O a1 40 3).bind fun v7 =>
    (F_impl_RunFilters O ([v2, v3] : List GFilter) v7 true ([v4, v5] : List GMemory) v6).bind fun (v8, v9, v10) =>
    (F_impl_RunFilter O v2 v7 true v4 v6).bind fun (v11, v12, v13) =>
    (F_impl_RunFilter O v3 v7 true v5 v11).bind fun (v14, v15, v16) =>
    cond (!v10) (
      some false) (
      cond (!v13) (
        some false) (
        cond (!v16) (
          some false) (
          (F_laws_r8Same O v8 v14).bind fun v17 =>
          cond (!v17) (
            some false) (
            cond (!(O.ieq (O.ofN (O.llen v9)) 2)) (
              some false) (
              gd (O.pIdx 0 (O.llen v9)) <|
              gd (O.pNlt (O.nadd 0 (O.toN 0)) (O.llen v9)) <|
              (F_impl_SameMemory O (GMemory.mk ((O.lget v9 (O.nadd 0 (O.toN 0)) (GMemory.mk 0 0 0 0)).A) ((O.lget v9 (O.nadd 0 (O.toN 0)) (GMemory.mk 0 0 0 0)).B) ((O.lget v9 (O.nadd 0 (O.toN 0)) (GMemory.mk 0 0 0 0)).C) ((O.lget v9 (O.nadd 0 (O.toN 0)) (GMemory.mk 0 0 0 0)).D)) v12).bind fun v18 =>
              cond (!v18) (
                some false) (
                gd (O.pIdx 1 (O.llen v9)) <|
                gd (O.pNlt (O.nadd 0 (O.toN 1)) (O.llen v9)) <|
                (F_impl_SameMemory O (GMemory.mk ((O.lget v9 (O.nadd 0 (O.toN 1)) (GMemory.mk 0 0 0 0)).A) ((O.lget v9 (O.nadd 0 (O.toN 1)) (GMemory.mk 0 0 0 0)).B) ((O.lget v9 (O.nadd 0 (O.toN 1)) (GMemory.mk 0 0 0 0)).C) ((O.lget v9 (O.nadd 0 (O.toN 1)) (GMemory.mk 0 0 0 0)).D)) v15).bind fun v19 =>
                cond (!v19) (
                  some false) (
                  (F_impl_ImpulseOf O v2 v7 9).bind fun (v20, v21) =>
                  (F_impl_RunFilter O v2 v7 false (GMemory.mk 0 0 0 0) ([1065353216, 0, 0, 0, 0, 0, 0, 0, 0] : List Nat)).bind fun (v22, v23, v24) =>
                  (F_impl_FilterBothWays O v2 v6).bind fun (v25, v26) =>
                  (F_impl_RunFilter O v2 0 false (GMemory.mk 0 0 0 0) v6).bind fun (v27, v28, v29) =>
                  (F_laws_r8Turned O v27).bind fun v30 =>
                  (F_impl_RunFilter O v2 0 false (GMemory.mk 0 0 0 0) v30).bind fun (v31, v32, v33) =>
                  cond v21 (
                    cond v24 (
                      cond v26 (
                        cond v29 (
                          cond v33 (
                            (F_laws_r8Same O v20 v22).bind fun v34 =>
                            cond v34 (
                              (F_laws_r8Turned O v31).bind fun v35 =>
                              (F_laws_r8Same O v25 v35).bind fun v36 =>
                              some v36) (
                              some false)) (
                            some false)) (
                          some false)) (
                        some false)) (
                      some false)) (
                    some false)))))))))

noncomputable def F_spec_R8Plain_l0 (O : Ops) (a2 : Int) : Nat → (List Nat) → Int → (List Int) → Int → Int → Option (List Nat)
  | 0, _, _, _, _, _ => none
  | k + 1, p4, p5, p6, p7, p8 =>
    cond (O.ilt p5 a2) (
      (F_spec_l01DrawPlain O (Gl00Src.mk p6 p7 p8)).bind fun (v2, v3) =>
      gd (O.pSmall (O.nadd (O.llen p4) 1)) <|
      gd (O.pIn .i64 (O.iadd p5 1)) <|
      F_spec_R8Plain_l0 O a2 k (O.lapp p4 ([v2] : List Nat)) (O.iadd p5 1) v3.code v3.pos v3.seed) (
      some p4)

/-- loop.example/g01170/spec.R8Plain -/
noncomputable def F_spec_R8Plain (O : Ops) (a1 : (List Int)) (a2 : Int) : Option (List Nat) :=
  (F_spec_l00From O a1).bind fun v1 =>
  (F_spec_R8Plain_l0 O a2 KK ([] : List Nat) 0 v1.code v1.pos v1.seed).bind fun p9 =>
  some p9

/-- loop.example/g01170/impl.isReading -/
noncomputable def F_impl_isReading (O : Ops) (a1 : Int) : Option Bool :=
  (F_impl_within O a1 0 2).bind fun v1 =>
  some v1

/-- loop.example/g01170/impl.isPlaceOf -/
noncomputable def F_impl_isPlaceOf (O : Ops) (a1 : (List Nat)) (a2 : Nat) : Option Bool :=
  cond (O.fcmp .geq .f64 a2 0) (
    gd (O.pIn .i64 (O.isub (O.ofN (O.llen a1)) 1)) <|
    some (O.fcmp .leq .f64 a2 (O.fofI .f64 (O.isub (O.ofN (O.llen a1)) 1)))) (
    some false)

/-- math.IsNaN -/
noncomputable def F_math_IsNaN (O : Ops) (a1 : Nat) : Option Bool :=
  some (O.fcmp .neq .f64 a1 a1)

/-- math.Abs -/
noncomputable def F_math_Abs (O : Ops) (a1 : Nat) : Option Nat :=
  (F_math_Float64bits O a1).bind fun v1 =>
  (F_math_Float64frombits O (O.bits .andNot .u64 v1 9223372036854775808)).bind fun v2 =>
  some v2

/-- math.IsInf -/
noncomputable def F_math_IsInf (O : Ops) (a1 : Nat) (a2 : Int) : Option Bool :=
  cond (O.ieq a2 0) (
    (F_math_Abs O a1).bind fun v1 =>
    some (O.fcmp .gtr .f64 v1 9218868437227405311)) (
    cond (O.ilt a2 0) (
      some (O.fcmp .gtr .f64 (O.fneg .f64 a1) 9218868437227405311)) (
      some (O.fcmp .gtr .f64 a1 9218868437227405311)))

/-- math.trunc -/
noncomputable def F_math_trunc (O : Ops) (a1 : Nat) : Option Nat :=
  (F_math_Abs O a1).bind fun v1 =>
  cond (O.fcmp .lss .f64 v1 4607182418800017408) (
    (F_math_Copysign O 0 a1).bind fun v2 =>
    some v2) (
    (F_math_Float64bits O a1).bind fun v3 =>
    gd (O.pLe 0 52) <|
    gd (O.pLe 52 63) <|
    cond (O.ilt (O.wrap .u64 (O.isub (O.bits .and .u64 (O.bits .shr .u64 v3 52) 2047) 1023)) 52) (
      gd (O.pLe 0 (O.wrap .u64 (O.isub 52 (O.wrap .u64 (O.isub (O.bits .and .u64 (O.bits .shr .u64 v3 52) 2047) 1023))))) <|
      gd (O.pLe (O.wrap .u64 (O.isub 52 (O.wrap .u64 (O.isub (O.bits .and .u64 (O.bits .shr .u64 v3 52) 2047) 1023)))) 63) <|
      (F_math_Float64frombits O (O.bits .andNot .u64 v3 (O.wrap .u64 (O.isub (O.bits .shl .u64 1 (O.wrap .u64 (O.isub 52 (O.wrap .u64 (O.isub (O.bits .and .u64 (O.bits .shr .u64 v3 52) 2047) 1023))))) 1)))).bind fun v4 =>
      some v4) (
      (F_math_Float64frombits O v3).bind fun v5 =>
      some v5))

/-- math.Trunc -/
noncomputable def F_math_Trunc (O : Ops) (a1 : Nat) : Option Nat :=
  (F_math_archTrunc O a1).bind fun v1 =>
  some v1

/-- math.Modf -/
noncomputable def F_math_Modf (O : Ops) (a1 : Nat) : Option (Nat × Nat) :=
  (F_math_Trunc O a1).bind fun v1 =>
  (F_math_Copysign O (O.fop .sub .f64 a1 v1) a1).bind fun v2 =>
  some (v1, v2)

/-- math.floor -/
noncomputable def F_math_floor (O : Ops) (a1 : Nat) : Option Nat :=
  cond (O.fcmp .eql .f64 a1 0) (
    some a1) (
    (F_math_IsNaN O a1).bind fun v1 =>
    cond v1 (
      some a1) (
      (F_math_IsInf O a1 0).bind fun v2 =>
      cond v2 (
        some a1) (
        cond (O.fcmp .lss .f64 a1 0) (
          (F_math_Modf O (O.fneg .f64 a1)).bind fun (v3, v4) =>
          cond (O.fcmp .neq .f64 v4 0) (
            some (O.fneg .f64 (O.fop .add .f64 v3 4607182418800017408))) (
            some (O.fneg .f64 v3))) (
          (F_math_Modf O a1).bind fun (v5, v6) =>
          some v5))))

/-- math.Floor -/
noncomputable def F_math_Floor (O : Ops) (a1 : Nat) : Option Nat :=
  (F_math_archFloor O a1).bind fun v1 =>
  some v1

/-- loop.example/g01170/impl.readAt$1 -/
noncomputable def F_impl_readAt_1 (O : Ops) (a1 : Int) (a2 : (List Nat)) (a3 : Nat) : Option (Nat × (List Nat) × Nat) :=
  gd (O.pToI .f64 .i64 a3) <|
  gd (O.pIn .i64 (O.iadd (O.ftoI .f64 a3) a1)) <|
  gd (O.pIn .i64 (O.isub (O.ofN (O.llen a2)) 1)) <|
  gd (O.pIdx (O.imin (O.imax 0 (O.iadd (O.ftoI .f64 a3) a1)) (O.isub (O.ofN (O.llen a2)) 1)) (O.llen a2)) <|
  some ((O.lget a2 (O.toN (O.imin (O.imax 0 (O.iadd (O.ftoI .f64 a3) a1)) (O.isub (O.ofN (O.llen a2)) 1))) 0), a2, a3)

/-- loop.example/g01170/impl.readAt -/
noncomputable def F_impl_readAt (O : Ops) (a1 : Int) (a2 : (List Nat)) (a3 : Nat) : Option Nat :=
  (F_math_Floor O a3).bind fun v1 =>
  cond (O.fcmp .eql .f64 v1 0) (
    gd (O.pConv .f64 .f32 (O.fop .sub .f64 a3 0)) <|
    (F_impl_readAt_1 O 0 a2 0).bind fun (v2, v3, v4) =>
    (F_impl_readAt_1 O 1 v3 v4).bind fun (v5, v6, v7) =>
    cond (O.ieq a1 0) (
      cond (O.fcmp .geq .f32 (O.fconv .f64 .f32 (O.fop .sub .f64 a3 0)) 1056964608) (
        some v5) (
        some v2)) (
      cond (O.ieq a1 1) (
        some (O.fop .add .f32 v2 (O.fop .mul .f32 (O.fconv .f64 .f32 (O.fop .sub .f64 a3 0)) (O.fop .sub .f32 v5 v2)))) (
        (F_impl_readAt_1 O (-1) v6 v7).bind fun (v8, v9, v10) =>
        (F_impl_readAt_1 O 2 v9 v10).bind fun (v11, v12, v13) =>
        some (O.fop .add .f32 (O.fop .mul .f32 (O.fop .add .f32 (O.fop .mul .f32 (O.fop .add .f32 (O.fop .mul .f32 (O.fop .add .f32 (O.fop .mul .f32 1069547520 (O.fop .sub .f32 v2 v5)) (O.fop .mul .f32 1056964608 (O.fop .sub .f32 v11 v8))) (O.fconv .f64 .f32 (O.fop .sub .f64 a3 0))) (O.fop .sub .f32 (O.fop .add .f32 (O.fop .sub .f32 v8 (O.fop .mul .f32 1075838976 v2)) (O.fop .mul .f32 1073741824 v5)) (O.fop .mul .f32 1056964608 v11))) (O.fconv .f64 .f32 (O.fop .sub .f64 a3 0))) (O.fop .mul .f32 1056964608 (O.fop .sub .f32 v5 v8))) (O.fconv .f64 .f32 (O.fop .sub .f64 a3 0))) v2)))) (
    gd (O.pConv .f64 .f32 (O.fop .sub .f64 a3 v1)) <|
    (F_impl_readAt_1 O 0 a2 v1).bind fun (v14, v15, v16) =>
    (F_impl_readAt_1 O 1 v15 v16).bind fun (v17, v18, v19) =>
    cond (O.ieq a1 0) (
      cond (O.fcmp .geq .f32 (O.fconv .f64 .f32 (O.fop .sub .f64 a3 v1)) 1056964608) (
        some v17) (
        some v14)) (
      cond (O.ieq a1 1) (
        some (O.fop .add .f32 v14 (O.fop .mul .f32 (O.fconv .f64 .f32 (O.fop .sub .f64 a3 v1)) (O.fop .sub .f32 v17 v14)))) (
        (F_impl_readAt_1 O (-1) v18 v19).bind fun (v20, v21, v22) =>
        (F_impl_readAt_1 O 2 v21 v22).bind fun (v23, v24, v25) =>
        some (O.fop .add .f32 (O.fop .mul .f32 (O.fop .add .f32 (O.fop .mul .f32 (O.fop .add .f32 (O.fop .mul .f32 (O.fop .add .f32 (O.fop .mul .f32 1069547520 (O.fop .sub .f32 v14 v17)) (O.fop .mul .f32 1056964608 (O.fop .sub .f32 v23 v20))) (O.fconv .f64 .f32 (O.fop .sub .f64 a3 v1))) (O.fop .sub .f32 (O.fop .add .f32 (O.fop .sub .f32 v20 (O.fop .mul .f32 1075838976 v14)) (O.fop .mul .f32 1073741824 v17)) (O.fop .mul .f32 1056964608 v23))) (O.fconv .f64 .f32 (O.fop .sub .f64 a3 v1))) (O.fop .mul .f32 1056964608 (O.fop .sub .f32 v17 v20))) (O.fconv .f64 .f32 (O.fop .sub .f64 a3 v1))) v14))))

/-- loop.example/g01170/impl.ReadAt -/
noncomputable def F_impl_ReadAt (O : Ops) (a1 : Int) (a2 : (List Nat)) (a3 : Nat) : Option (Nat × Bool) :=
  (F_impl_isReading O a1).bind fun v1 =>
  cond (!v1) (
    some (0, false)) (
    (F_impl_areSamples O a2).bind fun v2 =>
    cond (!v2) (
      some (0, false)) (
      (F_impl_isPlaceOf O a2 a3).bind fun v3 =>
      cond (!v3) (
        some (0, false)) (
        (F_impl_readAt O a1 a2 a3).bind fun v4 =>
        some (v4, true))))

/-- loop.example/g01170/impl.isFinite -/
noncomputable def F_impl_isFinite (O : Ops) (a1 : Nat) : Option Bool :=
  some (O.fcmp .eql .f64 (O.fop .sub .f64 a1 a1) 0)

noncomputable def F_impl_PlayAt_l0 (O : Ops) (a1 : Int) (a2 : (List Nat)) (a4 : Nat) : Nat → Nat → Int → (List Nat) → Option (Sum Unit (List Nat))
  | 0, _, _, _ => none
  | k + 1, p7, p8, p9 =>
    cond (O.ilt 0 p8) (
      (F_impl_isPlaceOf O a2 p7).bind fun v5 =>
      cond (!v5) (
        some (.inl ())) (
        (F_impl_readAt O a1 a2 p7).bind fun v6 =>
        gd (O.pSmall (O.nadd (O.llen p9) 1)) <|
        gd (O.pIn .i64 (O.isub p8 1)) <|
        F_impl_PlayAt_l0 O a1 a2 a4 k (O.fop .add .f64 p7 a4) (O.isub p8 1) (O.lapp p9 ([v6] : List Nat)))) (
      some (.inr p9))

/-- loop.example/g01170/impl.PlayAt -/
noncomputable def F_impl_PlayAt (O : Ops) (a1 : Int) (a2 : (List Nat)) (a3 : Nat) (a4 : Nat) (a5 : Int) : Option ((List Nat) × Bool) :=
  (F_impl_isReading O a1).bind fun v1 =>
  cond (!v1) (
    some (([] : List Nat), false)) (
    (F_impl_areSamples O a2).bind fun v2 =>
    cond (!v2) (
      some (([] : List Nat), false)) (
      (F_impl_isFinite O a4).bind fun v3 =>
      cond (!v3) (
        some (([] : List Nat), false)) (
        (F_impl_isCount O a5).bind fun v4 =>
        cond (!v4) (
          some (([] : List Nat), false)) (
          (F_impl_PlayAt_l0 O a1 a2 a4 KK a3 a5 ([] : List Nat)).bind fun z => match z with
          | (.inl ()) =>
            some (([] : List Nat), false)
          | (.inr p10) =>
            some (p10, true)))))

noncomputable def F_spec_R8Whole_l0 (O : Ops) (a2 : Int) (a3 : Int) : Nat → (List Nat) → Int → (List Int) → Int → Int → Option (List Nat)
  | 0, _, _, _, _, _ => none
  | k + 1, p4, p5, p6, p7, p8 =>
    cond (O.ilt p5 a2) (
      gd (O.pIn .i64 (O.imul 2 a3)) <|
      gd (O.pIn .i64 (O.iadd (O.imul 2 a3) 1)) <|
      (F_spec_l00Src_pick O (Gl00Src.mk p6 p7 p8) (O.iadd (O.imul 2 a3) 1)).bind fun (v2, v3) =>
      gd (O.pIn .i64 (O.isub v2 a3)) <|
      gd (O.pSmall (O.nadd (O.llen p4) 1)) <|
      gd (O.pIn .i64 (O.iadd p5 1)) <|
      F_spec_R8Whole_l0 O a2 a3 k (O.lapp p4 ([(O.fofI .f32 (O.isub v2 a3))] : List Nat)) (O.iadd p5 1) v3.code v3.pos v3.seed) (
      some p4)

/-- loop.example/g01170/spec.R8Whole -/
noncomputable def F_spec_R8Whole (O : Ops) (a1 : (List Int)) (a2 : Int) (a3 : Int) : Option (List Nat) :=
  (F_spec_l00From O a1).bind fun v1 =>
  (F_spec_R8Whole_l0 O a2 a3 KK ([] : List Nat) 0 v1.code v1.pos v1.seed).bind fun p9 =>
  some p9

/-- loop.example/g01170/spec.l00In -/
noncomputable def F_spec_l00In (O : Ops) (a1 : Int) (a2 : Int) (a3 : Int) : Option Bool :=
  cond (O.ile a2 a1) (
    some (O.ile a1 a3)) (
    some false)

/-- loop.example/g01170/spec.l06Kind -/
noncomputable def F_spec_l06Kind (O : Ops) (a1 : Int) : Option Bool :=
  (F_spec_l00In O a1 0 2).bind fun v1 =>
  some v1

/-- loop.example/g01170/spec.l01Few -/
noncomputable def F_spec_l01Few (O : Ops) (a1 : (List Nat)) : Option Bool :=
  some (O.ile (O.ofN (O.llen a1)) 256)

/-- loop.example/g01170/spec.l00Max -/
noncomputable def F_spec_l00Max (O : Ops) (a1 : Int) (a2 : Int) : Option Int :=
  cond (O.ilt a2 a1) (
    some a1) (
    some a2)

/-- loop.example/g01170/spec.l00Min -/
noncomputable def F_spec_l00Min (O : Ops) (a1 : Int) (a2 : Int) : Option Int :=
  cond (O.ilt a1 a2) (
    some a1) (
    some a2)

/-- loop.example/g01170/spec.l06Sample -/
noncomputable def F_spec_l06Sample (O : Ops) (a1 : (List Nat)) (a2 : Int) : Option Nat :=
  gd (O.pIn .i64 (O.isub (O.ofN (O.llen a1)) 1)) <|
  (F_spec_l00Min O a2 (O.isub (O.ofN (O.llen a1)) 1)).bind fun v1 =>
  (F_spec_l00Max O 0 v1).bind fun v2 =>
  gd (O.pIdx v2 (O.llen a1)) <|
  some (O.lget a1 (O.toN v2) 0)

/-- loop.example/g01170/spec.l06Read -/
noncomputable def F_spec_l06Read (O : Ops) (a1 : Int) (a2 : (List Nat)) (a3 : Nat) : Option (Nat × Bool) :=
  cond (O.fcmp .geq .f64 a3 0) (
    gd (O.pIn .i64 (O.isub (O.ofN (O.llen a2)) 1)) <|
    cond (!(O.fcmp .leq .f64 a3 (O.fofI .f64 (O.isub (O.ofN (O.llen a2)) 1)))) (
      some (0, false)) (
      gd (O.pToI .f64 .i64 a3) <|
      gd (O.pConv .f64 .f32 (O.fop .sub .f64 a3 (O.fofI .f64 (O.ftoI .f64 a3)))) <|
      (F_spec_l06Sample O a2 (O.ftoI .f64 a3)).bind fun v1 =>
      gd (O.pIn .i64 (O.iadd (O.ftoI .f64 a3) 1)) <|
      (F_spec_l06Sample O a2 (O.iadd (O.ftoI .f64 a3) 1)).bind fun v2 =>
      cond (O.ieq a1 0) (
        cond (O.fcmp .geq .f32 (O.fconv .f64 .f32 (O.fop .sub .f64 a3 (O.fofI .f64 (O.ftoI .f64 a3)))) 1056964608) (
          some (v2, true)) (
          some (v1, true))) (
        cond (O.ieq a1 1) (
          some ((O.fop .add .f32 v1 (O.fop .mul .f32 (O.fconv .f64 .f32 (O.fop .sub .f64 a3 (O.fofI .f64 (O.ftoI .f64 a3)))) (O.fop .sub .f32 v2 v1))), true)) (
          gd (O.pIn .i64 (O.isub (O.ftoI .f64 a3) 1)) <|
          (F_spec_l06Sample O a2 (O.isub (O.ftoI .f64 a3) 1)).bind fun v3 =>
          gd (O.pIn .i64 (O.iadd (O.ftoI .f64 a3) 2)) <|
          (F_spec_l06Sample O a2 (O.iadd (O.ftoI .f64 a3) 2)).bind fun v4 =>
          some ((O.fop .add .f32 (O.fop .mul .f32 (O.fop .add .f32 (O.fop .mul .f32 (O.fop .add .f32 (O.fop .mul .f32 (O.fop .add .f32 (O.fop .mul .f32 1069547520 (O.fop .sub .f32 v1 v2)) (O.fop .mul .f32 1056964608 (O.fop .sub .f32 v4 v3))) (O.fconv .f64 .f32 (O.fop .sub .f64 a3 (O.fofI .f64 (O.ftoI .f64 a3))))) (O.fop .sub .f32 (O.fop .add .f32 (O.fop .sub .f32 v3 (O.fop .mul .f32 1075838976 v1)) (O.fop .mul .f32 1073741824 v2)) (O.fop .mul .f32 1056964608 v4))) (O.fconv .f64 .f32 (O.fop .sub .f64 a3 (O.fofI .f64 (O.ftoI .f64 a3))))) (O.fop .mul .f32 1056964608 (O.fop .sub .f32 v2 v3))) (O.fconv .f64 .f32 (O.fop .sub .f64 a3 (O.fofI .f64 (O.ftoI .f64 a3))))) v1), true))))) (
    some (0, false))

noncomputable def F_spec_PlayAt_l0 (O : Ops) (a1 : Int) (a2 : (List Nat)) (a4 : Nat) (a5 : Int) : Nat → (List Nat) → Nat → Int → Option (Sum Unit (List Nat))
  | 0, _, _, _ => none
  | k + 1, p6, p7, p8 =>
    cond (O.ilt p8 a5) (
      cond (O.ieq (O.ofN (O.llen a2)) 0) (
        some (.inl ())) (
        (F_spec_l06Read O a1 a2 p7).bind fun (v4, v5) =>
        cond (!v5) (
          some (.inl ())) (
          gd (O.pSmall (O.nadd (O.llen p6) 1)) <|
          gd (O.pIn .i64 (O.iadd p8 1)) <|
          F_spec_PlayAt_l0 O a1 a2 a4 a5 k (O.lapp p6 ([v4] : List Nat)) (O.fop .add .f64 p7 a4) (O.iadd p8 1)))) (
      some (.inr p6))

/-- loop.example/g01170/spec.PlayAt -/
noncomputable def F_spec_PlayAt (O : Ops) (a1 : Int) (a2 : (List Nat)) (a3 : Nat) (a4 : Nat) (a5 : Int) : Option ((List Nat) × Bool) :=
  (F_spec_l06Kind O a1).bind fun v1 =>
  cond (!v1) (
    some (([] : List Nat), false)) (
    (F_spec_l01Few O a2).bind fun v2 =>
    cond (!v2) (
      some (([] : List Nat), false)) (
      cond (O.fcmp .neq .f64 (O.fop .sub .f64 a4 a4) 0) (
        some (([] : List Nat), false)) (
        (F_spec_l00In O a5 0 256).bind fun v3 =>
        cond (!v3) (
          some (([] : List Nat), false)) (
          (F_spec_PlayAt_l0 O a1 a2 a4 a5 KK ([] : List Nat) a3 0).bind fun z => match z with
          | (.inl ()) =>
            some (([] : List Nat), false)
          | (.inr p9) =>
            some (p9, true)))))

noncomputable def F_laws_FnPlaces_l0 (O : Ops) (v2 : Int) (v3 : (List Nat)) (v8 : (List Nat)) : Nat → Int → Option (Sum Unit Unit)
  | 0, _ => none
  | k + 1, p10 =>
    cond (O.ilt p10 (O.iadd 2 v2)) (
      gd (O.pIdx p10 (O.llen v8)) <|
      gd (O.pNlt (O.nadd 0 (O.toN p10)) (O.llen v8)) <|
      gd (O.pIdx p10 (O.llen v3)) <|
      gd (O.pNlt (O.nadd 0 (O.toN p10)) (O.llen v3)) <|
      cond (O.fcmp .neq .f32 (O.lget v8 (O.nadd 0 (O.toN p10)) 0) (O.lget v3 (O.nadd 0 (O.toN p10)) 0)) (
        some (.inl ())) (
        gd (O.pIn .i64 (O.iadd p10 1)) <|
        F_laws_FnPlaces_l0 O v2 v3 v8 k (O.iadd p10 1))) (
      some (.inr ()))

noncomputable def F_laws_FnPlaces_l1 (O : Ops) (v3 : (List Nat)) (v4 : Int) (v17 : Int) (v18 : (List Nat)) (v19 : Bool) : Nat → Int → Option (Sum Unit Unit)
  | 0, _ => none
  | k + 1, p25 =>
    cond (O.ilt p25 (O.ofN (O.llen v18))) (
      cond v19 (
        (F_impl_ReadAt O v4 v3 (O.fop .add .f64 4598175219545276416 (O.fop .mul .f64 (O.fofI .f64 p25) (O.fop .quo .f64 (O.fofI .f64 v17) 4625196817309499392)))).bind fun (v22, v23) =>
        cond (!v23) (
          some (.inl ())) (
          gd (O.pIdx p25 (O.llen v18)) <|
          gd (O.pNlt (O.nadd 0 (O.toN p25)) (O.llen v18)) <|
          (F_impl_SameNumber O v22 (O.lget v18 (O.nadd 0 (O.toN p25)) 0)).bind fun v24 =>
          cond (!v24) (
            some (.inl ())) (
            gd (O.pIn .i64 (O.iadd p25 1)) <|
            F_laws_FnPlaces_l1 O v3 v4 v17 v18 v19 k (O.iadd p25 1)))) (
        some (.inr ()))) (
      some (.inr ()))

/-- loop.example/g01170/laws.FnPlaces -/
noncomputable def F_laws_FnPlaces (O : Ops) (a1 : (List Int)) (a2 : (List Int)) : Option Bool :=
  (F_laws_r8Long O a1 a2).bind fun v1 =>
  cond v1 (
    some true) (
    (F_laws_r8At O a1 40 8).bind fun v2 =>
    gd (O.pIn .i64 (O.iadd 2 v2)) <|
    (F_spec_R8Plain O a2 (O.iadd 2 v2)).bind fun v3 =>
    (F_laws_r8At O a1 41 3).bind fun v4 =>
    (F_laws_r8At O a1 42 (O.iadd 2 v2)).bind fun v5 =>
    (F_impl_ReadAt O v4 v3 (O.fofI .f64 v5)).bind fun (v6, v7) =>
    (F_impl_PlayAt O v4 v3 0 4607182418800017408 (O.iadd 2 v2)).bind fun (v8, v9) =>
    cond (!v7) (
      some false) (
      cond (!v9) (
        some false) (
        gd (O.pIdx v5 (O.llen v3)) <|
        gd (O.pNlt (O.nadd 0 (O.toN v5)) (O.llen v3)) <|
        cond (O.fcmp .neq .f32 v6 (O.lget v3 (O.nadd 0 (O.toN v5)) 0)) (
          some false) (
          cond (!(O.ieq (O.ofN (O.llen v8)) (O.iadd 2 v2))) (
            some false) (
            (F_laws_FnPlaces_l0 O v2 v3 v8 KK 0).bind fun z => match z with
            | (.inl ()) =>
              some false
            | (.inr ()) =>
              (F_spec_R8Whole O a1 (O.iadd 2 v2) 100).bind fun v11 =>
              gd (O.pIn .i64 (O.isub (O.iadd 2 v2) 1)) <|
              (F_laws_r8At O a2 40 (O.isub (O.iadd 2 v2) 1)).bind fun v12 =>
              (F_impl_ReadAt O 1 v11 (O.fop .add .f64 (O.fofI .f64 v12) 4602678819172646912)).bind fun (v13, v14) =>
              (F_impl_ReadAt O 0 v11 (O.fop .add .f64 (O.fofI .f64 v12) 4602678819172646912)).bind fun (v15, v16) =>
              cond (!v14) (
                some false) (
                cond (!v16) (
                  some false) (
                  gd (O.pIdx v12 (O.llen v11)) <|
                  gd (O.pNlt (O.nadd 0 (O.toN v12)) (O.llen v11)) <|
                  gd (O.pIn .i64 (O.iadd v12 1)) <|
                  gd (O.pIdx (O.iadd v12 1) (O.llen v11)) <|
                  gd (O.pNlt (O.nadd 0 (O.toN (O.iadd v12 1))) (O.llen v11)) <|
                  cond (O.fcmp .neq .f32 v13 (O.fop .quo .f32 (O.fop .add .f32 (O.lget v11 (O.nadd 0 (O.toN v12)) 0) (O.lget v11 (O.nadd 0 (O.toN (O.iadd v12 1))) 0)) 1073741824)) (
                    some false) (
                    gd (O.pIn .i64 (O.iadd v12 1)) <|
                    gd (O.pIdx (O.iadd v12 1) (O.llen v11)) <|
                    gd (O.pNlt (O.nadd 0 (O.toN (O.iadd v12 1))) (O.llen v11)) <|
                    cond (O.fcmp .neq .f32 v15 (O.lget v11 (O.nadd 0 (O.toN (O.iadd v12 1))) 0)) (
                      some false) (
                      (F_laws_r8At O a2 41 16).bind fun v17 =>
                      (F_impl_PlayAt O v4 v3 4598175219545276416 (O.fop .quo .f64 (O.fofI .f64 v17) 4625196817309499392) 3).bind fun (v18, v19) =>
                      (F_spec_PlayAt O v4 v3 4598175219545276416 (O.fop .quo .f64 (O.fofI .f64 v17) 4625196817309499392) 3).bind fun (v20, v21) =>
                      cond (!(O.beq v19 v21)) (
                        some false) (
                        (F_laws_FnPlaces_l1 O v3 v4 v17 v18 v19 KK 0).bind fun z => match z with
                        | (.inl ()) =>
                          some false
                        | (.inr ()) =>
                          cond (!v19) (
                            some true) (
                            some (O.ieq (O.ofN (O.llen v18)) 3))))))))))))

/-- loop.example/g01170/laws.b10Long -/
noncomputable def F_laws_b10Long (O : Ops) (a1 : (List Int)) (a2 : (List Int)) : Option Bool :=
  cond (O.ilt 1048576 (O.ofN (O.llen a1))) (
    some true) (
    some (O.ilt 1048576 (O.ofN (O.llen a2))))

/-- loop.example/g01170/spec.l03DrawDelay -/
noncomputable def F_spec_l03DrawDelay (O : Ops) (a1 : Gl00Src) : Option (GDelay × Gl00Src) :=
  (F_spec_l00Src_pick O a1 8).bind fun (v1, v2) =>
  gd (O.pIn .i64 (O.iadd 1 v1)) <|
  (F_spec_l00Src_one O v2 2).bind fun (v3, v4) =>
  (F_spec_l00Src_one O v4 12).bind fun (v5, v6) =>
  cond v5 (
    (F_spec_l00Src_pick O v6 33).bind fun (v7, v8) =>
    gd (O.pIn .i64 (O.isub v7 16)) <|
    (F_spec_l00Src_pick O v8 17).bind fun (v9, v10) =>
    (F_spec_l00Src_pick O v10 17).bind fun (v11, v12) =>
    (F_spec_l00Src_one O v12 10).bind fun (v13, v14) =>
    cond v13 (
      (F_spec_l01DrawFloat O v14).bind fun (v15, v16) =>
      some ((GDelay.mk 64 v15 (O.fop .quo .f32 (O.fofI .f32 v9) 1098907648) (O.fop .quo .f32 (O.fofI .f32 v11) 1098907648) v3), v16)) (
      some ((GDelay.mk 64 (O.fop .quo .f32 (O.fofI .f32 (O.isub v7 16)) 1098907648) (O.fop .quo .f32 (O.fofI .f32 v9) 1098907648) (O.fop .quo .f32 (O.fofI .f32 v11) 1098907648) v3), v14))) (
    (F_spec_l00Src_pick O v6 33).bind fun (v17, v18) =>
    gd (O.pIn .i64 (O.isub v17 16)) <|
    (F_spec_l00Src_pick O v18 17).bind fun (v19, v20) =>
    (F_spec_l00Src_pick O v20 17).bind fun (v21, v22) =>
    (F_spec_l00Src_one O v22 10).bind fun (v23, v24) =>
    cond v23 (
      (F_spec_l01DrawFloat O v24).bind fun (v25, v26) =>
      some ((GDelay.mk (O.iadd 1 v1) v25 (O.fop .quo .f32 (O.fofI .f32 v19) 1098907648) (O.fop .quo .f32 (O.fofI .f32 v21) 1098907648) v3), v26)) (
      some ((GDelay.mk (O.iadd 1 v1) (O.fop .quo .f32 (O.fofI .f32 (O.isub v17 16)) 1098907648) (O.fop .quo .f32 (O.fofI .f32 v19) 1098907648) (O.fop .quo .f32 (O.fofI .f32 v21) 1098907648) v3), v24)))

/-- loop.example/g01170/spec.B10Delay -/
noncomputable def F_spec_B10Delay (O : Ops) (a1 : (List Int)) : Option GDelay :=
  (F_spec_l00From O a1).bind fun v1 =>
  (F_spec_l03DrawDelay O v1).bind fun (v2, v3) =>
  some v2

/-- loop.example/g01170/laws.b10At -/
noncomputable def F_laws_b10At (O : Ops) (a1 : (List Int)) (a2 : Int) (a3 : Int) : Option Int :=
  cond (O.ile a3 1) (
    some 0) (
    cond (O.ilt a2 (O.ofN (O.llen a1))) (
      gd (O.pIdx a2 (O.llen a1)) <|
      gd (O.pNe a3 0) <|
      some (O.irem (O.wrap .i64 (O.lget a1 (O.toN a2) 0)) a3)) (
      gd (O.pIn .i64 (O.imul a2 37)) <|
      gd (O.pIn .i64 (O.iadd (O.imul a2 37) 11)) <|
      gd (O.pNe a3 0) <|
      some (O.irem (O.iadd (O.imul a2 37) 11) a3)))

/-- loop.example/g01170/spec.B10Numbers -/
noncomputable def F_spec_B10Numbers (O : Ops) (a1 : (List Int)) (a2 : Int) : Option (List Nat) :=
  (F_spec_l00From O a1).bind fun v1 =>
  (F_spec_l01DrawFloats O v1 a2).bind fun (v2, v3) =>
  some v2

/-- loop.example/g01170/impl.isLength -/
noncomputable def F_impl_isLength (O : Ops) (a1 : Int) : Option Bool :=
  (F_impl_within O a1 1 64).bind fun v1 =>
  some v1

/-- loop.example/g01170/impl.ValidDelay -/
noncomputable def F_impl_ValidDelay (O : Ops) (a1 : GDelay) : Option Bool :=
  (F_impl_isLength O a1.Length).bind fun v1 =>
  some v1

/-- loop.example/g01170/impl.size -/
noncomputable def F_impl_size (O : Ops) (a1 : Int) : Option Int :=
  some a1

/-- loop.example/g01170/impl.take -/
noncomputable def F_impl_take (O : Ops) (a1 : (List Nat)) (a2 : Nat) : Option (List Nat) :=
  gd (O.pLe 0 1) <|
  gd (O.pNle (O.toN 1) (O.llen a1)) <|
  (F_impl_copyNumbers O (O.lsub a1 (O.toN 1) (O.llen a1))).bind fun v1 =>
  gd (O.pSmall (O.nadd (O.llen v1) 1)) <|
  some (O.lapp v1 ([a2] : List Nat))

/-- (loop.example/g01170/impl.Delay).step -/
noncomputable def F_impl_Delay_step (O : Ops) (a1 : GDelay) (a2 : (List Nat)) (a3 : Nat) : Option (Nat × (List Nat)) :=
  gd (O.pIdx 0 (O.llen a2)) <|
  (F_impl_flushed O (O.fop .add .f32 a3 (O.fop .mul .f32 a1.Feedback (O.lget a2 (O.toN 0) 0))) a1.Flush).bind fun v1 =>
  (F_impl_take O a2 v1).bind fun v2 =>
  some ((O.fop .add .f32 (O.fop .mul .f32 a1.Dry a3) (O.fop .mul .f32 a1.Wet (O.lget a2 (O.toN 0) 0))), v2)

noncomputable def F_impl_RunDelay_l0 (O : Ops) (a1 : GDelay) (a3 : (List Nat)) : Nat → (List Nat) → (List Nat) → Int → Option ((List Nat) × (List Nat))
  | 0, _, _, _ => none
  | k + 1, p7, p8, p9 =>
    cond (O.ilt p9 (O.ofN (O.llen a3))) (
      gd (O.pIdx p9 (O.llen a3)) <|
      (F_impl_Delay_step O a1 p7 (O.lget a3 (O.toN p9) 0)).bind fun (v5, v6) =>
      gd (O.pSmall (O.nadd (O.llen p8) 1)) <|
      gd (O.pIn .i64 (O.iadd p9 1)) <|
      F_impl_RunDelay_l0 O a1 a3 k v6 (O.lapp p8 ([v5] : List Nat)) (O.iadd p9 1)) (
      some (p7, p8))

/-- loop.example/g01170/impl.RunDelay -/
noncomputable def F_impl_RunDelay (O : Ops) (a1 : GDelay) (a2 : (List Nat)) (a3 : (List Nat)) : Option ((List Nat) × (List Nat) × Bool) :=
  (F_impl_ValidDelay O a1).bind fun v1 =>
  cond (!v1) (
    some (([] : List Nat), ([] : List Nat), false)) (
    (F_impl_size O (O.ofN (O.llen a2))).bind fun v2 =>
    cond (!(O.ieq v2 a1.Length)) (
      some (([] : List Nat), ([] : List Nat), false)) (
      (F_impl_areSamples O a3).bind fun v3 =>
      cond (!v3) (
        some (([] : List Nat), ([] : List Nat), false)) (
        (F_impl_copyNumbers O a2).bind fun v4 =>
        (F_impl_RunDelay_l0 O a1 a3 KK v4 ([] : List Nat) 0).bind fun (p10, p11) =>
        some (p11, p10, true))))

/-- loop.example/g01170/spec.l01Bits -/
noncomputable def F_spec_l01Bits (O : Ops) (a1 : Nat) : Option Int :=
  cond (O.fcmp .neq .f32 a1 a1) (
    some 2143289344) (
    (F_math_Float32bits O a1).bind fun v1 =>
    some (O.wrap .i64 v1))

/-- loop.example/g01170/spec.l01Same -/
noncomputable def F_spec_l01Same (O : Ops) (a1 : Nat) (a2 : Nat) : Option Bool :=
  (F_spec_l01Bits O a1).bind fun v1 =>
  (F_spec_l01Bits O a2).bind fun v2 =>
  some (O.ieq v1 v2)

/-- loop.example/g01170/spec.SameNumber -/
noncomputable def F_spec_SameNumber (O : Ops) (a1 : Nat) (a2 : Nat) : Option Bool :=
  (F_spec_l01Same O a1 a2).bind fun v1 =>
  some v1

noncomputable def F_laws_b10Same_l0 (O : Ops) (a1 : (List Nat)) (a2 : (List Nat)) : Nat → Int → Option (Sum Unit Unit)
  | 0, _ => none
  | k + 1, p2 =>
    cond (O.ilt p2 (O.ofN (O.llen a1))) (
      gd (O.pIdx p2 (O.llen a1)) <|
      gd (O.pIdx p2 (O.llen a2)) <|
      (F_spec_SameNumber O (O.lget a1 (O.toN p2) 0) (O.lget a2 (O.toN p2) 0)).bind fun v1 =>
      cond (!v1) (
        some (.inl ())) (
        gd (O.pIn .i64 (O.iadd p2 1)) <|
        F_laws_b10Same_l0 O a1 a2 k (O.iadd p2 1))) (
      some (.inr ()))

/-- loop.example/g01170/laws.b10Same -/
noncomputable def F_laws_b10Same (O : Ops) (a1 : (List Nat)) (a2 : (List Nat)) : Option Bool :=
  cond (!(O.ieq (O.ofN (O.llen a1)) (O.ofN (O.llen a2)))) (
    some false) (
    (F_laws_b10Same_l0 O a1 a2 KK 0).bind fun z => match z with
    | (.inl ()) =>
      some false
    | (.inr ()) =>
      some true)

/-- (loop.example/g01170/impl.Pass).step -/
noncomputable def F_impl_Pass_step (O : Ops) (a1 : GPass) (a2 : (List Nat)) (a3 : Nat) : Option (Nat × (List Nat)) :=
  gd (O.pIdx 0 (O.llen a2)) <|
  (F_impl_take O a2 (O.fop .add .f32 a3 (O.fop .mul .f32 a1.Gain (O.lget a2 (O.toN 0) 0)))).bind fun v1 =>
  some ((O.fop .sub .f32 (O.lget a2 (O.toN 0) 0) (O.fop .mul .f32 a1.Gain (O.fop .add .f32 a3 (O.fop .mul .f32 a1.Gain (O.lget a2 (O.toN 0) 0))))), v1)

noncomputable def F_impl_RunPass_l0 (O : Ops) (a1 : GPass) (a3 : (List Nat)) : Nat → (List Nat) → (List Nat) → Int → Option ((List Nat) × (List Nat))
  | 0, _, _, _ => none
  | k + 1, p7, p8, p9 =>
    cond (O.ilt p9 (O.ofN (O.llen a3))) (
      gd (O.pIdx p9 (O.llen a3)) <|
      (F_impl_Pass_step O a1 p7 (O.lget a3 (O.toN p9) 0)).bind fun (v5, v6) =>
      gd (O.pSmall (O.nadd (O.llen p8) 1)) <|
      gd (O.pIn .i64 (O.iadd p9 1)) <|
      F_impl_RunPass_l0 O a1 a3 k v6 (O.lapp p8 ([v5] : List Nat)) (O.iadd p9 1)) (
      some (p7, p8))

/-- loop.example/g01170/impl.RunPass -/
noncomputable def F_impl_RunPass (O : Ops) (a1 : GPass) (a2 : (List Nat)) (a3 : (List Nat)) : Option ((List Nat) × (List Nat) × Bool) :=
  (F_impl_isLength O a1.Length).bind fun v1 =>
  cond (!v1) (
    some (([] : List Nat), ([] : List Nat), false)) (
    (F_impl_size O (O.ofN (O.llen a2))).bind fun v2 =>
    cond (!(O.ieq v2 a1.Length)) (
      some (([] : List Nat), ([] : List Nat), false)) (
      (F_impl_areSamples O a3).bind fun v3 =>
      cond (!v3) (
        some (([] : List Nat), ([] : List Nat), false)) (
        (F_impl_copyNumbers O a2).bind fun v4 =>
        (F_impl_RunPass_l0 O a1 a3 KK v4 ([] : List Nat) 0).bind fun (p10, p11) =>
        some (p11, p10, true))))

/-- loop.example/g01170/impl.EmptyLine -/
noncomputable def F_impl_EmptyLine (O : Ops) (a1 : Int) : Option ((List Nat) × Bool) :=
  (F_impl_isLength O a1).bind fun v1 =>
  cond (!v1) (
    some (([] : List Nat), false)) (
    (F_impl_zeros O a1).bind fun v2 =>
    some (v2, true))

noncomputable def F_spec_B10Whole_l0 (O : Ops) (a3 : Int) : Nat → Int → (List Nat) → (List Int) → Int → Int → Option (List Nat)
  | 0, _, _, _, _, _ => none
  | k + 1, p4, p5, p6, p7, p8 =>
    cond (O.ilt 0 p4) (
      gd (O.pIn .i64 (O.imul 2 a3)) <|
      gd (O.pIn .i64 (O.iadd (O.imul 2 a3) 1)) <|
      (F_spec_l00Src_pick O (Gl00Src.mk p6 p7 p8) (O.iadd (O.imul 2 a3) 1)).bind fun (v2, v3) =>
      gd (O.pIn .i64 (O.isub v2 a3)) <|
      gd (O.pSmall (O.nadd (O.llen p5) 1)) <|
      gd (O.pIn .i64 (O.isub p4 1)) <|
      F_spec_B10Whole_l0 O a3 k (O.isub p4 1) (O.lapp p5 ([(O.fofI .f32 (O.isub v2 a3))] : List Nat)) v3.code v3.pos v3.seed) (
      some p5)

/-- loop.example/g01170/spec.B10Whole -/
noncomputable def F_spec_B10Whole (O : Ops) (a1 : (List Int)) (a2 : Int) (a3 : Int) : Option (List Nat) :=
  (F_spec_l00From O a1).bind fun v1 =>
  (F_spec_B10Whole_l0 O a3 KK a2 ([] : List Nat) v1.code v1.pos v1.seed).bind fun p9 =>
  some p9

/-- loop.example/g01170/impl.IsFinite -/
noncomputable def F_impl_IsFinite (O : Ops) (a1 : Nat) : Option Bool :=
  some (O.fcmp .eql .f32 (O.fop .sub .f32 a1 a1) 0)

noncomputable def F_impl_areFinite_l0 (O : Ops) (a1 : (List Nat)) : Nat → Int → Option (Sum Unit Unit)
  | 0, _ => none
  | k + 1, p2 =>
    cond (O.ilt p2 (O.ofN (O.llen a1))) (
      gd (O.pIdx p2 (O.llen a1)) <|
      (F_impl_IsFinite O (O.lget a1 (O.toN p2) 0)).bind fun v1 =>
      cond (!v1) (
        some (.inl ())) (
        gd (O.pIn .i64 (O.iadd p2 1)) <|
        F_impl_areFinite_l0 O a1 k (O.iadd p2 1))) (
      some (.inr ()))

/-- loop.example/g01170/impl.areFinite -/
noncomputable def F_impl_areFinite (O : Ops) (a1 : (List Nat)) : Option Bool :=
  (F_impl_areFinite_l0 O a1 KK 0).bind fun z => match z with
  | (.inl ()) =>
    some false
  | (.inr ()) =>
    some true

noncomputable def F_impl_areZeros_l0 (O : Ops) (a1 : (List Nat)) : Nat → Int → Option (Sum Unit Unit)
  | 0, _ => none
  | k + 1, p1 =>
    cond (O.ilt p1 (O.ofN (O.llen a1))) (
      gd (O.pIdx p1 (O.llen a1)) <|
      cond (O.fcmp .neq .f32 (O.lget a1 (O.toN p1) 0) 0) (
        some (.inl ())) (
        gd (O.pIn .i64 (O.iadd p1 1)) <|
        F_impl_areZeros_l0 O a1 k (O.iadd p1 1))) (
      some (.inr ()))

/-- loop.example/g01170/impl.areZeros -/
noncomputable def F_impl_areZeros (O : Ops) (a1 : (List Nat)) : Option Bool :=
  (F_impl_areZeros_l0 O a1 KK 0).bind fun z => match z with
  | (.inl ()) =>
    some false
  | (.inr ()) =>
    some true

noncomputable def F_impl_SilentFrom_l0 (O : Ops) (a1 : GDelay) : Nat → (List Nat) → Int → Option (Sum Int Unit)
  | 0, _, _ => none
  | k + 1, p9, p10 =>
    cond (O.ile p10 256) (
      (F_impl_areZeros O p9).bind fun v6 =>
      cond v6 (
        some (.inl p10)) (
        (F_impl_Delay_step O a1 p9 0).bind fun (v7, v8) =>
        gd (O.pIn .i64 (O.iadd p10 1)) <|
        F_impl_SilentFrom_l0 O a1 k v8 (O.iadd p10 1))) (
      some (.inr ()))

/-- loop.example/g01170/impl.SilentFrom -/
noncomputable def F_impl_SilentFrom (O : Ops) (a1 : GDelay) (a2 : (List Nat)) : Option (Int × Bool) :=
  (F_impl_ValidDelay O a1).bind fun v1 =>
  cond (!v1) (
    some (0, false)) (
    (F_impl_size O (O.ofN (O.llen a2))).bind fun v2 =>
    cond (!(O.ieq v2 a1.Length)) (
      some (0, false)) (
      (F_impl_IsFinite O a1.Feedback).bind fun v3 =>
      cond (!v3) (
        some (0, false)) (
        (F_impl_areFinite O a2).bind fun v4 =>
        cond (!v4) (
          some (0, false)) (
          (F_impl_copyNumbers O a2).bind fun v5 =>
          (F_impl_SilentFrom_l0 O a1 KK v5 0).bind fun z => match z with
          | (.inl p11) =>
            some (p11, true)
          | (.inr ()) =>
            some (0, false)))))

/-- loop.example/g01170/spec.l03Length -/
noncomputable def F_spec_l03Length (O : Ops) (a1 : Int) : Option Bool :=
  (F_spec_l00In O a1 1 64).bind fun v1 =>
  some v1

/-- loop.example/g01170/spec.l01Finite -/
noncomputable def F_spec_l01Finite (O : Ops) (a1 : Nat) : Option Bool :=
  some (O.fcmp .eql .f32 (O.fop .sub .f32 a1 a1) 0)

/-- loop.example/g01170/spec.l03Own -/
noncomputable def F_spec_l03Own (O : Ops) (a1 : (List Nat)) : Option (List Nat) :=
  gd (O.pSmall (O.nadd 0 (O.llen a1))) <|
  some (O.lapp ([] : List Nat) a1)

noncomputable def F_spec_l03Zeros_l0 (O : Ops) (a1 : (List Nat)) : Nat → Int → Option (Sum Unit Unit)
  | 0, _ => none
  | k + 1, p1 =>
    cond (O.ilt p1 (O.ofN (O.llen a1))) (
      gd (O.pIdx p1 (O.llen a1)) <|
      cond (O.fcmp .neq .f32 (O.lget a1 (O.toN p1) 0) 0) (
        some (.inl ())) (
        gd (O.pIn .i64 (O.iadd p1 1)) <|
        F_spec_l03Zeros_l0 O a1 k (O.iadd p1 1))) (
      some (.inr ()))

/-- loop.example/g01170/spec.l03Zeros -/
noncomputable def F_spec_l03Zeros (O : Ops) (a1 : (List Nat)) : Option Bool :=
  (F_spec_l03Zeros_l0 O a1 KK 0).bind fun z => match z with
  | (.inl ()) =>
    some false
  | (.inr ()) =>
    some true

/-- loop.example/g01170/spec.l01Flush -/
noncomputable def F_spec_l01Flush (O : Ops) (a1 : Nat) : Option Nat :=
  (F_spec_l01Bits O a1).bind fun v1 =>
  cond (O.ieq (O.bits .and .i64 v1 2139095040) 0) (
    (F_spec_l01From O (O.bits .and .i64 v1 2147483648)).bind fun v2 =>
    some v2) (
    some a1)

noncomputable def F_spec_l03Take_l0 (O : Ops) : Nat → (List Nat) → Int → Option (List Nat)
  | 0, _, _ => none
  | k + 1, p1, p2 =>
    cond (O.ilt p2 (O.ofN (O.llen p1))) (
      gd (O.pIn .i64 (O.isub p2 1)) <|
      gd (O.pIdx p2 (O.llen p1)) <|
      gd (O.pNlt (O.nadd 0 (O.toN p2)) (O.llen p1)) <|
      gd (O.pIdx (O.isub p2 1) (O.llen p1)) <|
      gd (O.pNlt (O.nadd 0 (O.toN (O.isub p2 1))) (O.llen p1)) <|
      gd (O.pIn .i64 (O.iadd p2 1)) <|
      F_spec_l03Take_l0 O k (O.lset p1 (O.nadd 0 (O.toN (O.isub p2 1))) (O.lget p1 (O.nadd 0 (O.toN p2)) 0)) (O.iadd p2 1)) (
      some p1)

/-- loop.example/g01170/spec.l03Take -/
noncomputable def F_spec_l03Take (O : Ops) (a1 : (List Nat)) (a2 : Nat) : Option (List Nat) :=
  (F_spec_l03Take_l0 O KK a1 1).bind fun p3 =>
  gd (O.pIn .i64 (O.isub (O.ofN (O.llen p3)) 1)) <|
  gd (O.pIdx (O.isub (O.ofN (O.llen p3)) 1) (O.llen p3)) <|
  gd (O.pNlt (O.nadd 0 (O.toN (O.isub (O.ofN (O.llen p3)) 1))) (O.llen p3)) <|
  gd (O.pNeq (O.llen (O.lset p3 (O.nadd 0 (O.toN (O.isub (O.ofN (O.llen p3)) 1))) a2)) (O.llen a1)) <|
  some (O.lset p3 (O.nadd 0 (O.toN (O.isub (O.ofN (O.llen p3)) 1))) a2)

/-- loop.example/g01170/spec.l03Delay -/
noncomputable def F_spec_l03Delay (O : Ops) (a1 : GDelay) (a2 : (List Nat)) (a3 : Nat) : Option (Nat × GDelay × (List Nat)) :=
  gd (O.pIdx 0 (O.llen a2)) <|
  gd (O.pNlt (O.nadd 0 (O.toN 0)) (O.llen a2)) <|
  cond a1.Flush (
    (F_spec_l01Flush O (O.fop .add .f32 a3 (O.fop .mul .f32 a1.Feedback (O.lget a2 (O.nadd 0 (O.toN 0)) 0)))).bind fun v1 =>
    (F_spec_l03Take O a2 v1).bind fun v2 =>
    gd (O.pNeq (O.llen v2) (O.llen a2)) <|
    gd (O.pNeq (O.llen v2) (O.llen a2)) <|
    some ((O.fop .add .f32 (O.fop .mul .f32 a1.Dry a3) (O.fop .mul .f32 a1.Wet (O.lget a2 (O.nadd 0 (O.toN 0)) 0))), a1, v2)) (
    (F_spec_l03Take O a2 (O.fop .add .f32 a3 (O.fop .mul .f32 a1.Feedback (O.lget a2 (O.nadd 0 (O.toN 0)) 0)))).bind fun v3 =>
    gd (O.pNeq (O.llen v3) (O.llen a2)) <|
    gd (O.pNeq (O.llen v3) (O.llen a2)) <|
    some ((O.fop .add .f32 (O.fop .mul .f32 a1.Dry a3) (O.fop .mul .f32 a1.Wet (O.lget a2 (O.nadd 0 (O.toN 0)) 0))), a1, v3))

noncomputable def F_spec_SilentFrom_l0 (O : Ops) (a2 : (List Nat)) : Nat → Int → Option (Sum Unit Unit)
  | 0, _ => none
  | k + 1, p4 =>
    cond (O.ilt p4 (O.ofN (O.llen a2))) (
      gd (O.pIdx p4 (O.llen a2)) <|
      (F_spec_l01Finite O (O.lget a2 (O.toN p4) 0)).bind fun v3 =>
      cond (!v3) (
        some (.inl ())) (
        gd (O.pIn .i64 (O.iadd p4 1)) <|
        F_spec_SilentFrom_l0 O a2 k (O.iadd p4 1))) (
      some (.inr ()))

noncomputable def F_spec_SilentFrom_l1 (O : Ops) : Nat → (List Nat) → Int → Int → Nat → Nat → Nat → Bool → Option (Sum Int Unit)
  | 0, _, _, _, _, _, _, _ => none
  | k + 1, p10, p11, p12, p13, p14, p15, p16 =>
    cond (O.ile p11 256) (
      (F_spec_l03Zeros O p10).bind fun v6 =>
      cond v6 (
        some (.inl p11)) (
        (F_spec_l03Delay O (GDelay.mk p12 p13 p14 p15 p16) p10 0).bind fun (v7, v8, v9) =>
        gd (O.pNeq (O.llen v9) (O.llen p10)) <|
        gd (O.pIn .i64 (O.iadd p11 1)) <|
        F_spec_SilentFrom_l1 O k v9 (O.iadd p11 1) v8.Length v8.Feedback v8.Dry v8.Wet v8.Flush)) (
      some (.inr ()))

/-- loop.example/g01170/spec.SilentFrom -/
noncomputable def F_spec_SilentFrom (O : Ops) (a1 : GDelay) (a2 : (List Nat)) : Option (Int × Bool) :=
  (F_spec_l03Length O a1.Length).bind fun v1 =>
  cond (!v1) (
    some (0, false)) (
    cond (!(O.ieq (O.ofN (O.llen a2)) a1.Length)) (
      some (0, false)) (
      (F_spec_l01Finite O a1.Feedback).bind fun v2 =>
      cond (!v2) (
        some (0, false)) (
        (F_spec_SilentFrom_l0 O a2 KK 0).bind fun z => match z with
        | (.inl ()) =>
          some (0, false)
        | (.inr ()) =>
          (F_spec_l03Own O a2).bind fun v5 =>
          (F_spec_SilentFrom_l1 O KK v5 0 a1.Length a1.Feedback a1.Dry a1.Wet a1.Flush).bind fun z => match z with
          | (.inl p17) =>
            some (p17, true)
          | (.inr ()) =>
            some (0, false))))

noncomputable def F_laws_FnDelays_l0 (O : Ops) (v2 : GDelay) (v3 : Int) (v32 : (List Nat)) (v33 : (List Nat)) : Nat → Int → Option (Sum Unit Unit)
  | 0, _ => none
  | k + 1, p36 =>
    cond (O.ilt p36 v3) (
      gd (O.pIdx p36 (O.llen v32)) <|
      gd (O.pNlt (O.nadd 0 (O.toN p36)) (O.llen v32)) <|
      cond (O.ile v2.Length p36) (
        gd (O.pIn .i64 (O.isub p36 v2.Length)) <|
        gd (O.pIdx (O.isub p36 v2.Length) (O.llen v32)) <|
        gd (O.pNlt (O.nadd 0 (O.toN (O.isub p36 v2.Length))) (O.llen v32)) <|
        gd (O.pIdx p36 (O.llen v33)) <|
        gd (O.pNlt (O.nadd 0 (O.toN p36)) (O.llen v33)) <|
        cond (O.fcmp .neq .f32 (O.lget v33 (O.nadd 0 (O.toN p36)) 0) (O.fop .add .f32 (O.lget v32 (O.nadd 0 (O.toN p36)) 0) (O.lget v32 (O.nadd 0 (O.toN (O.isub p36 v2.Length))) 0))) (
          some (.inl ())) (
          gd (O.pIn .i64 (O.iadd p36 1)) <|
          F_laws_FnDelays_l0 O v2 v3 v32 v33 k (O.iadd p36 1))) (
        gd (O.pIdx p36 (O.llen v33)) <|
        gd (O.pNlt (O.nadd 0 (O.toN p36)) (O.llen v33)) <|
        cond (O.fcmp .neq .f32 (O.lget v33 (O.nadd 0 (O.toN p36)) 0) (O.lget v32 (O.nadd 0 (O.toN p36)) 0)) (
          some (.inl ())) (
          gd (O.pIn .i64 (O.iadd p36 1)) <|
          F_laws_FnDelays_l0 O v2 v3 v32 v33 k (O.iadd p36 1)))) (
      some (.inr ()))

noncomputable def F_laws_FnDelays_l1 (O : Ops) (v42 : (List Nat)) : Nat → Int → Option (Sum Unit Unit)
  | 0, _ => none
  | k + 1, p44 =>
    cond (O.ilt p44 (O.ofN (O.llen v42))) (
      gd (O.pIdx p44 (O.llen v42)) <|
      gd (O.pNlt (O.nadd 0 (O.toN p44)) (O.llen v42)) <|
      cond (O.fcmp .neq .f32 (O.lget v42 (O.nadd 0 (O.toN p44)) 0) 0) (
        some (.inl ())) (
        gd (O.pIn .i64 (O.iadd p44 1)) <|
        F_laws_FnDelays_l1 O v42 k (O.iadd p44 1))) (
      some (.inr ()))

noncomputable def F_laws_FnDelays_l2 (O : Ops) (v46 : (List Nat)) : Nat → Bool → Int → Option Bool
  | 0, _, _ => none
  | k + 1, p48, p49 =>
    cond (O.ilt p49 (O.ofN (O.llen v46))) (
      cond p48 (
        gd (O.pIn .i64 (O.iadd p49 1)) <|
        F_laws_FnDelays_l2 O v46 k true (O.iadd p49 1)) (
        gd (O.pIdx p49 (O.llen v46)) <|
        gd (O.pNlt (O.nadd 0 (O.toN p49)) (O.llen v46)) <|
        gd (O.pIn .i64 (O.iadd p49 1)) <|
        F_laws_FnDelays_l2 O v46 k (O.fcmp .neq .f32 (O.lget v46 (O.nadd 0 (O.toN p49)) 0) 0) (O.iadd p49 1))) (
      some p48)

/-- loop.example/g01170/laws.FnDelays -/
noncomputable def F_laws_FnDelays (O : Ops) (a1 : (List Int)) (a2 : (List Int)) : Option Bool :=
  (F_laws_b10Long O a1 a2).bind fun v1 =>
  cond v1 (
    some true) (
    (F_spec_B10Delay O a1).bind fun v2 =>
    (F_laws_b10At O a2 0 20).bind fun v3 =>
    (F_spec_B10Numbers O a2 v3).bind fun v4 =>
    (F_spec_B10Numbers O a1 v2.Length).bind fun v5 =>
    gd (O.pIn .i64 (O.iadd v3 1)) <|
    (F_laws_b10At O a2 1 (O.iadd v3 1)).bind fun v6 =>
    (F_impl_RunDelay O v2 v5 v4).bind fun (v7, v8, v9) =>
    gd (O.pLe 0 v6) <|
    gd (O.pNle (O.toN v6) (O.llen v4)) <|
    (F_impl_RunDelay O v2 v5 (O.lsub v4 (O.nadd 0 0) (O.nadd (O.nadd 0 0) (O.nsub (O.toN v6) 0)))).bind fun (v10, v11, v12) =>
    gd (O.pLe 0 v6) <|
    gd (O.pNle (O.toN v6) (O.llen v4)) <|
    (F_impl_RunDelay O v2 v11 (O.lsub v4 (O.nadd 0 (O.toN v6)) (O.nadd (O.nadd 0 (O.toN v6)) (O.nsub (O.llen v4) (O.toN v6))))).bind fun (v13, v14, v15) =>
    cond (!v9) (
      some false) (
      cond (!v12) (
        some false) (
        cond (!v15) (
          some false) (
          (F_impl_ValidDelay O v2).bind fun v16 =>
          cond (!v16) (
            some false) (
            gd (O.pSmall (O.nadd 0 (O.llen v10))) <|
            gd (O.pSmall (O.nadd (O.nadd 0 (O.llen v10)) (O.llen v13))) <|
            (F_laws_b10Same O (O.lapp (O.lapp ([] : List Nat) v10) v13) v7).bind fun v17 =>
            cond (!v17) (
              some false) (
              (F_laws_b10Same O v8 v14).bind fun v18 =>
              cond (!v18) (
                some false) (
                cond (!(O.ieq (O.ofN (O.llen v7)) v3)) (
                  some false) (
                  (F_impl_RunPass O (GPass.mk v2.Length v2.Wet) v5 v4).bind fun (v19, v20, v21) =>
                  gd (O.pLe 0 v6) <|
                  gd (O.pNle (O.toN v6) (O.llen v4)) <|
                  (F_impl_RunPass O (GPass.mk v2.Length v2.Wet) v5 (O.lsub v4 (O.nadd 0 0) (O.nadd (O.nadd 0 0) (O.nsub (O.toN v6) 0)))).bind fun (v22, v23, v24) =>
                  gd (O.pLe 0 v6) <|
                  gd (O.pNle (O.toN v6) (O.llen v4)) <|
                  (F_impl_RunPass O (GPass.mk v2.Length v2.Wet) v23 (O.lsub v4 (O.nadd 0 (O.toN v6)) (O.nadd (O.nadd 0 (O.toN v6)) (O.nsub (O.llen v4) (O.toN v6))))).bind fun (v25, v26, v27) =>
                  cond (!v21) (
                    some false) (
                    cond (!v24) (
                      some false) (
                      cond (!v27) (
                        some false) (
                        gd (O.pSmall (O.nadd 0 (O.llen v22))) <|
                        gd (O.pSmall (O.nadd (O.nadd 0 (O.llen v22)) (O.llen v25))) <|
                        (F_laws_b10Same O (O.lapp (O.lapp ([] : List Nat) v22) v25) v19).bind fun v28 =>
                        cond (!v28) (
                          some false) (
                          (F_laws_b10Same O v20 v26).bind fun v29 =>
                          cond (!v29) (
                            some false) (
                            (F_impl_EmptyLine O v2.Length).bind fun (v30, v31) =>
                            (F_spec_B10Whole O a2 v3 1000).bind fun v32 =>
                            (F_impl_RunDelay O (GDelay.mk v2.Length 0 1065353216 1065353216 false) v30 v32).bind fun (v33, v34, v35) =>
                            cond (!v31) (
                              some false) (
                              cond (!v35) (
                                some false) (
                                cond (!(O.ieq (O.ofN (O.llen v33)) v3)) (
                                  some false) (
                                  (F_laws_FnDelays_l0 O v2 v3 v32 v33 KK 0).bind fun z => match z with
                                  | (.inl ()) =>
                                    some false
                                  | (.inr ()) =>
                                    (F_impl_SilentFrom O v2 v5).bind fun (v37, v38) =>
                                    (F_spec_SilentFrom O v2 v5).bind fun (v39, v40) =>
                                    cond (!(O.beq v38 v40)) (
                                      some (O.beq v38 v40)) (
                                      cond (!v38) (
                                        some (O.beq v38 v40)) (
                                        gd (O.pLe 0 v37) <|
                                        gd (O.pLe v37 v37) <|
                                        gd (O.pSmall (O.toN v37)) <|
                                        (F_impl_RunDelay O v2 v5 (O.lrep (O.toN v37) 0)).bind fun (v41, v42, v43) =>
                                        cond (!v43) (
                                          some false) (
                                          cond (O.ilt v37 0) (
                                            some false) (
                                            cond (O.ilt 256 v37) (
                                              some false) (
                                              (F_laws_FnDelays_l1 O v42 KK 0).bind fun z => match z with
                                              | (.inl ()) =>
                                                some false
                                              | (.inr ()) =>
                                                cond (O.ieq v37 0) (
                                                  some true) (
                                                  gd (O.pLe 0 1) <|
                                                  gd (O.pNle (O.toN 1) (O.llen (O.lrep (O.toN v37) 0))) <|
                                                  (F_impl_RunDelay O v2 v5 (O.lsub (O.lrep (O.toN v37) 0) (O.nadd 0 (O.toN 1)) (O.nadd (O.nadd 0 (O.toN 1)) (O.nsub (O.llen (O.lrep (O.toN v37) 0)) (O.toN 1))))).bind fun (v45, v46, v47) =>
                                                  (F_laws_FnDelays_l2 O v46 KK false 0).bind fun p50 =>
                                                  cond v47 (
                                                    some p50) (
                                                    some false)))))))))))))))))))))))

/-- loop.example/g01170/spec.B10Plain -/
noncomputable def F_spec_B10Plain (O : Ops) (a1 : (List Int)) : Option Nat :=
  (F_spec_l00From O a1).bind fun v1 =>
  (F_spec_l01DrawPlain O v1).bind fun (v2, v3) =>
  some v2

/-- math.NaN -/
noncomputable def F_math_NaN (O : Ops) : Option Nat :=
  (F_math_Float64frombits O 9221120237041090561).bind fun v1 =>
  some v1

/-- loop.example/g01170/impl.isFar -/
noncomputable def F_impl_isFar (O : Ops) (a1 : Nat) : Option Bool :=
  (F_math_Abs O a1).bind fun v1 =>
  some (O.fcmp .geq .f64 v1 4841369599423283200)

/-- loop.example/g01170/impl.rest -/
noncomputable def F_impl_rest (O : Ops) (a1 : Nat) : Option Nat :=
  (F_math_Trunc O a1).bind fun v1 =>
  cond (O.fcmp .eql .f64 v1 0) (
    cond (O.fcmp .lss .f64 (O.fop .sub .f64 a1 0) 0) (
      some (O.fop .add .f64 (O.fop .sub .f64 a1 0) 4607182418800017408)) (
      some (O.fop .sub .f64 a1 0))) (
    cond (O.fcmp .lss .f64 (O.fop .sub .f64 a1 v1) 0) (
      some (O.fop .add .f64 (O.fop .sub .f64 a1 v1) 4607182418800017408)) (
      some (O.fop .sub .f64 a1 v1)))

noncomputable def F_impl_sine_l0 (O : Ops) (v1 : Nat) : Nat → Nat → Nat → Option Nat
  | 0, _, _ => none
  | k + 1, p2, p3 =>
    cond (O.fcmp .geq .f64 p3 4607182418800017408) (
      F_impl_sine_l0 O v1 k (O.fop .sub .f64 4607182418800017408 (O.fop .quo .f64 (O.fop .mul .f64 (O.fop .mul .f64 (O.fop .mul .f64 (O.fop .sub .f64 4602678819172646912 (O.fop .sub .f64 v1 4602678819172646912)) 4618760256179416344) (O.fop .mul .f64 (O.fop .sub .f64 4602678819172646912 (O.fop .sub .f64 v1 4602678819172646912)) 4618760256179416344)) p2) (O.fop .mul .f64 (O.fop .mul .f64 4611686018427387904 p3) (O.fop .add .f64 (O.fop .mul .f64 4611686018427387904 p3) 4607182418800017408)))) (O.fop .sub .f64 p3 4607182418800017408)) (
      some p2)

noncomputable def F_impl_sine_l1 (O : Ops) (v1 : Nat) : Nat → Nat → Nat → Option Nat
  | 0, _, _ => none
  | k + 1, p5, p6 =>
    cond (O.fcmp .geq .f64 p6 4607182418800017408) (
      F_impl_sine_l1 O v1 k (O.fop .sub .f64 4607182418800017408 (O.fop .quo .f64 (O.fop .mul .f64 (O.fop .mul .f64 (O.fop .mul .f64 (O.fop .sub .f64 v1 4602678819172646912) 4618760256179416344) (O.fop .mul .f64 (O.fop .sub .f64 v1 4602678819172646912) 4618760256179416344)) p5) (O.fop .mul .f64 (O.fop .mul .f64 4611686018427387904 p6) (O.fop .add .f64 (O.fop .mul .f64 4611686018427387904 p6) 4607182418800017408)))) (O.fop .sub .f64 p6 4607182418800017408)) (
      some p5)

noncomputable def F_impl_sine_l2 (O : Ops) (v1 : Nat) : Nat → Nat → Nat → Option Nat
  | 0, _, _ => none
  | k + 1, p8, p9 =>
    cond (O.fcmp .geq .f64 p9 4607182418800017408) (
      F_impl_sine_l2 O v1 k (O.fop .sub .f64 4607182418800017408 (O.fop .quo .f64 (O.fop .mul .f64 (O.fop .mul .f64 (O.fop .mul .f64 (O.fop .sub .f64 4602678819172646912 v1) 4618760256179416344) (O.fop .mul .f64 (O.fop .sub .f64 4602678819172646912 v1) 4618760256179416344)) p8) (O.fop .mul .f64 (O.fop .mul .f64 4611686018427387904 p9) (O.fop .add .f64 (O.fop .mul .f64 4611686018427387904 p9) 4607182418800017408)))) (O.fop .sub .f64 p9 4607182418800017408)) (
      some p8)

noncomputable def F_impl_sine_l3 (O : Ops) (v1 : Nat) : Nat → Nat → Nat → Option Nat
  | 0, _, _ => none
  | k + 1, p11, p12 =>
    cond (O.fcmp .geq .f64 p12 4607182418800017408) (
      F_impl_sine_l3 O v1 k (O.fop .sub .f64 4607182418800017408 (O.fop .quo .f64 (O.fop .mul .f64 (O.fop .mul .f64 (O.fop .mul .f64 v1 4618760256179416344) (O.fop .mul .f64 v1 4618760256179416344)) p11) (O.fop .mul .f64 (O.fop .mul .f64 4611686018427387904 p12) (O.fop .add .f64 (O.fop .mul .f64 4611686018427387904 p12) 4607182418800017408)))) (O.fop .sub .f64 p12 4607182418800017408)) (
      some p11)

/-- loop.example/g01170/impl.sine -/
noncomputable def F_impl_sine (O : Ops) (a1 : Nat) : Option Nat :=
  (F_impl_rest O a1).bind fun v1 =>
  cond (O.fcmp .geq .f64 v1 4602678819172646912) (
    cond (O.fcmp .gtr .f64 (O.fop .sub .f64 v1 4602678819172646912) 4598175219545276416) (
      (F_impl_sine_l0 O v1 KK 4607182418800017408 4620693217682128896).bind fun p4 =>
      cond (O.fcmp .geq .f64 v1 4602678819172646912) (
        some (O.fneg .f64 (O.fop .mul .f64 (O.fop .mul .f64 (O.fop .sub .f64 4602678819172646912 (O.fop .sub .f64 v1 4602678819172646912)) 4618760256179416344) p4))) (
        some (O.fop .mul .f64 (O.fop .mul .f64 (O.fop .sub .f64 4602678819172646912 (O.fop .sub .f64 v1 4602678819172646912)) 4618760256179416344) p4))) (
      (F_impl_sine_l1 O v1 KK 4607182418800017408 4620693217682128896).bind fun p7 =>
      cond (O.fcmp .geq .f64 v1 4602678819172646912) (
        some (O.fneg .f64 (O.fop .mul .f64 (O.fop .mul .f64 (O.fop .sub .f64 v1 4602678819172646912) 4618760256179416344) p7))) (
        some (O.fop .mul .f64 (O.fop .mul .f64 (O.fop .sub .f64 v1 4602678819172646912) 4618760256179416344) p7)))) (
    cond (O.fcmp .gtr .f64 v1 4598175219545276416) (
      (F_impl_sine_l2 O v1 KK 4607182418800017408 4620693217682128896).bind fun p10 =>
      cond (O.fcmp .geq .f64 v1 4602678819172646912) (
        some (O.fneg .f64 (O.fop .mul .f64 (O.fop .mul .f64 (O.fop .sub .f64 4602678819172646912 v1) 4618760256179416344) p10))) (
        some (O.fop .mul .f64 (O.fop .mul .f64 (O.fop .sub .f64 4602678819172646912 v1) 4618760256179416344) p10))) (
      (F_impl_sine_l3 O v1 KK 4607182418800017408 4620693217682128896).bind fun p13 =>
      cond (O.fcmp .geq .f64 v1 4602678819172646912) (
        some (O.fneg .f64 (O.fop .mul .f64 (O.fop .mul .f64 v1 4618760256179416344) p13))) (
        some (O.fop .mul .f64 (O.fop .mul .f64 v1 4618760256179416344) p13))))

/-- loop.example/g01170/impl.SineTurns -/
noncomputable def F_impl_SineTurns (O : Ops) (a1 : Nat) : Option Nat :=
  gd (O.pConv .f32 .f64 a1) <|
  (F_impl_isFinite O (O.fconv .f32 .f64 a1)).bind fun v1 =>
  cond (!v1) (
    (F_math_NaN O).bind fun v2 =>
    gd (O.pConv .f64 .f32 v2) <|
    some (O.fconv .f64 .f32 v2)) (
    (F_impl_isFar O (O.fconv .f32 .f64 a1)).bind fun v3 =>
    cond v3 (
      some 0) (
      (F_impl_sine O (O.fconv .f32 .f64 a1)).bind fun v4 =>
      gd (O.pConv .f64 .f32 v4) <|
      some (O.fconv .f64 .f32 v4)))

/-- loop.example/g01170/laws.b10Gap -/
noncomputable def F_laws_b10Gap (O : Ops) (a1 : Nat) (a2 : Nat) : Option Nat :=
  cond (O.fcmp .lss .f64 a1 a2) (
    some (O.fop .sub .f64 a2 a1)) (
    some (O.fop .sub .f64 a1 a2))

/-- loop.example/g01170/impl.isTenths -/
noncomputable def F_impl_isTenths (O : Ops) (a1 : Int) : Option Bool :=
  (F_impl_within O a1 (-2000) 2000).bind fun v1 =>
  some v1

/-- math.Inf -/
noncomputable def F_math_Inf (O : Ops) (a1 : Int) : Option Nat :=
  cond (O.ile 0 a1) (
    (F_math_Float64frombits O 9218868437227405312).bind fun v1 =>
    some v1) (
    (F_math_Float64frombits O 18442240474082181120).bind fun v2 =>
    some v2)

noncomputable def F_impl_exponential_l0 (O : Ops) (a1 : Nat) : Nat → Nat → Nat → Option Nat
  | 0, _, _ => none
  | k + 1, p2, p3 =>
    cond (O.fcmp .geq .f64 p3 4607182418800017408) (
      F_impl_exponential_l0 O a1 k (O.fop .add .f64 4607182418800017408 (O.fop .quo .f64 (O.fop .mul .f64 (O.fop .quo .f64 a1 4643211215818981376) p2) p3)) (O.fop .sub .f64 p3 4607182418800017408)) (
      some p2)

noncomputable def F_impl_exponential_l1 (O : Ops) : Nat → Nat → Int → Option Nat
  | 0, _, _ => none
  | k + 1, p5, p6 =>
    cond (O.ilt p6 8) (
      gd (O.pIn .i64 (O.iadd p6 1)) <|
      F_impl_exponential_l1 O k (O.fop .mul .f64 p5 p5) (O.iadd p6 1)) (
      some p5)

/-- loop.example/g01170/impl.exponential -/
noncomputable def F_impl_exponential (O : Ops) (a1 : Nat) : Option Nat :=
  cond (O.fcmp .gtr .f64 a1 4641240890982006784) (
    (F_math_Inf O 1).bind fun v1 =>
    some v1) (
    cond (O.fcmp .lss .f64 a1 13864612927836782592) (
      some 0) (
      (F_impl_exponential_l0 O a1 KK 4607182418800017408 4622945017495814144).bind fun p4 =>
      (F_impl_exponential_l1 O KK p4 0).bind fun p7 =>
      some p7))

/-- loop.example/g01170/impl.GainOf -/
noncomputable def F_impl_GainOf (O : Ops) (a1 : Int) : Option (Nat × Bool) :=
  (F_impl_isTenths O a1).bind fun v1 =>
  cond (!v1) (
    some (0, false)) (
    (F_impl_exponential O (O.fop .mul .f64 (O.fofI .f64 a1) 4577790371455803420)).bind fun v2 =>
    gd (O.pConv .f64 .f32 v2) <|
    some ((O.fconv .f64 .f32 v2), true))

noncomputable def F_impl_ExpNumber_l0 (O : Ops) (a1 : Nat) : Nat → Nat → Nat → Option Nat
  | 0, _, _ => none
  | k + 1, p2, p3 =>
    cond (O.fcmp .geq .f64 p3 4607182418800017408) (
      F_impl_ExpNumber_l0 O a1 k (O.fop .add .f64 4607182418800017408 (O.fop .quo .f64 (O.fop .mul .f64 (O.fop .quo .f64 (O.fconv .f32 .f64 a1) 4643211215818981376) p2) p3)) (O.fop .sub .f64 p3 4607182418800017408)) (
      some p2)

noncomputable def F_impl_ExpNumber_l1 (O : Ops) : Nat → Nat → Int → Option Nat
  | 0, _, _ => none
  | k + 1, p5, p6 =>
    cond (O.ilt p6 8) (
      gd (O.pIn .i64 (O.iadd p6 1)) <|
      F_impl_ExpNumber_l1 O k (O.fop .mul .f64 p5 p5) (O.iadd p6 1)) (
      some p5)

/-- loop.example/g01170/impl.ExpNumber -/
noncomputable def F_impl_ExpNumber (O : Ops) (a1 : Nat) : Option Nat :=
  cond (O.fcmp .gtr .f32 a1 1128792064) (
    (F_math_Inf O 1).bind fun v1 =>
    gd (O.pConv .f64 .f32 v1) <|
    some (O.fconv .f64 .f32 v1)) (
    cond (O.fcmp .lss .f32 a1 3276275712) (
      some 0) (
      gd (O.pConv .f32 .f64 a1) <|
      (F_impl_ExpNumber_l0 O a1 KK 4607182418800017408 4622945017495814144).bind fun p4 =>
      (F_impl_ExpNumber_l1 O KK p4 0).bind fun p7 =>
      gd (O.pConv .f64 .f32 p7) <|
      some (O.fconv .f64 .f32 p7)))

noncomputable def F_impl_logarithm_l0 (O : Ops) : Nat → Nat → Nat → Option (Nat × Nat)
  | 0, _, _ => none
  | k + 1, p1, p2 =>
    cond (O.fcmp .geq .f64 p1 4609434218613702656) (
      F_impl_logarithm_l0 O k (O.fop .quo .f64 p1 4611686018427387904) (O.fop .add .f64 p2 4607182418800017408)) (
      some (p1, p2))

noncomputable def F_impl_logarithm_l1 (O : Ops) : Nat → Nat → Nat → Option (Nat × Nat)
  | 0, _, _ => none
  | k + 1, p5, p6 =>
    cond (O.fcmp .lss .f64 p5 4604930618986332160) (
      F_impl_logarithm_l1 O k (O.fop .mul .f64 p5 4611686018427387904) (O.fop .sub .f64 p6 4607182418800017408)) (
      some (p5, p6))

noncomputable def F_impl_logarithm_l2 (O : Ops) (p7 : Nat) : Nat → Nat → Nat → Option Nat
  | 0, _, _ => none
  | k + 1, p9, p10 =>
    cond (O.fcmp .geq .f64 p10 4607182418800017408) (
      F_impl_logarithm_l2 O p7 k (O.fop .add .f64 (O.fop .quo .f64 4607182418800017408 p10) (O.fop .mul .f64 (O.fop .mul .f64 (O.fop .quo .f64 (O.fop .sub .f64 p7 4607182418800017408) (O.fop .add .f64 p7 4607182418800017408)) (O.fop .quo .f64 (O.fop .sub .f64 p7 4607182418800017408) (O.fop .add .f64 p7 4607182418800017408))) p9)) (O.fop .sub .f64 p10 4611686018427387904)) (
      some p9)

/-- loop.example/g01170/impl.logarithm -/
noncomputable def F_impl_logarithm (O : Ops) (a1 : Nat) : Option Nat :=
  (F_impl_logarithm_l0 O KK a1 0).bind fun (p3, p4) =>
  (F_impl_logarithm_l1 O KK p3 p4).bind fun (p7, p8) =>
  (F_impl_logarithm_l2 O p7 KK 0 4627730092099895296).bind fun p11 =>
  some (O.fop .add .f64 (O.fop .mul .f64 4611686018427387904 (O.fop .mul .f64 (O.fop .quo .f64 (O.fop .sub .f64 p7 4607182418800017408) (O.fop .add .f64 p7 4607182418800017408)) p11)) (O.fop .mul .f64 p8 4604418534313441775))

/-- loop.example/g01170/impl.LogNumber -/
noncomputable def F_impl_LogNumber (O : Ops) (a1 : Nat) : Option Nat :=
  cond (O.fcmp .neq .f32 a1 a1) (
    (F_math_NaN O).bind fun v1 =>
    gd (O.pConv .f64 .f32 v1) <|
    some (O.fconv .f64 .f32 v1)) (
    cond (O.fcmp .lss .f32 a1 0) (
      (F_math_NaN O).bind fun v2 =>
      gd (O.pConv .f64 .f32 v2) <|
      some (O.fconv .f64 .f32 v2)) (
      cond (O.fcmp .eql .f32 a1 0) (
        (F_math_Inf O (-1)).bind fun v3 =>
        gd (O.pConv .f64 .f32 v3) <|
        some (O.fconv .f64 .f32 v3)) (
        (F_impl_IsFinite O a1).bind fun v4 =>
        cond (!v4) (
          some a1) (
          gd (O.pConv .f32 .f64 a1) <|
          (F_impl_logarithm O (O.fconv .f32 .f64 a1)).bind fun v5 =>
          gd (O.pConv .f64 .f32 v5) <|
          some (O.fconv .f64 .f32 v5)))))

/-- math.Sqrt -/
noncomputable def F_math_Sqrt (O : Ops) (a1 : Nat) : Option Nat :=
  (F_math_sqrt O a1).bind fun v1 =>
  some v1

/-- loop.example/g01170/impl.RootNumber -/
noncomputable def F_impl_RootNumber (O : Ops) (a1 : Nat) : Option Nat :=
  gd (O.pConv .f32 .f64 a1) <|
  (F_math_Sqrt O (O.fconv .f32 .f64 a1)).bind fun v1 =>
  gd (O.pConv .f64 .f32 v1) <|
  some (O.fconv .f64 .f32 v1)

/-- loop.example/g01170/impl.TanhNumber -/
noncomputable def F_impl_TanhNumber (O : Ops) (a1 : Nat) : Option Nat :=
  cond (O.fcmp .gtr .f32 a1 1101004800) (
    some 1065353216) (
    cond (O.fcmp .lss .f32 a1 3248488448) (
      some 3212836864) (
      gd (O.pConv .f32 .f64 a1) <|
      (F_impl_exponential O (O.fop .mul .f64 4611686018427387904 (O.fconv .f32 .f64 a1))).bind fun v1 =>
      gd (O.pConv .f64 .f32 (O.fop .quo .f64 (O.fop .sub .f64 v1 4607182418800017408) (O.fop .add .f64 v1 4607182418800017408))) <|
      some (O.fconv .f64 .f32 (O.fop .quo .f64 (O.fop .sub .f64 v1 4607182418800017408) (O.fop .add .f64 v1 4607182418800017408)))))

/-- loop.example/g01170/laws.FnSines -/
noncomputable def F_laws_FnSines (O : Ops) (a1 : (List Int)) (a2 : (List Int)) : Option Bool :=
  (F_laws_b10Long O a1 a2).bind fun v1 =>
  cond v1 (
    some true) (
    (F_spec_B10Plain O a1).bind fun v2 =>
    (F_impl_SineTurns O v2).bind fun v3 =>
    gd (O.pConv .f32 .f64 v3) <|
    (F_impl_SineTurns O (O.fop .add .f32 v2 1048576000)).bind fun v4 =>
    gd (O.pConv .f32 .f64 v4) <|
    (F_impl_SineTurns O (O.fop .add .f32 v2 1065353216)).bind fun v5 =>
    gd (O.pConv .f32 .f64 v5) <|
    (F_impl_SineTurns O (O.fneg .f32 v2)).bind fun v6 =>
    gd (O.pConv .f32 .f64 v6) <|
    cond (O.fcmp .gtr .f64 (O.fconv .f32 .f64 v3) 4607182418800017408) (
      some false) (
      cond (O.fcmp .lss .f64 (O.fconv .f32 .f64 v3) 13830554455654793216) (
        some false) (
        (F_laws_b10Gap O (O.fop .add .f64 (O.fop .mul .f64 (O.fconv .f32 .f64 v3) (O.fconv .f32 .f64 v3)) (O.fop .mul .f64 (O.fconv .f32 .f64 v4) (O.fconv .f32 .f64 v4))) 4607182418800017408).bind fun v7 =>
        cond (O.fcmp .gtr .f64 v7 4547007122018943789) (
          some false) (
          (F_laws_b10Gap O (O.fconv .f32 .f64 v3) (O.fconv .f32 .f64 v5)).bind fun v8 =>
          cond (O.fcmp .gtr .f64 v8 4547007122018943789) (
            some false) (
            (F_laws_b10Gap O (O.fconv .f32 .f64 v3) (O.fneg .f64 (O.fconv .f32 .f64 v6))).bind fun v9 =>
            cond (O.fcmp .gtr .f64 v9 4547007122018943789) (
              some false) (
              (F_laws_b10At O a2 0 256).bind fun v10 =>
              gd (O.pIn .i64 (O.isub v10 128)) <|
              (F_laws_b10At O a2 1 256).bind fun v11 =>
              gd (O.pIn .i64 (O.isub v11 128)) <|
              (F_impl_GainOf O (O.isub v10 128)).bind fun (v12, v13) =>
              (F_impl_GainOf O (O.isub v11 128)).bind fun (v14, v15) =>
              gd (O.pIn .i64 (O.iadd (O.isub v10 128) (O.isub v11 128))) <|
              (F_impl_GainOf O (O.iadd (O.isub v10 128) (O.isub v11 128))).bind fun (v16, v17) =>
              (F_impl_GainOf O 0).bind fun (v18, v19) =>
              gd (O.pConv .f32 .f64 v12) <|
              gd (O.pConv .f32 .f64 v14) <|
              gd (O.pConv .f32 .f64 v16) <|
              cond (!v13) (
                some false) (
                cond (!v15) (
                  some false) (
                  cond (!v17) (
                    some false) (
                    cond (!v19) (
                      some false) (
                      cond (O.fcmp .neq .f32 v18 1065353216) (
                        some false) (
                        (F_laws_b10Gap O (O.fop .quo .f64 (O.fop .mul .f64 (O.fconv .f32 .f64 v12) (O.fconv .f32 .f64 v14)) (O.fconv .f32 .f64 v16)) 4607182418800017408).bind fun v20 =>
                        cond (O.fcmp .gtr .f64 v20 4532020583610935537) (
                          some false) (
                          (F_impl_ExpNumber O 1065353216).bind fun v21 =>
                          (F_impl_LogNumber O v21).bind fun v22 =>
                          gd (O.pConv .f32 .f64 v22) <|
                          (F_laws_b10Gap O (O.fconv .f32 .f64 v22) 4607182418800017408).bind fun v23 =>
                          cond (O.fcmp .lss .f64 v23 4532020583610935537) (
                            (F_impl_RootNumber O 1091567616).bind fun v24 =>
                            cond (O.fcmp .eql .f32 v24 1077936128) (
                              (F_impl_TanhNumber O 1106247680).bind fun v25 =>
                              some (O.fcmp .eql .f32 v25 1065353216)) (
                              some false)) (
                            some false)))))))))))))

noncomputable def F_spec_l03DrawRoom_l0 (O : Ops) : Nat → Int → (List Int) → Int → Int → (List GDelay) → Option ((List GDelay) × (List Int) × Int × Int)
  | 0, _, _, _, _, _ => none
  | k + 1, p5, p6, p7, p8, p9 =>
    cond (O.ilt 0 p5) (
      (F_spec_l03DrawDelay O (Gl00Src.mk p6 p7 p8)).bind fun (v3, v4) =>
      gd (O.pSmall (O.nadd (O.llen p9) 1)) <|
      gd (O.pIn .i64 (O.isub p5 1)) <|
      F_spec_l03DrawRoom_l0 O k (O.isub p5 1) v4.code v4.pos v4.seed (O.lapp p9 ([v3] : List GDelay))) (
      some (p9, p6, p7, p8))

noncomputable def F_spec_l03DrawRoom_l1 (O : Ops) : Nat → Int → (List Int) → Int → Int → (List GPass) → Option ((List GPass) × (List Int) × Int × Int)
  | 0, _, _, _, _, _ => none
  | k + 1, p20, p21, p22, p23, p24 =>
    cond (O.ilt 0 p20) (
      (F_spec_l00Src_pick O (Gl00Src.mk p21 p22 p23) 6).bind fun (v16, v17) =>
      gd (O.pIn .i64 (O.iadd 1 v16)) <|
      (F_spec_l00Src_pick O v17 17).bind fun (v18, v19) =>
      gd (O.pIn .i64 (O.isub v18 8)) <|
      gd (O.pSmall (O.nadd (O.llen p24) 1)) <|
      gd (O.pIn .i64 (O.isub p20 1)) <|
      F_spec_l03DrawRoom_l1 O k (O.isub p20 1) v19.code v19.pos v19.seed (O.lapp p24 ([(GPass.mk (O.iadd 1 v16) (O.fop .quo .f32 (O.fofI .f32 (O.isub v18 8)) 1098907648))] : List GPass))) (
      some (p24, p21, p22, p23))

/-- loop.example/g01170/spec.l03DrawRoom -/
noncomputable def F_spec_l03DrawRoom (O : Ops) (a1 : Gl00Src) : Option (GRoom × Gl00Src) :=
  (F_spec_l00Src_pick O a1 3).bind fun (v1, v2) =>
  gd (O.pIn .i64 (O.iadd 1 v1)) <|
  (F_spec_l03DrawRoom_l0 O KK (O.iadd 1 v1) v2.code v2.pos v2.seed ([] : List GDelay)).bind fun (p10, p11, p12, p13) =>
  (F_spec_l00Src_pick O (Gl00Src.mk p11 p12 p13) 3).bind fun (v14, v15) =>
  (F_spec_l03DrawRoom_l1 O KK v14 v15.code v15.pos v15.seed ([] : List GPass)).bind fun (p25, p26, p27, p28) =>
  (F_spec_l01DrawPlain O (Gl00Src.mk p26 p27 p28)).bind fun (v29, v30) =>
  (F_spec_l01DrawPlain O v30).bind fun (v31, v32) =>
  (F_spec_l00Src_pick O v32 30).bind fun (v33, v34) =>
  cond (O.ieq v33 0) (
    some ((GRoom.mk ([] : List GDelay) p25 v29 v31), v34)) (
    cond (O.ieq v33 1) (
      (F_spec_l00Src_among O v34 ([0, (-1), 65] : List Int)).bind fun (v35, v36) =>
      gd (O.pIdx 0 (O.llen p10)) <|
      gd (O.pNlt (O.nadd 0 (O.toN 0)) (O.llen p10)) <|
      some ((GRoom.mk (O.lset p10 (O.nadd 0 (O.toN 0)) (GDelay.mk v35 ((O.lget p10 (O.nadd 0 (O.toN 0)) (GDelay.mk 0 0 0 0 false)).Feedback) ((O.lget p10 (O.nadd 0 (O.toN 0)) (GDelay.mk 0 0 0 0 false)).Dry) ((O.lget p10 (O.nadd 0 (O.toN 0)) (GDelay.mk 0 0 0 0 false)).Wet) ((O.lget p10 (O.nadd 0 (O.toN 0)) (GDelay.mk 0 0 0 0 false)).Flush))) p25 v29 v31), v36)) (
      cond (O.ieq v33 2) (
        gd (O.pSmall (O.nadd (O.llen p25) 1)) <|
        some ((GRoom.mk p10 (O.lapp p25 ([(GPass.mk 0 0)] : List GPass)) v29 v31), v34)) (
        some ((GRoom.mk p10 p25 v29 v31), v34))))

noncomputable def F_spec_l03Is_l0 (O : Ops) (a1 : GRoom) : Nat → Int → Option (Sum Unit Unit)
  | 0, _ => none
  | k + 1, p2 =>
    cond (O.ilt p2 (O.ofN (O.llen a1.Combs))) (
      gd (O.pIdx p2 (O.llen a1.Combs)) <|
      (F_spec_l03Length O ((O.lget a1.Combs (O.toN p2) (GDelay.mk 0 0 0 0 false)).Length)).bind fun v1 =>
      cond (!v1) (
        some (.inl ())) (
        gd (O.pIn .i64 (O.iadd p2 1)) <|
        F_spec_l03Is_l0 O a1 k (O.iadd p2 1))) (
      some (.inr ()))

noncomputable def F_spec_l03Is_l1 (O : Ops) (a1 : GRoom) : Nat → Int → Option (Sum Unit Unit)
  | 0, _ => none
  | k + 1, p4 =>
    cond (O.ilt p4 (O.ofN (O.llen a1.Passes))) (
      gd (O.pIdx p4 (O.llen a1.Passes)) <|
      (F_spec_l03Length O ((O.lget a1.Passes (O.toN p4) (GPass.mk 0 0)).Length)).bind fun v3 =>
      cond (!v3) (
        some (.inl ())) (
        gd (O.pIn .i64 (O.iadd p4 1)) <|
        F_spec_l03Is_l1 O a1 k (O.iadd p4 1))) (
      some (.inr ()))

/-- loop.example/g01170/spec.l03Is -/
noncomputable def F_spec_l03Is (O : Ops) (a1 : GRoom) : Option (Bool × GRoom) :=
  (F_spec_l03Is_l0 O a1 KK 0).bind fun z => match z with
  | (.inl ()) =>
    some (false, a1)
  | (.inr ()) =>
    (F_spec_l03Is_l1 O a1 KK 0).bind fun z => match z with
    | (.inl ()) =>
      some (false, a1)
    | (.inr ()) =>
      cond (O.ile 1 (O.ofN (O.llen a1.Combs))) (
        cond (O.ile (O.ofN (O.llen a1.Combs)) 4) (
          some ((O.ile (O.ofN (O.llen a1.Passes)) 3), a1)) (
          some (false, a1))) (
        some (false, a1))

/-- loop.example/g01170/spec.B10Room -/
noncomputable def F_spec_B10Room (O : Ops) (a1 : (List Int)) : Option GRoom :=
  (F_spec_l00From O a1).bind fun v1 =>
  (F_spec_l03DrawRoom O v1).bind fun (v2, v3) =>
  (F_spec_l03Is O v2).bind fun (v4, v5) =>
  cond (!v4) (
    some (GRoom.mk ([(GDelay.mk 2 1056964608 0 1065353216 false)] : List GDelay) ([] : List GPass) 0 1065353216)) (
    some v5)

noncomputable def F_impl_allWithin_l0 (O : Ops) (a1 : (List Int)) (a2 : Int) (a3 : Int) : Nat → Int → Option (Sum Unit Unit)
  | 0, _ => none
  | k + 1, p2 =>
    cond (O.ilt p2 (O.ofN (O.llen a1))) (
      gd (O.pIdx p2 (O.llen a1)) <|
      (F_impl_within O (O.lget a1 (O.toN p2) 0) a2 a3).bind fun v1 =>
      cond (!v1) (
        some (.inl ())) (
        gd (O.pIn .i64 (O.iadd p2 1)) <|
        F_impl_allWithin_l0 O a1 a2 a3 k (O.iadd p2 1))) (
      some (.inr ()))

/-- loop.example/g01170/impl.allWithin -/
noncomputable def F_impl_allWithin (O : Ops) (a1 : (List Int)) (a2 : Int) (a3 : Int) : Option Bool :=
  (F_impl_allWithin_l0 O a1 a2 a3 KK 0).bind fun z => match z with
  | (.inl ()) =>
    some false
  | (.inr ()) =>
    some true

noncomputable def F_impl_Room_lengths_l0 (O : Ops) (a1 : GRoom) : Nat → (List Int) → Int → Option (List Int)
  | 0, _, _ => none
  | k + 1, p1, p2 =>
    cond (O.ilt p2 (O.ofN (O.llen a1.Combs))) (
      gd (O.pIdx p2 (O.llen a1.Combs)) <|
      gd (O.pSmall (O.nadd (O.llen p1) 1)) <|
      gd (O.pIn .i64 (O.iadd p2 1)) <|
      F_impl_Room_lengths_l0 O a1 k (O.lapp p1 ([((O.lget a1.Combs (O.toN p2) (GDelay.mk 0 0 0 0 false)).Length)] : List Int)) (O.iadd p2 1)) (
      some p1)

noncomputable def F_impl_Room_lengths_l1 (O : Ops) (a1 : GRoom) : Nat → (List Int) → Int → Option (List Int)
  | 0, _, _ => none
  | k + 1, p4, p5 =>
    cond (O.ilt p5 (O.ofN (O.llen a1.Passes))) (
      gd (O.pIdx p5 (O.llen a1.Passes)) <|
      gd (O.pSmall (O.nadd (O.llen p4) 1)) <|
      gd (O.pIn .i64 (O.iadd p5 1)) <|
      F_impl_Room_lengths_l1 O a1 k (O.lapp p4 ([((O.lget a1.Passes (O.toN p5) (GPass.mk 0 0)).Length)] : List Int)) (O.iadd p5 1)) (
      some p4)

/-- (loop.example/g01170/impl.Room).lengths -/
noncomputable def F_impl_Room_lengths (O : Ops) (a1 : GRoom) : Option (List Int) :=
  (F_impl_Room_lengths_l0 O a1 KK ([] : List Int) 0).bind fun p3 =>
  (F_impl_Room_lengths_l1 O a1 KK p3 0).bind fun p6 =>
  some p6

/-- loop.example/g01170/impl.ValidRoom -/
noncomputable def F_impl_ValidRoom (O : Ops) (a1 : GRoom) : Option Bool :=
  (F_impl_size O (O.ofN (O.llen a1.Combs))).bind fun v1 =>
  (F_impl_within O v1 1 4).bind fun v2 =>
  cond v2 (
    cond (O.ile (O.ofN (O.llen a1.Passes)) 3) (
      (F_impl_Room_lengths O a1).bind fun v3 =>
      (F_impl_allWithin O v3 1 64).bind fun v4 =>
      some v4) (
      some false)) (
    some false)

noncomputable def F_impl_Room_empty_l0 (O : Ops) (v1 : (List Int)) : Nat → (List (List Nat)) → Int → Option (List (List Nat))
  | 0, _, _ => none
  | k + 1, p3, p4 =>
    cond (O.ilt p4 (O.ofN (O.llen v1))) (
      gd (O.pIdx p4 (O.llen v1)) <|
      gd (O.pNlt (O.nadd 0 (O.toN p4)) (O.llen v1)) <|
      (F_impl_zeros O (O.lget v1 (O.nadd 0 (O.toN p4)) 0)).bind fun v2 =>
      gd (O.pSmall (O.nadd (O.llen p3) 1)) <|
      gd (O.pIn .i64 (O.iadd p4 1)) <|
      F_impl_Room_empty_l0 O v1 k (O.lapp p3 ([v2] : List (List Nat))) (O.iadd p4 1)) (
      some p3)

/-- (loop.example/g01170/impl.Room).empty -/
noncomputable def F_impl_Room_empty (O : Ops) (a1 : GRoom) : Option (List (List Nat)) :=
  (F_impl_Room_lengths O a1).bind fun v1 =>
  (F_impl_Room_empty_l0 O v1 KK ([] : List (List Nat)) 0).bind fun p5 =>
  some p5

/-- loop.example/g01170/impl.EmptyRoom -/
noncomputable def F_impl_EmptyRoom (O : Ops) (a1 : GRoom) : Option ((List (List Nat)) × Bool) :=
  (F_impl_ValidRoom O a1).bind fun v1 =>
  cond (!v1) (
    some (([] : List (List Nat)), false)) (
    (F_impl_Room_empty O a1).bind fun v2 =>
    some (v2, true))

noncomputable def F_impl_Room_areLines_l0 (O : Ops) (a2 : (List (List Nat))) (v1 : (List Int)) : Nat → Int → Option (Sum Unit Unit)
  | 0, _ => none
  | k + 1, p3 =>
    cond (O.ilt p3 (O.ofN (O.llen a2))) (
      gd (O.pIdx p3 (O.llen a2)) <|
      (F_impl_size O (O.ofN (O.llen (O.lget a2 (O.toN p3) [])))).bind fun v2 =>
      gd (O.pIdx p3 (O.llen v1)) <|
      gd (O.pNlt (O.nadd 0 (O.toN p3)) (O.llen v1)) <|
      cond (!(O.ieq v2 (O.lget v1 (O.nadd 0 (O.toN p3)) 0))) (
        some (.inl ())) (
        gd (O.pIn .i64 (O.iadd p3 1)) <|
        F_impl_Room_areLines_l0 O a2 v1 k (O.iadd p3 1))) (
      some (.inr ()))

/-- (loop.example/g01170/impl.Room).areLines -/
noncomputable def F_impl_Room_areLines (O : Ops) (a1 : GRoom) (a2 : (List (List Nat))) : Option Bool :=
  (F_impl_Room_lengths O a1).bind fun v1 =>
  cond (!(O.ieq (O.ofN (O.llen a2)) (O.ofN (O.llen v1)))) (
    some false) (
    (F_impl_Room_areLines_l0 O a2 v1 KK 0).bind fun z => match z with
    | (.inl ()) =>
      some false
    | (.inr ()) =>
      some true)

noncomputable def F_impl_sumOf_l0 (O : Ops) (a1 : (List Nat)) : Nat → Nat → Int → Option Nat
  | 0, _, _ => none
  | k + 1, p1, p2 =>
    cond (O.ilt p2 (O.ofN (O.llen a1))) (
      gd (O.pIdx p2 (O.llen a1)) <|
      gd (O.pIn .i64 (O.iadd p2 1)) <|
      F_impl_sumOf_l0 O a1 k (O.fop .add .f32 p1 (O.lget a1 (O.toN p2) 0)) (O.iadd p2 1)) (
      some p1)

/-- loop.example/g01170/impl.sumOf -/
noncomputable def F_impl_sumOf (O : Ops) (a1 : (List Nat)) : Option Nat :=
  (F_impl_sumOf_l0 O a1 KK 0 0).bind fun p3 =>
  some p3

noncomputable def F_impl_Room_run_l0 (O : Ops) (a2 : (List (List Nat))) : Nat → (List (List Nat)) → Int → Option (List (List Nat))
  | 0, _, _ => none
  | k + 1, p2, p3 =>
    cond (O.ilt p3 (O.ofN (O.llen a2))) (
      gd (O.pIdx p3 (O.llen a2)) <|
      (F_impl_copyNumbers O (O.lget a2 (O.toN p3) [])).bind fun v1 =>
      gd (O.pSmall (O.nadd (O.llen p2) 1)) <|
      gd (O.pIn .i64 (O.iadd p3 1)) <|
      F_impl_Room_run_l0 O a2 k (O.lapp p2 ([v1] : List (List Nat))) (O.iadd p3 1)) (
      some p2)

noncomputable def F_impl_Room_run_l1 (O : Ops) (a1 : GRoom) (a3 : (List Nat)) (p22 : Int) : Nat → (List (List Nat)) → (List Nat) → Int → Option ((List (List Nat)) × (List Nat))
  | 0, _, _, _ => none
  | k + 1, p7, p8, p9 =>
    cond (O.ilt p9 (O.ofN (O.llen a1.Combs))) (
      gd (O.pIdx p9 (O.llen a1.Combs)) <|
      gd (O.pIdx p9 (O.llen p7)) <|
      gd (O.pNlt (O.nadd 0 (O.toN p9)) (O.llen p7)) <|
      (F_impl_Delay_step O (GDelay.mk ((O.lget a1.Combs (O.toN p9) (GDelay.mk 0 0 0 0 false)).Length) ((O.lget a1.Combs (O.toN p9) (GDelay.mk 0 0 0 0 false)).Feedback) ((O.lget a1.Combs (O.toN p9) (GDelay.mk 0 0 0 0 false)).Dry) ((O.lget a1.Combs (O.toN p9) (GDelay.mk 0 0 0 0 false)).Wet) ((O.lget a1.Combs (O.toN p9) (GDelay.mk 0 0 0 0 false)).Flush)) (O.lget p7 (O.nadd 0 (O.toN p9)) []) (O.lget a3 (O.toN p22) 0)).bind fun (v5, v6) =>
      gd (O.pIdx p9 (O.llen p7)) <|
      gd (O.pNlt (O.nadd 0 (O.toN p9)) (O.llen p7)) <|
      gd (O.pSmall (O.nadd (O.llen p8) 1)) <|
      gd (O.pIn .i64 (O.iadd p9 1)) <|
      F_impl_Room_run_l1 O a1 a3 p22 k (O.lset p7 (O.nadd 0 (O.toN p9)) v6) (O.lapp p8 ([v5] : List Nat)) (O.iadd p9 1)) (
      some (p7, p8))

noncomputable def F_impl_Room_run_l2 (O : Ops) (a1 : GRoom) : Nat → (List (List Nat)) → Nat → Int → Option ((List (List Nat)) × Nat)
  | 0, _, _, _ => none
  | k + 1, p15, p16, p17 =>
    cond (O.ilt p17 (O.ofN (O.llen a1.Passes))) (
      gd (O.pIdx p17 (O.llen a1.Passes)) <|
      gd (O.pIn .i64 (O.iadd (O.ofN (O.llen a1.Combs)) p17)) <|
      gd (O.pIdx (O.iadd (O.ofN (O.llen a1.Combs)) p17) (O.llen p15)) <|
      gd (O.pNlt (O.nadd 0 (O.toN (O.iadd (O.ofN (O.llen a1.Combs)) p17))) (O.llen p15)) <|
      (F_impl_Pass_step O (GPass.mk ((O.lget a1.Passes (O.toN p17) (GPass.mk 0 0)).Length) ((O.lget a1.Passes (O.toN p17) (GPass.mk 0 0)).Gain)) (O.lget p15 (O.nadd 0 (O.toN (O.iadd (O.ofN (O.llen a1.Combs)) p17))) []) p16).bind fun (v13, v14) =>
      gd (O.pIdx (O.iadd (O.ofN (O.llen a1.Combs)) p17) (O.llen p15)) <|
      gd (O.pNlt (O.nadd 0 (O.toN (O.iadd (O.ofN (O.llen a1.Combs)) p17))) (O.llen p15)) <|
      gd (O.pIn .i64 (O.iadd p17 1)) <|
      F_impl_Room_run_l2 O a1 k (O.lset p15 (O.nadd 0 (O.toN (O.iadd (O.ofN (O.llen a1.Combs)) p17))) v14) v13 (O.iadd p17 1)) (
      some (p15, p16))

noncomputable def F_impl_Room_run_l3 (O : Ops) (a1 : GRoom) (a3 : (List Nat)) : Nat → (List (List Nat)) → (List Nat) → Int → Option ((List (List Nat)) × (List Nat))
  | 0, _, _, _ => none
  | k + 1, p20, p21, p22 =>
    cond (O.ilt p22 (O.ofN (O.llen a3))) (
      gd (O.pIdx p22 (O.llen a3)) <|
      (F_impl_Room_run_l1 O a1 a3 p22 KK p20 ([] : List Nat) 0).bind fun (p10, p11) =>
      (F_impl_sumOf O p11).bind fun v12 =>
      (F_impl_Room_run_l2 O a1 KK p10 v12 0).bind fun (p18, p19) =>
      gd (O.pSmall (O.nadd (O.llen p21) 1)) <|
      gd (O.pIn .i64 (O.iadd p22 1)) <|
      F_impl_Room_run_l3 O a1 a3 k p18 (O.lapp p21 ([(O.fop .add .f32 (O.fop .mul .f32 a1.Dry (O.lget a3 (O.toN p22) 0)) (O.fop .mul .f32 a1.Wet p19))] : List Nat)) (O.iadd p22 1)) (
      some (p20, p21))

/-- (loop.example/g01170/impl.Room).run -/
noncomputable def F_impl_Room_run (O : Ops) (a1 : GRoom) (a2 : (List (List Nat))) (a3 : (List Nat)) : Option ((List Nat) × (List (List Nat))) :=
  (F_impl_Room_run_l0 O a2 KK ([] : List (List Nat)) 0).bind fun p4 =>
  (F_impl_Room_run_l3 O a1 a3 KK p4 ([] : List Nat) 0).bind fun (p23, p24) =>
  some (p24, p23)

/-- loop.example/g01170/impl.RunRoom -/
noncomputable def F_impl_RunRoom (O : Ops) (a1 : GRoom) (a2 : (List (List Nat))) (a3 : (List Nat)) : Option ((List Nat) × (List (List Nat)) × Bool) :=
  (F_impl_ValidRoom O a1).bind fun v1 =>
  cond (!v1) (
    some (([] : List Nat), ([] : List (List Nat)), false)) (
    (F_impl_areSamples O a3).bind fun v2 =>
    cond (!v2) (
      some (([] : List Nat), ([] : List (List Nat)), false)) (
      (F_impl_Room_areLines O a1 a2).bind fun v3 =>
      cond (!v3) (
        some (([] : List Nat), ([] : List (List Nat)), false)) (
        (F_impl_Room_run O a1 a2 a3).bind fun (v4, v5) =>
        some (v4, v5, true))))

/-- loop.example/g01170/impl.AnswerOf -/
noncomputable def F_impl_AnswerOf (O : Ops) (a1 : GRoom) (a2 : Int) : Option ((List Nat) × Bool) :=
  (F_impl_ValidRoom O a1).bind fun v1 =>
  cond (!v1) (
    some (([] : List Nat), false)) (
    (F_impl_within O a2 1 256).bind fun v2 =>
    cond (!v2) (
      some (([] : List Nat), false)) (
      (F_impl_Room_empty O a1).bind fun v3 =>
      (F_impl_impulse O a2).bind fun v4 =>
      (F_impl_Room_run O a1 v3 v4).bind fun (v5, v6) =>
      some (v5, true)))

/-- loop.example/g01170/spec.IsFinite -/
noncomputable def F_spec_IsFinite (O : Ops) (a1 : Nat) : Option Bool :=
  (F_spec_l01Finite O a1).bind fun v1 =>
  some v1

noncomputable def F_laws_FnRooms_l0 (O : Ops) (v9 : (List (List Nat))) (v15 : (List (List Nat))) : Nat → Int → Option (Sum Unit Unit)
  | 0, _ => none
  | k + 1, p20 =>
    cond (O.ilt p20 (O.ofN (O.llen v9))) (
      gd (O.pIdx p20 (O.llen v9)) <|
      gd (O.pNlt (O.nadd 0 (O.toN p20)) (O.llen v9)) <|
      gd (O.pIdx p20 (O.llen v15)) <|
      gd (O.pNlt (O.nadd 0 (O.toN p20)) (O.llen v15)) <|
      (F_laws_b10Same O (O.lget v9 (O.nadd 0 (O.toN p20)) []) (O.lget v15 (O.nadd 0 (O.toN p20)) [])).bind fun v19 =>
      cond (!v19) (
        some (.inl ())) (
        gd (O.pIn .i64 (O.iadd p20 1)) <|
        F_laws_FnRooms_l0 O v9 v15 k (O.iadd p20 1))) (
      some (.inr ()))

noncomputable def F_laws_FnRooms_l1 (O : Ops) (v4 : (List Nat)) (v29 : (List Nat)) (v32 : (List Nat)) : Nat → Int → Option (Sum Unit Unit)
  | 0, _ => none
  | k + 1, p36 =>
    cond (O.ilt p36 (O.ofN (O.llen v29))) (
      gd (O.pIdx p36 (O.llen v4)) <|
      gd (O.pNlt (O.nadd 0 (O.toN p36)) (O.llen v4)) <|
      (F_spec_IsFinite O (O.lget v4 (O.nadd 0 (O.toN p36)) 0)).bind fun v35 =>
      cond v35 (
        gd (O.pIdx p36 (O.llen v29)) <|
        gd (O.pNlt (O.nadd 0 (O.toN p36)) (O.llen v29)) <|
        gd (O.pIdx p36 (O.llen v32)) <|
        gd (O.pNlt (O.nadd 0 (O.toN p36)) (O.llen v32)) <|
        cond (O.fcmp .eql .f32 (O.lget v29 (O.nadd 0 (O.toN p36)) 0) (O.lget v32 (O.nadd 0 (O.toN p36)) 0)) (
          gd (O.pIn .i64 (O.iadd p36 1)) <|
          F_laws_FnRooms_l1 O v4 v29 v32 k (O.iadd p36 1)) (
          gd (O.pIdx p36 (O.llen v29)) <|
          gd (O.pNlt (O.nadd 0 (O.toN p36)) (O.llen v29)) <|
          gd (O.pIdx p36 (O.llen v29)) <|
          gd (O.pNlt (O.nadd 0 (O.toN p36)) (O.llen v29)) <|
          cond (O.fcmp .neq .f32 (O.lget v29 (O.nadd 0 (O.toN p36)) 0) (O.lget v29 (O.nadd 0 (O.toN p36)) 0)) (
            gd (O.pIdx p36 (O.llen v32)) <|
            gd (O.pNlt (O.nadd 0 (O.toN p36)) (O.llen v32)) <|
            gd (O.pIdx p36 (O.llen v32)) <|
            gd (O.pNlt (O.nadd 0 (O.toN p36)) (O.llen v32)) <|
            cond (!(O.fcmp .neq .f32 (O.lget v32 (O.nadd 0 (O.toN p36)) 0) (O.lget v32 (O.nadd 0 (O.toN p36)) 0))) (
              some (.inl ())) (
              gd (O.pIn .i64 (O.iadd p36 1)) <|
              F_laws_FnRooms_l1 O v4 v29 v32 k (O.iadd p36 1))) (
            some (.inl ())))) (
        gd (O.pIn .i64 (O.iadd p36 1)) <|
        F_laws_FnRooms_l1 O v4 v29 v32 k (O.iadd p36 1))) (
      some (.inr ()))

/-- loop.example/g01170/laws.FnRooms -/
noncomputable def F_laws_FnRooms (O : Ops) (a1 : (List Int)) (a2 : (List Int)) : Option Bool :=
  (F_laws_b10Long O a1 a2).bind fun v1 =>
  cond v1 (
    some true) (
    (F_spec_B10Room O a1).bind fun v2 =>
    (F_laws_b10At O a2 0 20).bind fun v3 =>
    gd (O.pIn .i64 (O.iadd 1 v3)) <|
    (F_spec_B10Numbers O a2 (O.iadd 1 v3)).bind fun v4 =>
    gd (O.pIn .i64 (O.iadd (O.iadd 1 v3) 1)) <|
    (F_laws_b10At O a2 1 (O.iadd (O.iadd 1 v3) 1)).bind fun v5 =>
    (F_impl_EmptyRoom O v2).bind fun (v6, v7) =>
    (F_impl_RunRoom O v2 v6 v4).bind fun (v8, v9, v10) =>
    gd (O.pLe 0 v5) <|
    gd (O.pNle (O.toN v5) (O.llen v4)) <|
    (F_impl_RunRoom O v2 v6 (O.lsub v4 (O.nadd 0 0) (O.nadd (O.nadd 0 0) (O.nsub (O.toN v5) 0)))).bind fun (v11, v12, v13) =>
    gd (O.pLe 0 v5) <|
    gd (O.pNle (O.toN v5) (O.llen v4)) <|
    (F_impl_RunRoom O v2 v12 (O.lsub v4 (O.nadd 0 (O.toN v5)) (O.nadd (O.nadd 0 (O.toN v5)) (O.nsub (O.llen v4) (O.toN v5))))).bind fun (v14, v15, v16) =>
    cond (!v7) (
      some false) (
      cond (!v10) (
        some false) (
        cond (!v13) (
          some false) (
          cond (!v16) (
            some false) (
            (F_impl_ValidRoom O v2).bind fun v17 =>
            cond (!v17) (
              some false) (
              gd (O.pSmall (O.nadd 0 (O.llen v11))) <|
              gd (O.pSmall (O.nadd (O.nadd 0 (O.llen v11)) (O.llen v14))) <|
              (F_laws_b10Same O (O.lapp (O.lapp ([] : List Nat) v11) v14) v8).bind fun v18 =>
              cond (!v18) (
                some false) (
                cond (!(O.ieq (O.ofN (O.llen v9)) (O.ofN (O.llen v15)))) (
                  some false) (
                  (F_laws_FnRooms_l0 O v9 v15 KK 0).bind fun z => match z with
                  | (.inl ()) =>
                    some false
                  | (.inr ()) =>
                    gd (O.pLe 0 (O.iadd 1 v3)) <|
                    gd (O.pLe (O.iadd 1 v3) (O.iadd 1 v3)) <|
                    gd (O.pSmall (O.toN (O.iadd 1 v3))) <|
                    gd (O.pIdx 0 (O.toN (O.iadd 1 v3))) <|
                    gd (O.pNlt (O.nadd 0 (O.toN 0)) (O.toN (O.iadd 1 v3))) <|
                    (F_impl_AnswerOf O v2 (O.iadd 1 v3)).bind fun (v21, v22) =>
                    (F_impl_RunRoom O v2 v6 (O.lset (O.lrep (O.toN (O.iadd 1 v3)) 0) (O.nadd 0 (O.toN 0)) 1065353216)).bind fun (v23, v24, v25) =>
                    cond (!v22) (
                      some false) (
                      cond (!v25) (
                        some false) (
                        (F_laws_b10Same O v21 v23).bind fun v26 =>
                        cond (!v26) (
                          some false) (
                          gd (O.pLe 0 1) <|
                          gd (O.pNle (O.toN 1) (O.llen v2.Combs)) <|
                          gd (O.pIdx 0 (O.llen v2.Combs)) <|
                          (F_impl_EmptyLine O ((O.lget v2.Combs (O.toN 0) (GDelay.mk 0 0 0 0 false)).Length)).bind fun (v27, v28) =>
                          (F_impl_RunRoom O (GRoom.mk (O.lsub v2.Combs 0 (O.toN 1)) ([] : List GPass) 0 1065353216) ([v27] : List (List Nat)) v4).bind fun (v29, v30, v31) =>
                          gd (O.pIdx 0 (O.llen v2.Combs)) <|
                          (F_impl_RunDelay O (GDelay.mk ((O.lget v2.Combs (O.toN 0) (GDelay.mk 0 0 0 0 false)).Length) ((O.lget v2.Combs (O.toN 0) (GDelay.mk 0 0 0 0 false)).Feedback) ((O.lget v2.Combs (O.toN 0) (GDelay.mk 0 0 0 0 false)).Dry) ((O.lget v2.Combs (O.toN 0) (GDelay.mk 0 0 0 0 false)).Wet) ((O.lget v2.Combs (O.toN 0) (GDelay.mk 0 0 0 0 false)).Flush)) v27 v4).bind fun (v32, v33, v34) =>
                          cond (!v28) (
                            some false) (
                            cond (!v31) (
                              some false) (
                              cond (!v34) (
                                some false) (
                                cond (!(O.ieq (O.ofN (O.llen v29)) (O.ofN (O.llen v32)))) (
                                  some false) (
                                  (F_laws_FnRooms_l1 O v4 v29 v32 KK 0).bind fun z => match z with
                                  | (.inl ()) =>
                                    some false
                                  | (.inr ()) =>
                                    some true)))))))))))))))

noncomputable def F_spec_B10Tracks_l0 (O : Ops) : Nat → (List GTrack) → Int → (List Int) → Int → Int → Option (List GTrack)
  | 0, _, _, _, _, _ => none
  | k + 1, p16, p17, p18, p19, p20 =>
    cond (O.ilt 0 p17) (
      (F_spec_l00Src_pick O (Gl00Src.mk p18 p19 p20) 9).bind fun (v4, v5) =>
      (F_spec_l01DrawFloats O v5 v4).bind fun (v6, v7) =>
      (F_spec_l00Src_one O v7 5).bind fun (v8, v9) =>
      (F_spec_l00Src_one O v9 6).bind fun (v10, v11) =>
      (F_spec_l00Src_pick O v11 300).bind fun (v12, v13) =>
      gd (O.pIn .i64 (O.isub v12 240)) <|
      (F_spec_l00Src_pick O v13 17).bind fun (v14, v15) =>
      gd (O.pSmall (O.nadd (O.llen p16) 1)) <|
      gd (O.pIn .i64 (O.isub p17 1)) <|
      F_spec_B10Tracks_l0 O k (O.lapp p16 ([(GTrack.mk v6 (O.isub v12 240) (O.fop .quo .f32 (O.fofI .f32 v14) 1098907648) v8 v10)] : List GTrack)) (O.isub p17 1) v15.code v15.pos v15.seed) (
      some p16)

/-- loop.example/g01170/spec.B10Tracks -/
noncomputable def F_spec_B10Tracks (O : Ops) (a1 : (List Int)) : Option (List GTrack) :=
  (F_spec_l00From O a1).bind fun v1 =>
  (F_spec_l00Src_pick O v1 5).bind fun (v2, v3) =>
  (F_spec_B10Tracks_l0 O KK ([] : List GTrack) v2 v3.code v3.pos v3.seed).bind fun p21 =>
  some p21

/-- loop.example/g01170/impl.isPan -/
noncomputable def F_impl_isPan (O : Ops) (a1 : Nat) : Option Bool :=
  cond (O.fcmp .geq .f32 a1 0) (
    some (O.fcmp .leq .f32 a1 1065353216)) (
    some false)

noncomputable def F_impl_AreTracks_l0 (O : Ops) (a1 : (List GTrack)) : Nat → Int → Option (Sum Unit Unit)
  | 0, _ => none
  | k + 1, p4 =>
    cond (O.ilt p4 (O.ofN (O.llen a1))) (
      gd (O.pIdx p4 (O.llen a1)) <|
      (F_impl_areSamples O ((O.lget a1 (O.toN p4) (GTrack.mk [] 0 0 false false)).Samples)).bind fun v1 =>
      cond (!v1) (
        some (.inl ())) (
        (F_impl_isTenths O ((O.lget a1 (O.toN p4) (GTrack.mk [] 0 0 false false)).Tenths)).bind fun v2 =>
        cond (!v2) (
          some (.inl ())) (
          (F_impl_isPan O ((O.lget a1 (O.toN p4) (GTrack.mk [] 0 0 false false)).Pan)).bind fun v3 =>
          cond (!v3) (
            some (.inl ())) (
            gd (O.pIn .i64 (O.iadd p4 1)) <|
            F_impl_AreTracks_l0 O a1 k (O.iadd p4 1))))) (
      some (.inr ()))

/-- loop.example/g01170/impl.AreTracks -/
noncomputable def F_impl_AreTracks (O : Ops) (a1 : (List GTrack)) : Option Bool :=
  cond (O.ilt 8 (O.ofN (O.llen a1))) (
    some false) (
    (F_impl_AreTracks_l0 O a1 KK 0).bind fun z => match z with
    | (.inl ()) =>
      some false
    | (.inr ()) =>
      some true)

/-- loop.example/g01170/impl.PanOf -/
noncomputable def F_impl_PanOf (O : Ops) (a1 : Nat) : Option (Nat × Nat × Bool) :=
  (F_impl_isPan O a1).bind fun v1 =>
  cond (!v1) (
    some (0, 0, false)) (
    (F_impl_SineTurns O (O.fop .quo .f32 (O.fop .sub .f32 1065353216 a1) 1082130432)).bind fun v2 =>
    (F_impl_SineTurns O (O.fop .quo .f32 a1 1082130432)).bind fun v3 =>
    some (v2, v3, true))

noncomputable def F_slices_Index_bool_bool_l0 (O : Ops) (a1 : (List Bool)) (a2 : Bool) : Nat → Int → Option (Sum Int Unit)
  | 0, _ => none
  | k + 1, p1 =>
    cond (O.ilt p1 (O.ofN (O.llen a1))) (
      gd (O.pIdx p1 (O.llen a1)) <|
      cond (O.beq a2 (O.lget a1 (O.toN p1) false)) (
        some (.inl p1)) (
        gd (O.pIn .i64 (O.iadd p1 1)) <|
        F_slices_Index_bool_bool_l0 O a1 a2 k (O.iadd p1 1))) (
      some (.inr ()))

/-- slices.Index[[]bool,bool] -/
noncomputable def F_slices_Index_bool_bool (O : Ops) (a1 : (List Bool)) (a2 : Bool) : Option Int :=
  (F_slices_Index_bool_bool_l0 O a1 a2 KK 0).bind fun z => match z with
  | (.inl p2) =>
    some p2
  | (.inr ()) =>
    some (-1)

/-- slices.Contains[[]bool,bool] -/
noncomputable def F_slices_Contains_bool_bool (O : Ops) (a1 : (List Bool)) (a2 : Bool) : Option Bool :=
  (F_slices_Index_bool_bool O a1 a2).bind fun v1 =>
  some (O.ile 0 v1)

noncomputable def F_impl_heard_l0 (O : Ops) (a1 : (List Bool)) (a2 : (List Bool)) (v1 : Bool) : Nat → (List Bool) → Int → Option (List Bool)
  | 0, _, _ => none
  | k + 1, p2, p3 =>
    cond (O.ilt p3 (O.ofN (O.llen a1))) (
      gd (O.pIdx p3 (O.llen a1)) <|
      cond (!(O.lget a1 (O.toN p3) false)) (
        gd (O.pIdx p3 (O.llen a2)) <|
        cond (O.lget a2 (O.toN p3) false) (
          gd (O.pSmall (O.nadd (O.llen p2) 1)) <|
          gd (O.pIn .i64 (O.iadd p3 1)) <|
          F_impl_heard_l0 O a1 a2 v1 k (O.lapp p2 ([true] : List Bool)) (O.iadd p3 1)) (
          gd (O.pSmall (O.nadd (O.llen p2) 1)) <|
          gd (O.pIn .i64 (O.iadd p3 1)) <|
          F_impl_heard_l0 O a1 a2 v1 k (O.lapp p2 ([(!v1)] : List Bool)) (O.iadd p3 1))) (
        gd (O.pSmall (O.nadd (O.llen p2) 1)) <|
        gd (O.pIn .i64 (O.iadd p3 1)) <|
        F_impl_heard_l0 O a1 a2 v1 k (O.lapp p2 ([false] : List Bool)) (O.iadd p3 1))) (
      some p2)

/-- loop.example/g01170/impl.heard -/
noncomputable def F_impl_heard (O : Ops) (a1 : (List Bool)) (a2 : (List Bool)) : Option (List Bool) :=
  (F_slices_Contains_bool_bool O a2 true).bind fun v1 =>
  (F_impl_heard_l0 O a1 a2 v1 KK ([] : List Bool) 0).bind fun p4 =>
  some p4

noncomputable def F_impl_heardTracks_l0 (O : Ops) (a1 : (List GTrack)) : Nat → (List Bool) → (List Bool) → Int → Option ((List Bool) × (List Bool))
  | 0, _, _, _ => none
  | k + 1, p1, p2, p3 =>
    cond (O.ilt p3 (O.ofN (O.llen a1))) (
      gd (O.pIdx p3 (O.llen a1)) <|
      gd (O.pSmall (O.nadd (O.llen p1) 1)) <|
      gd (O.pSmall (O.nadd (O.llen p2) 1)) <|
      gd (O.pIn .i64 (O.iadd p3 1)) <|
      F_impl_heardTracks_l0 O a1 k (O.lapp p1 ([((O.lget a1 (O.toN p3) (GTrack.mk [] 0 0 false false)).Mute)] : List Bool)) (O.lapp p2 ([((O.lget a1 (O.toN p3) (GTrack.mk [] 0 0 false false)).Solo)] : List Bool)) (O.iadd p3 1)) (
      some (p1, p2))

/-- loop.example/g01170/impl.heardTracks -/
noncomputable def F_impl_heardTracks (O : Ops) (a1 : (List GTrack)) : Option (List Bool) :=
  (F_impl_heardTracks_l0 O a1 KK ([] : List Bool) ([] : List Bool) 0).bind fun (p4, p5) =>
  (F_impl_heard O p4 p5).bind fun v6 =>
  some v6

noncomputable def F_impl_mixTracks_l0 (O : Ops) (a1 : (List GTrack)) (a2 : Int) (p15 : Int) (v4 : Nat) (v6 : Nat) (v7 : Nat) (v9 : Int) : Nat → (List Nat) → (List Nat) → Int → Option ((List Nat) × (List Nat))
  | 0, _, _, _ => none
  | k + 1, p10, p11, p12 =>
    cond (O.ilt p12 (O.ofN (O.nsub (O.toN (O.imin a2 v9)) 0))) (
      gd (O.pIdx p12 (O.llen (O.lsub ((O.lget a1 (O.toN p15) (GTrack.mk [] 0 0 false false)).Samples) 0 (O.toN (O.imin a2 v9))))) <|
      gd (O.pIdx p12 (O.llen p10)) <|
      gd (O.pNlt (O.nadd 0 (O.toN p12)) (O.llen p10)) <|
      gd (O.pIdx p12 (O.llen p10)) <|
      gd (O.pNlt (O.nadd 0 (O.toN p12)) (O.llen p10)) <|
      gd (O.pIdx p12 (O.llen p11)) <|
      gd (O.pNlt (O.nadd 0 (O.toN p12)) (O.llen p11)) <|
      gd (O.pIdx p12 (O.llen p11)) <|
      gd (O.pNlt (O.nadd 0 (O.toN p12)) (O.llen p11)) <|
      gd (O.pIn .i64 (O.iadd p12 1)) <|
      F_impl_mixTracks_l0 O a1 a2 p15 v4 v6 v7 v9 k (O.lset p10 (O.nadd 0 (O.toN p12)) (O.fop .add .f32 (O.lget p10 (O.nadd 0 (O.toN p12)) 0) (O.fop .mul .f32 (O.fop .mul .f32 (O.lget (O.lsub ((O.lget a1 (O.toN p15) (GTrack.mk [] 0 0 false false)).Samples) 0 (O.toN (O.imin a2 v9))) (O.toN p12) 0) v4) v6))) (O.lset p11 (O.nadd 0 (O.toN p12)) (O.fop .add .f32 (O.lget p11 (O.nadd 0 (O.toN p12)) 0) (O.fop .mul .f32 (O.fop .mul .f32 (O.lget (O.lsub ((O.lget a1 (O.toN p15) (GTrack.mk [] 0 0 false false)).Samples) 0 (O.toN (O.imin a2 v9))) (O.toN p12) 0) v4) v7))) (O.iadd p12 1)) (
      some (p10, p11))

noncomputable def F_impl_mixTracks_l1 (O : Ops) (a1 : (List GTrack)) (a2 : Int) (v3 : (List Bool)) : Nat → Int → (List Nat) → (List Nat) → Option ((List Nat) × (List Nat))
  | 0, _, _, _ => none
  | k + 1, p15, p16, p17 =>
    cond (O.ilt p15 (O.ofN (O.llen a1))) (
      gd (O.pIdx p15 (O.llen a1)) <|
      gd (O.pIdx p15 (O.llen v3)) <|
      gd (O.pNlt (O.nadd 0 (O.toN p15)) (O.llen v3)) <|
      cond (!(O.lget v3 (O.nadd 0 (O.toN p15)) false)) (
        gd (O.pIn .i64 (O.iadd p15 1)) <|
        F_impl_mixTracks_l1 O a1 a2 v3 k (O.iadd p15 1) p16 p17) (
        (F_impl_GainOf O ((O.lget a1 (O.toN p15) (GTrack.mk [] 0 0 false false)).Tenths)).bind fun (v4, v5) =>
        (F_impl_PanOf O ((O.lget a1 (O.toN p15) (GTrack.mk [] 0 0 false false)).Pan)).bind fun (v6, v7, v8) =>
        (F_impl_size O (O.ofN (O.llen ((O.lget a1 (O.toN p15) (GTrack.mk [] 0 0 false false)).Samples)))).bind fun v9 =>
        gd (O.pLe 0 (O.imin a2 v9)) <|
        gd (O.pNle (O.toN (O.imin a2 v9)) (O.llen ((O.lget a1 (O.toN p15) (GTrack.mk [] 0 0 false false)).Samples))) <|
        (F_impl_mixTracks_l0 O a1 a2 p15 v4 v6 v7 v9 KK p16 p17 0).bind fun (p13, p14) =>
        gd (O.pIn .i64 (O.iadd p15 1)) <|
        F_impl_mixTracks_l1 O a1 a2 v3 k (O.iadd p15 1) p13 p14)) (
      some (p16, p17))

/-- loop.example/g01170/impl.mixTracks -/
noncomputable def F_impl_mixTracks (O : Ops) (a1 : (List GTrack)) (a2 : Int) : Option ((List Nat) × (List Nat)) :=
  (F_impl_zeros O a2).bind fun v1 =>
  (F_impl_zeros O a2).bind fun v2 =>
  (F_impl_heardTracks O a1).bind fun v3 =>
  (F_impl_mixTracks_l1 O a1 a2 v3 KK 0 v1 v2).bind fun (p18, p19) =>
  some (p18, p19)

/-- loop.example/g01170/impl.MixTracks -/
noncomputable def F_impl_MixTracks (O : Ops) (a1 : (List GTrack)) (a2 : Int) : Option ((List Nat) × (List Nat) × Bool) :=
  (F_impl_AreTracks O a1).bind fun v1 =>
  cond (!v1) (
    some (([] : List Nat), ([] : List Nat), false)) (
    (F_impl_isCount O a2).bind fun v2 =>
    cond (!v2) (
      some (([] : List Nat), ([] : List Nat), false)) (
      (F_impl_mixTracks O a1 a2).bind fun (v3, v4) =>
      some (v3, v4, true)))

noncomputable def F_impl_HeardTracks_l0 (O : Ops) (v2 : (List Bool)) : Nat → (List Int) → Int → Option (List Int)
  | 0, _, _ => none
  | k + 1, p3, p4 =>
    cond (O.ilt p4 (O.ofN (O.llen v2))) (
      gd (O.pIdx p4 (O.llen v2)) <|
      gd (O.pNlt (O.nadd 0 (O.toN p4)) (O.llen v2)) <|
      cond (O.lget v2 (O.nadd 0 (O.toN p4)) false) (
        gd (O.pSmall (O.nadd (O.llen p3) 1)) <|
        gd (O.pIn .i64 (O.iadd p4 1)) <|
        F_impl_HeardTracks_l0 O v2 k (O.lapp p3 ([p4] : List Int)) (O.iadd p4 1)) (
        gd (O.pIn .i64 (O.iadd p4 1)) <|
        F_impl_HeardTracks_l0 O v2 k p3 (O.iadd p4 1))) (
      some p3)

/-- loop.example/g01170/impl.HeardTracks -/
noncomputable def F_impl_HeardTracks (O : Ops) (a1 : (List GTrack)) : Option ((List Int) × Bool) :=
  (F_impl_AreTracks O a1).bind fun v1 =>
  cond (!v1) (
    some (([] : List Int), false)) (
    (F_impl_heardTracks O a1).bind fun v2 =>
    (F_impl_HeardTracks_l0 O v2 KK ([] : List Int) 0).bind fun p5 =>
    some (p5, true))

noncomputable def F_impl_LeftAndRight_l0 (O : Ops) (a1 : (List Nat)) (a2 : (List Nat)) : Nat → (List Nat) → (List Nat) → Int → Option ((List Nat) × (List Nat))
  | 0, _, _, _ => none
  | k + 1, p2, p3, p4 =>
    cond (O.ilt p4 (O.ofN (O.llen a1))) (
      gd (O.pIdx p4 (O.llen a1)) <|
      gd (O.pIdx p4 (O.llen a2)) <|
      gd (O.pSmall (O.nadd (O.llen p2) 1)) <|
      gd (O.pIdx p4 (O.llen a2)) <|
      gd (O.pSmall (O.nadd (O.llen p3) 1)) <|
      gd (O.pIn .i64 (O.iadd p4 1)) <|
      F_impl_LeftAndRight_l0 O a1 a2 k (O.lapp p2 ([(O.fop .add .f32 (O.lget a1 (O.toN p4) 0) (O.lget a2 (O.toN p4) 0))] : List Nat)) (O.lapp p3 ([(O.fop .sub .f32 (O.lget a1 (O.toN p4) 0) (O.lget a2 (O.toN p4) 0))] : List Nat)) (O.iadd p4 1)) (
      some (p2, p3))

/-- loop.example/g01170/impl.LeftAndRight -/
noncomputable def F_impl_LeftAndRight (O : Ops) (a1 : (List Nat)) (a2 : (List Nat)) : Option ((List Nat) × (List Nat) × Bool) :=
  (F_impl_areSamples O a1).bind fun v1 =>
  cond (!v1) (
    some (([] : List Nat), ([] : List Nat), false)) (
    cond (!(O.ieq (O.ofN (O.llen a2)) (O.ofN (O.llen a1)))) (
      some (([] : List Nat), ([] : List Nat), false)) (
      (F_impl_LeftAndRight_l0 O a1 a2 KK ([] : List Nat) ([] : List Nat) 0).bind fun (p5, p6) =>
      some (p5, p6, true)))

noncomputable def F_impl_scaled_l0 (O : Ops) (a1 : (List Nat)) (a2 : Nat) : Nat → (List Nat) → Int → Option (List Nat)
  | 0, _, _ => none
  | k + 1, p1, p2 =>
    cond (O.ilt p2 (O.ofN (O.llen a1))) (
      gd (O.pIdx p2 (O.llen a1)) <|
      gd (O.pSmall (O.nadd (O.llen p1) 1)) <|
      gd (O.pIn .i64 (O.iadd p2 1)) <|
      F_impl_scaled_l0 O a1 a2 k (O.lapp p1 ([(O.fop .mul .f32 (O.lget a1 (O.toN p2) 0) a2)] : List Nat)) (O.iadd p2 1)) (
      some p1)

/-- loop.example/g01170/impl.scaled -/
noncomputable def F_impl_scaled (O : Ops) (a1 : (List Nat)) (a2 : Nat) : Option (List Nat) :=
  (F_impl_scaled_l0 O a1 a2 KK ([] : List Nat) 0).bind fun p3 =>
  some p3

/-- loop.example/g01170/impl.MiddleAndSide -/
noncomputable def F_impl_MiddleAndSide (O : Ops) (a1 : (List Nat)) (a2 : (List Nat)) : Option ((List Nat) × (List Nat) × Bool) :=
  (F_impl_LeftAndRight O a1 a2).bind fun (v1, v2, v3) =>
  cond (!v3) (
    some (([] : List Nat), ([] : List Nat), false)) (
    (F_impl_scaled O v1 1056964608).bind fun v4 =>
    (F_impl_scaled O v2 1056964608).bind fun v5 =>
    some (v4, v5, true))

noncomputable def F_laws_FnTracks_l0 (O : Ops) (v2 : (List GTrack)) (v3 : Int) (v7 : (List Int)) (p24 : Int) (v10 : Nat) (v12 : Nat) (v13 : Nat) : Nat → (List Nat) → (List Nat) → Int → Option ((List Nat) × (List Nat))
  | 0, _, _, _ => none
  | k + 1, p16, p17, p18 =>
    cond (O.ilt p18 v3) (
      cond (O.ilt p18 (O.ofN (O.llen ((O.lget v2 (O.nadd 0 (O.toN (O.lget v7 (O.nadd 0 (O.toN p24)) 0))) (GTrack.mk [] 0 0 false false)).Samples)))) (
        gd (O.pIdx p18 (O.llen ((O.lget v2 (O.nadd 0 (O.toN (O.lget v7 (O.nadd 0 (O.toN p24)) 0))) (GTrack.mk [] 0 0 false false)).Samples))) <|
        gd (O.pIdx p18 (O.llen p16)) <|
        gd (O.pNlt (O.nadd 0 (O.toN p18)) (O.llen p16)) <|
        gd (O.pIdx p18 (O.llen p16)) <|
        gd (O.pNlt (O.nadd 0 (O.toN p18)) (O.llen p16)) <|
        gd (O.pIdx p18 (O.llen p17)) <|
        gd (O.pNlt (O.nadd 0 (O.toN p18)) (O.llen p17)) <|
        gd (O.pIdx p18 (O.llen p17)) <|
        gd (O.pNlt (O.nadd 0 (O.toN p18)) (O.llen p17)) <|
        gd (O.pIn .i64 (O.iadd p18 1)) <|
        F_laws_FnTracks_l0 O v2 v3 v7 p24 v10 v12 v13 k (O.lset p16 (O.nadd 0 (O.toN p18)) (O.fop .add .f32 (O.lget p16 (O.nadd 0 (O.toN p18)) 0) (O.fop .mul .f32 (O.fop .mul .f32 (O.lget ((O.lget v2 (O.nadd 0 (O.toN (O.lget v7 (O.nadd 0 (O.toN p24)) 0))) (GTrack.mk [] 0 0 false false)).Samples) (O.toN p18) 0) v10) v12))) (O.lset p17 (O.nadd 0 (O.toN p18)) (O.fop .add .f32 (O.lget p17 (O.nadd 0 (O.toN p18)) 0) (O.fop .mul .f32 (O.fop .mul .f32 (O.lget ((O.lget v2 (O.nadd 0 (O.toN (O.lget v7 (O.nadd 0 (O.toN p24)) 0))) (GTrack.mk [] 0 0 false false)).Samples) (O.toN p18) 0) v10) v13))) (O.iadd p18 1)) (
        some (p16, p17))) (
      some (p16, p17))

noncomputable def F_laws_FnTracks_l1 (O : Ops) (v2 : (List GTrack)) (v3 : Int) (v7 : (List Int)) : Nat → (List Nat) → (List Nat) → (List GTrack) → Int → Option (Sum Unit ((List Nat) × (List Nat) × (List GTrack)))
  | 0, _, _, _, _ => none
  | k + 1, p21, p22, p23, p24 =>
    cond (O.ilt p24 (O.ofN (O.llen v7))) (
      gd (O.pIdx p24 (O.llen v7)) <|
      gd (O.pNlt (O.nadd 0 (O.toN p24)) (O.llen v7)) <|
      cond (O.ilt (O.lget v7 (O.nadd 0 (O.toN p24)) 0) 0) (
        some (.inl ())) (
        gd (O.pIdx p24 (O.llen v7)) <|
        gd (O.pNlt (O.nadd 0 (O.toN p24)) (O.llen v7)) <|
        cond (O.ile (O.ofN (O.llen v2)) (O.lget v7 (O.nadd 0 (O.toN p24)) 0)) (
          some (.inl ())) (
          gd (O.pIdx p24 (O.llen v7)) <|
          gd (O.pNlt (O.nadd 0 (O.toN p24)) (O.llen v7)) <|
          gd (O.pIdx (O.lget v7 (O.nadd 0 (O.toN p24)) 0) (O.llen v2)) <|
          gd (O.pNlt (O.nadd 0 (O.toN (O.lget v7 (O.nadd 0 (O.toN p24)) 0))) (O.llen v2)) <|
          (F_impl_GainOf O ((O.lget v2 (O.nadd 0 (O.toN (O.lget v7 (O.nadd 0 (O.toN p24)) 0))) (GTrack.mk [] 0 0 false false)).Tenths)).bind fun (v10, v11) =>
          (F_impl_PanOf O ((O.lget v2 (O.nadd 0 (O.toN (O.lget v7 (O.nadd 0 (O.toN p24)) 0))) (GTrack.mk [] 0 0 false false)).Pan)).bind fun (v12, v13, v14) =>
          cond (!v11) (
            some (.inl ())) (
            cond (!v14) (
              some (.inl ())) (
              cond ((O.lget v2 (O.nadd 0 (O.toN (O.lget v7 (O.nadd 0 (O.toN p24)) 0))) (GTrack.mk [] 0 0 false false)).Mute) (
                some (.inl ())) (
                gd (O.pConv .f32 .f64 v12) <|
                gd (O.pConv .f32 .f64 v12) <|
                gd (O.pConv .f32 .f64 v13) <|
                gd (O.pConv .f32 .f64 v13) <|
                (F_laws_b10Gap O (O.fop .add .f64 (O.fop .mul .f64 (O.fconv .f32 .f64 v12) (O.fconv .f32 .f64 v12)) (O.fop .mul .f64 (O.fconv .f32 .f64 v13) (O.fconv .f32 .f64 v13))) 4607182418800017408).bind fun v15 =>
                cond (O.fcmp .gtr .f64 v15 4547007122018943789) (
                  some (.inl ())) (
                  (F_laws_FnTracks_l0 O v2 v3 v7 p24 v10 v12 v13 KK p21 p22 0).bind fun (p19, p20) =>
                  gd (O.pSmall (O.nadd (O.llen p23) 1)) <|
                  gd (O.pIn .i64 (O.iadd p24 1)) <|
                  F_laws_FnTracks_l1 O v2 v3 v7 k p19 p20 (O.lapp p23 ([(GTrack.mk ((O.lget v2 (O.nadd 0 (O.toN (O.lget v7 (O.nadd 0 (O.toN p24)) 0))) (GTrack.mk [] 0 0 false false)).Samples) ((O.lget v2 (O.nadd 0 (O.toN (O.lget v7 (O.nadd 0 (O.toN p24)) 0))) (GTrack.mk [] 0 0 false false)).Tenths) ((O.lget v2 (O.nadd 0 (O.toN (O.lget v7 (O.nadd 0 (O.toN p24)) 0))) (GTrack.mk [] 0 0 false false)).Pan) ((O.lget v2 (O.nadd 0 (O.toN (O.lget v7 (O.nadd 0 (O.toN p24)) 0))) (GTrack.mk [] 0 0 false false)).Mute) ((O.lget v2 (O.nadd 0 (O.toN (O.lget v7 (O.nadd 0 (O.toN p24)) 0))) (GTrack.mk [] 0 0 false false)).Solo))] : List GTrack)) (O.iadd p24 1)))))))) (
      some (.inr (p21, p22, p23)))

noncomputable def F_laws_FnTracks_l2 (O : Ops) (v3 : Int) (v35 : (List Nat)) (v36 : (List Nat)) (v40 : (List Nat)) (v41 : (List Nat)) : Nat → Int → Option (Sum Unit Unit)
  | 0, _ => none
  | k + 1, p43 =>
    cond (O.ilt p43 v3) (
      gd (O.pIdx p43 (O.llen v40)) <|
      gd (O.pNlt (O.nadd 0 (O.toN p43)) (O.llen v40)) <|
      gd (O.pIdx p43 (O.llen v35)) <|
      gd (O.pNlt (O.nadd 0 (O.toN p43)) (O.llen v35)) <|
      cond (O.fcmp .neq .f32 (O.lget v40 (O.nadd 0 (O.toN p43)) 0) (O.lget v35 (O.nadd 0 (O.toN p43)) 0)) (
        some (.inl ())) (
        gd (O.pIdx p43 (O.llen v41)) <|
        gd (O.pNlt (O.nadd 0 (O.toN p43)) (O.llen v41)) <|
        gd (O.pIdx p43 (O.llen v36)) <|
        gd (O.pNlt (O.nadd 0 (O.toN p43)) (O.llen v36)) <|
        cond (O.fcmp .neq .f32 (O.lget v41 (O.nadd 0 (O.toN p43)) 0) (O.lget v36 (O.nadd 0 (O.toN p43)) 0)) (
          some (.inl ())) (
          gd (O.pIn .i64 (O.iadd p43 1)) <|
          F_laws_FnTracks_l2 O v3 v35 v36 v40 v41 k (O.iadd p43 1)))) (
      some (.inr ()))

/-- loop.example/g01170/laws.FnTracks -/
noncomputable def F_laws_FnTracks (O : Ops) (a1 : (List Int)) (a2 : (List Int)) : Option Bool :=
  (F_laws_b10Long O a1 a2).bind fun v1 =>
  cond v1 (
    some true) (
    (F_spec_B10Tracks O a1).bind fun v2 =>
    (F_laws_b10At O a2 0 12).bind fun v3 =>
    (F_impl_MixTracks O v2 v3).bind fun (v4, v5, v6) =>
    (F_impl_HeardTracks O v2).bind fun (v7, v8) =>
    cond (!v6) (
      some false) (
      cond (!v8) (
        some false) (
        cond (!(O.ieq (O.ofN (O.llen v4)) v3)) (
          some false) (
          cond (!(O.ieq (O.ofN (O.llen v5)) v3)) (
            some false) (
            (F_impl_AreTracks O v2).bind fun v9 =>
            cond (!v9) (
              some false) (
              gd (O.pLe 0 v3) <|
              gd (O.pLe v3 v3) <|
              gd (O.pSmall (O.toN v3)) <|
              gd (O.pLe 0 v3) <|
              gd (O.pLe v3 v3) <|
              gd (O.pSmall (O.toN v3)) <|
              (F_laws_FnTracks_l1 O v2 v3 v7 KK (O.lrep (O.toN v3) 0) (O.lrep (O.toN v3) 0) ([] : List GTrack) 0).bind fun z => match z with
              | (.inl ()) =>
                some false
              | (.inr (p25, p26, p27)) =>
                (F_impl_MixTracks O p27 v3).bind fun (v28, v29, v30) =>
                cond (!v30) (
                  some false) (
                  (F_laws_b10Same O p25 v4).bind fun v31 =>
                  cond (!v31) (
                    some false) (
                    (F_laws_b10Same O p26 v5).bind fun v32 =>
                    cond (!v32) (
                      some false) (
                      (F_laws_b10Same O v28 v4).bind fun v33 =>
                      cond (!v33) (
                        some false) (
                        (F_laws_b10Same O v29 v5).bind fun v34 =>
                        cond (!v34) (
                          some false) (
                          (F_spec_B10Whole O a1 v3 1000000).bind fun v35 =>
                          (F_spec_B10Whole O a2 v3 1000000).bind fun v36 =>
                          (F_impl_MiddleAndSide O v35 v36).bind fun (v37, v38, v39) =>
                          (F_impl_LeftAndRight O v37 v38).bind fun (v40, v41, v42) =>
                          cond (!v39) (
                            some false) (
                            cond (!v42) (
                              some false) (
                              cond (!(O.ieq (O.ofN (O.llen v40)) v3)) (
                                some false) (
                                cond (!(O.ieq (O.ofN (O.llen v41)) v3)) (
                                  some false) (
                                  (F_laws_FnTracks_l2 O v3 v35 v36 v40 v41 KK 0).bind fun z => match z with
                                  | (.inl ()) =>
                                    some false
                                  | (.inr ()) =>
                                    some true)))))))))))))))

end Go.Desk
