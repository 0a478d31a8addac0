/- Parts of the proof: Pf53, MN2, MN3, MN4, MN5, MN6, MN7, MN8, MN9, MN10, MN11, MN12, MN13, MN14, MN15, MN16, MN17, MN18, MN19, MN20, MN21, MN22, Pf28, Pf29, MN23, MN24, Pf11, Pf12, Pf13, Pf8, Pf4, MN25. -/
import Derived.Test.YthjnhkmojljlmaaK4
import Derived.ChangeKeysEq
set_option linter.unusedVariables false
namespace Go.Abs.Z
open Go Go.Abs Go.Proofs
noncomputable section
abbrev R53 : Type := Int × ByteArray × Int × Bool × TI × TI × (Int)
noncomputable def body53 : Go.Code := (Try.f53.body).getD Go.Code.skip
def h53 (p0 : ByteArray) (p1 : Int) : List (AO U) := []
def k53 : AV U → List (AO U) → Option R53 := fun v h => match v, h with | AV.tup [AV.agg [AV.int IntKind.i64 x0, AV.str x1, AV.int IntKind.i64 x2, AV.bool x3, AV.imm 105 x4, AV.imm 105 x5], AV.int IntKind.i64 x6], [] => some (x0, x1, x2, x3, x4, x5, x6) | _, _ => none
def out53 : R53 → AV U := fun (x0, x1, x2, x3, x4, x5, x6) => AV.tup [AV.agg [AV.int IntKind.i64 x0, AV.str x1, AV.int IntKind.i64 x2, AV.bool x3, AV.imm 105 x4, AV.imm 105 x5], AV.int IntKind.i64 x6]
def outh53 : R53 → List (AO U) := fun (x0, x1, x2, x3, x4, x5, x6) => []
def D53 : Nat → Dir := dirs [(4, ⟨[0, 1, 4, 7], [], [], []⟩), (19, ⟨[1, 4, 6, 11, 12], [], [], []⟩), (7, ⟨[4, 7, 8], [], [], []⟩), (9, ⟨[4, 8], [], [], []⟩), (12, ⟨[0, 1, 4, 6], [], [], []⟩), (14, ⟨[0, 1, 4, 9, 10], [], [], []⟩), (16, ⟨[0, 1, 4, 9, 10], [], [], []⟩)]
def b53 (p0 : ByteArray) (p1 : Int) (c4 : (Int) → Option R53) (c12 : Option R53) (c7 : (Int) → (ByteArray) → Option R53) (c14 : (Int) → (Bool) → TI → TI → Option R53) (c19 : (Int) → Option R53) (c9 : (ByteArray) → Option R53) (c16 : (Int) → (Bool) → TI → TI → Option R53)  : Option R53 :=
  cond (decide (0 ≤ p1))
  (cond (decide (p1 < (↑p0.size : Int)))
  ((S63 (bt p0 p1)).bind fun r0 =>
  cond (r0)
  (c4 (0))
  (c12))
  (none))
  (none)
def m53_4 (p0 : ByteArray) (p1 v2 : Int) : S U := S.mk [AV.str p0, AV.int IntKind.i64 p1, AV.undef, AV.undef, AV.ptr 0 0, AV.undef, AV.undef, AV.int IntKind.i64 v2, AV.undef, AV.undef, AV.undef, AV.undef, AV.undef, AV.undef, AV.undef, AV.undef, AV.undef, AV.undef, AV.undef, AV.undef, AV.undef, AV.undef, AV.undef, AV.undef, AV.undef, AV.undef, AV.undef, AV.undef, AV.undef, AV.undef, AV.undef, AV.undef, AV.undef, AV.undef, AV.undef, AV.undef, AV.undef, AV.undef, AV.undef, AV.undef, AV.undef, AV.undef, AV.undef, AV.undef, AV.undef, AV.undef, AV.undef, AV.undef, AV.undef, AV.undef, AV.undef, AV.undef, AV.undef, AV.undef, AV.undef, AV.undef, AV.undef, AV.undef, AV.undef, AV.undef, AV.undef, AV.undef, AV.undef, AV.undef, AV.undef, AV.undef, AV.undef, AV.undef, AV.undef, AV.undef, AV.undef, AV.undef, AV.undef, AV.undef, AV.undef, AV.undef, AV.undef, AV.undef, AV.undef, AV.undef, AV.undef, AV.undef, AV.undef, AV.undef, AV.undef, AV.undef, AV.undef, AV.undef, AV.undef, AV.undef, AV.undef, AV.undef, AV.undef, AV.undef, AV.undef, AV.undef, AV.undef, AV.undef, AV.undef, AV.undef, AV.undef, AV.undef, AV.undef, AV.undef, AV.undef, AV.undef, AV.undef, AV.undef, AV.undef, AV.undef, AV.undef, AV.undef, AV.undef, AV.undef, AV.undef, AV.undef, AV.undef, AV.undef, AV.undef, AV.undef, AV.undef, AV.undef, AV.undef, AV.undef, AV.undef] [AO.box [AV.int IntKind.i64 0, AV.str (ByteArray.mk #[]), AV.int IntKind.i64 0, AV.bool false, AV.nils 105, AV.nils 105]]
def b53_4 (p0 : ByteArray) (p1 : Int) (c4 : (Int) → Option R53) (c12 : Option R53) (c7 : (Int) → (ByteArray) → Option R53) (c14 : (Int) → (Bool) → TI → TI → Option R53) (c19 : (Int) → Option R53) (c9 : (ByteArray) → Option R53) (c16 : (Int) → (Bool) → TI → TI → Option R53) (v2 : Int) : Option R53 :=
  cond (decide (IntKind.i64.wrap (p1 + v2) < (↑p0.size : Int)))
  (cond (decide (0 ≤ IntKind.i64.wrap (p1 + v2)))
  (cond (decide (IntKind.i64.wrap (p1 + v2) < (↑p0.size : Int)))
  ((S63 (bt p0 (IntKind.i64.wrap (p1 + v2)))).bind fun r0 =>
  cond (r0)
  (c4 (IntKind.i64.wrap (v2 + 1)))
  (cond (decide (0 ≤ IntKind.i64.wrap (p1 + v2)))
  (cond (decide (IntKind.i64.wrap (p1 + v2) < (↑p0.size : Int)))
  ((S65 (bt p0 (IntKind.i64.wrap (p1 + v2)))).bind fun r1 =>
  cond (r1)
  (c4 (IntKind.i64.wrap (v2 + 1)))
  (cond (decide (0 ≤ p1))
  (cond (decide (p1 ≤ IntKind.i64.wrap (p1 + v2)))
  (cond (decide (IntKind.i64.wrap (p1 + v2) ≤ (↑p0.size : Int)))
  (c7 (v2) (p0.extract p1.toNat (IntKind.i64.wrap (p1 + v2)).toNat))
  (none))
  (none))
  (none)))
  (none))
  (none)))
  (none))
  (none))
  (cond (decide (0 ≤ p1))
  (cond (decide (p1 ≤ IntKind.i64.wrap (p1 + v2)))
  (cond (decide (IntKind.i64.wrap (p1 + v2) ≤ (↑p0.size : Int)))
  (c7 (v2) (p0.extract p1.toNat (IntKind.i64.wrap (p1 + v2)).toNat))
  (none))
  (none))
  (none))
def m53_12 (p0 : ByteArray) (p1 : Int)  : S U := S.mk [AV.str p0, AV.int IntKind.i64 p1, AV.undef, AV.undef, AV.ptr 0 0, AV.undef, AV.int IntKind.u8 (bt p0 p1), AV.undef, AV.undef, AV.undef, AV.undef, AV.undef, AV.undef, AV.undef, AV.undef, AV.undef, AV.undef, AV.undef, AV.undef, AV.undef, AV.undef, AV.undef, AV.undef, AV.undef, AV.undef, AV.undef, AV.undef, AV.undef, AV.undef, AV.undef, AV.undef, AV.undef, AV.undef, AV.undef, AV.undef, AV.undef, AV.undef, AV.undef, AV.undef, AV.undef, AV.undef, AV.undef, AV.undef, AV.undef, AV.undef, AV.undef, AV.undef, AV.undef, AV.undef, AV.undef, AV.undef, AV.undef, AV.undef, AV.undef, AV.undef, AV.undef, AV.undef, AV.undef, AV.undef, AV.undef, AV.undef, AV.undef, AV.undef, AV.undef, AV.undef, AV.undef, AV.undef, AV.undef, AV.undef, AV.undef, AV.undef, AV.undef, AV.undef, AV.undef, AV.undef, AV.undef, AV.undef, AV.undef, AV.undef, AV.undef, AV.undef, AV.undef, AV.undef, AV.undef, AV.undef, AV.undef, AV.undef, AV.undef, AV.undef, AV.undef, AV.undef, AV.undef, AV.undef, AV.undef, AV.undef, AV.undef, AV.undef, AV.undef, AV.undef, AV.undef, AV.undef, AV.undef, AV.undef, AV.undef, AV.undef, AV.undef, AV.undef, AV.undef, AV.undef, AV.undef, AV.undef, AV.undef, AV.undef, AV.undef, AV.undef, AV.undef, AV.undef, AV.undef, AV.undef, AV.undef, AV.undef, AV.undef, AV.undef, AV.undef, AV.undef] [AO.box [AV.int IntKind.i64 0, AV.str (ByteArray.mk #[]), AV.int IntKind.i64 0, AV.bool false, AV.nils 105, AV.nils 105]]
def b53_12 (p0 : ByteArray) (p1 : Int) (c4 : (Int) → Option R53) (c12 : Option R53) (c7 : (Int) → (ByteArray) → Option R53) (c14 : (Int) → (Bool) → TI → TI → Option R53) (c19 : (Int) → Option R53) (c9 : (ByteArray) → Option R53) (c16 : (Int) → (Bool) → TI → TI → Option R53)  : Option R53 :=
  (S65 (bt p0 p1)).bind fun r0 =>
  cond (r0)
  ((S76 p0 p1).bind fun r1 =>
  c14 (r1.fst) (r1.snd.fst) (r1.snd.snd.fst) (r1.snd.snd.snd))
  (cond (bt p0 p1 == 91)
  ((S76 p0 p1).bind fun r2 =>
  c14 (r2.fst) (r2.snd.fst) (r2.snd.snd.fst) (r2.snd.snd.snd))
  (c19 (0)))
def m53_7 (p0 : ByteArray) (p1 v0 : Int) (v6 : ByteArray) : S U := S.mk [AV.undef, AV.undef, AV.undef, AV.undef, AV.ptr 0 0, AV.undef, AV.undef, AV.int IntKind.i64 v0, AV.ptr 1 0, AV.undef, AV.undef, AV.undef, AV.undef, AV.undef, AV.undef, AV.undef, AV.undef, AV.undef, AV.undef, AV.undef, AV.undef, AV.undef, AV.undef, AV.undef, AV.undef, AV.undef, AV.undef, AV.undef, AV.undef, AV.undef, AV.undef, AV.undef, AV.undef, AV.undef, AV.undef, AV.undef, AV.undef, AV.undef, AV.undef, AV.undef, AV.undef, AV.undef, AV.undef, AV.undef, AV.undef, AV.undef, AV.undef, AV.undef, AV.undef, AV.undef, AV.undef, AV.undef, AV.undef, AV.undef, AV.undef, AV.undef, AV.undef, AV.undef, AV.undef, AV.undef, AV.undef, AV.undef, AV.undef, AV.undef, AV.undef, AV.undef, AV.undef, AV.undef, AV.undef, AV.undef, AV.undef, AV.undef, AV.undef, AV.undef, AV.undef, AV.undef, AV.undef, AV.undef, AV.undef, AV.undef, AV.undef, AV.undef, AV.undef, AV.undef, AV.undef, AV.undef, AV.undef, AV.undef, AV.undef, AV.undef, AV.undef, AV.undef, AV.undef, AV.undef, AV.undef, AV.undef, AV.undef, AV.undef, AV.undef, AV.undef, AV.undef, AV.undef, AV.undef, AV.undef, AV.undef, AV.undef, AV.undef, AV.undef, AV.undef, AV.undef, AV.undef, AV.undef, AV.undef, AV.undef, AV.undef, AV.undef, AV.undef, AV.undef, AV.undef, AV.undef, AV.undef, AV.undef, AV.undef, AV.undef, AV.undef] [AO.box [AV.int IntKind.i64 0, AV.str (ByteArray.mk #[]), AV.int IntKind.i64 0, AV.bool false, AV.nils 105, AV.nils 105], AO.box [AV.int IntKind.i64 1, AV.str v6, AV.int IntKind.i64 p1, AV.bool false, AV.nils 105, AV.nils 105]]
def b53_7 (p0 : ByteArray) (p1 : Int) (c4 : (Int) → Option R53) (c12 : Option R53) (c7 : (Int) → (ByteArray) → Option R53) (c14 : (Int) → (Bool) → TI → TI → Option R53) (c19 : (Int) → Option R53) (c9 : (ByteArray) → Option R53) (c16 : (Int) → (Bool) → TI → TI → Option R53) (v0 : Int) (v6 : ByteArray) : Option R53 :=
  cond (decide (v0 > 31))
  (some ((1, v6, p1, false, [], [], 87)))
  (c9 (v6))
def m53_14 (p0 : ByteArray) (p1 v2 : Int) (v7 : Bool) (v8 v9 : TI) : S U := S.mk [AV.str p0, AV.int IntKind.i64 p1, AV.undef, AV.undef, AV.ptr 0 0, AV.undef, AV.undef, AV.undef, AV.undef, AV.int IntKind.i64 v2, AV.ptr 1 0, AV.undef, AV.undef, AV.undef, AV.undef, AV.undef, AV.undef, AV.undef, AV.undef, AV.undef, AV.undef, AV.undef, AV.undef, AV.undef, AV.undef, AV.undef, AV.undef, AV.undef, AV.undef, AV.undef, AV.undef, AV.undef, AV.undef, AV.undef, AV.undef, AV.undef, AV.undef, AV.undef, AV.undef, AV.undef, AV.undef, AV.undef, AV.undef, AV.undef, AV.undef, AV.undef, AV.undef, AV.undef, AV.undef, AV.undef, AV.undef, AV.undef, AV.undef, AV.undef, AV.undef, AV.undef, AV.undef, AV.undef, AV.undef, AV.undef, AV.undef, AV.undef, AV.undef, AV.undef, AV.undef, AV.undef, AV.undef, AV.undef, AV.undef, AV.undef, AV.undef, AV.undef, AV.undef, AV.undef, AV.undef, AV.undef, AV.undef, AV.undef, AV.undef, AV.undef, AV.undef, AV.undef, AV.undef, AV.undef, AV.undef, AV.undef, AV.undef, AV.undef, AV.undef, AV.undef, AV.undef, AV.undef, AV.undef, AV.undef, AV.undef, AV.undef, AV.undef, AV.undef, AV.undef, AV.undef, AV.undef, AV.undef, AV.undef, AV.undef, AV.undef, AV.undef, AV.undef, AV.undef, AV.undef, AV.undef, AV.undef, AV.undef, AV.undef, AV.undef, AV.undef, AV.undef, AV.undef, AV.undef, AV.undef, AV.undef, AV.undef, AV.undef, AV.undef, AV.undef, AV.undef] [AO.box [AV.int IntKind.i64 0, AV.str (ByteArray.mk #[]), AV.int IntKind.i64 0, AV.bool false, AV.nils 105, AV.nils 105], AO.box [AV.bool v7, AV.imm 105 v8, AV.imm 105 v9]]
def b53_14 (p0 : ByteArray) (p1 : Int) (c4 : (Int) → Option R53) (c12 : Option R53) (c7 : (Int) → (ByteArray) → Option R53) (c14 : (Int) → (Bool) → TI → TI → Option R53) (c19 : (Int) → Option R53) (c9 : (ByteArray) → Option R53) (c16 : (Int) → (Bool) → TI → TI → Option R53) (v2 : Int) (v7 : Bool) (v8 v9 : TI) : Option R53 :=
  cond (v2 == 0)
  (some ((0, ByteArray.mk #[], 0, false, [], [], 81)))
  (cond (decide (IntKind.i64.wrap (p1 + v2) < (↑p0.size : Int)))
  (cond (decide (0 ≤ IntKind.i64.wrap (p1 + v2)))
  (cond (decide (IntKind.i64.wrap (p1 + v2) < (↑p0.size : Int)))
  ((S63 (bt p0 (IntKind.i64.wrap (p1 + v2)))).bind fun r0 =>
  cond (r0)
  (some ((0, ByteArray.mk #[], 0, false, [], [], 81)))
  (cond (decide (0 ≤ IntKind.i64.wrap (p1 + v2)))
  (cond (decide (IntKind.i64.wrap (p1 + v2) < (↑p0.size : Int)))
  (cond (bt p0 (IntKind.i64.wrap (p1 + v2)) == 46)
  (some ((0, ByteArray.mk #[], 0, false, [], [], 81)))
  (c16 (v2) (v7) (v8) (v9)))
  (none))
  (none)))
  (none))
  (none))
  (c16 (v2) (v7) (v8) (v9)))
def m53_19 (p0 : ByteArray) (p1 v3 : Int) : S U := S.mk [AV.undef, AV.int IntKind.i64 p1, AV.undef, AV.undef, AV.ptr 0 0, AV.undef, AV.int IntKind.u8 (bt p0 p1), AV.undef, AV.undef, AV.undef, AV.undef, AV.str (ByteArray.mk #[44, 61, 43, 45, 42, 47, 94, 40, 41]), AV.int IntKind.i64 v3, AV.undef, AV.undef, AV.undef, AV.undef, AV.undef, AV.undef, AV.undef, AV.undef, AV.undef, AV.undef, AV.undef, AV.undef, AV.undef, AV.undef, AV.undef, AV.undef, AV.undef, AV.undef, AV.undef, AV.undef, AV.undef, AV.undef, AV.undef, AV.undef, AV.undef, AV.undef, AV.undef, AV.undef, AV.undef, AV.undef, AV.undef, AV.undef, AV.undef, AV.undef, AV.undef, AV.undef, AV.undef, AV.undef, AV.undef, AV.undef, AV.undef, AV.undef, AV.undef, AV.undef, AV.undef, AV.undef, AV.undef, AV.undef, AV.undef, AV.undef, AV.undef, AV.undef, AV.undef, AV.undef, AV.undef, AV.undef, AV.undef, AV.undef, AV.undef, AV.undef, AV.undef, AV.undef, AV.undef, AV.undef, AV.undef, AV.undef, AV.undef, AV.undef, AV.undef, AV.undef, AV.undef, AV.undef, AV.undef, AV.undef, AV.undef, AV.undef, AV.undef, AV.undef, AV.undef, AV.undef, AV.undef, AV.undef, AV.undef, AV.undef, AV.undef, AV.undef, AV.undef, AV.undef, AV.undef, AV.undef, AV.undef, AV.undef, AV.undef, AV.undef, AV.undef, AV.undef, AV.undef, AV.undef, AV.undef, AV.undef, AV.undef, AV.undef, AV.undef, AV.undef, AV.undef, AV.undef, AV.undef, AV.undef, AV.undef, AV.undef, AV.undef, AV.undef] [AO.box [AV.int IntKind.i64 0, AV.str (ByteArray.mk #[]), AV.int IntKind.i64 0, AV.bool false, AV.nils 105, AV.nils 105]]
def b53_19 (p0 : ByteArray) (p1 : Int) (c4 : (Int) → Option R53) (c12 : Option R53) (c7 : (Int) → (ByteArray) → Option R53) (c14 : (Int) → (Bool) → TI → TI → Option R53) (c19 : (Int) → Option R53) (c9 : (ByteArray) → Option R53) (c16 : (Int) → (Bool) → TI → TI → Option R53) (v3 : Int) : Option R53 :=
  cond (decide (v3 < (↑(ByteArray.mk #[44, 61, 43, 45, 42, 47, 94, 40, 41]).size : Int)))
  (cond (decide (0 ≤ v3))
  (cond (decide (v3 < (↑(ByteArray.mk #[44, 61, 43, 45, 42, 47, 94, 40, 41]).size : Int)))
  (cond (bt (ByteArray.mk #[44, 61, 43, 45, 42, 47, 94, 40, 41]) v3 == bt p0 p1)
  (cond (decide (0 ≤ v3))
  (cond (decide (v3 ≤ IntKind.i64.wrap (v3 + 1)))
  (cond (decide (IntKind.i64.wrap (v3 + 1) ≤ (↑(ByteArray.mk #[44, 61, 43, 45, 42, 47, 94, 40, 41]).size : Int)))
  (some ((4, (ByteArray.mk #[44, 61, 43, 45, 42, 47, 94, 40, 41]).extract v3.toNat (IntKind.i64.wrap (v3 + 1)).toNat, p1, false, [], [], 0)))
  (none))
  (none))
  (none))
  (c19 (IntKind.i64.wrap (v3 + 1))))
  (none))
  (none))
  (some ((0, ByteArray.mk #[], 0, false, [], [], 80)))
def m53_9 (p0 : ByteArray) (p1 : Int) (v5 : ByteArray) : S U := S.mk [AV.undef, AV.undef, AV.undef, AV.undef, AV.ptr 0 0, AV.undef, AV.undef, AV.undef, AV.ptr 1 0, AV.undef, AV.undef, AV.undef, AV.undef, AV.undef, AV.undef, AV.undef, AV.undef, AV.undef, AV.undef, AV.undef, AV.undef, AV.undef, AV.undef, AV.undef, AV.undef, AV.undef, AV.undef, AV.undef, AV.undef, AV.undef, AV.undef, AV.undef, AV.undef, AV.undef, AV.undef, AV.undef, AV.undef, AV.undef, AV.undef, AV.undef, AV.undef, AV.undef, AV.undef, AV.undef, AV.undef, AV.undef, AV.undef, AV.undef, AV.undef, AV.undef, AV.undef, AV.undef, AV.undef, AV.undef, AV.undef, AV.undef, AV.undef, AV.undef, AV.undef, AV.undef, AV.undef, AV.undef, AV.undef, AV.undef, AV.undef, AV.undef, AV.undef, AV.undef, AV.undef, AV.undef, AV.undef, AV.undef, AV.undef, AV.undef, AV.undef, AV.undef, AV.undef, AV.undef, AV.undef, AV.undef, AV.undef, AV.undef, AV.undef, AV.undef, AV.undef, AV.undef, AV.undef, AV.undef, AV.undef, AV.undef, AV.undef, AV.undef, AV.undef, AV.undef, AV.undef, AV.undef, AV.undef, AV.undef, AV.undef, AV.undef, AV.undef, AV.undef, AV.undef, AV.undef, AV.undef, AV.undef, AV.undef, AV.undef, AV.undef, AV.undef, AV.undef, AV.undef, AV.undef, AV.undef, AV.undef, AV.undef, AV.undef, AV.undef, AV.undef, AV.undef, AV.undef, AV.undef, AV.undef, AV.undef, AV.undef] [AO.box [AV.int IntKind.i64 0, AV.str (ByteArray.mk #[]), AV.int IntKind.i64 0, AV.bool false, AV.nils 105, AV.nils 105], AO.box [AV.int IntKind.i64 1, AV.str v5, AV.int IntKind.i64 p1, AV.bool false, AV.nils 105, AV.nils 105]]
def b53_9 (p0 : ByteArray) (p1 : Int) (c4 : (Int) → Option R53) (c12 : Option R53) (c7 : (Int) → (ByteArray) → Option R53) (c14 : (Int) → (Bool) → TI → TI → Option R53) (c19 : (Int) → Option R53) (c9 : (ByteArray) → Option R53) (c16 : (Int) → (Bool) → TI → TI → Option R53) (v5 : ByteArray) : Option R53 :=
  (S64 v5).bind fun r0 =>
  cond (r0)
  (some ((2, v5, p1, false, [], [], 0)))
  (some ((1, v5, p1, false, [], [], 0)))
def m53_16 (p0 : ByteArray) (p1 v2 : Int) (v7 : Bool) (v8 v9 : TI) : S U := S.mk [AV.str p0, AV.int IntKind.i64 p1, AV.undef, AV.undef, AV.ptr 0 0, AV.undef, AV.undef, AV.undef, AV.undef, AV.int IntKind.i64 v2, AV.ptr 1 0, AV.undef, AV.undef, AV.undef, AV.undef, AV.undef, AV.undef, AV.undef, AV.undef, AV.undef, AV.undef, AV.undef, AV.undef, AV.undef, AV.undef, AV.undef, AV.undef, AV.undef, AV.undef, AV.undef, AV.undef, AV.undef, AV.undef, AV.undef, AV.undef, AV.undef, AV.undef, AV.undef, AV.undef, AV.undef, AV.undef, AV.undef, AV.undef, AV.undef, AV.undef, AV.undef, AV.undef, AV.undef, AV.undef, AV.undef, AV.undef, AV.undef, AV.undef, AV.undef, AV.undef, AV.undef, AV.undef, AV.undef, AV.undef, AV.undef, AV.undef, AV.undef, AV.undef, AV.undef, AV.undef, AV.undef, AV.undef, AV.undef, AV.undef, AV.undef, AV.undef, AV.undef, AV.undef, AV.undef, AV.undef, AV.undef, AV.undef, AV.undef, AV.undef, AV.undef, AV.undef, AV.undef, AV.undef, AV.undef, AV.undef, AV.undef, AV.undef, AV.undef, AV.undef, AV.undef, AV.undef, AV.undef, AV.undef, AV.undef, AV.undef, AV.undef, AV.undef, AV.undef, AV.undef, AV.undef, AV.undef, AV.undef, AV.undef, AV.undef, AV.undef, AV.undef, AV.undef, AV.undef, AV.undef, AV.undef, AV.undef, AV.undef, AV.undef, AV.undef, AV.undef, AV.undef, AV.undef, AV.undef, AV.undef, AV.undef, AV.undef, AV.undef, AV.undef, AV.undef, AV.undef] [AO.box [AV.int IntKind.i64 0, AV.str (ByteArray.mk #[]), AV.int IntKind.i64 0, AV.bool false, AV.nils 105, AV.nils 105], AO.box [AV.bool v7, AV.imm 105 v8, AV.imm 105 v9]]
def b53_16 (p0 : ByteArray) (p1 : Int) (c4 : (Int) → Option R53) (c12 : Option R53) (c7 : (Int) → (ByteArray) → Option R53) (c14 : (Int) → (Bool) → TI → TI → Option R53) (c19 : (Int) → Option R53) (c9 : (ByteArray) → Option R53) (c16 : (Int) → (Bool) → TI → TI → Option R53) (v2 : Int) (v7 : Bool) (v8 v9 : TI) : Option R53 :=
  cond (decide (0 ≤ p1))
  (cond (decide (p1 ≤ IntKind.i64.wrap (p1 + v2)))
  (cond (decide (IntKind.i64.wrap (p1 + v2) ≤ (↑p0.size : Int)))
  (some ((3, p0.extract p1.toNat (IntKind.i64.wrap (p1 + v2)).toNat, p1, v7, v8, v9, 0)))
  (none))
  (none))
  (none)
theorem hk53 : ∀ v h' r, k53 v h' = some r → v = out53 r ∧ h' = outh53 r := by
  intro v h' r h
  unfold k53 at h
  split at h
  · injection h with h; subst h; exact ⟨rfl, rfl⟩
  · cases h
abbrev q53 : Prim U R53 := prims X [⟨63, fun _ => true, [.lend], F63 S63⟩, ⟨65, fun _ => true, [.lend], F65 S65⟩, ⟨64, fun _ => true, [.lend], F64 S64⟩, ⟨76, fun _ => true, [.lend, .lend], F76 S76⟩]
theorem s53 (c : Nat → S U → Option R53) (p0 : ByteArray) (p1 : Int) : seg TP X q53 [4, 19, 7, 9, 12, 14, 16] (fun q st => c q (keepD D53 (h53 p0 p1).length q st)) body53 (finH TP Try.f53.results.toList (h53 p0 p1).length false k53) (start [.str p0, .int .i64 p1] Try.f53.ntmps (h53 p0 p1)) = b53 p0 p1 (fun v2 => c 4 (m53_4 p0 p1 v2)) (c 12 (m53_12 p0 p1)) (fun v0 v6 => c 7 (m53_7 p0 p1 v0 v6)) (fun v2 v7 v8 v9 => c 14 (m53_14 p0 p1 v2 v7 v8 v9)) (fun v3 => c 19 (m53_19 p0 p1 v3)) (fun v5 => c 9 (m53_9 p0 p1 v5)) (fun v2 v7 v8 v9 => c 16 (m53_16 p0 p1 v2 v7 v8 v9)) := by kernel_rfl
theorem s53_4 (c : Nat → S U → Option R53) (p0 : ByteArray) (p1 v2 : Int) : res TP X q53 [4, 19, 7, 9, 12, 14, 16] (fun q st => c q (keepD D53 (h53 p0 p1).length q st)) 4 body53 (finH TP Try.f53.results.toList (h53 p0 p1).length false k53) (m53_4 p0 p1 v2) = b53_4 p0 p1 (fun v2 => c 4 (m53_4 p0 p1 v2)) (c 12 (m53_12 p0 p1)) (fun v0 v6 => c 7 (m53_7 p0 p1 v0 v6)) (fun v2 v7 v8 v9 => c 14 (m53_14 p0 p1 v2 v7 v8 v9)) (fun v3 => c 19 (m53_19 p0 p1 v3)) (fun v5 => c 9 (m53_9 p0 p1 v5)) (fun v2 v7 v8 v9 => c 16 (m53_16 p0 p1 v2 v7 v8 v9)) v2 := by kernel_rfl
theorem s53_12 (c : Nat → S U → Option R53) (p0 : ByteArray) (p1 : Int)  : res TP X q53 [4, 19, 7, 9, 12, 14, 16] (fun q st => c q (keepD D53 (h53 p0 p1).length q st)) 12 body53 (finH TP Try.f53.results.toList (h53 p0 p1).length false k53) (m53_12 p0 p1 ) = b53_12 p0 p1 (fun v2 => c 4 (m53_4 p0 p1 v2)) (c 12 (m53_12 p0 p1)) (fun v0 v6 => c 7 (m53_7 p0 p1 v0 v6)) (fun v2 v7 v8 v9 => c 14 (m53_14 p0 p1 v2 v7 v8 v9)) (fun v3 => c 19 (m53_19 p0 p1 v3)) (fun v5 => c 9 (m53_9 p0 p1 v5)) (fun v2 v7 v8 v9 => c 16 (m53_16 p0 p1 v2 v7 v8 v9))  := by kernel_rfl
theorem s53_7 (c : Nat → S U → Option R53) (p0 : ByteArray) (p1 v0 : Int) (v6 : ByteArray) : res TP X q53 [4, 19, 7, 9, 12, 14, 16] (fun q st => c q (keepD D53 (h53 p0 p1).length q st)) 7 body53 (finH TP Try.f53.results.toList (h53 p0 p1).length false k53) (m53_7 p0 p1 v0 v6) = b53_7 p0 p1 (fun v2 => c 4 (m53_4 p0 p1 v2)) (c 12 (m53_12 p0 p1)) (fun v0 v6 => c 7 (m53_7 p0 p1 v0 v6)) (fun v2 v7 v8 v9 => c 14 (m53_14 p0 p1 v2 v7 v8 v9)) (fun v3 => c 19 (m53_19 p0 p1 v3)) (fun v5 => c 9 (m53_9 p0 p1 v5)) (fun v2 v7 v8 v9 => c 16 (m53_16 p0 p1 v2 v7 v8 v9)) v0 v6 := by kernel_rfl
theorem s53_14 (c : Nat → S U → Option R53) (p0 : ByteArray) (p1 v2 : Int) (v7 : Bool) (v8 v9 : TI) : res TP X q53 [4, 19, 7, 9, 12, 14, 16] (fun q st => c q (keepD D53 (h53 p0 p1).length q st)) 14 body53 (finH TP Try.f53.results.toList (h53 p0 p1).length false k53) (m53_14 p0 p1 v2 v7 v8 v9) = b53_14 p0 p1 (fun v2 => c 4 (m53_4 p0 p1 v2)) (c 12 (m53_12 p0 p1)) (fun v0 v6 => c 7 (m53_7 p0 p1 v0 v6)) (fun v2 v7 v8 v9 => c 14 (m53_14 p0 p1 v2 v7 v8 v9)) (fun v3 => c 19 (m53_19 p0 p1 v3)) (fun v5 => c 9 (m53_9 p0 p1 v5)) (fun v2 v7 v8 v9 => c 16 (m53_16 p0 p1 v2 v7 v8 v9)) v2 v7 v8 v9 := by kernel_rfl
theorem s53_19 (c : Nat → S U → Option R53) (p0 : ByteArray) (p1 v3 : Int) : res TP X q53 [4, 19, 7, 9, 12, 14, 16] (fun q st => c q (keepD D53 (h53 p0 p1).length q st)) 19 body53 (finH TP Try.f53.results.toList (h53 p0 p1).length false k53) (m53_19 p0 p1 v3) = b53_19 p0 p1 (fun v2 => c 4 (m53_4 p0 p1 v2)) (c 12 (m53_12 p0 p1)) (fun v0 v6 => c 7 (m53_7 p0 p1 v0 v6)) (fun v2 v7 v8 v9 => c 14 (m53_14 p0 p1 v2 v7 v8 v9)) (fun v3 => c 19 (m53_19 p0 p1 v3)) (fun v5 => c 9 (m53_9 p0 p1 v5)) (fun v2 v7 v8 v9 => c 16 (m53_16 p0 p1 v2 v7 v8 v9)) v3 := by kernel_rfl
theorem s53_9 (c : Nat → S U → Option R53) (p0 : ByteArray) (p1 : Int) (v5 : ByteArray) : res TP X q53 [4, 19, 7, 9, 12, 14, 16] (fun q st => c q (keepD D53 (h53 p0 p1).length q st)) 9 body53 (finH TP Try.f53.results.toList (h53 p0 p1).length false k53) (m53_9 p0 p1 v5) = b53_9 p0 p1 (fun v2 => c 4 (m53_4 p0 p1 v2)) (c 12 (m53_12 p0 p1)) (fun v0 v6 => c 7 (m53_7 p0 p1 v0 v6)) (fun v2 v7 v8 v9 => c 14 (m53_14 p0 p1 v2 v7 v8 v9)) (fun v3 => c 19 (m53_19 p0 p1 v3)) (fun v5 => c 9 (m53_9 p0 p1 v5)) (fun v2 v7 v8 v9 => c 16 (m53_16 p0 p1 v2 v7 v8 v9)) v5 := by kernel_rfl
theorem s53_16 (c : Nat → S U → Option R53) (p0 : ByteArray) (p1 v2 : Int) (v7 : Bool) (v8 v9 : TI) : res TP X q53 [4, 19, 7, 9, 12, 14, 16] (fun q st => c q (keepD D53 (h53 p0 p1).length q st)) 16 body53 (finH TP Try.f53.results.toList (h53 p0 p1).length false k53) (m53_16 p0 p1 v2 v7 v8 v9) = b53_16 p0 p1 (fun v2 => c 4 (m53_4 p0 p1 v2)) (c 12 (m53_12 p0 p1)) (fun v0 v6 => c 7 (m53_7 p0 p1 v0 v6)) (fun v2 v7 v8 v9 => c 14 (m53_14 p0 p1 v2 v7 v8 v9)) (fun v3 => c 19 (m53_19 p0 p1 v3)) (fun v5 => c 9 (m53_9 p0 p1 v5)) (fun v2 v7 v8 v9 => c 16 (m53_16 p0 p1 v2 v7 v8 v9)) v2 v7 v8 v9 := by kernel_rfl
mutual
def f53_4 (p0 : ByteArray) (p1 : Int) : Nat → Int → Option R53
  | 0 => fun _ => none
  | k + 1 => b53_4 p0 p1 (f53_4 p0 p1 k) (f53_12 p0 p1 k) (f53_7 p0 p1 k) (f53_14 p0 p1 k) (f53_19 p0 p1 k) (f53_9 p0 p1 k) (f53_16 p0 p1 k)
def f53_12 (p0 : ByteArray) (p1 : Int) : Nat → Option R53
  | 0 => none
  | k + 1 => b53_12 p0 p1 (f53_4 p0 p1 k) (f53_12 p0 p1 k) (f53_7 p0 p1 k) (f53_14 p0 p1 k) (f53_19 p0 p1 k) (f53_9 p0 p1 k) (f53_16 p0 p1 k)
def f53_7 (p0 : ByteArray) (p1 : Int) : Nat → Int → (ByteArray) → Option R53
  | 0 => fun _ _ => none
  | k + 1 => b53_7 p0 p1 (f53_4 p0 p1 k) (f53_12 p0 p1 k) (f53_7 p0 p1 k) (f53_14 p0 p1 k) (f53_19 p0 p1 k) (f53_9 p0 p1 k) (f53_16 p0 p1 k)
def f53_14 (p0 : ByteArray) (p1 : Int) : Nat → Int → (Bool) → TI → TI → Option R53
  | 0 => fun _ _ _ _ => none
  | k + 1 => b53_14 p0 p1 (f53_4 p0 p1 k) (f53_12 p0 p1 k) (f53_7 p0 p1 k) (f53_14 p0 p1 k) (f53_19 p0 p1 k) (f53_9 p0 p1 k) (f53_16 p0 p1 k)
def f53_19 (p0 : ByteArray) (p1 : Int) : Nat → Int → Option R53
  | 0 => fun _ => none
  | k + 1 => b53_19 p0 p1 (f53_4 p0 p1 k) (f53_12 p0 p1 k) (f53_7 p0 p1 k) (f53_14 p0 p1 k) (f53_19 p0 p1 k) (f53_9 p0 p1 k) (f53_16 p0 p1 k)
def f53_9 (p0 : ByteArray) (p1 : Int) : Nat → (ByteArray) → Option R53
  | 0 => fun _ => none
  | k + 1 => b53_9 p0 p1 (f53_4 p0 p1 k) (f53_12 p0 p1 k) (f53_7 p0 p1 k) (f53_14 p0 p1 k) (f53_19 p0 p1 k) (f53_9 p0 p1 k) (f53_16 p0 p1 k)
def f53_16 (p0 : ByteArray) (p1 : Int) : Nat → Int → (Bool) → TI → TI → Option R53
  | 0 => fun _ _ _ _ => none
  | k + 1 => b53_16 p0 p1 (f53_4 p0 p1 k) (f53_12 p0 p1 k) (f53_7 p0 p1 k) (f53_14 p0 p1 k) (f53_19 p0 p1 k) (f53_9 p0 p1 k) (f53_16 p0 p1 k)
end
def f53 (k : Nat) (p0 : ByteArray) (p1 : Int) : Option R53 := b53 p0 p1 (f53_4 p0 p1 k) (f53_12 p0 p1 k) (f53_7 p0 p1 k) (f53_14 p0 p1 k) (f53_19 p0 p1 k) (f53_9 p0 p1 k) (f53_16 p0 p1 k)
theorem e53 (p0 : ByteArray) (p1 : Int) : ∀ k, ((fun v2 => cutG TP X q53 [4, 19, 7, 9, 12, 14, 16] D53 (h53 p0 p1).length body53 (finH TP Try.f53.results.toList (h53 p0 p1).length false k53) k 4 (m53_4 p0 p1 v2)) = f53_4 p0 p1 k) ∧ (cutG TP X q53 [4, 19, 7, 9, 12, 14, 16] D53 (h53 p0 p1).length body53 (finH TP Try.f53.results.toList (h53 p0 p1).length false k53) k 12 (m53_12 p0 p1) = f53_12 p0 p1 k) ∧ ((fun v0 v6 => cutG TP X q53 [4, 19, 7, 9, 12, 14, 16] D53 (h53 p0 p1).length body53 (finH TP Try.f53.results.toList (h53 p0 p1).length false k53) k 7 (m53_7 p0 p1 v0 v6)) = f53_7 p0 p1 k) ∧ ((fun v2 v7 v8 v9 => cutG TP X q53 [4, 19, 7, 9, 12, 14, 16] D53 (h53 p0 p1).length body53 (finH TP Try.f53.results.toList (h53 p0 p1).length false k53) k 14 (m53_14 p0 p1 v2 v7 v8 v9)) = f53_14 p0 p1 k) ∧ ((fun v3 => cutG TP X q53 [4, 19, 7, 9, 12, 14, 16] D53 (h53 p0 p1).length body53 (finH TP Try.f53.results.toList (h53 p0 p1).length false k53) k 19 (m53_19 p0 p1 v3)) = f53_19 p0 p1 k) ∧ ((fun v5 => cutG TP X q53 [4, 19, 7, 9, 12, 14, 16] D53 (h53 p0 p1).length body53 (finH TP Try.f53.results.toList (h53 p0 p1).length false k53) k 9 (m53_9 p0 p1 v5)) = f53_9 p0 p1 k) ∧ ((fun v2 v7 v8 v9 => cutG TP X q53 [4, 19, 7, 9, 12, 14, 16] D53 (h53 p0 p1).length body53 (finH TP Try.f53.results.toList (h53 p0 p1).length false k53) k 16 (m53_16 p0 p1 v2 v7 v8 v9)) = f53_16 p0 p1 k)
  | 0 => ⟨rfl, rfl, rfl, rfl, rfl, rfl, rfl⟩
  | k + 1 => by
    have ih := e53 p0 p1 k
    refine ⟨?_, ?_, ?_, ?_, ?_, ?_, ?_⟩
    · funext v2
      refine (if_pos (by kernel_rfl)).trans ?_
      rw [s53_4]
      simp only [ih]
      rfl
    · refine (if_pos (by kernel_rfl)).trans ?_
      rw [s53_12]
      simp only [ih]
      rfl
    · funext v0 v6
      refine (if_pos (by kernel_rfl)).trans ?_
      rw [s53_7]
      simp only [ih]
      rfl
    · funext v2 v7 v8 v9
      refine (if_pos (by kernel_rfl)).trans ?_
      rw [s53_14]
      simp only [ih]
      rfl
    · funext v3
      refine (if_pos (by kernel_rfl)).trans ?_
      rw [s53_19]
      simp only [ih]
      rfl
    · funext v5
      refine (if_pos (by kernel_rfl)).trans ?_
      rw [s53_9]
      simp only [ih]
      rfl
    · funext v2 v7 v8 v9
      refine (if_pos (by kernel_rfl)).trans ?_
      rw [s53_16]
      simp only [ih]
      rfl
theorem pure53 (p0 : ByteArray) (p1 : Int) (pok : PrmOK TP X q53) (k : Nat) (r : R53) (h : f53 k p0 p1 = some r) : PureH TP X 53 [.str p0, .int .i64 p1] (h53 p0 p1) (out53 r) (outh53 r) :=
  pure_gen good k (fn := Try.f53) (body := body53) (prim := q53) (D := D53) (cuts := [4, 19, 7, 9, 12, 14, 16]) (h := h53 p0 p1) (own := false) (by kernel_rfl) (by kernel_rfl) (by decide +kernel) pok hk53 (by
    rw [s53]
    have ih := e53 p0 p1 k
    simp only [ih]
    exact h)
def F53 {R : Type} (spec : (ByteArray) → Int → Option R53) : Fn U R := fun args h k => match args, h with | [.str p0, .int .i64 p1], [] => (spec p0 p1).bind fun r => k (out53 r) (outh53 r) | _, _ => none
theorem ok53 {R : Type} (spec : (ByteArray) → Int → Option R53) (hp : ∀ (p0 : ByteArray) (p1 : Int) (r : R53), spec p0 p1 = some r → PureH TP X 53 [.str p0, .int .i64 p1] (h53 p0 p1) (out53 r) (outh53 r)) : FnOK TP X 53 (F53 spec : Fn U R) := by
  intro args h k r hh
  unfold F53 at hh
  split at hh
  · obtain ⟨x, h1, h2⟩ := Option.bind_eq_some_iff.1 hh
    exact ⟨_, _, h2, hp _ _ _ h1⟩
  · cases hh
theorem pok53 : PrmOK TP X q53 := prims_cons good okS63 (prims_cons good okS65 (prims_cons good okS64 (prims_cons good okS76 (prims_nil TP X mixed))))
noncomputable def S53 (p0 : ByteArray) (p1 : Int) : Option R53 := evv fun k => f53 k p0 p1
theorem okS53 {R : Type} : FnOK TP X 53 (F53 S53 : Fn U R) := ok53 S53 fun p0 p1 r h => by
  obtain ⟨k, hk⟩ := evv_fuel h
  exact pure53 p0 p1 pok53 k r hk
end
end Go.Abs.Z
namespace Go.Abs.Z
open Go Go.Abs Limb Num
abbrev TokT := Int × ByteArray × Int × Bool × List Int × List Int
def letterB (c : Int) : Bool := (decide (97 ≤ c) && decide (c ≤ 122)) || ((decide (65 ≤ c) && decide (c ≤ 90)) || c == 95)
def digB (c : Int) : Bool := decide (48 ≤ c) && decide (c ≤ 57)
def nameB (c : Int) : Bool := letterB c || digB c
theorem run63 (c : Int) : S63 c = some (letterB c) := evv_eq (Evt.now fun k => by
  show b63 c = _
  unfold b63 letterB
  by_cases h1 : 97 ≤ c <;> by_cases h2 : c ≤ 122 <;> by_cases h3 : 65 ≤ c <;> by_cases h4 : c ≤ 90 <;> simp [h1, h2, h3, h4])
theorem run69 (c : Int) : S69 c = some (letterB c) := evv_eq (Evt.now fun k => by
  show b69 c = _
  unfold b69 letterB
  by_cases h1 : 97 ≤ c <;> by_cases h2 : c ≤ 122 <;> by_cases h3 : 65 ≤ c <;> by_cases h4 : c ≤ 90 <;> simp [h1, h2, h3, h4])
theorem run72 (c : Int) : S72 c = some (digB c) := evv_eq (Evt.now fun k => by
  show b72 c = _
  unfold b72 digB
  by_cases h1 : 48 ≤ c <;> simp [h1])
theorem run65 (c : Int) : S65 c = some (digB c) := evv_eq (Evt.now fun k => by
  show b65 c = _
  unfold b65 digB
  by_cases h1 : 48 ≤ c <;> simp [h1])
theorem run71 (c : Int) : S71 c = some (nameB c) := evv_eq (Evt.now fun k => by
  show b71 c = _
  unfold b71 nameB
  rw [run69, run72]
  cases letterB c <;> rfl)
def cnt (f : Int → Bool) (s : ByteArray) : Nat → Nat → Nat
  | 0, _ => 0
  | n + 1, i => if f (bt s i) = true then cnt f s n (i + 1) + 1 else 0
def runB (f : Int → Bool) (s : ByteArray) (i : Nat) : Nat := cnt f s (s.size - i) i
theorem cnt_le (f : Int → Bool) (s : ByteArray) : ∀ n i, cnt f s n i ≤ n
  | 0, _ => Nat.le_refl _
  | n + 1, i => by
    unfold cnt
    split
    · have := cnt_le f s n (i + 1); omega
    · omega
theorem runB_le (f : Int → Bool) (s : ByteArray) (i : Nat) (h : i ≤ s.size) : i + runB f s i ≤ s.size := by
  have := cnt_le f s (s.size - i) i
  unfold runB; omega
theorem cnt_all (f : Int → Bool) (s : ByteArray) : ∀ n i j, j < cnt f s n i → f (bt s ((i + j : Nat) : Int)) = true
  | 0, _, j, h => absurd h (Nat.not_lt_zero _)
  | n + 1, i, j, h => by
    unfold cnt at h
    split at h
    · rename_i hf
      cases j with
      | zero => exact hf
      | succ j =>
        have := cnt_all f s n (i + 1) j (by omega)
        rw [show i + (j + 1) = i + 1 + j by omega]; exact this
    · exact absurd h (Nat.not_lt_zero _)
theorem runB_all {f : Int → Bool} {s : ByteArray} {i j : Nat} (h : j < runB f s i) : f (bt s ((i + j : Nat) : Int)) = true := cnt_all f s _ i j h
theorem cnt_end (f : Int → Bool) (s : ByteArray) : ∀ n i, cnt f s n i < n → f (bt s ((i + cnt f s n i : Nat) : Int)) = false
  | 0, _, h => absurd h (Nat.not_lt_zero _)
  | n + 1, i, h => by
    unfold cnt at h ⊢
    split at h
    · rename_i hf
      rw [if_pos hf]
      have := cnt_end f s n (i + 1) (by omega)
      rw [show i + (cnt f s n (i + 1) + 1) = i + 1 + cnt f s n (i + 1) by omega]; exact this
    · rename_i hf
      rw [if_neg hf]
      exact Bool.eq_false_iff.2 hf
theorem runB_end {f : Int → Bool} {s : ByteArray} {i : Nat} (h : i + runB f s i < s.size) : f (bt s ((i + runB f s i : Nat) : Int)) = false := cnt_end f s _ i (by unfold runB at h; omega)
theorem scan {R : Type} {g : Nat → Int → Option R} {f : Int → Bool} {s : ByteArray} {r : Nat → R} {lo : Nat}
    (hs : ∀ j k : Nat, lo ≤ j → j < s.size → f (bt s (j : Int)) = true → g (k + 1) (j : Int) = g k ((j + 1 : Nat) : Int))
    (he : ∀ j k : Nat, lo ≤ j → j ≤ s.size → (j < s.size → f (bt s (j : Int)) = false) → g (k + 1) (j : Int) = some (r j)) :
    ∀ n i, lo ≤ i → i + n = s.size → Evt (fun k => g k (i : Int)) (r (i + cnt f s n i))
  | 0, i, h0, h => Evt.last fun k => he i k h0 (by omega) (fun h' => by omega)
  | n + 1, i, h0, h => by
    unfold cnt
    by_cases hf : f (bt s (i : Int)) = true
    · rw [if_pos hf]
      have := scan (r := r) hs he n (i + 1) (by omega) (by omega)
      rw [show i + 1 + cnt f s n (i + 1) = i + (cnt f s n (i + 1) + 1) by omega] at this
      exact Evt.step this fun k => hs i k h0 (by omega) hf
    · rw [if_neg hf]
      exact Evt.last fun k => he i k h0 (by omega) fun _ => Bool.eq_false_iff.2 hf
theorem scanB {R : Type} {g : Nat → Int → Option R} {f : Int → Bool} {s : ByteArray} {r : Nat → R} {i : Nat} (hi : i ≤ s.size)
    (hs : ∀ j k : Nat, i ≤ j → j < s.size → f (bt s (j : Int)) = true → g (k + 1) (j : Int) = g k ((j + 1 : Nat) : Int))
    (he : ∀ j k : Nat, i ≤ j → j ≤ s.size → (j < s.size → f (bt s (j : Int)) = false) → g (k + 1) (j : Int) = some (r j)) :
    Evt (fun k => g k (i : Int)) (r (i + runB f s i)) := scan hs he (s.size - i) i (Nat.le_refl _) (by omega)
section
variable {s : ByteArray} (hz : s.size ≤ 65536)
include hz
theorem run70d {p1 : Int} {p2 : List TokT} {i : Nat} (hi : i ≤ s.size) : S70d s p1 p2 (i : Int) = some ((runB digB s i : Int), s, p1, p2) := evv_eq (by
  have := scanB (f := digB) (s := s) (g := f70d_2 s p1 p2 i) (r := fun j => ((j : Int) - i, s, p1, p2)) (i := i) hi (fun j k h0 hj hf => by
    show b70d_2 s p1 p2 i (f70d_2 s p1 p2 i k) j = _
    unfold b70d_2
    rw [cT (by omega), cT (by omega), cT (by omega), run72, hf]
    simp only [Option.bind_some, cond_true]
    rw [wi64 (by omega) (by omega)]; rfl) (fun j k h0 hj hf => by
    show b70d_2 s p1 p2 i (f70d_2 s p1 p2 i k) j = _
    unfold b70d_2
    have e : IntKind.i64.wrap ((j : Int) - i) = (j : Int) - i := wi64 (by omega) (by omega)
    by_cases h : j < s.size
    · rw [cT (by omega), cT (by omega), cT (by omega), run72, hf h]
      simp only [Option.bind_some, cond_false]
      rw [e]
    · rw [cF (by omega), e])
  rw [show ((i + runB digB s i : Nat) : Int) - i = (runB digB s i : Int) by omega] at this
  exact this.same fun k => rfl)
theorem run70n {p1 : Int} {p2 : List TokT} {i : Nat} (hi : i ≤ s.size) : S70n s p1 p2 (i : Int) = some ((runB nameB s i : Int), s, p1, p2) := evv_eq (by
  have := scanB (f := nameB) (s := s) (g := f70n_2 s p1 p2 i) (r := fun j => ((j : Int) - i, s, p1, p2)) (i := i) hi (fun j k h0 hj hf => by
    show b70n_2 s p1 p2 i (f70n_2 s p1 p2 i k) j = _
    unfold b70n_2
    rw [cT (by omega), cT (by omega), cT (by omega), run71, hf]
    simp only [Option.bind_some, cond_true]
    rw [wi64 (by omega) (by omega)]; rfl) (fun j k h0 hj hf => by
    show b70n_2 s p1 p2 i (f70n_2 s p1 p2 i k) j = _
    unfold b70n_2
    have e : IntKind.i64.wrap ((j : Int) - i) = (j : Int) - i := wi64 (by omega) (by omega)
    by_cases h : j < s.size
    · rw [cT (by omega), cT (by omega), cT (by omega), run71, hf h]
      simp only [Option.bind_some, cond_false]
      rw [e]
    · rw [cF (by omega), e])
  rw [show ((i + runB nameB s i : Nat) : Int) - i = (runB nameB s i : Int) by omega] at this
  exact this.same fun k => rfl)
theorem run86 {i : Nat} (hi : i ≤ s.size) : S86 s (i : Int) = some (runB digB s i : Int) := evv_eq (by
  have := scanB (f := digB) (s := s) (g := fun k j => f86_2 s i k (j - i)) (r := fun j => ((j : Int) - i)) (i := i) hi (fun j k h0 hj hf => by
    show b86_2 s i (f86_2 s i k) (j - i) = _
    unfold b86_2
    rw [show (i : Int) + (j - i) = j by omega, wi64 (by omega) (by omega), cT (by omega), cT (by omega), cT (by omega), run65, hf]
    simp only [Option.bind_some, cond_true]
    rw [wi64 (by omega) (by omega), show (j : Int) - i + 1 = ((j + 1 : Nat) : Int) - i by omega]) (fun j k h0 hj hf => by
    show b86_2 s i (f86_2 s i k) (j - i) = _
    unfold b86_2
    rw [show (i : Int) + (j - i) = j by omega, wi64 (by omega) (by omega)]
    by_cases h : j < s.size
    · rw [cT (by omega), cT (by omega), cT (by omega), run65, hf h]
      rfl
    · rw [cF (by omega)])
  rw [show ((i + runB digB s i : Nat) : Int) - i = (runB digB s i : Int) by omega] at this
  exact this.same fun k => by
    show f86_2 s i k 0 = f86_2 s i k ((i : Int) - i)
    rw [Int.sub_self])
end
end Go.Abs.Z
namespace Go.Abs.Z
open Go Go.Abs Limb Num
theorem w64 {x : Int} (h0 : 0 ≤ x) (h1 : x < 18446744073709551616) : IntKind.u64.wrap x = x := by rw [wu64]; omega
theorem mulStep {out : List Int} {x y : Int} {i n : Nat} (ho : Ok out) (hl : out.length = n + 1) (hi : i < n) (hz : ∀ j, i < j → out.getD j 0 = 0) (hx : 0 ≤ x) (hx' : x < 4294967296) (hy : 0 ≤ y) (hy' : y < 4294967296) :
    0 ≤ x * y + out.getD i 0 ∧ x * y + out.getD i 0 < 18446744073709551616 ∧
    Ok ((out.set i ((x * y + out.getD i 0) % 4294967296)).set (i + 1) ((x * y + out.getD i 0) / 4294967296)) ∧
    (∀ j, i + 1 < j → ((out.set i ((x * y + out.getD i 0) % 4294967296)).set (i + 1) ((x * y + out.getD i 0) / 4294967296)).getD j 0 = 0) ∧
    val ((out.set i ((x * y + out.getD i 0) % 4294967296)).set (i + 1) ((x * y + out.getD i 0) / 4294967296)) = val out + x * y * P i := by
  have o1 := ho.rd (i : Int)
  unfold rd at o1
  rw [Int.toNat_natCast] at o1
  have m0 : 0 ≤ x * y := Int.mul_nonneg hx hy
  have m1 : x * y ≤ 4294967295 * 4294967295 := Int.mul_le_mul (by omega) (by omega) hy (by omega)
  generalize ht : x * y + out.getD i 0 = t at *
  refine ⟨by omega, by omega, (ho.set _ (by omega) (by omega)).set _ (by omega) (by omega), fun j hj => ?_, ?_⟩
  · have := hz j (by omega)
    rw [List.getD_eq_getElem?_getD] at this ⊢
    rw [List.getElem?_set_ne (by omega), List.getElem?_set_ne (by omega)]
    exact this
  · have z1 : (out.set i (t % 4294967296)).getD (i + 1) 0 = 0 := by
      have := hz (i + 1) (by omega)
      rw [List.getD_eq_getElem?_getD] at this ⊢
      rw [List.getElem?_set_ne (by omega)]
      exact this
    rw [val_set _ _ _ (by rw [List.length_set]; omega), val_set _ _ _ (by omega), z1, P_succ]
    have e1 : t = 4294967296 * (t / 4294967296) + t % 4294967296 := (Int.mul_ediv_add_emod t 4294967296).symm
    have e2 : x * y = t - out.getD i 0 := by omega
    rw [e2]
    generalize t / 4294967296 = q at *
    generalize t % 4294967296 = r at *
    generalize P i = p at *
    generalize out.getD i 0 = o at *
    subst e1
    rw [Int.sub_zero, show (4294967296 * q + r - o) * p = (r - o) * p + q * (4294967296 * p) by
      rw [show q * (4294967296 * p) = (4294967296 * q) * p by rw [← Int.mul_assoc, Int.mul_comm q]]
      rw [← Int.add_mul]; congr 1; omega]
    omega
theorem loop133 {a : List Int} {y : Int} (ha : Ok a) (hl : a.length ≤ 4096) (hy : 0 ≤ y) (hy' : y < 4294967296) : ∀ (m i : Nat) (out : List Int), i + m = a.length → out.length = a.length + 1 → Ok out → (∀ j, i < j → out.getD j 0 = 0) → val out = val (a.take i) * y →
    ∃ r, Evt (fun k => f133_3 a [y] k (i : Int) out) r ∧ Ok r ∧ r.length = a.length + 1 ∧ val r = val a * y
  | 0, i, out, hi, hol, ho, hz, hv => by
    refine ⟨out, Evt.last fun k => ?_, ho, hol, ?_⟩
    · show b133_3 a [y] (f133_3 a [y] k) (f133_7 a [y] k) (i : Int) out = _
      unfold b133_3
      rw [cF (by omega)]
    · rw [List.take_of_length_le (by omega)] at hv; exact hv
  | m + 1, i, out, hi, hol, ho, hz, hv => by
    have hx := ha.rd (i : Int)
    unfold rd at hx
    rw [Int.toNat_natCast] at hx
    have o1 := ho.rd (i : Int)
    unfold rd at o1
    rw [Int.toNat_natCast] at o1
    obtain ⟨t0, t1, q1, q2, q3⟩ := mulStep (n := a.length) ho hol (by omega) hz hx.1 hx.2 hy hy'
    have m0 : 0 ≤ a.getD i 0 * y := Int.mul_nonneg hx.1 hy
    generalize hT : a.getD i 0 * y + out.getD i 0 = T at *
    obtain ⟨r, h1, h2, h3, h4⟩ := loop133 ha hl hy hy' m (i + 1) _ (by omega) (by simpa using hol) q1 q2 (by
      rw [q3, hv, val_take_succ a i (by omega), Int.add_mul, Int.mul_right_comm (a.getD i 0)])
    have ei : IntKind.i64.wrap ((i : Int) + 1) = ((i + 1 : Nat) : Int) := by rw [wi64] <;> omega
    have e0 : IntKind.i64.wrap ((i : Int) + 0) = (i : Int) := by rw [wi64] <;> omega
    have el : (([y].length : Nat) : Int) = 1 := rfl
    refine ⟨r, Evt.step (g := fun k => f133_7 a [y] k (i : Int) (a.getD i 0) 0 (i : Int) 0 out) (Evt.step (g := fun k => f133_7 a [y] k (i : Int) (a.getD i 0) (T / 4294967296) (i : Int) 1 (out.set i (T % 4294967296))) (Evt.step h1 fun k => ?_) fun k => ?_) fun k => ?_, h2, h3, h4⟩
    · show b133_7 a [y] (f133_3 a [y] k) (f133_7 a [y] k) (i : Int) (a.getD i 0) (T / 4294967296) (i : Int) 1 (out.set i (T % 4294967296)) = _
      unfold b133_7
      rw [el, ei]
      simp only [Int.toNat_natCast, List.length_set]
      rw [cF (by omega), cT (by omega), cT (by omega), cT (by omega), wu32, Int.emod_eq_of_lt (show 0 ≤ T / 4294967296 by omega) (by omega)]
    · show b133_7 a [y] (f133_3 a [y] k) (f133_7 a [y] k) (i : Int) (a.getD i 0) 0 (i : Int) 0 out = _
      unfold b133_7
      have ey : [y].getD (Int.toNat 0) (X.dflt 105) = y := rfl
      rw [el, e0, ey]
      simp only [Int.toNat_natCast, dflt105]
      have es : shr .u64 T 32 = T / 4294967296 := shr64 32 (by decide)
      rw [w64 hx.1 (by omega), w64 hy (by omega), w64 o1.1 (by omega), w64 m0 (by omega), hT, w64 t0 t1, Int.add_zero, w64 t0 t1, wu32, es]
      simp (disch := omega) only [cT]
      rfl
    · show b133_3 a [y] (f133_3 a [y] k) (f133_7 a [y] k) (i : Int) out = _
      unfold b133_3
      simp only [Int.toNat_natCast, dflt105]
      simp (disch := omega) only [cT]
      try rfl
theorem run133 {a : List Int} {y : Int} (ha : Ok a) (hl : a.length ≤ 4096) (hy : 0 ≤ y) (hy' : y < 4294967296) : ∃ r, S133 a [y] = some r ∧ Ok r ∧ r.length = a.length + 1 ∧ val r = val a * y := by
  obtain ⟨r, h1, h2, h3, h4⟩ := loop133 ha hl hy hy' a.length 0 (List.replicate (a.length + 1) 0) (by omega) (by simp) (Ok.replicate _) (fun j _ => by
    rw [List.getD_eq_getElem?_getD, List.getElem?_replicate]; split <;> rfl) (by rw [val_replicate]; show 0 = 0 * y; omega)
  refine ⟨r, evv_eq (h1.same fun k => ?_), h2, h3, h4⟩
  show b133 a [y] _ _ = _
  unfold b133
  have el : (([y].length : Nat) : Int) = 1 := rfl
  have e1 : IntKind.i64.wrap ((a.length : Int) + 1) = ((a.length + 1 : Nat) : Int) := by rw [wi64] <;> omega
  rw [el, e1, cT (by omega), cT (by omega), cT (by omega)]
  rfl
theorem loop106 {a : List Int} {y : Int} (ha : Ok a) (hl : a.length ≤ 4096) (hy : 0 ≤ y) (hy' : y < 4294967296) : ∀ (m i : Nat) (out : List Int), i + m = a.length → out.length = a.length + 1 → Ok out → (∀ j, i < j → out.getD j 0 = 0) → val out = val (a.take i) * y →
    ∃ r, Evt (fun k => f106_3 a [y] k (i : Int) out) r ∧ Ok r ∧ r.length = a.length + 1 ∧ val r = val a * y
  | 0, i, out, hi, hol, ho, hz, hv => by
    refine ⟨out, Evt.last fun k => ?_, ho, hol, ?_⟩
    · show b106_3 a [y] (f106_3 a [y] k) (f106_7 a [y] k) (i : Int) out = _
      unfold b106_3
      rw [cF (by omega)]
    · rw [List.take_of_length_le (by omega)] at hv; exact hv
  | m + 1, i, out, hi, hol, ho, hz, hv => by
    have hx := ha.rd (i : Int)
    unfold rd at hx
    rw [Int.toNat_natCast] at hx
    have o1 := ho.rd (i : Int)
    unfold rd at o1
    rw [Int.toNat_natCast] at o1
    obtain ⟨t0, t1, q1, q2, q3⟩ := mulStep (n := a.length) ho hol (by omega) hz hx.1 hx.2 hy hy'
    have m0 : 0 ≤ a.getD i 0 * y := Int.mul_nonneg hx.1 hy
    generalize hT : a.getD i 0 * y + out.getD i 0 = T at *
    obtain ⟨r, h1, h2, h3, h4⟩ := loop106 ha hl hy hy' m (i + 1) _ (by omega) (by simpa using hol) q1 q2 (by
      rw [q3, hv, val_take_succ a i (by omega), Int.add_mul, Int.mul_right_comm (a.getD i 0)])
    have ei : IntKind.i64.wrap ((i : Int) + 1) = ((i + 1 : Nat) : Int) := by rw [wi64] <;> omega
    have e0 : IntKind.i64.wrap ((i : Int) + 0) = (i : Int) := by rw [wi64] <;> omega
    have el : (([y].length : Nat) : Int) = 1 := rfl
    refine ⟨r, Evt.step (g := fun k => f106_7 a [y] k (i : Int) 0 0 out) (Evt.step (g := fun k => f106_7 a [y] k (i : Int) (T / 4294967296) 1 (out.set i (T % 4294967296))) (Evt.step h1 fun k => ?_) fun k => ?_) fun k => ?_, h2, h3, h4⟩
    · show b106_7 a [y] (f106_3 a [y] k) (f106_7 a [y] k) (i : Int) (T / 4294967296) 1 (out.set i (T % 4294967296)) = _
      unfold b106_7
      rw [el, ei]
      simp only [Int.toNat_natCast, List.length_set]
      rw [cF (by omega), cT (by omega), cT (by omega), cT (by omega), wu32, Int.emod_eq_of_lt (show 0 ≤ T / 4294967296 by omega) (by omega)]
    · show b106_7 a [y] (f106_3 a [y] k) (f106_7 a [y] k) (i : Int) 0 0 out = _
      unfold b106_7
      have ey : [y].getD (Int.toNat 0) (X.dflt 105) = y := rfl
      rw [el, e0, ey]
      simp only [Int.toNat_natCast, dflt105]
      have es : shr .u64 T 32 = T / 4294967296 := shr64 32 (by decide)
      rw [w64 hx.1 (by omega), w64 hy (by omega), w64 o1.1 (by omega), w64 m0 (by omega), hT, w64 t0 t1, Int.add_zero, w64 t0 t1, wu32, es]
      simp (disch := omega) only [cT]
      rfl
    · show b106_3 a [y] (f106_3 a [y] k) (f106_7 a [y] k) (i : Int) out = _
      unfold b106_3
      simp (disch := omega) only [cT]
      try rfl
theorem run106 {a : List Int} {y : Int} (ha : Ok a) (hl : a.length ≤ 4096) (hy : 0 ≤ y) (hy' : y < 4294967296) : ∃ r, S106 a [y] = some r ∧ Ok r ∧ r.length = a.length + 1 ∧ val r = val a * y := by
  obtain ⟨r, h1, h2, h3, h4⟩ := loop106 ha hl hy hy' a.length 0 (List.replicate (a.length + 1) 0) (by omega) (by simp) (Ok.replicate _) (fun j _ => by
    rw [List.getD_eq_getElem?_getD, List.getElem?_replicate]; split <;> rfl) (by rw [val_replicate]; show 0 = 0 * y; omega)
  refine ⟨r, evv_eq (h1.same fun k => ?_), h2, h3, h4⟩
  show b106 a [y] _ _ = _
  unfold b106
  have el : (([y].length : Nat) : Int) = 1 := rfl
  have e1 : IntKind.i64.wrap ((a.length : Int) + 1) = ((a.length + 1 : Nat) : Int) := by rw [wi64] <;> omega
  rw [el, e1, cT (by omega), cT (by omega), cT (by omega)]
  rfl
end Go.Abs.Z
namespace Go.Abs.Z
open Go Go.Abs Limb Num
theorem take_any (l : List Int) (i : Nat) : val (l.take (i + 1)) = val (l.take i) + l.getD i 0 * P i := by
  by_cases h : i < l.length
  · exact val_take_succ l i h
  · rw [List.take_of_length_le (by omega), List.take_of_length_le (by omega), List.getD_eq_getElem?_getD, List.getElem?_eq_none (by omega)]
    show _ = _ + 0 * P i
    omega
theorem getDok {l : List Int} (h : Ok l) (i : Nat) : 0 ≤ l.getD i 0 ∧ l.getD i 0 < 4294967296 := by
  have := h.rd (i : Int)
  unfold rd at this
  rwa [Int.toNat_natCast] at this
theorem split_mul (t p : Int) : t * p = t % 4294967296 * p + t / 4294967296 * (4294967296 * p) := by
  have e1 : t = 4294967296 * (t / 4294967296) + t % 4294967296 := (Int.mul_ediv_add_emod t 4294967296).symm
  rw [show t / 4294967296 * (4294967296 * p) = (4294967296 * (t / 4294967296)) * p by rw [← Int.mul_assoc, Int.mul_comm (t / 4294967296)], ← Int.add_mul]
  congr 1; omega
theorem addStep {out : List Int} {c s t : Int} {i : Nat} (hi : i < out.length) (hz : out.getD i 0 = 0) (hv : val out + c * P i = s) :
    val (out.set i ((t + c) % 4294967296)) + (t + c) / 4294967296 * P (i + 1) = s + t * P i := by
  rw [val_set _ _ _ hi, hz, P_succ, Int.sub_zero, Int.add_assoc, ← split_mul, Int.add_mul]
  omega
theorem loop132 {a b : List Int} (ha : Ok a) (hb : Ok b) (hl : a.length ≤ 8192) : ∀ (m i : Nat) (c : Int) (out : List Int), i + m = a.length → b.length ≤ a.length → out.length = a.length + 1 → Ok out → 0 ≤ c → c ≤ 1 → (∀ j, i ≤ j → out.getD j 0 = 0) → val out + c * P i = val (a.take i) + val (b.take i) →
    ∃ r, Evt (fun k => f132_6 a b k a b c (a.length : Int) (i : Int) out) r ∧ Ok r ∧ r.length = a.length + 1 ∧ val r = val a + val b
  | 0, i, c, out, hi, hbl, hol, ho, h0, h1, hz, hv => by
    refine ⟨out.set a.length c, Evt.last fun k => ?_, ho.set _ h0 (by omega), by simpa using hol, ?_⟩
    · show b132_6 a b (f132_6 a b k) a b c (a.length : Int) (i : Int) out = _
      unfold b132_6
      rw [cF (by omega)]
      simp only [Int.toNat_natCast]
      simp (disch := omega) only [cT]
    · have : i = a.length := by omega
      subst this
      rw [val_set _ _ _ (by omega), hz _ (Nat.le_refl _), Int.sub_zero, hv, List.take_of_length_le (Nat.le_refl _), List.take_of_length_le hbl]
  | m + 1, i, c, out, hi, hbl, hol, ho, h0, h1, hz, hv => by
    have hx := getDok ha i
    have hy := getDok hb i
    have st := addStep (t := a.getD i 0 + b.getD i 0) (by omega) (hz i (Nat.le_refl _)) hv
    obtain ⟨r, g1, g2⟩ := loop132 ha hb hl m (i + 1) ((a.getD i 0 + b.getD i 0 + c) / 4294967296) (out.set i ((a.getD i 0 + b.getD i 0 + c) % 4294967296)) (by omega) hbl (by simpa using hol) (ho.set _ (by omega) (by omega)) (by omega) (by omega) (fun j hj => by
      have := hz j (by omega)
      rw [List.getD_eq_getElem?_getD] at this ⊢
      rw [List.getElem?_set_ne (by omega)]; exact this) (by
      rw [st, take_any, take_any, Int.add_mul]; omega)
    refine ⟨r, Evt.step g1 fun k => ?_, g2⟩
    have ei : IntKind.i64.wrap ((i : Int) + 1) = ((i + 1 : Nat) : Int) := by rw [wi64] <;> omega
    show b132_6 a b (f132_6 a b k) a b c (a.length : Int) (i : Int) out = _
    unfold b132_6
    simp only [Int.toNat_natCast, dflt105, ei]
    by_cases hb1 : i < b.length
    · rw [run128 hx.1 hx.2 hy.1 hy.2 h0 (by omega)]
      simp only [Option.bind_some]
      simp (disch := omega) only [cT]
    · have hy0 : b.getD i 0 = 0 := by rw [List.getD_eq_getElem?_getD, List.getElem?_eq_none (by omega)]; rfl
      rw [hy0, run128 hx.1 hx.2 (Int.le_refl 0) (by omega) h0 (by omega)]
      simp only [Option.bind_some]
      simp (disch := omega) only [cT, cF]
theorem run132 {a b : List Int} (ha : Ok a) (hb : Ok b) (hl : a.length ≤ 8192) (hbl : b.length ≤ a.length) : ∃ r, S132 a b = some r ∧ Ok r ∧ r.length = a.length + 1 ∧ val r = val a + val b := by
  obtain ⟨r, h1, h2⟩ := loop132 ha hb hl a.length 0 0 (List.replicate (a.length + 1) 0) (by omega) hbl (by simp) (Ok.replicate _) (Int.le_refl 0) (by omega) (fun j _ => by
    rw [List.getD_eq_getElem?_getD, List.getElem?_replicate]; split <;> rfl) (by rw [val_replicate]; rfl)
  refine ⟨r, evv_eq (h1.same fun k => ?_), h2⟩
  show b132 a b _ = _
  unfold b132
  have e1 : IntKind.i64.wrap ((a.length : Int) + 1) = ((a.length + 1 : Nat) : Int) := by rw [wi64] <;> omega
  rw [cF (by omega), e1, cT (by omega), cT (by omega), cT (by omega)]
  rfl
theorem loop105 {a b : List Int} (ha : Ok a) (hb : Ok b) (hl : a.length ≤ 8192) : ∀ (m i : Nat) (c : Int) (out : List Int), i + m = a.length → b.length ≤ a.length → out.length = i → Ok out → 0 ≤ c → c ≤ 1 → val out + c * P i = val (a.take i) + val (b.take i) →
    ∃ r, Evt (fun k => f105_4 a b k c (i : Int) out) r ∧ Ok r ∧ r.length = a.length + 1 ∧ val r = val a + val b
  | 0, i, c, out, hi, hbl, hol, ho, h0, h1, hv => by
    refine ⟨out ++ [c], Evt.last fun k => ?_, ho.append (Ok.mk h0 (by omega) Ok.nil), by simp; omega, ?_⟩
    · show b105_4 a b (f105_4 a b k) c (i : Int) out = _
      unfold b105_4
      rw [cF (by omega), cF (by omega), cT (by omega), wu32, Int.emod_eq_of_lt h0 (by omega)]
    · have : i = a.length := by omega
      subst this
      rw [val_append, hol]
      have : val [c] = c := by simp [val]
      rw [this, Int.mul_comm, hv, List.take_of_length_le (Nat.le_refl _), List.take_of_length_le hbl]
  | m + 1, i, c, out, hi, hbl, hol, ho, h0, h1, hv => by
    have hx := getDok ha i
    have hy := getDok hb i
    generalize ht : a.getD i 0 + b.getD i 0 + c = t at *
    obtain ⟨r, g1, g2⟩ := loop105 ha hb hl m (i + 1) (t / 4294967296) (out ++ [t % 4294967296]) (by omega) hbl (by simp; omega) (ho.append (Ok.mk (by omega) (by omega) Ok.nil)) (by omega) (by omega) (by
      have : val [t % 4294967296] = t % 4294967296 := by simp [val]
      rw [val_append, hol, this, P_succ, Int.add_assoc, Int.mul_comm (P i), ← split_mul, ← ht, take_any, take_any, Int.add_mul, Int.add_mul]
      omega)
    refine ⟨r, Evt.step g1 fun k => ?_, g2⟩
    have ei : IntKind.i64.wrap ((i : Int) + 1) = ((i + 1 : Nat) : Int) := by rw [wi64] <;> omega
    have es : shr .u64 t 32 = t / 4294967296 := shr64 32 (by decide)
    show b105_4 a b (f105_4 a b k) c (i : Int) out = _
    unfold b105_4
    rw [cT (by omega), run115 ha, run115 hb]
    simp only [Option.bind_some]
    rw [cT (by omega), w64 (x := a.getD i 0 + b.getD i 0) (by omega) (by omega), ht, w64 (by omega) (by omega), es, wu32, ei]
theorem run105 {a b : List Int} (ha : Ok a) (hb : Ok b) (hl : a.length ≤ 8192) (hbl : b.length ≤ a.length) : ∃ r, S105 a b = some r ∧ Ok r ∧ r.length = a.length + 1 ∧ val r = val a + val b := by
  obtain ⟨r, h1, h2⟩ := loop105 ha hb hl a.length 0 0 [] (by omega) hbl rfl Ok.nil (Int.le_refl 0) (by omega) rfl
  exact ⟨r, evv_eq (h1.same fun k => rfl), h2⟩
end Go.Abs.Z
namespace Go.Abs.Z
open Go Go.Abs Limb Num
def dval (s : ByteArray) : Nat → Int
  | 0 => 0
  | n + 1 => dval s n * 10 + (bt s (n : Int) - 48)
def Digs (s : ByteArray) : Prop := ∀ i, i < s.size → digB (bt s (i : Int)) = true
theorem digB_iff {c : Int} : digB c = true ↔ 48 ≤ c ∧ c ≤ 57 := by simp [digB]
theorem run104 {c : Int} (h : digB c = true) : S104 c = some (c - 48) := evv_eq (Evt.now fun k => by
  have hc := digB_iff.1 h
  show b104 c = _
  unfold b104
  rw [cT (by omega), cT (by omega), wi64 (x := c) (by omega) (by omega), wi64 (by omega) (by omega)])
theorem run129 {c : Int} (h : digB c = true) : S129 c = some (c - 48) := evv_eq (Evt.now fun k => by
  have hc := digB_iff.1 h
  show b129 c = _
  unfold b129
  rw [cT (by omega), cT (by omega), wu8, Int.emod_eq_of_lt (by omega) (by omega), wi64 (by omega) (by omega)])
theorem run89 {x : Int} (h0 : 0 ≤ x) (h1 : x < 4294967296) : ∃ r, S89 x = some r ∧ Is r x := by
  have es : shr .u64 x 32 = x / 4294967296 := shr64 32 (by decide)
  obtain ⟨r, e1, e2⟩ := run81 (l := [x, 0]) (Ok.mk h0 h1 (Ok.mk (by omega) (by omega) Ok.nil)) (by simp)
  have ev : val [x, 0] = x := by simp [val]
  rw [ev] at e2
  refine ⟨r, evv_eq (Evt.now fun k => ?_), e2⟩
  show b89 x = _
  unfold b89
  rw [es, wu32, wu32, Int.emod_eq_of_lt h0 h1, show x / 4294967296 = 0 by omega, show (0 : Int) % 4294967296 = 0 from rfl, e1]
  rfl
theorem dval_ge {s : ByteArray} (hd : Digs s) : ∀ n, n ≤ s.size → 0 ≤ dval s n
  | 0, _ => Int.le_refl 0
  | n + 1, h => by
    have := dval_ge hd n (by omega)
    have := digB_iff.1 (hd n (by omega))
    unfold dval; omega
theorem dval_mono {s : ByteArray} (hd : Digs s) {i : Nat} : ∀ m, i + m ≤ s.size → dval s i ≤ dval s (i + m)
  | 0, _ => Int.le_refl _
  | m + 1, h => by
    have h1 := dval_mono hd (i := i) m (by omega)
    have h2 := dval_ge hd (i + m) (by omega)
    have h3 := digB_iff.1 (hd (i + m) (by omega))
    show dval s i ≤ dval s (i + m) * 10 + (bt s ((i + m : Nat) : Int) - 48)
    omega
def ParseO (s : ByteArray) (l : List Int) (e : Int) : Prop := (dval s s.size < P 2048 ∧ e = 0 ∧ Is l (dval s s.size) ∧ l.length ≤ 2048) ∨ (P 2048 ≤ dval s s.size ∧ e = 2)
theorem big_of {l : List Int} {v : Int} (h : Is l v) (hl : 2048 < l.length) : P 2048 ≤ v := by
  have := Norm.low h.ok h.norm (fun e => by rw [e] at hl; simp at hl)
  rw [h.val] at this
  exact Int.le_trans (P_mono (by omega)) this
theorem loop87 {s : ByteArray} (hz : s.size ≤ 65536) (hd : Digs s) : ∀ (m i : Nat) (l : List Int), i + m = s.size → Is l (dval s i) → l.length ≤ 2048 →
    ∃ r e, Evt (fun k => f87_14 s 10 k l (i : Int)) (r, 0, e) ∧ ParseO s r e
  | 0, i, l, hi, hl, hll => by
    obtain rfl : i = s.size := by omega
    refine ⟨l, 0, Evt.last fun k => ?_, .inl ⟨is_lt hl hll, rfl, hl, hll⟩⟩
    show b87_14 s 10 (f87_8 s 10 k) (f87_14 s 10 k) l (s.size : Int) = _
    unfold b87_14
    rw [cF (by omega)]
  | m + 1, i, l, hi, hl, hll => by
    have hc := hd i (by omega)
    have hc' := digB_iff.1 hc
    obtain ⟨r0, a0, a0'⟩ := run89 (x := 10) (by omega) (by omega)
    have e10 : r0 = [10] := a0'.inj ⟨Ok.mk (by decide) (by decide) Ok.nil, .inr (by decide), by decide⟩
    subst e10
    obtain ⟨r1, a1, b1, c1, d1⟩ := run106 (y := 10) hl.ok (by omega) (by omega) (by omega)
    obtain ⟨r3, a3, a3'⟩ := run89 (x := bt s (i : Int) - 48) (by omega) (by omega)
    have l3 : r3.length ≤ 1 := is_len a3' (by show _ < (4294967296 : Int) ^ 1; omega)
    obtain ⟨r4, a4, b4, c4, d4⟩ := run105 b1 a3'.ok (by omega) (by omega)
    obtain ⟨r5, a5, b5⟩ := run81 b4 (by omega)
    rw [d4, d1, hl.val, a3'.val] at b5
    have b5 : Is r5 (dval s (i + 1)) := b5
    have ei : IntKind.i64.wrap ((i : Int) + 1) = ((i + 1 : Nat) : Int) := by rw [wi64] <;> omega
    have st : ∀ k, f87_14 s 10 (k + 1) l (i : Int) = cond (decide ((r5.length : Int) > 2048)) (some ([], 0, 2)) (f87_14 s 10 k r5 ((i + 1 : Nat) : Int)) := fun k => by
      show b87_14 s 10 (f87_8 s 10 k) (f87_14 s 10 k) l (i : Int) = _
      unfold b87_14
      rw [cT (by omega), w64 (x := 10) (by omega) (by omega), a0]
      simp only [Option.bind_some]
      rw [a1]
      simp only [Option.bind_some]
      rw [cT (by omega), cT (by omega), run104 hc]
      simp only [Option.bind_some]
      rw [w64 (by omega) (by omega), a3]
      simp only [Option.bind_some]
      rw [a4]
      simp only [Option.bind_some]
      rw [a5, ei]
      rfl
    by_cases hbig : r5.length ≤ 2048
    · obtain ⟨r, e, h1, h2⟩ := loop87 hz hd m (i + 1) r5 (by omega) b5 hbig
      exact ⟨r, e, Evt.step h1 fun k => by rw [st, cF (by omega)], h2⟩
    · refine ⟨[], 2, Evt.last fun k => by rw [st, cT (by omega)], .inr ⟨?_, rfl⟩⟩
      have := dval_mono hd (i := i + 1) m (by omega)
      rw [show i + 1 + m = s.size by omega] at this
      exact Int.le_trans (big_of b5 (by omega)) this
theorem loop87c {s : ByteArray} (hz : s.size ≤ 65536) (hd : Digs s) {r : List Int} {e : Int} (h : Evt (fun k => f87_14 s 10 k [] 0) (r, 0, e)) : ∀ (m i : Nat), i + m = s.size → Evt (fun k => f87_8 s 10 k (i : Int)) (r, 0, e)
  | 0, i, hi => Evt.step h fun k => by
    show b87_8 s 10 (f87_8 s 10 k) (f87_14 s 10 k) (i : Int) = _
    unfold b87_8
    rw [cF (by omega)]
  | m + 1, i, hi => Evt.step (loop87c hz hd h m (i + 1) (by omega)) fun k => by
    have hc := hd i (by omega)
    have hc' := digB_iff.1 hc
    show b87_8 s 10 (f87_8 s 10 k) (f87_14 s 10 k) (i : Int) = _
    unfold b87_8
    rw [cT (by omega), cT (by omega), cT (by omega), run104 hc]
    simp only [Option.bind_some]
    have hlt : ¬ (bt s (i : Int) - 48 ≥ 10) := by omega
    rw [cF hlt, wi64 (by omega) (by omega)]
    rfl
theorem run87 {s : ByteArray} (hz : s.size ≤ 65536) (h0 : 0 < s.size) (hd : Digs s) : ∃ r e, S87 s 10 = some (r, 0, e) ∧ ParseO s r e := by
  obtain ⟨r, e, h1, h2⟩ := loop87 hz hd s.size 0 [] (by omega) Is.nil (by simp)
  refine ⟨r, e, evv_eq ((loop87c hz hd h1 s.size 0 (by omega)).same fun k => ?_), h2⟩
  show b87 s 10 _ _ = _
  unfold b87
  rw [cF (by omega), cF (by omega), cF (by omega), cN (by omega)]
  rfl
theorem run87_nil {s : ByteArray} (h0 : s.size = 0) : S87 s 10 = some ([], 0, 5) := evv_eq (Evt.now fun k => by
  show b87 s 10 _ _ = _
  unfold b87
  rw [cF (by omega), cF (by omega), cF (by omega), cE (by omega)])
end Go.Abs.Z
namespace Go.Abs.Z
open Go Go.Abs Limb Num
theorem bt_extract {x : ByteArray} {a b j : Nat} (h : a + j < b) (hb : b ≤ x.size) : bt (x.extract a b) (j : Int) = bt x ((a + j : Nat) : Int) := by
  unfold bt
  rw [Int.toNat_natCast, Int.toNat_natCast, ByteArray.data_extract, Array.getD_eq_getD_getElem?, Array.getD_eq_getD_getElem?, Array.getElem?_extract, if_pos (by show j < min b x.data.size - a; have : x.data.size = x.size := rfl; omega)]
theorem step130 {p : Int} {n : Nat} (h0 : 0 ≤ p) (h1 : p * 10 < 4294967296) (hn : n ≤ 100) (k : Nat) : f130_2 10 (k + 1) p (n : Int) = f130_2 10 k (p * 10) ((n + 1 : Nat) : Int) := by
  show b130_2 10 (f130_2 10 k) p (n : Int) = _
  unfold b130_2
  rw [w64 (x := 10) (by omega) (by omega), w64 (x := p * 10) (by omega) (by omega), cT h1, wi64 (by omega) (by omega)]
  rfl
theorem run130 : S130 10 = some (1000000000, 9) := evv_eq (by
  have hend : Evt (fun k => f130_2 10 k 1000000000 ((9 : Nat) : Int)) (1000000000, 9) := Evt.last fun k => by
    show b130_2 10 (f130_2 10 k) 1000000000 ((9 : Nat) : Int) = _
    unfold b130_2
    rw [w64 (x := 10) (by omega) (by omega), w64 (x := 1000000000 * 10) (by omega) (by omega), cF (by omega), wu32]
    rfl
  have s8 := Evt.step (f := fun k => f130_2 10 k 100000000 ((8 : Nat) : Int)) hend fun k => step130 (by omega) (by omega) (by omega) k
  have s7 := Evt.step (f := fun k => f130_2 10 k 10000000 ((7 : Nat) : Int)) s8 fun k => step130 (by omega) (by omega) (by omega) k
  have s6 := Evt.step (f := fun k => f130_2 10 k 1000000 ((6 : Nat) : Int)) s7 fun k => step130 (by omega) (by omega) (by omega) k
  have s5 := Evt.step (f := fun k => f130_2 10 k 100000 ((5 : Nat) : Int)) s6 fun k => step130 (by omega) (by omega) (by omega) k
  have s4 := Evt.step (f := fun k => f130_2 10 k 10000 ((4 : Nat) : Int)) s5 fun k => step130 (by omega) (by omega) (by omega) k
  have s3 := Evt.step (f := fun k => f130_2 10 k 1000 ((3 : Nat) : Int)) s4 fun k => step130 (by omega) (by omega) (by omega) k
  have s2 := Evt.step (f := fun k => f130_2 10 k 100 ((2 : Nat) : Int)) s3 fun k => step130 (by omega) (by omega) (by omega) k
  have s1 := Evt.step (f := fun k => f130_2 10 k 10 ((1 : Nat) : Int)) s2 fun k => step130 (by omega) (by omega) (by omega) k
  exact s1.same fun k => by
    show f130_2 10 k (IntKind.u64.wrap 10) 1 = _
    rw [w64 (by omega) (by omega)]
    rfl)
theorem loop131 (p0 : List Int) (h : p0.length ≤ 1073741824) : ∀ n : Nat, n ≤ p0.length → Evt (fun k => f131_2 p0 k (n : Int)) (p0.take (tn p0 n))
  | 0, _ => Evt.last fun k => by
    show b131_2 p0 (f131_2 p0 k) ((0 : Nat) : Int) = _
    unfold b131_2
    rw [cF (by omega), cE (by omega)]
    rfl
  | n + 1, hn => by
    have e0 : IntKind.i64.wrap (((n + 1 : Nat) : Int) - 1) = (n : Int) := by rw [wi64] <;> omega
    by_cases hz : p0.getD n 0 = 0
    · have et : tn p0 (n + 1) = tn p0 n := by show (if _ then _ else _) = _; rw [if_pos hz]
      rw [et]
      refine Evt.step (loop131 p0 h n (by omega)) fun k => ?_
      show b131_2 p0 (f131_2 p0 k) ((n + 1 : Nat) : Int) = _
      unfold b131_2
      rw [e0]
      simp only [Int.toNat_natCast, dflt105]
      simp (disch := omega) only [cT, cE]
    · have et : tn p0 (n + 1) = n + 1 := by show (if _ then _ else _) = _; rw [if_neg hz]
      rw [et]
      refine Evt.last fun k => ?_
      have hl : ((List.replicate (Int.toNat 0) (0 : Int)).length + (List.take (n + 1) p0).length) * 4 ≤ 140737488355328 := by
        rw [List.length_take]
        have : min (n + 1) p0.length ≤ n + 1 := Nat.min_le_left _ _
        show (0 + min (n + 1) p0.length) * 4 ≤ _
        omega
      show b131_2 p0 (f131_2 p0 k) ((n + 1 : Nat) : Int) = _
      unfold b131_2
      rw [e0]
      simp only [Int.toNat_natCast, dflt105]
      rw [cT (by omega), cT (by omega), cT (by omega), cT (by omega), cN hz, cN (by omega), cT (by omega), cT (by omega), cT (by omega), cT (by omega), cT hl]
      rfl
theorem run131 {l : List Int} (h : Ok l) (hl : l.length ≤ 1073741824) : ∃ r, S131 l = some r ∧ Is r (val l) := ⟨trimL l, evv_eq ((loop131 l hl l.length (Nat.le_refl _)).same fun k => rfl), trim_is h⟩
end Go.Abs.Z
namespace Go.Abs.Z
open Go Go.Abs Limb Num
def Suf (s v : ByteArray) (i : Nat) : Prop := i + v.size = s.size ∧ ∀ j : Nat, j < v.size → bt v (j : Int) = bt s ((i + j : Nat) : Int)
theorem Suf.drop {s v : ByteArray} {i kk : Nat} (h : Suf s v i) (hk : kk ≤ v.size) : Suf s (v.extract kk v.size) (i + kk) := by
  have hsz : (v.extract kk v.size).size = v.size - kk := by rw [ByteArray.size_extract]; omega
  refine ⟨by rw [hsz]; have := h.1; omega, fun j hj => ?_⟩
  rw [hsz] at hj
  rw [bt_extract (by omega) (Nat.le_refl _), h.2 _ (by omega)]
  congr 1; omega
theorem sufVal {s v : ByteArray} {i : Nat} (h : Suf s v i) : ∀ j, j ≤ v.size → dval s (i + j) = dval s i * 10 ^ j + dval v j
  | 0, _ => by show dval s i = dval s i * 1 + 0; omega
  | j + 1, hj => by
    show dval s (i + j) * 10 + (bt s ((i + j : Nat) : Int) - 48) = dval s i * 10 ^ (j + 1) + (dval v j * 10 + (bt v (j : Int) - 48))
    rw [sufVal h j (by omega), h.2 j (by omega), Int.pow_succ, ← Int.mul_assoc, Int.add_mul]
    omega
theorem Suf.digs {s v : ByteArray} {i : Nat} (h : Suf s v i) (hd : Digs s) : Digs v := fun j hj => by
  rw [h.2 j hj]; exact hd _ (by have := h.1; omega)
theorem dval_lt {s : ByteArray} (hd : Digs s) : ∀ n, n ≤ s.size → dval s n < 10 ^ n
  | 0, _ => by show (0 : Int) < 1; decide
  | n + 1, h => by
    have h1 := dval_lt hd n (by omega)
    have h3 := digB_iff.1 (hd n (by omega))
    show dval s n * 10 + (bt s (n : Int) - 48) < 10 ^ (n + 1)
    rw [Int.pow_succ]; omega
theorem pow_le9 {j : Nat} (h : j ≤ 9) : (1 : Int) ≤ 10 ^ j ∧ (10 : Int) ^ j ≤ 1000000000 := by
  match j, h with
  | 0, _ | 1, _ | 2, _ | 3, _ | 4, _ | 5, _ | 6, _ | 7, _ | 8, _ | 9, _ => decide
theorem loop117_21 {s v : ByteArray} {out : List Int} {kk : Nat} (hv : Digs v) (hk9 : kk ≤ 9) (hkv : kk ≤ v.size) {R : R117}
    (h : Evt (fun k => f117_28 s 10 k v out 1000000000 9 (kk : Int) (10 ^ kk) (dval v kk)) R) :
    ∀ (m j : Nat), j + m = kk → Evt (fun k => f117_21 s 10 k v out 1000000000 9 (kk : Int) (10 ^ j) (dval v j) (kk : Int) (j : Int)) R
  | 0, j, hj => Evt.step h fun k => by
    obtain rfl : j = kk := by omega
    show b117_21 s 10 (f117_8 s 10 k) (f117_15 s 10 k) (f117_21 s 10 k) (f117_28 s 10 k) v out 1000000000 9 (j : Int) (10 ^ j) (dval v j) (j : Int) (j : Int) = _
    unfold b117_21
    rw [cF (by omega)]
    by_cases h9 : j = 9
    · subst h9
      rw [cE (a := ((9 : Nat) : Int)) (b := 9) (by omega), show (10 : Int) ^ 9 = 1000000000 by decide]
    · rw [cN (by omega)]
  | m + 1, j, hj => Evt.step (loop117_21 hv hk9 hkv h m (j + 1) (by omega)) fun k => by
    have hc := hv j (by omega)
    have hc' := digB_iff.1 hc
    have p1 := pow_le9 (j := j + 1) (by omega)
    have d0 := dval_ge hv (j + 1) (by omega)
    have d1 := dval_lt hv (j + 1) (by omega)
    have d0' := dval_ge hv j (by omega)
    have ed : dval v (j + 1) = dval v j * 10 + (bt v (j : Int) - 48) := rfl
    show b117_21 s 10 (f117_8 s 10 k) (f117_15 s 10 k) (f117_21 s 10 k) (f117_28 s 10 k) v out 1000000000 9 (kk : Int) (10 ^ j) (dval v j) (kk : Int) (j : Int) = _
    unfold b117_21
    rw [cT (by omega), cT (by omega), cT (by omega), run129 hc]
    simp only [Option.bind_some]
    have e1 : IntKind.u32.wrap (10 ^ j * IntKind.u32.wrap 10) = 10 ^ (j + 1) := by
      rw [wu32, wu32, show (10 : Int) % 4294967296 = 10 from rfl, ← Int.pow_succ, Int.emod_eq_of_lt (by omega) (by omega)]
    have e2 : IntKind.u32.wrap (IntKind.u32.wrap (dval v j * IntKind.u32.wrap 10) + IntKind.u32.wrap (bt v (j : Int) - 48)) = dval v (j + 1) := by
      rw [wu32, wu32, wu32, wu32, show (10 : Int) % 4294967296 = 10 from rfl, Int.emod_eq_of_lt (a := dval v j * 10) (by omega) (by omega), Int.emod_eq_of_lt (a := bt v (j : Int) - 48) (by omega) (by omega), ← ed, Int.emod_eq_of_lt (by omega) (by omega)]
    rw [e1, e2, wi64 (by omega) (by omega)]
    rfl
end Go.Abs.Z
namespace Go.Abs.Z
open Go Go.Abs Limb Num
theorem loop117 {s : ByteArray} (hz : s.size ≤ 65536) (hd : Digs s) : ∀ (n : Nat) (v : ByteArray) (out : List Int) (i : Nat), v.size ≤ n → Suf s v i → Is out (dval s i) → out.length ≤ 2048 →
    ∃ r e, Evt (fun k => f117_15 s 10 k v out 1000000000 9) (r, 0, e) ∧ ParseO s r e := by
  intro n
  induction n with
  | zero =>
    intro v out i hn hs ho hl
    have hi : i = s.size := by have := hs.1; omega
    subst hi
    refine ⟨out, 0, Evt.last fun k => ?_, .inl ⟨is_lt ho hl, rfl, ho, hl⟩⟩
    show b117_15 s 10 (f117_8 s 10 k) (f117_15 s 10 k) (f117_21 s 10 k) (f117_28 s 10 k) v out 1000000000 9 = _
    unfold b117_15
    rw [cF (by omega)]
  | succ n ih =>
    intro v out i hn hs ho hl
    by_cases h0 : v.size = 0
    · exact ih v out i (by omega) hs ho hl
    · have hvd := hs.digs hd
      have hsz := hs.1
      obtain ⟨kk, hk1, hk9, hkv, hkd⟩ : ∃ kk : Nat, 1 ≤ kk ∧ kk ≤ 9 ∧ kk ≤ v.size ∧ ((v.size % 9 = 0 ∧ kk = 9) ∨ (v.size % 9 ≠ 0 ∧ kk = v.size % 9)) := by
        by_cases h9 : v.size % 9 = 0
        · exact ⟨9, by omega, by omega, by omega, .inl ⟨h9, rfl⟩⟩
        · exact ⟨v.size % 9, by omega, by omega, by omega, .inr ⟨h9, rfl⟩⟩
      have p1 := pow_le9 (j := kk) hk9
      have d0 := dval_ge hvd kk hkv
      have d1 := dval_lt hvd kk hkv
      obtain ⟨r0, a0, b0, c0, e0⟩ := run133 (y := 10 ^ kk) ho.ok (by omega) (by omega) (by omega)
      obtain ⟨r1, a1, b1, c1, e1⟩ := run132 (b := [dval v kk]) b0 (Ok.mk d0 (by omega) Ok.nil) (by omega) (by rw [c0]; simp)
      obtain ⟨r2, a2, b2⟩ := run131 b1 (by omega)
      have ev : val [dval v kk] = dval v kk := by simp [val]
      rw [e1, e0, ev, ho.val, ← sufVal hs kk hkv] at b2
      have st : ∀ k, f117_28 s 10 (k + 1) v out 1000000000 9 (kk : Int) (10 ^ kk) (dval v kk) = cond (decide ((r2.length : Int) > 2048)) (some ([], 0, 2)) (f117_15 s 10 k (v.extract kk v.size) r2 1000000000 9) := fun k => by
        show b117_28 s 10 (f117_8 s 10 k) (f117_15 s 10 k) (f117_21 s 10 k) (f117_28 s 10 k) v out 1000000000 9 (kk : Int) (10 ^ kk) (dval v kk) = _
        unfold b117_28
        rw [a0]
        simp only [Option.bind_some]
        rw [a1]
        simp only [Option.bind_some]
        rw [a2]
        simp only [Option.bind_some, Int.toNat_natCast]
        rw [cT (show (0 : Int) ≤ (kk : Int) by omega), cT (show (kk : Int) ≤ (v.size : Int) by omega)]
      have main : ∃ r e, Evt (fun k => f117_28 s 10 k v out 1000000000 9 (kk : Int) (10 ^ kk) (dval v kk)) (r, 0, e) ∧ ParseO s r e := by
        by_cases hbig : r2.length ≤ 2048
        · have hsz' : (v.extract kk v.size).size = v.size - kk := by rw [ByteArray.size_extract]; omega
          obtain ⟨r, e, h1, h2⟩ := ih (v.extract kk v.size) r2 (i + kk) (by omega) (hs.drop hkv) b2 hbig
          exact ⟨r, e, Evt.step h1 fun k => by rw [st, cF (by omega)], h2⟩
        · refine ⟨[], 2, Evt.last fun k => by rw [st, cT (by omega)], .inr ⟨?_, rfl⟩⟩
          have := dval_mono hd (i := i + kk) (s.size - (i + kk)) (by omega)
          rw [show i + kk + (s.size - (i + kk)) = s.size by omega] at this
          exact Int.le_trans (big_of b2 (by omega)) this
      obtain ⟨r, e, h1, h2⟩ := main
      refine ⟨r, e, Evt.step (loop117_21 hvd hk9 hkv h1 kk 0 (by omega)) fun k => ?_, h2⟩
      show b117_15 s 10 (f117_8 s 10 k) (f117_15 s 10 k) (f117_21 s 10 k) (f117_28 s 10 k) v out 1000000000 9 = _
      unfold b117_15
      have et : ((v.size : Nat) : Int).tmod 9 = ((v.size % 9 : Nat) : Int) := rfl
      rw [et, cT (by omega), cF (by omega)]
      rcases hkd with ⟨h9, rfl⟩ | ⟨h9, rfl⟩
      · rw [cE (by omega)]; rfl
      · rw [cN (by omega)]; rfl
theorem loop117c {s : ByteArray} (hz : s.size ≤ 65536) (hd : Digs s) {r : List Int} {e : Int} (h : Evt (fun k => f117_15 s 10 k s [] 1000000000 9) (r, 0, e)) : ∀ (m i : Nat), i + m = s.size → Evt (fun k => f117_8 s 10 k (i : Int)) (r, 0, e)
  | 0, i, hi => Evt.step h fun k => by
    show b117_8 s 10 (f117_8 s 10 k) (f117_15 s 10 k) (f117_21 s 10 k) (f117_28 s 10 k) (i : Int) = _
    unfold b117_8
    rw [cF (by omega), run130]
    rfl
  | m + 1, i, hi => Evt.step (loop117c hz hd h m (i + 1) (by omega)) fun k => by
    have hc := hd i (by omega)
    have hc' := digB_iff.1 hc
    show b117_8 s 10 (f117_8 s 10 k) (f117_15 s 10 k) (f117_21 s 10 k) (f117_28 s 10 k) (i : Int) = _
    unfold b117_8
    rw [cT (by omega), cT (by omega), cT (by omega), run129 hc]
    simp only [Option.bind_some]
    have hlt : ¬ (bt s (i : Int) - 48 ≥ 10) := by omega
    rw [cF hlt, wi64 (by omega) (by omega)]
    rfl
theorem run117 {s : ByteArray} (hz : s.size ≤ 65536) (hne : (s.toList == (ByteArray.mk #[]).toList) = false) (hd : Digs s) : ∃ r e, S117 s 10 = some (r, 0, e) ∧ ParseO s r e := by
  obtain ⟨r, e, h1, h2⟩ := loop117 hz hd s.size s [] 0 (Nat.le_refl _) ⟨by omega, fun j hj => by rw [Nat.zero_add]⟩ Is.nil (by simp)
  refine ⟨r, e, evv_eq ((loop117c hz hd h1 s.size 0 (by omega)).same fun k => ?_), h2⟩
  show b117 s 10 _ _ _ _ = _
  unfold b117
  rw [cF (by omega), cF (by omega), cF (by omega), hne]
  rfl
end Go.Abs.Z
namespace Go.Abs.Z
open Go Go.Abs Limb Num
theorem nil_no {s : ByteArray} (h : s.size ≠ 0) : (s.toList == (ByteArray.mk #[]).toList) = false := by
  refine beq_eq_false_iff_ne.2 fun e => h ?_
  rw [Go.ByteArray.toList_eq, Go.ByteArray.toList_eq] at e
  have := congrArg List.length e
  simpa using this
theorem run117_nil {s : ByteArray} (h : s.size = 0) : S117 s 10 = some ([], 0, 5) := evv_eq (Evt.now fun k => by
  have e : s = ByteArray.mk #[] := by
    obtain ⟨d⟩ := s
    have : d = #[] := Array.eq_empty_of_size_eq_zero h
    rw [this]
  subst e
  show b117 (ByteArray.mk #[]) 10 _ _ _ _ = _
  unfold b117
  have : ((ByteArray.mk #[]).toList == (ByteArray.mk #[]).toList) = true := beq_self_eq_true _
  rw [cF (by show ¬ ((0 : Nat) : Int) > 65536; omega), cF (by omega), cF (by omega), this]
  rfl)
theorem parse_both {s : ByteArray} (hz : s.size ≤ 65536) (hd : Digs s) : ∃ l l' e, S117 s 10 = some (l, 0, e) ∧ S87 s 10 = some (l', 0, e) ∧ (e = 0 → 0 < s.size ∧ Is l (dval s s.size) ∧ Is l' (dval s s.size) ∧ l.length ≤ 2048 ∧ l'.length ≤ 2048) ∧ (0 < s.size → dval s s.size < P 2048 → e = 0) := by
  by_cases h0 : s.size = 0
  · exact ⟨[], [], 5, run117_nil h0, run87_nil h0, fun h => by omega, fun h => by omega⟩
  · obtain ⟨l, e, a1, a2⟩ := run117 hz (nil_no h0) hd
    obtain ⟨l', e', b1, b2⟩ := run87 hz (by omega) hd
    rcases a2 with ⟨x1, x2, x3, x4⟩ | ⟨x1, x2⟩
    · rcases b2 with ⟨y1, y2, y3, y4⟩ | ⟨y1, y2⟩
      · subst x2; subst y2
        exact ⟨l, l', 0, a1, b1, fun _ => ⟨by omega, x3, y3, x4, y4⟩, fun _ _ => rfl⟩
      · omega
    · rcases b2 with ⟨y1, y2, y3, y4⟩ | ⟨y1, y2⟩
      · omega
      · subst x2; subst y2
        exact ⟨l, l', 2, a1, b1, fun h => by omega, fun _ h => by omega⟩
end Go.Abs.Z
namespace Go.Abs.Z
open Go Go.Abs Limb Num
theorem ratio_both {neg neg' : Bool} {a b : ByteArray} (ha : a.size ≤ 65536) (hb : b.size ≤ 65536) (da : Digs a) (db : Digs b) :
    ∃ (la lb : List Int) (ea eb : Int) (x : Bool) (y z : List Int), S87 a 10 = some (la, 0, ea) ∧ S87 b 10 = some (lb, 0, eb) ∧
      S101 neg a b = some (x, y, z, decide (ea = 0) && (decide (eb = 0) && !(lb.length == 0))) ∧
      (0 < a.size → dval a a.size < P 2048 → ea = 0) ∧ (0 < b.size → dval b b.size < P 2048 → eb = 0) ∧
      (ea = 0 → eb = 0 → lb.length ≠ 0 → ∃ r, S88 neg' la lb = some r) ∧ (eb = 0 → Is lb (dval b b.size)) := by
  obtain ⟨l1, la, ea, p1, q1, f1, g1⟩ := parse_both ha da
  obtain ⟨l2, lb, eb, p2, q2, f2, g2⟩ := parse_both hb db
  have hlow : ea = 0 → eb = 0 → lb.length ≠ 0 → ∃ r, S88 neg' la lb = some r := fun h1 h2 h3 => by
    obtain ⟨_, _, i1, _, m1⟩ := f1 h1
    obtain ⟨_, _, i2, _, m2⟩ := f2 h2
    refine run88 i1 i2 m1 m2 ?_
    rcases Int.lt_or_eq_of_le i2.nonneg with h | h
    · exact h
    · exact absurd (congrArg List.length (i2.nil_iff.2 h.symm)) h3
  have hI : eb = 0 → Is lb (dval b b.size) := fun h => (f2 h).2.2.1
  by_cases h1 : ea = 0
  · by_cases h2 : eb = 0
    · obtain ⟨_, j1, i1, k1, m1⟩ := f1 h1
      obtain ⟨_, j2, i2, k2, m2⟩ := f2 h2
      obtain ⟨x, y, z, e⟩ := run118 (neg := neg) j1 j2 k1 k2
      have el : l2 = lb := j2.inj i2
      refine ⟨la, lb, ea, eb, x, y, z, q1, q2, evv_eq (Evt.now fun k => ?_), g1, g2, hlow, hI⟩
      show b101 neg a b = _
      unfold b101
      rw [p1, p2]
      simp only [Option.bind_some]
      rw [h1, h2, e]
      simp only [Option.bind_some]
      subst el
      cases l2 with
      | nil => rfl
      | cons _ _ => rfl
    · refine ⟨la, lb, ea, eb, false, [], [], q1, q2, evv_eq (Evt.now fun k => ?_), g1, g2, hlow, hI⟩
      show b101 neg a b = _
      unfold b101
      rw [p1, p2]
      simp only [Option.bind_some]
      rw [h1, decide_eq_false h2, show ((eb != 0) = true) by simpa using h2]
      rfl
  · refine ⟨la, lb, ea, eb, false, [], [], q1, q2, evv_eq (Evt.now fun k => ?_), g1, g2, hlow, hI⟩
    show b101 neg a b = _
    unfold b101
    rw [p1, p2]
    simp only [Option.bind_some]
    rw [decide_eq_false h1, show ((ea != 0) = true) by simpa using h1]
    rfl
end Go.Abs.Z
namespace Go.Abs.Z
open Go Go.Abs Limb Num
theorem ten_mono {n : Nat} : ∀ d : Nat, (10 : Int) ^ n ≤ 10 ^ (n + d)
  | 0 => Int.le_refl _
  | d + 1 => by
    have h := ten_mono (n := n) d
    have p : (0 : Int) ≤ 10 ^ (n + d) := Int.le_of_lt (Int.pow_pos (by decide))
    rw [show n + (d + 1) = (n + d) + 1 by omega, Int.pow_succ]
    omega
theorem ten_lt {n : Nat} (h : n ≤ 1001) : (10 : Int) ^ n < P 2048 := by
  have h1 := ten_mono (n := n) (1001 - n)
  have h2 : (10 : Int) ^ (n + (1001 - n)) < P 2048 := by
    rw [show n + (1001 - n) = 1001 by omega]
    unfold P; decide +kernel
  exact Int.lt_of_le_of_lt h1 h2
theorem small_val {s : ByteArray} (hd : Digs s) (h : s.size ≤ 1001) : dval s s.size < P 2048 := Int.lt_trans (dval_lt hd _ (Nat.le_refl _)) (ten_lt h)
theorem digs_extract {s : ByteArray} {a b : Nat} (hb : b ≤ s.size) (h : ∀ j, j < b - a → digB (bt s ((a + j : Nat) : Int)) = true) : Digs (s.extract a b) := fun j hj => by
  rw [ByteArray.size_extract] at hj
  rw [bt_extract (by omega) hb]
  exact h j (by omega)
theorem bt_append {x y : ByteArray} {j : Nat} : bt (x ++ y) (j : Int) = if j < x.size then bt x (j : Int) else bt y ((j - x.size : Nat) : Int) := by
  unfold bt
  rw [Int.toNat_natCast, ByteArray.data_append, Array.getD_eq_getD_getElem?, Array.getElem?_append]
  have : x.data.size = x.size := rfl
  rw [this]
  split
  · rw [Array.getD_eq_getD_getElem?]
  · rw [Array.getD_eq_getD_getElem?, Int.toNat_natCast]
theorem digs_append {x y : ByteArray} (hx : Digs x) (hy : Digs y) : Digs (x ++ y) := fun j hj => by
  rw [ByteArray.size_append] at hj
  rw [bt_append]
  split
  · exact hx j (by assumption)
  · exact hy _ (by omega)
end Go.Abs.Z
namespace Go.Abs.Z
open Go Go.Abs Limb Num
def zer (n : Nat) : ByteArray := ByteArray.mk (List.replicate n 48).toArray
theorem zer_size (n : Nat) : (zer n).size = n := by show (List.replicate n (48 : UInt8)).toArray.size = n; simp
theorem zer_succ (n : Nat) : zer n ++ ByteArray.mk #[48] = zer (n + 1) := by
  apply ByteArray.ext
  rw [ByteArray.data_append]
  show (List.replicate n (48 : UInt8)).toArray ++ #[48] = (List.replicate (n + 1) 48).toArray
  rw [List.replicate_succ', ← List.append_toArray]
theorem zer_digs (n : Nat) : Digs (zer n) := fun j hj => by
  rw [zer_size] at hj
  unfold bt zer
  rw [Int.toNat_natCast, Array.getD_eq_getD_getElem?]
  have : (List.replicate n (48 : UInt8)).toArray[j]? = some 48 := by simp [hj]
  rw [this]; rfl
theorem one_digs : Digs (ByteArray.mk #[49]) := fun j hj => by
  have : j = 0 := by have : (ByteArray.mk #[49]).size = 1 := rfl; omega
  subst this; rfl
theorem den_pos (n : Nat) : 0 < dval (ByteArray.mk #[49] ++ zer n) (ByteArray.mk #[49] ++ zer n).size := by
  have hd := digs_append one_digs (zer_digs n)
  have hs : (ByteArray.mk #[49] ++ zer n).size = 1 + n := by rw [ByteArray.size_append, zer_size]; rfl
  have h1 := dval_mono hd (i := 1) n (by omega)
  rw [hs]
  refine Int.lt_of_lt_of_le ?_ h1
  have : bt (ByteArray.mk #[49] ++ zer n) ((0 : Nat) : Int) = 49 := by
    rw [bt_append, if_pos (by decide)]; rfl
  show 0 < (0 : Int) * 10 + (bt (ByteArray.mk #[49] ++ zer n) ((0 : Nat) : Int) - 48)
  rw [this]; decide
end Go.Abs.Z
namespace Go.Abs.Z
open Go Go.Abs Limb Num
theorem rep_zer : ∀ n, ByteArray.mk (Lib.repeatL (ByteArray.mk #[48]).data.toList n).toArray = zer n
  | n => by
    have : ∀ n, Lib.repeatL [48] n = List.replicate n (48 : UInt8) := by
      intro n
      induction n with
      | zero => rfl
      | succ n ih => show [48] ++ Lib.repeatL [48] n = _; rw [ih]; rfl
    show ByteArray.mk (Lib.repeatL [48] n).toArray = _
    rw [this]; rfl
theorem run102 {n : Nat} (h : n ≤ 65536) : S102 (ByteArray.mk #[48]) (n : Int) = some (zer n) := by
  unfold S102
  rw [if_pos ⟨by omega, by omega, by rw [Int.toNat_natCast]; show 1 * n ≤ _; omega⟩, Int.toNat_natCast, rep_zer]
theorem loop76 {s : ByteArray} {p1 : Int} {v0 : Int} {all : ByteArray} {k : Nat} (hk : k ≤ 65536) (h0 : 0 ≤ v0) (h1 : v0 ≤ 65536) {R : R76}
    (h : Evt (fun f => f76_15 s p1 f (v0 + 1 + k) all (ByteArray.mk #[49] ++ zer k)) R) : ∀ (m j : Nat), j + m = k → Evt (fun f => f76_11 s p1 f v0 all (ByteArray.mk #[49] ++ zer j) (k : Int) (j : Int)) R
  | 0, j, hj => Evt.step h fun f => by
    obtain rfl : j = k := by omega
    show b76_11 s p1 (f76_6 s p1 f) (f76_15 s p1 f) (f76_22 s p1 f) (f76_9 s p1 f) (f76_17 s p1 f) (f76_24 s p1 f) (f76_11 s p1 f) (f76_27 s p1 f) (f76_29 s p1 f) (f76_31 s p1 f) (f76_33 s p1 f) (f76_35 s p1 f) v0 all _ _ _ = _
    unfold b76_11
    rw [cF (by omega), wi64 (x := v0 + 1) (by omega) (by omega), wi64 (by omega) (by omega)]
  | m + 1, j, hj => Evt.step (loop76 hk h0 h1 h m (j + 1) (by omega)) fun f => by
    have hs : (ByteArray.mk #[49] ++ zer j).size + (ByteArray.mk #[48]).size ≤ 4611686018427387904 := by
      rw [ByteArray.size_append, zer_size]; show 1 + j + 1 ≤ _; omega
    show b76_11 s p1 (f76_6 s p1 f) (f76_15 s p1 f) (f76_22 s p1 f) (f76_9 s p1 f) (f76_17 s p1 f) (f76_24 s p1 f) (f76_11 s p1 f) (f76_27 s p1 f) (f76_29 s p1 f) (f76_31 s p1 f) (f76_33 s p1 f) (f76_35 s p1 f) v0 all _ _ _ = _
    unfold b76_11
    rw [cT (by omega), cT hs, ByteArray.append_assoc, zer_succ, wi64 (by omega) (by omega)]
    rfl
end Go.Abs.Z
namespace Go.Abs.Z
open Go Go.Abs Limb Num
theorem den_ok (k : Nat) : Digs (ByteArray.mk #[49] ++ zer k) ∧ (ByteArray.mk #[49] ++ zer k).size = 1 + k :=
  ⟨digs_append one_digs (zer_digs k), by rw [ByteArray.size_append, zer_size]; rfl⟩
theorem tail76 {s : ByteArray} {p1 : Int} {v0 : Int} {all : ByteArray} {k : Nat} (h0 : v0 ≤ 1000) (hk : k ≤ 1000) (ha : Digs all) (hp : 0 < all.size) (hl : all.size ≤ 1001) :
    ∃ r, Evt (fun f => f76_15 s p1 f v0 all (ByteArray.mk #[49] ++ zer k)) (v0, r) := by
  obtain ⟨dd, ds⟩ := den_ok k
  obtain ⟨la, lb, ea, eb, _, _, _, q1, q2, _, g1, g2, low, hI⟩ := ratio_both (neg := false) (neg' := false) (a := all) (b := ByteArray.mk #[49] ++ zer k) (by omega) (by omega) ha dd
  have h1 := g1 hp (small_val ha hl)
  have h2 := g2 (by omega) (small_val dd (by omega))
  have hne : lb.length ≠ 0 := fun h => by
    have i2 := hI h2
    have := i2.nil_iff.1 (List.length_eq_zero_iff.1 h)
    have := den_pos k
    omega
  obtain ⟨r, hr⟩ := low h1 h2 hne
  refine ⟨r, Evt.step (g := fun f => f76_17 s p1 f v0 all (ByteArray.mk #[49] ++ zer k)) (Evt.last fun f => ?_) fun f => ?_⟩
  · show b76_17 s p1 (f76_6 s p1 f) (f76_15 s p1 f) (f76_22 s p1 f) (f76_9 s p1 f) (f76_17 s p1 f) (f76_24 s p1 f) (f76_11 s p1 f) (f76_27 s p1 f) (f76_29 s p1 f) (f76_31 s p1 f) (f76_33 s p1 f) (f76_35 s p1 f) v0 all _ = _
    unfold b76_17
    rw [q1, q2]
    simp only [Option.bind_some]
    rw [hr]
    rfl
  · show b76_15 s p1 (f76_6 s p1 f) (f76_15 s p1 f) (f76_22 s p1 f) (f76_9 s p1 f) (f76_17 s p1 f) (f76_24 s p1 f) (f76_11 s p1 f) (f76_27 s p1 f) (f76_29 s p1 f) (f76_31 s p1 f) (f76_33 s p1 f) (f76_35 s p1 f) v0 all _ = _
    unfold b76_15
    rw [cF (by omega)]
theorem tail76_big {s : ByteArray} {p1 : Int} {v0 : Int} {all den : ByteArray} (h0 : 1000 < v0) : Evt (fun f => f76_15 s p1 f v0 all den) (0, false, [], []) := Evt.last fun f => by
  show b76_15 s p1 (f76_6 s p1 f) (f76_15 s p1 f) (f76_22 s p1 f) (f76_9 s p1 f) (f76_17 s p1 f) (f76_24 s p1 f) (f76_11 s p1 f) (f76_27 s p1 f) (f76_29 s p1 f) (f76_31 s p1 f) (f76_33 s p1 f) (f76_35 s p1 f) v0 all _ = _
  unfold b76_15
  rw [cT (by omega)]
end Go.Abs.Z
namespace Go.Abs.Z
open Go Go.Abs Limb Num
theorem digs_run {s : ByteArray} {i : Nat} (hi : i ≤ s.size) : Digs (s.extract i (i + runB digB s i)) := digs_extract (runB_le _ _ _ hi) fun j hj => runB_all (by omega)
theorem size_run {s : ByteArray} {i : Nat} (hi : i ≤ s.size) : (s.extract i (i + runB digB s i)).size = runB digB s i := by
  have := runB_le digB s i hi
  rw [ByteArray.size_extract]; omega
theorem runB_pos {f : Int → Bool} {s : ByteArray} {i : Nat} (hi : i < s.size) (h : f (bt s (i : Int)) = true) : 0 < runB f s i := by
  unfold runB
  obtain ⟨n, hn⟩ : ∃ n, s.size - i = n + 1 := ⟨s.size - i - 1, by omega⟩
  rw [hn]
  unfold cnt
  rw [if_pos h]; omega
def plainLen (s : ByteArray) (i : Nat) : Option Nat :=
  let n := runB digB s i
  if i + n < s.size ∧ bt s ((i + n : Nat) : Int) = 46 then
    let k := runB digB s (i + n + 1)
    if k = 0 then none else if n + 1 + k > 1000 then none else some (n + 1 + k)
  else if n > 1000 then none else some n
theorem ref_plain {s : ByteArray} (hz : s.size ≤ 65536) {i : Nat} (hi : i < s.size) (hc : digB (bt s (i : Int)) = true) :
    ∃ r, S76 s (i : Int) = some (match plainLen s i with | some n => ((n : Int), r) | none => (0, false, [], [])) := by
  have hc' := digB_iff.1 hc
  have hn := runB_le digB s i (by omega)
  have hp := runB_pos hi hc
  have hD := digs_run (s := s) (i := i) (by omega)
  have hS := size_run (s := s) (i := i) (by omega)
  have e0 : ∀ f, f76 f s (i : Int) = b76 s (i : Int) (f76_6 s i f) (f76_15 s i f) (f76_22 s i f) (f76_9 s i f) (f76_17 s i f) (f76_24 s i f) (f76_11 s i f) (f76_27 s i f) (f76_29 s i f) (f76_31 s i f) (f76_33 s i f) (f76_35 s i f) := fun f => rfl
  have w1 : IntKind.i64.wrap ((i : Int) + (runB digB s i : Int)) = ((i + runB digB s i : Nat) : Int) := by rw [wi64] <;> omega
  have st : ∀ f, f76 f s (i : Int) = if i + runB digB s i < s.size ∧ bt s ((i + runB digB s i : Nat) : Int) = 46 then f76_6 s i f (runB digB s i : Int) (s.extract i (i + runB digB s i)) else f76_15 s i f (runB digB s i : Int) (s.extract i (i + runB digB s i)) (ByteArray.mk #[49]) := fun f => by
    rw [e0]
    unfold b76
    have h91 : (bt s (i : Int) != 91) = true := by rw [bne_iff_ne]; omega
    rw [cT (by omega), cT (by omega), h91, run86 hz (by omega)]
    simp only [Option.bind_some, cond_true, w1, Int.toNat_natCast]
    rw [cT (by omega), cT (by omega), cT (by omega)]
    by_cases h1 : i + runB digB s i < s.size
    · rw [cT (by omega), cT (by omega), cT (by omega)]
      by_cases h2 : bt s ((i + runB digB s i : Nat) : Int) = 46
      · rw [cE h2, if_pos ⟨h1, h2⟩]
      · rw [cN h2, if_neg fun h => h2 h.2]
    · rw [cF (by omega), if_neg fun h => h1 h.1]
  have ez : ByteArray.mk #[49] ++ zer 0 = ByteArray.mk #[49] := by
    apply ByteArray.ext
    rw [ByteArray.data_append]; rfl
  unfold plainLen
  by_cases hd : i + runB digB s i < s.size ∧ bt s ((i + runB digB s i : Nat) : Int) = 46
  · simp only [if_pos hd] at st ⊢
    have hk := runB_le digB s (i + runB digB s i + 1) (by omega)
    have hD2 := digs_run (s := s) (i := i + runB digB s i + 1) (by omega)
    have hS2 := size_run (s := s) (i := i + runB digB s i + 1) (by omega)
    generalize hn' : runB digB s i = n at *
    generalize hk' : runB digB s (i + n + 1) = k at *
    have w2 : IntKind.i64.wrap (((i + n : Nat) : Int) + 1) = ((i + n + 1 : Nat) : Int) := by rw [wi64] <;> omega
    have w3 : IntKind.i64.wrap (((i + n + 1 : Nat) : Int) + (k : Int)) = ((i + n + 1 + k : Nat) : Int) := by rw [wi64] <;> omega
    by_cases hk0 : k = 0
    · rw [if_pos hk0]
      refine ⟨(false, [], []), evv_eq (Evt.same (f := fun f => f76 f s (i : Int)) (g := fun f => f76_6 s i f (n : Int) (s.extract i (i + n))) (Evt.last fun f => ?_) fun f => st f)⟩
      show b76_6 s i (f76_6 s i f) (f76_15 s i f) (f76_22 s i f) (f76_9 s i f) (f76_17 s i f) (f76_24 s i f) (f76_11 s i f) (f76_27 s i f) (f76_29 s i f) (f76_31 s i f) (f76_33 s i f) (f76_35 s i f) (n : Int) (s.extract i (i + n)) = _
      unfold b76_6
      rw [w1, w2, run86 hz (by omega), hk']
      simp only [Option.bind_some]
      rw [cE (by omega)]
    · rw [if_neg hk0]
      have hAll := digs_append hD hD2
      have hAS : (s.extract i (i + n) ++ s.extract (i + n + 1) (i + n + 1 + k)).size = n + k := by rw [ByteArray.size_append, hS, hS2]
      have key : ∃ r, Evt (fun f => f76_15 s i f ((n : Int) + 1 + k) (s.extract i (i + n) ++ s.extract (i + n + 1) (i + n + 1 + k)) (ByteArray.mk #[49] ++ zer k)) (match (if n + 1 + k > 1000 then none else some (n + 1 + k)) with | some n => ((n : Int), r) | none => (0, false, [], [])) := by
        by_cases hb : n + 1 + k > 1000
        · rw [if_pos hb]; exact ⟨(false, [], []), tail76_big (by omega)⟩
        · rw [if_neg hb]
          obtain ⟨r, hr⟩ := tail76 (s := s) (p1 := i) (v0 := (n : Int) + 1 + k) (k := k) (by omega) (by omega) hAll (by omega) (by omega)
          exact ⟨r, by have e : (((n + 1 + k : Nat) : Int)) = (n : Int) + 1 + k := by omega
                       show Evt _ (((n + 1 + k : Nat) : Int), r)
                       rw [e]; exact hr⟩
      obtain ⟨r, hr⟩ := key
      have h11 := loop76 (s := s) (p1 := i) (v0 := n) (k := k) (by omega) (by omega) (by omega) hr k 0 (by omega)
      refine ⟨r, evv_eq (Evt.same (f := fun f => f76 f s (i : Int)) (g := fun f => f76_6 s i f (n : Int) (s.extract i (i + n))) (Evt.step (g := fun f => f76_9 s i f (n : Int) (s.extract i (i + n)) (k : Int)) (Evt.step h11 fun f => ?_) fun f => ?_) fun f => st f)⟩
      · show b76_9 s i (f76_6 s i f) (f76_15 s i f) (f76_22 s i f) (f76_9 s i f) (f76_17 s i f) (f76_24 s i f) (f76_11 s i f) (f76_27 s i f) (f76_29 s i f) (f76_31 s i f) (f76_33 s i f) (f76_35 s i f) (n : Int) (s.extract i (i + n)) (k : Int) = _
        unfold b76_9
        rw [w1, w2, w3]
        simp only [Int.toNat_natCast]
        rw [cT (by omega), cT (by omega), cT (by omega), cT (by rw [hS, hS2]; omega), ez]
        rfl
      · show b76_6 s i (f76_6 s i f) (f76_15 s i f) (f76_22 s i f) (f76_9 s i f) (f76_17 s i f) (f76_24 s i f) (f76_11 s i f) (f76_27 s i f) (f76_29 s i f) (f76_31 s i f) (f76_33 s i f) (f76_35 s i f) (n : Int) (s.extract i (i + n)) = _
        unfold b76_6
        rw [w1, w2, run86 hz (by omega), hk']
        simp only [Option.bind_some]
        rw [cN (by omega)]
  · simp only [if_neg hd] at st ⊢
    by_cases hb : runB digB s i > 1000
    · rw [if_pos hb]
      exact ⟨(false, [], []), evv_eq ((tail76_big (by omega)).same st)⟩
    · rw [if_neg hb]
      obtain ⟨r, hr⟩ := tail76 (s := s) (p1 := i) (v0 := runB digB s i) (k := 0) (by omega) (by omega) hD (by omega) (by omega)
      rw [ez] at hr
      exact ⟨r, evv_eq (hr.same st)⟩
end Go.Abs.Z
namespace Go.Abs.Z
open Go Go.Abs Limb Num
theorem ratio_ok {neg : Bool} {all : ByteArray} {k : Nat} (hk : k ≤ 1000) (ha : Digs all) (hp : 0 < all.size) (hl : all.size ≤ 1001) :
    ∃ x y z, S101 neg all (ByteArray.mk #[49] ++ zer k) = some (x, y, z, true) := by
  obtain ⟨dd, ds⟩ := den_ok k
  obtain ⟨la, lb, ea, eb, x, y, z, q1, q2, q3, g1, g2, low, hI⟩ := ratio_both (neg := neg) (neg' := false) (a := all) (b := ByteArray.mk #[49] ++ zer k) (by omega) (by omega) ha dd
  have h1 := g1 hp (small_val ha hl)
  have h2 := g2 (by omega) (small_val dd (by omega))
  have hne : lb.length ≠ 0 := fun h => by
    have i2 := hI h2
    have := i2.nil_iff.1 (List.length_eq_zero_iff.1 h)
    have := den_pos k
    omega
  refine ⟨x, y, z, ?_⟩
  rw [q3, decide_eq_true h1, decide_eq_true h2, beq_eq_false_iff_ne.2 hne]
  rfl
theorem prog_plain {s : ByteArray} (hz : s.size ≤ 65536) {i : Nat} {l : List TokT} (hi : i < s.size) (hc : digB (bt s (i : Int)) = true) :
    ∃ x y z, S84 s (i : Int) l = some (match plainLen s i with | some n => ((n : Int), x, y, z, true, s, (i : Int), l) | none => (0, false, [], [], false, s, (i : Int), l)) := by
  have hn := runB_le digB s i (by omega)
  have hp := runB_pos hi hc
  have hD := digs_run (s := s) (i := i) (by omega)
  have hS := size_run (s := s) (i := i) (by omega)
  have w1 : IntKind.i64.wrap ((i : Int) + (runB digB s i : Int)) = ((i + runB digB s i : Nat) : Int) := by rw [wi64] <;> omega
  have ez : ByteArray.mk #[49] ++ zer 0 = ByteArray.mk #[49] := by
    apply ByteArray.ext
    rw [ByteArray.data_append]; rfl
  have en : s.extract i (i + runB digB s i) ++ ByteArray.mk #[] = s.extract i (i + runB digB s i) := by
    apply ByteArray.ext
    rw [ByteArray.data_append]
    show _ ++ #[] = _
    rw [Array.append_empty]
  have er : ByteArray.mk #[49] ++ ByteArray.mk (Lib.repeatL (ByteArray.mk #[48]).data.toList (((ByteArray.mk #[]).size : Nat) : Int).toNat).toArray = ByteArray.mk #[49] ++ zer 0 := rfl
  unfold plainLen
  by_cases hd : i + runB digB s i < s.size ∧ bt s ((i + runB digB s i : Nat) : Int) = 46
  · have hk := runB_le digB s (i + runB digB s i + 1) (by omega)
    have hD2 := digs_run (s := s) (i := i + runB digB s i + 1) (by omega)
    have hS2 := size_run (s := s) (i := i + runB digB s i + 1) (by omega)
    have hcut : (i : Int) + 0 = i := by omega
    rw [if_pos hd]
    dsimp only
    generalize hn' : runB digB s i = n at *
    generalize hk' : runB digB s (i + n + 1) = k at *
    have w2 : IntKind.i64.wrap (((i + n : Nat) : Int) + 1) = ((i + n + 1 : Nat) : Int) := by rw [wi64] <;> omega
    have w3 : IntKind.i64.wrap (((i + n + 1 : Nat) : Int) + (k : Int)) = ((i + n + 1 + k : Nat) : Int) := by rw [wi64] <;> omega
    have w4 : IntKind.i64.wrap ((n : Int) + IntKind.i64.wrap (1 + (k : Int))) = ((n + 1 + k : Nat) : Int) := by rw [wi64 (x := 1 + (k : Int)) (by omega) (by omega), wi64] <;> omega
    have st : ∀ k', f84 k' s i l = (cond (((k : Nat) : Int) == 0) (some ((0, Bool.false, [], [], Bool.false, s, (i : Int), l))) (cond (decide (((n + 1 + k : Nat) : Int) > 1000)) (some ((0, Bool.false, [], [], Bool.false, s, (i : Int), l)))
        ((S101 Bool.false (s.extract i (i + n) ++ s.extract (i + n + 1) (i + n + 1 + k)) (ByteArray.mk #[49] ++ zer k)).bind fun r3 => some ((((n + 1 + k : Nat) : Int), r3.fst, r3.snd.fst, r3.snd.snd.fst, r3.snd.snd.snd, s, (i : Int), l))))) := fun k' => by
      show b84 s i l = _
      unfold b84
      rw [run70d hz (by omega)]
      simp only [Option.bind_some, hn', w1, Int.toNat_natCast]
      rw [cT (by omega), cT (by omega), cT (by omega), cT (by omega), cT (by omega), cT (by omega), cE hd.2, w2, run70d hz (by omega)]
      simp only [Option.bind_some, hk', w1, w2, w3, w4, Int.toNat_natCast]
      rw [cT (show (0 : Int) ≤ ((i + n + 1 : Nat) : Int) by omega), cT (show ((i + n + 1 : Nat) : Int) ≤ ((i + n + 1 + k : Nat) : Int) by omega), cT (show ((i + n + 1 + k : Nat) : Int) ≤ (s.size : Int) by omega), hS, hS2, run102 (by omega)]
      simp only [Option.bind_some]
      rw [cT (show n + k ≤ 4611686018427387904 by omega), cT (show (ByteArray.mk #[49]).size + (zer k).size ≤ 4611686018427387904 by rw [zer_size]; show 1 + k ≤ _; omega)]
    by_cases hk0 : k = 0
    · rw [if_pos hk0]
      exact ⟨false, [], [], evv_eq (Evt.now fun k' => by rw [st, cE (by omega)])⟩
    · rw [if_neg hk0]
      by_cases hb : n + 1 + k > 1000
      · rw [if_pos hb]
        exact ⟨false, [], [], evv_eq (Evt.now fun k' => by rw [st, cN (by omega), cT (by omega)])⟩
      · rw [if_neg hb]
        obtain ⟨x, y, z, h⟩ := ratio_ok (neg := false) (k := k) (by omega) (digs_append hD hD2) (by rw [ByteArray.size_append, hS, hS2]; omega) (by rw [ByteArray.size_append, hS, hS2]; omega)
        exact ⟨x, y, z, evv_eq (Evt.now fun k' => by rw [st, cN (by omega), cF (by omega), h]; rfl)⟩
  · rw [if_neg hd]
    have st : ∀ k', f84 k' s i l = (cond (decide ((runB digB s i : Int) > 1000)) (some ((0, Bool.false, [], [], Bool.false, s, (i : Int), l)))
        ((S101 Bool.false (s.extract i (i + runB digB s i)) (ByteArray.mk #[49] ++ zer 0)).bind fun r4 => some (((runB digB s i : Int), r4.fst, r4.snd.fst, r4.snd.snd.fst, r4.snd.snd.snd, s, (i : Int), l)))) := fun k' => by
      show b84 s i l = _
      unfold b84
      rw [run70d hz (by omega)]
      simp only [Option.bind_some, w1, Int.toNat_natCast, en, er]
      rw [cT (by omega), cT (by omega), cT (by omega)]
      have hs : (s.extract i (i + runB digB s i)).size + (ByteArray.mk #[]).size ≤ 4611686018427387904 := by rw [hS]; show runB digB s i + 0 ≤ _; omega
      by_cases h1 : i + runB digB s i < s.size
      · rw [cT (by omega), cT (by omega), cT (by omega), cN (fun h => hd ⟨h1, h⟩), cT hs]; rfl
      · rw [cF (by omega), cT hs]; rfl
    by_cases hb : runB digB s i > 1000
    · rw [if_pos hb]
      exact ⟨false, [], [], evv_eq (Evt.now fun k' => by rw [st, cT (by omega)])⟩
    · rw [if_neg hb]
      obtain ⟨x, y, z, h⟩ := ratio_ok (neg := false) (k := 0) (by omega) hD (by omega) (by omega)
      exact ⟨x, y, z, evv_eq (Evt.now fun k' => by rw [st, cF (by omega), h]; rfl)⟩
end Go.Abs.Z
namespace Go.Abs.Z
open Go Go.Abs Limb Num
noncomputable def okR (a b : ByteArray) : Bool := match S87 a 10, S87 b 10 with
  | some (_, _, ea), some (lb, _, eb) => decide (ea = 0) && (decide (eb = 0) && !(lb.length == 0))
  | _, _ => false
theorem okR_run {neg : Bool} {a b : ByteArray} (ha : a.size ≤ 65536) (hb : b.size ≤ 65536) (da : Digs a) (db : Digs b) : ∃ x y z, S101 neg a b = some (x, y, z, okR a b) := by
  obtain ⟨la, lb, ea, eb, x, y, z, q1, q2, q3, _⟩ := ratio_both (neg := neg) (neg' := false) ha hb da db
  refine ⟨x, y, z, ?_⟩
  rw [q3]
  unfold okR
  rw [q1, q2]
def minus (s : ByteArray) (i : Nat) : Bool := decide (i + 1 < s.size) && bt s ((i + 1 : Nat) : Int) == 45
def at1 (s : ByteArray) (i : Nat) : Nat := if minus s i then i + 2 else i + 1
theorem at1_le {s : ByteArray} {i : Nat} (hi : i < s.size) : at1 s i ≤ s.size ∧ i < at1 s i := by
  unfold at1
  split
  · rename_i h
    unfold minus at h
    simp only [Bool.and_eq_true, decide_eq_true_eq] at h
    omega
  · omega
noncomputable def brEnd (s : ByteArray) (i a : Nat) : Option Nat :=
  let n := runB digB s a
  if a + n < s.size ∧ bt s ((a + n : Nat) : Int) = 47 then
    let k := runB digB s (a + n + 1)
    if a + n + 1 + k < s.size ∧ bt s ((a + n + 1 + k : Nat) : Int) = 93 ∧ okR (s.extract a (a + n)) (s.extract (a + n + 1) (a + n + 1 + k)) = true then some (a + n + 1 + k + 1 - i) else none
  else if a + n < s.size ∧ bt s ((a + n : Nat) : Int) = 93 ∧ okR (s.extract a (a + n)) (ByteArray.mk #[49]) = true then some (a + n + 1 - i) else none
end Go.Abs.Z
namespace Go.Abs.Z
open Go Go.Abs Limb Num
noncomputable def br83 (neg : Bool) (p0 : ByteArray) (p1 : Int) (p2 : List TokT) (a : Int) : Option R83 :=
  ((S70d p0 p1 p2 a).bind fun r10 =>
  cond (decide (0 ≤ a))
  (cond (decide (a ≤ IntKind.i64.wrap (a + r10.fst)))
  (cond (decide (IntKind.i64.wrap (a + r10.fst) ≤ (↑r10.snd.fst.size : Int)))
  (cond (decide (IntKind.i64.wrap (a + r10.fst) < (↑r10.snd.fst.size : Int)))
  (cond (decide (0 ≤ IntKind.i64.wrap (a + r10.fst)))
  (cond (decide (IntKind.i64.wrap (a + r10.fst) < (↑r10.snd.fst.size : Int)))
  (cond (bt r10.snd.fst (IntKind.i64.wrap (a + r10.fst)) == 47)
  ((S70d r10.snd.fst r10.snd.snd.fst r10.snd.snd.snd (IntKind.i64.wrap (IntKind.i64.wrap (a + r10.fst) + 1))).bind fun r11 =>
  cond (decide (0 ≤ IntKind.i64.wrap (IntKind.i64.wrap (a + r10.fst) + 1)))
  (cond (decide (IntKind.i64.wrap (IntKind.i64.wrap (a + r10.fst) + 1) ≤ IntKind.i64.wrap (IntKind.i64.wrap (IntKind.i64.wrap (a + r10.fst) + 1) + r11.fst)))
  (cond (decide (IntKind.i64.wrap (IntKind.i64.wrap (IntKind.i64.wrap (a + r10.fst) + 1) + r11.fst) ≤ (↑r11.snd.fst.size : Int)))
  (cond (decide (IntKind.i64.wrap (IntKind.i64.wrap (a + r10.fst) + IntKind.i64.wrap (1 + r11.fst)) ≥ (↑r11.snd.fst.size : Int)))
  (some ((0, Bool.false, [], [], Bool.false, r11.snd.fst, r11.snd.snd.fst, r11.snd.snd.snd)))
  (cond (decide (0 ≤ IntKind.i64.wrap (IntKind.i64.wrap (a + r10.fst) + IntKind.i64.wrap (1 + r11.fst))))
  (cond (decide (IntKind.i64.wrap (IntKind.i64.wrap (a + r10.fst) + IntKind.i64.wrap (1 + r11.fst)) < (↑r11.snd.fst.size : Int)))
  (cond (bt r11.snd.fst (IntKind.i64.wrap (IntKind.i64.wrap (a + r10.fst) + IntKind.i64.wrap (1 + r11.fst))) != 93)
  (some ((0, Bool.false, [], [], Bool.false, r11.snd.fst, r11.snd.snd.fst, r11.snd.snd.snd)))
  ((S101 neg (r10.snd.fst.extract a.toNat (IntKind.i64.wrap (a + r10.fst)).toNat) (r11.snd.fst.extract (IntKind.i64.wrap (IntKind.i64.wrap (a + r10.fst) + 1)).toNat (IntKind.i64.wrap (IntKind.i64.wrap (IntKind.i64.wrap (a + r10.fst) + 1) + r11.fst)).toNat)).bind fun r12 =>
  some ((IntKind.i64.wrap (IntKind.i64.wrap (IntKind.i64.wrap (IntKind.i64.wrap (a + r10.fst) + IntKind.i64.wrap (1 + r11.fst)) + 1) - r11.snd.snd.fst), r12.fst, r12.snd.fst, r12.snd.snd.fst, r12.snd.snd.snd, r11.snd.fst, r11.snd.snd.fst, r11.snd.snd.snd))))
  (none))
  (none)))
  (none))
  (none))
  (none))
  (cond (decide (IntKind.i64.wrap (a + r10.fst) ≥ (↑r10.snd.fst.size : Int)))
  (some ((0, Bool.false, [], [], Bool.false, r10.snd.fst, r10.snd.snd.fst, r10.snd.snd.snd)))
  (cond (decide (0 ≤ IntKind.i64.wrap (a + r10.fst)))
  (cond (decide (IntKind.i64.wrap (a + r10.fst) < (↑r10.snd.fst.size : Int)))
  (cond (bt r10.snd.fst (IntKind.i64.wrap (a + r10.fst)) != 93)
  (some ((0, Bool.false, [], [], Bool.false, r10.snd.fst, r10.snd.snd.fst, r10.snd.snd.snd)))
  ((S101 neg (r10.snd.fst.extract a.toNat (IntKind.i64.wrap (a + r10.fst)).toNat) (ByteArray.mk #[49])).bind fun r13 =>
  some ((IntKind.i64.wrap (IntKind.i64.wrap (IntKind.i64.wrap (a + r10.fst) + 1) - r10.snd.snd.fst), r13.fst, r13.snd.fst, r13.snd.snd.fst, r13.snd.snd.snd, r10.snd.fst, r10.snd.snd.fst, r10.snd.snd.snd))))
  (none))
  (none))))
  (none))
  (none))
  (cond (decide (IntKind.i64.wrap (a + r10.fst) ≥ (↑r10.snd.fst.size : Int)))
  (some ((0, Bool.false, [], [], Bool.false, r10.snd.fst, r10.snd.snd.fst, r10.snd.snd.snd)))
  (cond (decide (0 ≤ IntKind.i64.wrap (a + r10.fst)))
  (cond (decide (IntKind.i64.wrap (a + r10.fst) < (↑r10.snd.fst.size : Int)))
  (cond (bt r10.snd.fst (IntKind.i64.wrap (a + r10.fst)) != 93)
  (some ((0, Bool.false, [], [], Bool.false, r10.snd.fst, r10.snd.snd.fst, r10.snd.snd.snd)))
  ((S101 neg (r10.snd.fst.extract a.toNat (IntKind.i64.wrap (a + r10.fst)).toNat) (ByteArray.mk #[49])).bind fun r14 =>
  some ((IntKind.i64.wrap (IntKind.i64.wrap (IntKind.i64.wrap (a + r10.fst) + 1) - r10.snd.snd.fst), r14.fst, r14.snd.fst, r14.snd.snd.fst, r14.snd.snd.snd, r10.snd.fst, r10.snd.snd.fst, r10.snd.snd.snd))))
  (none))
  (none))))
  (none))
  (none))
  (none))
theorem b83_eq (p0 : ByteArray) (p1 : Int) (p2 : List TokT) : b83 p0 p1 p2 = 
  cond (decide (IntKind.i64.wrap (p1 + 1) < (p0.size : Int))) (cond (decide (0 ≤ IntKind.i64.wrap (p1 + 1))) (cond (decide (IntKind.i64.wrap (p1 + 1) < (p0.size : Int)))
    (cond (bt p0 (IntKind.i64.wrap (p1 + 1)) == 45) (br83 (bt p0 (IntKind.i64.wrap (p1 + 1)) == 45) p0 p1 p2 (IntKind.i64.wrap (IntKind.i64.wrap (p1 + 1) + 1)))
      (br83 (bt p0 (IntKind.i64.wrap (p1 + 1)) == 45) p0 p1 p2 (IntKind.i64.wrap (p1 + 1)))) none) none)
    (br83 false p0 p1 p2 (IntKind.i64.wrap (p1 + 1))) := rfl
end Go.Abs.Z
namespace Go.Abs.Z
open Go Go.Abs Limb Num
theorem br_run {neg : Bool} {s : ByteArray} (hz : s.size ≤ 65536) {i a : Nat} {l : List TokT} (ha : a ≤ s.size) (hia : i ≤ a) :
    ∃ m x y z, br83 neg s (i : Int) l (a : Int) = some (m, x, y, z, (brEnd s i a).isSome, s, (i : Int), l) ∧ ∀ n, brEnd s i a = some n → m = (n : Int) := by
  have hn := runB_le digB s a ha
  have hD := digs_run (s := s) (i := a) ha
  have hS := size_run (s := s) (i := a) ha
  unfold br83 brEnd
  rw [run70d hz ha]
  generalize runB digB s a = n at *
  have w1 : IntKind.i64.wrap ((a : Int) + (n : Int)) = ((a + n : Nat) : Int) := by rw [wi64] <;> omega
  have w2 : IntKind.i64.wrap (((a + n : Nat) : Int) + 1) = ((a + n + 1 : Nat) : Int) := by rw [wi64] <;> omega
  have w6 : IntKind.i64.wrap (((a + n + 1 : Nat) : Int) - (i : Int)) = ((a + n + 1 - i : Nat) : Int) := by rw [wi64] <;> omega
  simp only [Option.bind_some, w1, w2, w6, Int.toNat_natCast]
  rw [cT (by omega), cT (by omega), cT (by omega)]
  by_cases h1 : a + n < s.size
  · rw [cT (by omega), cT (by omega), cT (by omega)]
    by_cases h2 : bt s ((a + n : Nat) : Int) = 47
    · rw [cE h2, if_pos ⟨h1, h2⟩]
      have hk := runB_le digB s (a + n + 1) (by omega)
      have hD2 := digs_run (s := s) (i := a + n + 1) (by omega)
      have hS2 := size_run (s := s) (i := a + n + 1) (by omega)
      rw [run70d hz (by omega)]
      generalize runB digB s (a + n + 1) = k at *
      have w3 : IntKind.i64.wrap (((a + n + 1 : Nat) : Int) + (k : Int)) = ((a + n + 1 + k : Nat) : Int) := by rw [wi64] <;> omega
      have w4 : IntKind.i64.wrap (((a + n : Nat) : Int) + IntKind.i64.wrap (1 + (k : Int))) = ((a + n + 1 + k : Nat) : Int) := by rw [wi64 (x := 1 + (k : Int)) (by omega) (by omega), wi64] <;> omega
      have w5 : IntKind.i64.wrap (((a + n + 1 + k : Nat) : Int) + 1) = ((a + n + 1 + k + 1 : Nat) : Int) := by rw [wi64] <;> omega
      have w7 : IntKind.i64.wrap (((a + n + 1 + k + 1 : Nat) : Int) - (i : Int)) = ((a + n + 1 + k + 1 - i : Nat) : Int) := by rw [wi64] <;> omega
      simp only [Option.bind_some, w3, w4, w5, w7, Int.toNat_natCast]
      rw [cT (by omega), cT (by omega), cT (by omega)]
      by_cases h3 : a + n + 1 + k < s.size
      · have hge : ¬ (((a + n + 1 + k : Nat) : Int) ≥ (s.size : Int)) := by omega
        rw [cF hge, cT (by omega), cT (by omega)]
        by_cases h4 : bt s ((a + n + 1 + k : Nat) : Int) = 93
        · rw [bneF h4]
          obtain ⟨x, y, z, e⟩ := okR_run (neg := neg) (by omega) (by omega) hD hD2
          rw [e]
          simp only [Option.bind_some]
          by_cases h5 : okR (s.extract a (a + n)) (s.extract (a + n + 1) (a + n + 1 + k)) = true
          · rw [if_pos ⟨h3, h4, h5⟩, h5]
            exact ⟨_, x, y, z, rfl, fun m h => by injection h with h; subst h; rfl⟩
          · rw [if_neg fun h => h5 h.2.2, Bool.eq_false_iff.2 h5]
            exact ⟨_, x, y, z, rfl, fun m h => nomatch h⟩
        · rw [bneT h4, if_neg fun h => h4 h.2.1]
          exact ⟨_, false, [], [], rfl, fun m h => nomatch h⟩
      · have hge : ((a + n + 1 + k : Nat) : Int) ≥ (s.size : Int) := by omega
        rw [cT hge, if_neg fun h => h3 h.1]
        exact ⟨_, false, [], [], rfl, fun m h => nomatch h⟩
    · rw [cN h2, if_neg fun h => h2 h.2]
      have hge : ¬ (((a + n : Nat) : Int) ≥ (s.size : Int)) := by omega
      rw [cF hge, cT (by omega), cT (by omega)]
      by_cases h4 : bt s ((a + n : Nat) : Int) = 93
      · rw [bneF h4]
        obtain ⟨x, y, z, e⟩ := okR_run (neg := neg) (by omega) (by show 1 ≤ 65536; omega) hD one_digs
        rw [e]
        simp only [Option.bind_some]
        by_cases h5 : okR (s.extract a (a + n)) (ByteArray.mk #[49]) = true
        · rw [if_pos ⟨h1, h4, h5⟩, h5]
          exact ⟨_, x, y, z, rfl, fun m h => by injection h with h; subst h; rfl⟩
        · rw [if_neg fun h => h5 h.2.2, Bool.eq_false_iff.2 h5]
          exact ⟨_, x, y, z, rfl, fun m h => nomatch h⟩
      · rw [bneT h4, if_neg fun h => h4 h.2.1]
        exact ⟨_, false, [], [], rfl, fun m h => nomatch h⟩
  · have hge : ((a + n : Nat) : Int) ≥ (s.size : Int) := by omega
    rw [cF (by omega), cT hge, if_neg fun h => h1 h.1, if_neg fun h => h1 h.1]
    exact ⟨_, false, [], [], rfl, fun m h => nomatch h⟩
theorem prog_br {s : ByteArray} (hz : s.size ≤ 65536) {i : Nat} {l : List TokT} (hi : i < s.size) :
    ∃ m x y z, S83 s (i : Int) l = some (m, x, y, z, (brEnd s i (at1 s i)).isSome, s, (i : Int), l) ∧ ∀ n, brEnd s i (at1 s i) = some n → m = (n : Int) := by
  have hal := at1_le hi
  have w1 : IntKind.i64.wrap ((i : Int) + 1) = ((i + 1 : Nat) : Int) := by rw [wi64] <;> omega
  have w2 : IntKind.i64.wrap (((i + 1 : Nat) : Int) + 1) = ((i + 2 : Nat) : Int) := by rw [wi64] <;> omega
  have e : ∃ neg, b83 s (i : Int) l = br83 neg s (i : Int) l ((at1 s i : Nat) : Int) := by
    rw [b83_eq]
    unfold at1 minus
    simp only [w1, w2]
    by_cases h1 : i + 1 < s.size
    · rw [cT (by omega), cT (by omega), cT (by omega)]
      by_cases h2 : bt s ((i + 1 : Nat) : Int) = 45
      · rw [cE h2, decide_eq_true h1, h2]
        exact ⟨_, rfl⟩
      · rw [cN h2, decide_eq_true h1, beq_eq_false_iff_ne.2 h2]
        exact ⟨_, rfl⟩
    · rw [cF (by omega), decide_eq_false h1]
      exact ⟨_, rfl⟩
  obtain ⟨neg, e⟩ := e
  obtain ⟨m, x, y, z, h, g⟩ := br_run (neg := neg) (i := i) (l := l) hz hal.1 (Nat.le_of_lt hal.2)
  exact ⟨m, x, y, z, evv_eq (Evt.now fun k => by
    show b83 s i l = _
    rw [e, h]), g⟩
end Go.Abs.Z
namespace Go.Abs.Z
open Go Go.Abs Limb Num
theorem tail33 {s : ByteArray} (hz : s.size ≤ 65536) {i e : Nat} {neg : Bool} {la lb : List Int} {ea eb : Int} (he : e ≤ s.size) (hi : i ≤ e)
    (low : ea = 0 → eb = 0 → lb.length ≠ 0 → ∃ r, S88 neg la lb = some r) :
    ∃ r, Evt (fun f => f76_33 s (i : Int) f (e : Int) neg la ea lb eb) (if e < s.size ∧ bt s (e : Int) = 93 ∧ (decide (ea = 0) && (decide (eb = 0) && !(lb.length == 0))) = true then (((e + 1 - i : Nat) : Int), r) else (0, false, [], [])) := by
  have st : ∀ f, f76_33 s (i : Int) (f + 1) (e : Int) neg la ea lb eb = b76_33 s i (f76_6 s i f) (f76_15 s i f) (f76_22 s i f) (f76_9 s i f) (f76_17 s i f) (f76_24 s i f) (f76_11 s i f) (f76_27 s i f) (f76_29 s i f) (f76_31 s i f) (f76_33 s i f) (f76_35 s i f) (e : Int) neg la ea lb eb := fun f => rfl
  by_cases h1 : e < s.size
  · have hge : ¬ ((e : Int) ≥ (s.size : Int)) := by omega
    by_cases h2 : bt s (e : Int) = 93
    · by_cases h3 : ea = 0
      · by_cases h4 : eb = 0
        · by_cases h5 : lb.length = 0
          · refine ⟨(false, [], []), Evt.last fun f => ?_⟩
            rw [if_neg fun h => by rw [h5] at h; simp at h, st]
            unfold b76_33
            rw [cF hge, cT (by omega), cT (by omega), bneF h2, bneF h3, bneF h4, cE (by omega)]
          · obtain ⟨r, hr⟩ := low h3 h4 h5
            refine ⟨r, Evt.step (g := fun f => f76_35 s (i : Int) f (e : Int) neg la lb) (Evt.last fun f => ?_) fun f => ?_⟩
            · show b76_35 s i (f76_6 s i f) (f76_15 s i f) (f76_22 s i f) (f76_9 s i f) (f76_17 s i f) (f76_24 s i f) (f76_11 s i f) (f76_27 s i f) (f76_29 s i f) (f76_31 s i f) (f76_33 s i f) (f76_35 s i f) (e : Int) neg la lb = _
              unfold b76_35
              rw [hr, if_pos ⟨h1, h2, by rw [decide_eq_true h3, decide_eq_true h4, beq_eq_false_iff_ne.2 h5]; rfl⟩]
              simp only [Option.bind_some]
              rw [show IntKind.i64.wrap (IntKind.i64.wrap ((e : Int) + 1) - (i : Int)) = ((e + 1 - i : Nat) : Int) by rw [wi64 (x := (e : Int) + 1) (by omega) (by omega), wi64] <;> omega]
            · rw [st]
              unfold b76_33
              rw [cF hge, cT (by omega), cT (by omega), bneF h2, bneF h3, bneF h4, cN (by omega)]
        · refine ⟨(false, [], []), Evt.last fun f => ?_⟩
          rw [if_neg fun h => by rw [decide_eq_false h4] at h; simp at h, st]
          unfold b76_33
          rw [cF hge, cT (by omega), cT (by omega), bneF h2, bneF h3, bneT h4]
      · refine ⟨(false, [], []), Evt.last fun f => ?_⟩
        rw [if_neg fun h => by rw [decide_eq_false h3] at h; simp at h, st]
        unfold b76_33
        rw [cF hge, cT (by omega), cT (by omega), bneF h2, bneT h3]
    · refine ⟨(false, [], []), Evt.last fun f => ?_⟩
      rw [if_neg fun h => h2 h.2.1, st]
      unfold b76_33
      rw [cF hge, cT (by omega), cT (by omega), bneT h2]
  · have hge : (e : Int) ≥ (s.size : Int) := by omega
    refine ⟨(false, [], []), Evt.last fun f => ?_⟩
    rw [if_neg fun h => h1 h.1, st]
    unfold b76_33
    rw [cT hge]
theorem one_dval : dval (ByteArray.mk #[49]) (ByteArray.mk #[49]).size = 1 := rfl
theorem one_low {lb : List Int} {e : Int} (h : S87 (ByteArray.mk #[49]) 10 = some (lb, 0, e)) : e = 0 ∧ S89 1 = some lb ∧ lb.length ≠ 0 := by
  obtain ⟨r, e', h', o⟩ := run87 (s := ByteArray.mk #[49]) (by show 1 ≤ 65536; omega) (by show 0 < 1; omega) one_digs
  rw [h] at h'
  injection h' with h'
  injection h' with h1 h2
  injection h2 with h2 h3
  subst h1; subst h3
  obtain ⟨r', q, iq⟩ := run89 (x := 1) (by omega) (by omega)
  rcases o with ⟨_, p2, p3, _⟩ | ⟨p1, _⟩
  · rw [one_dval] at p3
    refine ⟨p2, by rw [q, p3.inj iq], fun hl => ?_⟩
    have := p3.nil_iff.1 (List.length_eq_zero_iff.1 hl)
    omega
  · exact absurd p1 (Int.not_le.2 (small_val one_digs (by show 1 ≤ 1001; omega)))
theorem okR_eq {a b : ByteArray} {la lb : List Int} {ea eb : Int} (h1 : S87 a 10 = some (la, 0, ea)) (h2 : S87 b 10 = some (lb, 0, eb)) : okR a b = (decide (ea = 0) && (decide (eb = 0) && !(lb.length == 0))) := by
  unfold okR; rw [h1, h2]
theorem ref24 {s : ByteArray} (hz : s.size ≤ 65536) {i a : Nat} {neg : Bool} (ha : a ≤ s.size) (hia : i ≤ a) :
    ∃ r, Evt (fun f => f76_24 s (i : Int) f (a : Int) neg) (match brEnd s i a with | some n => ((n : Int), r) | none => (0, false, [], [])) := by
  have hn := runB_le digB s a ha
  have hD := digs_run (s := s) (i := a) ha
  have hS := size_run (s := s) (i := a) ha
  have h86 := run86 hz ha
  unfold brEnd
  generalize runB digB s a = n at *
  have w1 : IntKind.i64.wrap ((a : Int) + (n : Int)) = ((a + n : Nat) : Int) := by rw [wi64] <;> omega
  have w2 : IntKind.i64.wrap (((a + n : Nat) : Int) + 1) = ((a + n + 1 : Nat) : Int) := by rw [wi64] <;> omega
  obtain ⟨la, l1, ea, e1, _, _, _, q1, q2, _, _, _, low, _⟩ := ratio_both (neg := false) (neg' := neg) (a := s.extract a (a + n)) (b := ByteArray.mk #[49]) (by omega) (by show 1 ≤ 65536; omega) hD one_digs
  obtain ⟨z1, h89, z2⟩ := one_low q2
  have st : ∀ {R : R76}, Evt (fun f => f76_29 s (i : Int) f ((a + n : Nat) : Int) neg la ea l1) R → Evt (fun f => f76_24 s (i : Int) f (a : Int) neg) R := fun h => Evt.step (g := fun f => f76_27 s (i : Int) f (a : Int) neg (n : Int) la ea l1) (Evt.step h fun f => by
    show b76_27 s i (f76_6 s i f) (f76_15 s i f) (f76_22 s i f) (f76_9 s i f) (f76_17 s i f) (f76_24 s i f) (f76_11 s i f) (f76_27 s i f) (f76_29 s i f) (f76_31 s i f) (f76_33 s i f) (f76_35 s i f) (a : Int) neg (n : Int) la ea l1 = _
    unfold b76_27
    rw [w1]) fun f => by
    show b76_24 s i (f76_6 s i f) (f76_15 s i f) (f76_22 s i f) (f76_9 s i f) (f76_17 s i f) (f76_24 s i f) (f76_11 s i f) (f76_27 s i f) (f76_29 s i f) (f76_31 s i f) (f76_33 s i f) (f76_35 s i f) (a : Int) neg = _
    unfold b76_24
    rw [h86]
    simp only [Option.bind_some, w1, Int.toNat_natCast]
    rw [cT (by omega), cT (by omega), cT (by omega), q1, h89]
    rfl
  have st29 : ∀ f, f76_29 s (i : Int) (f + 1) ((a + n : Nat) : Int) neg la ea l1 = b76_29 s i (f76_6 s i f) (f76_15 s i f) (f76_22 s i f) (f76_9 s i f) (f76_17 s i f) (f76_24 s i f) (f76_11 s i f) (f76_27 s i f) (f76_29 s i f) (f76_31 s i f) (f76_33 s i f) (f76_35 s i f) ((a + n : Nat) : Int) neg la ea l1 := fun f => rfl
  by_cases hd : a + n < s.size ∧ bt s ((a + n : Nat) : Int) = 47
  · rw [if_pos hd]
    have hk := runB_le digB s (a + n + 1) (by omega)
    have hD2 := digs_run (s := s) (i := a + n + 1) (by omega)
    have hS2 := size_run (s := s) (i := a + n + 1) (by omega)
    have h862 := run86 hz (i := a + n + 1) (by omega)
    dsimp only
    generalize runB digB s (a + n + 1) = k at *
    have w3 : IntKind.i64.wrap (((a + n + 1 : Nat) : Int) + (k : Int)) = ((a + n + 1 + k : Nat) : Int) := by rw [wi64] <;> omega
    obtain ⟨la', lb, ea', eb, _, _, _, q3, q4, _, _, _, low2, _⟩ := ratio_both (neg := false) (neg' := neg) (a := s.extract a (a + n)) (b := s.extract (a + n + 1) (a + n + 1 + k)) (by omega) (by omega) hD hD2
    have ee : la' = la ∧ ea' = ea := by
      rw [q1] at q3
      injection q3 with q3
      injection q3 with t1 t2
      injection t2 with t2 t3
      exact ⟨t1.symm, t3.symm⟩
    obtain ⟨rfl, rfl⟩ := ee
    rw [okR_eq q3 q4]
    obtain ⟨r, hr⟩ := tail33 (s := s) hz (i := i) (e := a + n + 1 + k) (neg := neg) (la := la') (ea := ea') (lb := lb) (eb := eb) (by omega) (by omega) low2
    refine ⟨r, st (Evt.step (g := fun f => f76_31 s (i : Int) f ((a + n : Nat) : Int) neg la' ea' (k : Int)) (Evt.step (g := fun f => f76_33 s (i : Int) f ((a + n + 1 + k : Nat) : Int) neg la' ea' lb eb) ?_ fun f => ?_) fun f => ?_)⟩
    · split at hr <;> rename_i hc
      · rw [if_pos hc]; exact hr
      · rw [if_neg hc]; exact hr
    · show b76_31 s i (f76_6 s i f) (f76_15 s i f) (f76_22 s i f) (f76_9 s i f) (f76_17 s i f) (f76_24 s i f) (f76_11 s i f) (f76_27 s i f) (f76_29 s i f) (f76_31 s i f) (f76_33 s i f) (f76_35 s i f) ((a + n : Nat) : Int) neg la' ea' (k : Int) = _
      unfold b76_31
      simp only [w2, w3, Int.toNat_natCast]
      rw [cT (by omega), cT (by omega), cT (by omega), q4]
      rfl
    · rw [st29]
      unfold b76_29
      rw [cT (by omega), cT (by omega), cT (by omega), cE hd.2, w2, h862]
      rfl
  · rw [if_neg hd, okR_eq q1 q2]
    obtain ⟨r, hr⟩ := tail33 (s := s) hz (i := i) (e := a + n) (neg := neg) (la := la) (ea := ea) (lb := l1) (eb := 0) hn (by omega) (by rw [z1] at low; exact low)
    refine ⟨r, st (Evt.step (g := fun f => f76_33 s (i : Int) f ((a + n : Nat) : Int) neg la ea l1 0) ?_ fun f => ?_)⟩
    · rw [z1]
      split at hr <;> rename_i hc
      · rw [if_pos hc]; exact hr
      · rw [if_neg hc]; exact hr
    · rw [st29]
      unfold b76_29
      by_cases h1 : a + n < s.size
      · rw [cT (by omega), cT (by omega), cT (by omega), cN fun h => hd ⟨h1, h⟩]
      · rw [cF (by omega)]
theorem ref_br {s : ByteArray} (hz : s.size ≤ 65536) {i : Nat} (hi : i < s.size) (hc : bt s (i : Int) = 91) :
    ∃ r, S76 s (i : Int) = some (match brEnd s i (at1 s i) with | some n => ((n : Int), r) | none => (0, false, [], [])) := by
  have hal := at1_le hi
  have w1 : IntKind.i64.wrap ((i : Int) + 1) = ((i + 1 : Nat) : Int) := by rw [wi64] <;> omega
  have w2 : IntKind.i64.wrap (((i + 1 : Nat) : Int) + 1) = ((i + 2 : Nat) : Int) := by rw [wi64] <;> omega
  obtain ⟨r, hr⟩ := ref24 (neg := minus s i) (i := i) hz hal.1 (Nat.le_of_lt hal.2)
  refine ⟨r, evv_eq (Evt.same (f := fun f => f76 f s (i : Int)) (g := fun f => f76_22 s (i : Int) f (minus s i)) (Evt.step hr fun f => ?_) fun f => ?_)⟩
  · show b76_22 s i (f76_6 s i f) (f76_15 s i f) (f76_22 s i f) (f76_9 s i f) (f76_17 s i f) (f76_24 s i f) (f76_11 s i f) (f76_27 s i f) (f76_29 s i f) (f76_31 s i f) (f76_33 s i f) (f76_35 s i f) (minus s i) = _
    unfold b76_22 at1
    rw [w1, w2]
    cases minus s i <;> rfl
  · show b76 s (i : Int) (f76_6 s i f) (f76_15 s i f) (f76_22 s i f) (f76_9 s i f) (f76_17 s i f) (f76_24 s i f) (f76_11 s i f) (f76_27 s i f) (f76_29 s i f) (f76_31 s i f) (f76_33 s i f) (f76_35 s i f) = _
    unfold b76 minus
    rw [cT (by omega), cT (by omega), bneF hc, w1]
    by_cases h1 : i + 1 < s.size
    · rw [cT (by omega), cT (by omega), cT (by omega), decide_eq_true h1]
      rfl
    · rw [cF (by omega), decide_eq_false h1]
      rfl
noncomputable def numLen (s : ByteArray) (i : Nat) : Option Nat := if bt s (i : Int) = 91 then brEnd s i (at1 s i) else plainLen s i
theorem plain_pos {s : ByteArray} {i n : Nat} (hi : i < s.size) (hc : digB (bt s (i : Int)) = true) (h : plainLen s i = some n) : 0 < n ∧ i + n ≤ s.size := by
  have hn := runB_le digB s i (by omega)
  have hp := runB_pos hi hc
  unfold plainLen at h
  dsimp only at h
  split at h
  · rename_i hd
    have hk := runB_le digB s (i + runB digB s i + 1) (by omega)
    split at h
    · exact nomatch h
    · split at h
      · exact nomatch h
      · injection h with h; omega
  · split at h
    · exact nomatch h
    · injection h with h; omega
theorem br_pos {s : ByteArray} {i n a : Nat} (hi : i < s.size) (ha : a ≤ s.size) (hia : i < a) (h : brEnd s i a = some n) : 0 < n ∧ i + n ≤ s.size := by
  have hn := runB_le digB s a ha
  unfold brEnd at h
  dsimp only at h
  split at h
  · rename_i hd
    have hk := runB_le digB s (a + runB digB s a + 1) (by omega)
    split at h
    · injection h with h; omega
    · exact nomatch h
  · split at h
    · injection h with h; omega
    · exact nomatch h
theorem num_pos {s : ByteArray} {i n : Nat} (hi : i < s.size) (hc : bt s (i : Int) = 91 ∨ digB (bt s (i : Int)) = true) (h : numLen s i = some n) : 0 < n ∧ i + n ≤ s.size := by
  unfold numLen at h
  split at h
  · have hal := at1_le hi
    exact br_pos hi hal.1 hal.2 h
  · rename_i hb
    exact plain_pos hi (hc.resolve_left hb) h
theorem ref_num {s : ByteArray} (hz : s.size ≤ 65536) {i : Nat} (hi : i < s.size) (hc : bt s (i : Int) = 91 ∨ digB (bt s (i : Int)) = true) :
    ∃ r, S76 s (i : Int) = some (match numLen s i with | some n => ((n : Int), r) | none => (0, false, [], [])) := by
  unfold numLen
  by_cases hb : bt s (i : Int) = 91
  · rw [if_pos hb]; exact ref_br hz hi hb
  · rw [if_neg hb]; exact ref_plain hz hi (hc.resolve_left hb)
end Go.Abs.Z
namespace Go.Abs.Z
open Go Go.Abs Limb Num
theorem run51 {s : ByteArray} {i n : Nat} {l : List TokT} {kd : Int} (hz : s.size ≤ 65536) (hn : i + n ≤ s.size) (hl : l.length ≤ 16384) :
    S51 s (i : Int) l kd (n : Int) = some (s, ((i + n : Nat) : Int), l ++ [(kd, s.extract i (i + n), (i : Int), false, [], [])]) := evv_eq (Evt.now fun k => by
  show b51 s (i : Int) l kd (n : Int) = _
  unfold b51
  have w1 : IntKind.i64.wrap ((i : Int) + (n : Int)) = ((i + n : Nat) : Int) := by rw [wi64] <;> omega
  simp only [w1, Int.toNat_natCast]
  rw [cT (by omega), cT (by omega), cT (by omega), cT (by omega)])
theorem run73 (t : ByteArray) : ∃ b, S73 t = some b := by
  have : ∃ b, b73 t = some b := by
    unfold b73
    generalize (t.toList == (ByteArray.mk #[105, 110]).toList) = a1
    generalize (t.toList == (ByteArray.mk #[102, 110]).toList) = a2
    generalize (t.toList == (ByteArray.mk #[108, 101, 116]).toList) = a3
    generalize (t.toList == (ByteArray.mk #[111, 117, 116]).toList) = a4
    generalize (t.toList == (ByteArray.mk #[115, 117, 109]).toList) = a5
    generalize (t.toList == (ByteArray.mk #[112, 114, 111, 100]).toList) = a6
    cases a1 <;> cases a2 <;> cases a3 <;> cases a4 <;> cases a5 <;> cases a6 <;> exact ⟨_, rfl⟩
  obtain ⟨b, h⟩ := this
  exact ⟨b, evv_eq (Evt.now fun k => h)⟩
theorem run64 (t : ByteArray) : ∃ b, S64 t = some b := by
  have : ∃ b, b64 t = some b := by
    unfold b64
    generalize (t.toList == (ByteArray.mk #[105, 110]).toList) = a1
    generalize (t.toList == (ByteArray.mk #[102, 110]).toList) = a2
    generalize (t.toList == (ByteArray.mk #[108, 101, 116]).toList) = a3
    generalize (t.toList == (ByteArray.mk #[111, 117, 116]).toList) = a4
    generalize (t.toList == (ByteArray.mk #[115, 117, 109]).toList) = a5
    generalize (t.toList == (ByteArray.mk #[112, 114, 111, 100]).toList) = a6
    cases a1 <;> cases a2 <;> cases a3 <;> cases a4 <;> cases a5 <;> cases a6 <;> exact ⟨_, rfl⟩
  obtain ⟨b, h⟩ := this
  exact ⟨b, evv_eq (Evt.now fun k => h)⟩
abbrev mks : ByteArray := ByteArray.mk #[44, 61, 43, 45, 42, 47, 94, 40, 41]
def isMk (c : Int) : Bool := (List.range 9).any fun j => bt mks (j : Int) == c
theorem byte_lt (s : ByteArray) (i : Int) : 0 ≤ bt s i ∧ bt s i < 256 := by
  unfold bt
  have := (s.data.getD i.toNat 0).toNat_lt
  omega
theorem mk_dec : ∀ n : Fin 256, decide (Go.Lib.indexByte (ByteArray.mk #[44, 61, 43, 45, 42, 47, 94, 40, 41]).data.toList n.val.toUInt8 ≥ 0) = isMk (n.val : Int) := by decide +kernel
theorem mk_idx (s : ByteArray) (i : Int) : decide (Go.Lib.indexByte (ByteArray.mk #[44, 61, 43, 45, 42, 47, 94, 40, 41]).data.toList (bt s i).toNat.toUInt8 ≥ 0) = isMk (bt s i) := by
  have hb := byte_lt s i
  have h := mk_dec ⟨(bt s i).toNat, by omega⟩
  simp only at h
  rw [show (((bt s i).toNat : Nat) : Int) = bt s i by omega] at h
  exact h
theorem extract_one {s : ByteArray} {i : Nat} (hi : i < s.size) : s.extract i (i + 1) = ByteArray.mk #[(bt s (i : Int)).toNat.toUInt8] := by
  apply ByteArray.ext
  rw [ByteArray.data_extract]
  apply Array.ext
  · rw [Array.size_extract]
    show min (i + 1) s.data.size - i = 1
    have : s.data.size = s.size := rfl
    omega
  · intro j h1 h2
    have hj : j = 0 := by have : j < 1 := h2; omega
    subst hj
    rw [Array.getElem_extract]
    have hs : i < s.data.size := hi
    show s.data[i + 0] = (bt s (i : Int)).toNat.toUInt8
    unfold bt
    rw [Int.toNat_natCast, Int.toNat_natCast, Array.getD_eq_getD_getElem?, Array.getElem?_eq_getElem hs]
    simp
theorem loop19 {s : ByteArray} {p1 : Int} : ∀ m j : Nat, j + m = 9 →
    Evt (fun k => f53_19 s p1 k (j : Int)) (if ((List.range' j m).any fun j => bt mks (j : Int) == bt s p1) = true then (4, ByteArray.mk #[(bt s p1).toNat.toUInt8], p1, false, [], [], 0) else (0, ByteArray.mk #[], 0, false, [], [], 80))
  | 0, j, h => Evt.last fun k => by
    show b53_19 s p1 _ _ _ _ _ _ _ (j : Int) = _
    unfold b53_19
    have hlt : ¬ ((j : Int) < ((ByteArray.mk #[44, 61, 43, 45, 42, 47, 94, 40, 41]).size : Int)) := by show ¬ (j : Int) < ((9 : Nat) : Int); omega
    rw [cF hlt]
    rfl
  | m + 1, j, h => by
    have e1 : IntKind.i64.wrap ((j : Int) + 1) = ((j + 1 : Nat) : Int) := by rw [wi64] <;> omega
    have hs : mks.size = 9 := rfl
    have hlt : (j : Int) < ((ByteArray.mk #[44, 61, 43, 45, 42, 47, 94, 40, 41]).size : Int) := by show (j : Int) < ((9 : Nat) : Int); omega
    have hle : ((j + 1 : Nat) : Int) ≤ ((ByteArray.mk #[44, 61, 43, 45, 42, 47, 94, 40, 41]).size : Int) := by show ((j + 1 : Nat) : Int) ≤ ((9 : Nat) : Int); omega
    by_cases hc : bt mks (j : Int) = bt s p1
    · rw [if_pos (by rw [List.range'_succ, List.any_cons, hc, beq_self_eq_true]; rfl)]
      refine Evt.last fun k => ?_
      show b53_19 s p1 _ _ _ _ _ _ _ (j : Int) = _
      unfold b53_19
      rw [cT hlt, cT (by omega), cT hlt, cE hc, cT (by omega), e1, cT (by omega), cT hle, Int.toNat_natCast, Int.toNat_natCast, extract_one (s := mks) (by omega), hc]
    · have ih := loop19 (s := s) (p1 := p1) m (j + 1) (by omega)
      have : ((List.range' j (m + 1)).any fun j => bt mks (j : Int) == bt s p1) = ((List.range' (j + 1) m).any fun j => bt mks (j : Int) == bt s p1) := by
        rw [List.range'_succ, List.any_cons, beq_eq_false_iff_ne.2 hc]; rfl
      rw [this]
      refine Evt.step ih fun k => ?_
      show b53_19 s p1 _ _ _ _ _ _ _ (j : Int) = _
      unfold b53_19
      rw [cT hlt, cT (by omega), cT hlt, cN hc, e1]
theorem set_last {α : Type} (l : List α) (a b : α) : (l ++ [a]).set l.length b = l ++ [b] := by
  rw [List.set_append_right _ _ (Nat.le_refl _), Nat.sub_self]; rfl
theorem getD_last {α : Type} (l : List α) (a d : α) : (l ++ [a]).getD l.length d = a := by
  rw [List.getD_eq_getElem?_getD, List.getElem?_append_right (Nat.le_refl _), Nat.sub_self]; rfl
noncomputable def numGood (s : ByteArray) (i : Nat) : Option Nat := match numLen s i with
  | none => none
  | some n => if i + n < s.size ∧ (letterB (bt s ((i + n : Nat) : Int)) = true ∨ bt s ((i + n : Nat) : Int) = 46) then none else some n
theorem good_pos {s : ByteArray} {i n : Nat} (hi : i < s.size) (hc : bt s (i : Int) = 91 ∨ digB (bt s (i : Int)) = true) (h : numGood s i = some n) : 0 < n ∧ i + n ≤ s.size := by
  unfold numGood at h
  cases hL : numLen s i with
  | none => rw [hL] at h; exact nomatch h
  | some m =>
    rw [hL] at h
    dsimp only at h
    split at h
    · exact nomatch h
    · injection h with h
      subst h
      exact num_pos hi hc hL
theorem head74 {s : ByteArray} (hz : s.size ≤ 65536) {i : Nat} {l : List TokT} (hi : i < s.size) (hc : bt s (i : Int) = 91 ∨ digB (bt s (i : Int)) = true) :
    ∃ m x y z, (∀ f, f74 f s (i : Int) l (bt s (i : Int)) = f74_7 s (i : Int) l (bt s (i : Int)) f m (numLen s i).isSome s (i : Int) x y z l) ∧ ∀ n, numLen s i = some n → m = (n : Int) := by
  have e0 : ∀ f, f74 f s (i : Int) l (bt s (i : Int)) = b74 s (i : Int) l (bt s (i : Int)) (f74_7 s (i : Int) l (bt s (i : Int)) f) := fun f => rfl
  by_cases hb : bt s (i : Int) = 91
  · obtain ⟨m, x, y, z, h, g⟩ := prog_br (l := l) hz hi
    unfold numLen
    rw [if_pos hb]
    refine ⟨m, x, y, z, fun f => ?_, g⟩
    rw [e0]
    unfold b74
    rw [cE hb, h]
    simp only [Option.bind_some, List.take_length]
  · obtain ⟨x, y, z, h⟩ := prog_plain (l := l) hz hi (hc.resolve_left hb)
    unfold numLen
    rw [if_neg hb]
    cases hL : plainLen s i with
    | none =>
      rw [hL] at h
      refine ⟨0, false, [], [], fun f => ?_, fun n hn => nomatch hn⟩
      rw [e0]
      unfold b74
      rw [cN hb, h]
      simp only [Option.bind_some, List.take_length]
      rfl
    | some n =>
      rw [hL] at h
      refine ⟨n, x, y, z, fun f => ?_, fun n hn => by injection hn with hn; rw [hn]⟩
      rw [e0]
      unfold b74
      rw [cN hb, h]
      simp only [Option.bind_some, List.take_length]
      rfl
theorem run74 {s : ByteArray} (hz : s.size ≤ 65536) {i : Nat} {l : List TokT} (hi : i < s.size) (hl : l.length ≤ 16384) (hc : bt s (i : Int) = 91 ∨ digB (bt s (i : Int)) = true) :
    match numGood s i with
    | some n => ∃ x y z, S74 s (i : Int) l (bt s (i : Int)) = some (0, s, ((i + n : Nat) : Int), l ++ [(2, s.extract i (i + n), (i : Int), x, y, z)])
    | none => S74 s (i : Int) l (bt s (i : Int)) = some (81, s, (i : Int), l) := by
  obtain ⟨m, x, y, z, e, g⟩ := head74 (l := l) hz hi hc
  have st : ∀ f, f74_7 s (i : Int) l (bt s (i : Int)) (f + 1) m (numLen s i).isSome s (i : Int) x y z l = b74_7 s (i : Int) l (bt s (i : Int)) (f74_7 s (i : Int) l (bt s (i : Int)) f) m (numLen s i).isSome s (i : Int) x y z l := fun f => rfl
  unfold numGood
  cases hL : numLen s i with
  | none =>
    dsimp only
    rw [hL] at e st
    refine evv_eq (Evt.same (Evt.last fun f => ?_) e)
    rw [st]
    rfl
  | some n =>
    rw [hL] at e st
    have hm := g n hL
    subst hm
    obtain ⟨np, nl⟩ := num_pos hi hc hL
    have w1 : IntKind.i64.wrap ((i : Int) + (n : Int)) = ((i + n : Nat) : Int) := by rw [wi64] <;> omega
    have w2 : ∀ t : TokT, IntKind.i64.wrap (((l ++ [t]).length : Int) - 1) = (l.length : Int) := fun t => by rw [List.length_append, List.length_singleton, wi64] <;> omega
    have key : ∀ (kd : Int) (t : ByteArray) (p : Int) (a : Bool) (b c : List Int), (cond (decide (0 ≤ IntKind.i64.wrap (((l ++ [(kd, t, p, a, b, c)]).length : Int) - 1)))
      (cond (decide (IntKind.i64.wrap (((l ++ [(kd, t, p, a, b, c)]).length : Int) - 1) < ((l ++ [(kd, t, p, a, b, c)]).length : Int)))
      (cond (decide ((IntKind.i64.wrap (((l ++ [(kd, t, p, a, b, c)]).length : Int) - 1)).toNat < (l ++ [(kd, t, p, a, b, c)]).length))
      (some (0, s, ((i + n : Nat) : Int), (l ++ [(kd, t, p, a, b, c)]).set (IntKind.i64.wrap (((l ++ [(kd, t, p, a, b, c)]).length : Int) - 1)).toNat (((l ++ [(kd, t, p, a, b, c)]).getD (IntKind.i64.wrap (((l ++ [(kd, t, p, a, b, c)]).length : Int) - 1)).toNat (X.dflt 90)).fst, ((l ++ [(kd, t, p, a, b, c)]).getD (IntKind.i64.wrap (((l ++ [(kd, t, p, a, b, c)]).length : Int) - 1)).toNat (X.dflt 90)).snd.fst, ((l ++ [(kd, t, p, a, b, c)]).getD (IntKind.i64.wrap (((l ++ [(kd, t, p, a, b, c)]).length : Int) - 1)).toNat (X.dflt 90)).snd.snd.fst, x, y, z))) none) none) none : Option R74) = some (0, s, ((i + n : Nat) : Int), l ++ [(kd, t, p, x, y, z)]) := fun kd t p a b c => by
      simp only [w2, Int.toNat_natCast]
      rw [cT (by omega), cT (by rw [List.length_append, List.length_singleton]; omega), cT (by rw [List.length_append, List.length_singleton]; omega)]
      exact (congrArg (fun q : TokT => (some (0, s, ((i + n : Nat) : Int), (l ++ [(kd, t, p, a, b, c)]).set l.length (q.fst, q.snd.fst, q.snd.snd.fst, x, y, z)) : Option R74)) (getD_last l (kd, t, p, a, b, c) (X.dflt 90))).trans (congrArg (fun q => (some (0, s, ((i + n : Nat) : Int), q) : Option R74)) (set_last l _ _))
    dsimp only
    by_cases h1 : i + n < s.size
    · by_cases h2 : letterB (bt s ((i + n : Nat) : Int)) = true
      · rw [if_pos ⟨h1, Or.inl h2⟩]
        refine evv_eq (Evt.same (Evt.last fun f => ?_) e)
        rw [st]
        unfold b74_7
        rw [cNF (b := (some n).isSome) rfl, w1, cT (by omega), cT (by omega), cT (by omega), run69, h2]
        rfl
      · by_cases h3 : bt s ((i + n : Nat) : Int) = 46
        · rw [if_pos ⟨h1, Or.inr h3⟩]
          refine evv_eq (Evt.same (Evt.last fun f => ?_) e)
          rw [st]
          unfold b74_7
          rw [cNF (b := (some n).isSome) rfl, w1, cT (by omega), cT (by omega), cT (by omega), run69, Bool.eq_false_iff.2 h2]
          simp only [Option.bind_some, cond_false]
          rw [cT (by omega), cT (by omega), cE h3]
        · rw [if_neg fun h => h.2.elim h2 h3]
          refine ⟨x, y, z, evv_eq (Evt.same (Evt.last fun f => ?_) e)⟩
          rw [st]
          unfold b74_7
          rw [cNF (b := (some n).isSome) rfl, w1, cT (by omega), cT (by omega), cT (by omega), run69, Bool.eq_false_iff.2 h2]
          simp only [Option.bind_some, cond_false]
          rw [cT (by omega), cT (by omega), cN h3, run51 hz (by omega) hl]
          simp only [Option.bind_some]
          exact key _ _ _ _ _ _
    · rw [if_neg fun h => h1 h.1]
      refine ⟨x, y, z, evv_eq (Evt.same (Evt.last fun f => ?_) e)⟩
      rw [st]
      unfold b74_7
      rw [cNF (b := (some n).isSome) rfl, w1, cF (by omega), run51 hz (by omega) hl]
      simp only [Option.bind_some]
      exact key _ _ _ _ _ _
end Go.Abs.Z
namespace Go.Abs.Z
open Go Go.Abs Limb Num
theorem loop53_4 {s : ByteArray} (hz : s.size ≤ 65536) {i : Nat} (hi : i < s.size) {R : R53}
    (hR : Evt (fun k => f53_7 s (i : Int) k (runB nameB s i : Int) (s.extract i (i + runB nameB s i))) R) : Evt (fun k => f53_4 s (i : Int) k 0) R := by
  have hn := runB_le nameB s i (by omega)
  have main : ∀ m j : Nat, i + j + m = i + runB nameB s i → Evt (fun k => f53_4 s (i : Int) k (j : Int)) R := by
    intro m
    induction m with
    | zero =>
      intro j hj
      have hj' : j = runB nameB s i := by omega
      subst hj'
      have w1 : IntKind.i64.wrap ((i : Int) + (runB nameB s i : Int)) = ((i + runB nameB s i : Nat) : Int) := by rw [wi64] <;> omega
      refine Evt.step hR fun k => ?_
      show b53_4 s i (f53_4 s i k) (f53_12 s i k) (f53_7 s i k) (f53_14 s i k) (f53_19 s i k) (f53_9 s i k) (f53_16 s i k) (runB nameB s i : Int) = _
      unfold b53_4
      simp only [w1, Int.toNat_natCast]
      by_cases h : i + runB nameB s i < s.size
      · have he := runB_end h
        have hl : letterB (bt s ((i + runB nameB s i : Nat) : Int)) = false := by unfold nameB at he; exact (Bool.or_eq_false_iff.1 he).1
        have hd : digB (bt s ((i + runB nameB s i : Nat) : Int)) = false := by unfold nameB at he; exact (Bool.or_eq_false_iff.1 he).2
        rw [cT (by omega), cT (by omega), cT (by omega), run63, hl]
        simp only [Option.bind_some, cond_false]
        rw [cT (by omega), cT (by omega), run65, hd]
        simp only [Option.bind_some, cond_false]
        rw [cT (by omega), cT (by omega), cT (by omega)]
      · rw [cF (by omega), cT (by omega), cT (by omega), cT (by omega)]
    | succ m ih =>
      intro j hj
      have w1 : IntKind.i64.wrap ((i : Int) + (j : Int)) = ((i + j : Nat) : Int) := by rw [wi64] <;> omega
      have w2 : IntKind.i64.wrap ((j : Int) + 1) = ((j + 1 : Nat) : Int) := by rw [wi64] <;> omega
      refine Evt.step (ih (j + 1) (by omega)) fun k => ?_
      show b53_4 s i (f53_4 s i k) (f53_12 s i k) (f53_7 s i k) (f53_14 s i k) (f53_19 s i k) (f53_9 s i k) (f53_16 s i k) (j : Int) = _
      unfold b53_4
      simp only [w1, w2]
      have ha := runB_all (f := nameB) (s := s) (i := i) (j := j) (by omega)
      rw [cT (by omega), cT (by omega), cT (by omega), run63]
      simp only [Option.bind_some]
      cases hl : letterB (bt s ((i + j : Nat) : Int)) with
      | true => rfl
      | false =>
        have hd : digB (bt s ((i + j : Nat) : Int)) = true := by unfold nameB at ha; rw [hl] at ha; exact ha
        simp only [cond_false]
        rw [cT (by omega), cT (by omega), run65, hd]
        rfl
  exact main (runB nameB s i) 0 (by omega)
theorem next_both {s : ByteArray} (hz : s.size ≤ 65536) {i : Nat} {l : List TokT} (hi : i < s.size) (hl : l.length ≤ 16384) :
    (∃ n, 0 < n ∧ i + n ≤ s.size ∧ (∃ kd x y z, S52 s (i : Int) l (bt s (i : Int)) = some (0, s, ((i + n : Nat) : Int), l ++ [(kd, s.extract i (i + n), (i : Int), x, y, z)])) ∧ (∃ kd x y z, S53 s (i : Int) = some (kd, s.extract i (i + n), (i : Int), x, y, z, 0))) ∨
    (∃ e : Int, e ≠ 0 ∧ (∃ l', S52 s (i : Int) l (bt s (i : Int)) = some (e, s, (i : Int), l')) ∧ (∃ a b c x y z, S53 s (i : Int) = some (a, b, c, x, y, z, e))) := by
  have e52 : ∀ f, f52 f s (i : Int) l (bt s (i : Int)) = f52_1 s (i : Int) l (bt s (i : Int)) f := fun f => rfl
  have st52 : ∀ f, f52_1 s (i : Int) l (bt s (i : Int)) (f + 1) = b52_1 s (i : Int) l (bt s (i : Int)) (f52_1 s (i : Int) l (bt s (i : Int)) f) := fun f => rfl
  have e53 : ∀ f, f53 f s (i : Int) = b53 s i (f53_4 s i f) (f53_12 s i f) (f53_7 s i f) (f53_14 s i f) (f53_19 s i f) (f53_9 s i f) (f53_16 s i f) := fun f => rfl
  by_cases hL : letterB (bt s (i : Int)) = true
  · have hn := runB_le nameB s i (by omega)
    have hp := runB_pos (f := nameB) hi (by unfold nameB; rw [hL]; rfl)
    have w1 : IntKind.i64.wrap ((i : Int) + (runB nameB s i : Int)) = ((i + runB nameB s i : Nat) : Int) := by rw [wi64] <;> omega
    have r53 : ∀ {R : R53}, Evt (fun k => f53_7 s (i : Int) k (runB nameB s i : Int) (s.extract i (i + runB nameB s i))) R → S53 s (i : Int) = some R := fun h => evv_eq (Evt.same (loop53_4 hz hi h) fun f => by
      show b53 s i (f53_4 s i f) (f53_12 s i f) (f53_7 s i f) (f53_14 s i f) (f53_19 s i f) (f53_9 s i f) (f53_16 s i f) = _
      unfold b53
      rw [cT (by omega), cT (by omega), run63, hL]
      rfl)
    by_cases hb : runB nameB s i > 31
    · right
      refine ⟨87, by omega, ⟨l, evv_eq (Evt.same (Evt.last fun f => ?_) e52)⟩, 1, s.extract i (i + runB nameB s i), i, false, [], [], r53 (Evt.last fun f => ?_)⟩
      · rw [st52]
        unfold b52_1
        rw [run69, hL]
        simp only [Option.bind_some, cond_true, List.take_length]
        rw [run70n hz (by omega)]
        simp only [Option.bind_some]
        rw [cT (by omega)]
      · show b53_7 s i (f53_4 s i f) (f53_12 s i f) (f53_7 s i f) (f53_14 s i f) (f53_19 s i f) (f53_9 s i f) (f53_16 s i f) (runB nameB s i : Int) _ = _
        unfold b53_7
        rw [cT (by omega)]
    · left
      obtain ⟨b3, h73⟩ := run73 (s.extract i (i + runB nameB s i))
      obtain ⟨b4, h64⟩ := run64 (s.extract i (i + runB nameB s i))
      have p52 : ∃ kd x y z, S52 s (i : Int) l (bt s (i : Int)) = some (0, s, ((i + runB nameB s i : Nat) : Int), l ++ [(kd, s.extract i (i + runB nameB s i), (i : Int), x, y, z)]) := by
        refine ⟨cond b3 1 0, false, [], [], evv_eq (Evt.same (Evt.last fun f => ?_) e52)⟩
        rw [st52]
        unfold b52_1
        rw [run69, hL]
        simp only [Option.bind_some, cond_true, List.take_length]
        rw [run70n hz (by omega)]
        simp only [Option.bind_some, w1, Int.toNat_natCast]
        have hgt : ¬ ((runB nameB s i : Int) > 31) := by omega
        rw [cF hgt, cT (by omega), cT (by omega), cT (by omega), h73]
        simp only [Option.bind_some]
        rw [run51 hz hn hl, run51 hz hn hl]
        cases b3 <;> rfl
      refine ⟨runB nameB s i, hp, hn, p52, cond b4 2 1, false, [], [], r53 (Evt.step (g := fun f => f53_9 s i f (s.extract i (i + runB nameB s i))) (Evt.last fun f => ?_) fun f => ?_)⟩
      · show b53_9 s i (f53_4 s i f) (f53_12 s i f) (f53_7 s i f) (f53_14 s i f) (f53_19 s i f) (f53_9 s i f) (f53_16 s i f) _ = _
        unfold b53_9
        rw [h64]
        cases b4 <;> rfl
      · show b53_7 s i (f53_4 s i f) (f53_12 s i f) (f53_7 s i f) (f53_14 s i f) (f53_19 s i f) (f53_9 s i f) (f53_16 s i f) (runB nameB s i : Int) _ = _
        unfold b53_7
        have hgt : ¬ ((runB nameB s i : Int) > 31) := by omega
        rw [cF hgt]
  · have hL' := Bool.eq_false_iff.2 hL
    have r53 : ∀ {R : R53}, Evt (fun k => f53_12 s (i : Int) k) R → S53 s (i : Int) = some R := fun h => evv_eq (Evt.same h fun f => by
      show b53 s i (f53_4 s i f) (f53_12 s i f) (f53_7 s i f) (f53_14 s i f) (f53_19 s i f) (f53_9 s i f) (f53_16 s i f) = _
      unfold b53
      rw [cT (by omega), cT (by omega), run63, hL']
      rfl)
    by_cases hN : bt s (i : Int) = 91 ∨ digB (bt s (i : Int)) = true
    · have h74 := run74 (l := l) hz hi hl hN
      have p52 : ∀ {r : R74}, S74 s (i : Int) l (bt s (i : Int)) = some r → S52 s (i : Int) l (bt s (i : Int)) = some r := fun {r} h => by
        refine evv_eq (Evt.same (Evt.last fun f => ?_) e52)
        rw [st52]
        unfold b52_1
        rw [run69, hL']
        simp only [Option.bind_some, cond_false, List.take_length]
        rw [run72]
        simp only [Option.bind_some]
        rw [h]
        cases hd : digB (bt s (i : Int)) with
        | true => rfl
        | false =>
          rw [hd] at hN
          have h91 := hN.resolve_right (fun h => nomatch h)
          simp only [cond_false]
          rw [cE h91]
          rfl
      obtain ⟨⟨rb, ry, rz⟩, h76⟩ := ref_num hz hi hN
      have p53 : ∀ {R : R53}, (∀ {m x y z}, S76 s (i : Int) = some (m, x, y, z) → Evt (fun f => f53_14 s i f m x y z) R) → S53 s (i : Int) = some R := fun {R} h => by
        cases h6 : S76 s (i : Int) with
        | none => rw [h76] at h6; exact nomatch h6
        | some r =>
          obtain ⟨m, x, y, z⟩ := r
          refine r53 (Evt.step (h h6) fun f => ?_)
          show b53_12 s i (f53_4 s i f) (f53_12 s i f) (f53_7 s i f) (f53_14 s i f) (f53_19 s i f) (f53_9 s i f) (f53_16 s i f) = _
          unfold b53_12
          rw [run65, h6]
          simp only [Option.bind_some]
          cases hd : digB (bt s (i : Int)) with
          | true => rfl
          | false =>
            rw [hd] at hN
            have h91 := hN.resolve_right (fun h => nomatch h)
            simp only [cond_false]
            rw [cE h91]
      have st14 : ∀ f m x y z, f53_14 s (i : Int) (f + 1) m x y z = b53_14 s i (f53_4 s i f) (f53_12 s i f) (f53_7 s i f) (f53_14 s i f) (f53_19 s i f) (f53_9 s i f) (f53_16 s i f) m x y z := fun f m x y z => rfl
      unfold numGood at h74
      cases hlen : numLen s i with
      | none =>
        rw [hlen] at h74 h76
        right
        refine ⟨81, by omega, ⟨l, p52 h74⟩, 0, ByteArray.mk #[], 0, false, [], [], p53 fun {m x y z} h => Evt.last fun f => ?_⟩
        rw [h76] at h
        injection h with h
        injection h with h1 h2
        subst h1
        rw [st14]
        rfl
      | some n =>
        rw [hlen] at h74 h76
        dsimp only at h74
        obtain ⟨np, nl⟩ := num_pos hi hN hlen
        have w1 : IntKind.i64.wrap ((i : Int) + (n : Int)) = ((i + n : Nat) : Int) := by rw [wi64] <;> omega
        have p53' : ∀ {R : R53}, (∀ x y z, Evt (fun f => f53_14 s i f n x y z) R) → S53 s (i : Int) = some R := fun {R} h => p53 fun {m x y z} h' => by
          rw [h76] at h'
          injection h' with h'
          injection h' with h1 h2
          subst h1
          exact h x y z
        by_cases hg : i + n < s.size ∧ (letterB (bt s ((i + n : Nat) : Int)) = true ∨ bt s ((i + n : Nat) : Int) = 46)
        · rw [if_pos hg] at h74
          right
          refine ⟨81, by omega, ⟨l, p52 h74⟩, 0, ByteArray.mk #[], 0, false, [], [], p53' fun x y z => Evt.last fun f => ?_⟩
          rw [st14]
          unfold b53_14
          rw [cN (by omega), w1, cT (by omega), cT (by omega), cT (by omega), run63]
          simp only [Option.bind_some]
          cases hl : letterB (bt s ((i + n : Nat) : Int)) with
          | true => rfl
          | false =>
            rw [hl] at hg
            have h46 := hg.2.resolve_left (fun h => nomatch h)
            simp only [cond_false]
            rw [cT (by omega), cT (by omega), cE h46]
        · rw [if_neg hg] at h74
          left
          obtain ⟨x, y, z, h74⟩ := h74
          have p53f : ∃ kd x y z, S53 s (i : Int) = some (kd, s.extract i (i + n), (i : Int), x, y, z, 0) := by
            refine ⟨3, rb, ry, rz, ?_⟩
            refine p53 fun {m x y z} h' => ?_
            rw [h76] at h'
            injection h' with h'
            injection h' with h1 h2
            injection h2 with h2 h3
            injection h3 with h3 h4
            subst h1; subst h2; subst h3; subst h4
            refine Evt.step (g := fun f => f53_16 s i f n rb ry rz) (Evt.last fun f => ?_) fun f => ?_
            · show b53_16 s i (f53_4 s i f) (f53_12 s i f) (f53_7 s i f) (f53_14 s i f) (f53_19 s i f) (f53_9 s i f) (f53_16 s i f) n rb ry rz = _
              unfold b53_16
              simp only [w1, Int.toNat_natCast]
              rw [cT (by omega), cT (by omega), cT (by omega)]
            · rw [st14]
              unfold b53_14
              rw [cN (by omega), w1]
              by_cases h1 : i + n < s.size
              · rw [cT (by omega), cT (by omega), cT (by omega), run63, Bool.eq_false_iff.2 fun h => hg ⟨h1, Or.inl h⟩]
                simp only [Option.bind_some, cond_false]
                rw [cT (by omega), cT (by omega), cN fun h => hg ⟨h1, Or.inr h⟩]
              · rw [cF (by omega)]
          exact ⟨n, np, nl, ⟨2, x, y, z, p52 h74⟩, p53f⟩
    · have hb : bt s (i : Int) ≠ 91 := fun h => hN (Or.inl h)
      have hd : digB (bt s (i : Int)) = false := Bool.eq_false_iff.2 fun h => hN (Or.inr h)
      have h19 := loop19 (s := s) (p1 := (i : Int)) 9 0 rfl
      have hmk : ((List.range' 0 9).any fun j => bt mks (j : Int) == bt s (i : Int)) = isMk (bt s (i : Int)) := rfl
      rw [hmk] at h19
      have p53 : ∀ {R : R53}, Evt (fun k => f53_19 s (i : Int) k ((0 : Nat) : Int)) R → S53 s (i : Int) = some R := fun h => r53 (Evt.step h fun f => by
        show b53_12 s i (f53_4 s i f) (f53_12 s i f) (f53_7 s i f) (f53_14 s i f) (f53_19 s i f) (f53_9 s i f) (f53_16 s i f) = _
        unfold b53_12
        rw [run65, hd]
        simp only [Option.bind_some, cond_false]
        rw [cN hb]
        rfl)
      by_cases hm : isMk (bt s (i : Int)) = true
      · rw [if_pos hm] at h19
        left
        have p52 : ∃ kd x y z, S52 s (i : Int) l (bt s (i : Int)) = some (0, s, ((i + 1 : Nat) : Int), l ++ [(kd, s.extract i (i + 1), (i : Int), x, y, z)]) := by
          refine ⟨3, false, [], [], evv_eq (Evt.same (Evt.last fun f => ?_) e52)⟩
          rw [st52]
          unfold b52_1
          rw [run69, hL']
          simp only [Option.bind_some, cond_false, List.take_length]
          rw [run72, hd]
          simp only [Option.bind_some, cond_false]
          rw [cN hb, mk_idx, hm, show (1 : Int) = ((1 : Nat) : Int) from rfl, run51 hz (by omega) hl]
          rfl
        refine ⟨1, by omega, by omega, p52, 4, false, [], [], ?_⟩
        rw [extract_one hi]
        exact p53 h19
      · rw [if_neg hm] at h19
        right
        refine ⟨80, by omega, ⟨l, evv_eq (Evt.same (Evt.last fun f => ?_) e52)⟩, 0, ByteArray.mk #[], 0, false, [], [], p53 h19⟩
        rw [st52]
        unfold b52_1
        rw [run69, hL']
        simp only [Option.bind_some, cond_false, List.take_length]
        rw [run72, hd]
        simp only [Option.bind_some, cond_false]
        rw [cN hb, mk_idx, Bool.eq_false_iff.2 hm]
        rfl
end Go.Abs.Z
namespace Go.Abs.Z
open Go Go.Abs Go.Proofs
noncomputable section
abbrev R28 : Type := (List TTk) × Int × (Int)
noncomputable def body28 : Go.Code := (Try.f28.body).getD Go.Code.skip
def h28 (p0 : ByteArray) : List (AO U) := []
def k28 : AV U → List (AO U) → Option R28 := fun v h => match v, h with | AV.tup [AV.imm 90 x0, AV.agg [AV.int IntKind.i64 x1, AV.int IntKind.i64 x2]], [] => some (x0, x1, x2) | _, _ => none
def out28 : R28 → AV U := fun (x0, x1, x2) => AV.tup [AV.imm 90 x0, AV.agg [AV.int IntKind.i64 x1, AV.int IntKind.i64 x2]]
def outh28 : R28 → List (AO U) := fun (x0, x1, x2) => []
def D28 : Nat → Dir := dirs [(5, ⟨[0, 3, 4, 5], [(4, some 2)], [], []⟩), (19, ⟨[0, 3, 4, 5], [(4, some 2)], [], []⟩)]
def b28 (p0 : ByteArray) (c5 c19 : (Bool) → (ByteArray) → Int → (List TTk) → Option R28)  : Option R28 :=
  cond (decide ((↑p0.size : Int) > 65536))
  (some (([], 65536, 4)))
  (c5 (false) (p0) (0) ([]))
def m28_5 (p0 : ByteArray) (v1 : Bool) (v4 : ByteArray) (v5 : Int) (v6 : List TTk) : S U := S.mk [AV.str p0, AV.undef, AV.undef, AV.ptr 0 0, AV.ptr 1 0, AV.bool v1, AV.undef, AV.undef, AV.undef, AV.undef, AV.undef, AV.undef, AV.undef, AV.undef, AV.undef, AV.undef, AV.undef, AV.undef, AV.undef, AV.undef, AV.undef, AV.undef, AV.undef, AV.undef, AV.undef, AV.undef, AV.undef, AV.undef, AV.undef, AV.undef, AV.undef, AV.undef, AV.undef, AV.undef, AV.undef, AV.undef, AV.undef, AV.undef, AV.undef, AV.undef, AV.undef, AV.undef, AV.undef, AV.undef, AV.undef, AV.undef, AV.undef, AV.undef, AV.undef, AV.undef, AV.undef, AV.undef, AV.undef, AV.undef, AV.undef, AV.undef, AV.undef, AV.undef, AV.undef, AV.undef, AV.undef, AV.undef, AV.undef, AV.undef, AV.undef, AV.undef, AV.undef, AV.undef, AV.undef, AV.undef, AV.undef, AV.undef, AV.undef, AV.undef, AV.undef, AV.undef, AV.undef, AV.undef, AV.undef, AV.undef, AV.undef, AV.undef, AV.undef, AV.undef, AV.undef, AV.undef, AV.undef, AV.undef, AV.undef, AV.undef, AV.undef, AV.undef, AV.undef, AV.undef, AV.undef, AV.undef, AV.undef, AV.undef, AV.undef, AV.undef, AV.undef, AV.undef, AV.undef, AV.undef, AV.undef, AV.undef, AV.undef, AV.undef, AV.undef, AV.undef, AV.undef, AV.undef, AV.undef, AV.undef, AV.undef, AV.undef, AV.undef, AV.undef, AV.undef, AV.undef, AV.undef, AV.undef, AV.undef, AV.undef, AV.undef, AV.undef, AV.undef, AV.undef, AV.undef, AV.undef, AV.undef, AV.undef, AV.undef, AV.undef, AV.undef, AV.undef, AV.undef] [AO.box [AV.int IntKind.i64 0, AV.int IntKind.i64 0], AO.box [AV.str v4, AV.int IntKind.i64 v5, AV.row 2 90], AO.row 90 v6]
def b28_5 (p0 : ByteArray) (c5 c19 : (Bool) → (ByteArray) → Int → (List TTk) → Option R28) (v1 : Bool) (v4 : ByteArray) (v5 : Int) (v6 : List TTk) : Option R28 :=
  cond (decide (v5 < (↑p0.size : Int)))
  (cond (decide (0 ≤ v5))
  (cond (decide (v5 < (↑p0.size : Int)))
  (cond (bt p0 v5 == 10)
  (cond (v1)
  ((S51 v4 v5 v6 4 1).bind fun r0 =>
  cond (decide ((↑r0.snd.snd.length : Int) > 16384))
  (cond (decide (16384 < (↑r0.snd.snd.length : Int)))
  (cond (decide (Int.toNat 16384 < r0.snd.snd.length))
  (some (([], (r0.snd.snd.getD (Int.toNat 16384) (X.dflt 90)).snd.snd.fst, 85)))
  (none))
  (none))
  (c5 (false) (r0.fst) (r0.snd.fst) (r0.snd.snd)))
  (cond (decide ((↑v6.length : Int) > 16384))
  (cond (decide (16384 < (↑v6.length : Int)))
  (cond (decide (Int.toNat 16384 < v6.length))
  (some (([], (v6.getD (Int.toNat 16384) (X.dflt 90)).snd.snd.fst, 85)))
  (none))
  (none))
  (c5 (false) (v4) (IntKind.i64.wrap (v5 + 1)) (v6))))
  (cond (bt p0 v5 == 32)
  (c5 (v1) (v4) (IntKind.i64.wrap (v5 + 1)) (v6))
  (cond (bt p0 v5 == 9)
  (c5 (v1) (v4) (IntKind.i64.wrap (v5 + 1)) (v6))
  (cond (bt p0 v5 == 13)
  (c5 (v1) (v4) (IntKind.i64.wrap (v5 + 1)) (v6))
  (cond (bt p0 v5 == 35)
  (c19 (v1) (v4) (v5) (v6))
  ((S52 v4 v5 v6 (bt p0 v5)).bind fun r1 =>
  cond (r1.fst != 0)
  (some (([], r1.snd.snd.fst, r1.fst)))
  (cond (decide ((↑r1.snd.snd.snd.length : Int) > 16384))
  (cond (decide (16384 < (↑r1.snd.snd.snd.length : Int)))
  (cond (decide (Int.toNat 16384 < r1.snd.snd.snd.length))
  (some (([], (r1.snd.snd.snd.getD (Int.toNat 16384) (X.dflt 90)).snd.snd.fst, 85)))
  (none))
  (none))
  (c5 (true) (r1.snd.fst) (r1.snd.snd.fst) (r1.snd.snd.snd)))))))))
  (none))
  (none))
  (cond (v1)
  (cond (decide ((v6.length + 1) * 88 ≤ 140737488355328))
  (cond (decide ((↑(v6 ++ [(4, ByteArray.mk #[10], (↑p0.size : Int), false, [], [])]).length : Int) > 16384))
  (some (([], (↑p0.size : Int), 85)))
  (some ((v6 ++ [(4, ByteArray.mk #[10], (↑p0.size : Int), false, [], [])], 0, 0))))
  (none))
  (some ((v6, 0, 0))))
def m28_19 (p0 : ByteArray) (v1 : Bool) (v4 : ByteArray) (v5 : Int) (v6 : List TTk) : S U := S.mk [AV.str p0, AV.undef, AV.undef, AV.ptr 0 0, AV.ptr 1 0, AV.bool v1, AV.undef, AV.undef, AV.undef, AV.undef, AV.undef, AV.undef, AV.undef, AV.undef, AV.undef, AV.undef, AV.undef, AV.undef, AV.undef, AV.undef, AV.undef, AV.undef, AV.undef, AV.undef, AV.undef, AV.undef, AV.undef, AV.undef, AV.undef, AV.undef, AV.undef, AV.undef, AV.undef, AV.undef, AV.undef, AV.undef, AV.undef, AV.undef, AV.undef, AV.undef, AV.undef, AV.undef, AV.undef, AV.undef, AV.undef, AV.undef, AV.undef, AV.undef, AV.undef, AV.undef, AV.undef, AV.undef, AV.undef, AV.undef, AV.undef, AV.undef, AV.undef, AV.undef, AV.undef, AV.undef, AV.undef, AV.undef, AV.undef, AV.undef, AV.undef, AV.undef, AV.undef, AV.undef, AV.undef, AV.undef, AV.undef, AV.undef, AV.undef, AV.undef, AV.undef, AV.undef, AV.undef, AV.undef, AV.undef, AV.undef, AV.undef, AV.undef, AV.undef, AV.undef, AV.undef, AV.undef, AV.undef, AV.undef, AV.undef, AV.undef, AV.undef, AV.undef, AV.undef, AV.undef, AV.undef, AV.undef, AV.undef, AV.undef, AV.undef, AV.undef, AV.undef, AV.undef, AV.undef, AV.undef, AV.undef, AV.undef, AV.undef, AV.undef, AV.undef, AV.undef, AV.undef, AV.undef, AV.undef, AV.undef, AV.undef, AV.undef, AV.undef, AV.undef, AV.undef, AV.undef, AV.undef, AV.undef, AV.undef, AV.undef, AV.undef, AV.undef, AV.undef, AV.undef, AV.undef, AV.undef, AV.undef, AV.undef, AV.undef, AV.undef, AV.undef, AV.undef, AV.undef] [AO.box [AV.int IntKind.i64 0, AV.int IntKind.i64 0], AO.box [AV.str v4, AV.int IntKind.i64 v5, AV.row 2 90], AO.row 90 v6]
def b28_19 (p0 : ByteArray) (c5 c19 : (Bool) → (ByteArray) → Int → (List TTk) → Option R28) (v1 : Bool) (v4 : ByteArray) (v5 : Int) (v6 : List TTk) : Option R28 :=
  cond (decide (v5 < (↑p0.size : Int)))
  (cond (decide (0 ≤ v5))
  (cond (decide (v5 < (↑p0.size : Int)))
  (cond (bt p0 v5 != 10)
  (c19 (v1) (v4) (IntKind.i64.wrap (v5 + 1)) (v6))
  (c5 (v1) (v4) (v5) (v6)))
  (none))
  (none))
  (c5 (v1) (v4) (v5) (v6))
theorem hk28 : ∀ v h' r, k28 v h' = some r → v = out28 r ∧ h' = outh28 r := by
  intro v h' r h
  unfold k28 at h
  split at h
  · injection h with h; subst h; exact ⟨rfl, rfl⟩
  · cases h
abbrev q28 : Prim U R28 := prims X [⟨51, fun _ => true, [.hand, .lend, .lend], F51 S51⟩, ⟨52, fun _ => true, [.hand, .lend], F52 S52⟩]
theorem s28 (c : Nat → S U → Option R28) (p0 : ByteArray) : seg TP X q28 [5, 19] (fun q st => c q (keepD D28 (h28 p0).length q st)) body28 (finH TP Try.f28.results.toList (h28 p0).length false k28) (start [.str p0] Try.f28.ntmps (h28 p0)) = b28 p0 (fun v1 v4 v5 v6 => c 5 (m28_5 p0 v1 v4 v5 v6)) (fun v1 v4 v5 v6 => c 19 (m28_19 p0 v1 v4 v5 v6)) := by kernel_rfl
theorem s28_5 (c : Nat → S U → Option R28) (p0 : ByteArray) (v1 : Bool) (v4 : ByteArray) (v5 : Int) (v6 : List TTk) : res TP X q28 [5, 19] (fun q st => c q (keepD D28 (h28 p0).length q st)) 5 body28 (finH TP Try.f28.results.toList (h28 p0).length false k28) (m28_5 p0 v1 v4 v5 v6) = b28_5 p0 (fun v1 v4 v5 v6 => c 5 (m28_5 p0 v1 v4 v5 v6)) (fun v1 v4 v5 v6 => c 19 (m28_19 p0 v1 v4 v5 v6)) v1 v4 v5 v6 := by kernel_rfl
theorem s28_19 (c : Nat → S U → Option R28) (p0 : ByteArray) (v1 : Bool) (v4 : ByteArray) (v5 : Int) (v6 : List TTk) : res TP X q28 [5, 19] (fun q st => c q (keepD D28 (h28 p0).length q st)) 19 body28 (finH TP Try.f28.results.toList (h28 p0).length false k28) (m28_19 p0 v1 v4 v5 v6) = b28_19 p0 (fun v1 v4 v5 v6 => c 5 (m28_5 p0 v1 v4 v5 v6)) (fun v1 v4 v5 v6 => c 19 (m28_19 p0 v1 v4 v5 v6)) v1 v4 v5 v6 := by kernel_rfl
mutual
def f28_5 (p0 : ByteArray) : Nat → (Bool) → (ByteArray) → Int → (List TTk) → Option R28
  | 0 => fun _ _ _ _ => none
  | k + 1 => b28_5 p0 (f28_5 p0 k) (f28_19 p0 k)
def f28_19 (p0 : ByteArray) : Nat → (Bool) → (ByteArray) → Int → (List TTk) → Option R28
  | 0 => fun _ _ _ _ => none
  | k + 1 => b28_19 p0 (f28_5 p0 k) (f28_19 p0 k)
end
def f28 (k : Nat) (p0 : ByteArray) : Option R28 := b28 p0 (f28_5 p0 k) (f28_19 p0 k)
theorem e28 (p0 : ByteArray) : ∀ k, ((fun v1 v4 v5 v6 => cutG TP X q28 [5, 19] D28 (h28 p0).length body28 (finH TP Try.f28.results.toList (h28 p0).length false k28) k 5 (m28_5 p0 v1 v4 v5 v6)) = f28_5 p0 k) ∧ ((fun v1 v4 v5 v6 => cutG TP X q28 [5, 19] D28 (h28 p0).length body28 (finH TP Try.f28.results.toList (h28 p0).length false k28) k 19 (m28_19 p0 v1 v4 v5 v6)) = f28_19 p0 k)
  | 0 => ⟨rfl, rfl⟩
  | k + 1 => by
    have ih := e28 p0 k
    refine ⟨?_, ?_⟩
    · funext v1 v4 v5 v6
      refine (if_pos (by kernel_rfl)).trans ?_
      rw [s28_5]
      simp only [ih]
      rfl
    · funext v1 v4 v5 v6
      refine (if_pos (by kernel_rfl)).trans ?_
      rw [s28_19]
      simp only [ih]
      rfl
theorem pure28 (p0 : ByteArray) (pok : PrmOK TP X q28) (k : Nat) (r : R28) (h : f28 k p0 = some r) : PureH TP X 28 [.str p0] (h28 p0) (out28 r) (outh28 r) :=
  pure_gen good k (fn := Try.f28) (body := body28) (prim := q28) (D := D28) (cuts := [5, 19]) (h := h28 p0) (own := false) (by kernel_rfl) (by kernel_rfl) (by decide +kernel) pok hk28 (by
    rw [s28]
    have ih := e28 p0 k
    simp only [ih]
    exact h)
def F28 {R : Type} (spec : (ByteArray) → Option R28) : Fn U R := fun args h k => match args, h with | [.str p0], [] => (spec p0).bind fun r => k (out28 r) (outh28 r) | _, _ => none
theorem ok28 {R : Type} (spec : (ByteArray) → Option R28) (hp : ∀ (p0 : ByteArray) (r : R28), spec p0 = some r → PureH TP X 28 [.str p0] (h28 p0) (out28 r) (outh28 r)) : FnOK TP X 28 (F28 spec : Fn U R) := by
  intro args h k r hh
  unfold F28 at hh
  split at hh
  · obtain ⟨x, h1, h2⟩ := Option.bind_eq_some_iff.1 hh
    exact ⟨_, _, h2, hp _ _ h1⟩
  · cases hh
theorem pok28 : PrmOK TP X q28 := prims_cons good okS51 (prims_cons good okS52 (prims_nil TP X mixed))
noncomputable def S28 (p0 : ByteArray) : Option R28 := evv fun k => f28 k p0
theorem okS28 {R : Type} : FnOK TP X 28 (F28 S28 : Fn U R) := ok28 S28 fun p0 r h => by
  obtain ⟨k, hk⟩ := evv_fuel h
  exact pure28 p0 pok28 k r hk
end
end Go.Abs.Z
namespace Go.Abs.Z
open Go Go.Abs Go.Proofs
noncomputable section
abbrev R29 : Type := (List TTk) × Int × (Int)
noncomputable def body29 : Go.Code := (Try.f29.body).getD Go.Code.skip
def h29 (p0 : ByteArray) : List (AO U) := []
def k29 : AV U → List (AO U) → Option R29 := fun v h => match v, h with | AV.tup [AV.imm 95 x0, AV.int IntKind.i64 x1, AV.int IntKind.i64 x2], [] => some (x0, x1, x2) | _, _ => none
def out29 : R29 → AV U := fun (x0, x1, x2) => AV.tup [AV.imm 95 x0, AV.int IntKind.i64 x1, AV.int IntKind.i64 x2]
def outh29 : R29 → List (AO U) := fun (x0, x1, x2) => []
def D29 : Nat → Dir := dirs [(6, ⟨[0, 5, 6, 7], [(5, none)], [], []⟩), (13, ⟨[0, 5, 6, 7], [(5, none)], [], []⟩), (12, ⟨[0, 5, 6, 7], [(5, none)], [], []⟩), (15, ⟨[0, 5, 6, 7], [(5, none)], [], []⟩), (17, ⟨[0, 5, 7], [(5, none)], [], []⟩), (23, ⟨[0, 5, 6, 7], [(5, none)], [], []⟩)]
def b29 (p0 : ByteArray) (c23 c6 c12 c13 c15 : (Bool) → Int → (List TTk) → Option R29) (c17 : (Int) → (List TTk) → Option R29)  : Option R29 :=
  cond (decide ((↑p0.size : Int) > 65536))
  (some (([], 65536, 4)))
  (c6 (false) (0) ([]))
def m29_23 (p0 : ByteArray) (v1 : Bool) (v2 : Int) (v3 : List TTk) : S U := S.mk [AV.str p0, AV.undef, AV.undef, AV.undef, AV.undef, AV.row 0 95, AV.bool v1, AV.int IntKind.i64 v2, AV.undef, AV.undef, AV.undef, AV.undef, AV.undef, AV.undef, AV.undef, AV.undef, AV.undef, AV.undef, AV.undef, AV.undef, AV.undef, AV.undef, AV.undef, AV.undef, AV.undef, AV.undef, AV.undef, AV.undef, AV.undef, AV.undef, AV.undef, AV.undef, AV.undef, AV.undef, AV.undef, AV.undef, AV.undef, AV.undef, AV.undef, AV.undef, AV.undef, AV.undef, AV.undef, AV.undef, AV.undef, AV.undef, AV.undef, AV.undef, AV.undef, AV.undef, AV.undef, AV.undef, AV.undef, AV.undef, AV.undef, AV.undef, AV.undef, AV.undef, AV.undef, AV.undef, AV.undef, AV.undef, AV.undef, AV.undef, AV.undef, AV.undef, AV.undef, AV.undef, AV.undef, AV.undef, AV.undef, AV.undef, AV.undef, AV.undef, AV.undef, AV.undef, AV.undef, AV.undef, AV.undef, AV.undef, AV.undef, AV.undef, AV.undef, AV.undef, AV.undef, AV.undef, AV.undef, AV.undef, AV.undef, AV.undef, AV.undef, AV.undef, AV.undef, AV.undef, AV.undef, AV.undef] [AO.row 95 v3]
def b29_23 (p0 : ByteArray) (c23 c6 c12 c13 c15 : (Bool) → Int → (List TTk) → Option R29) (c17 : (Int) → (List TTk) → Option R29) (v1 : Bool) (v2 : Int) (v3 : List TTk) : Option R29 :=
  cond (decide ((↑v3.length : Int) > 16384))
  (cond (decide (16384 < (↑v3.length : Int)))
  (cond (decide (Int.toNat 16384 < v3.length))
  (some (([], (v3.getD (Int.toNat 16384) (X.dflt 95)).snd.snd.fst, 85)))
  (none))
  (none))
  (c6 (v1) (v2) (v3))
def m29_6 (p0 : ByteArray) (v1 : Bool) (v2 : Int) (v3 : List TTk) : S U := S.mk [AV.str p0, AV.undef, AV.undef, AV.undef, AV.undef, AV.row 0 95, AV.bool v1, AV.int IntKind.i64 v2, AV.undef, AV.undef, AV.undef, AV.undef, AV.undef, AV.undef, AV.undef, AV.undef, AV.undef, AV.undef, AV.undef, AV.undef, AV.undef, AV.undef, AV.undef, AV.undef, AV.undef, AV.undef, AV.undef, AV.undef, AV.undef, AV.undef, AV.undef, AV.undef, AV.undef, AV.undef, AV.undef, AV.undef, AV.undef, AV.undef, AV.undef, AV.undef, AV.undef, AV.undef, AV.undef, AV.undef, AV.undef, AV.undef, AV.undef, AV.undef, AV.undef, AV.undef, AV.undef, AV.undef, AV.undef, AV.undef, AV.undef, AV.undef, AV.undef, AV.undef, AV.undef, AV.undef, AV.undef, AV.undef, AV.undef, AV.undef, AV.undef, AV.undef, AV.undef, AV.undef, AV.undef, AV.undef, AV.undef, AV.undef, AV.undef, AV.undef, AV.undef, AV.undef, AV.undef, AV.undef, AV.undef, AV.undef, AV.undef, AV.undef, AV.undef, AV.undef, AV.undef, AV.undef, AV.undef, AV.undef, AV.undef, AV.undef, AV.undef, AV.undef, AV.undef, AV.undef, AV.undef, AV.undef] [AO.row 95 v3]
def b29_6 (p0 : ByteArray) (c23 c6 c12 c13 c15 : (Bool) → Int → (List TTk) → Option R29) (c17 : (Int) → (List TTk) → Option R29) (v1 : Bool) (v2 : Int) (v3 : List TTk) : Option R29 :=
  cond (decide (v2 ≤ (↑p0.size : Int)))
  (cond (v2 == (↑p0.size : Int))
  (cond (v1)
  (cond (decide ((v3.length + 1) * 88 ≤ 140737488355328))
  (c23 (false) (IntKind.i64.wrap (v2 + 1)) (v3 ++ [(5, ByteArray.mk #[10], v2, false, [], [])]))
  (none))
  (c23 (false) (IntKind.i64.wrap (v2 + 1)) (v3)))
  (cond (decide (0 ≤ v2))
  (cond (decide (v2 < (↑p0.size : Int)))
  (cond (bt p0 v2 == 10)
  (cond (v1)
  (cond (decide ((v3.length + 1) * 88 ≤ 140737488355328))
  (c23 (false) (IntKind.i64.wrap (v2 + 1)) (v3 ++ [(5, ByteArray.mk #[10], v2, false, [], [])]))
  (none))
  (c23 (false) (IntKind.i64.wrap (v2 + 1)) (v3)))
  (c12 (v1) (v2) (v3)))
  (none))
  (none)))
  (some ((v3, 0, 0)))
def m29_12 (p0 : ByteArray) (v1 : Bool) (v2 : Int) (v3 : List TTk) : S U := S.mk [AV.str p0, AV.undef, AV.undef, AV.undef, AV.undef, AV.row 0 95, AV.bool v1, AV.int IntKind.i64 v2, AV.undef, AV.undef, AV.undef, AV.undef, AV.undef, AV.undef, AV.undef, AV.undef, AV.undef, AV.undef, AV.undef, AV.undef, AV.undef, AV.undef, AV.undef, AV.undef, AV.undef, AV.undef, AV.undef, AV.undef, AV.undef, AV.undef, AV.undef, AV.undef, AV.undef, AV.undef, AV.undef, AV.undef, AV.undef, AV.undef, AV.undef, AV.undef, AV.undef, AV.undef, AV.undef, AV.undef, AV.undef, AV.undef, AV.undef, AV.undef, AV.undef, AV.undef, AV.undef, AV.undef, AV.undef, AV.undef, AV.undef, AV.undef, AV.undef, AV.undef, AV.undef, AV.undef, AV.undef, AV.undef, AV.undef, AV.undef, AV.undef, AV.undef, AV.undef, AV.undef, AV.undef, AV.undef, AV.undef, AV.undef, AV.undef, AV.undef, AV.undef, AV.undef, AV.undef, AV.undef, AV.undef, AV.undef, AV.undef, AV.undef, AV.undef, AV.undef, AV.undef, AV.undef, AV.undef, AV.undef, AV.undef, AV.undef, AV.undef, AV.undef, AV.undef, AV.undef, AV.undef, AV.undef] [AO.row 95 v3]
def b29_12 (p0 : ByteArray) (c23 c6 c12 c13 c15 : (Bool) → Int → (List TTk) → Option R29) (c17 : (Int) → (List TTk) → Option R29) (v1 : Bool) (v2 : Int) (v3 : List TTk) : Option R29 :=
  cond (decide (0 ≤ v2))
  (cond (decide (v2 < (↑p0.size : Int)))
  (cond (bt p0 v2 == 35)
  (c13 (v1) (v2) (v3))
  (c15 (v1) (v2) (v3)))
  (none))
  (none)
def m29_13 (p0 : ByteArray) (v1 : Bool) (v2 : Int) (v3 : List TTk) : S U := S.mk [AV.str p0, AV.undef, AV.undef, AV.undef, AV.undef, AV.row 0 95, AV.bool v1, AV.int IntKind.i64 v2, AV.undef, AV.undef, AV.undef, AV.undef, AV.undef, AV.undef, AV.undef, AV.undef, AV.undef, AV.undef, AV.undef, AV.undef, AV.undef, AV.undef, AV.undef, AV.undef, AV.undef, AV.undef, AV.undef, AV.undef, AV.undef, AV.undef, AV.undef, AV.undef, AV.undef, AV.undef, AV.undef, AV.undef, AV.undef, AV.undef, AV.undef, AV.undef, AV.undef, AV.undef, AV.undef, AV.undef, AV.undef, AV.undef, AV.undef, AV.undef, AV.undef, AV.undef, AV.undef, AV.undef, AV.undef, AV.undef, AV.undef, AV.undef, AV.undef, AV.undef, AV.undef, AV.undef, AV.undef, AV.undef, AV.undef, AV.undef, AV.undef, AV.undef, AV.undef, AV.undef, AV.undef, AV.undef, AV.undef, AV.undef, AV.undef, AV.undef, AV.undef, AV.undef, AV.undef, AV.undef, AV.undef, AV.undef, AV.undef, AV.undef, AV.undef, AV.undef, AV.undef, AV.undef, AV.undef, AV.undef, AV.undef, AV.undef, AV.undef, AV.undef, AV.undef, AV.undef, AV.undef, AV.undef] [AO.row 95 v3]
def b29_13 (p0 : ByteArray) (c23 c6 c12 c13 c15 : (Bool) → Int → (List TTk) → Option R29) (c17 : (Int) → (List TTk) → Option R29) (v1 : Bool) (v2 : Int) (v3 : List TTk) : Option R29 :=
  cond (decide (v2 < (↑p0.size : Int)))
  (cond (decide (0 ≤ v2))
  (cond (decide (v2 < (↑p0.size : Int)))
  (cond (bt p0 v2 != 10)
  (c13 (v1) (IntKind.i64.wrap (v2 + 1)) (v3))
  (c23 (v1) (v2) (v3)))
  (none))
  (none))
  (c23 (v1) (v2) (v3))
def m29_15 (p0 : ByteArray) (v1 : Bool) (v2 : Int) (v3 : List TTk) : S U := S.mk [AV.str p0, AV.undef, AV.undef, AV.undef, AV.undef, AV.row 0 95, AV.bool v1, AV.int IntKind.i64 v2, AV.undef, AV.undef, AV.undef, AV.undef, AV.undef, AV.undef, AV.undef, AV.undef, AV.undef, AV.undef, AV.undef, AV.undef, AV.undef, AV.undef, AV.undef, AV.undef, AV.undef, AV.undef, AV.undef, AV.undef, AV.undef, AV.undef, AV.undef, AV.undef, AV.undef, AV.undef, AV.undef, AV.undef, AV.undef, AV.undef, AV.undef, AV.undef, AV.undef, AV.undef, AV.undef, AV.undef, AV.undef, AV.undef, AV.undef, AV.undef, AV.undef, AV.undef, AV.undef, AV.undef, AV.undef, AV.undef, AV.undef, AV.undef, AV.undef, AV.undef, AV.undef, AV.undef, AV.undef, AV.undef, AV.undef, AV.undef, AV.undef, AV.undef, AV.undef, AV.undef, AV.undef, AV.undef, AV.undef, AV.undef, AV.undef, AV.undef, AV.undef, AV.undef, AV.undef, AV.undef, AV.undef, AV.undef, AV.undef, AV.undef, AV.undef, AV.undef, AV.undef, AV.undef, AV.undef, AV.undef, AV.undef, AV.undef, AV.undef, AV.undef, AV.undef, AV.undef, AV.undef, AV.undef] [AO.row 95 v3]
def b29_15 (p0 : ByteArray) (c23 c6 c12 c13 c15 : (Bool) → Int → (List TTk) → Option R29) (c17 : (Int) → (List TTk) → Option R29) (v1 : Bool) (v2 : Int) (v3 : List TTk) : Option R29 :=
  cond (decide (0 ≤ v2))
  (cond (decide (v2 < (↑p0.size : Int)))
  (cond (bt p0 v2 == 32)
  (c23 (v1) (IntKind.i64.wrap (v2 + 1)) (v3))
  (cond (decide (0 ≤ v2))
  (cond (decide (v2 < (↑p0.size : Int)))
  (cond (bt p0 v2 == 9)
  (c23 (v1) (IntKind.i64.wrap (v2 + 1)) (v3))
  (cond (decide (0 ≤ v2))
  (cond (decide (v2 < (↑p0.size : Int)))
  (cond (bt p0 v2 == 13)
  (c23 (v1) (IntKind.i64.wrap (v2 + 1)) (v3))
  (c17 (v2) (v3)))
  (none))
  (none)))
  (none))
  (none)))
  (none))
  (none)
def m29_17 (p0 : ByteArray) (v1 : Int) (v2 : List TTk) : S U := S.mk [AV.str p0, AV.undef, AV.undef, AV.undef, AV.undef, AV.row 0 95, AV.undef, AV.int IntKind.i64 v1, AV.undef, AV.undef, AV.undef, AV.undef, AV.undef, AV.undef, AV.undef, AV.undef, AV.undef, AV.undef, AV.undef, AV.undef, AV.undef, AV.undef, AV.undef, AV.undef, AV.undef, AV.undef, AV.undef, AV.undef, AV.undef, AV.undef, AV.undef, AV.undef, AV.undef, AV.undef, AV.undef, AV.undef, AV.undef, AV.undef, AV.undef, AV.undef, AV.undef, AV.undef, AV.undef, AV.undef, AV.undef, AV.undef, AV.undef, AV.undef, AV.undef, AV.undef, AV.undef, AV.undef, AV.undef, AV.undef, AV.undef, AV.undef, AV.undef, AV.undef, AV.undef, AV.undef, AV.undef, AV.undef, AV.undef, AV.undef, AV.undef, AV.undef, AV.undef, AV.undef, AV.undef, AV.undef, AV.undef, AV.undef, AV.undef, AV.undef, AV.undef, AV.undef, AV.undef, AV.undef, AV.undef, AV.undef, AV.undef, AV.undef, AV.undef, AV.undef, AV.undef, AV.undef, AV.undef, AV.undef, AV.undef, AV.undef, AV.undef, AV.undef, AV.undef, AV.undef, AV.undef, AV.undef] [AO.row 95 v2]
def b29_17 (p0 : ByteArray) (c23 c6 c12 c13 c15 : (Bool) → Int → (List TTk) → Option R29) (c17 : (Int) → (List TTk) → Option R29) (v1 : Int) (v2 : List TTk) : Option R29 :=
  (S53 p0 v1).bind fun r0 =>
  cond (r0.snd.snd.snd.snd.snd.snd != 0)
  (some (([], v1, r0.snd.snd.snd.snd.snd.snd)))
  (cond (decide ((v2.length + 1) * 88 ≤ 140737488355328))
  (c23 (true) (IntKind.i64.wrap (v1 + (↑r0.snd.fst.size : Int))) (v2 ++ [(r0.fst, r0.snd.fst, r0.snd.snd.fst, r0.snd.snd.snd.fst, r0.snd.snd.snd.snd.fst, r0.snd.snd.snd.snd.snd.fst)]))
  (none))
theorem hk29 : ∀ v h' r, k29 v h' = some r → v = out29 r ∧ h' = outh29 r := by
  intro v h' r h
  unfold k29 at h
  split at h
  · injection h with h; subst h; exact ⟨rfl, rfl⟩
  · cases h
abbrev q29 : Prim U R29 := prims X [⟨53, fun _ => true, [.lend, .lend], F53 S53⟩]
theorem s29 (c : Nat → S U → Option R29) (p0 : ByteArray) : seg TP X q29 [6, 13, 12, 15, 17, 23] (fun q st => c q (keepD D29 (h29 p0).length q st)) body29 (finH TP Try.f29.results.toList (h29 p0).length false k29) (start [.str p0] Try.f29.ntmps (h29 p0)) = b29 p0 (fun v1 v2 v3 => c 23 (m29_23 p0 v1 v2 v3)) (fun v1 v2 v3 => c 6 (m29_6 p0 v1 v2 v3)) (fun v1 v2 v3 => c 12 (m29_12 p0 v1 v2 v3)) (fun v1 v2 v3 => c 13 (m29_13 p0 v1 v2 v3)) (fun v1 v2 v3 => c 15 (m29_15 p0 v1 v2 v3)) (fun v1 v2 => c 17 (m29_17 p0 v1 v2)) := by kernel_rfl
theorem s29_23 (c : Nat → S U → Option R29) (p0 : ByteArray) (v1 : Bool) (v2 : Int) (v3 : List TTk) : res TP X q29 [6, 13, 12, 15, 17, 23] (fun q st => c q (keepD D29 (h29 p0).length q st)) 23 body29 (finH TP Try.f29.results.toList (h29 p0).length false k29) (m29_23 p0 v1 v2 v3) = b29_23 p0 (fun v1 v2 v3 => c 23 (m29_23 p0 v1 v2 v3)) (fun v1 v2 v3 => c 6 (m29_6 p0 v1 v2 v3)) (fun v1 v2 v3 => c 12 (m29_12 p0 v1 v2 v3)) (fun v1 v2 v3 => c 13 (m29_13 p0 v1 v2 v3)) (fun v1 v2 v3 => c 15 (m29_15 p0 v1 v2 v3)) (fun v1 v2 => c 17 (m29_17 p0 v1 v2)) v1 v2 v3 := by kernel_rfl
theorem s29_6 (c : Nat → S U → Option R29) (p0 : ByteArray) (v1 : Bool) (v2 : Int) (v3 : List TTk) : res TP X q29 [6, 13, 12, 15, 17, 23] (fun q st => c q (keepD D29 (h29 p0).length q st)) 6 body29 (finH TP Try.f29.results.toList (h29 p0).length false k29) (m29_6 p0 v1 v2 v3) = b29_6 p0 (fun v1 v2 v3 => c 23 (m29_23 p0 v1 v2 v3)) (fun v1 v2 v3 => c 6 (m29_6 p0 v1 v2 v3)) (fun v1 v2 v3 => c 12 (m29_12 p0 v1 v2 v3)) (fun v1 v2 v3 => c 13 (m29_13 p0 v1 v2 v3)) (fun v1 v2 v3 => c 15 (m29_15 p0 v1 v2 v3)) (fun v1 v2 => c 17 (m29_17 p0 v1 v2)) v1 v2 v3 := by kernel_rfl
theorem s29_12 (c : Nat → S U → Option R29) (p0 : ByteArray) (v1 : Bool) (v2 : Int) (v3 : List TTk) : res TP X q29 [6, 13, 12, 15, 17, 23] (fun q st => c q (keepD D29 (h29 p0).length q st)) 12 body29 (finH TP Try.f29.results.toList (h29 p0).length false k29) (m29_12 p0 v1 v2 v3) = b29_12 p0 (fun v1 v2 v3 => c 23 (m29_23 p0 v1 v2 v3)) (fun v1 v2 v3 => c 6 (m29_6 p0 v1 v2 v3)) (fun v1 v2 v3 => c 12 (m29_12 p0 v1 v2 v3)) (fun v1 v2 v3 => c 13 (m29_13 p0 v1 v2 v3)) (fun v1 v2 v3 => c 15 (m29_15 p0 v1 v2 v3)) (fun v1 v2 => c 17 (m29_17 p0 v1 v2)) v1 v2 v3 := by kernel_rfl
theorem s29_13 (c : Nat → S U → Option R29) (p0 : ByteArray) (v1 : Bool) (v2 : Int) (v3 : List TTk) : res TP X q29 [6, 13, 12, 15, 17, 23] (fun q st => c q (keepD D29 (h29 p0).length q st)) 13 body29 (finH TP Try.f29.results.toList (h29 p0).length false k29) (m29_13 p0 v1 v2 v3) = b29_13 p0 (fun v1 v2 v3 => c 23 (m29_23 p0 v1 v2 v3)) (fun v1 v2 v3 => c 6 (m29_6 p0 v1 v2 v3)) (fun v1 v2 v3 => c 12 (m29_12 p0 v1 v2 v3)) (fun v1 v2 v3 => c 13 (m29_13 p0 v1 v2 v3)) (fun v1 v2 v3 => c 15 (m29_15 p0 v1 v2 v3)) (fun v1 v2 => c 17 (m29_17 p0 v1 v2)) v1 v2 v3 := by kernel_rfl
theorem s29_15 (c : Nat → S U → Option R29) (p0 : ByteArray) (v1 : Bool) (v2 : Int) (v3 : List TTk) : res TP X q29 [6, 13, 12, 15, 17, 23] (fun q st => c q (keepD D29 (h29 p0).length q st)) 15 body29 (finH TP Try.f29.results.toList (h29 p0).length false k29) (m29_15 p0 v1 v2 v3) = b29_15 p0 (fun v1 v2 v3 => c 23 (m29_23 p0 v1 v2 v3)) (fun v1 v2 v3 => c 6 (m29_6 p0 v1 v2 v3)) (fun v1 v2 v3 => c 12 (m29_12 p0 v1 v2 v3)) (fun v1 v2 v3 => c 13 (m29_13 p0 v1 v2 v3)) (fun v1 v2 v3 => c 15 (m29_15 p0 v1 v2 v3)) (fun v1 v2 => c 17 (m29_17 p0 v1 v2)) v1 v2 v3 := by kernel_rfl
theorem s29_17 (c : Nat → S U → Option R29) (p0 : ByteArray) (v1 : Int) (v2 : List TTk) : res TP X q29 [6, 13, 12, 15, 17, 23] (fun q st => c q (keepD D29 (h29 p0).length q st)) 17 body29 (finH TP Try.f29.results.toList (h29 p0).length false k29) (m29_17 p0 v1 v2) = b29_17 p0 (fun v1 v2 v3 => c 23 (m29_23 p0 v1 v2 v3)) (fun v1 v2 v3 => c 6 (m29_6 p0 v1 v2 v3)) (fun v1 v2 v3 => c 12 (m29_12 p0 v1 v2 v3)) (fun v1 v2 v3 => c 13 (m29_13 p0 v1 v2 v3)) (fun v1 v2 v3 => c 15 (m29_15 p0 v1 v2 v3)) (fun v1 v2 => c 17 (m29_17 p0 v1 v2)) v1 v2 := by kernel_rfl
mutual
def f29_23 (p0 : ByteArray) : Nat → (Bool) → Int → (List TTk) → Option R29
  | 0 => fun _ _ _ => none
  | k + 1 => b29_23 p0 (f29_23 p0 k) (f29_6 p0 k) (f29_12 p0 k) (f29_13 p0 k) (f29_15 p0 k) (f29_17 p0 k)
def f29_6 (p0 : ByteArray) : Nat → (Bool) → Int → (List TTk) → Option R29
  | 0 => fun _ _ _ => none
  | k + 1 => b29_6 p0 (f29_23 p0 k) (f29_6 p0 k) (f29_12 p0 k) (f29_13 p0 k) (f29_15 p0 k) (f29_17 p0 k)
def f29_12 (p0 : ByteArray) : Nat → (Bool) → Int → (List TTk) → Option R29
  | 0 => fun _ _ _ => none
  | k + 1 => b29_12 p0 (f29_23 p0 k) (f29_6 p0 k) (f29_12 p0 k) (f29_13 p0 k) (f29_15 p0 k) (f29_17 p0 k)
def f29_13 (p0 : ByteArray) : Nat → (Bool) → Int → (List TTk) → Option R29
  | 0 => fun _ _ _ => none
  | k + 1 => b29_13 p0 (f29_23 p0 k) (f29_6 p0 k) (f29_12 p0 k) (f29_13 p0 k) (f29_15 p0 k) (f29_17 p0 k)
def f29_15 (p0 : ByteArray) : Nat → (Bool) → Int → (List TTk) → Option R29
  | 0 => fun _ _ _ => none
  | k + 1 => b29_15 p0 (f29_23 p0 k) (f29_6 p0 k) (f29_12 p0 k) (f29_13 p0 k) (f29_15 p0 k) (f29_17 p0 k)
def f29_17 (p0 : ByteArray) : Nat → Int → (List TTk) → Option R29
  | 0 => fun _ _ => none
  | k + 1 => b29_17 p0 (f29_23 p0 k) (f29_6 p0 k) (f29_12 p0 k) (f29_13 p0 k) (f29_15 p0 k) (f29_17 p0 k)
end
def f29 (k : Nat) (p0 : ByteArray) : Option R29 := b29 p0 (f29_23 p0 k) (f29_6 p0 k) (f29_12 p0 k) (f29_13 p0 k) (f29_15 p0 k) (f29_17 p0 k)
theorem e29 (p0 : ByteArray) : ∀ k, ((fun v1 v2 v3 => cutG TP X q29 [6, 13, 12, 15, 17, 23] D29 (h29 p0).length body29 (finH TP Try.f29.results.toList (h29 p0).length false k29) k 23 (m29_23 p0 v1 v2 v3)) = f29_23 p0 k) ∧ ((fun v1 v2 v3 => cutG TP X q29 [6, 13, 12, 15, 17, 23] D29 (h29 p0).length body29 (finH TP Try.f29.results.toList (h29 p0).length false k29) k 6 (m29_6 p0 v1 v2 v3)) = f29_6 p0 k) ∧ ((fun v1 v2 v3 => cutG TP X q29 [6, 13, 12, 15, 17, 23] D29 (h29 p0).length body29 (finH TP Try.f29.results.toList (h29 p0).length false k29) k 12 (m29_12 p0 v1 v2 v3)) = f29_12 p0 k) ∧ ((fun v1 v2 v3 => cutG TP X q29 [6, 13, 12, 15, 17, 23] D29 (h29 p0).length body29 (finH TP Try.f29.results.toList (h29 p0).length false k29) k 13 (m29_13 p0 v1 v2 v3)) = f29_13 p0 k) ∧ ((fun v1 v2 v3 => cutG TP X q29 [6, 13, 12, 15, 17, 23] D29 (h29 p0).length body29 (finH TP Try.f29.results.toList (h29 p0).length false k29) k 15 (m29_15 p0 v1 v2 v3)) = f29_15 p0 k) ∧ ((fun v1 v2 => cutG TP X q29 [6, 13, 12, 15, 17, 23] D29 (h29 p0).length body29 (finH TP Try.f29.results.toList (h29 p0).length false k29) k 17 (m29_17 p0 v1 v2)) = f29_17 p0 k)
  | 0 => ⟨rfl, rfl, rfl, rfl, rfl, rfl⟩
  | k + 1 => by
    have ih := e29 p0 k
    refine ⟨?_, ?_, ?_, ?_, ?_, ?_⟩
    · funext v1 v2 v3
      refine (if_pos (by kernel_rfl)).trans ?_
      rw [s29_23]
      simp only [ih]
      rfl
    · funext v1 v2 v3
      refine (if_pos (by kernel_rfl)).trans ?_
      rw [s29_6]
      simp only [ih]
      rfl
    · funext v1 v2 v3
      refine (if_pos (by kernel_rfl)).trans ?_
      rw [s29_12]
      simp only [ih]
      rfl
    · funext v1 v2 v3
      refine (if_pos (by kernel_rfl)).trans ?_
      rw [s29_13]
      simp only [ih]
      rfl
    · funext v1 v2 v3
      refine (if_pos (by kernel_rfl)).trans ?_
      rw [s29_15]
      simp only [ih]
      rfl
    · funext v1 v2
      refine (if_pos (by kernel_rfl)).trans ?_
      rw [s29_17]
      simp only [ih]
      rfl
theorem pure29 (p0 : ByteArray) (pok : PrmOK TP X q29) (k : Nat) (r : R29) (h : f29 k p0 = some r) : PureH TP X 29 [.str p0] (h29 p0) (out29 r) (outh29 r) :=
  pure_gen good k (fn := Try.f29) (body := body29) (prim := q29) (D := D29) (cuts := [6, 13, 12, 15, 17, 23]) (h := h29 p0) (own := false) (by kernel_rfl) (by kernel_rfl) (by decide +kernel) pok hk29 (by
    rw [s29]
    have ih := e29 p0 k
    simp only [ih]
    exact h)
def F29 {R : Type} (spec : (ByteArray) → Option R29) : Fn U R := fun args h k => match args, h with | [.str p0], [] => (spec p0).bind fun r => k (out29 r) (outh29 r) | _, _ => none
theorem ok29 {R : Type} (spec : (ByteArray) → Option R29) (hp : ∀ (p0 : ByteArray) (r : R29), spec p0 = some r → PureH TP X 29 [.str p0] (h29 p0) (out29 r) (outh29 r)) : FnOK TP X 29 (F29 spec : Fn U R) := by
  intro args h k r hh
  unfold F29 at hh
  split at hh
  · obtain ⟨x, h1, h2⟩ := Option.bind_eq_some_iff.1 hh
    exact ⟨_, _, h2, hp _ _ h1⟩
  · cases hh
theorem pok29 : PrmOK TP X q29 := prims_cons good okS53 (prims_nil TP X mixed)
noncomputable def S29 (p0 : ByteArray) : Option R29 := evv fun k => f29 k p0
theorem okS29 {R : Type} : FnOK TP X 29 (F29 S29 : Fn U R) := ok29 S29 fun p0 r h => by
  obtain ⟨k, hk⟩ := evv_fuel h
  exact pure29 p0 pok29 k r hk
end
end Go.Abs.Z
namespace Go.Abs.Z
open Go Go.Abs Limb Num
def pt (t : TokT) : ByteArray × Int := (t.2.1, t.2.2.1)
theorem pt_len {l l' : List TokT} (h : l.map pt = l'.map pt) : l.length = l'.length := by
  have := congrArg List.length h
  rwa [List.length_map, List.length_map] at this
theorem pt_getD {l l' : List TokT} (h : l.map pt = l'.map pt) {n : Nat} (hn : n < l.length) (d d' : TokT) : (l.getD n d).2.2.1 = (l'.getD n d').2.2.1 := by
  have hl := pt_len h
  have := congrArg (fun l : List (ByteArray × Int) => l[n]?) h
  simp only [List.getElem?_map] at this
  rw [List.getElem?_eq_getElem hn, List.getElem?_eq_getElem (by omega)] at this
  rw [List.getD_eq_getElem?_getD, List.getD_eq_getElem?_getD, List.getElem?_eq_getElem hn, List.getElem?_eq_getElem (by omega)]
  simp only [Option.map_some, Option.some.injEq] at this
  exact congrArg Prod.snd this
theorem pt_app {l l' : List TokT} (h : l.map pt = l'.map pt) {t t' : TokT} (ht : pt t = pt t') : (l ++ [t]).map pt = (l' ++ [t']).map pt := by
  rw [List.map_append, List.map_append, h, List.map_singleton, List.map_singleton, ht]
section
variable {s : ByteArray}
theorem st6 (hz : s.size ≤ 65536) (v : Bool) (i : Nat) (l : List TokT) (f : Nat) : f29_6 s (f + 1) v (i : Int) l = b29_6 s (f29_23 s f) (f29_6 s f) (f29_12 s f) (f29_13 s f) (f29_15 s f) (f29_17 s f) v (i : Int) l := rfl
theorem ref23 (hz : s.size ≤ 65536) {v : Bool} {i : Nat} {l : List TokT} {r : R29} (hl : l.length ≤ 16384) (h : Evt (fun f => f29_6 s f v (i : Int) l) r) : Evt (fun f => f29_23 s f v (i : Int) l) r := Evt.step h fun f => by
  show b29_23 s (f29_23 s f) (f29_6 s f) (f29_12 s f) (f29_13 s f) (f29_15 s f) (f29_17 s f) v (i : Int) l = _
  unfold b29_23
  have hgt : ¬ ((l.length : Int) > 16384) := by omega
  rw [cF hgt]
theorem ref23_big (hz : s.size ≤ 65536) {v : Bool} {i : Nat} {l : List TokT} (hl : l.length = 16385) : Evt (fun f => f29_23 s f v (i : Int) l) ([], (l.getD 16384 (X.dflt 95)).2.2.1, 85) := Evt.last fun f => by
  show b29_23 s (f29_23 s f) (f29_6 s f) (f29_12 s f) (f29_13 s f) (f29_15 s f) (f29_17 s f) v (i : Int) l = _
  unfold b29_23
  have hgt : (l.length : Int) > 16384 := by omega
  have h3 : Int.toNat 16384 < l.length := by show 16384 < l.length; omega
  rw [cT hgt, cT (by omega), cT h3]
  rfl
theorem ref6_12 (hz : s.size ≤ 65536) {v : Bool} {i : Nat} {l : List TokT} {r : R29} (hi : i < s.size) (hc : bt s (i : Int) ≠ 10) (h : Evt (fun f => f29_12 s f v (i : Int) l) r) : Evt (fun f => f29_6 s f v (i : Int) l) r := Evt.step h fun f => by
  rw [st6 hz]
  unfold b29_6
  rw [cT (by omega), cN (by omega), cT (by omega), cT (by omega), cN hc]
theorem ref12_15 (hz : s.size ≤ 65536) {v : Bool} {i : Nat} {l : List TokT} {r : R29} (hi : i < s.size) (hc : bt s (i : Int) ≠ 35) (h : Evt (fun f => f29_15 s f v (i : Int) l) r) : Evt (fun f => f29_12 s f v (i : Int) l) r := Evt.step h fun f => by
  show b29_12 s (f29_23 s f) (f29_6 s f) (f29_12 s f) (f29_13 s f) (f29_15 s f) (f29_17 s f) v (i : Int) l = _
  unfold b29_12
  rw [cT (by omega), cT (by omega), cN hc]
theorem ref15_17 (hz : s.size ≤ 65536) {v : Bool} {i : Nat} {l : List TokT} {r : R29} (hi : i < s.size) (h1 : bt s (i : Int) ≠ 32) (h2 : bt s (i : Int) ≠ 9) (h3 : bt s (i : Int) ≠ 13) (h : Evt (fun f => f29_17 s f (i : Int) l) r) : Evt (fun f => f29_15 s f v (i : Int) l) r := Evt.step h fun f => by
  show b29_15 s (f29_23 s f) (f29_6 s f) (f29_12 s f) (f29_13 s f) (f29_15 s f) (f29_17 s f) v (i : Int) l = _
  unfold b29_15
  rw [cT (by omega), cT (by omega), cN h1, cT (by omega), cT (by omega), cN h2, cT (by omega), cT (by omega), cN h3]
theorem ref15_blank (hz : s.size ≤ 65536) {v : Bool} {i : Nat} {l : List TokT} {r : R29} (hi : i < s.size) (hc : bt s (i : Int) = 32 ∨ bt s (i : Int) = 9 ∨ bt s (i : Int) = 13) (h : Evt (fun f => f29_23 s f v ((i + 1 : Nat) : Int) l) r) : Evt (fun f => f29_15 s f v (i : Int) l) r := Evt.step h fun f => by
  show b29_15 s (f29_23 s f) (f29_6 s f) (f29_12 s f) (f29_13 s f) (f29_15 s f) (f29_17 s f) v (i : Int) l = _
  unfold b29_15
  have w1 : IntKind.i64.wrap ((i : Int) + 1) = ((i + 1 : Nat) : Int) := by rw [wi64] <;> omega
  rw [cT (by omega), cT (by omega), w1]
  by_cases h1 : bt s (i : Int) = 32
  · rw [cE h1]
  · rw [cN h1, cT (by omega), cT (by omega)]
    by_cases h2 : bt s (i : Int) = 9
    · rw [cE h2]
    · rw [cN h2, cT (by omega), cT (by omega), cE ((hc.resolve_left h1).resolve_left h2)]
def nl10 (c : Int) : Bool := c != 10
theorem ref13 (hz : s.size ≤ 65536) {v : Bool} {l : List TokT} {r : R29} (hl : l.length ≤ 16384) {i : Nat} (hi : i ≤ s.size) (h : Evt (fun f => f29_6 s f v ((i + runB nl10 s i : Nat) : Int) l) r) : Evt (fun f => f29_13 s f v (i : Int) l) r := by
  have hn := runB_le nl10 s i hi
  have h' := ref23 hz hl h
  have main : ∀ m j : Nat, j + m = i + runB nl10 s i → i ≤ j → Evt (fun f => f29_13 s f v (j : Int) l) r := by
    intro m
    induction m with
    | zero =>
      intro j hj _
      have : j = i + runB nl10 s i := by omega
      subst this
      refine Evt.step h' fun f => ?_
      show b29_13 s (f29_23 s f) (f29_6 s f) (f29_12 s f) (f29_13 s f) (f29_15 s f) (f29_17 s f) v ((i + runB nl10 s i : Nat) : Int) l = _
      unfold b29_13
      by_cases hlt : i + runB nl10 s i < s.size
      · have he := runB_end hlt
        rw [cT (by omega), cT (by omega), cT (by omega), show (bt s ((i + runB nl10 s i : Nat) : Int) != 10) = false from he]
        rfl
      · rw [cF (by omega)]
    | succ m ih =>
      intro j hj hij
      refine Evt.step (ih (j + 1) (by omega) (by omega)) fun f => ?_
      show b29_13 s (f29_23 s f) (f29_6 s f) (f29_12 s f) (f29_13 s f) (f29_15 s f) (f29_17 s f) v (j : Int) l = _
      unfold b29_13
      have w1 : IntKind.i64.wrap ((j : Int) + 1) = ((j + 1 : Nat) : Int) := by rw [wi64] <;> omega
      have ha := runB_all (f := nl10) (s := s) (i := i) (j := j - i) (by omega)
      rw [show i + (j - i) = j by omega] at ha
      rw [cT (by omega), cT (by omega), cT (by omega), show (bt s (j : Int) != 10) = true from ha, w1]
      rfl
  exact main (runB nl10 s i) i (by omega) (Nat.le_refl _)
theorem prog19 (hz : s.size ≤ 65536) {v : Bool} {l : List TokT} {r : R28} {i : Nat} (hi : i ≤ s.size) (h : Evt (fun f => f28_5 s f v s ((i + runB nl10 s i : Nat) : Int) l) r) : Evt (fun f => f28_19 s f v s (i : Int) l) r := by
  have hn := runB_le nl10 s i hi
  have main : ∀ m j : Nat, j + m = i + runB nl10 s i → i ≤ j → Evt (fun f => f28_19 s f v s (j : Int) l) r := by
    intro m
    induction m with
    | zero =>
      intro j hj _
      have : j = i + runB nl10 s i := by omega
      subst this
      refine Evt.step h fun f => ?_
      show b28_19 s (f28_5 s f) (f28_19 s f) v s ((i + runB nl10 s i : Nat) : Int) l = _
      unfold b28_19
      by_cases hlt : i + runB nl10 s i < s.size
      · have he := runB_end hlt
        rw [cT (by omega), cT (by omega), cT (by omega), show (bt s ((i + runB nl10 s i : Nat) : Int) != 10) = false from he]
        rfl
      · rw [cF (by omega)]
    | succ m ih =>
      intro j hj hij
      refine Evt.step (ih (j + 1) (by omega) (by omega)) fun f => ?_
      show b28_19 s (f28_5 s f) (f28_19 s f) v s (j : Int) l = _
      unfold b28_19
      have w1 : IntKind.i64.wrap ((j : Int) + 1) = ((j + 1 : Nat) : Int) := by rw [wi64] <;> omega
      have ha := runB_all (f := nl10) (s := s) (i := i) (j := j - i) (by omega)
      rw [show i + (j - i) = j by omega] at ha
      rw [cT (by omega), cT (by omega), cT (by omega), show (bt s (j : Int) != 10) = true from ha, w1]
      rfl
  exact main (runB nl10 s i) i (by omega) (Nat.le_refl _)
end
end Go.Abs.Z
namespace Go.Abs.Z
open Go Go.Abs Limb Num
def Both (s : ByteArray) (v : Bool) (i : Nat) (lp lr : List TokT) : Prop :=
  ∃ r r', Evt (fun k => f28_5 s k v s (i : Int) lp) r ∧ Evt (fun k => f29_6 s k v (i : Int) lr) r' ∧ r.2 = r'.2 ∧ r.1.map pt = r'.1.map pt ∧ r.1.length ≤ 16384
section
variable {s : ByteArray}
theorem st5 (hz : s.size ≤ 65536) (v : Bool) (i : Nat) (l : List TokT) (f : Nat) : f28_5 s (f + 1) v s (i : Int) l = b28_5 s (f28_5 s f) (f28_19 s f) v s (i : Int) l := rfl
theorem both_end (hz : s.size ≤ 65536) {v : Bool} {lp lr : List TokT} (hp : lp.map pt = lr.map pt) (hl : lp.length ≤ 16384) : Both s v s.size lp lr := by
  have hl' := pt_len hp
  have w1 : IntKind.i64.wrap ((s.size : Int) + 1) = ((s.size + 1 : Nat) : Int) := by rw [wi64] <;> omega
  cases v with
  | false =>
    refine ⟨(lp, 0, 0), (lr, 0, 0), Evt.last fun f => ?_, Evt.step (g := fun f => f29_23 s f false ((s.size + 1 : Nat) : Int) lr) (ref23 hz (by omega) (Evt.last fun f => ?_)) fun f => ?_, rfl, hp, hl⟩
    · rw [st5 hz]
      unfold b28_5
      rw [cF (by omega)]
      rfl
    · rw [st6 hz]
      unfold b29_6
      rw [cF (by omega)]
    · rw [st6 hz]
      unfold b29_6
      rw [cT (by omega), cE rfl, w1]
      rfl
  | true =>
    have ref : ∀ {r : R29}, Evt (fun f => f29_23 s f false ((s.size + 1 : Nat) : Int) (lr ++ [(5, ByteArray.mk #[10], (s.size : Int), false, [], [])])) r → Evt (fun f => f29_6 s f true (s.size : Int) lr) r := fun h => Evt.step h fun f => by
      rw [st6 hz]
      unfold b29_6
      rw [cT (by omega), cE rfl, w1]
      simp only [cond_true]
      rw [cT (by omega)]
    by_cases hb : lp.length = 16384
    · refine ⟨([], s.size, 85), ([], _, 85), Evt.last fun f => ?_, ref (ref23_big hz (by rw [List.length_append, List.length_singleton]; omega)), ?_, rfl, by show 0 ≤ _; omega⟩
      · rw [st5 hz]
        unfold b28_5
        rw [cF (by omega)]
        simp only [cond_true]
        have hgt : ((lp ++ [(4, ByteArray.mk #[10], (s.size : Int), false, [], [])]).length : Int) > 16384 := by rw [List.length_append, List.length_singleton]; omega
        rw [cT (by omega), cT hgt]
      · show ((s.size : Int), (85 : Int)) = (_, 85)
        have := getD_last lr (5, ByteArray.mk #[10], (s.size : Int), false, [], []) (X.dflt 95)
        rw [show lr.length = 16384 by omega] at this
        rw [this]
    · refine ⟨(lp ++ [(4, ByteArray.mk #[10], (s.size : Int), false, [], [])], 0, 0), (lr ++ [(5, ByteArray.mk #[10], (s.size : Int), false, [], [])], 0, 0), Evt.last fun f => ?_, ref (ref23 hz (by rw [List.length_append, List.length_singleton]; omega) (Evt.last fun f => ?_)), rfl, pt_app hp rfl, by rw [List.length_append, List.length_singleton]; omega⟩
      · rw [st5 hz]
        unfold b28_5
        rw [cF (by omega)]
        simp only [cond_true]
        have hgt : ¬ (((lp ++ [(4, ByteArray.mk #[10], (s.size : Int), false, [], [])]).length : Int) > 16384) := by rw [List.length_append, List.length_singleton]; omega
        rw [cT (by omega), cF hgt]
      · rw [st6 hz]
        unfold b29_6
        rw [cF (by omega)]
theorem both_app (hz : s.size ≤ 65536) {v v' : Bool} {i j : Nat} {lp lr : List TokT} {t t' : TokT} (hp : lp.map pt = lr.map pt) (hl : lp.length ≤ 16384) (ht : pt t = pt t')
    (pb : lp.length = 16384 → Evt (fun k => f28_5 s k v s (i : Int) lp) ([], ((lp ++ [t]).getD 16384 (X.dflt 90)).2.2.1, 85))
    (ps : lp.length < 16384 → ∀ {r : R28}, Evt (fun k => f28_5 s k v' s (j : Int) (lp ++ [t])) r → Evt (fun k => f28_5 s k v s (i : Int) lp) r)
    (ref : ∀ {r : R29}, Evt (fun k => f29_23 s k v' (j : Int) (lr ++ [t'])) r → Evt (fun k => f29_6 s k v (i : Int) lr) r)
    (ih : lp.length < 16384 → Both s v' j (lp ++ [t]) (lr ++ [t'])) : Both s v i lp lr := by
  have hl' := pt_len hp
  by_cases hb : lp.length = 16384
  · refine ⟨_, _, pb hb, ref (ref23_big hz (by rw [List.length_append, List.length_singleton]; omega)), ?_, rfl, by show 0 ≤ _; omega⟩
    rw [pt_getD (pt_app hp ht) (by rw [List.length_append, List.length_singleton]; omega) (X.dflt 90) (X.dflt 95)]
  · obtain ⟨r, r', h1, h2, h3, h4⟩ := ih (by omega)
    exact ⟨r, r', ps (by omega) h1, ref (ref23 hz (by rw [List.length_append, List.length_singleton]; omega) h2), h3, h4⟩
theorem cut_both (hz : s.size ≤ 65536) : ∀ (N i : Nat) (v : Bool) (lp lr : List TokT), s.size - i ≤ N → i ≤ s.size → lp.map pt = lr.map pt → lp.length ≤ 16384 → Both s v i lp lr := by
  intro N
  induction N with
  | zero =>
    intro i v lp lr hN hi hp hl
    have : i = s.size := by omega
    subst this
    exact both_end hz hp hl
  | succ N ih =>
    intro i v lp lr hN hi hp hl
    by_cases he : i = s.size
    · subst he; exact both_end hz hp hl
    have hi' : i < s.size := by omega
    have hl' := pt_len hp
    have w1 : IntKind.i64.wrap ((i : Int) + 1) = ((i + 1 : Nat) : Int) := by rw [wi64] <;> omega
    have hgt : ¬ ((lp.length : Int) > 16384) := by omega
    by_cases c10 : bt s (i : Int) = 10
    · cases v with
      | false =>
        obtain ⟨r, r', h1, h2, h3, h4⟩ := ih (i + 1) false lp lr (by omega) (by omega) hp hl
        refine ⟨r, r', Evt.step h1 fun f => ?_, Evt.step (ref23 hz (by omega) h2) fun f => ?_, h3, h4⟩
        · rw [st5 hz]
          unfold b28_5
          rw [cT (by omega), cT (by omega), cT (by omega), cE c10, cF hgt, w1]
          rfl
        · rw [st6 hz]
          unfold b29_6
          rw [cT (by omega), cN (by omega), cT (by omega), cT (by omega), cE c10, w1]
          rfl
      | true =>
        have e51 := run51 (s := s) (i := i) (n := 1) (l := lp) (kd := 4) hz (by omega) hl
        have ex : s.extract i (i + 1) = ByteArray.mk #[10] := by rw [extract_one hi', c10]; rfl
        rw [ex] at e51
        refine both_app hz (v' := false) (j := i + 1) (t := (4, ByteArray.mk #[10], (i : Int), false, [], [])) (t' := (5, ByteArray.mk #[10], (i : Int), false, [], [])) hp hl rfl (fun hb => Evt.last fun f => ?_) (fun hb {r} h => Evt.step h fun f => ?_) (fun {r} h => Evt.step h fun f => ?_) fun hb => ih (i + 1) false _ _ (by omega) (by omega) (pt_app hp rfl) (by rw [List.length_append, List.length_singleton]; omega)
        · rw [st5 hz]
          unfold b28_5
          rw [cT (by omega), cT (by omega), cT (by omega), cE c10, show (1 : Int) = ((1 : Nat) : Int) from rfl, e51]
          simp only [Option.bind_some, cond_true]
          have hg : ((lp ++ [(4, ByteArray.mk #[10], (i : Int), false, [], [])]).length : Int) > 16384 := by rw [List.length_append, List.length_singleton]; omega
          have h3 : Int.toNat 16384 < (lp ++ [((4 : Int), ByteArray.mk #[10], (i : Int), false, ([] : List Int), ([] : List Int))]).length := by rw [List.length_append, List.length_singleton]; show 16384 < _; omega
          rw [cT hg, cT (by omega), cT h3]
          rfl
        · rw [st5 hz]
          unfold b28_5
          rw [cT (by omega), cT (by omega), cT (by omega), cE c10, show (1 : Int) = ((1 : Nat) : Int) from rfl, e51]
          simp only [Option.bind_some, cond_true]
          have hg : ¬ (((lp ++ [(4, ByteArray.mk #[10], (i : Int), false, [], [])]).length : Int) > 16384) := by rw [List.length_append, List.length_singleton]; omega
          rw [cF hg]
        · rw [st6 hz]
          unfold b29_6
          rw [cT (by omega), cN (by omega), cT (by omega), cT (by omega), cE c10, w1]
          simp only [cond_true]
          rw [cT (by omega)]
    by_cases cb : bt s (i : Int) = 32 ∨ bt s (i : Int) = 9 ∨ bt s (i : Int) = 13
    · obtain ⟨r, r', h1, h2, h3, h4⟩ := ih (i + 1) v lp lr (by omega) (by omega) hp hl
      refine ⟨r, r', Evt.step h1 fun f => ?_, ref6_12 hz hi' c10 (ref12_15 hz hi' (by omega) (ref15_blank hz hi' cb (ref23 hz (by omega) h2))), h3, h4⟩
      rw [st5 hz]
      unfold b28_5
      rw [cT (by omega), cT (by omega), cT (by omega), cN c10, w1]
      by_cases g1 : bt s (i : Int) = 32
      · rw [cE g1]
      · rw [cN g1]
        by_cases g2 : bt s (i : Int) = 9
        · rw [cE g2]
        · rw [cN g2, cE ((cb.resolve_left g1).resolve_left g2)]
    have cb1 : bt s (i : Int) ≠ 32 := fun h => cb (Or.inl h)
    have cb2 : bt s (i : Int) ≠ 9 := fun h => cb (Or.inr (Or.inl h))
    have cb3 : bt s (i : Int) ≠ 13 := fun h => cb (Or.inr (Or.inr h))
    by_cases c35 : bt s (i : Int) = 35
    · have hr := runB_pos (f := nl10) hi' (by rw [c35]; rfl)
      have hn := runB_le nl10 s i hi
      obtain ⟨r, r', h1, h2, h3, h4⟩ := ih (i + runB nl10 s i) v lp lr (by omega) hn hp hl
      refine ⟨r, r', Evt.step (prog19 hz hi h1) fun f => ?_, ref6_12 hz hi' c10 (Evt.step (ref13 hz (by omega) hi h2) fun f => ?_), h3, h4⟩
      · rw [st5 hz]
        unfold b28_5
        rw [cT (by omega), cT (by omega), cT (by omega), cN c10, cN cb1, cN cb2, cN cb3, cE c35]
      · show b29_12 s (f29_23 s f) (f29_6 s f) (f29_12 s f) (f29_13 s f) (f29_15 s f) (f29_17 s f) v (i : Int) lr = _
        unfold b29_12
        rw [cT (by omega), cT (by omega), cE c35]
    have pst : ∀ f, f28_5 s (f + 1) v s (i : Int) lp = ((S52 s (i : Int) lp (bt s (i : Int))).bind fun r1 =>
        cond (r1.fst != 0) (some (([], r1.snd.snd.fst, r1.fst)))
          (cond (decide ((r1.snd.snd.snd.length : Int) > 16384)) (cond (decide ((16384 : Int) < (r1.snd.snd.snd.length : Int))) (cond (decide (Int.toNat 16384 < r1.snd.snd.snd.length))
            (some (([], (r1.snd.snd.snd.getD (Int.toNat 16384) (X.dflt 90)).snd.snd.fst, 85))) none) none)
            (f28_5 s f true r1.snd.fst r1.snd.snd.fst r1.snd.snd.snd))) := fun f => by
      rw [st5 hz]
      unfold b28_5
      rw [cT (by omega), cT (by omega), cT (by omega), cN c10, cN cb1, cN cb2, cN cb3, cN c35]
    have r17 : ∀ {r : R29}, Evt (fun f => f29_17 s f (i : Int) lr) r → Evt (fun f => f29_6 s f v (i : Int) lr) r := fun h => ref6_12 hz hi' c10 (ref12_15 hz hi' c35 (ref15_17 hz hi' cb1 cb2 cb3 h))
    have st17 : ∀ f, f29_17 s (f + 1) (i : Int) lr = b29_17 s (f29_23 s f) (f29_6 s f) (f29_12 s f) (f29_13 s f) (f29_15 s f) (f29_17 s f) (i : Int) lr := fun f => rfl
    rcases next_both (l := lp) hz hi' hl with ⟨n, np, nl, ⟨kd, x, y, z, e52⟩, kd', x', y', z', e53⟩ | ⟨e, e0, ⟨l', e52⟩, a, b, c, x, y, z, e53⟩
    · have hS : (s.extract i (i + n)).size = n := by rw [ByteArray.size_extract]; omega
      have w2 : IntKind.i64.wrap ((i : Int) + ((s.extract i (i + n)).size : Int)) = ((i + n : Nat) : Int) := by rw [hS, wi64] <;> omega
      refine both_app hz (v' := true) (j := i + n) (t := (kd, s.extract i (i + n), (i : Int), x, y, z)) (t' := (kd', s.extract i (i + n), (i : Int), x', y', z')) hp hl rfl (fun hb => Evt.last fun f => ?_) (fun hb {r} h => Evt.step h fun f => ?_) (fun {r} h => r17 (Evt.step h fun f => ?_)) fun hb => ih (i + n) true _ _ (by omega) nl (pt_app hp rfl) (by rw [List.length_append, List.length_singleton]; omega)
      · rw [pst, e52]
        simp only [Option.bind_some]
        have hg : ((lp ++ [(kd, s.extract i (i + n), (i : Int), x, y, z)]).length : Int) > 16384 := by rw [List.length_append, List.length_singleton]; omega
        have h3 : Int.toNat 16384 < (lp ++ [(kd, s.extract i (i + n), (i : Int), x, y, z)]).length := by rw [List.length_append, List.length_singleton]; show 16384 < _; omega
        rw [bneF rfl, cT hg, cT (by omega), cT h3]
        rfl
      · rw [pst, e52]
        simp only [Option.bind_some]
        have hg : ¬ (((lp ++ [(kd, s.extract i (i + n), (i : Int), x, y, z)]).length : Int) > 16384) := by rw [List.length_append, List.length_singleton]; omega
        rw [bneF rfl, cF hg]
      · rw [st17]
        unfold b29_17
        rw [e53]
        simp only [Option.bind_some]
        rw [bneF rfl, cT (by omega), w2]
    · refine ⟨([], (i : Int), e), ([], (i : Int), e), Evt.last fun f => ?_, r17 (Evt.last fun f => ?_), rfl, rfl, by show 0 ≤ _; omega⟩
      · rw [pst, e52]
        simp only [Option.bind_some]
        rw [bneT e0]
      · rw [st17]
        unfold b29_17
        rw [e53]
        simp only [Option.bind_some]
        rw [bneT e0]
end
theorem cut_all (s : ByteArray) : ∃ r r', S28 s = some r ∧ S29 s = some r' ∧ r.2 = r'.2 ∧ r.1.map pt = r'.1.map pt ∧ r.1.length ≤ 16384 := by
  by_cases hz : s.size ≤ 65536
  · obtain ⟨r, r', h1, h2, h3, h4⟩ := cut_both hz s.size 0 false [] [] (by omega) (by omega) rfl (by show 0 ≤ _; omega)
    have hgt : ¬ ((s.size : Int) > 65536) := by omega
    refine ⟨r, r', evv_eq (h1.same fun k => ?_), evv_eq (h2.same fun k => ?_), h3, h4⟩
    · show b28 s (f28_5 s k) (f28_19 s k) = _
      unfold b28
      rw [cF hgt]; rfl
    · show b29 s (f29_23 s k) (f29_6 s k) (f29_12 s k) (f29_13 s k) (f29_15 s k) (f29_17 s k) = _
      unfold b29
      rw [cF hgt]; rfl
  · have hgt : (s.size : Int) > 65536 := by omega
    refine ⟨([], 65536, 4), ([], 65536, 4), evv_eq (Evt.now fun k => ?_), evv_eq (Evt.now fun k => ?_), rfl, rfl, by show 0 ≤ _; omega⟩
    · show b28 s (f28_5 s k) (f28_19 s k) = _
      unfold b28
      rw [cT hgt]
    · show b29 s (f29_23 s k) (f29_6 s k) (f29_12 s k) (f29_13 s k) (f29_15 s k) (f29_17 s k) = _
      unfold b29
      rw [cT hgt]
end Go.Abs.Z
namespace Go.Abs.Z
open Go Go.Abs Go.Proofs
noncomputable section
abbrev R11 : Type := (List (ByteArray)) × Int × (Int)
noncomputable def body11 : Go.Code := (Try.f11.body).getD Go.Code.skip
def h11 (p0 : ByteArray) : List (AO U) := []
def k11 : AV U → List (AO U) → Option R11 := fun v h => match v, h with | AV.tup [AV.imm 9 x0, AV.int IntKind.i64 x1, AV.int IntKind.i64 x2], [] => some (x0, x1, x2) | _, _ => none
def out11 : R11 → AV U := fun (x0, x1, x2) => AV.tup [AV.imm 9 x0, AV.int IntKind.i64 x1, AV.int IntKind.i64 x2]
def outh11 : R11 → List (AO U) := fun (x0, x1, x2) => []
def D11 : Nat → Dir := dirs [(6, ⟨[7, 22, 23, 24], [(7, none)], [], []⟩)]
def b11 (p0 : ByteArray) (c6 : (List TTk) → Int → (Int) → (List (ByteArray)) → Option R11)  : Option R11 :=
  (S28 p0).bind fun r0 =>
  cond (r0.snd.snd != 0)
  (some (([], r0.snd.fst, r0.snd.snd)))
  (c6 (r0.fst) ((↑r0.fst.length : Int)) (0) ([]))
def m11_6 (p0 : ByteArray) (v0 : List TTk) (v1 v2 : Int) (v3 : List (ByteArray)) : S U := S.mk [AV.undef, AV.undef, AV.undef, AV.undef, AV.undef, AV.undef, AV.undef, AV.row 0 9, AV.undef, AV.undef, AV.undef, AV.undef, AV.undef, AV.undef, AV.undef, AV.undef, AV.undef, AV.undef, AV.undef, AV.undef, AV.undef, AV.undef, AV.imm 90 v0, AV.int IntKind.i64 v1, AV.int IntKind.i64 v2, AV.undef, AV.undef, AV.undef, AV.undef, AV.undef, AV.undef, AV.undef, AV.undef, AV.undef, AV.undef] [AO.row 9 v3]
def b11_6 (p0 : ByteArray) (c6 : (List TTk) → Int → (Int) → (List (ByteArray)) → Option R11) (v0 : List TTk) (v1 v2 : Int) (v3 : List (ByteArray)) : Option R11 :=
  cond (decide (v2 < v1))
  (cond (decide (0 ≤ v2))
  (cond (decide (v2 < (↑v0.length : Int)))
  (cond (decide (v2.toNat < v0.length))
  (cond (decide ((v3.length + 1) * 16 ≤ 140737488355328))
  (c6 (v0) (v1) (IntKind.i64.wrap (v2 + 1)) (v3 ++ [(v0.getD v2.toNat (X.dflt 90)).snd.fst]))
  (none))
  (none))
  (none))
  (none))
  (some ((v3, 0, 0)))
theorem hk11 : ∀ v h' r, k11 v h' = some r → v = out11 r ∧ h' = outh11 r := by
  intro v h' r h
  unfold k11 at h
  split at h
  · injection h with h; subst h; exact ⟨rfl, rfl⟩
  · cases h
abbrev q11 : Prim U R11 := prims X [⟨28, fun _ => true, [.lend], F28 S28⟩]
theorem s11 (c : Nat → S U → Option R11) (p0 : ByteArray) : seg TP X q11 [6] (fun q st => c q (keepD D11 (h11 p0).length q st)) body11 (finH TP Try.f11.results.toList (h11 p0).length false k11) (start [.str p0] Try.f11.ntmps (h11 p0)) = b11 p0 (fun v0 v1 v2 v3 => c 6 (m11_6 p0 v0 v1 v2 v3)) := by kernel_rfl
theorem s11_6 (c : Nat → S U → Option R11) (p0 : ByteArray) (v0 : List TTk) (v1 v2 : Int) (v3 : List (ByteArray)) : res TP X q11 [6] (fun q st => c q (keepD D11 (h11 p0).length q st)) 6 body11 (finH TP Try.f11.results.toList (h11 p0).length false k11) (m11_6 p0 v0 v1 v2 v3) = b11_6 p0 (fun v0 v1 v2 v3 => c 6 (m11_6 p0 v0 v1 v2 v3)) v0 v1 v2 v3 := by kernel_rfl
def f11_6 (p0 : ByteArray) : Nat → (List TTk) → Int → (Int) → (List (ByteArray)) → Option R11
  | 0 => fun _ _ _ _ => none
  | k + 1 => b11_6 p0 (f11_6 p0 k)
def f11 (k : Nat) (p0 : ByteArray) : Option R11 := b11 p0 (f11_6 p0 k)
theorem e11 (p0 : ByteArray) : ∀ k, ((fun v0 v1 v2 v3 => cutG TP X q11 [6] D11 (h11 p0).length body11 (finH TP Try.f11.results.toList (h11 p0).length false k11) k 6 (m11_6 p0 v0 v1 v2 v3)) = f11_6 p0 k)
  | 0 => rfl
  | k + 1 => by
    have ih := e11 p0 k
    · funext v0 v1 v2 v3
      refine (if_pos (by kernel_rfl)).trans ?_
      rw [s11_6]
      simp only [ih]
      rfl
theorem pure11 (p0 : ByteArray) (pok : PrmOK TP X q11) (k : Nat) (r : R11) (h : f11 k p0 = some r) : PureH TP X 11 [.str p0] (h11 p0) (out11 r) (outh11 r) :=
  pure_gen good k (fn := Try.f11) (body := body11) (prim := q11) (D := D11) (cuts := [6]) (h := h11 p0) (own := false) (by kernel_rfl) (by kernel_rfl) (by decide +kernel) pok hk11 (by
    rw [s11]
    have ih := e11 p0 k
    simp only [ih]
    exact h)
def F11 {R : Type} (spec : (ByteArray) → Option R11) : Fn U R := fun args h k => match args, h with | [.str p0], [] => (spec p0).bind fun r => k (out11 r) (outh11 r) | _, _ => none
theorem ok11 {R : Type} (spec : (ByteArray) → Option R11) (hp : ∀ (p0 : ByteArray) (r : R11), spec p0 = some r → PureH TP X 11 [.str p0] (h11 p0) (out11 r) (outh11 r)) : FnOK TP X 11 (F11 spec : Fn U R) := by
  intro args h k r hh
  unfold F11 at hh
  split at hh
  · obtain ⟨x, h1, h2⟩ := Option.bind_eq_some_iff.1 hh
    exact ⟨_, _, h2, hp _ _ h1⟩
  · cases hh
theorem pok11 : PrmOK TP X q11 := prims_cons good okS28 (prims_nil TP X mixed)
noncomputable def S11 (p0 : ByteArray) : Option R11 := evv fun k => f11 k p0
theorem okS11 {R : Type} : FnOK TP X 11 (F11 S11 : Fn U R) := ok11 S11 fun p0 r h => by
  obtain ⟨k, hk⟩ := evv_fuel h
  exact pure11 p0 pok11 k r hk
end
end Go.Abs.Z
namespace Go.Abs.Z
open Go Go.Abs Go.Proofs
noncomputable section
abbrev R12 : Type := (List (ByteArray)) × Int × (Int)
noncomputable def body12 : Go.Code := (Try.f12.body).getD Go.Code.skip
def h12 (p0 : ByteArray) : List (AO U) := []
def k12 : AV U → List (AO U) → Option R12 := fun v h => match v, h with | AV.tup [AV.imm 9 x0, AV.int IntKind.i64 x1, AV.int IntKind.i64 x2], [] => some (x0, x1, x2) | _, _ => none
def out12 : R12 → AV U := fun (x0, x1, x2) => AV.tup [AV.imm 9 x0, AV.int IntKind.i64 x1, AV.int IntKind.i64 x2]
def outh12 : R12 → List (AO U) := fun (x0, x1, x2) => []
def D12 : Nat → Dir := dirs [(6, ⟨[5, 8, 9], [(8, none)], [], []⟩)]
def b12 (p0 : ByteArray) (c6 : (List TTk) → Int → (List (ByteArray)) → Option R12)  : Option R12 :=
  (S29 p0).bind fun r0 =>
  cond (r0.snd.snd != 0)
  (some (([], r0.snd.fst, r0.snd.snd)))
  (c6 (r0.fst) (0) ([]))
def m12_6 (p0 : ByteArray) (v0 : List TTk) (v1 : Int) (v2 : List (ByteArray)) : S U := S.mk [AV.undef, AV.undef, AV.undef, AV.undef, AV.undef, AV.imm 95 v0, AV.undef, AV.undef, AV.row 0 9, AV.int IntKind.i64 v1, AV.undef, AV.undef, AV.undef, AV.undef, AV.undef, AV.undef, AV.undef, AV.undef, AV.undef, AV.undef, AV.undef, AV.undef, AV.undef, AV.undef, AV.undef, AV.undef, AV.undef, AV.undef, AV.undef, AV.undef, AV.undef, AV.undef, AV.undef, AV.undef, AV.undef] [AO.row 9 v2]
def b12_6 (p0 : ByteArray) (c6 : (List TTk) → Int → (List (ByteArray)) → Option R12) (v0 : List TTk) (v1 : Int) (v2 : List (ByteArray)) : Option R12 :=
  cond (decide (v1 < (↑v0.length : Int)))
  (cond (decide (0 ≤ v1))
  (cond (decide (v1 < (↑v0.length : Int)))
  (cond (decide (v1.toNat < v0.length))
  (cond (decide ((v2.length + 1) * 16 ≤ 140737488355328))
  (c6 (v0) (IntKind.i64.wrap (v1 + 1)) (v2 ++ [(v0.getD v1.toNat (X.dflt 95)).snd.fst]))
  (none))
  (none))
  (none))
  (none))
  (some ((v2, 0, 0)))
theorem hk12 : ∀ v h' r, k12 v h' = some r → v = out12 r ∧ h' = outh12 r := by
  intro v h' r h
  unfold k12 at h
  split at h
  · injection h with h; subst h; exact ⟨rfl, rfl⟩
  · cases h
abbrev q12 : Prim U R12 := prims X [⟨29, fun _ => true, [.lend], F29 S29⟩]
theorem s12 (c : Nat → S U → Option R12) (p0 : ByteArray) : seg TP X q12 [6] (fun q st => c q (keepD D12 (h12 p0).length q st)) body12 (finH TP Try.f12.results.toList (h12 p0).length false k12) (start [.str p0] Try.f12.ntmps (h12 p0)) = b12 p0 (fun v0 v1 v2 => c 6 (m12_6 p0 v0 v1 v2)) := by kernel_rfl
theorem s12_6 (c : Nat → S U → Option R12) (p0 : ByteArray) (v0 : List TTk) (v1 : Int) (v2 : List (ByteArray)) : res TP X q12 [6] (fun q st => c q (keepD D12 (h12 p0).length q st)) 6 body12 (finH TP Try.f12.results.toList (h12 p0).length false k12) (m12_6 p0 v0 v1 v2) = b12_6 p0 (fun v0 v1 v2 => c 6 (m12_6 p0 v0 v1 v2)) v0 v1 v2 := by kernel_rfl
def f12_6 (p0 : ByteArray) : Nat → (List TTk) → Int → (List (ByteArray)) → Option R12
  | 0 => fun _ _ _ => none
  | k + 1 => b12_6 p0 (f12_6 p0 k)
def f12 (k : Nat) (p0 : ByteArray) : Option R12 := b12 p0 (f12_6 p0 k)
theorem e12 (p0 : ByteArray) : ∀ k, ((fun v0 v1 v2 => cutG TP X q12 [6] D12 (h12 p0).length body12 (finH TP Try.f12.results.toList (h12 p0).length false k12) k 6 (m12_6 p0 v0 v1 v2)) = f12_6 p0 k)
  | 0 => rfl
  | k + 1 => by
    have ih := e12 p0 k
    · funext v0 v1 v2
      refine (if_pos (by kernel_rfl)).trans ?_
      rw [s12_6]
      simp only [ih]
      rfl
theorem pure12 (p0 : ByteArray) (pok : PrmOK TP X q12) (k : Nat) (r : R12) (h : f12 k p0 = some r) : PureH TP X 12 [.str p0] (h12 p0) (out12 r) (outh12 r) :=
  pure_gen good k (fn := Try.f12) (body := body12) (prim := q12) (D := D12) (cuts := [6]) (h := h12 p0) (own := false) (by kernel_rfl) (by kernel_rfl) (by decide +kernel) pok hk12 (by
    rw [s12]
    have ih := e12 p0 k
    simp only [ih]
    exact h)
def F12 {R : Type} (spec : (ByteArray) → Option R12) : Fn U R := fun args h k => match args, h with | [.str p0], [] => (spec p0).bind fun r => k (out12 r) (outh12 r) | _, _ => none
theorem ok12 {R : Type} (spec : (ByteArray) → Option R12) (hp : ∀ (p0 : ByteArray) (r : R12), spec p0 = some r → PureH TP X 12 [.str p0] (h12 p0) (out12 r) (outh12 r)) : FnOK TP X 12 (F12 spec : Fn U R) := by
  intro args h k r hh
  unfold F12 at hh
  split at hh
  · obtain ⟨x, h1, h2⟩ := Option.bind_eq_some_iff.1 hh
    exact ⟨_, _, h2, hp _ _ h1⟩
  · cases hh
theorem pok12 : PrmOK TP X q12 := prims_cons good okS29 (prims_nil TP X mixed)
noncomputable def S12 (p0 : ByteArray) : Option R12 := evv fun k => f12 k p0
theorem okS12 {R : Type} : FnOK TP X 12 (F12 S12 : Fn U R) := ok12 S12 fun p0 r h => by
  obtain ⟨k, hk⟩ := evv_fuel h
  exact pure12 p0 pok12 k r hk
end
end Go.Abs.Z
namespace Go.Abs.Z
open Go Go.Abs Go.Proofs
noncomputable section
abbrev R13 : Type := (Bool)
noncomputable def body13 : Go.Code := (Try.f13.body).getD Go.Code.skip
def h13 (p0 p1 : List (ByteArray)) : List (AO U) := []
def k13 : AV U → List (AO U) → Option R13 := fun v h => match v, h with | AV.bool x0, [] => some x0 | _, _ => none
def out13 : R13 → AV U := fun x0 => AV.bool x0
def outh13 : R13 → List (AO U) := fun x0 => []
def D13 : Nat → Dir := dirs [(4, ⟨[0, 1, 5], [], [], []⟩)]
def b13 (p0 p1 : List (ByteArray)) (c4 : (Int) → Option R13)  : Option R13 :=
  cond ((↑p0.length : Int) != (↑p1.length : Int))
  (some (false))
  (c4 (0))
def m13_4 (p0 p1 : List (ByteArray)) (v2 : Int) : S U := S.mk [AV.imm 9 p0, AV.imm 9 p1, AV.undef, AV.undef, AV.undef, AV.int IntKind.i64 v2, AV.undef, AV.undef, AV.undef, AV.undef, AV.undef, AV.undef, AV.undef, AV.undef, AV.undef, AV.undef, AV.undef, AV.undef, AV.undef, AV.undef, AV.undef, AV.undef, AV.undef, AV.undef, AV.undef, AV.undef] []
def b13_4 (p0 p1 : List (ByteArray)) (c4 : (Int) → Option R13) (v2 : Int) : Option R13 :=
  cond (decide (v2 < (↑p0.length : Int)))
  (cond (decide (0 ≤ v2))
  (cond (decide (v2 < (↑p0.length : Int)))
  (cond (decide (v2.toNat < p0.length))
  (cond (decide (0 ≤ v2))
  (cond (decide (v2 < (↑p1.length : Int)))
  (cond (decide (v2.toNat < p1.length))
  (cond (!ByteArray.toList (p0.getD v2.toNat (X.dflt 9)) == ByteArray.toList (p1.getD v2.toNat (X.dflt 9)))
  (some (false))
  (c4 (IntKind.i64.wrap (v2 + 1))))
  (none))
  (none))
  (none))
  (none))
  (none))
  (none))
  (some (true))
theorem hk13 : ∀ v h' r, k13 v h' = some r → v = out13 r ∧ h' = outh13 r := by
  intro v h' r h
  unfold k13 at h
  split at h
  · injection h with h; subst h; exact ⟨rfl, rfl⟩
  · cases h
abbrev q13 : Prim U R13 := prims X []
theorem s13 (c : Nat → S U → Option R13) (p0 p1 : List (ByteArray)) : seg TP X q13 [4] (fun q st => c q (keepD D13 (h13 p0 p1).length q st)) body13 (finH TP Try.f13.results.toList (h13 p0 p1).length false k13) (start [.imm 9 p0, .imm 9 p1] Try.f13.ntmps (h13 p0 p1)) = b13 p0 p1 (fun v2 => c 4 (m13_4 p0 p1 v2)) := by kernel_rfl
theorem s13_4 (c : Nat → S U → Option R13) (p0 p1 : List (ByteArray)) (v2 : Int) : res TP X q13 [4] (fun q st => c q (keepD D13 (h13 p0 p1).length q st)) 4 body13 (finH TP Try.f13.results.toList (h13 p0 p1).length false k13) (m13_4 p0 p1 v2) = b13_4 p0 p1 (fun v2 => c 4 (m13_4 p0 p1 v2)) v2 := by kernel_rfl
def f13_4 (p0 p1 : List (ByteArray)) : Nat → Int → Option R13
  | 0 => fun _ => none
  | k + 1 => b13_4 p0 p1 (f13_4 p0 p1 k)
def f13 (k : Nat) (p0 p1 : List (ByteArray)) : Option R13 := b13 p0 p1 (f13_4 p0 p1 k)
theorem e13 (p0 p1 : List (ByteArray)) : ∀ k, ((fun v2 => cutG TP X q13 [4] D13 (h13 p0 p1).length body13 (finH TP Try.f13.results.toList (h13 p0 p1).length false k13) k 4 (m13_4 p0 p1 v2)) = f13_4 p0 p1 k)
  | 0 => rfl
  | k + 1 => by
    have ih := e13 p0 p1 k
    · funext v2
      refine (if_pos (by kernel_rfl)).trans ?_
      rw [s13_4]
      simp only [ih]
      rfl
theorem pure13 (p0 p1 : List (ByteArray)) (pok : PrmOK TP X q13) (k : Nat) (r : R13) (h : f13 k p0 p1 = some r) : PureH TP X 13 [.imm 9 p0, .imm 9 p1] (h13 p0 p1) (out13 r) (outh13 r) :=
  pure_gen good k (fn := Try.f13) (body := body13) (prim := q13) (D := D13) (cuts := [4]) (h := h13 p0 p1) (own := false) (by kernel_rfl) (by kernel_rfl) (by decide +kernel) pok hk13 (by
    rw [s13]
    have ih := e13 p0 p1 k
    simp only [ih]
    exact h)
def F13 {R : Type} (spec : (List (ByteArray)) → (List (ByteArray)) → Option R13) : Fn U R := fun args h k => match args, h with | [.imm 9 p0, .imm 9 p1], [] => (spec p0 p1).bind fun r => k (out13 r) (outh13 r) | _, _ => none
theorem ok13 {R : Type} (spec : (List (ByteArray)) → (List (ByteArray)) → Option R13) (hp : ∀ (p0 : List (ByteArray)) (p1 : List (ByteArray)) (r : R13), spec p0 p1 = some r → PureH TP X 13 [.imm 9 p0, .imm 9 p1] (h13 p0 p1) (out13 r) (outh13 r)) : FnOK TP X 13 (F13 spec : Fn U R) := by
  intro args h k r hh
  unfold F13 at hh
  split at hh
  · obtain ⟨x, h1, h2⟩ := Option.bind_eq_some_iff.1 hh
    exact ⟨_, _, h2, hp _ _ _ h1⟩
  · cases hh
theorem pok13 : PrmOK TP X q13 := prims_nil TP X mixed
noncomputable def S13 (p0 p1 : List (ByteArray)) : Option R13 := evv fun k => f13 k p0 p1
theorem okS13 {R : Type} : FnOK TP X 13 (F13 S13 : Fn U R) := ok13 S13 fun p0 p1 r h => by
  obtain ⟨k, hk⟩ := evv_fuel h
  exact pure13 p0 p1 pok13 k r hk
end
end Go.Abs.Z
namespace Go.Abs.Z
open Go Go.Abs Go.Proofs
noncomputable section
abbrev R8 : Type := (Int)
noncomputable def body8 : Go.Code := (Try.f8.body).getD Go.Code.skip
def h8 (p0 : Int) : List (AO U) := []
def k8 : AV U → List (AO U) → Option R8 := fun v h => match v, h with | AV.int IntKind.i64 x0, [] => some x0 | _, _ => none
def out8 : R8 → AV U := fun x0 => AV.int IntKind.i64 x0
def outh8 : R8 → List (AO U) := fun x0 => []
def D8 : Nat → Dir := dirs []
def b8 (p0 : Int)   : Option R8 :=
  some (p0)
theorem hk8 : ∀ v h' r, k8 v h' = some r → v = out8 r ∧ h' = outh8 r := by
  intro v h' r h
  unfold k8 at h
  split at h
  · injection h with h; subst h; exact ⟨rfl, rfl⟩
  · cases h
abbrev q8 : Prim U R8 := prims X []
theorem s8 (c : Nat → S U → Option R8) (p0 : Int) : seg TP X q8 [] (fun q st => c q (keepD D8 (h8 p0).length q st)) body8 (finH TP Try.f8.results.toList (h8 p0).length false k8) (start [.int .i64 p0] Try.f8.ntmps (h8 p0)) = b8 p0  := by kernel_rfl
def f8 (_ : Nat) (p0 : Int) : Option R8 := b8 p0
theorem pure8 (p0 : Int) (pok : PrmOK TP X q8) (k : Nat) (r : R8) (h : f8 k p0 = some r) : PureH TP X 8 [.int .i64 p0] (h8 p0) (out8 r) (outh8 r) :=
  pure_gen good 0 (fn := Try.f8) (body := body8) (prim := q8) (D := D8) (cuts := []) (h := h8 p0) (own := false) (by kernel_rfl) (by kernel_rfl) (by decide +kernel) pok hk8 (by
    rw [s8]
    exact h)
def F8 {R : Type} (spec : (Int) → Option R8) : Fn U R := fun args h k => match args, h with | [.int .i64 p0], [] => (spec p0).bind fun r => k (out8 r) (outh8 r) | _, _ => none
theorem ok8 {R : Type} (spec : (Int) → Option R8) (hp : ∀ (p0 : Int) (r : R8), spec p0 = some r → PureH TP X 8 [.int .i64 p0] (h8 p0) (out8 r) (outh8 r)) : FnOK TP X 8 (F8 spec : Fn U R) := by
  intro args h k r hh
  unfold F8 at hh
  split at hh
  · obtain ⟨x, h1, h2⟩ := Option.bind_eq_some_iff.1 hh
    exact ⟨_, _, h2, hp _ _ h1⟩
  · cases hh
theorem pok8 : PrmOK TP X q8 := prims_nil TP X mixed
noncomputable def S8 (p0 : Int) : Option R8 := evv fun k => f8 k p0
theorem okS8 {R : Type} : FnOK TP X 8 (F8 S8 : Fn U R) := ok8 S8 fun p0 r h => by
  obtain ⟨k, hk⟩ := evv_fuel h
  exact pure8 p0 pok8 k r hk
end
end Go.Abs.Z
namespace Go.Abs.Z
open Go Go.Abs Go.Proofs
noncomputable section
abbrev R4 : Type := (Bool)
noncomputable def body4 : Go.Code := (Try.f4.body).getD Go.Code.skip
def h4 (p0 : ByteArray) : List (AO U) := []
def k4 : AV U → List (AO U) → Option R4 := fun v h => match v, h with | AV.bool x0, [] => some x0 | _, _ => none
def out4 : R4 → AV U := fun x0 => AV.bool x0
def outh4 : R4 → List (AO U) := fun x0 => []
def D4 : Nat → Dir := dirs []
def b4 (p0 : ByteArray)   : Option R4 :=
  (S11 p0).bind fun r0 =>
  (S12 p0).bind fun r1 =>
  (S8 r0.snd.snd).bind fun r2 =>
  cond (r2 == r1.snd.snd)
  (cond (r0.snd.fst == r1.snd.fst)
  ((S13 r0.fst r1.fst).bind fun r3 =>
  some (r3))
  (some (false)))
  (some (false))
theorem hk4 : ∀ v h' r, k4 v h' = some r → v = out4 r ∧ h' = outh4 r := by
  intro v h' r h
  unfold k4 at h
  split at h
  · injection h with h; subst h; exact ⟨rfl, rfl⟩
  · cases h
abbrev q4 : Prim U R4 := prims X [⟨11, fun _ => true, [.lend], F11 S11⟩, ⟨12, fun _ => true, [.lend], F12 S12⟩, ⟨8, fun _ => true, [.lend], F8 S8⟩, ⟨13, fun _ => true, [.lend, .lend], F13 S13⟩]
theorem s4 (c : Nat → S U → Option R4) (p0 : ByteArray) : seg TP X q4 [] (fun q st => c q (keepD D4 (h4 p0).length q st)) body4 (finH TP Try.f4.results.toList (h4 p0).length false k4) (start [.str p0] Try.f4.ntmps (h4 p0)) = b4 p0  := by kernel_rfl
def f4 (_ : Nat) (p0 : ByteArray) : Option R4 := b4 p0
theorem pure4 (p0 : ByteArray) (pok : PrmOK TP X q4) (k : Nat) (r : R4) (h : f4 k p0 = some r) : PureH TP X 4 [.str p0] (h4 p0) (out4 r) (outh4 r) :=
  pure_gen good 0 (fn := Try.f4) (body := body4) (prim := q4) (D := D4) (cuts := []) (h := h4 p0) (own := false) (by kernel_rfl) (by kernel_rfl) (by decide +kernel) pok hk4 (by
    rw [s4]
    exact h)
def F4 {R : Type} (spec : (ByteArray) → Option R4) : Fn U R := fun args h k => match args, h with | [.str p0], [] => (spec p0).bind fun r => k (out4 r) (outh4 r) | _, _ => none
theorem ok4 {R : Type} (spec : (ByteArray) → Option R4) (hp : ∀ (p0 : ByteArray) (r : R4), spec p0 = some r → PureH TP X 4 [.str p0] (h4 p0) (out4 r) (outh4 r)) : FnOK TP X 4 (F4 spec : Fn U R) := by
  intro args h k r hh
  unfold F4 at hh
  split at hh
  · obtain ⟨x, h1, h2⟩ := Option.bind_eq_some_iff.1 hh
    exact ⟨_, _, h2, hp _ _ h1⟩
  · cases hh
theorem pok4 : PrmOK TP X q4 := prims_cons good okS11 (prims_cons good okS12 (prims_cons good okS8 (prims_cons good okS13 (prims_nil TP X mixed))))
noncomputable def S4 (p0 : ByteArray) : Option R4 := evv fun k => f4 k p0
theorem okS4 {R : Type} : FnOK TP X 4 (F4 S4 : Fn U R) := ok4 S4 fun p0 r h => by
  obtain ⟨k, hk⟩ := evv_fuel h
  exact pure4 p0 pok4 k r hk
end
end Go.Abs.Z
namespace Go.Abs.Z
open Go Go.Abs Limb Num
def tx (t : TokT) : ByteArray := t.2.1
theorem tx_take {l : List TokT} {j : Nat} (hj : j < l.length) (d : TokT) : (l.take j).map tx ++ [(l.getD j d).2.1] = (l.take (j + 1)).map tx := by
  rw [List.take_add_one, List.map_append, List.getElem?_eq_getElem hj, List.getD_eq_getElem?_getD, List.getElem?_eq_getElem hj]
  rfl
theorem loop11 {s : ByteArray} {l : List TokT} (hl : l.length ≤ 16384) : ∀ m j : Nat, j + m = l.length → Evt (fun k => f11_6 s k l (l.length : Int) (j : Int) ((l.take j).map tx)) (l.map tx, 0, 0)
  | 0, j, h => Evt.last fun k => by
    show b11_6 s (f11_6 s k) l (l.length : Int) (j : Int) _ = _
    unfold b11_6
    rw [cF (by omega), List.take_of_length_le (by omega)]
  | m + 1, j, h => by
    refine Evt.step (loop11 (s := s) hl m (j + 1) (by omega)) fun k => ?_
    show b11_6 s (f11_6 s k) l (l.length : Int) (j : Int) _ = _
    unfold b11_6
    have w1 : IntKind.i64.wrap ((j : Int) + 1) = ((j + 1 : Nat) : Int) := by rw [wi64] <;> omega
    have hb : (((l.take j).map tx).length + 1) * 16 ≤ 140737488355328 := by rw [List.length_map, List.length_take]; omega
    rw [w1, Int.toNat_natCast, cT (by omega), cT (by omega), cT (by omega), cT (by omega), cT hb]
    exact congrArg (f11_6 s k l (l.length : Int) ((j + 1 : Nat) : Int)) (tx_take (show j < l.length by omega) (X.dflt 90))
theorem loop12 {s : ByteArray} {l : List TokT} (hl : l.length ≤ 16384) : ∀ m j : Nat, j + m = l.length → Evt (fun k => f12_6 s k l (j : Int) ((l.take j).map tx)) (l.map tx, 0, 0)
  | 0, j, h => Evt.last fun k => by
    show b12_6 s (f12_6 s k) l (j : Int) _ = _
    unfold b12_6
    rw [cF (by omega), List.take_of_length_le (by omega)]
  | m + 1, j, h => by
    refine Evt.step (loop12 (s := s) hl m (j + 1) (by omega)) fun k => ?_
    show b12_6 s (f12_6 s k) l (j : Int) _ = _
    unfold b12_6
    have w1 : IntKind.i64.wrap ((j : Int) + 1) = ((j + 1 : Nat) : Int) := by rw [wi64] <;> omega
    have hb : (((l.take j).map tx).length + 1) * 16 ≤ 140737488355328 := by rw [List.length_map, List.length_take]; omega
    rw [w1, Int.toNat_natCast, cT (by omega), cT (by omega), cT (by omega), cT (by omega), cT hb]
    exact congrArg (f12_6 s k l ((j + 1 : Nat) : Int)) (tx_take (show j < l.length by omega) (X.dflt 95))
theorem run13 {l : List ByteArray} (hl : l.length ≤ 16384) : S13 l l = some true := by
  have main : ∀ m j : Nat, j + m = l.length → Evt (fun k => f13_4 l l k (j : Int)) true := by
    intro m
    induction m with
    | zero =>
      intro j h
      refine Evt.last fun k => ?_
      show b13_4 l l (f13_4 l l k) (j : Int) = _
      unfold b13_4
      rw [cF (by omega)]
    | succ m ih =>
      intro j h
      refine Evt.step (ih (j + 1) (by omega)) fun k => ?_
      show b13_4 l l (f13_4 l l k) (j : Int) = _
      unfold b13_4
      have w1 : IntKind.i64.wrap ((j : Int) + 1) = ((j + 1 : Nat) : Int) := by rw [wi64] <;> omega
      rw [w1, Int.toNat_natCast, cT (by omega), cT (by omega), cT (by omega), cT (by omega), cT (by omega), cT (by omega), cT (by omega), beq_self_eq_true]
      rfl
  refine evv_eq ((main l.length 0 (by omega)).same fun k => ?_)
  show b13 l l (f13_4 l l k) = _
  unfold b13
  rw [bneF rfl]
  rfl
theorem run8 (x : Int) : S8 x = some x := evv_eq (Evt.now fun k => rfl)
theorem run4 (s : ByteArray) : S4 s = some true := by
  obtain ⟨⟨lp, a, e⟩, ⟨lr, a', e'⟩, h1, h2, h3, h4, h5⟩ := cut_all s
  injection h3 with ha he
  dsimp only at ha he h4 h5
  subst ha; subst he
  have hl := pt_len h4
  have hm : lp.map tx = lr.map tx := by
    have := congrArg (List.map Prod.fst) h4
    rwa [List.map_map, List.map_map] at this
  have key : ∃ t b, S11 s = some (t, b, e) ∧ S12 s = some (t, b, e) ∧ t.length ≤ 16384 := by
    by_cases h0 : e = 0
    · subst h0
      refine ⟨lp.map tx, 0, evv_eq ((loop11 (s := s) h5 lp.length 0 (by omega)).same fun k => ?_), evv_eq ?_, by rw [List.length_map]; exact h5⟩
      · show b11 s (f11_6 s k) = _
        unfold b11
        rw [h1]
        rfl
      · rw [hm]
        refine (loop12 (s := s) (l := lr) (by omega) lr.length 0 (by omega)).same fun k => ?_
        show b12 s (f12_6 s k) = _
        unfold b12
        rw [h2]
        rfl
    · refine ⟨[], a, evv_eq (Evt.now fun k => ?_), evv_eq (Evt.now fun k => ?_), by show 0 ≤ _; omega⟩
      · show b11 s (f11_6 s k) = _
        unfold b11
        rw [h1]
        simp only [Option.bind_some]
        rw [bneT h0]
      · show b12 s (f12_6 s k) = _
        unfold b12
        rw [h2]
        simp only [Option.bind_some]
        rw [bneT h0]
  obtain ⟨t, b, g1, g2, g3⟩ := key
  refine evv_eq (Evt.now fun k => ?_)
  show b4 s = _
  unfold b4
  rw [g1, g2]
  simp only [Option.bind_some]
  rw [run8]
  simp only [Option.bind_some]
  rw [cE rfl, cE rfl, run13 g3]
  rfl
end Go.Abs.Z
