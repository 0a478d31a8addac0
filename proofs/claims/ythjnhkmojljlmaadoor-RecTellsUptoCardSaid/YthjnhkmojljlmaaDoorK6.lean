/- Parts of the proof: Pf4, Pf3, MD7, MD8, AbsRead. -/
import Derived.Test.YthjnhkmojljlmaaDoorK5
import Derived.ChangeArms
set_option linter.unusedVariables false
namespace Go.Abs.Z
open Go Go.Abs Go.Proofs
noncomputable section
abbrev R4 : Type := (List (ByteArray)) × (List TFn) × (List TLt) × TI × (List TNd) × Int × (Int)
noncomputable def body4 : Go.Code := (Tryd.f4.body).getD Go.Code.skip
def h4 (p0 : Int) (p1 : List TOp) (p2 : TI) : List (AO U) := []
def k4 : AV U → List (AO U) → Option R4 := fun v h => match v, h with | AV.tup [AV.agg [AV.imm 9 x0, AV.imm 86 x1, AV.imm 75 x2, AV.imm 3 x3, AV.imm 73 x4], AV.int IntKind.i64 x5, AV.int IntKind.i64 x6], [] => some (x0, x1, x2, x3, x4, x5, x6) | _, _ => none
def out4 : R4 → AV U := fun (x0, x1, x2, x3, x4, x5, x6) => AV.tup [AV.agg [AV.imm 9 x0, AV.imm 86 x1, AV.imm 75 x2, AV.imm 3 x3, AV.imm 73 x4], AV.int IntKind.i64 x5, AV.int IntKind.i64 x6]
def outh4 : R4 → List (AO U) := fun (x0, x1, x2, x3, x4, x5, x6) => []
def D4 : Nat → Dir := dirs [(6, ⟨[1, 2, 7, 29, 30], [(7, some 3)], [], []⟩), (11, ⟨[1, 2, 7, 49, 50, 51], [(7, some 7), (7, some 6), (7, some 5), (7, some 4), (7, some 3)], [], []⟩), (21, ⟨[2, 7, 112, 113, 114], [(7, some 7), (7, some 6), (7, some 5), (7, some 4), (7, some 3)], [], []⟩), (15, ⟨[1, 2, 7, 9, 10, 11, 49, 50, 51], [], [], []⟩), (17, ⟨[1, 2, 7, 9, 10, 11, 49, 50, 51], [], [], []⟩), (18, ⟨[1, 2, 7, 9, 12, 49, 50, 51], [], [], []⟩)]
def b4 (p0 : Int) (p1 : List TOp) (p2 : TI) (c6 : (Int) → (List (ByteArray)) → Option R4) (c15 c17 : (Int) → Int → (Int) → (List TOp) → TI → Int → (Int) → Int → (Int) → (Bool) → TI → TI → TI → (List (ByteArray)) → (List TFn) → (List TLt) → TI → (List TNd) → Option R4) (c18 : (Int) → Int → (Int) → Int → (List TOp) → TI → (List (ByteArray)) → (List TFn) → (List TLt) → TI → (List TNd) → Option R4) (c11 c21 : (Int) → Int → (List TOp) → TI → (List (ByteArray)) → (List TFn) → (List TLt) → TI → (List TNd) → Option R4)  : Option R4 :=
  (S10 p0 p1 p2).bind fun r0 =>
  cond (r0.snd != 0)
  (some (([], [], [], [], [], r0.fst, r0.snd)))
  (c6 (0) ([]))
def m4_6 (p0 : Int) (p1 : List TOp) (p2 : TI) (v1 : Int) (v8 : List (ByteArray)) : S U := S.mk [AV.undef, AV.ptr 0 0, AV.ptr 1 0, AV.undef, AV.undef, AV.undef, AV.undef, AV.ptr 2 0, AV.undef, AV.undef, AV.undef, AV.undef, AV.undef, AV.undef, AV.undef, AV.undef, AV.undef, AV.undef, AV.undef, AV.undef, AV.undef, AV.undef, AV.undef, AV.undef, AV.undef, AV.undef, AV.undef, AV.undef, AV.undef, AV.int IntKind.i64 p0, AV.int IntKind.i64 v1, AV.undef, AV.undef, AV.undef, AV.undef, AV.undef, AV.undef, AV.undef, AV.undef, AV.undef, AV.undef, AV.undef, AV.undef, AV.undef, AV.undef, AV.undef, AV.undef, AV.undef, AV.undef, AV.undef, AV.undef, AV.undef, AV.undef, AV.undef, AV.undef, AV.undef, AV.undef, AV.undef, AV.undef, AV.undef, AV.undef, AV.undef, AV.undef, AV.undef, AV.undef, AV.undef, AV.undef, AV.undef, AV.undef, AV.undef, AV.undef, AV.undef, AV.undef, AV.undef, AV.undef, AV.undef, AV.undef, AV.undef, AV.undef, AV.undef, AV.undef, AV.undef, AV.undef, AV.undef, AV.undef, AV.undef, AV.undef, AV.undef, AV.undef, AV.undef, AV.undef, AV.undef, AV.undef, AV.undef, AV.undef, AV.undef, AV.undef, AV.undef, AV.undef, AV.undef, AV.undef, AV.undef, AV.undef, AV.undef, AV.undef, AV.undef, AV.undef, AV.undef, AV.undef, AV.undef, AV.undef, AV.undef, AV.undef, AV.undef, AV.undef, AV.undef, AV.undef, AV.undef, AV.undef, AV.undef, AV.undef, AV.undef, AV.undef, AV.undef, AV.undef, AV.undef, AV.undef, AV.undef, AV.undef, AV.undef, AV.undef, AV.undef, AV.undef, AV.undef, AV.undef, AV.undef, AV.undef, AV.undef, AV.undef, AV.undef, AV.undef, AV.undef, AV.undef, AV.undef, AV.undef] [AO.box [AV.int IntKind.i64 p0, AV.imm 67 p1, AV.imm 3 p2], AO.box [AV.nils 9, AV.nils 86, AV.nils 75, AV.nils 3, AV.nils 73], AO.box [AV.int IntKind.i64 p0, AV.imm 67 p1, AV.imm 3 p2, AV.row 3 9, AV.nils 86, AV.nils 75, AV.nils 3, AV.nils 73], AO.row 9 v8]
def b4_6 (p0 : Int) (p1 : List TOp) (p2 : TI) (c6 : (Int) → (List (ByteArray)) → Option R4) (c15 c17 : (Int) → Int → (Int) → (List TOp) → TI → Int → (Int) → Int → (Int) → (Bool) → TI → TI → TI → (List (ByteArray)) → (List TFn) → (List TLt) → TI → (List TNd) → Option R4) (c18 : (Int) → Int → (Int) → Int → (List TOp) → TI → (List (ByteArray)) → (List TFn) → (List TLt) → TI → (List TNd) → Option R4) (c11 c21 : (Int) → Int → (List TOp) → TI → (List (ByteArray)) → (List TFn) → (List TLt) → TI → (List TNd) → Option R4) (v1 : Int) (v8 : List (ByteArray)) : Option R4 :=
  cond (decide (v1 < p0))
  ((S11 v1).bind fun r0 =>
  cond (decide ((ByteArray.mk #[120]).size + ByteArray.size r0 ≤ 4611686018427387904))
  (cond (decide ((v8.length + 1) * 16 ≤ 140737488355328))
  (c6 (IntKind.i64.wrap (v1 + 1)) (v8 ++ [ByteArray.mk #[120] ++ r0]))
  (none))
  (none))
  (c11 (0) (p0) (p1) (p2) (v8) ([]) ([]) ([]) ([]))
def m4_15 (p0 : Int) (p1 : List TOp) (p2 : TI) (v0 v3 v7 : Int) (v8 : List TOp) (v9 : TI) (v10 v11 v12 v13 : Int) (v14 : Bool) (v15 v16 v17 : TI) (v18 : List (ByteArray)) (v19 : List TFn) (v20 : List TLt) (v21 : TI) (v22 : List TNd) : S U := S.mk [AV.undef, AV.ptr 0 0, AV.ptr 1 0, AV.undef, AV.undef, AV.undef, AV.undef, AV.ptr 2 0, AV.undef, AV.int IntKind.i64 v0, AV.ptr 3 0, AV.row 4 3, AV.undef, AV.undef, AV.undef, AV.undef, AV.undef, AV.undef, AV.undef, AV.undef, AV.undef, AV.undef, AV.undef, AV.undef, AV.undef, AV.undef, AV.undef, AV.undef, AV.undef, AV.undef, AV.undef, AV.undef, AV.undef, AV.undef, AV.undef, AV.undef, AV.undef, AV.undef, AV.undef, AV.undef, AV.undef, AV.undef, AV.undef, AV.undef, AV.undef, AV.undef, AV.undef, AV.undef, AV.undef, AV.imm 67 p1, AV.int IntKind.i64 (↑p1.length : Int), AV.int IntKind.i64 v3, AV.undef, AV.undef, AV.undef, AV.undef, AV.undef, AV.undef, AV.undef, AV.undef, AV.undef, AV.undef, AV.undef, AV.undef, AV.undef, AV.undef, AV.undef, AV.undef, AV.undef, AV.undef, AV.undef, AV.undef, AV.undef, AV.undef, AV.undef, AV.undef, AV.undef, AV.undef, AV.undef, AV.undef, AV.undef, AV.undef, AV.undef, AV.undef, AV.undef, AV.undef, AV.undef, AV.undef, AV.undef, AV.undef, AV.undef, AV.undef, AV.undef, AV.undef, AV.undef, AV.undef, AV.undef, AV.undef, AV.undef, AV.undef, AV.undef, AV.undef, AV.undef, AV.undef, AV.undef, AV.undef, AV.undef, AV.undef, AV.undef, AV.undef, AV.undef, AV.undef, AV.undef, AV.undef, AV.undef, AV.undef, AV.undef, AV.undef, AV.undef, AV.undef, AV.undef, AV.undef, AV.undef, AV.undef, AV.undef, AV.undef, AV.undef, AV.undef, AV.undef, AV.undef, AV.undef, AV.undef, AV.undef, AV.undef, AV.undef, AV.undef, AV.undef, AV.undef, AV.undef, AV.undef, AV.undef, AV.undef, AV.undef, AV.undef, AV.undef] [AO.box [AV.int IntKind.i64 p0, AV.imm 67 p1, AV.imm 3 p2], AO.box [AV.nils 9, AV.nils 86, AV.nils 75, AV.nils 3, AV.nils 73], AO.box [AV.int IntKind.i64 v7, AV.imm 67 v8, AV.imm 3 v9, AV.row 5 9, AV.row 6 86, AV.row 7 75, AV.row 8 3, AV.row 9 73], AO.box [AV.int IntKind.i64 v10, AV.int IntKind.i64 v11, AV.int IntKind.i64 v12, AV.int IntKind.i64 v13, AV.bool v14, AV.imm 99 v15, AV.imm 99 v16], AO.row 3 v17, AO.row 9 v18, AO.row 86 v19, AO.row 75 v20, AO.row 3 v21, AO.row 73 v22]
def b4_15 (p0 : Int) (p1 : List TOp) (p2 : TI) (c6 : (Int) → (List (ByteArray)) → Option R4) (c15 c17 : (Int) → Int → (Int) → (List TOp) → TI → Int → (Int) → Int → (Int) → (Bool) → TI → TI → TI → (List (ByteArray)) → (List TFn) → (List TLt) → TI → (List TNd) → Option R4) (c18 : (Int) → Int → (Int) → Int → (List TOp) → TI → (List (ByteArray)) → (List TFn) → (List TLt) → TI → (List TNd) → Option R4) (c11 c21 : (Int) → Int → (List TOp) → TI → (List (ByteArray)) → (List TFn) → (List TLt) → TI → (List TNd) → Option R4) (v0 v3 v7 : Int) (v8 : List TOp) (v9 : TI) (v10 v11 v12 v13 : Int) (v14 : Bool) (v15 v16 v17 : TI) (v18 : List (ByteArray)) (v19 : List TFn) (v20 : List TLt) (v21 : TI) (v22 : List TNd) : Option R4 :=
  cond (v10 != 7)
  (cond (v10 != 8)
  ((S12 v7 v8 v9 v18 v19 v20 v21 v22 v12).bind fun r0 =>
  cond (decide ((v17.length + 1) * 8 ≤ 140737488355328))
  (c17 (v0) (v3) (r0.snd.fst) (r0.snd.snd.fst) (r0.snd.snd.snd.fst) (v10) (v11) (v12) (v13) (v14) (v15) (v16) (v17 ++ [r0.fst]) (r0.snd.snd.snd.snd.fst) (r0.snd.snd.snd.snd.snd.fst) (r0.snd.snd.snd.snd.snd.snd.fst) (r0.snd.snd.snd.snd.snd.snd.snd.fst) (r0.snd.snd.snd.snd.snd.snd.snd.snd))
  (none))
  (c17 (v0) (v3) (v7) (v8) (v9) (v10) (v11) (v12) (v13) (v14) (v15) (v16) (v17) (v18) (v19) (v20) (v21) (v22)))
  (c17 (v0) (v3) (v7) (v8) (v9) (v10) (v11) (v12) (v13) (v14) (v15) (v16) (v17) (v18) (v19) (v20) (v21) (v22))
def m4_17 (p0 : Int) (p1 : List TOp) (p2 : TI) (v0 v3 v7 : Int) (v8 : List TOp) (v9 : TI) (v10 v11 v12 v13 : Int) (v14 : Bool) (v15 v16 v17 : TI) (v18 : List (ByteArray)) (v19 : List TFn) (v20 : List TLt) (v21 : TI) (v22 : List TNd) : S U := S.mk [AV.undef, AV.ptr 0 0, AV.ptr 1 0, AV.undef, AV.undef, AV.undef, AV.undef, AV.ptr 2 0, AV.undef, AV.int IntKind.i64 v0, AV.ptr 3 0, AV.row 4 3, AV.undef, AV.undef, AV.undef, AV.undef, AV.undef, AV.undef, AV.undef, AV.undef, AV.undef, AV.undef, AV.undef, AV.undef, AV.undef, AV.undef, AV.undef, AV.undef, AV.undef, AV.undef, AV.undef, AV.undef, AV.undef, AV.undef, AV.undef, AV.undef, AV.undef, AV.undef, AV.undef, AV.undef, AV.undef, AV.undef, AV.undef, AV.undef, AV.undef, AV.undef, AV.undef, AV.undef, AV.undef, AV.imm 67 p1, AV.int IntKind.i64 (↑p1.length : Int), AV.int IntKind.i64 v3, AV.undef, AV.undef, AV.undef, AV.undef, AV.undef, AV.undef, AV.undef, AV.undef, AV.undef, AV.undef, AV.undef, AV.undef, AV.undef, AV.undef, AV.undef, AV.undef, AV.undef, AV.undef, AV.undef, AV.undef, AV.undef, AV.undef, AV.undef, AV.undef, AV.undef, AV.undef, AV.undef, AV.undef, AV.undef, AV.undef, AV.undef, AV.undef, AV.undef, AV.undef, AV.undef, AV.undef, AV.undef, AV.undef, AV.undef, AV.undef, AV.undef, AV.undef, AV.undef, AV.undef, AV.undef, AV.undef, AV.undef, AV.undef, AV.undef, AV.undef, AV.undef, AV.undef, AV.undef, AV.undef, AV.undef, AV.undef, AV.undef, AV.undef, AV.undef, AV.undef, AV.undef, AV.undef, AV.undef, AV.undef, AV.undef, AV.undef, AV.undef, AV.undef, AV.undef, AV.undef, AV.undef, AV.undef, AV.undef, AV.undef, AV.undef, AV.undef, AV.undef, AV.undef, AV.undef, AV.undef, AV.undef, AV.undef, AV.undef, AV.undef, AV.undef, AV.undef, AV.undef, AV.undef, AV.undef, AV.undef, AV.undef, AV.undef, AV.undef] [AO.box [AV.int IntKind.i64 p0, AV.imm 67 p1, AV.imm 3 p2], AO.box [AV.nils 9, AV.nils 86, AV.nils 75, AV.nils 3, AV.nils 73], AO.box [AV.int IntKind.i64 v7, AV.imm 67 v8, AV.imm 3 v9, AV.row 5 9, AV.row 6 86, AV.row 7 75, AV.row 8 3, AV.row 9 73], AO.box [AV.int IntKind.i64 v10, AV.int IntKind.i64 v11, AV.int IntKind.i64 v12, AV.int IntKind.i64 v13, AV.bool v14, AV.imm 99 v15, AV.imm 99 v16], AO.row 3 v17, AO.row 9 v18, AO.row 86 v19, AO.row 75 v20, AO.row 3 v21, AO.row 73 v22]
def b4_17 (p0 : Int) (p1 : List TOp) (p2 : TI) (c6 : (Int) → (List (ByteArray)) → Option R4) (c15 c17 : (Int) → Int → (Int) → (List TOp) → TI → Int → (Int) → Int → (Int) → (Bool) → TI → TI → TI → (List (ByteArray)) → (List TFn) → (List TLt) → TI → (List TNd) → Option R4) (c18 : (Int) → Int → (Int) → Int → (List TOp) → TI → (List (ByteArray)) → (List TFn) → (List TLt) → TI → (List TNd) → Option R4) (c11 c21 : (Int) → Int → (List TOp) → TI → (List (ByteArray)) → (List TFn) → (List TLt) → TI → (List TNd) → Option R4) (v0 v3 v7 : Int) (v8 : List TOp) (v9 : TI) (v10 v11 v12 v13 : Int) (v14 : Bool) (v15 v16 v17 : TI) (v18 : List (ByteArray)) (v19 : List TFn) (v20 : List TLt) (v21 : TI) (v22 : List TNd) : Option R4 :=
  cond (decide (0 ≤ v10))
  (cond (decide (v10 < (↑9 : Int)))
  (cond (decide (v10.toNat < 9))
  ((S13 v7 v8 v9 v18 v19 v20 v21 v22 ([0, 0, 0, 4, 5, 6, 7, 3, 8].getD v10.toNat (X.dflt 70)) (ByteArray.mk #[]) false [] [] v13 v17).bind fun r0 =>
  c18 (v0) (r0.fst) (v3) (r0.snd.fst) (r0.snd.snd.fst) (r0.snd.snd.snd.fst) (r0.snd.snd.snd.snd.fst) (r0.snd.snd.snd.snd.snd.fst) (r0.snd.snd.snd.snd.snd.snd.fst) (r0.snd.snd.snd.snd.snd.snd.snd.fst) (r0.snd.snd.snd.snd.snd.snd.snd.snd))
  (none))
  (none))
  (none)
def m4_18 (p0 : Int) (p1 : List TOp) (p2 : TI) (v0 v1 v4 v8 : Int) (v9 : List TOp) (v10 : TI) (v11 : List (ByteArray)) (v12 : List TFn) (v13 : List TLt) (v14 : TI) (v15 : List TNd) : S U := S.mk [AV.undef, AV.ptr 0 0, AV.ptr 1 0, AV.undef, AV.undef, AV.undef, AV.undef, AV.ptr 2 0, AV.undef, AV.int IntKind.i64 v0, AV.undef, AV.undef, AV.int IntKind.i64 v1, AV.undef, AV.undef, AV.undef, AV.undef, AV.undef, AV.undef, AV.undef, AV.undef, AV.undef, AV.undef, AV.undef, AV.undef, AV.undef, AV.undef, AV.undef, AV.undef, AV.undef, AV.undef, AV.undef, AV.undef, AV.undef, AV.undef, AV.undef, AV.undef, AV.undef, AV.undef, AV.undef, AV.undef, AV.undef, AV.undef, AV.undef, AV.undef, AV.undef, AV.undef, AV.undef, AV.undef, AV.imm 67 p1, AV.int IntKind.i64 (↑p1.length : Int), AV.int IntKind.i64 v4, AV.undef, AV.undef, AV.undef, AV.undef, AV.undef, AV.undef, AV.undef, AV.undef, AV.undef, AV.undef, AV.undef, AV.undef, AV.undef, AV.undef, AV.undef, AV.undef, AV.undef, AV.undef, AV.undef, AV.undef, AV.undef, AV.undef, AV.undef, AV.undef, AV.undef, AV.undef, AV.undef, AV.undef, AV.undef, AV.undef, AV.undef, AV.undef, AV.undef, AV.undef, AV.undef, AV.undef, AV.undef, AV.undef, AV.undef, AV.undef, AV.undef, AV.undef, AV.undef, AV.undef, AV.undef, AV.undef, AV.undef, AV.undef, AV.undef, AV.undef, AV.undef, AV.undef, AV.undef, AV.undef, AV.undef, AV.undef, AV.undef, AV.undef, AV.undef, AV.undef, AV.undef, AV.undef, AV.undef, AV.undef, AV.undef, AV.undef, AV.undef, AV.undef, AV.undef, AV.undef, AV.undef, AV.undef, AV.undef, AV.undef, AV.undef, AV.undef, AV.undef, AV.undef, AV.undef, AV.undef, AV.undef, AV.undef, AV.undef, AV.undef, AV.undef, AV.undef, AV.undef, AV.undef, AV.undef, AV.undef, AV.undef, AV.undef, AV.undef] [AO.box [AV.int IntKind.i64 p0, AV.imm 67 p1, AV.imm 3 p2], AO.box [AV.nils 9, AV.nils 86, AV.nils 75, AV.nils 3, AV.nils 73], AO.box [AV.int IntKind.i64 v8, AV.imm 67 v9, AV.imm 3 v10, AV.row 3 9, AV.row 4 86, AV.row 5 75, AV.row 6 3, AV.row 7 73], AO.row 9 v11, AO.row 86 v12, AO.row 75 v13, AO.row 3 v14, AO.row 73 v15]
def b4_18 (p0 : Int) (p1 : List TOp) (p2 : TI) (c6 : (Int) → (List (ByteArray)) → Option R4) (c15 c17 : (Int) → Int → (Int) → (List TOp) → TI → Int → (Int) → Int → (Int) → (Bool) → TI → TI → TI → (List (ByteArray)) → (List TFn) → (List TLt) → TI → (List TNd) → Option R4) (c18 : (Int) → Int → (Int) → Int → (List TOp) → TI → (List (ByteArray)) → (List TFn) → (List TLt) → TI → (List TNd) → Option R4) (c11 c21 : (Int) → Int → (List TOp) → TI → (List (ByteArray)) → (List TFn) → (List TLt) → TI → (List TNd) → Option R4) (v0 v1 v4 v8 : Int) (v9 : List TOp) (v10 : TI) (v11 : List (ByteArray)) (v12 : List TFn) (v13 : List TLt) (v14 : TI) (v15 : List TNd) : Option R4 :=
  (S11 v0).bind fun r0 =>
  cond (decide ((ByteArray.mk #[110]).size + ByteArray.size r0 ≤ 4611686018427387904))
  (cond (decide ((v13.length + 1) * 24 ≤ 140737488355328))
  (c11 (IntKind.i64.wrap (v4 + 1)) (v8) (v9) (v10) (v11) (v12) (v13 ++ [(ByteArray.mk #[110] ++ r0, v1)]) (v14) (v15))
  (none))
  (none)
def m4_11 (p0 : Int) (p1 : List TOp) (p2 : TI) (v2 v6 : Int) (v7 : List TOp) (v8 : TI) (v9 : List (ByteArray)) (v10 : List TFn) (v11 : List TLt) (v12 : TI) (v13 : List TNd) : S U := S.mk [AV.undef, AV.ptr 0 0, AV.ptr 1 0, AV.undef, AV.undef, AV.undef, AV.undef, AV.ptr 2 0, AV.undef, AV.undef, AV.undef, AV.undef, AV.undef, AV.undef, AV.undef, AV.undef, AV.undef, AV.undef, AV.undef, AV.undef, AV.undef, AV.undef, AV.undef, AV.undef, AV.undef, AV.undef, AV.undef, AV.undef, AV.undef, AV.undef, AV.undef, AV.undef, AV.undef, AV.undef, AV.undef, AV.undef, AV.undef, AV.undef, AV.undef, AV.undef, AV.undef, AV.undef, AV.undef, AV.undef, AV.undef, AV.undef, AV.undef, AV.undef, AV.undef, AV.imm 67 p1, AV.int IntKind.i64 (↑p1.length : Int), AV.int IntKind.i64 v2, AV.undef, AV.undef, AV.undef, AV.undef, AV.undef, AV.undef, AV.undef, AV.undef, AV.undef, AV.undef, AV.undef, AV.undef, AV.undef, AV.undef, AV.undef, AV.undef, AV.undef, AV.undef, AV.undef, AV.undef, AV.undef, AV.undef, AV.undef, AV.undef, AV.undef, AV.undef, AV.undef, AV.undef, AV.undef, AV.undef, AV.undef, AV.undef, AV.undef, AV.undef, AV.undef, AV.undef, AV.undef, AV.undef, AV.undef, AV.undef, AV.undef, AV.undef, AV.undef, AV.undef, AV.undef, AV.undef, AV.undef, AV.undef, AV.undef, AV.undef, AV.undef, AV.undef, AV.undef, AV.undef, AV.undef, AV.undef, AV.undef, AV.undef, AV.undef, AV.undef, AV.undef, AV.undef, AV.undef, AV.undef, AV.undef, AV.undef, AV.undef, AV.undef, AV.undef, AV.undef, AV.undef, AV.undef, AV.undef, AV.undef, AV.undef, AV.undef, AV.undef, AV.undef, AV.undef, AV.undef, AV.undef, AV.undef, AV.undef, AV.undef, AV.undef, AV.undef, AV.undef, AV.undef, AV.undef, AV.undef, AV.undef, AV.undef, AV.undef] [AO.box [AV.int IntKind.i64 p0, AV.imm 67 p1, AV.imm 3 p2], AO.box [AV.nils 9, AV.nils 86, AV.nils 75, AV.nils 3, AV.nils 73], AO.box [AV.int IntKind.i64 v6, AV.imm 67 v7, AV.imm 3 v8, AV.row 3 9, AV.row 4 86, AV.row 5 75, AV.row 6 3, AV.row 7 73], AO.row 9 v9, AO.row 86 v10, AO.row 75 v11, AO.row 3 v12, AO.row 73 v13]
def b4_11 (p0 : Int) (p1 : List TOp) (p2 : TI) (c6 : (Int) → (List (ByteArray)) → Option R4) (c15 c17 : (Int) → Int → (Int) → (List TOp) → TI → Int → (Int) → Int → (Int) → (Bool) → TI → TI → TI → (List (ByteArray)) → (List TFn) → (List TLt) → TI → (List TNd) → Option R4) (c18 : (Int) → Int → (Int) → Int → (List TOp) → TI → (List (ByteArray)) → (List TFn) → (List TLt) → TI → (List TNd) → Option R4) (c11 c21 : (Int) → Int → (List TOp) → TI → (List (ByteArray)) → (List TFn) → (List TLt) → TI → (List TNd) → Option R4) (v2 v6 : Int) (v7 : List TOp) (v8 : TI) (v9 : List (ByteArray)) (v10 : List TFn) (v11 : List TLt) (v12 : TI) (v13 : List TNd) : Option R4 :=
  cond (decide (v2 < (↑p1.length : Int)))
  (cond (decide (0 ≤ v2))
  (cond (decide (v2 < (↑p1.length : Int)))
  (cond (decide (v2.toNat < p1.length))
  (cond ((p1.getD v2.toNat (X.dflt 67)).fst == 1)
  (c11 (IntKind.i64.wrap (v2 + 1)) (v6) (v7) (v8) (v9) (v10) (v11) (v12) (v13))
  (cond ((p1.getD v2.toNat (X.dflt 67)).fst == 2)
  (c11 (IntKind.i64.wrap (v2 + 1)) (v6) (v7) (v8) (v9) (v10) (v11) (v12) (v13))
  ((S12 v6 v7 v8 v9 v10 v11 v12 v13 (p1.getD v2.toNat (X.dflt 67)).snd.fst).bind fun r0 =>
  c15 (v2) (v2) (r0.snd.fst) (r0.snd.snd.fst) (r0.snd.snd.snd.fst) ((p1.getD v2.toNat (X.dflt 67)).fst) ((p1.getD v2.toNat (X.dflt 67)).snd.fst) ((p1.getD v2.toNat (X.dflt 67)).snd.snd.fst) ((p1.getD v2.toNat (X.dflt 67)).snd.snd.snd.fst) ((p1.getD v2.toNat (X.dflt 67)).snd.snd.snd.snd.fst) ((p1.getD v2.toNat (X.dflt 67)).snd.snd.snd.snd.snd.fst) ((p1.getD v2.toNat (X.dflt 67)).snd.snd.snd.snd.snd.snd) ([r0.fst]) (r0.snd.snd.snd.snd.fst) (r0.snd.snd.snd.snd.snd.fst) (r0.snd.snd.snd.snd.snd.snd.fst) (r0.snd.snd.snd.snd.snd.snd.snd.fst) (r0.snd.snd.snd.snd.snd.snd.snd.snd))))
  (none))
  (none))
  (none))
  (c21 (0) (v6) (v7) (v8) (v9) (v10) (v11) (v12) (v13))
def m4_21 (p0 : Int) (p1 : List TOp) (p2 : TI) (v2 v3 : Int) (v4 : List TOp) (v5 : TI) (v6 : List (ByteArray)) (v7 : List TFn) (v8 : List TLt) (v9 : TI) (v10 : List TNd) : S U := S.mk [AV.undef, AV.undef, AV.ptr 0 0, AV.undef, AV.undef, AV.undef, AV.undef, AV.ptr 1 0, AV.undef, AV.undef, AV.undef, AV.undef, AV.undef, AV.undef, AV.undef, AV.undef, AV.undef, AV.undef, AV.undef, AV.undef, AV.undef, AV.undef, AV.undef, AV.undef, AV.undef, AV.undef, AV.undef, AV.undef, AV.undef, AV.undef, AV.undef, AV.undef, AV.undef, AV.undef, AV.undef, AV.undef, AV.undef, AV.undef, AV.undef, AV.undef, AV.undef, AV.undef, AV.undef, AV.undef, AV.undef, AV.undef, AV.undef, AV.undef, AV.undef, AV.undef, AV.undef, AV.undef, AV.undef, AV.undef, AV.undef, AV.undef, AV.undef, AV.undef, AV.undef, AV.undef, AV.undef, AV.undef, AV.undef, AV.undef, AV.undef, AV.undef, AV.undef, AV.undef, AV.undef, AV.undef, AV.undef, AV.undef, AV.undef, AV.undef, AV.undef, AV.undef, AV.undef, AV.undef, AV.undef, AV.undef, AV.undef, AV.undef, AV.undef, AV.undef, AV.undef, AV.undef, AV.undef, AV.undef, AV.undef, AV.undef, AV.undef, AV.undef, AV.undef, AV.undef, AV.undef, AV.undef, AV.undef, AV.undef, AV.undef, AV.undef, AV.undef, AV.undef, AV.undef, AV.undef, AV.undef, AV.undef, AV.undef, AV.undef, AV.undef, AV.undef, AV.undef, AV.undef, AV.imm 3 p2, AV.int IntKind.i64 (↑p2.length : Int), AV.int IntKind.i64 v2, AV.undef, AV.undef, AV.undef, AV.undef, AV.undef, AV.undef, AV.undef, AV.undef, AV.undef, AV.undef, AV.undef, AV.undef, AV.undef, AV.undef, AV.undef, AV.undef, AV.undef, AV.undef, AV.undef, AV.undef, AV.undef, AV.undef, AV.undef, AV.undef, AV.undef, AV.undef, AV.undef, AV.undef, AV.undef, AV.undef] [AO.box [AV.nils 9, AV.nils 86, AV.nils 75, AV.nils 3, AV.nils 73], AO.box [AV.int IntKind.i64 v3, AV.imm 67 v4, AV.imm 3 v5, AV.row 2 9, AV.row 3 86, AV.row 4 75, AV.row 5 3, AV.row 6 73], AO.row 9 v6, AO.row 86 v7, AO.row 75 v8, AO.row 3 v9, AO.row 73 v10]
def b4_21 (p0 : Int) (p1 : List TOp) (p2 : TI) (c6 : (Int) → (List (ByteArray)) → Option R4) (c15 c17 : (Int) → Int → (Int) → (List TOp) → TI → Int → (Int) → Int → (Int) → (Bool) → TI → TI → TI → (List (ByteArray)) → (List TFn) → (List TLt) → TI → (List TNd) → Option R4) (c18 : (Int) → Int → (Int) → Int → (List TOp) → TI → (List (ByteArray)) → (List TFn) → (List TLt) → TI → (List TNd) → Option R4) (c11 c21 : (Int) → Int → (List TOp) → TI → (List (ByteArray)) → (List TFn) → (List TLt) → TI → (List TNd) → Option R4) (v2 v3 : Int) (v4 : List TOp) (v5 : TI) (v6 : List (ByteArray)) (v7 : List TFn) (v8 : List TLt) (v9 : TI) (v10 : List TNd) : Option R4 :=
  cond (decide (v2 < (↑p2.length : Int)))
  (cond (decide (0 ≤ v2))
  (cond (decide (v2 < (↑p2.length : Int)))
  (cond (decide (v2.toNat < p2.length))
  ((S12 v3 v4 v5 v6 v7 v8 v9 v10 (p2.getD v2.toNat (X.dflt 3))).bind fun r0 =>
  cond (decide ((r0.snd.snd.snd.snd.snd.snd.snd.fst.length + 1) * 8 ≤ 140737488355328))
  (c21 (IntKind.i64.wrap (v2 + 1)) (r0.snd.fst) (r0.snd.snd.fst) (r0.snd.snd.snd.fst) (r0.snd.snd.snd.snd.fst) (r0.snd.snd.snd.snd.snd.fst) (r0.snd.snd.snd.snd.snd.snd.fst) (r0.snd.snd.snd.snd.snd.snd.snd.fst ++ [r0.fst]) (r0.snd.snd.snd.snd.snd.snd.snd.snd))
  (none))
  (none))
  (none))
  (none))
  (cond (decide ((↑v10.length : Int) > 4096))
  (some (([], [], [], [], [], 0, 86)))
  (some ((v6, v7, v8, v9, v10, 0, 0))))
theorem hk4 : ∀ v h' r, k4 v h' = some r → v = out4 r ∧ h' = outh4 r := by
  intro v h' r h
  unfold k4 at h
  split at h
  · injection h with h; subst h; exact ⟨rfl, rfl⟩
  · cases h
abbrev q4 : Prim U R4 := prims X [⟨10, fun _ => true, [.lend], F10 S10⟩, ⟨11, fun _ => true, [.lend], F11 S11⟩, ⟨12, fun _ => true, [.hand, .lend], F12 S12⟩, ⟨13, fun _ => true, [.hand, .frz], F13 S13⟩]
theorem s4 (c : Nat → S U → Option R4) (p0 : Int) (p1 : List TOp) (p2 : TI) : seg TP X q4 [6, 11, 21, 15, 17, 18] (fun q st => c q (keepD D4 (h4 p0 p1 p2).length q st)) body4 (finH TP Tryd.f4.results.toList (h4 p0 p1 p2).length false k4) (start [.agg [.int .i64 p0, .imm 67 p1, .imm 3 p2]] Tryd.f4.ntmps (h4 p0 p1 p2)) = b4 p0 p1 p2 (fun v1 v8 => c 6 (m4_6 p0 p1 p2 v1 v8)) (fun v0 v3 v7 v8 v9 v10 v11 v12 v13 v14 v15 v16 v17 v18 v19 v20 v21 v22 => c 15 (m4_15 p0 p1 p2 v0 v3 v7 v8 v9 v10 v11 v12 v13 v14 v15 v16 v17 v18 v19 v20 v21 v22)) (fun v0 v3 v7 v8 v9 v10 v11 v12 v13 v14 v15 v16 v17 v18 v19 v20 v21 v22 => c 17 (m4_17 p0 p1 p2 v0 v3 v7 v8 v9 v10 v11 v12 v13 v14 v15 v16 v17 v18 v19 v20 v21 v22)) (fun v0 v1 v4 v8 v9 v10 v11 v12 v13 v14 v15 => c 18 (m4_18 p0 p1 p2 v0 v1 v4 v8 v9 v10 v11 v12 v13 v14 v15)) (fun v2 v6 v7 v8 v9 v10 v11 v12 v13 => c 11 (m4_11 p0 p1 p2 v2 v6 v7 v8 v9 v10 v11 v12 v13)) (fun v2 v3 v4 v5 v6 v7 v8 v9 v10 => c 21 (m4_21 p0 p1 p2 v2 v3 v4 v5 v6 v7 v8 v9 v10)) := by kernel_rfl
theorem s4_6 (c : Nat → S U → Option R4) (p0 : Int) (p1 : List TOp) (p2 : TI) (v1 : Int) (v8 : List (ByteArray)) : res TP X q4 [6, 11, 21, 15, 17, 18] (fun q st => c q (keepD D4 (h4 p0 p1 p2).length q st)) 6 body4 (finH TP Tryd.f4.results.toList (h4 p0 p1 p2).length false k4) (m4_6 p0 p1 p2 v1 v8) = b4_6 p0 p1 p2 (fun v1 v8 => c 6 (m4_6 p0 p1 p2 v1 v8)) (fun v0 v3 v7 v8 v9 v10 v11 v12 v13 v14 v15 v16 v17 v18 v19 v20 v21 v22 => c 15 (m4_15 p0 p1 p2 v0 v3 v7 v8 v9 v10 v11 v12 v13 v14 v15 v16 v17 v18 v19 v20 v21 v22)) (fun v0 v3 v7 v8 v9 v10 v11 v12 v13 v14 v15 v16 v17 v18 v19 v20 v21 v22 => c 17 (m4_17 p0 p1 p2 v0 v3 v7 v8 v9 v10 v11 v12 v13 v14 v15 v16 v17 v18 v19 v20 v21 v22)) (fun v0 v1 v4 v8 v9 v10 v11 v12 v13 v14 v15 => c 18 (m4_18 p0 p1 p2 v0 v1 v4 v8 v9 v10 v11 v12 v13 v14 v15)) (fun v2 v6 v7 v8 v9 v10 v11 v12 v13 => c 11 (m4_11 p0 p1 p2 v2 v6 v7 v8 v9 v10 v11 v12 v13)) (fun v2 v3 v4 v5 v6 v7 v8 v9 v10 => c 21 (m4_21 p0 p1 p2 v2 v3 v4 v5 v6 v7 v8 v9 v10)) v1 v8 := by kernel_rfl
theorem s4_15 (c : Nat → S U → Option R4) (p0 : Int) (p1 : List TOp) (p2 : TI) (v0 v3 v7 : Int) (v8 : List TOp) (v9 : TI) (v10 v11 v12 v13 : Int) (v14 : Bool) (v15 v16 v17 : TI) (v18 : List (ByteArray)) (v19 : List TFn) (v20 : List TLt) (v21 : TI) (v22 : List TNd) : res TP X q4 [6, 11, 21, 15, 17, 18] (fun q st => c q (keepD D4 (h4 p0 p1 p2).length q st)) 15 body4 (finH TP Tryd.f4.results.toList (h4 p0 p1 p2).length false k4) (m4_15 p0 p1 p2 v0 v3 v7 v8 v9 v10 v11 v12 v13 v14 v15 v16 v17 v18 v19 v20 v21 v22) = b4_15 p0 p1 p2 (fun v1 v8 => c 6 (m4_6 p0 p1 p2 v1 v8)) (fun v0 v3 v7 v8 v9 v10 v11 v12 v13 v14 v15 v16 v17 v18 v19 v20 v21 v22 => c 15 (m4_15 p0 p1 p2 v0 v3 v7 v8 v9 v10 v11 v12 v13 v14 v15 v16 v17 v18 v19 v20 v21 v22)) (fun v0 v3 v7 v8 v9 v10 v11 v12 v13 v14 v15 v16 v17 v18 v19 v20 v21 v22 => c 17 (m4_17 p0 p1 p2 v0 v3 v7 v8 v9 v10 v11 v12 v13 v14 v15 v16 v17 v18 v19 v20 v21 v22)) (fun v0 v1 v4 v8 v9 v10 v11 v12 v13 v14 v15 => c 18 (m4_18 p0 p1 p2 v0 v1 v4 v8 v9 v10 v11 v12 v13 v14 v15)) (fun v2 v6 v7 v8 v9 v10 v11 v12 v13 => c 11 (m4_11 p0 p1 p2 v2 v6 v7 v8 v9 v10 v11 v12 v13)) (fun v2 v3 v4 v5 v6 v7 v8 v9 v10 => c 21 (m4_21 p0 p1 p2 v2 v3 v4 v5 v6 v7 v8 v9 v10)) v0 v3 v7 v8 v9 v10 v11 v12 v13 v14 v15 v16 v17 v18 v19 v20 v21 v22 := by kernel_rfl
theorem s4_17 (c : Nat → S U → Option R4) (p0 : Int) (p1 : List TOp) (p2 : TI) (v0 v3 v7 : Int) (v8 : List TOp) (v9 : TI) (v10 v11 v12 v13 : Int) (v14 : Bool) (v15 v16 v17 : TI) (v18 : List (ByteArray)) (v19 : List TFn) (v20 : List TLt) (v21 : TI) (v22 : List TNd) : res TP X q4 [6, 11, 21, 15, 17, 18] (fun q st => c q (keepD D4 (h4 p0 p1 p2).length q st)) 17 body4 (finH TP Tryd.f4.results.toList (h4 p0 p1 p2).length false k4) (m4_17 p0 p1 p2 v0 v3 v7 v8 v9 v10 v11 v12 v13 v14 v15 v16 v17 v18 v19 v20 v21 v22) = b4_17 p0 p1 p2 (fun v1 v8 => c 6 (m4_6 p0 p1 p2 v1 v8)) (fun v0 v3 v7 v8 v9 v10 v11 v12 v13 v14 v15 v16 v17 v18 v19 v20 v21 v22 => c 15 (m4_15 p0 p1 p2 v0 v3 v7 v8 v9 v10 v11 v12 v13 v14 v15 v16 v17 v18 v19 v20 v21 v22)) (fun v0 v3 v7 v8 v9 v10 v11 v12 v13 v14 v15 v16 v17 v18 v19 v20 v21 v22 => c 17 (m4_17 p0 p1 p2 v0 v3 v7 v8 v9 v10 v11 v12 v13 v14 v15 v16 v17 v18 v19 v20 v21 v22)) (fun v0 v1 v4 v8 v9 v10 v11 v12 v13 v14 v15 => c 18 (m4_18 p0 p1 p2 v0 v1 v4 v8 v9 v10 v11 v12 v13 v14 v15)) (fun v2 v6 v7 v8 v9 v10 v11 v12 v13 => c 11 (m4_11 p0 p1 p2 v2 v6 v7 v8 v9 v10 v11 v12 v13)) (fun v2 v3 v4 v5 v6 v7 v8 v9 v10 => c 21 (m4_21 p0 p1 p2 v2 v3 v4 v5 v6 v7 v8 v9 v10)) v0 v3 v7 v8 v9 v10 v11 v12 v13 v14 v15 v16 v17 v18 v19 v20 v21 v22 := by kernel_rfl
theorem s4_18 (c : Nat → S U → Option R4) (p0 : Int) (p1 : List TOp) (p2 : TI) (v0 v1 v4 v8 : Int) (v9 : List TOp) (v10 : TI) (v11 : List (ByteArray)) (v12 : List TFn) (v13 : List TLt) (v14 : TI) (v15 : List TNd) : res TP X q4 [6, 11, 21, 15, 17, 18] (fun q st => c q (keepD D4 (h4 p0 p1 p2).length q st)) 18 body4 (finH TP Tryd.f4.results.toList (h4 p0 p1 p2).length false k4) (m4_18 p0 p1 p2 v0 v1 v4 v8 v9 v10 v11 v12 v13 v14 v15) = b4_18 p0 p1 p2 (fun v1 v8 => c 6 (m4_6 p0 p1 p2 v1 v8)) (fun v0 v3 v7 v8 v9 v10 v11 v12 v13 v14 v15 v16 v17 v18 v19 v20 v21 v22 => c 15 (m4_15 p0 p1 p2 v0 v3 v7 v8 v9 v10 v11 v12 v13 v14 v15 v16 v17 v18 v19 v20 v21 v22)) (fun v0 v3 v7 v8 v9 v10 v11 v12 v13 v14 v15 v16 v17 v18 v19 v20 v21 v22 => c 17 (m4_17 p0 p1 p2 v0 v3 v7 v8 v9 v10 v11 v12 v13 v14 v15 v16 v17 v18 v19 v20 v21 v22)) (fun v0 v1 v4 v8 v9 v10 v11 v12 v13 v14 v15 => c 18 (m4_18 p0 p1 p2 v0 v1 v4 v8 v9 v10 v11 v12 v13 v14 v15)) (fun v2 v6 v7 v8 v9 v10 v11 v12 v13 => c 11 (m4_11 p0 p1 p2 v2 v6 v7 v8 v9 v10 v11 v12 v13)) (fun v2 v3 v4 v5 v6 v7 v8 v9 v10 => c 21 (m4_21 p0 p1 p2 v2 v3 v4 v5 v6 v7 v8 v9 v10)) v0 v1 v4 v8 v9 v10 v11 v12 v13 v14 v15 := by kernel_rfl
theorem s4_11 (c : Nat → S U → Option R4) (p0 : Int) (p1 : List TOp) (p2 : TI) (v2 v6 : Int) (v7 : List TOp) (v8 : TI) (v9 : List (ByteArray)) (v10 : List TFn) (v11 : List TLt) (v12 : TI) (v13 : List TNd) : res TP X q4 [6, 11, 21, 15, 17, 18] (fun q st => c q (keepD D4 (h4 p0 p1 p2).length q st)) 11 body4 (finH TP Tryd.f4.results.toList (h4 p0 p1 p2).length false k4) (m4_11 p0 p1 p2 v2 v6 v7 v8 v9 v10 v11 v12 v13) = b4_11 p0 p1 p2 (fun v1 v8 => c 6 (m4_6 p0 p1 p2 v1 v8)) (fun v0 v3 v7 v8 v9 v10 v11 v12 v13 v14 v15 v16 v17 v18 v19 v20 v21 v22 => c 15 (m4_15 p0 p1 p2 v0 v3 v7 v8 v9 v10 v11 v12 v13 v14 v15 v16 v17 v18 v19 v20 v21 v22)) (fun v0 v3 v7 v8 v9 v10 v11 v12 v13 v14 v15 v16 v17 v18 v19 v20 v21 v22 => c 17 (m4_17 p0 p1 p2 v0 v3 v7 v8 v9 v10 v11 v12 v13 v14 v15 v16 v17 v18 v19 v20 v21 v22)) (fun v0 v1 v4 v8 v9 v10 v11 v12 v13 v14 v15 => c 18 (m4_18 p0 p1 p2 v0 v1 v4 v8 v9 v10 v11 v12 v13 v14 v15)) (fun v2 v6 v7 v8 v9 v10 v11 v12 v13 => c 11 (m4_11 p0 p1 p2 v2 v6 v7 v8 v9 v10 v11 v12 v13)) (fun v2 v3 v4 v5 v6 v7 v8 v9 v10 => c 21 (m4_21 p0 p1 p2 v2 v3 v4 v5 v6 v7 v8 v9 v10)) v2 v6 v7 v8 v9 v10 v11 v12 v13 := by kernel_rfl
theorem s4_21 (c : Nat → S U → Option R4) (p0 : Int) (p1 : List TOp) (p2 : TI) (v2 v3 : Int) (v4 : List TOp) (v5 : TI) (v6 : List (ByteArray)) (v7 : List TFn) (v8 : List TLt) (v9 : TI) (v10 : List TNd) : res TP X q4 [6, 11, 21, 15, 17, 18] (fun q st => c q (keepD D4 (h4 p0 p1 p2).length q st)) 21 body4 (finH TP Tryd.f4.results.toList (h4 p0 p1 p2).length false k4) (m4_21 p0 p1 p2 v2 v3 v4 v5 v6 v7 v8 v9 v10) = b4_21 p0 p1 p2 (fun v1 v8 => c 6 (m4_6 p0 p1 p2 v1 v8)) (fun v0 v3 v7 v8 v9 v10 v11 v12 v13 v14 v15 v16 v17 v18 v19 v20 v21 v22 => c 15 (m4_15 p0 p1 p2 v0 v3 v7 v8 v9 v10 v11 v12 v13 v14 v15 v16 v17 v18 v19 v20 v21 v22)) (fun v0 v3 v7 v8 v9 v10 v11 v12 v13 v14 v15 v16 v17 v18 v19 v20 v21 v22 => c 17 (m4_17 p0 p1 p2 v0 v3 v7 v8 v9 v10 v11 v12 v13 v14 v15 v16 v17 v18 v19 v20 v21 v22)) (fun v0 v1 v4 v8 v9 v10 v11 v12 v13 v14 v15 => c 18 (m4_18 p0 p1 p2 v0 v1 v4 v8 v9 v10 v11 v12 v13 v14 v15)) (fun v2 v6 v7 v8 v9 v10 v11 v12 v13 => c 11 (m4_11 p0 p1 p2 v2 v6 v7 v8 v9 v10 v11 v12 v13)) (fun v2 v3 v4 v5 v6 v7 v8 v9 v10 => c 21 (m4_21 p0 p1 p2 v2 v3 v4 v5 v6 v7 v8 v9 v10)) v2 v3 v4 v5 v6 v7 v8 v9 v10 := by kernel_rfl
mutual
def f4_6 (p0 : Int) (p1 : List TOp) (p2 : TI) : Nat → Int → (List (ByteArray)) → Option R4
  | 0 => fun _ _ => none
  | k + 1 => b4_6 p0 p1 p2 (f4_6 p0 p1 p2 k) (f4_15 p0 p1 p2 k) (f4_17 p0 p1 p2 k) (f4_18 p0 p1 p2 k) (f4_11 p0 p1 p2 k) (f4_21 p0 p1 p2 k)
def f4_15 (p0 : Int) (p1 : List TOp) (p2 : TI) : Nat → Int → (Int) → Int → (List TOp) → TI → Int → (Int) → Int → (Int) → (Bool) → TI → TI → TI → (List (ByteArray)) → (List TFn) → (List TLt) → TI → (List TNd) → Option R4
  | 0 => fun _ _ _ _ _ _ _ _ _ _ _ _ _ _ _ _ _ _ => none
  | k + 1 => b4_15 p0 p1 p2 (f4_6 p0 p1 p2 k) (f4_15 p0 p1 p2 k) (f4_17 p0 p1 p2 k) (f4_18 p0 p1 p2 k) (f4_11 p0 p1 p2 k) (f4_21 p0 p1 p2 k)
def f4_17 (p0 : Int) (p1 : List TOp) (p2 : TI) : Nat → Int → (Int) → Int → (List TOp) → TI → Int → (Int) → Int → (Int) → (Bool) → TI → TI → TI → (List (ByteArray)) → (List TFn) → (List TLt) → TI → (List TNd) → Option R4
  | 0 => fun _ _ _ _ _ _ _ _ _ _ _ _ _ _ _ _ _ _ => none
  | k + 1 => b4_17 p0 p1 p2 (f4_6 p0 p1 p2 k) (f4_15 p0 p1 p2 k) (f4_17 p0 p1 p2 k) (f4_18 p0 p1 p2 k) (f4_11 p0 p1 p2 k) (f4_21 p0 p1 p2 k)
def f4_18 (p0 : Int) (p1 : List TOp) (p2 : TI) : Nat → Int → (Int) → Int → (Int) → (List TOp) → TI → (List (ByteArray)) → (List TFn) → (List TLt) → TI → (List TNd) → Option R4
  | 0 => fun _ _ _ _ _ _ _ _ _ _ _ => none
  | k + 1 => b4_18 p0 p1 p2 (f4_6 p0 p1 p2 k) (f4_15 p0 p1 p2 k) (f4_17 p0 p1 p2 k) (f4_18 p0 p1 p2 k) (f4_11 p0 p1 p2 k) (f4_21 p0 p1 p2 k)
def f4_11 (p0 : Int) (p1 : List TOp) (p2 : TI) : Nat → Int → (Int) → (List TOp) → TI → (List (ByteArray)) → (List TFn) → (List TLt) → TI → (List TNd) → Option R4
  | 0 => fun _ _ _ _ _ _ _ _ _ => none
  | k + 1 => b4_11 p0 p1 p2 (f4_6 p0 p1 p2 k) (f4_15 p0 p1 p2 k) (f4_17 p0 p1 p2 k) (f4_18 p0 p1 p2 k) (f4_11 p0 p1 p2 k) (f4_21 p0 p1 p2 k)
def f4_21 (p0 : Int) (p1 : List TOp) (p2 : TI) : Nat → Int → (Int) → (List TOp) → TI → (List (ByteArray)) → (List TFn) → (List TLt) → TI → (List TNd) → Option R4
  | 0 => fun _ _ _ _ _ _ _ _ _ => none
  | k + 1 => b4_21 p0 p1 p2 (f4_6 p0 p1 p2 k) (f4_15 p0 p1 p2 k) (f4_17 p0 p1 p2 k) (f4_18 p0 p1 p2 k) (f4_11 p0 p1 p2 k) (f4_21 p0 p1 p2 k)
end
def f4 (k : Nat) (p0 : Int) (p1 : List TOp) (p2 : TI) : Option R4 := b4 p0 p1 p2 (f4_6 p0 p1 p2 k) (f4_15 p0 p1 p2 k) (f4_17 p0 p1 p2 k) (f4_18 p0 p1 p2 k) (f4_11 p0 p1 p2 k) (f4_21 p0 p1 p2 k)
theorem e4 (p0 : Int) (p1 : List TOp) (p2 : TI) : ∀ k, ((fun v1 v8 => cutG TP X q4 [6, 11, 21, 15, 17, 18] D4 (h4 p0 p1 p2).length body4 (finH TP Tryd.f4.results.toList (h4 p0 p1 p2).length false k4) k 6 (m4_6 p0 p1 p2 v1 v8)) = f4_6 p0 p1 p2 k) ∧ ((fun v0 v3 v7 v8 v9 v10 v11 v12 v13 v14 v15 v16 v17 v18 v19 v20 v21 v22 => cutG TP X q4 [6, 11, 21, 15, 17, 18] D4 (h4 p0 p1 p2).length body4 (finH TP Tryd.f4.results.toList (h4 p0 p1 p2).length false k4) k 15 (m4_15 p0 p1 p2 v0 v3 v7 v8 v9 v10 v11 v12 v13 v14 v15 v16 v17 v18 v19 v20 v21 v22)) = f4_15 p0 p1 p2 k) ∧ ((fun v0 v3 v7 v8 v9 v10 v11 v12 v13 v14 v15 v16 v17 v18 v19 v20 v21 v22 => cutG TP X q4 [6, 11, 21, 15, 17, 18] D4 (h4 p0 p1 p2).length body4 (finH TP Tryd.f4.results.toList (h4 p0 p1 p2).length false k4) k 17 (m4_17 p0 p1 p2 v0 v3 v7 v8 v9 v10 v11 v12 v13 v14 v15 v16 v17 v18 v19 v20 v21 v22)) = f4_17 p0 p1 p2 k) ∧ ((fun v0 v1 v4 v8 v9 v10 v11 v12 v13 v14 v15 => cutG TP X q4 [6, 11, 21, 15, 17, 18] D4 (h4 p0 p1 p2).length body4 (finH TP Tryd.f4.results.toList (h4 p0 p1 p2).length false k4) k 18 (m4_18 p0 p1 p2 v0 v1 v4 v8 v9 v10 v11 v12 v13 v14 v15)) = f4_18 p0 p1 p2 k) ∧ ((fun v2 v6 v7 v8 v9 v10 v11 v12 v13 => cutG TP X q4 [6, 11, 21, 15, 17, 18] D4 (h4 p0 p1 p2).length body4 (finH TP Tryd.f4.results.toList (h4 p0 p1 p2).length false k4) k 11 (m4_11 p0 p1 p2 v2 v6 v7 v8 v9 v10 v11 v12 v13)) = f4_11 p0 p1 p2 k) ∧ ((fun v2 v3 v4 v5 v6 v7 v8 v9 v10 => cutG TP X q4 [6, 11, 21, 15, 17, 18] D4 (h4 p0 p1 p2).length body4 (finH TP Tryd.f4.results.toList (h4 p0 p1 p2).length false k4) k 21 (m4_21 p0 p1 p2 v2 v3 v4 v5 v6 v7 v8 v9 v10)) = f4_21 p0 p1 p2 k)
  | 0 => ⟨rfl, rfl, rfl, rfl, rfl, rfl⟩
  | k + 1 => by
    have ih := e4 p0 p1 p2 k
    refine ⟨?_, ?_, ?_, ?_, ?_, ?_⟩
    · funext v1 v8
      refine (if_pos (by kernel_rfl)).trans ?_
      rw [s4_6]
      simp only [ih]
      rfl
    · funext v0 v3 v7 v8 v9 v10 v11 v12 v13 v14 v15 v16 v17 v18 v19 v20 v21 v22
      refine (if_pos (by kernel_rfl)).trans ?_
      rw [s4_15]
      simp only [ih]
      rfl
    · funext v0 v3 v7 v8 v9 v10 v11 v12 v13 v14 v15 v16 v17 v18 v19 v20 v21 v22
      refine (if_pos (by kernel_rfl)).trans ?_
      rw [s4_17]
      simp only [ih]
      rfl
    · funext v0 v1 v4 v8 v9 v10 v11 v12 v13 v14 v15
      refine (if_pos (by kernel_rfl)).trans ?_
      rw [s4_18]
      simp only [ih]
      rfl
    · funext v2 v6 v7 v8 v9 v10 v11 v12 v13
      refine (if_pos (by kernel_rfl)).trans ?_
      rw [s4_11]
      simp only [ih]
      rfl
    · funext v2 v3 v4 v5 v6 v7 v8 v9 v10
      refine (if_pos (by kernel_rfl)).trans ?_
      rw [s4_21]
      simp only [ih]
      rfl
theorem pure4 (p0 : Int) (p1 : List TOp) (p2 : TI) (pok : PrmOK TP X q4) (k : Nat) (r : R4) (h : f4 k p0 p1 p2 = some r) : PureH TP X 4 [.agg [.int .i64 p0, .imm 67 p1, .imm 3 p2]] (h4 p0 p1 p2) (out4 r) (outh4 r) :=
  pure_gen good k (fn := Tryd.f4) (body := body4) (prim := q4) (D := D4) (cuts := [6, 11, 21, 15, 17, 18]) (h := h4 p0 p1 p2) (own := false) (by kernel_rfl) (by kernel_rfl) (by decide +kernel) pok hk4 (by
    rw [s4]
    have ih := e4 p0 p1 p2 k
    simp only [ih]
    exact h)
def F4 {R : Type} (spec : (Int) → (List TOp) → TI → Option R4) : Fn U R := fun args h k => match args, h with | [.agg [.int .i64 p0, .imm 67 p1, .imm 3 p2]], [] => (spec p0 p1 p2).bind fun r => k (out4 r) (outh4 r) | _, _ => none
theorem ok4 {R : Type} (spec : (Int) → (List TOp) → TI → Option R4) (hp : ∀ (p0 : Int) (p1 : List TOp) (p2 : TI) (r : R4), spec p0 p1 p2 = some r → PureH TP X 4 [.agg [.int .i64 p0, .imm 67 p1, .imm 3 p2]] (h4 p0 p1 p2) (out4 r) (outh4 r)) : FnOK TP X 4 (F4 spec : Fn U R) := by
  intro args h k r hh
  unfold F4 at hh
  split at hh
  · obtain ⟨x, h1, h2⟩ := Option.bind_eq_some_iff.1 hh
    exact ⟨_, _, h2, hp _ _ _ _ h1⟩
  · cases hh
theorem pok4 : PrmOK TP X q4 := prims_cons good okS10 (prims_cons good okS11 (prims_cons good okS12 (prims_cons good okS13 (prims_nil TP X mixed))))
noncomputable def S4 (p0 : Int) (p1 : List TOp) (p2 : TI) : Option R4 := evv fun k => f4 k p0 p1 p2
theorem okS4 {R : Type} : FnOK TP X 4 (F4 S4 : Fn U R) := ok4 S4 fun p0 p1 p2 r h => by
  obtain ⟨k, hk⟩ := evv_fuel h
  exact pure4 p0 p1 p2 pok4 k r hk
end
end Go.Abs.Z
namespace Go.Abs.Z
open Go Go.Abs Go.Proofs
noncomputable section
abbrev R3 : Type := (Bool)
noncomputable def body3 : Go.Code := (Tryd.f3.body).getD Go.Code.skip
def h3 (p0 : Int) (p1 : List TOp) (p2 : TI) : List (AO U) := []
def k3 : AV U → List (AO U) → Option R3 := fun v h => match v, h with | AV.bool x0, [] => some x0 | _, _ => none
def out3 : R3 → AV U := fun x0 => AV.bool x0
def outh3 : R3 → List (AO U) := fun x0 => []
def D3 : Nat → Dir := dirs []
def b3 (p0 : Int) (p1 : List TOp) (p2 : TI)   : Option R3 :=
  (S5 p0 p1 p2 [] [] [] [] [] [] [] [] [] [] [] [] [] [] [] [] [] [] [] []).bind fun r0 =>
  (S4 r0.fst r0.snd.fst r0.snd.snd.fst).bind fun r1 =>
  (S6 p0 p1 p2).bind fun r2 =>
  (S7 r1.fst r1.snd.fst r1.snd.snd.fst r1.snd.snd.snd.fst r1.snd.snd.snd.snd.fst r2.fst r2.snd.fst r2.snd.snd.fst r2.snd.snd.snd.fst r2.snd.snd.snd.snd.fst).bind fun r3 =>
  cond (r3)
  (cond (r1.snd.snd.snd.snd.snd.fst == r2.snd.snd.snd.snd.snd.fst)
  ((S8 r1.snd.snd.snd.snd.snd.snd).bind fun r4 =>
  cond (r4 == r2.snd.snd.snd.snd.snd.snd)
  ((S9 r0.snd.snd.snd.snd.snd.snd.snd.snd.snd.snd.snd.snd.snd.snd.snd.snd.snd.fst r0.snd.snd.snd.snd.snd.snd.snd.snd.snd.snd.snd.snd.snd.snd.snd.snd.snd.snd.fst r0.snd.snd.snd.fst r0.snd.snd.snd.snd.fst r0.snd.snd.snd.snd.snd.snd.snd.snd.snd.snd.snd.snd.snd.snd.snd.snd.snd.snd.snd.fst r0.snd.snd.snd.snd.snd.snd.snd.snd.snd.snd.snd.snd.snd.snd.snd.snd.snd.snd.snd.snd.fst r0.snd.snd.snd.snd.snd.fst r0.snd.snd.snd.snd.snd.snd.fst r0.snd.snd.snd.snd.snd.snd.snd.fst r0.snd.snd.snd.snd.snd.snd.snd.snd.fst r0.snd.snd.snd.snd.snd.snd.snd.snd.snd.fst r0.snd.snd.snd.snd.snd.snd.snd.snd.snd.snd.fst r0.snd.snd.snd.snd.snd.snd.snd.snd.snd.snd.snd.fst r0.snd.snd.snd.snd.snd.snd.snd.snd.snd.snd.snd.snd.fst r0.snd.snd.snd.snd.snd.snd.snd.snd.snd.snd.snd.snd.snd.snd.snd.snd.snd.snd.snd.snd.snd.fst r0.snd.snd.snd.snd.snd.snd.snd.snd.snd.snd.snd.snd.snd.snd.snd.snd.snd.snd.snd.snd.snd.snd r0.snd.snd.snd.snd.snd.snd.snd.snd.snd.snd.snd.snd.snd.fst r0.snd.snd.snd.snd.snd.snd.snd.snd.snd.snd.snd.snd.snd.snd.fst r0.snd.snd.snd.snd.snd.snd.snd.snd.snd.snd.snd.snd.snd.snd.snd.fst r0.snd.snd.snd.snd.snd.snd.snd.snd.snd.snd.snd.snd.snd.snd.snd.snd.fst).bind fun r5 =>
  some (r5.fst))
  (some (false)))
  (some (false)))
  (some (false))
theorem hk3 : ∀ v h' r, k3 v h' = some r → v = out3 r ∧ h' = outh3 r := by
  intro v h' r h
  unfold k3 at h
  split at h
  · injection h with h; subst h; exact ⟨rfl, rfl⟩
  · cases h
abbrev q3 : Prim U R3 := prims X [⟨5, fun _ => true, [.hand, .lend], F5 S5⟩, ⟨4, fun _ => true, [.lend], F4 S4⟩, ⟨6, fun _ => true, [.lend], F6 S6⟩, ⟨7, fun _ => true, [.lend, .lend], F7 S7⟩, ⟨8, fun _ => true, [.lend], F8 S8⟩, ⟨9, fun _ => true, [.ro], F9 S9⟩]
theorem s3 (c : Nat → S U → Option R3) (p0 : Int) (p1 : List TOp) (p2 : TI) : seg TP X q3 [] (fun q st => c q (keepD D3 (h3 p0 p1 p2).length q st)) body3 (finH TP Tryd.f3.results.toList (h3 p0 p1 p2).length false k3) (start [.agg [.int .i64 p0, .imm 67 p1, .imm 3 p2]] Tryd.f3.ntmps (h3 p0 p1 p2)) = b3 p0 p1 p2  := by kernel_rfl
def f3 (_ : Nat) (p0 : Int) (p1 : List TOp) (p2 : TI) : Option R3 := b3 p0 p1 p2
theorem pure3 (p0 : Int) (p1 : List TOp) (p2 : TI) (pok : PrmOK TP X q3) (k : Nat) (r : R3) (h : f3 k p0 p1 p2 = some r) : PureH TP X 3 [.agg [.int .i64 p0, .imm 67 p1, .imm 3 p2]] (h3 p0 p1 p2) (out3 r) (outh3 r) :=
  pure_gen good 0 (fn := Tryd.f3) (body := body3) (prim := q3) (D := D3) (cuts := []) (h := h3 p0 p1 p2) (own := false) (by kernel_rfl) (by kernel_rfl) (by decide +kernel) pok hk3 (by
    rw [s3]
    exact h)
def F3 {R : Type} (spec : (Int) → (List TOp) → TI → Option R3) : Fn U R := fun args h k => match args, h with | [.agg [.int .i64 p0, .imm 67 p1, .imm 3 p2]], [] => (spec p0 p1 p2).bind fun r => k (out3 r) (outh3 r) | _, _ => none
theorem ok3 {R : Type} (spec : (Int) → (List TOp) → TI → Option R3) (hp : ∀ (p0 : Int) (p1 : List TOp) (p2 : TI) (r : R3), spec p0 p1 p2 = some r → PureH TP X 3 [.agg [.int .i64 p0, .imm 67 p1, .imm 3 p2]] (h3 p0 p1 p2) (out3 r) (outh3 r)) : FnOK TP X 3 (F3 spec : Fn U R) := by
  intro args h k r hh
  unfold F3 at hh
  split at hh
  · obtain ⟨x, h1, h2⟩ := Option.bind_eq_some_iff.1 hh
    exact ⟨_, _, h2, hp _ _ _ _ h1⟩
  · cases hh
theorem pok3 : PrmOK TP X q3 := prims_cons good okS5 (prims_cons good okS4 (prims_cons good okS6 (prims_cons good okS7 (prims_cons good okS8 (prims_cons good okS9 (prims_nil TP X mixed))))))
noncomputable def S3 (p0 : Int) (p1 : List TOp) (p2 : TI) : Option R3 := evv fun k => f3 k p0 p1 p2
theorem okS3 {R : Type} : FnOK TP X 3 (F3 S3 : Fn U R) := ok3 S3 fun p0 p1 p2 r h => by
  obtain ⟨k, hk⟩ := evv_fuel h
  exact pure3 p0 p1 p2 pok3 k r hk
end
end Go.Abs.Z
namespace Go.Abs.Z
open Go Go.Abs Limb Num
theorem run32 {neg : Bool} {x y : List Int} (h : x.length + y.length ≤ 1099511627776) : S32 neg x y = some (neg, x, y) := evv_eq (Evt.now fun k => by
  show b32 neg x y = _
  unfold b32
  simp (disch := omega) only [cT]
  try rfl)
section
variable {inputs : Int} {ops : List OpT} {outs : List Int} {t0 : Int} {t2 : List Int} {ins : List ByteArray} {fs : List ((ByteArray) × (List (ByteArray)) × Int)} {lets : List LetT} {os : List Int} {nodes : List NodeT}
theorem run13 {t1 : List OpT} {k n : Int} {s : ByteArray} {neg : Bool} {x y kids : List Int} (h : nodes.length ≤ 100000) : S13 t0 t1 t2 ins fs lets os nodes k s neg x y n kids = some ((nodes.length : Int), t0, t1, t2, ins, fs, lets, os, nodes ++ [(k, s, neg, x, y, n, kids)]) := evv_eq (Evt.now fun f => by
  show b13 t0 t1 t2 ins fs lets os nodes k s neg x y n kids = _
  unfold b13
  rw [cT (by omega)]
  have := last_at nodes (k, s, neg, x, y, n, kids) (by omega)
  exact congrArg (fun z => some (z, t0, t1, t2, ins, fs, lets, os, nodes ++ [(k, s, neg, x, y, n, kids)])) this)
theorem run12 (hs : Sane ops) {i : Int} (h0 : 0 ≤ i) (h1 : i < ops.length) (h : nodes.length ≤ 100000) : S12 t0 ops t2 ins fs lets os nodes i = some ((nodes.length : Int), t0, ops, t2, ins, fs, lets, os, nodes ++ [wordN ops i]) := evv_eq (Evt.now fun f => by
  obtain ⟨j, rfl⟩ := Int.eq_ofNat_of_zero_le h0
  have hlen := hs.len
  have hlt : j < ops.length := by omega
  have eg : ops.getD j (0, 0, 0, 0, false, [], []) = ops[j] := by rw [List.getD_eq_getElem?_getD, List.getElem?_eq_getElem hlt]; rfl
  have hin := hs.inp ops[j] (List.getElem_mem hlt)
  have okl := (hs.ok ops[j] (List.getElem_mem hlt)).l
  show b12 t0 ops t2 ins fs lets os nodes (j : Int) = _
  unfold b12 wordN
  simp only [Int.toNat_natCast, dflt67]
  rw [eg]
  simp (disch := omega) only [cT]
  rw [run11 h0 (by omega)]
  by_cases h2 : ops[j].1 = 2
  · rw [cE h2, if_pos h2, run32 okl]
    simp only [Option.bind_some]
    rw [run13 h]; rfl
  · rw [cN h2, if_neg h2]
    by_cases h3 : ops[j].1 = 1
    · obtain ⟨a0, a1⟩ := hin h3
      have := decT_size a0
      rw [cE h3, if_pos h3, run11 a0 (by omega)]
      simp only [Option.bind_some]
      rw [cT (by show 1 + _ ≤ _; omega), run13 h]; rfl
    · have := decT_size h0
      rw [cN h3, if_neg h3]
      simp only [Option.bind_some]
      rw [cT (by show 1 + _ ≤ _; omega), run13 h]; rfl)
end
section
variable {inputs : Int} {ops : List OpT} {outs : List Int}
theorem loop4_21 (F : Fine inputs ops outs) {ins : List ByteArray} {lets : List LetT} : ∀ (m i : Nat) (os : List Int) (nodes : List NodeT), i + m = outs.length → nodes.length + m ≤ 100000 → os.length + m ≤ 100000 →
    Evt (fun f => f4_21 inputs ops outs f (i : Int) inputs ops outs ins [] lets os nodes) (let t := outsS ops (outs.drop i) (os, nodes); if 4096 < t.2.length then (([], [], [], [], [], 0, 86) : TellT) else (ins, [], lets, t.1, t.2, 0, 0))
  | 0, i, os, nodes, hi, hn, ho => by
    have := F.o1
    rw [List.drop_eq_nil_of_le (by omega)]
    refine Evt.last fun f => ?_
    show b4_21 inputs ops outs (f4_6 inputs ops outs f) (f4_15 inputs ops outs f) (f4_17 inputs ops outs f) (f4_18 inputs ops outs f) (f4_11 inputs ops outs f) (f4_21 inputs ops outs f) (i : Int) inputs ops outs ins [] lets os nodes = _
    unfold b4_21 outsS
    rw [cF (by omega)]
    dsimp only
    by_cases h : 4096 < nodes.length
    · rw [cT (by omega), if_pos h]
    · rw [cF (by omega), if_neg h]
  | m + 1, i, os, nodes, hi, hn, ho => by
    have hlt : i < outs.length := by omega
    have h64 := F.o1
    have e1 : IntKind.i64.wrap ((i : Int) + 1) = ((i + 1 : Nat) : Int) := by rw [wi64] <;> omega
    have eg : outs.getD i 0 = outs[i] := by rw [List.getD_eq_getElem?_getD, List.getElem?_eq_getElem hlt]; rfl
    obtain ⟨a0, a1⟩ := F.out outs[i] (List.getElem_mem hlt)
    rw [List.drop_eq_getElem_cons hlt]
    refine (loop4_21 F m (i + 1) (os ++ [(nodes.length : Int)]) (nodes ++ [wordN ops outs[i]]) (by omega) (by simp; omega) (by simp; omega)).step fun f => ?_
    show b4_21 inputs ops outs (f4_6 inputs ops outs f) (f4_15 inputs ops outs f) (f4_17 inputs ops outs f) (f4_18 inputs ops outs f) (f4_11 inputs ops outs f) (f4_21 inputs ops outs f) (i : Int) inputs ops outs ins [] lets os nodes = _
    unfold b4_21
    simp only [Int.toNat_natCast, dflt3]
    rw [eg, run12 F.sane a0 a1 (by omega)]
    simp only [Option.bind_some]
    rw [e1]
    simp (disch := omega) only [cT]
theorem kinds9 {k : Int} (h0 : 3 ≤ k) (h1 : k ≤ 8) : ([0, 0, 0, 4, 5, 6, 7, 3, 8] : List Int).getD k.toNat 0 = kindN k := by
  have : k = 3 ∨ k = 4 ∨ k = 5 ∨ k = 6 ∨ k = 7 ∨ k = 8 := by omega
  rcases this with rfl | rfl | rfl | rfl | rfl | rfl <;> rfl
theorem dflt70 : @Eq Int (X.dflt 70) 0 := rfl
theorem loop4_11 (F : Fine inputs ops outs) {ins : List ByteArray} : ∀ (m i : Nat) (st : List LetT × List NodeT), i + m = ops.length → st.1.length + m ≤ 3000 → st.2.length + 3 * m ≤ 9000 →
    Evt (fun f => f4_11 inputs ops outs f (i : Int) inputs ops outs ins [] st.1 [] st.2) (finS ops outs ins (opsS ops i m st))
  | 0, i, st, hi, h1, h2 => by
    have h64 := F.o1
    have := loop4_21 (ins := ins) (lets := st.1) F outs.length 0 [] st.2 (by omega) (by omega) (by simp; omega)
    refine this.step fun f => ?_
    show b4_11 inputs ops outs (f4_6 inputs ops outs f) (f4_15 inputs ops outs f) (f4_17 inputs ops outs f) (f4_18 inputs ops outs f) (f4_11 inputs ops outs f) (f4_21 inputs ops outs f) (i : Int) inputs ops outs ins [] st.1 [] st.2 = _
    unfold b4_11
    rw [cF (by omega)]; rfl
  | m + 1, i, st, hi, h1, h2 => by
    have hlt : i < ops.length := by omega
    have hl := F.sane.len
    have e1 : IntKind.i64.wrap ((i : Int) + 1) = ((i + 1 : Nat) : Int) := by rw [wi64] <;> omega
    have ih := loop4_11 (ins := ins) F m (i + 1) (opS ops st i) (by omega)
    have hS := opsS_lets ops 1 i st
    have hS1 : opsS ops i 1 st = opS ops st i := rfl
    rw [hS1] at hS
    have ih := ih (by omega) (by omega)
    have eo : ops.getD i (0, 0, 0, 0, false, [], []) = opAt ops i := rfl
    show Evt _ (finS ops outs ins (opsS ops (i + 1) m (opS ops st i)))
    have u11 : ∀ f, f4_11 inputs ops outs (f + 1) (i : Int) inputs ops outs ins [] st.1 [] st.2 = b4_11 inputs ops outs (f4_6 inputs ops outs f) (f4_15 inputs ops outs f) (f4_17 inputs ops outs f) (f4_18 inputs ops outs f) (f4_11 inputs ops outs f) (f4_21 inputs ops outs f) (i : Int) inputs ops outs ins [] st.1 [] st.2 := fun f => rfl
    by_cases hk : (opAt ops i).1 = 1 ∨ (opAt ops i).1 = 2
    · have es : opS ops st i = st := by unfold opS; dsimp only; rw [if_pos hk]
      rw [es] at ih ⊢
      refine ih.step fun f => ?_
      rw [u11]
      unfold b4_11
      simp only [Int.toNat_natCast, dflt67]
      rw [eo, e1]
      simp (disch := omega) only [cT]
      rcases hk with hk | hk
      · rw [cE hk]
      · rw [cN (by omega), cE hk]
    · have n1 : (opAt ops i).1 ≠ 1 := fun h => hk (.inl h)
      have n2 : (opAt ops i).1 ≠ 2 := fun h => hk (.inr h)
      have kd := F.kind i hlt
      have ha := F.a i hlt n1 n2
      have es : opS ops st i = (st.1 ++ [(nT (i : Int), ((st.2 ++ (argsOf (opAt ops i)).map (wordN ops)).length : Int))], st.2 ++ (argsOf (opAt ops i)).map (wordN ops) ++ [(kindN (opAt ops i).1, ByteArray.mk #[], false, [], [], (opAt ops i).2.2.2.1, kidsFrom st.2.length (argsOf (opAt ops i)).length)]) := by
        unfold opS; dsimp only; rw [if_neg hk]
      rw [es] at ih ⊢
      have hal : (argsOf (opAt ops i)).length ≤ 2 := by unfold argsOf; split <;> simp
      have e18 : Evt (fun f => f4_18 inputs ops outs f (i : Int) ((st.2 ++ (argsOf (opAt ops i)).map (wordN ops)).length : Int) (i : Int) inputs ops outs ins [] st.1 [] (st.2 ++ (argsOf (opAt ops i)).map (wordN ops) ++ [(kindN (opAt ops i).1, ByteArray.mk #[], false, [], [], (opAt ops i).2.2.2.1, kidsFrom st.2.length (argsOf (opAt ops i)).length)])) _ := ih.step fun f => by
        show b4_18 inputs ops outs (f4_6 inputs ops outs f) (f4_15 inputs ops outs f) (f4_17 inputs ops outs f) (f4_18 inputs ops outs f) (f4_11 inputs ops outs f) (f4_21 inputs ops outs f) (i : Int) _ (i : Int) inputs ops outs ins [] st.1 [] _ = _
        unfold b4_18
        rw [run11 (by omega) (by omega)]
        simp only [Option.bind_some]
        rw [cT (nT_size (by omega)), cT (by omega), e1]; rfl
      have e17 : Evt (fun f => f4_17 inputs ops outs f (i : Int) (i : Int) inputs ops outs (opAt ops i).1 (opAt ops i).2.1 (opAt ops i).2.2.1 (opAt ops i).2.2.2.1 (opAt ops i).2.2.2.2.1 (opAt ops i).2.2.2.2.2.1 (opAt ops i).2.2.2.2.2.2 (kidsFrom st.2.length (argsOf (opAt ops i)).length) ins [] st.1 [] (st.2 ++ (argsOf (opAt ops i)).map (wordN ops))) _ := e18.step fun f => by
        show b4_17 inputs ops outs (f4_6 inputs ops outs f) (f4_15 inputs ops outs f) (f4_17 inputs ops outs f) (f4_18 inputs ops outs f) (f4_11 inputs ops outs f) (f4_21 inputs ops outs f) (i : Int) (i : Int) inputs ops outs (opAt ops i).1 (opAt ops i).2.1 (opAt ops i).2.2.1 (opAt ops i).2.2.2.1 (opAt ops i).2.2.2.2.1 (opAt ops i).2.2.2.2.2.1 (opAt ops i).2.2.2.2.2.2 (kidsFrom st.2.length (argsOf (opAt ops i)).length) ins [] st.1 [] (st.2 ++ (argsOf (opAt ops i)).map (wordN ops)) = _
        unfold b4_17
        simp only [dflt70]
        rw [run13 (by simp; omega), kinds9 (by omega) kd.2]
        simp only [Option.bind_some]
        simp (disch := omega) only [cT]
      have e15 : Evt (fun f => f4_15 inputs ops outs f (i : Int) (i : Int) inputs ops outs (opAt ops i).1 (opAt ops i).2.1 (opAt ops i).2.2.1 (opAt ops i).2.2.2.1 (opAt ops i).2.2.2.2.1 (opAt ops i).2.2.2.2.2.1 (opAt ops i).2.2.2.2.2.2 [(st.2.length : Int)] ins [] st.1 [] (st.2 ++ [wordN ops (opAt ops i).2.1])) _ := e17.step fun f => by
        show b4_15 inputs ops outs (f4_6 inputs ops outs f) (f4_15 inputs ops outs f) (f4_17 inputs ops outs f) (f4_18 inputs ops outs f) (f4_11 inputs ops outs f) (f4_21 inputs ops outs f) (i : Int) (i : Int) inputs ops outs (opAt ops i).1 (opAt ops i).2.1 (opAt ops i).2.2.1 (opAt ops i).2.2.2.1 (opAt ops i).2.2.2.2.1 (opAt ops i).2.2.2.2.2.1 (opAt ops i).2.2.2.2.2.2 [(st.2.length : Int)] ins [] st.1 [] (st.2 ++ [wordN ops (opAt ops i).2.1]) = _
        unfold b4_15
        by_cases ht : two (opAt ops i).1 = true
        · have hb := F.b i hlt ht
          have hk36 : 3 ≤ (opAt ops i).1 ∧ (opAt ops i).1 ≤ 6 := by unfold two at ht; simpa using ht
          rw [bneT (by omega), bneT (by omega), run12 F.sane hb.1 (by omega) (by simp; omega)]
          have ea : argsOf (opAt ops i) = [(opAt ops i).2.1, (opAt ops i).2.2.1] := by unfold argsOf; rw [if_pos ht]
          rw [ea]
          simp only [Option.bind_some]
          rw [cT (by simp)]
          simp only [List.map_cons, List.map_nil, kidsFrom, List.length_cons, List.length_nil, List.length_append, List.append_assoc, List.singleton_append, List.cons_append, List.nil_append]
        · have hk78 : (opAt ops i).1 = 7 ∨ (opAt ops i).1 = 8 := by unfold two at ht; simp at ht; omega
          have ea : argsOf (opAt ops i) = [(opAt ops i).2.1] := by unfold argsOf; rw [if_neg ht]
          rw [ea]
          rcases hk78 with h7 | h8
          · rw [bneF h7]; rfl
          · rw [bneT (by omega), bneF h8]; rfl
      refine e15.step fun f => ?_
      rw [u11]
      unfold b4_11
      simp only [Int.toNat_natCast, dflt67]
      rw [eo, run12 F.sane ha.1 (by omega) (by omega)]
      simp only [Option.bind_some]
      simp (disch := omega) only [cT, cN]
theorem loop4_6 (F : Fine inputs ops outs) : ∀ (m i : Nat), (i : Int) + m = inputs → Evt (fun f => f4_6 inputs ops outs f (i : Int) (insL i)) (finS ops outs (insL inputs.toNat) (opsS ops 0 ops.length ([], [])))
  | 0, i, hi => by
    have h1 := F.sane.len
    have ei : inputs.toNat = i := by omega
    rw [ei]
    have := loop4_11 (ins := insL i) F ops.length 0 ([], []) (by omega) (by simp; omega) (by simp; omega)
    refine this.step fun f => ?_
    show b4_6 inputs ops outs (f4_6 inputs ops outs f) (f4_15 inputs ops outs f) (f4_17 inputs ops outs f) (f4_18 inputs ops outs f) (f4_11 inputs ops outs f) (f4_21 inputs ops outs f) (i : Int) (insL i) = _
    unfold b4_6
    rw [cF (by omega)]; rfl
  | m + 1, i, hi => by
    have h64 := F.i1
    have e1 : IntKind.i64.wrap ((i : Int) + 1) = ((i + 1 : Nat) : Int) := by rw [wi64] <;> omega
    have hz := decT_size (n := (i : Int)) (by omega)
    refine (loop4_6 F m (i + 1) (by omega)).step fun f => ?_
    show b4_6 inputs ops outs (f4_6 inputs ops outs f) (f4_15 inputs ops outs f) (f4_17 inputs ops outs f) (f4_18 inputs ops outs f) (f4_11 inputs ops outs f) (f4_21 inputs ops outs f) (i : Int) (insL i) = _
    unfold b4_6
    rw [cT (by omega), run11 (by omega) (by omega)]
    simp only [Option.bind_some]
    rw [cT (by show 1 + _ ≤ _; omega), cT (by rw [insL_len]; omega), e1, insL_succ]; rfl
theorem run4 (hok : ∀ o ∈ ops, OkOp o) : S4 inputs ops outs = some (tellS inputs ops outs) := evv_eq (by
  unfold tellS
  dsimp only
  have u : ∀ f, f4 f inputs ops outs = b4 inputs ops outs (f4_6 inputs ops outs f) (f4_15 inputs ops outs f) (f4_17 inputs ops outs f) (f4_18 inputs ops outs f) (f4_11 inputs ops outs f) (f4_21 inputs ops outs f) := fun f => rfl
  by_cases h : (tapeE inputs ops outs).2 = 0
  · obtain ⟨F, he⟩ := fine_of hok h
    rw [if_neg (fun hn => hn h)]
    have h0 := F.i0
    refine (loop4_6 F inputs.toNat 0 (by omega)).same fun f => ?_
    rw [u]
    unfold b4
    rw [run10 hok]
    simp only [Option.bind_some]
    rw [bneF h]; rfl
  · rw [if_pos h]
    refine Evt.now fun f => ?_
    rw [u]
    unfold b4
    rw [run10 hok]
    simp only [Option.bind_some]
    rw [bneT h])
end
end Go.Abs.Z
namespace Go.Abs.Z
open Go Go.Abs Limb Num
def NodeOk (x : NodeT) : Prop := x.2.2.2.1.length ≤ 1099511627776 ∧ x.2.2.2.2.1.length ≤ 1099511627776 ∧ x.2.2.2.2.2.2.length ≤ 1099511627776
section
variable {ops : List OpT}
theorem wordN_ok (hs : ∀ o ∈ ops, OkOp o) (i : Int) : NodeOk (wordN ops i) := by
  unfold wordN NodeOk
  dsimp only
  split
  · by_cases h : i.toNat < ops.length
    · have eg : ops.getD i.toNat (0, 0, 0, 0, false, [], []) = ops[i.toNat] := by rw [List.getD_eq_getElem?_getD, List.getElem?_eq_getElem h]; rfl
      rw [eg]
      have := (hs _ (List.getElem_mem h)).l
      refine ⟨?_, ?_, by simp⟩
      · show ops[i.toNat].2.2.2.2.2.1.length ≤ _; omega
      · show ops[i.toNat].2.2.2.2.2.2.length ≤ _; omega
    · rw [List.getD_eq_getElem?_getD, List.getElem?_eq_none (by omega)]
      exact ⟨by simp, by simp, by simp⟩
  · split <;> exact ⟨by simp, by simp, by simp⟩
theorem kidsFrom_len : ∀ (s m : Nat), (kidsFrom s m).length = m
  | _, 0 => rfl
  | s, m + 1 => by simp [kidsFrom, kidsFrom_len]
theorem opsS_ok (hs : ∀ o ∈ ops, OkOp o) : ∀ (m i : Nat) (st : List LetT × List NodeT), (∀ x ∈ st.2, NodeOk x) → ∀ x ∈ (opsS ops i m st).2, NodeOk x
  | 0, _, _, h => h
  | m + 1, i, st, h => by
    refine opsS_ok hs m (i + 1) _ ?_
    unfold opS
    dsimp only
    split
    · exact h
    · intro x hx
      simp only [List.mem_append, List.mem_map, List.mem_cons, List.not_mem_nil, or_false] at hx
      rcases hx with (hx | ⟨a, _, rfl⟩) | rfl
      · exact h x hx
      · exact wordN_ok hs a
      · refine ⟨by simp, by simp, ?_⟩
        show (kidsFrom _ _).length ≤ _
        rw [kidsFrom_len]
        unfold argsOf
        split <;> simp
theorem outsS_ok (hs : ∀ o ∈ ops, OkOp o) : ∀ (l : List Int) (st : List Int × List NodeT), (∀ x ∈ st.2, NodeOk x) → ∀ x ∈ (outsS ops l st).2, NodeOk x
  | [], _, h => h
  | o :: l, st, h => by
    refine outsS_ok hs l _ fun x hx => ?_
    simp only [List.mem_append, List.mem_cons, List.not_mem_nil, or_false] at hx
    rcases hx with hx | rfl
    · exact h x hx
    · exact wordN_ok hs o
theorem outsS_fst (ops : List OpT) : ∀ (l : List Int) (st : List Int × List NodeT), (outsS ops l st).1.length = st.1.length + l.length
  | [], st => rfl
  | o :: l, st => by
    show (outsS ops l _).1.length = _
    rw [outsS_fst ops l]
    simp; omega
theorem tellS_ok {inputs : Int} {outs : List Int} (hs : ∀ o ∈ ops, OkOp o) (h1 : ops.length ≤ 1073741824) (h2 : outs.length ≤ 1073741824) : OkModel (tellS inputs ops outs).1 (tellS inputs ops outs).2.1 (tellS inputs ops outs).2.2.1 (tellS inputs ops outs).2.2.2.1 (tellS inputs ops outs).2.2.2.2.1 := by
  have empty : OkModel [] [] [] [] [] := ⟨by simp, by simp, fun g hg => by simp at hg, by simp, by simp, by simp, fun x hx => by simp at hx⟩
  unfold tellS
  dsimp only
  split
  · exact empty
  · rename_i h
    have h0 : (tapeE inputs ops outs).2 = 0 := Classical.byContradiction h
    obtain ⟨F, _⟩ := fine_of hs h0
    have hi := F.i1
    unfold finS
    dsimp only
    split
    · exact empty
    · have hl := opsS_lets ops ops.length 0 ([], [])
      have hn := outsS_len ops outs ([], (opsS ops 0 ops.length ([], [])).2)
      have ho := outsS_fst ops outs ([], (opsS ops 0 ops.length ([], [])).2)
      have hx := outsS_ok hs outs ([], (opsS ops 0 ops.length ([], [])).2) (opsS_ok hs ops.length 0 ([], []) (fun x hx => by simp at hx))
      simp only [List.length_nil] at hl hn ho
      exact ⟨by dsimp only; rw [insL_len]; omega, by simp, fun g hg => by simp at hg, by dsimp only; omega, by dsimp only; omega, by dsimp only; omega, fun x hm => hx x hm⟩
theorem tapeE_small (inputs : Int) (outs : List Int) : 0 ≤ (tapeE inputs ops outs).2 ∧ (tapeE inputs ops outs).2 ≤ 200 := by
  have n : ∀ (k a b n : Int) (neg : Bool) (x y : List Int) (i j : Int), 0 ≤ nodeE k a b n neg x y i j ∧ nodeE k a b n neg x y i j ≤ 200 := by
    intro k a b n neg x y i j
    unfold nodeE
    repeat' split
    all_goals decide
  have o : ∀ (l : List OpT) (i : Int) (r : Int × Int), opsE inputs l i = some r → 0 ≤ r.2 ∧ r.2 ≤ 200 := by
    intro l
    induction l with
    | nil => intro i r h; cases h
    | cons x l ih =>
      intro i r h
      unfold opsE at h
      split at h
      · exact ih _ _ h
      · injection h with h; subst h; exact n _ _ _ _ _ _ _ _ _
  have u : ∀ (l : List Int) (i : Int) (r : Int × Int), outsE ops.length l i = some r → 0 ≤ r.2 ∧ r.2 ≤ 200 := by
    intro l
    induction l with
    | nil => intro i r h; cases h
    | cons x l ih =>
      intro i r h
      unfold outsE at h
      split at h
      · injection h with h; subst h; exact ⟨by show (0 : Int) ≤ 108; decide, by show (108 : Int) ≤ 200; decide⟩
      · exact ih _ _ h
  unfold tapeE
  split
  · decide
  split
  · decide
  split
  · decide
  split
  · rename_i r hr; exact o _ _ _ hr
  · split
    · rename_i r hr; exact u _ _ _ hr
    · decide
theorem tellS_err (inputs : Int) (outs : List Int) : 0 ≤ (tellS inputs ops outs).2.2.2.2.2.2 ∧ (tellS inputs ops outs).2.2.2.2.2.2 ≤ 200 := by
  unfold tellS
  dsimp only
  split
  · exact tapeE_small inputs outs
  · unfold finS
    dsimp only
    split
    · decide
    · exact ⟨by show (0 : Int) ≤ 0; decide, by show (0 : Int) ≤ 200; decide⟩
theorem run8 {e : Int} (h0 : 0 ≤ e) (h1 : e ≤ 200) : S8 e = some e := evv_eq (Evt.now fun k => by
  show b8 e = _
  rfl)
theorem run3 {inputs : Int} {outs : List Int} (hs : ∀ o ∈ ops, OkOp o) (hsm : ∀ o ∈ ops, o.2.2.2.2.2.1.length ≤ 1073741824 ∧ o.2.2.2.2.2.2.length ≤ 1073741824) (h1 : ops.length ≤ 16777216) (h2 : outs.length ≤ 1073741824) : S3 inputs ops outs = some true := evv_eq (Evt.now fun k => by
  have r5 := run5 (inputs := inputs) hs hsm h1 h2
  have hI := same9 (L := limbsOf ops) (I := [outs ++ mI]) (O := [ops ++ mO]) (fun x hx => by
      unfold limbsOf at hx
      rw [List.mem_flatMap] at hx
      obtain ⟨o, ho, hx⟩ := hx
      have := hsm o ho
      simp only [List.mem_cons, List.not_mem_nil, or_false] at hx
      rcases hx with rfl | rfl <;> simp [mN] <;> omega) (by rw [limbsOf_len]; omega)
    (fun x hx => by
      obtain rfl : x = outs ++ mI := by simpa using hx
      simp [mI]; omega) (by simp)
    (fun o ho => by
      obtain rfl : o = ops ++ mO := by simpa using ho
      exact ⟨by simp [mO]; omega, fun x hx => (List.mem_append.1 hx).elim (hs x) (mO_ok x)⟩) (by simp)
  have h7 := same7 (tellS_ok (inputs := inputs) (outs := outs) hs (by omega) h2)
  obtain ⟨e0, e1⟩ := tellS_err (ops := ops) inputs outs
  show b3 inputs ops outs = _
  unfold b3
  rw [r5]
  simp only [Option.bind_some]
  rw [run4 hs, run6 hs]
  simp only [Option.bind_some]
  rw [h7]
  simp only [Option.bind_some, cond_true]
  rw [cE rfl, run8 e0 e1]
  simp only [Option.bind_some]
  rw [cE rfl, hI]
  rfl)
end
end Go.Abs.Z
namespace Go.Abs
open Go Go.RowKit Go.ChangeShapes Go.WideShapes
variable {U : Nat → Type}
inductive Kd where
  | b | i (k : IntKind) | s | l (e : Nat)
  deriving DecidableEq
def kindsFs (g : TypeId → Option (List Kd)) (P : Program) : Nat → List Field → Option (List Kd)
  | _, [] => some []
  | off, f :: r =>
    match g f.type with
    | some ks => if f.offset = off ∧ P.cellsOf f.type = ks.length then (match kindsFs g P (off + ks.length) r with | some rest => some (ks ++ rest) | none => none) else none
    | none => none
def kindsT (P : Program) : Nat → TypeId → Option (List Kd)
  | 0, _ => none
  | d + 1, t =>
    match P.underlying t with
    | some .bool => some [.b]
    | some (.int k) => some [.i k]
    | some .string => some [.s]
    | some (.slice e) => some [.l e]
    | some (.struct fs) => (match kindsFs (fun t => kindsT P d t) P 0 fs.toList with | some ks => if P.cellsOf t = ks.length then some ks else none | none => none)
    | _ => none
def fit : Kd → AV U → Prop
  | .b, v => ∃ x, v = .bool x
  | .i k, v => ∃ n, v = .int k n
  | .s, v => ∃ x, v = .str x
  | .l e, v => ∃ l, v = .imm e l
inductive FitL : List Kd → List (AV U) → Prop where
  | nil : FitL [] []
  | cons {k : Kd} {v : AV U} {ks : List Kd} {vs : List (AV U)} (h : fit k v) (hs : FitL ks vs) : FitL (k :: ks) (v :: vs)
theorem FitL.len {ks : List Kd} {vs : List (AV U)} (h : FitL ks vs) : vs.length = ks.length := by
  induction h with
  | nil => rfl
  | cons _ _ ih => simp [ih]
theorem FitL.append {ks ks' : List Kd} {vs vs' : List (AV U)} (h : FitL ks vs) (h' : FitL ks' vs') : FitL (ks ++ ks') (vs ++ vs') := by
  induction h with
  | nil => exact h'
  | cons a _ ih => exact .cons a ih
inductive Wf (X : Univ U) (B : Nat) : AV U → Prop where
  | b (x : Bool) : Wf X B (.bool x)
  | i (k : IntKind) (n : Int) (h : (Lit.int k n).wf = true) : Wf X B (.int k n)
  | s (x : ByteArray) (h : x.size ≤ B) : Wf X B (.str x)
  | l (e : Nat) (l : List (U e)) (h : l.length ≤ B) (hv : ∀ y ∈ l, ∀ c ∈ cellsOf (X.enc e y), Wf X B c) : Wf X B (.imm e l)
structure Cover (P : Program) (X : Univ U) (E : Nat → Bool) : Prop where
  z : ∀ e, E e = true → P.cellsOf e = X.z e
  kd : ∀ e, E e = true → ∃ d ks, kindsT P d e = some ks ∧ ks.length = X.z e ∧ (∀ e', Kd.l e' ∈ ks → E e' = true) ∧ ∀ ys : List (AV U), FitL ks ys → ∃ y : U e, cellsOf (X.enc e y) = ys
structure BdOK {H : Type} (Bd : DataW H → Prop) (B : Nat) : Prop where
  str : ∀ bs, Bd (.lit (.string bs)) → bs.length ≤ B
  sl : ∀ es sp, Bd (.slice es sp) → es.length ≤ B ∧ ∀ e ∈ es, Bd e
  ag : ∀ ps, Bd (.agg ps) → ∀ p ∈ ps, Bd p
section
variable {H : Type} {enc : TypeId × Value → H} {P : Program} {X : Univ U} {w : World} {N : Nat → Prop} {E : Nat → Bool} {Bd : DataW H → Prop} {B : Nat}
theorem add_eq {a : Addr} (h : a.spot = none) (n : Nat) : a.add n = ⟨a.block, a.off + n, none⟩ := by
  unfold Addr.add
  split
  · rename_i h0; subst h0
    obtain ⟨b, o, s⟩ := a
    simp only at h
    rw [h]; rfl
  · rfl
theorem cells_at {a : Addr} {n : Nat} {cs : List Value} (h : w.cells? 0 a n = some cs) : cs.length = n ∧ (0 < n → a.spot = none) ∧ ∀ k, k < n → w.cell? ⟨a.block, a.off + k, none⟩ = some (cs.getD k undef) := by
  unfold World.cells? at h
  rw [if_pos (Nat.zero_le _)] at h
  have hl : cs.length = n := by simpa using mapM_some_length h
  have hg : ∀ k, k < n → w.cell? (a.add k) = cs[k]? := fun k hk => mapM_some_get h k k (by simp [hk])
  have hs : 0 < n → a.spot = none := fun hn => by
    have h0 := hg 0 hn
    rw [List.getElem?_eq_getElem (by omega)] at h0
    cases hsp : a.spot with
    | none => rfl
    | some s =>
      unfold World.cell? at h0
      have : (a.add 0).spot.isSome = true := by
        have : a.add 0 = a := if_pos rfl
        rw [this, hsp]; rfl
      split at h0
      · rw [this] at h0; cases h0
      · cases h0
  refine ⟨hl, hs, fun k hk => ?_⟩
  have := hg k hk
  have e : a.add k = ⟨a.block, a.off + k, none⟩ := add_eq (hs (by omega)) k
  rw [e] at this
  rw [this, List.getElem?_eq_getElem (by omega), List.getD_eq_getElem?_getD, List.getElem?_eq_getElem (by omega)]; rfl
theorem read (g : Good X) (C : Cover P X E) (hB : BdOK Bd B) (hN : ∀ b, ¬ N b) : ∀ (n : Nat) (t : TypeId) (cs : List Value) (x : DataW H × List MemPlace), DataW.trod enc P w 0 (fun _ => true) true n t cs = some x → Bd x.1 →
    ∀ d ks, kindsT P d t = some ks → (∀ e, Kd.l e ∈ ks → E e = true) → ∃ ys : List (AV U), FitL ks ys ∧ ys.length = cs.length ∧ (∀ j, j < cs.length → VRel X w N noTh (ys.getD j .undef) (cs.getD j undef)) ∧ ∀ c ∈ ys, Wf X B c := by
  intro n
  induction n with
  | zero => intro t cs x h; simp [DataW.trod] at h
  | succ n ih =>
    intro t cs x h hb d ks hk hE
    cases d with
    | zero => cases hk
    | succ d =>
      unfold kindsT at hk
      split at hk
      · rename_i ht
        injection hk with hk; subst hk
        obtain ⟨b, rfl, rfl⟩ := DataW.trod_bool ht h
        exact ⟨[.bool b], .cons ⟨b, rfl⟩ .nil, rfl, fun j hj => by
          have : j = 0 := by simpa using hj
          subst this; exact .bool b, fun c hc => by
          obtain rfl : c = .bool b := by simpa using hc
          exact .b b⟩
      · rename_i k ht
        injection hk with hk; subst hk
        obtain ⟨m, rfl, rfl, hw⟩ := DataW.trod_int ht h
        exact ⟨[.int k m], .cons ⟨m, rfl⟩ .nil, rfl, fun j hj => by
          have : j = 0 := by simpa using hj
          subst this; exact .int k m, fun c hc => by
          obtain rfl : c = .int k m := by simpa using hc
          exact .i k m hw⟩
      · rename_i ht
        injection hk with hk; subst hk
        obtain ⟨s, rfl, rfl, hs⟩ := DataW.trod_string ht h
        have := hB.str _ hb
        exact ⟨[.str s], .cons ⟨s, rfl⟩ .nil, rfl, fun j hj => by
          have : j = 0 := by simpa using hj
          subst this; exact .str s, fun c hc => by
          obtain rfl : c = .str s := by simpa using hc
          exact .s s (by simpa using this)⟩
      · rename_i e ht
        injection hk with hk; subst hk
        have hEe := hE e (by simp)
        rcases DataW.trod_slice ht h with ⟨rfl, rfl⟩ | ⟨a, len, cap, elems, rest, m, hm, rfl, rfl, _, hlc, hcm, hel, hat, _, _⟩
        · exact ⟨[.imm e []], .cons ⟨[], rfl⟩ .nil, rfl, fun j hj => by
            have : j = 0 := by simpa using hj
            subst this; exact .imm0 e none 0, fun c hc => by
            obtain rfl : c = .imm e [] := by simpa using hc
            exact .l e [] (by simp) (fun y hy => by simp at hy)⟩
        · injection hm with hm; subst hm
          obtain ⟨b1, b2⟩ := hB.sl _ _ hb
          rw [List.length_map, hel] at b1
          obtain ⟨d', ks', k1, k2, k3, k4⟩ := C.kd e hEe
          have hz := C.z e hEe
          have zp := g.pos e
          have key : ∀ i, i < len → ∃ (y : U e) (ci : List Value), w.cells? 0 (a.add (i * X.z e)) (X.z e) = some ci ∧ (cellsOf (X.enc e y)).length = ci.length ∧ (∀ j, j < ci.length → VRel X w N noTh ((cellsOf (X.enc e y)).getD j .undef) (ci.getD j undef)) ∧ ∀ c ∈ cellsOf (X.enc e y), Wf X B c := by
            intro i hi
            have := hat i hi
            rw [hz] at this
            have hlt : i < elems.length := by omega
            rw [List.getElem?_eq_getElem hlt] at this
            obtain ⟨ci, c1, c2⟩ := Option.bind_eq_some_iff.1 this
            obtain ⟨ys, f1, f2, f3, f4⟩ := ih e ci elems[i] c2 (b2 _ (List.mem_map_of_mem (List.getElem_mem hlt))) d' ks' k1 k3
            obtain ⟨y, hy⟩ := k4 ys f1
            exact ⟨y, ci, c1, by rw [hy]; exact f2, by rw [hy]; exact f3, by rw [hy]; exact f4⟩
          by_cases hl0 : len = 0
          · subst hl0
            exact ⟨[.imm e []], .cons ⟨[], rfl⟩ .nil, rfl, fun j hj => by
              have : j = 0 := by simpa using hj
              subst this; exact .imm0 e (some a) cap, fun c hc => by
              obtain rfl : c = .imm e [] := by simpa using hc
              exact .l e [] (by simp) (fun y hy => by simp at hy)⟩
          · have key' : ∀ i, ∃ (y : U e) (ci : List Value), i < len → w.cells? 0 (a.add (i * X.z e)) (X.z e) = some ci ∧ (cellsOf (X.enc e y)).length = ci.length ∧ (∀ j, j < ci.length → VRel X w N noTh ((cellsOf (X.enc e y)).getD j .undef) (ci.getD j undef)) ∧ ∀ c ∈ cellsOf (X.enc e y), Wf X B c := fun i => by
              by_cases hi : i < len
              · obtain ⟨y, ci, h⟩ := key i hi; exact ⟨y, ci, fun _ => h⟩
              · exact ⟨X.dflt e, [], fun h => absurd h hi⟩
            obtain ⟨fy, hfy⟩ := Classical.axiomOfChoice key'
            obtain ⟨fc, hfc⟩ := Classical.axiomOfChoice hfy
            have hsp : a.spot = none := by
              have := (cells_at (hfc 0 (by omega)).1).2.1 zp
              rw [Nat.zero_mul] at this
              exact this
            have hl : ((List.range len).map fy).length = len := by simp
            have hget : ∀ j (hj : j < ((List.range len).map fy).length), ((List.range len).map fy)[j] = fy j := fun j hj => by simp
            have hV : VRel X w N noTh (.imm e ((List.range len).map fy)) (.slice (some ⟨a.block, a.off, none⟩) ((List.range len).map fy).length cap) := by
              refine .imm e _ a.block a.off cap (fun m => (fc (m / X.z e)).getD (m % X.z e) undef) (by rw [hl]; exact hlc) (by rw [hl]; exact Nat.mul_pos (by omega) zp) (hN _) (fun m hm => ?_) (fun j hj k hk => ?_)
              · rw [hl] at hm
                have hj : m / X.z e < len := Nat.div_lt_of_lt_mul (by rw [Nat.mul_comm]; exact hm)
                have := (cells_at (hfc _ hj).1).2.2 (m % X.z e) (Nat.mod_lt _ zp)
                rw [add_eq hsp] at this
                have e1 : a.off + m / X.z e * X.z e + m % X.z e = a.off + m := by
                  have := Nat.div_add_mod m (X.z e)
                  rw [Nat.mul_comm] at this
                  omega
                have this : w.cell? ⟨a.block, a.off + m / X.z e * X.z e + m % X.z e, none⟩ = _ := this
                rw [e1] at this
                exact this
              · have hj' : j < len := by rw [hl] at hj; exact hj
                obtain ⟨q1, q2, q3, q4⟩ := hfc j hj'
                have e1 : (j * X.z e + k) / X.z e = j := by rw [Nat.mul_comm, Nat.mul_add_div zp, Nat.div_eq_of_lt hk]; rfl
                have e2 : (j * X.z e + k) % X.z e = k := by rw [Nat.mul_comm, Nat.mul_add_mod, Nat.mod_eq_of_lt hk]
                rw [hget j hj]
                show VRel X w N noTh _ ((fc ((j * X.z e + k) / X.z e)).getD ((j * X.z e + k) % X.z e) undef)
                rw [e1, e2]
                exact q3 k (by rw [(cells_at q1).1]; exact hk)
            have ea : a = ⟨a.block, a.off, none⟩ := by
              obtain ⟨b, o, s⟩ := a
              simp only at hsp
              rw [hsp]
            refine ⟨[.imm e ((List.range len).map fy)], .cons ⟨_, rfl⟩ .nil, rfl, fun j hj => ?_, fun c hc => ?_⟩
            · have : j = 0 := by simpa using hj
              subst this
              rw [hl] at hV
              show VRel X w N noTh _ (.slice (some a) len cap)
              rw [ea]; exact hV
            · obtain rfl : c = .imm e ((List.range len).map fy) := by simpa using hc
              refine .l e _ (by rw [hl]; exact b1) fun y hy c hc => ?_
              obtain ⟨i, hi, rfl⟩ := List.mem_map.1 hy
              exact (hfc i (by simpa using hi)).2.2.2 c hc
      · rename_i fs ht
        obtain ⟨xs, m, hm, rfl, hcl, hxl, hat⟩ := DataW.trod_struct ht h
        injection hm with hm; subst hm
        have hag := hB.ag _ hb
        split at hk
        · rename_i ks0 hks
          split at hk
          · rename_i hcs
            injection hk with hk; subst hk
            have key : ∀ (r : List Field) (off : Nat) (ks : List Kd), kindsFs (fun t => kindsT P d t) P off r = some ks → (∀ f ∈ r, ∃ x, DataW.trod enc P w 0 (fun _ => true) true n f.type ((cs.drop f.offset).take (P.cellsOf f.type)) = some x ∧ Bd x.1) → (∀ e, Kd.l e ∈ ks → E e = true) →
                ∃ ys : List (AV U), FitL ks ys ∧ (∀ j, j < ys.length → VRel X w N noTh (ys.getD j .undef) (cs.getD (off + j) undef)) ∧ ∀ c ∈ ys, Wf X B c := by
              intro r
              induction r with
              | nil =>
                intro off ks hk _ _
                injection hk with hk; subst hk
                exact ⟨[], .nil, fun j hj => by simp at hj, fun c hc => by simp at hc⟩
              | cons f r ihr =>
                intro off ks hk hf hE
                unfold kindsFs at hk
                split at hk
                · rename_i k1 hk1
                  split at hk
                  · rename_i hoff
                    split at hk
                    · rename_i k2 hk2
                      injection hk with hk; subst hk
                      obtain ⟨x, hx, hbx⟩ := hf f (by simp)
                      obtain ⟨y1, f1, f2, f3, f4⟩ := ih f.type _ x hx hbx d k1 hk1 (fun e he => hE e (List.mem_append.2 (.inl he)))
                      obtain ⟨y2, g1, g3, g4⟩ := ihr _ k2 hk2 (fun f' hf' => hf f' (by simp [hf'])) (fun e he => hE e (List.mem_append.2 (.inr he)))
                      have l1 := f1.len
                      refine ⟨y1 ++ y2, f1.append g1, fun j hj => ?_, fun c hc => ?_⟩
                      · by_cases hlt : j < y1.length
                        · rw [List.getD_eq_getElem?_getD, List.getElem?_append_left hlt, ← List.getD_eq_getElem?_getD]
                          have := f3 j (by rw [← f2]; exact hlt)
                          rw [List.getD_eq_getElem?_getD (l := List.take _ _), List.getElem?_take, if_pos (by rw [hoff.2, ← l1]; exact hlt), List.getElem?_drop, hoff.1, ← List.getD_eq_getElem?_getD] at this
                          exact this
                        · rw [List.getD_eq_getElem?_getD, List.getElem?_append_right (by omega), ← List.getD_eq_getElem?_getD]
                          have := g3 (j - y1.length) (by rw [List.length_append] at hj; omega)
                          have e : off + k1.length + (j - y1.length) = off + j := by omega
                          rw [e] at this; exact this
                      · rcases List.mem_append.1 hc with hc | hc
                        · exact f4 c hc
                        · exact g4 c hc
                    · cases hk
                  · cases hk
                · cases hk
            obtain ⟨ys, f1, f3, f4⟩ := key fs.toList 0 _ hks (fun f hf => by
              obtain ⟨i, hi, rfl⟩ := List.mem_iff_getElem.1 hf
              have hi' : i < fs.size := by simpa using hi
              have := hat i fs[i] (Array.getElem?_eq_getElem hi')
              rw [List.getElem?_eq_getElem (by omega)] at this
              exact ⟨xs[i], by simpa using this, hag _ (List.mem_map_of_mem (List.getElem_mem _))⟩) hE
            have hlen : ys.length = cs.length := by rw [f1.len, ← hcs, hcl]
            exact ⟨ys, f1, hlen, fun j hj => by simpa using f3 j (by omega), f4⟩
          · cases hk
        · cases hk
      · cases hk
end
end Go.Abs
