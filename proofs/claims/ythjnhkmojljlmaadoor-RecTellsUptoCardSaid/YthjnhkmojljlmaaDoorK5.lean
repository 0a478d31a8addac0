/- Parts of the proof: Pf7, Pf27, Pf28, Pf50, Pf39, Pf51, Pf40, Pf41, Pf29, Pf9, Pf33, Pf14, Pf34, Pf15, Pf16, Pf5, MD4, MD5, MD6, Pf13, Pf12. -/
import Derived.Test.YthjnhkmojljlmaaDoorK4
set_option linter.unusedVariables false
namespace Go.Abs.Z
open Go Go.Abs Go.Proofs
noncomputable section
abbrev R7 : Type := (Bool)
noncomputable def body7 : Go.Code := (Tryd.f7.body).getD Go.Code.skip
def h7 (p0 : List (ByteArray)) (p1 : List TFn) (p2 : List TLt) (p3 : TI) (p4 : List TNd) (p5 : List (ByteArray)) (p6 : List TFn) (p7 : List TLt) (p8 : TI) (p9 : List TNd) : List (AO U) := []
def k7 : AV U → List (AO U) → Option R7 := fun v h => match v, h with | AV.bool x0, [] => some x0 | _, _ => none
def out7 : R7 → AV U := fun x0 => AV.bool x0
def outh7 : R7 → List (AO U) := fun x0 => []
def D7 : Nat → Dir := dirs [(4, ⟨[2, 3, 5], [], [], []⟩), (9, ⟨[2, 3, 6], [], [], []⟩), (14, ⟨[2, 3, 7], [], [], []⟩)]
def b7 (p0 : List (ByteArray)) (p1 : List TFn) (p2 : List TLt) (p3 : TI) (p4 : List TNd) (p5 : List (ByteArray)) (p6 : List TFn) (p7 : List TLt) (p8 : TI) (p9 : List TNd) (c4 c9 c14 : (Int) → Option R7)  : Option R7 :=
  (S22 p0 p5).bind fun r0 =>
  cond (!r0)
  (some (false))
  (cond ((↑p1.length : Int) != (↑p6.length : Int))
  (some (false))
  (cond ((↑p2.length : Int) != (↑p7.length : Int))
  (some (false))
  ((S23 p3 p8).bind fun r1 =>
  cond (!r1)
  (some (false))
  (cond ((↑p4.length : Int) != (↑p9.length : Int))
  (some (false))
  (c4 (0))))))
def m7_4 (p0 : List (ByteArray)) (p1 : List TFn) (p2 : List TLt) (p3 : TI) (p4 : List TNd) (p5 : List (ByteArray)) (p6 : List TFn) (p7 : List TLt) (p8 : TI) (p9 : List TNd) (v0 : Int) : S U := S.mk [AV.undef, AV.undef, AV.ptr 0 0, AV.ptr 1 0, AV.undef, AV.int IntKind.i64 v0, AV.undef, AV.undef, AV.undef, AV.undef, AV.undef, AV.undef, AV.undef, AV.undef, AV.undef, AV.undef, AV.undef, AV.undef, AV.undef, AV.undef, AV.undef, AV.undef, AV.undef, AV.undef, AV.undef, AV.undef, AV.undef, AV.undef, AV.undef, AV.undef, AV.undef, AV.undef, AV.undef, AV.undef, AV.undef, AV.undef, AV.undef, AV.undef, AV.undef, AV.undef, AV.undef, AV.undef, AV.undef, AV.undef, AV.undef, AV.undef, AV.undef, AV.undef, AV.undef, AV.undef, AV.undef, AV.undef, AV.undef, AV.undef, AV.undef, AV.undef, AV.undef, AV.undef, AV.undef, AV.undef, AV.undef, AV.undef, AV.undef, AV.undef, AV.undef, AV.undef, AV.undef, AV.undef, AV.undef, AV.undef, AV.undef, AV.undef, AV.undef, AV.undef, AV.undef, AV.undef, AV.undef, AV.undef, AV.undef, AV.undef, AV.undef, AV.undef, AV.undef, AV.undef, AV.undef, AV.undef, AV.undef, AV.undef, AV.undef, AV.undef, AV.undef, AV.undef, AV.undef, AV.undef, AV.undef, AV.undef, AV.undef, AV.undef, AV.undef, AV.undef, AV.undef, AV.undef, AV.undef, AV.undef, AV.undef, AV.undef, AV.undef, AV.undef, AV.undef, AV.undef, AV.undef, AV.undef, AV.undef, AV.undef, AV.undef, AV.undef, AV.undef, AV.undef, AV.undef, AV.undef, AV.undef, AV.undef, AV.undef, AV.undef, AV.undef, AV.undef, AV.undef, AV.undef, AV.undef, AV.undef, AV.undef, AV.undef, AV.undef, AV.undef, AV.undef, AV.undef, AV.undef, AV.undef, AV.undef, AV.undef, AV.undef, AV.undef, AV.undef, AV.undef, AV.undef, AV.undef, AV.undef, AV.undef, AV.undef, AV.undef, AV.undef, AV.undef, AV.undef, AV.undef, AV.undef, AV.undef, AV.undef, AV.undef, AV.undef, AV.undef, AV.undef, AV.undef, AV.undef, AV.undef, AV.undef, AV.undef, AV.undef, AV.undef, AV.undef, AV.undef, AV.undef, AV.undef] [AO.box [AV.imm 9 p0, AV.imm 86 p1, AV.imm 75 p2, AV.imm 3 p3, AV.imm 73 p4], AO.box [AV.imm 9 p5, AV.imm 86 p6, AV.imm 75 p7, AV.imm 3 p8, AV.imm 73 p9]]
def b7_4 (p0 : List (ByteArray)) (p1 : List TFn) (p2 : List TLt) (p3 : TI) (p4 : List TNd) (p5 : List (ByteArray)) (p6 : List TFn) (p7 : List TLt) (p8 : TI) (p9 : List TNd) (c4 c9 c14 : (Int) → Option R7) (v0 : Int) : Option R7 :=
  cond (decide (v0 < (↑p1.length : Int)))
  (cond (decide (0 ≤ v0))
  (cond (decide (v0 < (↑p1.length : Int)))
  (cond (decide (v0.toNat < p1.length))
  (cond (decide (0 ≤ v0))
  (cond (decide (v0 < (↑p6.length : Int)))
  (cond (decide (v0.toNat < p6.length))
  (cond (!(p1.getD v0.toNat (X.dflt 86)).fst.toList == (p6.getD v0.toNat (X.dflt 86)).fst.toList)
  (some (false))
  (cond (decide (0 ≤ v0))
  (cond (decide (v0 < (↑p1.length : Int)))
  (cond (decide (v0.toNat < p1.length))
  (cond (decide (0 ≤ v0))
  (cond (decide (v0 < (↑p6.length : Int)))
  (cond (decide (v0.toNat < p6.length))
  (cond ((p1.getD v0.toNat (X.dflt 86)).snd.snd != (p6.getD v0.toNat (X.dflt 86)).snd.snd)
  (some (false))
  (cond (decide (0 ≤ v0))
  (cond (decide (v0 < (↑p1.length : Int)))
  (cond (decide (v0.toNat < p1.length))
  (cond (decide (0 ≤ v0))
  (cond (decide (v0 < (↑p6.length : Int)))
  (cond (decide (v0.toNat < p6.length))
  ((S22 (p1.getD v0.toNat (X.dflt 86)).snd.fst (p6.getD v0.toNat (X.dflt 86)).snd.fst).bind fun r0 =>
  cond (!r0)
  (some (false))
  (c4 (IntKind.i64.wrap (v0 + 1))))
  (none))
  (none))
  (none))
  (none))
  (none))
  (none)))
  (none))
  (none))
  (none))
  (none))
  (none))
  (none)))
  (none))
  (none))
  (none))
  (none))
  (none))
  (none))
  (c9 (0))
def m7_9 (p0 : List (ByteArray)) (p1 : List TFn) (p2 : List TLt) (p3 : TI) (p4 : List TNd) (p5 : List (ByteArray)) (p6 : List TFn) (p7 : List TLt) (p8 : TI) (p9 : List TNd) (v0 : Int) : S U := S.mk [AV.undef, AV.undef, AV.ptr 0 0, AV.ptr 1 0, AV.undef, AV.undef, AV.int IntKind.i64 v0, AV.undef, AV.undef, AV.undef, AV.undef, AV.undef, AV.undef, AV.undef, AV.undef, AV.undef, AV.undef, AV.undef, AV.undef, AV.undef, AV.undef, AV.undef, AV.undef, AV.undef, AV.undef, AV.undef, AV.undef, AV.undef, AV.undef, AV.undef, AV.undef, AV.undef, AV.undef, AV.undef, AV.undef, AV.undef, AV.undef, AV.undef, AV.undef, AV.undef, AV.undef, AV.undef, AV.undef, AV.undef, AV.undef, AV.undef, AV.undef, AV.undef, AV.undef, AV.undef, AV.undef, AV.undef, AV.undef, AV.undef, AV.undef, AV.undef, AV.undef, AV.undef, AV.undef, AV.undef, AV.undef, AV.undef, AV.undef, AV.undef, AV.undef, AV.undef, AV.undef, AV.undef, AV.undef, AV.undef, AV.undef, AV.undef, AV.undef, AV.undef, AV.undef, AV.undef, AV.undef, AV.undef, AV.undef, AV.undef, AV.undef, AV.undef, AV.undef, AV.undef, AV.undef, AV.undef, AV.undef, AV.undef, AV.undef, AV.undef, AV.undef, AV.undef, AV.undef, AV.undef, AV.undef, AV.undef, AV.undef, AV.undef, AV.undef, AV.undef, AV.undef, AV.undef, AV.undef, AV.undef, AV.undef, AV.undef, AV.undef, AV.undef, AV.undef, AV.undef, AV.undef, AV.undef, AV.undef, AV.undef, AV.undef, AV.undef, AV.undef, AV.undef, AV.undef, AV.undef, AV.undef, AV.undef, AV.undef, AV.undef, AV.undef, AV.undef, AV.undef, AV.undef, AV.undef, AV.undef, AV.undef, AV.undef, AV.undef, AV.undef, AV.undef, AV.undef, AV.undef, AV.undef, AV.undef, AV.undef, AV.undef, AV.undef, AV.undef, AV.undef, AV.undef, AV.undef, AV.undef, AV.undef, AV.undef, AV.undef, AV.undef, AV.undef, AV.undef, AV.undef, AV.undef, AV.undef, AV.undef, AV.undef, AV.undef, AV.undef, AV.undef, AV.undef, AV.undef, AV.undef, AV.undef, AV.undef, AV.undef, AV.undef, AV.undef, AV.undef, AV.undef, AV.undef] [AO.box [AV.imm 9 p0, AV.imm 86 p1, AV.imm 75 p2, AV.imm 3 p3, AV.imm 73 p4], AO.box [AV.imm 9 p5, AV.imm 86 p6, AV.imm 75 p7, AV.imm 3 p8, AV.imm 73 p9]]
def b7_9 (p0 : List (ByteArray)) (p1 : List TFn) (p2 : List TLt) (p3 : TI) (p4 : List TNd) (p5 : List (ByteArray)) (p6 : List TFn) (p7 : List TLt) (p8 : TI) (p9 : List TNd) (c4 c9 c14 : (Int) → Option R7) (v0 : Int) : Option R7 :=
  cond (decide (v0 < (↑p2.length : Int)))
  (cond (decide (0 ≤ v0))
  (cond (decide (v0 < (↑p2.length : Int)))
  (cond (decide (v0.toNat < p2.length))
  (cond (decide (0 ≤ v0))
  (cond (decide (v0 < (↑p7.length : Int)))
  (cond (decide (v0.toNat < p7.length))
  (cond (if true = true then !((p2.getD v0.toNat (X.dflt 75)).fst.toList == (p7.getD v0.toNat (X.dflt 75)).fst.toList && ((p2.getD v0.toNat (X.dflt 75)).snd == (p7.getD v0.toNat (X.dflt 75)).snd && true)) else (p2.getD v0.toNat (X.dflt 75)).fst.toList == (p7.getD v0.toNat (X.dflt 75)).fst.toList && ((p2.getD v0.toNat (X.dflt 75)).snd == (p7.getD v0.toNat (X.dflt 75)).snd && true))
  (some (false))
  (c9 (IntKind.i64.wrap (v0 + 1))))
  (none))
  (none))
  (none))
  (none))
  (none))
  (none))
  (c14 (0))
def m7_14 (p0 : List (ByteArray)) (p1 : List TFn) (p2 : List TLt) (p3 : TI) (p4 : List TNd) (p5 : List (ByteArray)) (p6 : List TFn) (p7 : List TLt) (p8 : TI) (p9 : List TNd) (v0 : Int) : S U := S.mk [AV.undef, AV.undef, AV.ptr 0 0, AV.ptr 1 0, AV.undef, AV.undef, AV.undef, AV.int IntKind.i64 v0, AV.undef, AV.undef, AV.undef, AV.undef, AV.undef, AV.undef, AV.undef, AV.undef, AV.undef, AV.undef, AV.undef, AV.undef, AV.undef, AV.undef, AV.undef, AV.undef, AV.undef, AV.undef, AV.undef, AV.undef, AV.undef, AV.undef, AV.undef, AV.undef, AV.undef, AV.undef, AV.undef, AV.undef, AV.undef, AV.undef, AV.undef, AV.undef, AV.undef, AV.undef, AV.undef, AV.undef, AV.undef, AV.undef, AV.undef, AV.undef, AV.undef, AV.undef, AV.undef, AV.undef, AV.undef, AV.undef, AV.undef, AV.undef, AV.undef, AV.undef, AV.undef, AV.undef, AV.undef, AV.undef, AV.undef, AV.undef, AV.undef, AV.undef, AV.undef, AV.undef, AV.undef, AV.undef, AV.undef, AV.undef, AV.undef, AV.undef, AV.undef, AV.undef, AV.undef, AV.undef, AV.undef, AV.undef, AV.undef, AV.undef, AV.undef, AV.undef, AV.undef, AV.undef, AV.undef, AV.undef, AV.undef, AV.undef, AV.undef, AV.undef, AV.undef, AV.undef, AV.undef, AV.undef, AV.undef, AV.undef, AV.undef, AV.undef, AV.undef, AV.undef, AV.undef, AV.undef, AV.undef, AV.undef, AV.undef, AV.undef, AV.undef, AV.undef, AV.undef, AV.undef, AV.undef, AV.undef, AV.undef, AV.undef, AV.undef, AV.undef, AV.undef, AV.undef, AV.undef, AV.undef, AV.undef, AV.undef, AV.undef, AV.undef, AV.undef, AV.undef, AV.undef, AV.undef, AV.undef, AV.undef, AV.undef, AV.undef, AV.undef, AV.undef, AV.undef, AV.undef, AV.undef, AV.undef, AV.undef, AV.undef, AV.undef, AV.undef, AV.undef, AV.undef, AV.undef, AV.undef, AV.undef, AV.undef, AV.undef, AV.undef, AV.undef, AV.undef, AV.undef, AV.undef, AV.undef, AV.undef, AV.undef, AV.undef, AV.undef, AV.undef, AV.undef, AV.undef, AV.undef, AV.undef, AV.undef, AV.undef, AV.undef, AV.undef, AV.undef, AV.undef] [AO.box [AV.imm 9 p0, AV.imm 86 p1, AV.imm 75 p2, AV.imm 3 p3, AV.imm 73 p4], AO.box [AV.imm 9 p5, AV.imm 86 p6, AV.imm 75 p7, AV.imm 3 p8, AV.imm 73 p9]]
def b7_14 (p0 : List (ByteArray)) (p1 : List TFn) (p2 : List TLt) (p3 : TI) (p4 : List TNd) (p5 : List (ByteArray)) (p6 : List TFn) (p7 : List TLt) (p8 : TI) (p9 : List TNd) (c4 c9 c14 : (Int) → Option R7) (v0 : Int) : Option R7 :=
  cond (decide (v0 < (↑p4.length : Int)))
  (cond (decide (0 ≤ v0))
  (cond (decide (v0 < (↑p4.length : Int)))
  (cond (decide (v0.toNat < p4.length))
  (cond (decide (0 ≤ v0))
  (cond (decide (v0 < (↑p9.length : Int)))
  (cond (decide (v0.toNat < p9.length))
  (cond ((p4.getD v0.toNat (X.dflt 73)).fst != (p9.getD v0.toNat (X.dflt 73)).fst)
  (some (false))
  (cond (!(p4.getD v0.toNat (X.dflt 73)).snd.fst.toList == (p9.getD v0.toNat (X.dflt 73)).snd.fst.toList)
  (some (false))
  (cond ((p4.getD v0.toNat (X.dflt 73)).snd.snd.snd.snd.snd.fst != (p9.getD v0.toNat (X.dflt 73)).snd.snd.snd.snd.snd.fst)
  (some (false))
  ((S24 (p4.getD v0.toNat (X.dflt 73)).snd.snd.fst (p4.getD v0.toNat (X.dflt 73)).snd.snd.snd.fst (p4.getD v0.toNat (X.dflt 73)).snd.snd.snd.snd.fst (p9.getD v0.toNat (X.dflt 73)).snd.snd.fst (p9.getD v0.toNat (X.dflt 73)).snd.snd.snd.fst (p9.getD v0.toNat (X.dflt 73)).snd.snd.snd.snd.fst).bind fun r0 =>
  cond (!r0)
  (some (false))
  ((S23 (p4.getD v0.toNat (X.dflt 73)).snd.snd.snd.snd.snd.snd (p9.getD v0.toNat (X.dflt 73)).snd.snd.snd.snd.snd.snd).bind fun r1 =>
  cond (!r1)
  (some (false))
  (c14 (IntKind.i64.wrap (v0 + 1))))))))
  (none))
  (none))
  (none))
  (none))
  (none))
  (none))
  (some (true))
theorem hk7 : ∀ v h' r, k7 v h' = some r → v = out7 r ∧ h' = outh7 r := by
  intro v h' r h
  unfold k7 at h
  split at h
  · injection h with h; subst h; exact ⟨rfl, rfl⟩
  · cases h
abbrev q7 : Prim U R7 := prims X [⟨22, fun _ => true, [.lend, .lend], F22 S22⟩, ⟨23, fun _ => true, [.lend, .lend], F23 S23⟩, ⟨24, fun _ => true, [.lend, .lend], F24 S24⟩]
theorem s7 (c : Nat → S U → Option R7) (p0 : List (ByteArray)) (p1 : List TFn) (p2 : List TLt) (p3 : TI) (p4 : List TNd) (p5 : List (ByteArray)) (p6 : List TFn) (p7 : List TLt) (p8 : TI) (p9 : List TNd) : seg TP X q7 [4, 9, 14] (fun q st => c q (keepD D7 (h7 p0 p1 p2 p3 p4 p5 p6 p7 p8 p9).length q st)) body7 (finH TP Tryd.f7.results.toList (h7 p0 p1 p2 p3 p4 p5 p6 p7 p8 p9).length false k7) (start [.agg [.imm 9 p0, .imm 86 p1, .imm 75 p2, .imm 3 p3, .imm 73 p4], .agg [.imm 9 p5, .imm 86 p6, .imm 75 p7, .imm 3 p8, .imm 73 p9]] Tryd.f7.ntmps (h7 p0 p1 p2 p3 p4 p5 p6 p7 p8 p9)) = b7 p0 p1 p2 p3 p4 p5 p6 p7 p8 p9 (fun v0 => c 4 (m7_4 p0 p1 p2 p3 p4 p5 p6 p7 p8 p9 v0)) (fun v0 => c 9 (m7_9 p0 p1 p2 p3 p4 p5 p6 p7 p8 p9 v0)) (fun v0 => c 14 (m7_14 p0 p1 p2 p3 p4 p5 p6 p7 p8 p9 v0)) := by kernel_rfl
theorem s7_4 (c : Nat → S U → Option R7) (p0 : List (ByteArray)) (p1 : List TFn) (p2 : List TLt) (p3 : TI) (p4 : List TNd) (p5 : List (ByteArray)) (p6 : List TFn) (p7 : List TLt) (p8 : TI) (p9 : List TNd) (v0 : Int) : res TP X q7 [4, 9, 14] (fun q st => c q (keepD D7 (h7 p0 p1 p2 p3 p4 p5 p6 p7 p8 p9).length q st)) 4 body7 (finH TP Tryd.f7.results.toList (h7 p0 p1 p2 p3 p4 p5 p6 p7 p8 p9).length false k7) (m7_4 p0 p1 p2 p3 p4 p5 p6 p7 p8 p9 v0) = b7_4 p0 p1 p2 p3 p4 p5 p6 p7 p8 p9 (fun v0 => c 4 (m7_4 p0 p1 p2 p3 p4 p5 p6 p7 p8 p9 v0)) (fun v0 => c 9 (m7_9 p0 p1 p2 p3 p4 p5 p6 p7 p8 p9 v0)) (fun v0 => c 14 (m7_14 p0 p1 p2 p3 p4 p5 p6 p7 p8 p9 v0)) v0 := by kernel_rfl
theorem s7_9 (c : Nat → S U → Option R7) (p0 : List (ByteArray)) (p1 : List TFn) (p2 : List TLt) (p3 : TI) (p4 : List TNd) (p5 : List (ByteArray)) (p6 : List TFn) (p7 : List TLt) (p8 : TI) (p9 : List TNd) (v0 : Int) : res TP X q7 [4, 9, 14] (fun q st => c q (keepD D7 (h7 p0 p1 p2 p3 p4 p5 p6 p7 p8 p9).length q st)) 9 body7 (finH TP Tryd.f7.results.toList (h7 p0 p1 p2 p3 p4 p5 p6 p7 p8 p9).length false k7) (m7_9 p0 p1 p2 p3 p4 p5 p6 p7 p8 p9 v0) = b7_9 p0 p1 p2 p3 p4 p5 p6 p7 p8 p9 (fun v0 => c 4 (m7_4 p0 p1 p2 p3 p4 p5 p6 p7 p8 p9 v0)) (fun v0 => c 9 (m7_9 p0 p1 p2 p3 p4 p5 p6 p7 p8 p9 v0)) (fun v0 => c 14 (m7_14 p0 p1 p2 p3 p4 p5 p6 p7 p8 p9 v0)) v0 := by kernel_rfl
theorem s7_14 (c : Nat → S U → Option R7) (p0 : List (ByteArray)) (p1 : List TFn) (p2 : List TLt) (p3 : TI) (p4 : List TNd) (p5 : List (ByteArray)) (p6 : List TFn) (p7 : List TLt) (p8 : TI) (p9 : List TNd) (v0 : Int) : res TP X q7 [4, 9, 14] (fun q st => c q (keepD D7 (h7 p0 p1 p2 p3 p4 p5 p6 p7 p8 p9).length q st)) 14 body7 (finH TP Tryd.f7.results.toList (h7 p0 p1 p2 p3 p4 p5 p6 p7 p8 p9).length false k7) (m7_14 p0 p1 p2 p3 p4 p5 p6 p7 p8 p9 v0) = b7_14 p0 p1 p2 p3 p4 p5 p6 p7 p8 p9 (fun v0 => c 4 (m7_4 p0 p1 p2 p3 p4 p5 p6 p7 p8 p9 v0)) (fun v0 => c 9 (m7_9 p0 p1 p2 p3 p4 p5 p6 p7 p8 p9 v0)) (fun v0 => c 14 (m7_14 p0 p1 p2 p3 p4 p5 p6 p7 p8 p9 v0)) v0 := by kernel_rfl
mutual
def f7_4 (p0 : List (ByteArray)) (p1 : List TFn) (p2 : List TLt) (p3 : TI) (p4 : List TNd) (p5 : List (ByteArray)) (p6 : List TFn) (p7 : List TLt) (p8 : TI) (p9 : List TNd) : Nat → Int → Option R7
  | 0 => fun _ => none
  | k + 1 => b7_4 p0 p1 p2 p3 p4 p5 p6 p7 p8 p9 (f7_4 p0 p1 p2 p3 p4 p5 p6 p7 p8 p9 k) (f7_9 p0 p1 p2 p3 p4 p5 p6 p7 p8 p9 k) (f7_14 p0 p1 p2 p3 p4 p5 p6 p7 p8 p9 k)
def f7_9 (p0 : List (ByteArray)) (p1 : List TFn) (p2 : List TLt) (p3 : TI) (p4 : List TNd) (p5 : List (ByteArray)) (p6 : List TFn) (p7 : List TLt) (p8 : TI) (p9 : List TNd) : Nat → Int → Option R7
  | 0 => fun _ => none
  | k + 1 => b7_9 p0 p1 p2 p3 p4 p5 p6 p7 p8 p9 (f7_4 p0 p1 p2 p3 p4 p5 p6 p7 p8 p9 k) (f7_9 p0 p1 p2 p3 p4 p5 p6 p7 p8 p9 k) (f7_14 p0 p1 p2 p3 p4 p5 p6 p7 p8 p9 k)
def f7_14 (p0 : List (ByteArray)) (p1 : List TFn) (p2 : List TLt) (p3 : TI) (p4 : List TNd) (p5 : List (ByteArray)) (p6 : List TFn) (p7 : List TLt) (p8 : TI) (p9 : List TNd) : Nat → Int → Option R7
  | 0 => fun _ => none
  | k + 1 => b7_14 p0 p1 p2 p3 p4 p5 p6 p7 p8 p9 (f7_4 p0 p1 p2 p3 p4 p5 p6 p7 p8 p9 k) (f7_9 p0 p1 p2 p3 p4 p5 p6 p7 p8 p9 k) (f7_14 p0 p1 p2 p3 p4 p5 p6 p7 p8 p9 k)
end
def f7 (k : Nat) (p0 : List (ByteArray)) (p1 : List TFn) (p2 : List TLt) (p3 : TI) (p4 : List TNd) (p5 : List (ByteArray)) (p6 : List TFn) (p7 : List TLt) (p8 : TI) (p9 : List TNd) : Option R7 := b7 p0 p1 p2 p3 p4 p5 p6 p7 p8 p9 (f7_4 p0 p1 p2 p3 p4 p5 p6 p7 p8 p9 k) (f7_9 p0 p1 p2 p3 p4 p5 p6 p7 p8 p9 k) (f7_14 p0 p1 p2 p3 p4 p5 p6 p7 p8 p9 k)
theorem e7 (p0 : List (ByteArray)) (p1 : List TFn) (p2 : List TLt) (p3 : TI) (p4 : List TNd) (p5 : List (ByteArray)) (p6 : List TFn) (p7 : List TLt) (p8 : TI) (p9 : List TNd) : ∀ k, ((fun v0 => cutG TP X q7 [4, 9, 14] D7 (h7 p0 p1 p2 p3 p4 p5 p6 p7 p8 p9).length body7 (finH TP Tryd.f7.results.toList (h7 p0 p1 p2 p3 p4 p5 p6 p7 p8 p9).length false k7) k 4 (m7_4 p0 p1 p2 p3 p4 p5 p6 p7 p8 p9 v0)) = f7_4 p0 p1 p2 p3 p4 p5 p6 p7 p8 p9 k) ∧ ((fun v0 => cutG TP X q7 [4, 9, 14] D7 (h7 p0 p1 p2 p3 p4 p5 p6 p7 p8 p9).length body7 (finH TP Tryd.f7.results.toList (h7 p0 p1 p2 p3 p4 p5 p6 p7 p8 p9).length false k7) k 9 (m7_9 p0 p1 p2 p3 p4 p5 p6 p7 p8 p9 v0)) = f7_9 p0 p1 p2 p3 p4 p5 p6 p7 p8 p9 k) ∧ ((fun v0 => cutG TP X q7 [4, 9, 14] D7 (h7 p0 p1 p2 p3 p4 p5 p6 p7 p8 p9).length body7 (finH TP Tryd.f7.results.toList (h7 p0 p1 p2 p3 p4 p5 p6 p7 p8 p9).length false k7) k 14 (m7_14 p0 p1 p2 p3 p4 p5 p6 p7 p8 p9 v0)) = f7_14 p0 p1 p2 p3 p4 p5 p6 p7 p8 p9 k)
  | 0 => ⟨rfl, rfl, rfl⟩
  | k + 1 => by
    have ih := e7 p0 p1 p2 p3 p4 p5 p6 p7 p8 p9 k
    refine ⟨?_, ?_, ?_⟩
    · funext v0
      refine (if_pos (by kernel_rfl)).trans ?_
      rw [s7_4]
      simp only [ih]
      rfl
    · funext v0
      refine (if_pos (by kernel_rfl)).trans ?_
      rw [s7_9]
      simp only [ih]
      rfl
    · funext v0
      refine (if_pos (by kernel_rfl)).trans ?_
      rw [s7_14]
      simp only [ih]
      rfl
theorem pure7 (p0 : List (ByteArray)) (p1 : List TFn) (p2 : List TLt) (p3 : TI) (p4 : List TNd) (p5 : List (ByteArray)) (p6 : List TFn) (p7 : List TLt) (p8 : TI) (p9 : List TNd) (pok : PrmOK TP X q7) (k : Nat) (r : R7) (h : f7 k p0 p1 p2 p3 p4 p5 p6 p7 p8 p9 = some r) : PureH TP X 7 [.agg [.imm 9 p0, .imm 86 p1, .imm 75 p2, .imm 3 p3, .imm 73 p4], .agg [.imm 9 p5, .imm 86 p6, .imm 75 p7, .imm 3 p8, .imm 73 p9]] (h7 p0 p1 p2 p3 p4 p5 p6 p7 p8 p9) (out7 r) (outh7 r) :=
  pure_gen good k (fn := Tryd.f7) (body := body7) (prim := q7) (D := D7) (cuts := [4, 9, 14]) (h := h7 p0 p1 p2 p3 p4 p5 p6 p7 p8 p9) (own := false) (by kernel_rfl) (by kernel_rfl) (by decide +kernel) pok hk7 (by
    rw [s7]
    have ih := e7 p0 p1 p2 p3 p4 p5 p6 p7 p8 p9 k
    simp only [ih]
    exact h)
def F7 {R : Type} (spec : (List (ByteArray)) → (List TFn) → (List TLt) → TI → (List TNd) → (List (ByteArray)) → (List TFn) → (List TLt) → TI → (List TNd) → Option R7) : Fn U R := fun args h k => match args, h with | [.agg [.imm 9 p0, .imm 86 p1, .imm 75 p2, .imm 3 p3, .imm 73 p4], .agg [.imm 9 p5, .imm 86 p6, .imm 75 p7, .imm 3 p8, .imm 73 p9]], [] => (spec p0 p1 p2 p3 p4 p5 p6 p7 p8 p9).bind fun r => k (out7 r) (outh7 r) | _, _ => none
theorem ok7 {R : Type} (spec : (List (ByteArray)) → (List TFn) → (List TLt) → TI → (List TNd) → (List (ByteArray)) → (List TFn) → (List TLt) → TI → (List TNd) → Option R7) (hp : ∀ (p0 : List (ByteArray)) (p1 : List TFn) (p2 : List TLt) (p3 : TI) (p4 : List TNd) (p5 : List (ByteArray)) (p6 : List TFn) (p7 : List TLt) (p8 : TI) (p9 : List TNd) (r : R7), spec p0 p1 p2 p3 p4 p5 p6 p7 p8 p9 = some r → PureH TP X 7 [.agg [.imm 9 p0, .imm 86 p1, .imm 75 p2, .imm 3 p3, .imm 73 p4], .agg [.imm 9 p5, .imm 86 p6, .imm 75 p7, .imm 3 p8, .imm 73 p9]] (h7 p0 p1 p2 p3 p4 p5 p6 p7 p8 p9) (out7 r) (outh7 r)) : FnOK TP X 7 (F7 spec : Fn U R) := by
  intro args h k r hh
  unfold F7 at hh
  split at hh
  · obtain ⟨x, h1, h2⟩ := Option.bind_eq_some_iff.1 hh
    exact ⟨_, _, h2, hp _ _ _ _ _ _ _ _ _ _ _ h1⟩
  · cases hh
theorem pok7 : PrmOK TP X q7 := prims_cons good okS22 (prims_cons good okS23 (prims_cons good okS24 (prims_nil TP X mixed)))
noncomputable def S7 (p0 : List (ByteArray)) (p1 : List TFn) (p2 : List TLt) (p3 : TI) (p4 : List TNd) (p5 : List (ByteArray)) (p6 : List TFn) (p7 : List TLt) (p8 : TI) (p9 : List TNd) : Option R7 := evv fun k => f7 k p0 p1 p2 p3 p4 p5 p6 p7 p8 p9
theorem okS7 {R : Type} : FnOK TP X 7 (F7 S7 : Fn U R) := ok7 S7 fun p0 p1 p2 p3 p4 p5 p6 p7 p8 p9 r h => by
  obtain ⟨k, hk⟩ := evv_fuel h
  exact pure7 p0 p1 p2 p3 p4 p5 p6 p7 p8 p9 pok7 k r hk
end
end Go.Abs.Z
namespace Go.Abs.Z
open Go Go.Abs Go.Proofs
noncomputable section
abbrev R27 : Type := (Bool)
noncomputable def body27 : Go.Code := (Tryd.f27.body).getD Go.Code.skip
def h27 (p0 p1 : List TRt) : List (AO U) := []
def k27 : AV U → List (AO U) → Option R27 := fun v h => match v, h with | AV.bool x0, [] => some x0 | _, _ => none
def out27 : R27 → AV U := fun x0 => AV.bool x0
def outh27 : R27 → List (AO U) := fun x0 => []
def D27 : Nat → Dir := dirs [(4, ⟨[0, 1, 5], [], [], []⟩)]
def b27 (p0 p1 : List TRt) (c4 : (Int) → Option R27)  : Option R27 :=
  cond ((↑p0.length : Int) != (↑p1.length : Int))
  (some (false))
  (c4 (0))
def m27_4 (p0 p1 : List TRt) (v2 : Int) : S U := S.mk [AV.imm 65 p0, AV.imm 65 p1, AV.undef, AV.undef, AV.undef, AV.int IntKind.i64 v2, AV.undef, AV.undef, AV.undef, AV.undef, AV.undef, AV.undef, AV.undef, AV.undef, AV.undef, AV.undef, AV.undef, AV.undef, AV.undef, AV.undef, AV.undef, AV.undef, AV.undef, AV.undef, AV.undef, AV.undef, AV.undef] []
def b27_4 (p0 p1 : List TRt) (c4 : (Int) → Option R27) (v2 : Int) : Option R27 :=
  cond (decide (v2 < (↑p0.length : Int)))
  (cond (decide (0 ≤ v2))
  (cond (decide (v2 < (↑p0.length : Int)))
  (cond (decide (v2.toNat < p0.length))
  (cond (decide (0 ≤ v2))
  (cond (decide (v2 < (↑p1.length : Int)))
  (cond (decide (v2.toNat < p1.length))
  ((S24 (p0.getD v2.toNat (X.dflt 65)).fst (p0.getD v2.toNat (X.dflt 65)).snd.fst (p0.getD v2.toNat (X.dflt 65)).snd.snd (p1.getD v2.toNat (X.dflt 65)).fst (p1.getD v2.toNat (X.dflt 65)).snd.fst (p1.getD v2.toNat (X.dflt 65)).snd.snd).bind fun r0 =>
  cond (!r0)
  (some (false))
  (c4 (IntKind.i64.wrap (v2 + 1))))
  (none))
  (none))
  (none))
  (none))
  (none))
  (none))
  (some (true))
theorem hk27 : ∀ v h' r, k27 v h' = some r → v = out27 r ∧ h' = outh27 r := by
  intro v h' r h
  unfold k27 at h
  split at h
  · injection h with h; subst h; exact ⟨rfl, rfl⟩
  · cases h
abbrev q27 : Prim U R27 := prims X [⟨24, fun _ => true, [.lend, .lend], F24 S24⟩]
theorem s27 (c : Nat → S U → Option R27) (p0 p1 : List TRt) : seg TP X q27 [4] (fun q st => c q (keepD D27 (h27 p0 p1).length q st)) body27 (finH TP Tryd.f27.results.toList (h27 p0 p1).length false k27) (start [.imm 65 p0, .imm 65 p1] Tryd.f27.ntmps (h27 p0 p1)) = b27 p0 p1 (fun v2 => c 4 (m27_4 p0 p1 v2)) := by kernel_rfl
theorem s27_4 (c : Nat → S U → Option R27) (p0 p1 : List TRt) (v2 : Int) : res TP X q27 [4] (fun q st => c q (keepD D27 (h27 p0 p1).length q st)) 4 body27 (finH TP Tryd.f27.results.toList (h27 p0 p1).length false k27) (m27_4 p0 p1 v2) = b27_4 p0 p1 (fun v2 => c 4 (m27_4 p0 p1 v2)) v2 := by kernel_rfl
def f27_4 (p0 p1 : List TRt) : Nat → Int → Option R27
  | 0 => fun _ => none
  | k + 1 => b27_4 p0 p1 (f27_4 p0 p1 k)
def f27 (k : Nat) (p0 p1 : List TRt) : Option R27 := b27 p0 p1 (f27_4 p0 p1 k)
theorem e27 (p0 p1 : List TRt) : ∀ k, ((fun v2 => cutG TP X q27 [4] D27 (h27 p0 p1).length body27 (finH TP Tryd.f27.results.toList (h27 p0 p1).length false k27) k 4 (m27_4 p0 p1 v2)) = f27_4 p0 p1 k)
  | 0 => rfl
  | k + 1 => by
    have ih := e27 p0 p1 k
    · funext v2
      refine (if_pos (by kernel_rfl)).trans ?_
      rw [s27_4]
      simp only [ih]
      rfl
theorem pure27 (p0 p1 : List TRt) (pok : PrmOK TP X q27) (k : Nat) (r : R27) (h : f27 k p0 p1 = some r) : PureH TP X 27 [.imm 65 p0, .imm 65 p1] (h27 p0 p1) (out27 r) (outh27 r) :=
  pure_gen good k (fn := Tryd.f27) (body := body27) (prim := q27) (D := D27) (cuts := [4]) (h := h27 p0 p1) (own := false) (by kernel_rfl) (by kernel_rfl) (by decide +kernel) pok hk27 (by
    rw [s27]
    have ih := e27 p0 p1 k
    simp only [ih]
    exact h)
def F27 {R : Type} (spec : (List TRt) → (List TRt) → Option R27) : Fn U R := fun args h k => match args, h with | [.imm 65 p0, .imm 65 p1], [] => (spec p0 p1).bind fun r => k (out27 r) (outh27 r) | _, _ => none
theorem ok27 {R : Type} (spec : (List TRt) → (List TRt) → Option R27) (hp : ∀ (p0 : List TRt) (p1 : List TRt) (r : R27), spec p0 p1 = some r → PureH TP X 27 [.imm 65 p0, .imm 65 p1] (h27 p0 p1) (out27 r) (outh27 r)) : FnOK TP X 27 (F27 spec : Fn U R) := by
  intro args h k r hh
  unfold F27 at hh
  split at hh
  · obtain ⟨x, h1, h2⟩ := Option.bind_eq_some_iff.1 hh
    exact ⟨_, _, h2, hp _ _ _ h1⟩
  · cases hh
theorem pok27 : PrmOK TP X q27 := prims_cons good okS24 (prims_nil TP X mixed)
noncomputable def S27 (p0 p1 : List TRt) : Option R27 := evv fun k => f27 k p0 p1
theorem okS27 {R : Type} : FnOK TP X 27 (F27 S27 : Fn U R) := ok27 S27 fun p0 p1 r h => by
  obtain ⟨k, hk⟩ := evv_fuel h
  exact pure27 p0 p1 pok27 k r hk
end
end Go.Abs.Z
namespace Go.Abs.Z
open Go Go.Abs Go.Proofs
noncomputable section
abbrev R28 : Type := (Bool)
noncomputable def body28 : Go.Code := (Tryd.f28.body).getD Go.Code.skip
def h28 (p0 p1 : List (List TRt)) : List (AO U) := []
def k28 : AV U → List (AO U) → Option R28 := fun v h => match v, h with | AV.bool x0, [] => some x0 | _, _ => none
def out28 : R28 → AV U := fun x0 => AV.bool x0
def outh28 : R28 → List (AO U) := fun x0 => []
def D28 : Nat → Dir := dirs [(4, ⟨[0, 1, 5], [], [], []⟩)]
def b28 (p0 p1 : List (List TRt)) (c4 : (Int) → Option R28)  : Option R28 :=
  cond ((↑p0.length : Int) != (↑p1.length : Int))
  (some (false))
  (c4 (0))
def m28_4 (p0 p1 : List (List TRt)) (v2 : Int) : S U := S.mk [AV.imm 92 p0, AV.imm 92 p1, AV.undef, AV.undef, AV.undef, AV.int IntKind.i64 v2, AV.undef, AV.undef, AV.undef, AV.undef, AV.undef, AV.undef, AV.undef, AV.undef, AV.undef, AV.undef, AV.undef, AV.undef, AV.undef, AV.undef, AV.undef, AV.undef, AV.undef, AV.undef, AV.undef, AV.undef, AV.undef] []
def b28_4 (p0 p1 : List (List TRt)) (c4 : (Int) → Option R28) (v2 : Int) : Option R28 :=
  cond (decide (v2 < (↑p0.length : Int)))
  (cond (decide (0 ≤ v2))
  (cond (decide (v2 < (↑p0.length : Int)))
  (cond (decide (v2.toNat < p0.length))
  (cond (decide (0 ≤ v2))
  (cond (decide (v2 < (↑p1.length : Int)))
  (cond (decide (v2.toNat < p1.length))
  ((S27 (p0.getD v2.toNat (X.dflt 92)) (p1.getD v2.toNat (X.dflt 92))).bind fun r0 =>
  cond (!r0)
  (some (false))
  (c4 (IntKind.i64.wrap (v2 + 1))))
  (none))
  (none))
  (none))
  (none))
  (none))
  (none))
  (some (true))
theorem hk28 : ∀ v h' r, k28 v h' = some r → v = out28 r ∧ h' = outh28 r := by
  intro v h' r h
  unfold k28 at h
  split at h
  · injection h with h; subst h; exact ⟨rfl, rfl⟩
  · cases h
abbrev q28 : Prim U R28 := prims X [⟨27, fun _ => true, [.lend, .lend], F27 S27⟩]
theorem s28 (c : Nat → S U → Option R28) (p0 p1 : List (List TRt)) : seg TP X q28 [4] (fun q st => c q (keepD D28 (h28 p0 p1).length q st)) body28 (finH TP Tryd.f28.results.toList (h28 p0 p1).length false k28) (start [.imm 92 p0, .imm 92 p1] Tryd.f28.ntmps (h28 p0 p1)) = b28 p0 p1 (fun v2 => c 4 (m28_4 p0 p1 v2)) := by kernel_rfl
theorem s28_4 (c : Nat → S U → Option R28) (p0 p1 : List (List TRt)) (v2 : Int) : res TP X q28 [4] (fun q st => c q (keepD D28 (h28 p0 p1).length q st)) 4 body28 (finH TP Tryd.f28.results.toList (h28 p0 p1).length false k28) (m28_4 p0 p1 v2) = b28_4 p0 p1 (fun v2 => c 4 (m28_4 p0 p1 v2)) v2 := by kernel_rfl
def f28_4 (p0 p1 : List (List TRt)) : Nat → Int → Option R28
  | 0 => fun _ => none
  | k + 1 => b28_4 p0 p1 (f28_4 p0 p1 k)
def f28 (k : Nat) (p0 p1 : List (List TRt)) : Option R28 := b28 p0 p1 (f28_4 p0 p1 k)
theorem e28 (p0 p1 : List (List TRt)) : ∀ k, ((fun v2 => cutG TP X q28 [4] D28 (h28 p0 p1).length body28 (finH TP Tryd.f28.results.toList (h28 p0 p1).length false k28) k 4 (m28_4 p0 p1 v2)) = f28_4 p0 p1 k)
  | 0 => rfl
  | k + 1 => by
    have ih := e28 p0 p1 k
    · funext v2
      refine (if_pos (by kernel_rfl)).trans ?_
      rw [s28_4]
      simp only [ih]
      rfl
theorem pure28 (p0 p1 : List (List TRt)) (pok : PrmOK TP X q28) (k : Nat) (r : R28) (h : f28 k p0 p1 = some r) : PureH TP X 28 [.imm 92 p0, .imm 92 p1] (h28 p0 p1) (out28 r) (outh28 r) :=
  pure_gen good k (fn := Tryd.f28) (body := body28) (prim := q28) (D := D28) (cuts := [4]) (h := h28 p0 p1) (own := false) (by kernel_rfl) (by kernel_rfl) (by decide +kernel) pok hk28 (by
    rw [s28]
    have ih := e28 p0 p1 k
    simp only [ih]
    exact h)
def F28 {R : Type} (spec : (List (List TRt)) → (List (List TRt)) → Option R28) : Fn U R := fun args h k => match args, h with | [.imm 92 p0, .imm 92 p1], [] => (spec p0 p1).bind fun r => k (out28 r) (outh28 r) | _, _ => none
theorem ok28 {R : Type} (spec : (List (List TRt)) → (List (List TRt)) → Option R28) (hp : ∀ (p0 : List (List TRt)) (p1 : List (List TRt)) (r : R28), spec p0 p1 = some r → PureH TP X 28 [.imm 92 p0, .imm 92 p1] (h28 p0 p1) (out28 r) (outh28 r)) : FnOK TP X 28 (F28 spec : Fn U R) := by
  intro args h k r hh
  unfold F28 at hh
  split at hh
  · obtain ⟨x, h1, h2⟩ := Option.bind_eq_some_iff.1 hh
    exact ⟨_, _, h2, hp _ _ _ h1⟩
  · cases hh
theorem pok28 : PrmOK TP X q28 := prims_cons good okS27 (prims_nil TP X mixed)
noncomputable def S28 (p0 p1 : List (List TRt)) : Option R28 := evv fun k => f28 k p0 p1
theorem okS28 {R : Type} : FnOK TP X 28 (F28 S28 : Fn U R) := ok28 S28 fun p0 p1 r h => by
  obtain ⟨k, hk⟩ := evv_fuel h
  exact pure28 p0 p1 pok28 k r hk
end
end Go.Abs.Z
namespace Go.Abs.Z
open Go Go.Abs Go.Proofs
noncomputable section
abbrev R50 : Type := (Bool)
noncomputable def body50 : Go.Code := (Tryd.f50.body).getD Go.Code.skip
def h50 (p0 : Int) (p1 : TI) (p2 : Int) (p3 : TI) : List (AO U) := []
def k50 : AV U → List (AO U) → Option R50 := fun v h => match v, h with | AV.bool x0, [] => some x0 | _, _ => none
def out50 : R50 → AV U := fun x0 => AV.bool x0
def outh50 : R50 → List (AO U) := fun x0 => []
def D50 : Nat → Dir := dirs []
def b50 (p0 : Int) (p1 : TI) (p2 : Int) (p3 : TI)   : Option R50 :=
  cond (p0 == p2)
  ((S26 p1 p3).bind fun r0 =>
  some (r0))
  (some (false))
theorem hk50 : ∀ v h' r, k50 v h' = some r → v = out50 r ∧ h' = outh50 r := by
  intro v h' r h
  unfold k50 at h
  split at h
  · injection h with h; subst h; exact ⟨rfl, rfl⟩
  · cases h
abbrev q50 : Prim U R50 := prims X [⟨26, fun _ => true, [.lend, .lend], F26 S26⟩]
theorem s50 (c : Nat → S U → Option R50) (p0 : Int) (p1 : TI) (p2 : Int) (p3 : TI) : seg TP X q50 [] (fun q st => c q (keepD D50 (h50 p0 p1 p2 p3).length q st)) body50 (finH TP Tryd.f50.results.toList (h50 p0 p1 p2 p3).length false k50) (start [.agg [.int .i64 p0, .imm 100 p1], .agg [.int .i64 p2, .imm 100 p3]] Tryd.f50.ntmps (h50 p0 p1 p2 p3)) = b50 p0 p1 p2 p3  := by kernel_rfl
def f50 (_ : Nat) (p0 : Int) (p1 : TI) (p2 : Int) (p3 : TI) : Option R50 := b50 p0 p1 p2 p3
theorem pure50 (p0 : Int) (p1 : TI) (p2 : Int) (p3 : TI) (pok : PrmOK TP X q50) (k : Nat) (r : R50) (h : f50 k p0 p1 p2 p3 = some r) : PureH TP X 50 [.agg [.int .i64 p0, .imm 100 p1], .agg [.int .i64 p2, .imm 100 p3]] (h50 p0 p1 p2 p3) (out50 r) (outh50 r) :=
  pure_gen good 0 (fn := Tryd.f50) (body := body50) (prim := q50) (D := D50) (cuts := []) (h := h50 p0 p1 p2 p3) (own := false) (by kernel_rfl) (by kernel_rfl) (by decide +kernel) pok hk50 (by
    rw [s50]
    exact h)
def F50 {R : Type} (spec : (Int) → TI → Int → TI → Option R50) : Fn U R := fun args h k => match args, h with | [.agg [.int .i64 p0, .imm 100 p1], .agg [.int .i64 p2, .imm 100 p3]], [] => (spec p0 p1 p2 p3).bind fun r => k (out50 r) (outh50 r) | _, _ => none
theorem ok50 {R : Type} (spec : (Int) → TI → Int → TI → Option R50) (hp : ∀ (p0 : Int) (p1 : TI) (p2 : Int) (p3 : TI) (r : R50), spec p0 p1 p2 p3 = some r → PureH TP X 50 [.agg [.int .i64 p0, .imm 100 p1], .agg [.int .i64 p2, .imm 100 p3]] (h50 p0 p1 p2 p3) (out50 r) (outh50 r)) : FnOK TP X 50 (F50 spec : Fn U R) := by
  intro args h k r hh
  unfold F50 at hh
  split at hh
  · obtain ⟨x, h1, h2⟩ := Option.bind_eq_some_iff.1 hh
    exact ⟨_, _, h2, hp _ _ _ _ _ h1⟩
  · cases hh
theorem pok50 : PrmOK TP X q50 := prims_cons good okS26 (prims_nil TP X mixed)
noncomputable def S50 (p0 : Int) (p1 : TI) (p2 : Int) (p3 : TI) : Option R50 := evv fun k => f50 k p0 p1 p2 p3
theorem okS50 {R : Type} : FnOK TP X 50 (F50 S50 : Fn U R) := ok50 S50 fun p0 p1 p2 p3 r h => by
  obtain ⟨k, hk⟩ := evv_fuel h
  exact pure50 p0 p1 p2 p3 pok50 k r hk
end
end Go.Abs.Z
namespace Go.Abs.Z
open Go Go.Abs Go.Proofs
noncomputable section
abbrev R39 : Type := (Bool)
noncomputable def body39 : Go.Code := (Tryd.f39.body).getD Go.Code.skip
def h39 (p0 : Int) (p1 : List TIx) (p2 : Int) (p3 : List TIx) : List (AO U) := []
def k39 : AV U → List (AO U) → Option R39 := fun v h => match v, h with | AV.bool x0, [] => some x0 | _, _ => none
def out39 : R39 → AV U := fun x0 => AV.bool x0
def outh39 : R39 → List (AO U) := fun x0 => []
def D39 : Nat → Dir := dirs [(4, ⟨[2, 3, 5], [], [], []⟩)]
def b39 (p0 : Int) (p1 : List TIx) (p2 : Int) (p3 : List TIx) (c4 : (Int) → Option R39)  : Option R39 :=
  cond (p0 != p2)
  (some (false))
  (cond ((↑p1.length : Int) != (↑p3.length : Int))
  (some (false))
  (c4 (0)))
def m39_4 (p0 : Int) (p1 : List TIx) (p2 : Int) (p3 : List TIx) (v0 : Int) : S U := S.mk [AV.undef, AV.undef, AV.ptr 0 0, AV.ptr 1 0, AV.undef, AV.int IntKind.i64 v0, AV.undef, AV.undef, AV.undef, AV.undef, AV.undef, AV.undef, AV.undef, AV.undef, AV.undef, AV.undef, AV.undef, AV.undef, AV.undef, AV.undef, AV.undef, AV.undef, AV.undef, AV.undef, AV.undef, AV.undef, AV.undef, AV.undef, AV.undef, AV.undef, AV.undef, AV.undef, AV.undef, AV.undef, AV.undef, AV.undef, AV.undef, AV.undef, AV.undef] [AO.box [AV.int IntKind.i64 p0, AV.imm 116 p1], AO.box [AV.int IntKind.i64 p2, AV.imm 116 p3]]
def b39_4 (p0 : Int) (p1 : List TIx) (p2 : Int) (p3 : List TIx) (c4 : (Int) → Option R39) (v0 : Int) : Option R39 :=
  cond (decide (v0 < (↑p1.length : Int)))
  (cond (decide (0 ≤ v0))
  (cond (decide (v0 < (↑p1.length : Int)))
  (cond (decide (v0.toNat < p1.length))
  (cond (decide (0 ≤ v0))
  (cond (decide (v0 < (↑p3.length : Int)))
  (cond (decide (v0.toNat < p3.length))
  ((S50 (p1.getD v0.toNat (X.dflt 116)).fst (p1.getD v0.toNat (X.dflt 116)).snd (p3.getD v0.toNat (X.dflt 116)).fst (p3.getD v0.toNat (X.dflt 116)).snd).bind fun r0 =>
  cond (!r0)
  (some (false))
  (c4 (IntKind.i64.wrap (v0 + 1))))
  (none))
  (none))
  (none))
  (none))
  (none))
  (none))
  (some (true))
theorem hk39 : ∀ v h' r, k39 v h' = some r → v = out39 r ∧ h' = outh39 r := by
  intro v h' r h
  unfold k39 at h
  split at h
  · injection h with h; subst h; exact ⟨rfl, rfl⟩
  · cases h
abbrev q39 : Prim U R39 := prims X [⟨50, fun _ => true, [.lend, .lend], F50 S50⟩]
theorem s39 (c : Nat → S U → Option R39) (p0 : Int) (p1 : List TIx) (p2 : Int) (p3 : List TIx) : seg TP X q39 [4] (fun q st => c q (keepD D39 (h39 p0 p1 p2 p3).length q st)) body39 (finH TP Tryd.f39.results.toList (h39 p0 p1 p2 p3).length false k39) (start [.agg [.int .i64 p0, .imm 116 p1], .agg [.int .i64 p2, .imm 116 p3]] Tryd.f39.ntmps (h39 p0 p1 p2 p3)) = b39 p0 p1 p2 p3 (fun v0 => c 4 (m39_4 p0 p1 p2 p3 v0)) := by kernel_rfl
theorem s39_4 (c : Nat → S U → Option R39) (p0 : Int) (p1 : List TIx) (p2 : Int) (p3 : List TIx) (v0 : Int) : res TP X q39 [4] (fun q st => c q (keepD D39 (h39 p0 p1 p2 p3).length q st)) 4 body39 (finH TP Tryd.f39.results.toList (h39 p0 p1 p2 p3).length false k39) (m39_4 p0 p1 p2 p3 v0) = b39_4 p0 p1 p2 p3 (fun v0 => c 4 (m39_4 p0 p1 p2 p3 v0)) v0 := by kernel_rfl
def f39_4 (p0 : Int) (p1 : List TIx) (p2 : Int) (p3 : List TIx) : Nat → Int → Option R39
  | 0 => fun _ => none
  | k + 1 => b39_4 p0 p1 p2 p3 (f39_4 p0 p1 p2 p3 k)
def f39 (k : Nat) (p0 : Int) (p1 : List TIx) (p2 : Int) (p3 : List TIx) : Option R39 := b39 p0 p1 p2 p3 (f39_4 p0 p1 p2 p3 k)
theorem e39 (p0 : Int) (p1 : List TIx) (p2 : Int) (p3 : List TIx) : ∀ k, ((fun v0 => cutG TP X q39 [4] D39 (h39 p0 p1 p2 p3).length body39 (finH TP Tryd.f39.results.toList (h39 p0 p1 p2 p3).length false k39) k 4 (m39_4 p0 p1 p2 p3 v0)) = f39_4 p0 p1 p2 p3 k)
  | 0 => rfl
  | k + 1 => by
    have ih := e39 p0 p1 p2 p3 k
    · funext v0
      refine (if_pos (by kernel_rfl)).trans ?_
      rw [s39_4]
      simp only [ih]
      rfl
theorem pure39 (p0 : Int) (p1 : List TIx) (p2 : Int) (p3 : List TIx) (pok : PrmOK TP X q39) (k : Nat) (r : R39) (h : f39 k p0 p1 p2 p3 = some r) : PureH TP X 39 [.agg [.int .i64 p0, .imm 116 p1], .agg [.int .i64 p2, .imm 116 p3]] (h39 p0 p1 p2 p3) (out39 r) (outh39 r) :=
  pure_gen good k (fn := Tryd.f39) (body := body39) (prim := q39) (D := D39) (cuts := [4]) (h := h39 p0 p1 p2 p3) (own := false) (by kernel_rfl) (by kernel_rfl) (by decide +kernel) pok hk39 (by
    rw [s39]
    have ih := e39 p0 p1 p2 p3 k
    simp only [ih]
    exact h)
def F39 {R : Type} (spec : (Int) → (List TIx) → Int → (List TIx) → Option R39) : Fn U R := fun args h k => match args, h with | [.agg [.int .i64 p0, .imm 116 p1], .agg [.int .i64 p2, .imm 116 p3]], [] => (spec p0 p1 p2 p3).bind fun r => k (out39 r) (outh39 r) | _, _ => none
theorem ok39 {R : Type} (spec : (Int) → (List TIx) → Int → (List TIx) → Option R39) (hp : ∀ (p0 : Int) (p1 : List TIx) (p2 : Int) (p3 : List TIx) (r : R39), spec p0 p1 p2 p3 = some r → PureH TP X 39 [.agg [.int .i64 p0, .imm 116 p1], .agg [.int .i64 p2, .imm 116 p3]] (h39 p0 p1 p2 p3) (out39 r) (outh39 r)) : FnOK TP X 39 (F39 spec : Fn U R) := by
  intro args h k r hh
  unfold F39 at hh
  split at hh
  · obtain ⟨x, h1, h2⟩ := Option.bind_eq_some_iff.1 hh
    exact ⟨_, _, h2, hp _ _ _ _ _ h1⟩
  · cases hh
theorem pok39 : PrmOK TP X q39 := prims_cons good okS50 (prims_nil TP X mixed)
noncomputable def S39 (p0 : Int) (p1 : List TIx) (p2 : Int) (p3 : List TIx) : Option R39 := evv fun k => f39 k p0 p1 p2 p3
theorem okS39 {R : Type} : FnOK TP X 39 (F39 S39 : Fn U R) := ok39 S39 fun p0 p1 p2 p3 r h => by
  obtain ⟨k, hk⟩ := evv_fuel h
  exact pure39 p0 p1 p2 p3 pok39 k r hk
end
end Go.Abs.Z
namespace Go.Abs.Z
open Go Go.Abs Go.Proofs
noncomputable section
abbrev R51 : Type := (Bool)
noncomputable def body51 : Go.Code := (Tryd.f51.body).getD Go.Code.skip
def h51 (p0 p1 p2 p3 : Int) (p4 : Bool) (p5 p6 : TI) (p7 p8 p9 p10 : Int) (p11 : Bool) (p12 p13 : TI) : List (AO U) := []
def k51 : AV U → List (AO U) → Option R51 := fun v h => match v, h with | AV.bool x0, [] => some x0 | _, _ => none
def out51 : R51 → AV U := fun x0 => AV.bool x0
def outh51 : R51 → List (AO U) := fun x0 => []
def D51 : Nat → Dir := dirs []
def b51 (p0 p1 p2 p3 : Int) (p4 : Bool) (p5 p6 : TI) (p7 p8 p9 p10 : Int) (p11 : Bool) (p12 p13 : TI)   : Option R51 :=
  cond (p0 == p7)
  (cond (p1 == p8)
  (cond (p2 == p9)
  (cond (p3 == p10)
  ((S24 p4 p5 p6 p11 p12 p13).bind fun r0 =>
  some (r0))
  (some (false)))
  (some (false)))
  (some (false)))
  (some (false))
theorem hk51 : ∀ v h' r, k51 v h' = some r → v = out51 r ∧ h' = outh51 r := by
  intro v h' r h
  unfold k51 at h
  split at h
  · injection h with h; subst h; exact ⟨rfl, rfl⟩
  · cases h
abbrev q51 : Prim U R51 := prims X [⟨24, fun _ => true, [.lend, .lend], F24 S24⟩]
theorem s51 (c : Nat → S U → Option R51) (p0 p1 p2 p3 : Int) (p4 : Bool) (p5 p6 : TI) (p7 p8 p9 p10 : Int) (p11 : Bool) (p12 p13 : TI) : seg TP X q51 [] (fun q st => c q (keepD D51 (h51 p0 p1 p2 p3 p4 p5 p6 p7 p8 p9 p10 p11 p12 p13).length q st)) body51 (finH TP Tryd.f51.results.toList (h51 p0 p1 p2 p3 p4 p5 p6 p7 p8 p9 p10 p11 p12 p13).length false k51) (start [.agg [.int .i64 p0, .int .i64 p1, .int .i64 p2, .int .i64 p3, .bool p4, .imm 99 p5, .imm 99 p6], .agg [.int .i64 p7, .int .i64 p8, .int .i64 p9, .int .i64 p10, .bool p11, .imm 99 p12, .imm 99 p13]] Tryd.f51.ntmps (h51 p0 p1 p2 p3 p4 p5 p6 p7 p8 p9 p10 p11 p12 p13)) = b51 p0 p1 p2 p3 p4 p5 p6 p7 p8 p9 p10 p11 p12 p13  := by kernel_rfl
def f51 (_ : Nat) (p0 p1 p2 p3 : Int) (p4 : Bool) (p5 p6 : TI) (p7 p8 p9 p10 : Int) (p11 : Bool) (p12 p13 : TI) : Option R51 := b51 p0 p1 p2 p3 p4 p5 p6 p7 p8 p9 p10 p11 p12 p13
theorem pure51 (p0 p1 p2 p3 : Int) (p4 : Bool) (p5 p6 : TI) (p7 p8 p9 p10 : Int) (p11 : Bool) (p12 p13 : TI) (pok : PrmOK TP X q51) (k : Nat) (r : R51) (h : f51 k p0 p1 p2 p3 p4 p5 p6 p7 p8 p9 p10 p11 p12 p13 = some r) : PureH TP X 51 [.agg [.int .i64 p0, .int .i64 p1, .int .i64 p2, .int .i64 p3, .bool p4, .imm 99 p5, .imm 99 p6], .agg [.int .i64 p7, .int .i64 p8, .int .i64 p9, .int .i64 p10, .bool p11, .imm 99 p12, .imm 99 p13]] (h51 p0 p1 p2 p3 p4 p5 p6 p7 p8 p9 p10 p11 p12 p13) (out51 r) (outh51 r) :=
  pure_gen good 0 (fn := Tryd.f51) (body := body51) (prim := q51) (D := D51) (cuts := []) (h := h51 p0 p1 p2 p3 p4 p5 p6 p7 p8 p9 p10 p11 p12 p13) (own := false) (by kernel_rfl) (by kernel_rfl) (by decide +kernel) pok hk51 (by
    rw [s51]
    exact h)
def F51 {R : Type} (spec : (Int) → Int → (Int) → Int → (Bool) → TI → TI → Int → (Int) → Int → (Int) → (Bool) → TI → TI → Option R51) : Fn U R := fun args h k => match args, h with | [.agg [.int .i64 p0, .int .i64 p1, .int .i64 p2, .int .i64 p3, .bool p4, .imm 99 p5, .imm 99 p6], .agg [.int .i64 p7, .int .i64 p8, .int .i64 p9, .int .i64 p10, .bool p11, .imm 99 p12, .imm 99 p13]], [] => (spec p0 p1 p2 p3 p4 p5 p6 p7 p8 p9 p10 p11 p12 p13).bind fun r => k (out51 r) (outh51 r) | _, _ => none
theorem ok51 {R : Type} (spec : (Int) → Int → (Int) → Int → (Bool) → TI → TI → Int → (Int) → Int → (Int) → (Bool) → TI → TI → Option R51) (hp : ∀ (p0 : Int) (p1 : Int) (p2 : Int) (p3 : Int) (p4 : Bool) (p5 : TI) (p6 : TI) (p7 : Int) (p8 : Int) (p9 : Int) (p10 : Int) (p11 : Bool) (p12 : TI) (p13 : TI) (r : R51), spec p0 p1 p2 p3 p4 p5 p6 p7 p8 p9 p10 p11 p12 p13 = some r → PureH TP X 51 [.agg [.int .i64 p0, .int .i64 p1, .int .i64 p2, .int .i64 p3, .bool p4, .imm 99 p5, .imm 99 p6], .agg [.int .i64 p7, .int .i64 p8, .int .i64 p9, .int .i64 p10, .bool p11, .imm 99 p12, .imm 99 p13]] (h51 p0 p1 p2 p3 p4 p5 p6 p7 p8 p9 p10 p11 p12 p13) (out51 r) (outh51 r)) : FnOK TP X 51 (F51 spec : Fn U R) := by
  intro args h k r hh
  unfold F51 at hh
  split at hh
  · obtain ⟨x, h1, h2⟩ := Option.bind_eq_some_iff.1 hh
    exact ⟨_, _, h2, hp _ _ _ _ _ _ _ _ _ _ _ _ _ _ _ h1⟩
  · cases hh
theorem pok51 : PrmOK TP X q51 := prims_cons good okS24 (prims_nil TP X mixed)
noncomputable def S51 (p0 p1 p2 p3 : Int) (p4 : Bool) (p5 p6 : TI) (p7 p8 p9 p10 : Int) (p11 : Bool) (p12 p13 : TI) : Option R51 := evv fun k => f51 k p0 p1 p2 p3 p4 p5 p6 p7 p8 p9 p10 p11 p12 p13
theorem okS51 {R : Type} : FnOK TP X 51 (F51 S51 : Fn U R) := ok51 S51 fun p0 p1 p2 p3 p4 p5 p6 p7 p8 p9 p10 p11 p12 p13 r h => by
  obtain ⟨k, hk⟩ := evv_fuel h
  exact pure51 p0 p1 p2 p3 p4 p5 p6 p7 p8 p9 p10 p11 p12 p13 pok51 k r hk
end
end Go.Abs.Z
namespace Go.Abs.Z
open Go Go.Abs Go.Proofs
noncomputable section
abbrev R40 : Type := (Bool)
noncomputable def body40 : Go.Code := (Tryd.f40.body).getD Go.Code.skip
def h40 (p0 : Int) (p1 : List TOp) (p2 : TI) (p3 : Int) (p4 : List TOp) (p5 : TI) : List (AO U) := []
def k40 : AV U → List (AO U) → Option R40 := fun v h => match v, h with | AV.bool x0, [] => some x0 | _, _ => none
def out40 : R40 → AV U := fun x0 => AV.bool x0
def outh40 : R40 → List (AO U) := fun x0 => []
def D40 : Nat → Dir := dirs [(4, ⟨[2, 3, 5], [], [], []⟩)]
def b40 (p0 : Int) (p1 : List TOp) (p2 : TI) (p3 : Int) (p4 : List TOp) (p5 : TI) (c4 : (Int) → Option R40)  : Option R40 :=
  cond (p0 != p3)
  (some (false))
  (cond ((↑p1.length : Int) != (↑p4.length : Int))
  (some (false))
  ((S23 p2 p5).bind fun r0 =>
  cond (!r0)
  (some (false))
  (c4 (0))))
def m40_4 (p0 : Int) (p1 : List TOp) (p2 : TI) (p3 : Int) (p4 : List TOp) (p5 : TI) (v0 : Int) : S U := S.mk [AV.undef, AV.undef, AV.ptr 0 0, AV.ptr 1 0, AV.undef, AV.int IntKind.i64 v0, AV.undef, AV.undef, AV.undef, AV.undef, AV.undef, AV.undef, AV.undef, AV.undef, AV.undef, AV.undef, AV.undef, AV.undef, AV.undef, AV.undef, AV.undef, AV.undef, AV.undef, AV.undef, AV.undef, AV.undef, AV.undef, AV.undef, AV.undef, AV.undef, AV.undef, AV.undef, AV.undef, AV.undef, AV.undef, AV.undef, AV.undef, AV.undef, AV.undef, AV.undef, AV.undef, AV.undef, AV.undef, AV.undef, AV.undef, AV.undef, AV.undef] [AO.box [AV.int IntKind.i64 p0, AV.imm 67 p1, AV.imm 3 p2], AO.box [AV.int IntKind.i64 p3, AV.imm 67 p4, AV.imm 3 p5]]
def b40_4 (p0 : Int) (p1 : List TOp) (p2 : TI) (p3 : Int) (p4 : List TOp) (p5 : TI) (c4 : (Int) → Option R40) (v0 : Int) : Option R40 :=
  cond (decide (v0 < (↑p1.length : Int)))
  (cond (decide (0 ≤ v0))
  (cond (decide (v0 < (↑p1.length : Int)))
  (cond (decide (v0.toNat < p1.length))
  (cond (decide (0 ≤ v0))
  (cond (decide (v0 < (↑p4.length : Int)))
  (cond (decide (v0.toNat < p4.length))
  ((S51 (p1.getD v0.toNat (X.dflt 67)).fst (p1.getD v0.toNat (X.dflt 67)).snd.fst (p1.getD v0.toNat (X.dflt 67)).snd.snd.fst (p1.getD v0.toNat (X.dflt 67)).snd.snd.snd.fst (p1.getD v0.toNat (X.dflt 67)).snd.snd.snd.snd.fst (p1.getD v0.toNat (X.dflt 67)).snd.snd.snd.snd.snd.fst (p1.getD v0.toNat (X.dflt 67)).snd.snd.snd.snd.snd.snd (p4.getD v0.toNat (X.dflt 67)).fst (p4.getD v0.toNat (X.dflt 67)).snd.fst (p4.getD v0.toNat (X.dflt 67)).snd.snd.fst (p4.getD v0.toNat (X.dflt 67)).snd.snd.snd.fst (p4.getD v0.toNat (X.dflt 67)).snd.snd.snd.snd.fst (p4.getD v0.toNat (X.dflt 67)).snd.snd.snd.snd.snd.fst (p4.getD v0.toNat (X.dflt 67)).snd.snd.snd.snd.snd.snd).bind fun r0 =>
  cond (!r0)
  (some (false))
  (c4 (IntKind.i64.wrap (v0 + 1))))
  (none))
  (none))
  (none))
  (none))
  (none))
  (none))
  (some (true))
theorem hk40 : ∀ v h' r, k40 v h' = some r → v = out40 r ∧ h' = outh40 r := by
  intro v h' r h
  unfold k40 at h
  split at h
  · injection h with h; subst h; exact ⟨rfl, rfl⟩
  · cases h
abbrev q40 : Prim U R40 := prims X [⟨23, fun _ => true, [.lend, .lend], F23 S23⟩, ⟨51, fun _ => true, [.lend, .lend], F51 S51⟩]
theorem s40 (c : Nat → S U → Option R40) (p0 : Int) (p1 : List TOp) (p2 : TI) (p3 : Int) (p4 : List TOp) (p5 : TI) : seg TP X q40 [4] (fun q st => c q (keepD D40 (h40 p0 p1 p2 p3 p4 p5).length q st)) body40 (finH TP Tryd.f40.results.toList (h40 p0 p1 p2 p3 p4 p5).length false k40) (start [.agg [.int .i64 p0, .imm 67 p1, .imm 3 p2], .agg [.int .i64 p3, .imm 67 p4, .imm 3 p5]] Tryd.f40.ntmps (h40 p0 p1 p2 p3 p4 p5)) = b40 p0 p1 p2 p3 p4 p5 (fun v0 => c 4 (m40_4 p0 p1 p2 p3 p4 p5 v0)) := by kernel_rfl
theorem s40_4 (c : Nat → S U → Option R40) (p0 : Int) (p1 : List TOp) (p2 : TI) (p3 : Int) (p4 : List TOp) (p5 : TI) (v0 : Int) : res TP X q40 [4] (fun q st => c q (keepD D40 (h40 p0 p1 p2 p3 p4 p5).length q st)) 4 body40 (finH TP Tryd.f40.results.toList (h40 p0 p1 p2 p3 p4 p5).length false k40) (m40_4 p0 p1 p2 p3 p4 p5 v0) = b40_4 p0 p1 p2 p3 p4 p5 (fun v0 => c 4 (m40_4 p0 p1 p2 p3 p4 p5 v0)) v0 := by kernel_rfl
def f40_4 (p0 : Int) (p1 : List TOp) (p2 : TI) (p3 : Int) (p4 : List TOp) (p5 : TI) : Nat → Int → Option R40
  | 0 => fun _ => none
  | k + 1 => b40_4 p0 p1 p2 p3 p4 p5 (f40_4 p0 p1 p2 p3 p4 p5 k)
def f40 (k : Nat) (p0 : Int) (p1 : List TOp) (p2 : TI) (p3 : Int) (p4 : List TOp) (p5 : TI) : Option R40 := b40 p0 p1 p2 p3 p4 p5 (f40_4 p0 p1 p2 p3 p4 p5 k)
theorem e40 (p0 : Int) (p1 : List TOp) (p2 : TI) (p3 : Int) (p4 : List TOp) (p5 : TI) : ∀ k, ((fun v0 => cutG TP X q40 [4] D40 (h40 p0 p1 p2 p3 p4 p5).length body40 (finH TP Tryd.f40.results.toList (h40 p0 p1 p2 p3 p4 p5).length false k40) k 4 (m40_4 p0 p1 p2 p3 p4 p5 v0)) = f40_4 p0 p1 p2 p3 p4 p5 k)
  | 0 => rfl
  | k + 1 => by
    have ih := e40 p0 p1 p2 p3 p4 p5 k
    · funext v0
      refine (if_pos (by kernel_rfl)).trans ?_
      rw [s40_4]
      simp only [ih]
      rfl
theorem pure40 (p0 : Int) (p1 : List TOp) (p2 : TI) (p3 : Int) (p4 : List TOp) (p5 : TI) (pok : PrmOK TP X q40) (k : Nat) (r : R40) (h : f40 k p0 p1 p2 p3 p4 p5 = some r) : PureH TP X 40 [.agg [.int .i64 p0, .imm 67 p1, .imm 3 p2], .agg [.int .i64 p3, .imm 67 p4, .imm 3 p5]] (h40 p0 p1 p2 p3 p4 p5) (out40 r) (outh40 r) :=
  pure_gen good k (fn := Tryd.f40) (body := body40) (prim := q40) (D := D40) (cuts := [4]) (h := h40 p0 p1 p2 p3 p4 p5) (own := false) (by kernel_rfl) (by kernel_rfl) (by decide +kernel) pok hk40 (by
    rw [s40]
    have ih := e40 p0 p1 p2 p3 p4 p5 k
    simp only [ih]
    exact h)
def F40 {R : Type} (spec : (Int) → (List TOp) → TI → Int → (List TOp) → TI → Option R40) : Fn U R := fun args h k => match args, h with | [.agg [.int .i64 p0, .imm 67 p1, .imm 3 p2], .agg [.int .i64 p3, .imm 67 p4, .imm 3 p5]], [] => (spec p0 p1 p2 p3 p4 p5).bind fun r => k (out40 r) (outh40 r) | _, _ => none
theorem ok40 {R : Type} (spec : (Int) → (List TOp) → TI → Int → (List TOp) → TI → Option R40) (hp : ∀ (p0 : Int) (p1 : List TOp) (p2 : TI) (p3 : Int) (p4 : List TOp) (p5 : TI) (r : R40), spec p0 p1 p2 p3 p4 p5 = some r → PureH TP X 40 [.agg [.int .i64 p0, .imm 67 p1, .imm 3 p2], .agg [.int .i64 p3, .imm 67 p4, .imm 3 p5]] (h40 p0 p1 p2 p3 p4 p5) (out40 r) (outh40 r)) : FnOK TP X 40 (F40 spec : Fn U R) := by
  intro args h k r hh
  unfold F40 at hh
  split at hh
  · obtain ⟨x, h1, h2⟩ := Option.bind_eq_some_iff.1 hh
    exact ⟨_, _, h2, hp _ _ _ _ _ _ _ h1⟩
  · cases hh
theorem pok40 : PrmOK TP X q40 := prims_cons good okS23 (prims_cons good okS51 (prims_nil TP X mixed))
noncomputable def S40 (p0 : Int) (p1 : List TOp) (p2 : TI) (p3 : Int) (p4 : List TOp) (p5 : TI) : Option R40 := evv fun k => f40 k p0 p1 p2 p3 p4 p5
theorem okS40 {R : Type} : FnOK TP X 40 (F40 S40 : Fn U R) := ok40 S40 fun p0 p1 p2 p3 p4 p5 r h => by
  obtain ⟨k, hk⟩ := evv_fuel h
  exact pure40 p0 p1 p2 p3 p4 p5 pok40 k r hk
end
end Go.Abs.Z
namespace Go.Abs.Z
open Go Go.Abs Go.Proofs
noncomputable section
abbrev R41 : Type := (Bool)
noncomputable def body41 : Go.Code := (Tryd.f41.body).getD Go.Code.skip
def h41 (p0 p1 : Int) (p2 p3 : TI) (p4 p5 : Int) (p6 p7 : TI) : List (AO U) := []
def k41 : AV U → List (AO U) → Option R41 := fun v h => match v, h with | AV.bool x0, [] => some x0 | _, _ => none
def out41 : R41 → AV U := fun x0 => AV.bool x0
def outh41 : R41 → List (AO U) := fun x0 => []
def D41 : Nat → Dir := dirs []
def b41 (p0 p1 : Int) (p2 p3 : TI) (p4 p5 : Int) (p6 p7 : TI)   : Option R41 :=
  cond (p0 == p4)
  (cond (p1 == p5)
  ((S23 p2 p6).bind fun r0 =>
  cond (r0)
  ((S23 p3 p7).bind fun r1 =>
  some (r1))
  (some (false)))
  (some (false)))
  (some (false))
theorem hk41 : ∀ v h' r, k41 v h' = some r → v = out41 r ∧ h' = outh41 r := by
  intro v h' r h
  unfold k41 at h
  split at h
  · injection h with h; subst h; exact ⟨rfl, rfl⟩
  · cases h
abbrev q41 : Prim U R41 := prims X [⟨23, fun _ => true, [.lend, .lend], F23 S23⟩]
theorem s41 (c : Nat → S U → Option R41) (p0 p1 : Int) (p2 p3 : TI) (p4 p5 : Int) (p6 p7 : TI) : seg TP X q41 [] (fun q st => c q (keepD D41 (h41 p0 p1 p2 p3 p4 p5 p6 p7).length q st)) body41 (finH TP Tryd.f41.results.toList (h41 p0 p1 p2 p3 p4 p5 p6 p7).length false k41) (start [.agg [.int .i64 p0, .int .i64 p1, .imm 3 p2, .imm 3 p3], .agg [.int .i64 p4, .int .i64 p5, .imm 3 p6, .imm 3 p7]] Tryd.f41.ntmps (h41 p0 p1 p2 p3 p4 p5 p6 p7)) = b41 p0 p1 p2 p3 p4 p5 p6 p7  := by kernel_rfl
def f41 (_ : Nat) (p0 p1 : Int) (p2 p3 : TI) (p4 p5 : Int) (p6 p7 : TI) : Option R41 := b41 p0 p1 p2 p3 p4 p5 p6 p7
theorem pure41 (p0 p1 : Int) (p2 p3 : TI) (p4 p5 : Int) (p6 p7 : TI) (pok : PrmOK TP X q41) (k : Nat) (r : R41) (h : f41 k p0 p1 p2 p3 p4 p5 p6 p7 = some r) : PureH TP X 41 [.agg [.int .i64 p0, .int .i64 p1, .imm 3 p2, .imm 3 p3], .agg [.int .i64 p4, .int .i64 p5, .imm 3 p6, .imm 3 p7]] (h41 p0 p1 p2 p3 p4 p5 p6 p7) (out41 r) (outh41 r) :=
  pure_gen good 0 (fn := Tryd.f41) (body := body41) (prim := q41) (D := D41) (cuts := []) (h := h41 p0 p1 p2 p3 p4 p5 p6 p7) (own := false) (by kernel_rfl) (by kernel_rfl) (by decide +kernel) pok hk41 (by
    rw [s41]
    exact h)
def F41 {R : Type} (spec : (Int) → Int → TI → TI → Int → (Int) → TI → TI → Option R41) : Fn U R := fun args h k => match args, h with | [.agg [.int .i64 p0, .int .i64 p1, .imm 3 p2, .imm 3 p3], .agg [.int .i64 p4, .int .i64 p5, .imm 3 p6, .imm 3 p7]], [] => (spec p0 p1 p2 p3 p4 p5 p6 p7).bind fun r => k (out41 r) (outh41 r) | _, _ => none
theorem ok41 {R : Type} (spec : (Int) → Int → TI → TI → Int → (Int) → TI → TI → Option R41) (hp : ∀ (p0 : Int) (p1 : Int) (p2 : TI) (p3 : TI) (p4 : Int) (p5 : Int) (p6 : TI) (p7 : TI) (r : R41), spec p0 p1 p2 p3 p4 p5 p6 p7 = some r → PureH TP X 41 [.agg [.int .i64 p0, .int .i64 p1, .imm 3 p2, .imm 3 p3], .agg [.int .i64 p4, .int .i64 p5, .imm 3 p6, .imm 3 p7]] (h41 p0 p1 p2 p3 p4 p5 p6 p7) (out41 r) (outh41 r)) : FnOK TP X 41 (F41 spec : Fn U R) := by
  intro args h k r hh
  unfold F41 at hh
  split at hh
  · obtain ⟨x, h1, h2⟩ := Option.bind_eq_some_iff.1 hh
    exact ⟨_, _, h2, hp _ _ _ _ _ _ _ _ _ h1⟩
  · cases hh
theorem pok41 : PrmOK TP X q41 := prims_cons good okS23 (prims_nil TP X mixed)
noncomputable def S41 (p0 p1 : Int) (p2 p3 : TI) (p4 p5 : Int) (p6 p7 : TI) : Option R41 := evv fun k => f41 k p0 p1 p2 p3 p4 p5 p6 p7
theorem okS41 {R : Type} : FnOK TP X 41 (F41 S41 : Fn U R) := ok41 S41 fun p0 p1 p2 p3 p4 p5 p6 p7 r h => by
  obtain ⟨k, hk⟩ := evv_fuel h
  exact pure41 p0 p1 p2 p3 p4 p5 p6 p7 pok41 k r hk
end
end Go.Abs.Z
namespace Go.Abs.Z
open Go Go.Abs Go.Proofs
noncomputable section
abbrev R29 : Type := Bool × (List TI) × (List TI) × (List TI) × (List TI) × (List TI) × (List TI) × (List (List (ByteArray))) × (List (List (ByteArray))) × (List (List TRt)) × (List (List TRt)) × (List (List (List TRt))) × (List (List (List TRt))) × (List (List TIx)) × (List (List TIx)) × (List (List TOp)) × (List (List TOp)) × (List (List TIo)) × (List (List TIo)) × (List TMd) × (List TMd)
noncomputable def body29 : Go.Code := (Tryd.f29.body).getD Go.Code.skip
def h29 (p0 p1 p2 p3 p4 p5 : List TI) (p6 p7 : List (List (ByteArray))) (p8 p9 : List (List TRt)) (p10 p11 : List (List (List TRt))) (p12 p13 : List (List TIx)) (p14 p15 : List (List TOp)) (p16 p17 : List (List TIo)) (p18 p19 : List TMd) : List (AO U) := [.box [.imm 62 p0, .imm 62 p1, .imm 90 p2, .imm 90 p3, .imm 23 p4, .imm 23 p5, .imm 39 p6, .imm 39 p7, .imm 92 p8, .imm 92 p9, .imm 31 p10, .imm 31 p11, .imm 102 p12, .imm 102 p13, .imm 22 p14, .imm 22 p15, .imm 106 p16, .imm 106 p17, .imm 44 p18, .imm 44 p19]]
def k29 : AV U → List (AO U) → Option R29 := fun v h => match v, h with | AV.bool x0, [AO.box [AV.imm 62 x1, AV.imm 62 x2, AV.imm 90 x3, AV.imm 90 x4, AV.imm 23 x5, AV.imm 23 x6, AV.imm 39 x7, AV.imm 39 x8, AV.imm 92 x9, AV.imm 92 x10, AV.imm 31 x11, AV.imm 31 x12, AV.imm 102 x13, AV.imm 102 x14, AV.imm 22 x15, AV.imm 22 x16, AV.imm 106 x17, AV.imm 106 x18, AV.imm 44 x19, AV.imm 44 x20]] => some (x0, x1, x2, x3, x4, x5, x6, x7, x8, x9, x10, x11, x12, x13, x14, x15, x16, x17, x18, x19, x20) | _, _ => none
def out29 : R29 → AV U := fun (x0, x1, x2, x3, x4, x5, x6, x7, x8, x9, x10, x11, x12, x13, x14, x15, x16, x17, x18, x19, x20) => AV.bool x0
def outh29 : R29 → List (AO U) := fun (x0, x1, x2, x3, x4, x5, x6, x7, x8, x9, x10, x11, x12, x13, x14, x15, x16, x17, x18, x19, x20) => [AO.box [AV.imm 62 x1, AV.imm 62 x2, AV.imm 90 x3, AV.imm 90 x4, AV.imm 23 x5, AV.imm 23 x6, AV.imm 39 x7, AV.imm 39 x8, AV.imm 92 x9, AV.imm 92 x10, AV.imm 31 x11, AV.imm 31 x12, AV.imm 102 x13, AV.imm 102 x14, AV.imm 22 x15, AV.imm 22 x16, AV.imm 106 x17, AV.imm 106 x18, AV.imm 44 x19, AV.imm 44 x20]]
def D29 : Nat → Dir := dirs [(2, ⟨[0, 3], [], [], []⟩), (7, ⟨[0, 4], [], [], []⟩), (12, ⟨[0, 5], [], [], []⟩), (16, ⟨[0, 5, 6, 7], [], [], []⟩), (21, ⟨[0, 5, 6, 8], [], [], []⟩), (26, ⟨[0, 9], [], [], []⟩)]
def b29 (p0 p1 p2 p3 p4 p5 : List TI) (p6 p7 : List (List (ByteArray))) (p8 p9 : List (List TRt)) (p10 p11 : List (List (List TRt))) (p12 p13 : List (List TIx)) (p14 p15 : List (List TOp)) (p16 p17 : List (List TIo)) (p18 p19 : List TMd) (c2 c7 c12 : (Int) → Option R29) (c16 : (Int) → Int → (Int) → Option R29) (c26 : (Int) → Option R29) (c21 : (Int) → Int → (Int) → Option R29)  : Option R29 :=
  c2 (0)
def m29_2 (p0 p1 p2 p3 p4 p5 : List TI) (p6 p7 : List (List (ByteArray))) (p8 p9 : List (List TRt)) (p10 p11 : List (List (List TRt))) (p12 p13 : List (List TIx)) (p14 p15 : List (List TOp)) (p16 p17 : List (List TIo)) (p18 p19 : List TMd) (v0 : Int) : S U := S.mk [AV.ptr 0 0, AV.undef, AV.undef, AV.int IntKind.i64 v0, AV.undef, AV.undef, AV.undef, AV.undef, AV.undef, AV.undef, AV.undef, AV.undef, AV.undef, AV.undef, AV.undef, AV.undef, AV.undef, AV.undef, AV.undef, AV.undef, AV.undef, AV.undef, AV.undef, AV.undef, AV.undef, AV.undef, AV.undef, AV.undef, AV.undef, AV.undef, AV.undef, AV.undef, AV.undef, AV.undef, AV.undef, AV.undef, AV.undef, AV.undef, AV.undef, AV.undef, AV.undef, AV.undef, AV.undef, AV.undef, AV.undef, AV.undef, AV.undef, AV.undef, AV.undef, AV.undef, AV.undef, AV.undef, AV.undef, AV.undef, AV.undef, AV.undef, AV.undef, AV.undef, AV.undef, AV.undef, AV.undef, AV.undef, AV.undef, AV.undef, AV.undef, AV.undef, AV.undef, AV.undef, AV.undef, AV.undef, AV.undef, AV.undef, AV.undef, AV.undef, AV.undef, AV.undef, AV.undef, AV.undef, AV.undef, AV.undef, AV.undef, AV.undef, AV.undef, AV.undef, AV.undef, AV.undef, AV.undef, AV.undef, AV.undef, AV.undef, AV.undef, AV.undef, AV.undef, AV.undef, AV.undef, AV.undef, AV.undef, AV.undef, AV.undef, AV.undef, AV.undef, AV.undef, AV.undef, AV.undef, AV.undef, AV.undef, AV.undef, AV.undef, AV.undef, AV.undef, AV.undef, AV.undef, AV.undef, AV.undef, AV.undef, AV.undef, AV.undef, AV.undef, AV.undef, AV.undef, AV.undef, AV.undef, AV.undef, AV.undef, AV.undef, AV.undef, AV.undef, AV.undef, AV.undef, AV.undef, AV.undef, AV.undef, AV.undef, AV.undef, AV.undef, AV.undef, AV.undef, AV.undef, AV.undef, AV.undef, AV.undef, AV.undef, AV.undef, AV.undef, AV.undef, AV.undef, AV.undef, AV.undef, AV.undef, AV.undef, AV.undef, AV.undef, AV.undef, AV.undef, AV.undef, AV.undef] [AO.box [AV.imm 62 p0, AV.imm 62 p1, AV.imm 90 p2, AV.imm 90 p3, AV.imm 23 p4, AV.imm 23 p5, AV.imm 39 p6, AV.imm 39 p7, AV.imm 92 p8, AV.imm 92 p9, AV.imm 31 p10, AV.imm 31 p11, AV.imm 102 p12, AV.imm 102 p13, AV.imm 22 p14, AV.imm 22 p15, AV.imm 106 p16, AV.imm 106 p17, AV.imm 44 p18, AV.imm 44 p19]]
def b29_2 (p0 p1 p2 p3 p4 p5 : List TI) (p6 p7 : List (List (ByteArray))) (p8 p9 : List (List TRt)) (p10 p11 : List (List (List TRt))) (p12 p13 : List (List TIx)) (p14 p15 : List (List TOp)) (p16 p17 : List (List TIo)) (p18 p19 : List TMd) (c2 c7 c12 : (Int) → Option R29) (c16 : (Int) → Int → (Int) → Option R29) (c26 : (Int) → Option R29) (c21 : (Int) → Int → (Int) → Option R29) (v0 : Int) : Option R29 :=
  cond (decide (v0 < (↑p12.length : Int)))
  (cond (decide (0 ≤ v0))
  (cond (decide (v0 < (↑p12.length : Int)))
  (cond (decide (v0.toNat < p12.length))
  (cond (decide (0 ≤ v0))
  (cond (decide (v0 < (↑p13.length : Int)))
  (cond (decide (v0.toNat < p13.length))
  ((S39 0 (p12.getD v0.toNat (X.dflt 102)) 0 (p13.getD v0.toNat (X.dflt 102))).bind fun r0 =>
  cond (!r0)
  (some ((false, p0, p1, p2, p3, p4, p5, p6, p7, p8, p9, p10, p11, p12, p13, p14, p15, p16, p17, p18, p19)))
  (c2 (IntKind.i64.wrap (v0 + 1))))
  (none))
  (none))
  (none))
  (none))
  (none))
  (none))
  (c7 (0))
def m29_7 (p0 p1 p2 p3 p4 p5 : List TI) (p6 p7 : List (List (ByteArray))) (p8 p9 : List (List TRt)) (p10 p11 : List (List (List TRt))) (p12 p13 : List (List TIx)) (p14 p15 : List (List TOp)) (p16 p17 : List (List TIo)) (p18 p19 : List TMd) (v0 : Int) : S U := S.mk [AV.ptr 0 0, AV.undef, AV.undef, AV.undef, AV.int IntKind.i64 v0, AV.undef, AV.undef, AV.undef, AV.undef, AV.undef, AV.undef, AV.undef, AV.undef, AV.undef, AV.undef, AV.undef, AV.undef, AV.undef, AV.undef, AV.undef, AV.undef, AV.undef, AV.undef, AV.undef, AV.undef, AV.undef, AV.undef, AV.undef, AV.undef, AV.undef, AV.undef, AV.undef, AV.undef, AV.undef, AV.undef, AV.undef, AV.undef, AV.undef, AV.undef, AV.undef, AV.undef, AV.undef, AV.undef, AV.undef, AV.undef, AV.undef, AV.undef, AV.undef, AV.undef, AV.undef, AV.undef, AV.undef, AV.undef, AV.undef, AV.undef, AV.undef, AV.undef, AV.undef, AV.undef, AV.undef, AV.undef, AV.undef, AV.undef, AV.undef, AV.undef, AV.undef, AV.undef, AV.undef, AV.undef, AV.undef, AV.undef, AV.undef, AV.undef, AV.undef, AV.undef, AV.undef, AV.undef, AV.undef, AV.undef, AV.undef, AV.undef, AV.undef, AV.undef, AV.undef, AV.undef, AV.undef, AV.undef, AV.undef, AV.undef, AV.undef, AV.undef, AV.undef, AV.undef, AV.undef, AV.undef, AV.undef, AV.undef, AV.undef, AV.undef, AV.undef, AV.undef, AV.undef, AV.undef, AV.undef, AV.undef, AV.undef, AV.undef, AV.undef, AV.undef, AV.undef, AV.undef, AV.undef, AV.undef, AV.undef, AV.undef, AV.undef, AV.undef, AV.undef, AV.undef, AV.undef, AV.undef, AV.undef, AV.undef, AV.undef, AV.undef, AV.undef, AV.undef, AV.undef, AV.undef, AV.undef, AV.undef, AV.undef, AV.undef, AV.undef, AV.undef, AV.undef, AV.undef, AV.undef, AV.undef, AV.undef, AV.undef, AV.undef, AV.undef, AV.undef, AV.undef, AV.undef, AV.undef, AV.undef, AV.undef, AV.undef, AV.undef, AV.undef, AV.undef, AV.undef, AV.undef, AV.undef] [AO.box [AV.imm 62 p0, AV.imm 62 p1, AV.imm 90 p2, AV.imm 90 p3, AV.imm 23 p4, AV.imm 23 p5, AV.imm 39 p6, AV.imm 39 p7, AV.imm 92 p8, AV.imm 92 p9, AV.imm 31 p10, AV.imm 31 p11, AV.imm 102 p12, AV.imm 102 p13, AV.imm 22 p14, AV.imm 22 p15, AV.imm 106 p16, AV.imm 106 p17, AV.imm 44 p18, AV.imm 44 p19]]
def b29_7 (p0 p1 p2 p3 p4 p5 : List TI) (p6 p7 : List (List (ByteArray))) (p8 p9 : List (List TRt)) (p10 p11 : List (List (List TRt))) (p12 p13 : List (List TIx)) (p14 p15 : List (List TOp)) (p16 p17 : List (List TIo)) (p18 p19 : List TMd) (c2 c7 c12 : (Int) → Option R29) (c16 : (Int) → Int → (Int) → Option R29) (c26 : (Int) → Option R29) (c21 : (Int) → Int → (Int) → Option R29) (v0 : Int) : Option R29 :=
  cond (decide (v0 < (↑p14.length : Int)))
  (cond (decide (0 ≤ v0))
  (cond (decide (v0 < (↑p14.length : Int)))
  (cond (decide (v0.toNat < p14.length))
  (cond (decide (0 ≤ v0))
  (cond (decide (v0 < (↑p15.length : Int)))
  (cond (decide (v0.toNat < p15.length))
  ((S40 0 (p14.getD v0.toNat (X.dflt 22)) [] 0 (p15.getD v0.toNat (X.dflt 22)) []).bind fun r0 =>
  cond (!r0)
  (some ((false, p0, p1, p2, p3, p4, p5, p6, p7, p8, p9, p10, p11, p12, p13, p14, p15, p16, p17, p18, p19)))
  (c7 (IntKind.i64.wrap (v0 + 1))))
  (none))
  (none))
  (none))
  (none))
  (none))
  (none))
  (c12 (0))
def m29_12 (p0 p1 p2 p3 p4 p5 : List TI) (p6 p7 : List (List (ByteArray))) (p8 p9 : List (List TRt)) (p10 p11 : List (List (List TRt))) (p12 p13 : List (List TIx)) (p14 p15 : List (List TOp)) (p16 p17 : List (List TIo)) (p18 p19 : List TMd) (v0 : Int) : S U := S.mk [AV.ptr 0 0, AV.undef, AV.undef, AV.undef, AV.undef, AV.int IntKind.i64 v0, AV.undef, AV.undef, AV.undef, AV.undef, AV.undef, AV.undef, AV.undef, AV.undef, AV.undef, AV.undef, AV.undef, AV.undef, AV.undef, AV.undef, AV.undef, AV.undef, AV.undef, AV.undef, AV.undef, AV.undef, AV.undef, AV.undef, AV.undef, AV.undef, AV.undef, AV.undef, AV.undef, AV.undef, AV.undef, AV.undef, AV.undef, AV.undef, AV.undef, AV.undef, AV.undef, AV.undef, AV.undef, AV.undef, AV.undef, AV.undef, AV.undef, AV.undef, AV.undef, AV.undef, AV.undef, AV.undef, AV.undef, AV.undef, AV.undef, AV.undef, AV.undef, AV.undef, AV.undef, AV.undef, AV.undef, AV.undef, AV.undef, AV.undef, AV.undef, AV.undef, AV.undef, AV.undef, AV.undef, AV.undef, AV.undef, AV.undef, AV.undef, AV.undef, AV.undef, AV.undef, AV.undef, AV.undef, AV.undef, AV.undef, AV.undef, AV.undef, AV.undef, AV.undef, AV.undef, AV.undef, AV.undef, AV.undef, AV.undef, AV.undef, AV.undef, AV.undef, AV.undef, AV.undef, AV.undef, AV.undef, AV.undef, AV.undef, AV.undef, AV.undef, AV.undef, AV.undef, AV.undef, AV.undef, AV.undef, AV.undef, AV.undef, AV.undef, AV.undef, AV.undef, AV.undef, AV.undef, AV.undef, AV.undef, AV.undef, AV.undef, AV.undef, AV.undef, AV.undef, AV.undef, AV.undef, AV.undef, AV.undef, AV.undef, AV.undef, AV.undef, AV.undef, AV.undef, AV.undef, AV.undef, AV.undef, AV.undef, AV.undef, AV.undef, AV.undef, AV.undef, AV.undef, AV.undef, AV.undef, AV.undef, AV.undef, AV.undef, AV.undef, AV.undef, AV.undef, AV.undef, AV.undef, AV.undef, AV.undef, AV.undef, AV.undef, AV.undef, AV.undef, AV.undef, AV.undef, AV.undef] [AO.box [AV.imm 62 p0, AV.imm 62 p1, AV.imm 90 p2, AV.imm 90 p3, AV.imm 23 p4, AV.imm 23 p5, AV.imm 39 p6, AV.imm 39 p7, AV.imm 92 p8, AV.imm 92 p9, AV.imm 31 p10, AV.imm 31 p11, AV.imm 102 p12, AV.imm 102 p13, AV.imm 22 p14, AV.imm 22 p15, AV.imm 106 p16, AV.imm 106 p17, AV.imm 44 p18, AV.imm 44 p19]]
def b29_12 (p0 p1 p2 p3 p4 p5 : List TI) (p6 p7 : List (List (ByteArray))) (p8 p9 : List (List TRt)) (p10 p11 : List (List (List TRt))) (p12 p13 : List (List TIx)) (p14 p15 : List (List TOp)) (p16 p17 : List (List TIo)) (p18 p19 : List TMd) (c2 c7 c12 : (Int) → Option R29) (c16 : (Int) → Int → (Int) → Option R29) (c26 : (Int) → Option R29) (c21 : (Int) → Int → (Int) → Option R29) (v0 : Int) : Option R29 :=
  cond (decide (v0 < (↑p16.length : Int)))
  (cond (decide (0 ≤ v0))
  (cond (decide (v0 < (↑p17.length : Int)))
  (cond (decide (v0.toNat < p17.length))
  (c16 (v0) ((↑(List.length (p17.getD v0.toNat (X.dflt 106))) : Int)) (0))
  (none))
  (none))
  (none))
  (c26 (0))
def m29_16 (p0 p1 p2 p3 p4 p5 : List TI) (p6 p7 : List (List (ByteArray))) (p8 p9 : List (List TRt)) (p10 p11 : List (List (List TRt))) (p12 p13 : List (List TIx)) (p14 p15 : List (List TOp)) (p16 p17 : List (List TIo)) (p18 p19 : List TMd) (v0 v1 v2 : Int) : S U := S.mk [AV.ptr 0 0, AV.undef, AV.undef, AV.undef, AV.undef, AV.int IntKind.i64 v0, AV.int IntKind.i64 v1, AV.int IntKind.i64 v2, AV.undef, AV.undef, AV.undef, AV.undef, AV.undef, AV.undef, AV.undef, AV.undef, AV.undef, AV.undef, AV.undef, AV.undef, AV.undef, AV.undef, AV.undef, AV.undef, AV.undef, AV.undef, AV.undef, AV.undef, AV.undef, AV.undef, AV.undef, AV.undef, AV.undef, AV.undef, AV.undef, AV.undef, AV.undef, AV.undef, AV.undef, AV.undef, AV.undef, AV.undef, AV.undef, AV.undef, AV.undef, AV.undef, AV.undef, AV.undef, AV.undef, AV.undef, AV.undef, AV.undef, AV.undef, AV.undef, AV.undef, AV.undef, AV.undef, AV.undef, AV.undef, AV.undef, AV.undef, AV.undef, AV.undef, AV.undef, AV.undef, AV.undef, AV.undef, AV.undef, AV.undef, AV.undef, AV.undef, AV.undef, AV.undef, AV.undef, AV.undef, AV.undef, AV.undef, AV.undef, AV.undef, AV.undef, AV.undef, AV.undef, AV.undef, AV.undef, AV.undef, AV.undef, AV.undef, AV.undef, AV.undef, AV.undef, AV.undef, AV.undef, AV.undef, AV.undef, AV.undef, AV.undef, AV.undef, AV.undef, AV.undef, AV.undef, AV.undef, AV.undef, AV.undef, AV.undef, AV.undef, AV.undef, AV.undef, AV.undef, AV.undef, AV.undef, AV.undef, AV.undef, AV.undef, AV.undef, AV.undef, AV.undef, AV.undef, AV.undef, AV.undef, AV.undef, AV.undef, AV.undef, AV.undef, AV.undef, AV.undef, AV.undef, AV.undef, AV.undef, AV.undef, AV.undef, AV.undef, AV.undef, AV.undef, AV.undef, AV.undef, AV.undef, AV.undef, AV.undef, AV.undef, AV.undef, AV.undef, AV.undef, AV.undef, AV.undef, AV.undef, AV.undef, AV.undef, AV.undef, AV.undef, AV.undef, AV.undef, AV.undef, AV.undef, AV.undef, AV.undef, AV.undef] [AO.box [AV.imm 62 p0, AV.imm 62 p1, AV.imm 90 p2, AV.imm 90 p3, AV.imm 23 p4, AV.imm 23 p5, AV.imm 39 p6, AV.imm 39 p7, AV.imm 92 p8, AV.imm 92 p9, AV.imm 31 p10, AV.imm 31 p11, AV.imm 102 p12, AV.imm 102 p13, AV.imm 22 p14, AV.imm 22 p15, AV.imm 106 p16, AV.imm 106 p17, AV.imm 44 p18, AV.imm 44 p19]]
def b29_16 (p0 p1 p2 p3 p4 p5 : List TI) (p6 p7 : List (List (ByteArray))) (p8 p9 : List (List TRt)) (p10 p11 : List (List (List TRt))) (p12 p13 : List (List TIx)) (p14 p15 : List (List TOp)) (p16 p17 : List (List TIo)) (p18 p19 : List TMd) (c2 c7 c12 : (Int) → Option R29) (c16 : (Int) → Int → (Int) → Option R29) (c26 : (Int) → Option R29) (c21 : (Int) → Int → (Int) → Option R29) (v0 v1 v2 : Int) : Option R29 :=
  cond (decide (v2 < v1))
  (cond (decide (0 ≤ v0))
  (cond (decide (v0 < (↑p16.length : Int)))
  (cond (decide (v0.toNat < p16.length))
  (cond (decide (0 ≤ v2))
  (cond (decide (v2 < (↑(List.length (p16.getD v0.toNat (X.dflt 106))) : Int)))
  (cond (decide (v2.toNat < List.length (p16.getD v0.toNat (X.dflt 106))))
  (cond (decide (0 ≤ v0))
  (cond (decide (v0 < (↑p17.length : Int)))
  (cond (decide (v0.toNat < p17.length))
  (cond (decide (0 ≤ v2))
  (cond (decide (v2 < (↑(List.length (p17.getD v0.toNat (X.dflt 106))) : Int)))
  (cond (decide (v2.toNat < List.length (p17.getD v0.toNat (X.dflt 106))))
  ((S41 (List.getD (p16.getD v0.toNat (X.dflt 106)) v2.toNat (X.dflt 109)).fst (List.getD (p16.getD v0.toNat (X.dflt 106)) v2.toNat (X.dflt 109)).snd.fst (List.getD (p16.getD v0.toNat (X.dflt 106)) v2.toNat (X.dflt 109)).snd.snd.fst (List.getD (p16.getD v0.toNat (X.dflt 106)) v2.toNat (X.dflt 109)).snd.snd.snd (List.getD (p17.getD v0.toNat (X.dflt 106)) v2.toNat (X.dflt 109)).fst (List.getD (p17.getD v0.toNat (X.dflt 106)) v2.toNat (X.dflt 109)).snd.fst (List.getD (p17.getD v0.toNat (X.dflt 106)) v2.toNat (X.dflt 109)).snd.snd.fst (List.getD (p17.getD v0.toNat (X.dflt 106)) v2.toNat (X.dflt 109)).snd.snd.snd).bind fun r0 =>
  cond (!r0)
  (some ((false, p0, p1, p2, p3, p4, p5, p6, p7, p8, p9, p10, p11, p12, p13, p14, p15, p16, p17, p18, p19)))
  (c16 (v0) (v1) (IntKind.i64.wrap (v2 + 1))))
  (none))
  (none))
  (none))
  (none))
  (none))
  (none))
  (none))
  (none))
  (none))
  (none))
  (none))
  (none))
  (c21 (v0) (v1) (v1))
def m29_26 (p0 p1 p2 p3 p4 p5 : List TI) (p6 p7 : List (List (ByteArray))) (p8 p9 : List (List TRt)) (p10 p11 : List (List (List TRt))) (p12 p13 : List (List TIx)) (p14 p15 : List (List TOp)) (p16 p17 : List (List TIo)) (p18 p19 : List TMd) (v0 : Int) : S U := S.mk [AV.ptr 0 0, AV.undef, AV.undef, AV.undef, AV.undef, AV.undef, AV.undef, AV.undef, AV.undef, AV.int IntKind.i64 v0, AV.undef, AV.undef, AV.undef, AV.undef, AV.undef, AV.undef, AV.undef, AV.undef, AV.undef, AV.undef, AV.undef, AV.undef, AV.undef, AV.undef, AV.undef, AV.undef, AV.undef, AV.undef, AV.undef, AV.undef, AV.undef, AV.undef, AV.undef, AV.undef, AV.undef, AV.undef, AV.undef, AV.undef, AV.undef, AV.undef, AV.undef, AV.undef, AV.undef, AV.undef, AV.undef, AV.undef, AV.undef, AV.undef, AV.undef, AV.undef, AV.undef, AV.undef, AV.undef, AV.undef, AV.undef, AV.undef, AV.undef, AV.undef, AV.undef, AV.undef, AV.undef, AV.undef, AV.undef, AV.undef, AV.undef, AV.undef, AV.undef, AV.undef, AV.undef, AV.undef, AV.undef, AV.undef, AV.undef, AV.undef, AV.undef, AV.undef, AV.undef, AV.undef, AV.undef, AV.undef, AV.undef, AV.undef, AV.undef, AV.undef, AV.undef, AV.undef, AV.undef, AV.undef, AV.undef, AV.undef, AV.undef, AV.undef, AV.undef, AV.undef, AV.undef, AV.undef, AV.undef, AV.undef, AV.undef, AV.undef, AV.undef, AV.undef, AV.undef, AV.undef, AV.undef, AV.undef, AV.undef, AV.undef, AV.undef, AV.undef, AV.undef, AV.undef, AV.undef, AV.undef, AV.undef, AV.undef, AV.undef, AV.undef, AV.undef, AV.undef, AV.undef, AV.undef, AV.undef, AV.undef, AV.undef, AV.undef, AV.undef, AV.undef, AV.undef, AV.undef, AV.undef, AV.undef, AV.undef, AV.undef, AV.undef, AV.undef, AV.undef, AV.undef, AV.undef, AV.undef, AV.undef, AV.undef, AV.undef, AV.undef, AV.undef, AV.undef, AV.undef, AV.undef, AV.undef, AV.undef, AV.undef, AV.undef, AV.undef, AV.undef, AV.undef, AV.undef] [AO.box [AV.imm 62 p0, AV.imm 62 p1, AV.imm 90 p2, AV.imm 90 p3, AV.imm 23 p4, AV.imm 23 p5, AV.imm 39 p6, AV.imm 39 p7, AV.imm 92 p8, AV.imm 92 p9, AV.imm 31 p10, AV.imm 31 p11, AV.imm 102 p12, AV.imm 102 p13, AV.imm 22 p14, AV.imm 22 p15, AV.imm 106 p16, AV.imm 106 p17, AV.imm 44 p18, AV.imm 44 p19]]
def b29_26 (p0 p1 p2 p3 p4 p5 : List TI) (p6 p7 : List (List (ByteArray))) (p8 p9 : List (List TRt)) (p10 p11 : List (List (List TRt))) (p12 p13 : List (List TIx)) (p14 p15 : List (List TOp)) (p16 p17 : List (List TIo)) (p18 p19 : List TMd) (c2 c7 c12 : (Int) → Option R29) (c16 : (Int) → Int → (Int) → Option R29) (c26 : (Int) → Option R29) (c21 : (Int) → Int → (Int) → Option R29) (v0 : Int) : Option R29 :=
  cond (decide (v0 < (↑p18.length : Int)))
  (cond (decide (0 ≤ v0))
  (cond (decide (v0 < (↑p18.length : Int)))
  (cond (decide (v0.toNat < p18.length))
  (cond (decide (0 ≤ v0))
  (cond (decide (v0 < (↑p19.length : Int)))
  (cond (decide (v0.toNat < p19.length))
  ((S7 (p18.getD v0.toNat (X.dflt 44)).fst (p18.getD v0.toNat (X.dflt 44)).snd.fst (p18.getD v0.toNat (X.dflt 44)).snd.snd.fst (p18.getD v0.toNat (X.dflt 44)).snd.snd.snd.fst (p18.getD v0.toNat (X.dflt 44)).snd.snd.snd.snd (p19.getD v0.toNat (X.dflt 44)).fst (p19.getD v0.toNat (X.dflt 44)).snd.fst (p19.getD v0.toNat (X.dflt 44)).snd.snd.fst (p19.getD v0.toNat (X.dflt 44)).snd.snd.snd.fst (p19.getD v0.toNat (X.dflt 44)).snd.snd.snd.snd).bind fun r0 =>
  cond (!r0)
  (some ((false, p0, p1, p2, p3, p4, p5, p6, p7, p8, p9, p10, p11, p12, p13, p14, p15, p16, p17, p18, p19)))
  (c26 (IntKind.i64.wrap (v0 + 1))))
  (none))
  (none))
  (none))
  (none))
  (none))
  (none))
  (some ((true, p0, p1, p2, p3, p4, p5, p6, p7, p8, p9, p10, p11, p12, p13, p14, p15, p16, p17, p18, p19)))
def m29_21 (p0 p1 p2 p3 p4 p5 : List TI) (p6 p7 : List (List (ByteArray))) (p8 p9 : List (List TRt)) (p10 p11 : List (List (List TRt))) (p12 p13 : List (List TIx)) (p14 p15 : List (List TOp)) (p16 p17 : List (List TIo)) (p18 p19 : List TMd) (v0 v1 v2 : Int) : S U := S.mk [AV.ptr 0 0, AV.undef, AV.undef, AV.undef, AV.undef, AV.int IntKind.i64 v0, AV.int IntKind.i64 v1, AV.undef, AV.int IntKind.i64 v2, AV.undef, AV.undef, AV.undef, AV.undef, AV.undef, AV.undef, AV.undef, AV.undef, AV.undef, AV.undef, AV.undef, AV.undef, AV.undef, AV.undef, AV.undef, AV.undef, AV.undef, AV.undef, AV.undef, AV.undef, AV.undef, AV.undef, AV.undef, AV.undef, AV.undef, AV.undef, AV.undef, AV.undef, AV.undef, AV.undef, AV.undef, AV.undef, AV.undef, AV.undef, AV.undef, AV.undef, AV.undef, AV.undef, AV.undef, AV.undef, AV.undef, AV.undef, AV.undef, AV.undef, AV.undef, AV.undef, AV.undef, AV.undef, AV.undef, AV.undef, AV.undef, AV.undef, AV.undef, AV.undef, AV.undef, AV.undef, AV.undef, AV.undef, AV.undef, AV.undef, AV.undef, AV.undef, AV.undef, AV.undef, AV.undef, AV.undef, AV.undef, AV.undef, AV.undef, AV.undef, AV.undef, AV.undef, AV.undef, AV.undef, AV.undef, AV.undef, AV.undef, AV.undef, AV.undef, AV.undef, AV.undef, AV.undef, AV.undef, AV.undef, AV.undef, AV.undef, AV.undef, AV.undef, AV.undef, AV.undef, AV.undef, AV.undef, AV.undef, AV.undef, AV.undef, AV.undef, AV.undef, AV.undef, AV.undef, AV.undef, AV.undef, AV.undef, AV.undef, AV.undef, AV.undef, AV.undef, AV.undef, AV.undef, AV.undef, AV.undef, AV.undef, AV.undef, AV.undef, AV.undef, AV.undef, AV.undef, AV.undef, AV.undef, AV.undef, AV.undef, AV.undef, AV.undef, AV.undef, AV.undef, AV.undef, AV.undef, AV.undef, AV.undef, AV.undef, AV.undef, AV.undef, AV.undef, AV.undef, AV.undef, AV.undef, AV.undef, AV.undef, AV.undef, AV.undef, AV.undef, AV.undef, AV.undef, AV.undef, AV.undef, AV.undef, AV.undef, AV.undef] [AO.box [AV.imm 62 p0, AV.imm 62 p1, AV.imm 90 p2, AV.imm 90 p3, AV.imm 23 p4, AV.imm 23 p5, AV.imm 39 p6, AV.imm 39 p7, AV.imm 92 p8, AV.imm 92 p9, AV.imm 31 p10, AV.imm 31 p11, AV.imm 102 p12, AV.imm 102 p13, AV.imm 22 p14, AV.imm 22 p15, AV.imm 106 p16, AV.imm 106 p17, AV.imm 44 p18, AV.imm 44 p19]]
def b29_21 (p0 p1 p2 p3 p4 p5 : List TI) (p6 p7 : List (List (ByteArray))) (p8 p9 : List (List TRt)) (p10 p11 : List (List (List TRt))) (p12 p13 : List (List TIx)) (p14 p15 : List (List TOp)) (p16 p17 : List (List TIo)) (p18 p19 : List TMd) (c2 c7 c12 : (Int) → Option R29) (c16 : (Int) → Int → (Int) → Option R29) (c26 : (Int) → Option R29) (c21 : (Int) → Int → (Int) → Option R29) (v0 v1 v2 : Int) : Option R29 :=
  cond (decide (v2 < IntKind.i64.wrap (v1 + 3)))
  (cond (decide (0 ≤ v0))
  (cond (decide (v0 < (↑p16.length : Int)))
  (cond (decide (v0.toNat < p16.length))
  (cond (decide (0 ≤ v2))
  (cond (decide (v2 < (↑(List.length (p16.getD v0.toNat (X.dflt 106))) : Int)))
  (cond (decide (v2.toNat < List.length (p16.getD v0.toNat (X.dflt 106))))
  (cond ((List.getD (p16.getD v0.toNat (X.dflt 106)) v2.toNat (X.dflt 109)).fst != IntKind.i64.wrap (-41 - IntKind.i64.wrap (v2 - v1)))
  (some ((false, p0, p1, p2, p3, p4, p5, p6, p7, p8, p9, p10, p11, p12, p13, p14, p15, p16, p17, p18, p19)))
  (c21 (v0) (v1) (IntKind.i64.wrap (v2 + 1))))
  (none))
  (none))
  (none))
  (none))
  (none))
  (none))
  (c12 (IntKind.i64.wrap (v0 + 1)))
theorem hk29 : ∀ v h' r, k29 v h' = some r → v = out29 r ∧ h' = outh29 r := by
  intro v h' r h
  unfold k29 at h
  split at h
  · injection h with h; subst h; exact ⟨rfl, rfl⟩
  · cases h
abbrev q29 : Prim U R29 := prims X [⟨39, fun _ => true, [.lend, .lend], F39 S39⟩, ⟨40, fun _ => true, [.lend, .lend], F40 S40⟩, ⟨41, fun _ => true, [.lend, .lend], F41 S41⟩, ⟨7, fun _ => true, [.lend, .lend], F7 S7⟩]
theorem s29 (c : Nat → S U → Option R29) (p0 p1 p2 p3 p4 p5 : List TI) (p6 p7 : List (List (ByteArray))) (p8 p9 : List (List TRt)) (p10 p11 : List (List (List TRt))) (p12 p13 : List (List TIx)) (p14 p15 : List (List TOp)) (p16 p17 : List (List TIo)) (p18 p19 : List TMd) : seg TP X q29 [2, 7, 12, 16, 21, 26] (fun q st => c q (keepD D29 (h29 p0 p1 p2 p3 p4 p5 p6 p7 p8 p9 p10 p11 p12 p13 p14 p15 p16 p17 p18 p19).length q st)) body29 (finH TP Tryd.f29.results.toList (h29 p0 p1 p2 p3 p4 p5 p6 p7 p8 p9 p10 p11 p12 p13 p14 p15 p16 p17 p18 p19).length false k29) (start [.ptr 0 0] Tryd.f29.ntmps (h29 p0 p1 p2 p3 p4 p5 p6 p7 p8 p9 p10 p11 p12 p13 p14 p15 p16 p17 p18 p19)) = b29 p0 p1 p2 p3 p4 p5 p6 p7 p8 p9 p10 p11 p12 p13 p14 p15 p16 p17 p18 p19 (fun v0 => c 2 (m29_2 p0 p1 p2 p3 p4 p5 p6 p7 p8 p9 p10 p11 p12 p13 p14 p15 p16 p17 p18 p19 v0)) (fun v0 => c 7 (m29_7 p0 p1 p2 p3 p4 p5 p6 p7 p8 p9 p10 p11 p12 p13 p14 p15 p16 p17 p18 p19 v0)) (fun v0 => c 12 (m29_12 p0 p1 p2 p3 p4 p5 p6 p7 p8 p9 p10 p11 p12 p13 p14 p15 p16 p17 p18 p19 v0)) (fun v0 v1 v2 => c 16 (m29_16 p0 p1 p2 p3 p4 p5 p6 p7 p8 p9 p10 p11 p12 p13 p14 p15 p16 p17 p18 p19 v0 v1 v2)) (fun v0 => c 26 (m29_26 p0 p1 p2 p3 p4 p5 p6 p7 p8 p9 p10 p11 p12 p13 p14 p15 p16 p17 p18 p19 v0)) (fun v0 v1 v2 => c 21 (m29_21 p0 p1 p2 p3 p4 p5 p6 p7 p8 p9 p10 p11 p12 p13 p14 p15 p16 p17 p18 p19 v0 v1 v2)) := by kernel_rfl
theorem s29_2 (c : Nat → S U → Option R29) (p0 p1 p2 p3 p4 p5 : List TI) (p6 p7 : List (List (ByteArray))) (p8 p9 : List (List TRt)) (p10 p11 : List (List (List TRt))) (p12 p13 : List (List TIx)) (p14 p15 : List (List TOp)) (p16 p17 : List (List TIo)) (p18 p19 : List TMd) (v0 : Int) : res TP X q29 [2, 7, 12, 16, 21, 26] (fun q st => c q (keepD D29 (h29 p0 p1 p2 p3 p4 p5 p6 p7 p8 p9 p10 p11 p12 p13 p14 p15 p16 p17 p18 p19).length q st)) 2 body29 (finH TP Tryd.f29.results.toList (h29 p0 p1 p2 p3 p4 p5 p6 p7 p8 p9 p10 p11 p12 p13 p14 p15 p16 p17 p18 p19).length false k29) (m29_2 p0 p1 p2 p3 p4 p5 p6 p7 p8 p9 p10 p11 p12 p13 p14 p15 p16 p17 p18 p19 v0) = b29_2 p0 p1 p2 p3 p4 p5 p6 p7 p8 p9 p10 p11 p12 p13 p14 p15 p16 p17 p18 p19 (fun v0 => c 2 (m29_2 p0 p1 p2 p3 p4 p5 p6 p7 p8 p9 p10 p11 p12 p13 p14 p15 p16 p17 p18 p19 v0)) (fun v0 => c 7 (m29_7 p0 p1 p2 p3 p4 p5 p6 p7 p8 p9 p10 p11 p12 p13 p14 p15 p16 p17 p18 p19 v0)) (fun v0 => c 12 (m29_12 p0 p1 p2 p3 p4 p5 p6 p7 p8 p9 p10 p11 p12 p13 p14 p15 p16 p17 p18 p19 v0)) (fun v0 v1 v2 => c 16 (m29_16 p0 p1 p2 p3 p4 p5 p6 p7 p8 p9 p10 p11 p12 p13 p14 p15 p16 p17 p18 p19 v0 v1 v2)) (fun v0 => c 26 (m29_26 p0 p1 p2 p3 p4 p5 p6 p7 p8 p9 p10 p11 p12 p13 p14 p15 p16 p17 p18 p19 v0)) (fun v0 v1 v2 => c 21 (m29_21 p0 p1 p2 p3 p4 p5 p6 p7 p8 p9 p10 p11 p12 p13 p14 p15 p16 p17 p18 p19 v0 v1 v2)) v0 := by kernel_rfl
theorem s29_7 (c : Nat → S U → Option R29) (p0 p1 p2 p3 p4 p5 : List TI) (p6 p7 : List (List (ByteArray))) (p8 p9 : List (List TRt)) (p10 p11 : List (List (List TRt))) (p12 p13 : List (List TIx)) (p14 p15 : List (List TOp)) (p16 p17 : List (List TIo)) (p18 p19 : List TMd) (v0 : Int) : res TP X q29 [2, 7, 12, 16, 21, 26] (fun q st => c q (keepD D29 (h29 p0 p1 p2 p3 p4 p5 p6 p7 p8 p9 p10 p11 p12 p13 p14 p15 p16 p17 p18 p19).length q st)) 7 body29 (finH TP Tryd.f29.results.toList (h29 p0 p1 p2 p3 p4 p5 p6 p7 p8 p9 p10 p11 p12 p13 p14 p15 p16 p17 p18 p19).length false k29) (m29_7 p0 p1 p2 p3 p4 p5 p6 p7 p8 p9 p10 p11 p12 p13 p14 p15 p16 p17 p18 p19 v0) = b29_7 p0 p1 p2 p3 p4 p5 p6 p7 p8 p9 p10 p11 p12 p13 p14 p15 p16 p17 p18 p19 (fun v0 => c 2 (m29_2 p0 p1 p2 p3 p4 p5 p6 p7 p8 p9 p10 p11 p12 p13 p14 p15 p16 p17 p18 p19 v0)) (fun v0 => c 7 (m29_7 p0 p1 p2 p3 p4 p5 p6 p7 p8 p9 p10 p11 p12 p13 p14 p15 p16 p17 p18 p19 v0)) (fun v0 => c 12 (m29_12 p0 p1 p2 p3 p4 p5 p6 p7 p8 p9 p10 p11 p12 p13 p14 p15 p16 p17 p18 p19 v0)) (fun v0 v1 v2 => c 16 (m29_16 p0 p1 p2 p3 p4 p5 p6 p7 p8 p9 p10 p11 p12 p13 p14 p15 p16 p17 p18 p19 v0 v1 v2)) (fun v0 => c 26 (m29_26 p0 p1 p2 p3 p4 p5 p6 p7 p8 p9 p10 p11 p12 p13 p14 p15 p16 p17 p18 p19 v0)) (fun v0 v1 v2 => c 21 (m29_21 p0 p1 p2 p3 p4 p5 p6 p7 p8 p9 p10 p11 p12 p13 p14 p15 p16 p17 p18 p19 v0 v1 v2)) v0 := by kernel_rfl
theorem s29_12 (c : Nat → S U → Option R29) (p0 p1 p2 p3 p4 p5 : List TI) (p6 p7 : List (List (ByteArray))) (p8 p9 : List (List TRt)) (p10 p11 : List (List (List TRt))) (p12 p13 : List (List TIx)) (p14 p15 : List (List TOp)) (p16 p17 : List (List TIo)) (p18 p19 : List TMd) (v0 : Int) : res TP X q29 [2, 7, 12, 16, 21, 26] (fun q st => c q (keepD D29 (h29 p0 p1 p2 p3 p4 p5 p6 p7 p8 p9 p10 p11 p12 p13 p14 p15 p16 p17 p18 p19).length q st)) 12 body29 (finH TP Tryd.f29.results.toList (h29 p0 p1 p2 p3 p4 p5 p6 p7 p8 p9 p10 p11 p12 p13 p14 p15 p16 p17 p18 p19).length false k29) (m29_12 p0 p1 p2 p3 p4 p5 p6 p7 p8 p9 p10 p11 p12 p13 p14 p15 p16 p17 p18 p19 v0) = b29_12 p0 p1 p2 p3 p4 p5 p6 p7 p8 p9 p10 p11 p12 p13 p14 p15 p16 p17 p18 p19 (fun v0 => c 2 (m29_2 p0 p1 p2 p3 p4 p5 p6 p7 p8 p9 p10 p11 p12 p13 p14 p15 p16 p17 p18 p19 v0)) (fun v0 => c 7 (m29_7 p0 p1 p2 p3 p4 p5 p6 p7 p8 p9 p10 p11 p12 p13 p14 p15 p16 p17 p18 p19 v0)) (fun v0 => c 12 (m29_12 p0 p1 p2 p3 p4 p5 p6 p7 p8 p9 p10 p11 p12 p13 p14 p15 p16 p17 p18 p19 v0)) (fun v0 v1 v2 => c 16 (m29_16 p0 p1 p2 p3 p4 p5 p6 p7 p8 p9 p10 p11 p12 p13 p14 p15 p16 p17 p18 p19 v0 v1 v2)) (fun v0 => c 26 (m29_26 p0 p1 p2 p3 p4 p5 p6 p7 p8 p9 p10 p11 p12 p13 p14 p15 p16 p17 p18 p19 v0)) (fun v0 v1 v2 => c 21 (m29_21 p0 p1 p2 p3 p4 p5 p6 p7 p8 p9 p10 p11 p12 p13 p14 p15 p16 p17 p18 p19 v0 v1 v2)) v0 := by kernel_rfl
theorem s29_16 (c : Nat → S U → Option R29) (p0 p1 p2 p3 p4 p5 : List TI) (p6 p7 : List (List (ByteArray))) (p8 p9 : List (List TRt)) (p10 p11 : List (List (List TRt))) (p12 p13 : List (List TIx)) (p14 p15 : List (List TOp)) (p16 p17 : List (List TIo)) (p18 p19 : List TMd) (v0 v1 v2 : Int) : res TP X q29 [2, 7, 12, 16, 21, 26] (fun q st => c q (keepD D29 (h29 p0 p1 p2 p3 p4 p5 p6 p7 p8 p9 p10 p11 p12 p13 p14 p15 p16 p17 p18 p19).length q st)) 16 body29 (finH TP Tryd.f29.results.toList (h29 p0 p1 p2 p3 p4 p5 p6 p7 p8 p9 p10 p11 p12 p13 p14 p15 p16 p17 p18 p19).length false k29) (m29_16 p0 p1 p2 p3 p4 p5 p6 p7 p8 p9 p10 p11 p12 p13 p14 p15 p16 p17 p18 p19 v0 v1 v2) = b29_16 p0 p1 p2 p3 p4 p5 p6 p7 p8 p9 p10 p11 p12 p13 p14 p15 p16 p17 p18 p19 (fun v0 => c 2 (m29_2 p0 p1 p2 p3 p4 p5 p6 p7 p8 p9 p10 p11 p12 p13 p14 p15 p16 p17 p18 p19 v0)) (fun v0 => c 7 (m29_7 p0 p1 p2 p3 p4 p5 p6 p7 p8 p9 p10 p11 p12 p13 p14 p15 p16 p17 p18 p19 v0)) (fun v0 => c 12 (m29_12 p0 p1 p2 p3 p4 p5 p6 p7 p8 p9 p10 p11 p12 p13 p14 p15 p16 p17 p18 p19 v0)) (fun v0 v1 v2 => c 16 (m29_16 p0 p1 p2 p3 p4 p5 p6 p7 p8 p9 p10 p11 p12 p13 p14 p15 p16 p17 p18 p19 v0 v1 v2)) (fun v0 => c 26 (m29_26 p0 p1 p2 p3 p4 p5 p6 p7 p8 p9 p10 p11 p12 p13 p14 p15 p16 p17 p18 p19 v0)) (fun v0 v1 v2 => c 21 (m29_21 p0 p1 p2 p3 p4 p5 p6 p7 p8 p9 p10 p11 p12 p13 p14 p15 p16 p17 p18 p19 v0 v1 v2)) v0 v1 v2 := by kernel_rfl
theorem s29_26 (c : Nat → S U → Option R29) (p0 p1 p2 p3 p4 p5 : List TI) (p6 p7 : List (List (ByteArray))) (p8 p9 : List (List TRt)) (p10 p11 : List (List (List TRt))) (p12 p13 : List (List TIx)) (p14 p15 : List (List TOp)) (p16 p17 : List (List TIo)) (p18 p19 : List TMd) (v0 : Int) : res TP X q29 [2, 7, 12, 16, 21, 26] (fun q st => c q (keepD D29 (h29 p0 p1 p2 p3 p4 p5 p6 p7 p8 p9 p10 p11 p12 p13 p14 p15 p16 p17 p18 p19).length q st)) 26 body29 (finH TP Tryd.f29.results.toList (h29 p0 p1 p2 p3 p4 p5 p6 p7 p8 p9 p10 p11 p12 p13 p14 p15 p16 p17 p18 p19).length false k29) (m29_26 p0 p1 p2 p3 p4 p5 p6 p7 p8 p9 p10 p11 p12 p13 p14 p15 p16 p17 p18 p19 v0) = b29_26 p0 p1 p2 p3 p4 p5 p6 p7 p8 p9 p10 p11 p12 p13 p14 p15 p16 p17 p18 p19 (fun v0 => c 2 (m29_2 p0 p1 p2 p3 p4 p5 p6 p7 p8 p9 p10 p11 p12 p13 p14 p15 p16 p17 p18 p19 v0)) (fun v0 => c 7 (m29_7 p0 p1 p2 p3 p4 p5 p6 p7 p8 p9 p10 p11 p12 p13 p14 p15 p16 p17 p18 p19 v0)) (fun v0 => c 12 (m29_12 p0 p1 p2 p3 p4 p5 p6 p7 p8 p9 p10 p11 p12 p13 p14 p15 p16 p17 p18 p19 v0)) (fun v0 v1 v2 => c 16 (m29_16 p0 p1 p2 p3 p4 p5 p6 p7 p8 p9 p10 p11 p12 p13 p14 p15 p16 p17 p18 p19 v0 v1 v2)) (fun v0 => c 26 (m29_26 p0 p1 p2 p3 p4 p5 p6 p7 p8 p9 p10 p11 p12 p13 p14 p15 p16 p17 p18 p19 v0)) (fun v0 v1 v2 => c 21 (m29_21 p0 p1 p2 p3 p4 p5 p6 p7 p8 p9 p10 p11 p12 p13 p14 p15 p16 p17 p18 p19 v0 v1 v2)) v0 := by kernel_rfl
theorem s29_21 (c : Nat → S U → Option R29) (p0 p1 p2 p3 p4 p5 : List TI) (p6 p7 : List (List (ByteArray))) (p8 p9 : List (List TRt)) (p10 p11 : List (List (List TRt))) (p12 p13 : List (List TIx)) (p14 p15 : List (List TOp)) (p16 p17 : List (List TIo)) (p18 p19 : List TMd) (v0 v1 v2 : Int) : res TP X q29 [2, 7, 12, 16, 21, 26] (fun q st => c q (keepD D29 (h29 p0 p1 p2 p3 p4 p5 p6 p7 p8 p9 p10 p11 p12 p13 p14 p15 p16 p17 p18 p19).length q st)) 21 body29 (finH TP Tryd.f29.results.toList (h29 p0 p1 p2 p3 p4 p5 p6 p7 p8 p9 p10 p11 p12 p13 p14 p15 p16 p17 p18 p19).length false k29) (m29_21 p0 p1 p2 p3 p4 p5 p6 p7 p8 p9 p10 p11 p12 p13 p14 p15 p16 p17 p18 p19 v0 v1 v2) = b29_21 p0 p1 p2 p3 p4 p5 p6 p7 p8 p9 p10 p11 p12 p13 p14 p15 p16 p17 p18 p19 (fun v0 => c 2 (m29_2 p0 p1 p2 p3 p4 p5 p6 p7 p8 p9 p10 p11 p12 p13 p14 p15 p16 p17 p18 p19 v0)) (fun v0 => c 7 (m29_7 p0 p1 p2 p3 p4 p5 p6 p7 p8 p9 p10 p11 p12 p13 p14 p15 p16 p17 p18 p19 v0)) (fun v0 => c 12 (m29_12 p0 p1 p2 p3 p4 p5 p6 p7 p8 p9 p10 p11 p12 p13 p14 p15 p16 p17 p18 p19 v0)) (fun v0 v1 v2 => c 16 (m29_16 p0 p1 p2 p3 p4 p5 p6 p7 p8 p9 p10 p11 p12 p13 p14 p15 p16 p17 p18 p19 v0 v1 v2)) (fun v0 => c 26 (m29_26 p0 p1 p2 p3 p4 p5 p6 p7 p8 p9 p10 p11 p12 p13 p14 p15 p16 p17 p18 p19 v0)) (fun v0 v1 v2 => c 21 (m29_21 p0 p1 p2 p3 p4 p5 p6 p7 p8 p9 p10 p11 p12 p13 p14 p15 p16 p17 p18 p19 v0 v1 v2)) v0 v1 v2 := by kernel_rfl
mutual
def f29_2 (p0 p1 p2 p3 p4 p5 : List TI) (p6 p7 : List (List (ByteArray))) (p8 p9 : List (List TRt)) (p10 p11 : List (List (List TRt))) (p12 p13 : List (List TIx)) (p14 p15 : List (List TOp)) (p16 p17 : List (List TIo)) (p18 p19 : List TMd) : Nat → Int → Option R29
  | 0 => fun _ => none
  | k + 1 => b29_2 p0 p1 p2 p3 p4 p5 p6 p7 p8 p9 p10 p11 p12 p13 p14 p15 p16 p17 p18 p19 (f29_2 p0 p1 p2 p3 p4 p5 p6 p7 p8 p9 p10 p11 p12 p13 p14 p15 p16 p17 p18 p19 k) (f29_7 p0 p1 p2 p3 p4 p5 p6 p7 p8 p9 p10 p11 p12 p13 p14 p15 p16 p17 p18 p19 k) (f29_12 p0 p1 p2 p3 p4 p5 p6 p7 p8 p9 p10 p11 p12 p13 p14 p15 p16 p17 p18 p19 k) (f29_16 p0 p1 p2 p3 p4 p5 p6 p7 p8 p9 p10 p11 p12 p13 p14 p15 p16 p17 p18 p19 k) (f29_26 p0 p1 p2 p3 p4 p5 p6 p7 p8 p9 p10 p11 p12 p13 p14 p15 p16 p17 p18 p19 k) (f29_21 p0 p1 p2 p3 p4 p5 p6 p7 p8 p9 p10 p11 p12 p13 p14 p15 p16 p17 p18 p19 k)
def f29_7 (p0 p1 p2 p3 p4 p5 : List TI) (p6 p7 : List (List (ByteArray))) (p8 p9 : List (List TRt)) (p10 p11 : List (List (List TRt))) (p12 p13 : List (List TIx)) (p14 p15 : List (List TOp)) (p16 p17 : List (List TIo)) (p18 p19 : List TMd) : Nat → Int → Option R29
  | 0 => fun _ => none
  | k + 1 => b29_7 p0 p1 p2 p3 p4 p5 p6 p7 p8 p9 p10 p11 p12 p13 p14 p15 p16 p17 p18 p19 (f29_2 p0 p1 p2 p3 p4 p5 p6 p7 p8 p9 p10 p11 p12 p13 p14 p15 p16 p17 p18 p19 k) (f29_7 p0 p1 p2 p3 p4 p5 p6 p7 p8 p9 p10 p11 p12 p13 p14 p15 p16 p17 p18 p19 k) (f29_12 p0 p1 p2 p3 p4 p5 p6 p7 p8 p9 p10 p11 p12 p13 p14 p15 p16 p17 p18 p19 k) (f29_16 p0 p1 p2 p3 p4 p5 p6 p7 p8 p9 p10 p11 p12 p13 p14 p15 p16 p17 p18 p19 k) (f29_26 p0 p1 p2 p3 p4 p5 p6 p7 p8 p9 p10 p11 p12 p13 p14 p15 p16 p17 p18 p19 k) (f29_21 p0 p1 p2 p3 p4 p5 p6 p7 p8 p9 p10 p11 p12 p13 p14 p15 p16 p17 p18 p19 k)
def f29_12 (p0 p1 p2 p3 p4 p5 : List TI) (p6 p7 : List (List (ByteArray))) (p8 p9 : List (List TRt)) (p10 p11 : List (List (List TRt))) (p12 p13 : List (List TIx)) (p14 p15 : List (List TOp)) (p16 p17 : List (List TIo)) (p18 p19 : List TMd) : Nat → Int → Option R29
  | 0 => fun _ => none
  | k + 1 => b29_12 p0 p1 p2 p3 p4 p5 p6 p7 p8 p9 p10 p11 p12 p13 p14 p15 p16 p17 p18 p19 (f29_2 p0 p1 p2 p3 p4 p5 p6 p7 p8 p9 p10 p11 p12 p13 p14 p15 p16 p17 p18 p19 k) (f29_7 p0 p1 p2 p3 p4 p5 p6 p7 p8 p9 p10 p11 p12 p13 p14 p15 p16 p17 p18 p19 k) (f29_12 p0 p1 p2 p3 p4 p5 p6 p7 p8 p9 p10 p11 p12 p13 p14 p15 p16 p17 p18 p19 k) (f29_16 p0 p1 p2 p3 p4 p5 p6 p7 p8 p9 p10 p11 p12 p13 p14 p15 p16 p17 p18 p19 k) (f29_26 p0 p1 p2 p3 p4 p5 p6 p7 p8 p9 p10 p11 p12 p13 p14 p15 p16 p17 p18 p19 k) (f29_21 p0 p1 p2 p3 p4 p5 p6 p7 p8 p9 p10 p11 p12 p13 p14 p15 p16 p17 p18 p19 k)
def f29_16 (p0 p1 p2 p3 p4 p5 : List TI) (p6 p7 : List (List (ByteArray))) (p8 p9 : List (List TRt)) (p10 p11 : List (List (List TRt))) (p12 p13 : List (List TIx)) (p14 p15 : List (List TOp)) (p16 p17 : List (List TIo)) (p18 p19 : List TMd) : Nat → Int → (Int) → Int → Option R29
  | 0 => fun _ _ _ => none
  | k + 1 => b29_16 p0 p1 p2 p3 p4 p5 p6 p7 p8 p9 p10 p11 p12 p13 p14 p15 p16 p17 p18 p19 (f29_2 p0 p1 p2 p3 p4 p5 p6 p7 p8 p9 p10 p11 p12 p13 p14 p15 p16 p17 p18 p19 k) (f29_7 p0 p1 p2 p3 p4 p5 p6 p7 p8 p9 p10 p11 p12 p13 p14 p15 p16 p17 p18 p19 k) (f29_12 p0 p1 p2 p3 p4 p5 p6 p7 p8 p9 p10 p11 p12 p13 p14 p15 p16 p17 p18 p19 k) (f29_16 p0 p1 p2 p3 p4 p5 p6 p7 p8 p9 p10 p11 p12 p13 p14 p15 p16 p17 p18 p19 k) (f29_26 p0 p1 p2 p3 p4 p5 p6 p7 p8 p9 p10 p11 p12 p13 p14 p15 p16 p17 p18 p19 k) (f29_21 p0 p1 p2 p3 p4 p5 p6 p7 p8 p9 p10 p11 p12 p13 p14 p15 p16 p17 p18 p19 k)
def f29_26 (p0 p1 p2 p3 p4 p5 : List TI) (p6 p7 : List (List (ByteArray))) (p8 p9 : List (List TRt)) (p10 p11 : List (List (List TRt))) (p12 p13 : List (List TIx)) (p14 p15 : List (List TOp)) (p16 p17 : List (List TIo)) (p18 p19 : List TMd) : Nat → Int → Option R29
  | 0 => fun _ => none
  | k + 1 => b29_26 p0 p1 p2 p3 p4 p5 p6 p7 p8 p9 p10 p11 p12 p13 p14 p15 p16 p17 p18 p19 (f29_2 p0 p1 p2 p3 p4 p5 p6 p7 p8 p9 p10 p11 p12 p13 p14 p15 p16 p17 p18 p19 k) (f29_7 p0 p1 p2 p3 p4 p5 p6 p7 p8 p9 p10 p11 p12 p13 p14 p15 p16 p17 p18 p19 k) (f29_12 p0 p1 p2 p3 p4 p5 p6 p7 p8 p9 p10 p11 p12 p13 p14 p15 p16 p17 p18 p19 k) (f29_16 p0 p1 p2 p3 p4 p5 p6 p7 p8 p9 p10 p11 p12 p13 p14 p15 p16 p17 p18 p19 k) (f29_26 p0 p1 p2 p3 p4 p5 p6 p7 p8 p9 p10 p11 p12 p13 p14 p15 p16 p17 p18 p19 k) (f29_21 p0 p1 p2 p3 p4 p5 p6 p7 p8 p9 p10 p11 p12 p13 p14 p15 p16 p17 p18 p19 k)
def f29_21 (p0 p1 p2 p3 p4 p5 : List TI) (p6 p7 : List (List (ByteArray))) (p8 p9 : List (List TRt)) (p10 p11 : List (List (List TRt))) (p12 p13 : List (List TIx)) (p14 p15 : List (List TOp)) (p16 p17 : List (List TIo)) (p18 p19 : List TMd) : Nat → Int → (Int) → Int → Option R29
  | 0 => fun _ _ _ => none
  | k + 1 => b29_21 p0 p1 p2 p3 p4 p5 p6 p7 p8 p9 p10 p11 p12 p13 p14 p15 p16 p17 p18 p19 (f29_2 p0 p1 p2 p3 p4 p5 p6 p7 p8 p9 p10 p11 p12 p13 p14 p15 p16 p17 p18 p19 k) (f29_7 p0 p1 p2 p3 p4 p5 p6 p7 p8 p9 p10 p11 p12 p13 p14 p15 p16 p17 p18 p19 k) (f29_12 p0 p1 p2 p3 p4 p5 p6 p7 p8 p9 p10 p11 p12 p13 p14 p15 p16 p17 p18 p19 k) (f29_16 p0 p1 p2 p3 p4 p5 p6 p7 p8 p9 p10 p11 p12 p13 p14 p15 p16 p17 p18 p19 k) (f29_26 p0 p1 p2 p3 p4 p5 p6 p7 p8 p9 p10 p11 p12 p13 p14 p15 p16 p17 p18 p19 k) (f29_21 p0 p1 p2 p3 p4 p5 p6 p7 p8 p9 p10 p11 p12 p13 p14 p15 p16 p17 p18 p19 k)
end
def f29 (k : Nat) (p0 p1 p2 p3 p4 p5 : List TI) (p6 p7 : List (List (ByteArray))) (p8 p9 : List (List TRt)) (p10 p11 : List (List (List TRt))) (p12 p13 : List (List TIx)) (p14 p15 : List (List TOp)) (p16 p17 : List (List TIo)) (p18 p19 : List TMd) : Option R29 := b29 p0 p1 p2 p3 p4 p5 p6 p7 p8 p9 p10 p11 p12 p13 p14 p15 p16 p17 p18 p19 (f29_2 p0 p1 p2 p3 p4 p5 p6 p7 p8 p9 p10 p11 p12 p13 p14 p15 p16 p17 p18 p19 k) (f29_7 p0 p1 p2 p3 p4 p5 p6 p7 p8 p9 p10 p11 p12 p13 p14 p15 p16 p17 p18 p19 k) (f29_12 p0 p1 p2 p3 p4 p5 p6 p7 p8 p9 p10 p11 p12 p13 p14 p15 p16 p17 p18 p19 k) (f29_16 p0 p1 p2 p3 p4 p5 p6 p7 p8 p9 p10 p11 p12 p13 p14 p15 p16 p17 p18 p19 k) (f29_26 p0 p1 p2 p3 p4 p5 p6 p7 p8 p9 p10 p11 p12 p13 p14 p15 p16 p17 p18 p19 k) (f29_21 p0 p1 p2 p3 p4 p5 p6 p7 p8 p9 p10 p11 p12 p13 p14 p15 p16 p17 p18 p19 k)
theorem e29 (p0 p1 p2 p3 p4 p5 : List TI) (p6 p7 : List (List (ByteArray))) (p8 p9 : List (List TRt)) (p10 p11 : List (List (List TRt))) (p12 p13 : List (List TIx)) (p14 p15 : List (List TOp)) (p16 p17 : List (List TIo)) (p18 p19 : List TMd) : ∀ k, ((fun v0 => cutG TP X q29 [2, 7, 12, 16, 21, 26] D29 (h29 p0 p1 p2 p3 p4 p5 p6 p7 p8 p9 p10 p11 p12 p13 p14 p15 p16 p17 p18 p19).length body29 (finH TP Tryd.f29.results.toList (h29 p0 p1 p2 p3 p4 p5 p6 p7 p8 p9 p10 p11 p12 p13 p14 p15 p16 p17 p18 p19).length false k29) k 2 (m29_2 p0 p1 p2 p3 p4 p5 p6 p7 p8 p9 p10 p11 p12 p13 p14 p15 p16 p17 p18 p19 v0)) = f29_2 p0 p1 p2 p3 p4 p5 p6 p7 p8 p9 p10 p11 p12 p13 p14 p15 p16 p17 p18 p19 k) ∧ ((fun v0 => cutG TP X q29 [2, 7, 12, 16, 21, 26] D29 (h29 p0 p1 p2 p3 p4 p5 p6 p7 p8 p9 p10 p11 p12 p13 p14 p15 p16 p17 p18 p19).length body29 (finH TP Tryd.f29.results.toList (h29 p0 p1 p2 p3 p4 p5 p6 p7 p8 p9 p10 p11 p12 p13 p14 p15 p16 p17 p18 p19).length false k29) k 7 (m29_7 p0 p1 p2 p3 p4 p5 p6 p7 p8 p9 p10 p11 p12 p13 p14 p15 p16 p17 p18 p19 v0)) = f29_7 p0 p1 p2 p3 p4 p5 p6 p7 p8 p9 p10 p11 p12 p13 p14 p15 p16 p17 p18 p19 k) ∧ ((fun v0 => cutG TP X q29 [2, 7, 12, 16, 21, 26] D29 (h29 p0 p1 p2 p3 p4 p5 p6 p7 p8 p9 p10 p11 p12 p13 p14 p15 p16 p17 p18 p19).length body29 (finH TP Tryd.f29.results.toList (h29 p0 p1 p2 p3 p4 p5 p6 p7 p8 p9 p10 p11 p12 p13 p14 p15 p16 p17 p18 p19).length false k29) k 12 (m29_12 p0 p1 p2 p3 p4 p5 p6 p7 p8 p9 p10 p11 p12 p13 p14 p15 p16 p17 p18 p19 v0)) = f29_12 p0 p1 p2 p3 p4 p5 p6 p7 p8 p9 p10 p11 p12 p13 p14 p15 p16 p17 p18 p19 k) ∧ ((fun v0 v1 v2 => cutG TP X q29 [2, 7, 12, 16, 21, 26] D29 (h29 p0 p1 p2 p3 p4 p5 p6 p7 p8 p9 p10 p11 p12 p13 p14 p15 p16 p17 p18 p19).length body29 (finH TP Tryd.f29.results.toList (h29 p0 p1 p2 p3 p4 p5 p6 p7 p8 p9 p10 p11 p12 p13 p14 p15 p16 p17 p18 p19).length false k29) k 16 (m29_16 p0 p1 p2 p3 p4 p5 p6 p7 p8 p9 p10 p11 p12 p13 p14 p15 p16 p17 p18 p19 v0 v1 v2)) = f29_16 p0 p1 p2 p3 p4 p5 p6 p7 p8 p9 p10 p11 p12 p13 p14 p15 p16 p17 p18 p19 k) ∧ ((fun v0 => cutG TP X q29 [2, 7, 12, 16, 21, 26] D29 (h29 p0 p1 p2 p3 p4 p5 p6 p7 p8 p9 p10 p11 p12 p13 p14 p15 p16 p17 p18 p19).length body29 (finH TP Tryd.f29.results.toList (h29 p0 p1 p2 p3 p4 p5 p6 p7 p8 p9 p10 p11 p12 p13 p14 p15 p16 p17 p18 p19).length false k29) k 26 (m29_26 p0 p1 p2 p3 p4 p5 p6 p7 p8 p9 p10 p11 p12 p13 p14 p15 p16 p17 p18 p19 v0)) = f29_26 p0 p1 p2 p3 p4 p5 p6 p7 p8 p9 p10 p11 p12 p13 p14 p15 p16 p17 p18 p19 k) ∧ ((fun v0 v1 v2 => cutG TP X q29 [2, 7, 12, 16, 21, 26] D29 (h29 p0 p1 p2 p3 p4 p5 p6 p7 p8 p9 p10 p11 p12 p13 p14 p15 p16 p17 p18 p19).length body29 (finH TP Tryd.f29.results.toList (h29 p0 p1 p2 p3 p4 p5 p6 p7 p8 p9 p10 p11 p12 p13 p14 p15 p16 p17 p18 p19).length false k29) k 21 (m29_21 p0 p1 p2 p3 p4 p5 p6 p7 p8 p9 p10 p11 p12 p13 p14 p15 p16 p17 p18 p19 v0 v1 v2)) = f29_21 p0 p1 p2 p3 p4 p5 p6 p7 p8 p9 p10 p11 p12 p13 p14 p15 p16 p17 p18 p19 k)
  | 0 => ⟨rfl, rfl, rfl, rfl, rfl, rfl⟩
  | k + 1 => by
    have ih := e29 p0 p1 p2 p3 p4 p5 p6 p7 p8 p9 p10 p11 p12 p13 p14 p15 p16 p17 p18 p19 k
    refine ⟨?_, ?_, ?_, ?_, ?_, ?_⟩
    · funext v0
      refine (if_pos (by kernel_rfl)).trans ?_
      rw [s29_2]
      simp only [ih]
      rfl
    · funext v0
      refine (if_pos (by kernel_rfl)).trans ?_
      rw [s29_7]
      simp only [ih]
      rfl
    · funext v0
      refine (if_pos (by kernel_rfl)).trans ?_
      rw [s29_12]
      simp only [ih]
      rfl
    · funext v0 v1 v2
      refine (if_pos (by kernel_rfl)).trans ?_
      rw [s29_16]
      simp only [ih]
      rfl
    · funext v0
      refine (if_pos (by kernel_rfl)).trans ?_
      rw [s29_26]
      simp only [ih]
      rfl
    · funext v0 v1 v2
      refine (if_pos (by kernel_rfl)).trans ?_
      rw [s29_21]
      simp only [ih]
      rfl
theorem pure29 (p0 p1 p2 p3 p4 p5 : List TI) (p6 p7 : List (List (ByteArray))) (p8 p9 : List (List TRt)) (p10 p11 : List (List (List TRt))) (p12 p13 : List (List TIx)) (p14 p15 : List (List TOp)) (p16 p17 : List (List TIo)) (p18 p19 : List TMd) (pok : PrmOK TP X q29) (k : Nat) (r : R29) (h : f29 k p0 p1 p2 p3 p4 p5 p6 p7 p8 p9 p10 p11 p12 p13 p14 p15 p16 p17 p18 p19 = some r) : PureH TP X 29 [.ptr 0 0] (h29 p0 p1 p2 p3 p4 p5 p6 p7 p8 p9 p10 p11 p12 p13 p14 p15 p16 p17 p18 p19) (out29 r) (outh29 r) :=
  pure_gen good k (fn := Tryd.f29) (body := body29) (prim := q29) (D := D29) (cuts := [2, 7, 12, 16, 21, 26]) (h := h29 p0 p1 p2 p3 p4 p5 p6 p7 p8 p9 p10 p11 p12 p13 p14 p15 p16 p17 p18 p19) (own := false) (by kernel_rfl) (by kernel_rfl) (by decide +kernel) pok hk29 (by
    rw [s29]
    have ih := e29 p0 p1 p2 p3 p4 p5 p6 p7 p8 p9 p10 p11 p12 p13 p14 p15 p16 p17 p18 p19 k
    simp only [ih]
    exact h)
def F29 {R : Type} (spec : (List TI) → (List TI) → (List TI) → (List TI) → (List TI) → (List TI) → (List (List (ByteArray))) → (List (List (ByteArray))) → (List (List TRt)) → (List (List TRt)) → (List (List (List TRt))) → (List (List (List TRt))) → (List (List TIx)) → (List (List TIx)) → (List (List TOp)) → (List (List TOp)) → (List (List TIo)) → (List (List TIo)) → (List TMd) → (List TMd) → Option R29) : Fn U R := fun args h k => match args, h with | [.ptr 0 0], [.box [.imm 62 p0, .imm 62 p1, .imm 90 p2, .imm 90 p3, .imm 23 p4, .imm 23 p5, .imm 39 p6, .imm 39 p7, .imm 92 p8, .imm 92 p9, .imm 31 p10, .imm 31 p11, .imm 102 p12, .imm 102 p13, .imm 22 p14, .imm 22 p15, .imm 106 p16, .imm 106 p17, .imm 44 p18, .imm 44 p19]] => (spec p0 p1 p2 p3 p4 p5 p6 p7 p8 p9 p10 p11 p12 p13 p14 p15 p16 p17 p18 p19).bind fun r => k (out29 r) (outh29 r) | _, _ => none
theorem ok29 {R : Type} (spec : (List TI) → (List TI) → (List TI) → (List TI) → (List TI) → (List TI) → (List (List (ByteArray))) → (List (List (ByteArray))) → (List (List TRt)) → (List (List TRt)) → (List (List (List TRt))) → (List (List (List TRt))) → (List (List TIx)) → (List (List TIx)) → (List (List TOp)) → (List (List TOp)) → (List (List TIo)) → (List (List TIo)) → (List TMd) → (List TMd) → Option R29) (hp : ∀ (p0 : List TI) (p1 : List TI) (p2 : List TI) (p3 : List TI) (p4 : List TI) (p5 : List TI) (p6 : List (List (ByteArray))) (p7 : List (List (ByteArray))) (p8 : List (List TRt)) (p9 : List (List TRt)) (p10 : List (List (List TRt))) (p11 : List (List (List TRt))) (p12 : List (List TIx)) (p13 : List (List TIx)) (p14 : List (List TOp)) (p15 : List (List TOp)) (p16 : List (List TIo)) (p17 : List (List TIo)) (p18 : List TMd) (p19 : List TMd) (r : R29), spec p0 p1 p2 p3 p4 p5 p6 p7 p8 p9 p10 p11 p12 p13 p14 p15 p16 p17 p18 p19 = some r → PureH TP X 29 [.ptr 0 0] (h29 p0 p1 p2 p3 p4 p5 p6 p7 p8 p9 p10 p11 p12 p13 p14 p15 p16 p17 p18 p19) (out29 r) (outh29 r)) : FnOK TP X 29 (F29 spec : Fn U R) := by
  intro args h k r hh
  unfold F29 at hh
  split at hh
  · obtain ⟨x, h1, h2⟩ := Option.bind_eq_some_iff.1 hh
    exact ⟨_, _, h2, hp _ _ _ _ _ _ _ _ _ _ _ _ _ _ _ _ _ _ _ _ _ h1⟩
  · cases hh
theorem pok29 : PrmOK TP X q29 := prims_cons good okS39 (prims_cons good okS40 (prims_cons good okS41 (prims_cons good okS7 (prims_nil TP X mixed))))
noncomputable def S29 (p0 p1 p2 p3 p4 p5 : List TI) (p6 p7 : List (List (ByteArray))) (p8 p9 : List (List TRt)) (p10 p11 : List (List (List TRt))) (p12 p13 : List (List TIx)) (p14 p15 : List (List TOp)) (p16 p17 : List (List TIo)) (p18 p19 : List TMd) : Option R29 := evv fun k => f29 k p0 p1 p2 p3 p4 p5 p6 p7 p8 p9 p10 p11 p12 p13 p14 p15 p16 p17 p18 p19
theorem okS29 {R : Type} : FnOK TP X 29 (F29 S29 : Fn U R) := ok29 S29 fun p0 p1 p2 p3 p4 p5 p6 p7 p8 p9 p10 p11 p12 p13 p14 p15 p16 p17 p18 p19 r h => by
  obtain ⟨k, hk⟩ := evv_fuel h
  exact pure29 p0 p1 p2 p3 p4 p5 p6 p7 p8 p9 p10 p11 p12 p13 p14 p15 p16 p17 p18 p19 pok29 k r hk
end
end Go.Abs.Z
namespace Go.Abs.Z
open Go Go.Abs Go.Proofs
noncomputable section
abbrev R9 : Type := Bool × (List TI) × (List TI) × (List TI) × (List TI) × (List TI) × (List TI) × (List (List (ByteArray))) × (List (List (ByteArray))) × (List (List TRt)) × (List (List TRt)) × (List (List (List TRt))) × (List (List (List TRt))) × (List (List TIx)) × (List (List TIx)) × (List (List TOp)) × (List (List TOp)) × (List (List TIo)) × (List (List TIo)) × (List TMd) × (List TMd)
noncomputable def body9 : Go.Code := (Tryd.f9.body).getD Go.Code.skip
def h9 (p0 p1 p2 p3 p4 p5 : List TI) (p6 p7 : List (List (ByteArray))) (p8 p9 : List (List TRt)) (p10 p11 : List (List (List TRt))) (p12 p13 : List (List TIx)) (p14 p15 : List (List TOp)) (p16 p17 : List (List TIo)) (p18 p19 : List TMd) : List (AO U) := [.box [.imm 62 p0, .imm 62 p1, .imm 90 p2, .imm 90 p3, .imm 23 p4, .imm 23 p5, .imm 39 p6, .imm 39 p7, .imm 92 p8, .imm 92 p9, .imm 31 p10, .imm 31 p11, .imm 102 p12, .imm 102 p13, .imm 22 p14, .imm 22 p15, .imm 106 p16, .imm 106 p17, .imm 44 p18, .imm 44 p19]]
def k9 : AV U → List (AO U) → Option R9 := fun v h => match v, h with | AV.bool x0, [AO.box [AV.imm 62 x1, AV.imm 62 x2, AV.imm 90 x3, AV.imm 90 x4, AV.imm 23 x5, AV.imm 23 x6, AV.imm 39 x7, AV.imm 39 x8, AV.imm 92 x9, AV.imm 92 x10, AV.imm 31 x11, AV.imm 31 x12, AV.imm 102 x13, AV.imm 102 x14, AV.imm 22 x15, AV.imm 22 x16, AV.imm 106 x17, AV.imm 106 x18, AV.imm 44 x19, AV.imm 44 x20]] => some (x0, x1, x2, x3, x4, x5, x6, x7, x8, x9, x10, x11, x12, x13, x14, x15, x16, x17, x18, x19, x20) | _, _ => none
def out9 : R9 → AV U := fun (x0, x1, x2, x3, x4, x5, x6, x7, x8, x9, x10, x11, x12, x13, x14, x15, x16, x17, x18, x19, x20) => AV.bool x0
def outh9 : R9 → List (AO U) := fun (x0, x1, x2, x3, x4, x5, x6, x7, x8, x9, x10, x11, x12, x13, x14, x15, x16, x17, x18, x19, x20) => [AO.box [AV.imm 62 x1, AV.imm 62 x2, AV.imm 90 x3, AV.imm 90 x4, AV.imm 23 x5, AV.imm 23 x6, AV.imm 39 x7, AV.imm 39 x8, AV.imm 92 x9, AV.imm 92 x10, AV.imm 31 x11, AV.imm 31 x12, AV.imm 102 x13, AV.imm 102 x14, AV.imm 22 x15, AV.imm 22 x16, AV.imm 106 x17, AV.imm 106 x18, AV.imm 44 x19, AV.imm 44 x20]]
def D9 : Nat → Dir := dirs [(2, ⟨[0, 3], [], [], []⟩), (7, ⟨[0, 4], [], [], []⟩), (12, ⟨[0, 5], [], [], []⟩), (17, ⟨[0, 6], [], [], []⟩), (22, ⟨[0, 7], [], [], []⟩), (27, ⟨[0, 8], [], [], []⟩)]
def b9 (p0 p1 p2 p3 p4 p5 : List TI) (p6 p7 : List (List (ByteArray))) (p8 p9 : List (List TRt)) (p10 p11 : List (List (List TRt))) (p12 p13 : List (List TIx)) (p14 p15 : List (List TOp)) (p16 p17 : List (List TIo)) (p18 p19 : List TMd) (c2 c7 c12 c17 c22 c27 : (Int) → Option R9)  : Option R9 :=
  c2 (0)
def m9_2 (p0 p1 p2 p3 p4 p5 : List TI) (p6 p7 : List (List (ByteArray))) (p8 p9 : List (List TRt)) (p10 p11 : List (List (List TRt))) (p12 p13 : List (List TIx)) (p14 p15 : List (List TOp)) (p16 p17 : List (List TIo)) (p18 p19 : List TMd) (v0 : Int) : S U := S.mk [AV.ptr 0 0, AV.undef, AV.undef, AV.int IntKind.i64 v0, AV.undef, AV.undef, AV.undef, AV.undef, AV.undef, AV.undef, AV.undef, AV.undef, AV.undef, AV.undef, AV.undef, AV.undef, AV.undef, AV.undef, AV.undef, AV.undef, AV.undef, AV.undef, AV.undef, AV.undef, AV.undef, AV.undef, AV.undef, AV.undef, AV.undef, AV.undef, AV.undef, AV.undef, AV.undef, AV.undef, AV.undef, AV.undef, AV.undef, AV.undef, AV.undef, AV.undef, AV.undef, AV.undef, AV.undef, AV.undef, AV.undef, AV.undef, AV.undef, AV.undef, AV.undef, AV.undef, AV.undef, AV.undef, AV.undef, AV.undef, AV.undef, AV.undef, AV.undef, AV.undef, AV.undef, AV.undef, AV.undef, AV.undef, AV.undef, AV.undef, AV.undef, AV.undef, AV.undef, AV.undef, AV.undef, AV.undef, AV.undef, AV.undef, AV.undef, AV.undef, AV.undef, AV.undef, AV.undef, AV.undef, AV.undef, AV.undef, AV.undef, AV.undef, AV.undef, AV.undef, AV.undef, AV.undef, AV.undef, AV.undef, AV.undef, AV.undef, AV.undef, AV.undef, AV.undef, AV.undef, AV.undef, AV.undef, AV.undef, AV.undef, AV.undef, AV.undef, AV.undef, AV.undef, AV.undef, AV.undef, AV.undef, AV.undef, AV.undef, AV.undef, AV.undef, AV.undef, AV.undef, AV.undef, AV.undef, AV.undef, AV.undef, AV.undef, AV.undef, AV.undef, AV.undef, AV.undef, AV.undef, AV.undef, AV.undef, AV.undef, AV.undef, AV.undef, AV.undef, AV.undef, AV.undef, AV.undef, AV.undef, AV.undef, AV.undef, AV.undef, AV.undef, AV.undef, AV.undef, AV.undef, AV.undef, AV.undef, AV.undef, AV.undef, AV.undef, AV.undef, AV.undef, AV.undef, AV.undef, AV.undef, AV.undef, AV.undef, AV.undef, AV.undef, AV.undef, AV.undef, AV.undef, AV.undef, AV.undef, AV.undef, AV.undef, AV.undef, AV.undef] [AO.box [AV.imm 62 p0, AV.imm 62 p1, AV.imm 90 p2, AV.imm 90 p3, AV.imm 23 p4, AV.imm 23 p5, AV.imm 39 p6, AV.imm 39 p7, AV.imm 92 p8, AV.imm 92 p9, AV.imm 31 p10, AV.imm 31 p11, AV.imm 102 p12, AV.imm 102 p13, AV.imm 22 p14, AV.imm 22 p15, AV.imm 106 p16, AV.imm 106 p17, AV.imm 44 p18, AV.imm 44 p19]]
def b9_2 (p0 p1 p2 p3 p4 p5 : List TI) (p6 p7 : List (List (ByteArray))) (p8 p9 : List (List TRt)) (p10 p11 : List (List (List TRt))) (p12 p13 : List (List TIx)) (p14 p15 : List (List TOp)) (p16 p17 : List (List TIo)) (p18 p19 : List TMd) (c2 c7 c12 c17 c22 c27 : (Int) → Option R9) (v0 : Int) : Option R9 :=
  cond (decide (v0 < (↑p0.length : Int)))
  (cond (decide (0 ≤ v0))
  (cond (decide (v0 < (↑p0.length : Int)))
  (cond (decide (v0.toNat < p0.length))
  (cond (decide (0 ≤ v0))
  (cond (decide (v0 < (↑p1.length : Int)))
  (cond (decide (v0.toNat < p1.length))
  ((S25 (p0.getD v0.toNat (X.dflt 62)) (p1.getD v0.toNat (X.dflt 62))).bind fun r0 =>
  cond (!r0)
  (some ((false, p0, p1, p2, p3, p4, p5, p6, p7, p8, p9, p10, p11, p12, p13, p14, p15, p16, p17, p18, p19)))
  (c2 (IntKind.i64.wrap (v0 + 1))))
  (none))
  (none))
  (none))
  (none))
  (none))
  (none))
  (c7 (0))
def m9_7 (p0 p1 p2 p3 p4 p5 : List TI) (p6 p7 : List (List (ByteArray))) (p8 p9 : List (List TRt)) (p10 p11 : List (List (List TRt))) (p12 p13 : List (List TIx)) (p14 p15 : List (List TOp)) (p16 p17 : List (List TIo)) (p18 p19 : List TMd) (v0 : Int) : S U := S.mk [AV.ptr 0 0, AV.undef, AV.undef, AV.undef, AV.int IntKind.i64 v0, AV.undef, AV.undef, AV.undef, AV.undef, AV.undef, AV.undef, AV.undef, AV.undef, AV.undef, AV.undef, AV.undef, AV.undef, AV.undef, AV.undef, AV.undef, AV.undef, AV.undef, AV.undef, AV.undef, AV.undef, AV.undef, AV.undef, AV.undef, AV.undef, AV.undef, AV.undef, AV.undef, AV.undef, AV.undef, AV.undef, AV.undef, AV.undef, AV.undef, AV.undef, AV.undef, AV.undef, AV.undef, AV.undef, AV.undef, AV.undef, AV.undef, AV.undef, AV.undef, AV.undef, AV.undef, AV.undef, AV.undef, AV.undef, AV.undef, AV.undef, AV.undef, AV.undef, AV.undef, AV.undef, AV.undef, AV.undef, AV.undef, AV.undef, AV.undef, AV.undef, AV.undef, AV.undef, AV.undef, AV.undef, AV.undef, AV.undef, AV.undef, AV.undef, AV.undef, AV.undef, AV.undef, AV.undef, AV.undef, AV.undef, AV.undef, AV.undef, AV.undef, AV.undef, AV.undef, AV.undef, AV.undef, AV.undef, AV.undef, AV.undef, AV.undef, AV.undef, AV.undef, AV.undef, AV.undef, AV.undef, AV.undef, AV.undef, AV.undef, AV.undef, AV.undef, AV.undef, AV.undef, AV.undef, AV.undef, AV.undef, AV.undef, AV.undef, AV.undef, AV.undef, AV.undef, AV.undef, AV.undef, AV.undef, AV.undef, AV.undef, AV.undef, AV.undef, AV.undef, AV.undef, AV.undef, AV.undef, AV.undef, AV.undef, AV.undef, AV.undef, AV.undef, AV.undef, AV.undef, AV.undef, AV.undef, AV.undef, AV.undef, AV.undef, AV.undef, AV.undef, AV.undef, AV.undef, AV.undef, AV.undef, AV.undef, AV.undef, AV.undef, AV.undef, AV.undef, AV.undef, AV.undef, AV.undef, AV.undef, AV.undef, AV.undef, AV.undef, AV.undef, AV.undef, AV.undef, AV.undef, AV.undef, AV.undef, AV.undef, AV.undef, AV.undef, AV.undef] [AO.box [AV.imm 62 p0, AV.imm 62 p1, AV.imm 90 p2, AV.imm 90 p3, AV.imm 23 p4, AV.imm 23 p5, AV.imm 39 p6, AV.imm 39 p7, AV.imm 92 p8, AV.imm 92 p9, AV.imm 31 p10, AV.imm 31 p11, AV.imm 102 p12, AV.imm 102 p13, AV.imm 22 p14, AV.imm 22 p15, AV.imm 106 p16, AV.imm 106 p17, AV.imm 44 p18, AV.imm 44 p19]]
def b9_7 (p0 p1 p2 p3 p4 p5 : List TI) (p6 p7 : List (List (ByteArray))) (p8 p9 : List (List TRt)) (p10 p11 : List (List (List TRt))) (p12 p13 : List (List TIx)) (p14 p15 : List (List TOp)) (p16 p17 : List (List TIo)) (p18 p19 : List TMd) (c2 c7 c12 c17 c22 c27 : (Int) → Option R9) (v0 : Int) : Option R9 :=
  cond (decide (v0 < (↑p2.length : Int)))
  (cond (decide (0 ≤ v0))
  (cond (decide (v0 < (↑p2.length : Int)))
  (cond (decide (v0.toNat < p2.length))
  (cond (decide (0 ≤ v0))
  (cond (decide (v0 < (↑p3.length : Int)))
  (cond (decide (v0.toNat < p3.length))
  ((S26 (p2.getD v0.toNat (X.dflt 90)) (p3.getD v0.toNat (X.dflt 90))).bind fun r0 =>
  cond (!r0)
  (some ((false, p0, p1, p2, p3, p4, p5, p6, p7, p8, p9, p10, p11, p12, p13, p14, p15, p16, p17, p18, p19)))
  (c7 (IntKind.i64.wrap (v0 + 1))))
  (none))
  (none))
  (none))
  (none))
  (none))
  (none))
  (c12 (0))
def m9_12 (p0 p1 p2 p3 p4 p5 : List TI) (p6 p7 : List (List (ByteArray))) (p8 p9 : List (List TRt)) (p10 p11 : List (List (List TRt))) (p12 p13 : List (List TIx)) (p14 p15 : List (List TOp)) (p16 p17 : List (List TIo)) (p18 p19 : List TMd) (v0 : Int) : S U := S.mk [AV.ptr 0 0, AV.undef, AV.undef, AV.undef, AV.undef, AV.int IntKind.i64 v0, AV.undef, AV.undef, AV.undef, AV.undef, AV.undef, AV.undef, AV.undef, AV.undef, AV.undef, AV.undef, AV.undef, AV.undef, AV.undef, AV.undef, AV.undef, AV.undef, AV.undef, AV.undef, AV.undef, AV.undef, AV.undef, AV.undef, AV.undef, AV.undef, AV.undef, AV.undef, AV.undef, AV.undef, AV.undef, AV.undef, AV.undef, AV.undef, AV.undef, AV.undef, AV.undef, AV.undef, AV.undef, AV.undef, AV.undef, AV.undef, AV.undef, AV.undef, AV.undef, AV.undef, AV.undef, AV.undef, AV.undef, AV.undef, AV.undef, AV.undef, AV.undef, AV.undef, AV.undef, AV.undef, AV.undef, AV.undef, AV.undef, AV.undef, AV.undef, AV.undef, AV.undef, AV.undef, AV.undef, AV.undef, AV.undef, AV.undef, AV.undef, AV.undef, AV.undef, AV.undef, AV.undef, AV.undef, AV.undef, AV.undef, AV.undef, AV.undef, AV.undef, AV.undef, AV.undef, AV.undef, AV.undef, AV.undef, AV.undef, AV.undef, AV.undef, AV.undef, AV.undef, AV.undef, AV.undef, AV.undef, AV.undef, AV.undef, AV.undef, AV.undef, AV.undef, AV.undef, AV.undef, AV.undef, AV.undef, AV.undef, AV.undef, AV.undef, AV.undef, AV.undef, AV.undef, AV.undef, AV.undef, AV.undef, AV.undef, AV.undef, AV.undef, AV.undef, AV.undef, AV.undef, AV.undef, AV.undef, AV.undef, AV.undef, AV.undef, AV.undef, AV.undef, AV.undef, AV.undef, AV.undef, AV.undef, AV.undef, AV.undef, AV.undef, AV.undef, AV.undef, AV.undef, AV.undef, AV.undef, AV.undef, AV.undef, AV.undef, AV.undef, AV.undef, AV.undef, AV.undef, AV.undef, AV.undef, AV.undef, AV.undef, AV.undef, AV.undef, AV.undef, AV.undef, AV.undef, AV.undef, AV.undef, AV.undef, AV.undef, AV.undef, AV.undef] [AO.box [AV.imm 62 p0, AV.imm 62 p1, AV.imm 90 p2, AV.imm 90 p3, AV.imm 23 p4, AV.imm 23 p5, AV.imm 39 p6, AV.imm 39 p7, AV.imm 92 p8, AV.imm 92 p9, AV.imm 31 p10, AV.imm 31 p11, AV.imm 102 p12, AV.imm 102 p13, AV.imm 22 p14, AV.imm 22 p15, AV.imm 106 p16, AV.imm 106 p17, AV.imm 44 p18, AV.imm 44 p19]]
def b9_12 (p0 p1 p2 p3 p4 p5 : List TI) (p6 p7 : List (List (ByteArray))) (p8 p9 : List (List TRt)) (p10 p11 : List (List (List TRt))) (p12 p13 : List (List TIx)) (p14 p15 : List (List TOp)) (p16 p17 : List (List TIo)) (p18 p19 : List TMd) (c2 c7 c12 c17 c22 c27 : (Int) → Option R9) (v0 : Int) : Option R9 :=
  cond (decide (v0 < (↑p4.length : Int)))
  (cond (decide (0 ≤ v0))
  (cond (decide (v0 < (↑p4.length : Int)))
  (cond (decide (v0.toNat < p4.length))
  (cond (decide (0 ≤ v0))
  (cond (decide (v0 < (↑p5.length : Int)))
  (cond (decide (v0.toNat < p5.length))
  ((S23 (p4.getD v0.toNat (X.dflt 23)) (p5.getD v0.toNat (X.dflt 23))).bind fun r0 =>
  cond (!r0)
  (some ((false, p0, p1, p2, p3, p4, p5, p6, p7, p8, p9, p10, p11, p12, p13, p14, p15, p16, p17, p18, p19)))
  (c12 (IntKind.i64.wrap (v0 + 1))))
  (none))
  (none))
  (none))
  (none))
  (none))
  (none))
  (c17 (0))
def m9_17 (p0 p1 p2 p3 p4 p5 : List TI) (p6 p7 : List (List (ByteArray))) (p8 p9 : List (List TRt)) (p10 p11 : List (List (List TRt))) (p12 p13 : List (List TIx)) (p14 p15 : List (List TOp)) (p16 p17 : List (List TIo)) (p18 p19 : List TMd) (v0 : Int) : S U := S.mk [AV.ptr 0 0, AV.undef, AV.undef, AV.undef, AV.undef, AV.undef, AV.int IntKind.i64 v0, AV.undef, AV.undef, AV.undef, AV.undef, AV.undef, AV.undef, AV.undef, AV.undef, AV.undef, AV.undef, AV.undef, AV.undef, AV.undef, AV.undef, AV.undef, AV.undef, AV.undef, AV.undef, AV.undef, AV.undef, AV.undef, AV.undef, AV.undef, AV.undef, AV.undef, AV.undef, AV.undef, AV.undef, AV.undef, AV.undef, AV.undef, AV.undef, AV.undef, AV.undef, AV.undef, AV.undef, AV.undef, AV.undef, AV.undef, AV.undef, AV.undef, AV.undef, AV.undef, AV.undef, AV.undef, AV.undef, AV.undef, AV.undef, AV.undef, AV.undef, AV.undef, AV.undef, AV.undef, AV.undef, AV.undef, AV.undef, AV.undef, AV.undef, AV.undef, AV.undef, AV.undef, AV.undef, AV.undef, AV.undef, AV.undef, AV.undef, AV.undef, AV.undef, AV.undef, AV.undef, AV.undef, AV.undef, AV.undef, AV.undef, AV.undef, AV.undef, AV.undef, AV.undef, AV.undef, AV.undef, AV.undef, AV.undef, AV.undef, AV.undef, AV.undef, AV.undef, AV.undef, AV.undef, AV.undef, AV.undef, AV.undef, AV.undef, AV.undef, AV.undef, AV.undef, AV.undef, AV.undef, AV.undef, AV.undef, AV.undef, AV.undef, AV.undef, AV.undef, AV.undef, AV.undef, AV.undef, AV.undef, AV.undef, AV.undef, AV.undef, AV.undef, AV.undef, AV.undef, AV.undef, AV.undef, AV.undef, AV.undef, AV.undef, AV.undef, AV.undef, AV.undef, AV.undef, AV.undef, AV.undef, AV.undef, AV.undef, AV.undef, AV.undef, AV.undef, AV.undef, AV.undef, AV.undef, AV.undef, AV.undef, AV.undef, AV.undef, AV.undef, AV.undef, AV.undef, AV.undef, AV.undef, AV.undef, AV.undef, AV.undef, AV.undef, AV.undef, AV.undef, AV.undef, AV.undef, AV.undef, AV.undef, AV.undef, AV.undef, AV.undef] [AO.box [AV.imm 62 p0, AV.imm 62 p1, AV.imm 90 p2, AV.imm 90 p3, AV.imm 23 p4, AV.imm 23 p5, AV.imm 39 p6, AV.imm 39 p7, AV.imm 92 p8, AV.imm 92 p9, AV.imm 31 p10, AV.imm 31 p11, AV.imm 102 p12, AV.imm 102 p13, AV.imm 22 p14, AV.imm 22 p15, AV.imm 106 p16, AV.imm 106 p17, AV.imm 44 p18, AV.imm 44 p19]]
def b9_17 (p0 p1 p2 p3 p4 p5 : List TI) (p6 p7 : List (List (ByteArray))) (p8 p9 : List (List TRt)) (p10 p11 : List (List (List TRt))) (p12 p13 : List (List TIx)) (p14 p15 : List (List TOp)) (p16 p17 : List (List TIo)) (p18 p19 : List TMd) (c2 c7 c12 c17 c22 c27 : (Int) → Option R9) (v0 : Int) : Option R9 :=
  cond (decide (v0 < (↑p6.length : Int)))
  (cond (decide (0 ≤ v0))
  (cond (decide (v0 < (↑p6.length : Int)))
  (cond (decide (v0.toNat < p6.length))
  (cond (decide (0 ≤ v0))
  (cond (decide (v0 < (↑p7.length : Int)))
  (cond (decide (v0.toNat < p7.length))
  ((S22 (p6.getD v0.toNat (X.dflt 39)) (p7.getD v0.toNat (X.dflt 39))).bind fun r0 =>
  cond (!r0)
  (some ((false, p0, p1, p2, p3, p4, p5, p6, p7, p8, p9, p10, p11, p12, p13, p14, p15, p16, p17, p18, p19)))
  (c17 (IntKind.i64.wrap (v0 + 1))))
  (none))
  (none))
  (none))
  (none))
  (none))
  (none))
  (c22 (0))
def m9_22 (p0 p1 p2 p3 p4 p5 : List TI) (p6 p7 : List (List (ByteArray))) (p8 p9 : List (List TRt)) (p10 p11 : List (List (List TRt))) (p12 p13 : List (List TIx)) (p14 p15 : List (List TOp)) (p16 p17 : List (List TIo)) (p18 p19 : List TMd) (v0 : Int) : S U := S.mk [AV.ptr 0 0, AV.undef, AV.undef, AV.undef, AV.undef, AV.undef, AV.undef, AV.int IntKind.i64 v0, AV.undef, AV.undef, AV.undef, AV.undef, AV.undef, AV.undef, AV.undef, AV.undef, AV.undef, AV.undef, AV.undef, AV.undef, AV.undef, AV.undef, AV.undef, AV.undef, AV.undef, AV.undef, AV.undef, AV.undef, AV.undef, AV.undef, AV.undef, AV.undef, AV.undef, AV.undef, AV.undef, AV.undef, AV.undef, AV.undef, AV.undef, AV.undef, AV.undef, AV.undef, AV.undef, AV.undef, AV.undef, AV.undef, AV.undef, AV.undef, AV.undef, AV.undef, AV.undef, AV.undef, AV.undef, AV.undef, AV.undef, AV.undef, AV.undef, AV.undef, AV.undef, AV.undef, AV.undef, AV.undef, AV.undef, AV.undef, AV.undef, AV.undef, AV.undef, AV.undef, AV.undef, AV.undef, AV.undef, AV.undef, AV.undef, AV.undef, AV.undef, AV.undef, AV.undef, AV.undef, AV.undef, AV.undef, AV.undef, AV.undef, AV.undef, AV.undef, AV.undef, AV.undef, AV.undef, AV.undef, AV.undef, AV.undef, AV.undef, AV.undef, AV.undef, AV.undef, AV.undef, AV.undef, AV.undef, AV.undef, AV.undef, AV.undef, AV.undef, AV.undef, AV.undef, AV.undef, AV.undef, AV.undef, AV.undef, AV.undef, AV.undef, AV.undef, AV.undef, AV.undef, AV.undef, AV.undef, AV.undef, AV.undef, AV.undef, AV.undef, AV.undef, AV.undef, AV.undef, AV.undef, AV.undef, AV.undef, AV.undef, AV.undef, AV.undef, AV.undef, AV.undef, AV.undef, AV.undef, AV.undef, AV.undef, AV.undef, AV.undef, AV.undef, AV.undef, AV.undef, AV.undef, AV.undef, AV.undef, AV.undef, AV.undef, AV.undef, AV.undef, AV.undef, AV.undef, AV.undef, AV.undef, AV.undef, AV.undef, AV.undef, AV.undef, AV.undef, AV.undef, AV.undef, AV.undef, AV.undef, AV.undef, AV.undef, AV.undef] [AO.box [AV.imm 62 p0, AV.imm 62 p1, AV.imm 90 p2, AV.imm 90 p3, AV.imm 23 p4, AV.imm 23 p5, AV.imm 39 p6, AV.imm 39 p7, AV.imm 92 p8, AV.imm 92 p9, AV.imm 31 p10, AV.imm 31 p11, AV.imm 102 p12, AV.imm 102 p13, AV.imm 22 p14, AV.imm 22 p15, AV.imm 106 p16, AV.imm 106 p17, AV.imm 44 p18, AV.imm 44 p19]]
def b9_22 (p0 p1 p2 p3 p4 p5 : List TI) (p6 p7 : List (List (ByteArray))) (p8 p9 : List (List TRt)) (p10 p11 : List (List (List TRt))) (p12 p13 : List (List TIx)) (p14 p15 : List (List TOp)) (p16 p17 : List (List TIo)) (p18 p19 : List TMd) (c2 c7 c12 c17 c22 c27 : (Int) → Option R9) (v0 : Int) : Option R9 :=
  cond (decide (v0 < (↑p8.length : Int)))
  (cond (decide (0 ≤ v0))
  (cond (decide (v0 < (↑p8.length : Int)))
  (cond (decide (v0.toNat < p8.length))
  (cond (decide (0 ≤ v0))
  (cond (decide (v0 < (↑p9.length : Int)))
  (cond (decide (v0.toNat < p9.length))
  ((S27 (p8.getD v0.toNat (X.dflt 92)) (p9.getD v0.toNat (X.dflt 92))).bind fun r0 =>
  cond (!r0)
  (some ((false, p0, p1, p2, p3, p4, p5, p6, p7, p8, p9, p10, p11, p12, p13, p14, p15, p16, p17, p18, p19)))
  (c22 (IntKind.i64.wrap (v0 + 1))))
  (none))
  (none))
  (none))
  (none))
  (none))
  (none))
  (c27 (0))
def m9_27 (p0 p1 p2 p3 p4 p5 : List TI) (p6 p7 : List (List (ByteArray))) (p8 p9 : List (List TRt)) (p10 p11 : List (List (List TRt))) (p12 p13 : List (List TIx)) (p14 p15 : List (List TOp)) (p16 p17 : List (List TIo)) (p18 p19 : List TMd) (v0 : Int) : S U := S.mk [AV.ptr 0 0, AV.undef, AV.undef, AV.undef, AV.undef, AV.undef, AV.undef, AV.undef, AV.int IntKind.i64 v0, AV.undef, AV.undef, AV.undef, AV.undef, AV.undef, AV.undef, AV.undef, AV.undef, AV.undef, AV.undef, AV.undef, AV.undef, AV.undef, AV.undef, AV.undef, AV.undef, AV.undef, AV.undef, AV.undef, AV.undef, AV.undef, AV.undef, AV.undef, AV.undef, AV.undef, AV.undef, AV.undef, AV.undef, AV.undef, AV.undef, AV.undef, AV.undef, AV.undef, AV.undef, AV.undef, AV.undef, AV.undef, AV.undef, AV.undef, AV.undef, AV.undef, AV.undef, AV.undef, AV.undef, AV.undef, AV.undef, AV.undef, AV.undef, AV.undef, AV.undef, AV.undef, AV.undef, AV.undef, AV.undef, AV.undef, AV.undef, AV.undef, AV.undef, AV.undef, AV.undef, AV.undef, AV.undef, AV.undef, AV.undef, AV.undef, AV.undef, AV.undef, AV.undef, AV.undef, AV.undef, AV.undef, AV.undef, AV.undef, AV.undef, AV.undef, AV.undef, AV.undef, AV.undef, AV.undef, AV.undef, AV.undef, AV.undef, AV.undef, AV.undef, AV.undef, AV.undef, AV.undef, AV.undef, AV.undef, AV.undef, AV.undef, AV.undef, AV.undef, AV.undef, AV.undef, AV.undef, AV.undef, AV.undef, AV.undef, AV.undef, AV.undef, AV.undef, AV.undef, AV.undef, AV.undef, AV.undef, AV.undef, AV.undef, AV.undef, AV.undef, AV.undef, AV.undef, AV.undef, AV.undef, AV.undef, AV.undef, AV.undef, AV.undef, AV.undef, AV.undef, AV.undef, AV.undef, AV.undef, AV.undef, AV.undef, AV.undef, AV.undef, AV.undef, AV.undef, AV.undef, AV.undef, AV.undef, AV.undef, AV.undef, AV.undef, AV.undef, AV.undef, AV.undef, AV.undef, AV.undef, AV.undef, AV.undef, AV.undef, AV.undef, AV.undef, AV.undef, AV.undef, AV.undef, AV.undef, AV.undef, AV.undef, AV.undef] [AO.box [AV.imm 62 p0, AV.imm 62 p1, AV.imm 90 p2, AV.imm 90 p3, AV.imm 23 p4, AV.imm 23 p5, AV.imm 39 p6, AV.imm 39 p7, AV.imm 92 p8, AV.imm 92 p9, AV.imm 31 p10, AV.imm 31 p11, AV.imm 102 p12, AV.imm 102 p13, AV.imm 22 p14, AV.imm 22 p15, AV.imm 106 p16, AV.imm 106 p17, AV.imm 44 p18, AV.imm 44 p19]]
def b9_27 (p0 p1 p2 p3 p4 p5 : List TI) (p6 p7 : List (List (ByteArray))) (p8 p9 : List (List TRt)) (p10 p11 : List (List (List TRt))) (p12 p13 : List (List TIx)) (p14 p15 : List (List TOp)) (p16 p17 : List (List TIo)) (p18 p19 : List TMd) (c2 c7 c12 c17 c22 c27 : (Int) → Option R9) (v0 : Int) : Option R9 :=
  cond (decide (v0 < (↑p10.length : Int)))
  (cond (decide (0 ≤ v0))
  (cond (decide (v0 < (↑p10.length : Int)))
  (cond (decide (v0.toNat < p10.length))
  (cond (decide (0 ≤ v0))
  (cond (decide (v0 < (↑p11.length : Int)))
  (cond (decide (v0.toNat < p11.length))
  ((S28 (p10.getD v0.toNat (X.dflt 31)) (p11.getD v0.toNat (X.dflt 31))).bind fun r0 =>
  cond (!r0)
  (some ((false, p0, p1, p2, p3, p4, p5, p6, p7, p8, p9, p10, p11, p12, p13, p14, p15, p16, p17, p18, p19)))
  (c27 (IntKind.i64.wrap (v0 + 1))))
  (none))
  (none))
  (none))
  (none))
  (none))
  (none))
  ((S29 p0 p1 p2 p3 p4 p5 p6 p7 p8 p9 p10 p11 p12 p13 p14 p15 p16 p17 p18 p19).bind fun r1 =>
  some ((r1.fst, r1.snd.fst, r1.snd.snd.fst, r1.snd.snd.snd.fst, r1.snd.snd.snd.snd.fst, r1.snd.snd.snd.snd.snd.fst, r1.snd.snd.snd.snd.snd.snd.fst, r1.snd.snd.snd.snd.snd.snd.snd.fst, r1.snd.snd.snd.snd.snd.snd.snd.snd.fst, r1.snd.snd.snd.snd.snd.snd.snd.snd.snd.fst, r1.snd.snd.snd.snd.snd.snd.snd.snd.snd.snd.fst, r1.snd.snd.snd.snd.snd.snd.snd.snd.snd.snd.snd.fst, r1.snd.snd.snd.snd.snd.snd.snd.snd.snd.snd.snd.snd.fst, r1.snd.snd.snd.snd.snd.snd.snd.snd.snd.snd.snd.snd.snd.fst, r1.snd.snd.snd.snd.snd.snd.snd.snd.snd.snd.snd.snd.snd.snd.fst, r1.snd.snd.snd.snd.snd.snd.snd.snd.snd.snd.snd.snd.snd.snd.snd.fst, r1.snd.snd.snd.snd.snd.snd.snd.snd.snd.snd.snd.snd.snd.snd.snd.snd.fst, r1.snd.snd.snd.snd.snd.snd.snd.snd.snd.snd.snd.snd.snd.snd.snd.snd.snd.fst, r1.snd.snd.snd.snd.snd.snd.snd.snd.snd.snd.snd.snd.snd.snd.snd.snd.snd.snd.fst, r1.snd.snd.snd.snd.snd.snd.snd.snd.snd.snd.snd.snd.snd.snd.snd.snd.snd.snd.snd.fst, r1.snd.snd.snd.snd.snd.snd.snd.snd.snd.snd.snd.snd.snd.snd.snd.snd.snd.snd.snd.snd)))
theorem hk9 : ∀ v h' r, k9 v h' = some r → v = out9 r ∧ h' = outh9 r := by
  intro v h' r h
  unfold k9 at h
  split at h
  · injection h with h; subst h; exact ⟨rfl, rfl⟩
  · cases h
abbrev q9 : Prim U R9 := prims X [⟨25, fun _ => true, [.lend, .lend], F25 S25⟩, ⟨26, fun _ => true, [.lend, .lend], F26 S26⟩, ⟨23, fun _ => true, [.lend, .lend], F23 S23⟩, ⟨22, fun _ => true, [.lend, .lend], F22 S22⟩, ⟨27, fun _ => true, [.lend, .lend], F27 S27⟩, ⟨28, fun _ => true, [.lend, .lend], F28 S28⟩, ⟨29, fun _ => true, [.ro], F29 S29⟩]
theorem s9 (c : Nat → S U → Option R9) (p0 p1 p2 p3 p4 p5 : List TI) (p6 p7 : List (List (ByteArray))) (p8 p9 : List (List TRt)) (p10 p11 : List (List (List TRt))) (p12 p13 : List (List TIx)) (p14 p15 : List (List TOp)) (p16 p17 : List (List TIo)) (p18 p19 : List TMd) : seg TP X q9 [2, 7, 12, 17, 22, 27] (fun q st => c q (keepD D9 (h9 p0 p1 p2 p3 p4 p5 p6 p7 p8 p9 p10 p11 p12 p13 p14 p15 p16 p17 p18 p19).length q st)) body9 (finH TP Tryd.f9.results.toList (h9 p0 p1 p2 p3 p4 p5 p6 p7 p8 p9 p10 p11 p12 p13 p14 p15 p16 p17 p18 p19).length false k9) (start [.ptr 0 0] Tryd.f9.ntmps (h9 p0 p1 p2 p3 p4 p5 p6 p7 p8 p9 p10 p11 p12 p13 p14 p15 p16 p17 p18 p19)) = b9 p0 p1 p2 p3 p4 p5 p6 p7 p8 p9 p10 p11 p12 p13 p14 p15 p16 p17 p18 p19 (fun v0 => c 2 (m9_2 p0 p1 p2 p3 p4 p5 p6 p7 p8 p9 p10 p11 p12 p13 p14 p15 p16 p17 p18 p19 v0)) (fun v0 => c 7 (m9_7 p0 p1 p2 p3 p4 p5 p6 p7 p8 p9 p10 p11 p12 p13 p14 p15 p16 p17 p18 p19 v0)) (fun v0 => c 12 (m9_12 p0 p1 p2 p3 p4 p5 p6 p7 p8 p9 p10 p11 p12 p13 p14 p15 p16 p17 p18 p19 v0)) (fun v0 => c 17 (m9_17 p0 p1 p2 p3 p4 p5 p6 p7 p8 p9 p10 p11 p12 p13 p14 p15 p16 p17 p18 p19 v0)) (fun v0 => c 22 (m9_22 p0 p1 p2 p3 p4 p5 p6 p7 p8 p9 p10 p11 p12 p13 p14 p15 p16 p17 p18 p19 v0)) (fun v0 => c 27 (m9_27 p0 p1 p2 p3 p4 p5 p6 p7 p8 p9 p10 p11 p12 p13 p14 p15 p16 p17 p18 p19 v0)) := by kernel_rfl
theorem s9_2 (c : Nat → S U → Option R9) (p0 p1 p2 p3 p4 p5 : List TI) (p6 p7 : List (List (ByteArray))) (p8 p9 : List (List TRt)) (p10 p11 : List (List (List TRt))) (p12 p13 : List (List TIx)) (p14 p15 : List (List TOp)) (p16 p17 : List (List TIo)) (p18 p19 : List TMd) (v0 : Int) : res TP X q9 [2, 7, 12, 17, 22, 27] (fun q st => c q (keepD D9 (h9 p0 p1 p2 p3 p4 p5 p6 p7 p8 p9 p10 p11 p12 p13 p14 p15 p16 p17 p18 p19).length q st)) 2 body9 (finH TP Tryd.f9.results.toList (h9 p0 p1 p2 p3 p4 p5 p6 p7 p8 p9 p10 p11 p12 p13 p14 p15 p16 p17 p18 p19).length false k9) (m9_2 p0 p1 p2 p3 p4 p5 p6 p7 p8 p9 p10 p11 p12 p13 p14 p15 p16 p17 p18 p19 v0) = b9_2 p0 p1 p2 p3 p4 p5 p6 p7 p8 p9 p10 p11 p12 p13 p14 p15 p16 p17 p18 p19 (fun v0 => c 2 (m9_2 p0 p1 p2 p3 p4 p5 p6 p7 p8 p9 p10 p11 p12 p13 p14 p15 p16 p17 p18 p19 v0)) (fun v0 => c 7 (m9_7 p0 p1 p2 p3 p4 p5 p6 p7 p8 p9 p10 p11 p12 p13 p14 p15 p16 p17 p18 p19 v0)) (fun v0 => c 12 (m9_12 p0 p1 p2 p3 p4 p5 p6 p7 p8 p9 p10 p11 p12 p13 p14 p15 p16 p17 p18 p19 v0)) (fun v0 => c 17 (m9_17 p0 p1 p2 p3 p4 p5 p6 p7 p8 p9 p10 p11 p12 p13 p14 p15 p16 p17 p18 p19 v0)) (fun v0 => c 22 (m9_22 p0 p1 p2 p3 p4 p5 p6 p7 p8 p9 p10 p11 p12 p13 p14 p15 p16 p17 p18 p19 v0)) (fun v0 => c 27 (m9_27 p0 p1 p2 p3 p4 p5 p6 p7 p8 p9 p10 p11 p12 p13 p14 p15 p16 p17 p18 p19 v0)) v0 := by kernel_rfl
theorem s9_7 (c : Nat → S U → Option R9) (p0 p1 p2 p3 p4 p5 : List TI) (p6 p7 : List (List (ByteArray))) (p8 p9 : List (List TRt)) (p10 p11 : List (List (List TRt))) (p12 p13 : List (List TIx)) (p14 p15 : List (List TOp)) (p16 p17 : List (List TIo)) (p18 p19 : List TMd) (v0 : Int) : res TP X q9 [2, 7, 12, 17, 22, 27] (fun q st => c q (keepD D9 (h9 p0 p1 p2 p3 p4 p5 p6 p7 p8 p9 p10 p11 p12 p13 p14 p15 p16 p17 p18 p19).length q st)) 7 body9 (finH TP Tryd.f9.results.toList (h9 p0 p1 p2 p3 p4 p5 p6 p7 p8 p9 p10 p11 p12 p13 p14 p15 p16 p17 p18 p19).length false k9) (m9_7 p0 p1 p2 p3 p4 p5 p6 p7 p8 p9 p10 p11 p12 p13 p14 p15 p16 p17 p18 p19 v0) = b9_7 p0 p1 p2 p3 p4 p5 p6 p7 p8 p9 p10 p11 p12 p13 p14 p15 p16 p17 p18 p19 (fun v0 => c 2 (m9_2 p0 p1 p2 p3 p4 p5 p6 p7 p8 p9 p10 p11 p12 p13 p14 p15 p16 p17 p18 p19 v0)) (fun v0 => c 7 (m9_7 p0 p1 p2 p3 p4 p5 p6 p7 p8 p9 p10 p11 p12 p13 p14 p15 p16 p17 p18 p19 v0)) (fun v0 => c 12 (m9_12 p0 p1 p2 p3 p4 p5 p6 p7 p8 p9 p10 p11 p12 p13 p14 p15 p16 p17 p18 p19 v0)) (fun v0 => c 17 (m9_17 p0 p1 p2 p3 p4 p5 p6 p7 p8 p9 p10 p11 p12 p13 p14 p15 p16 p17 p18 p19 v0)) (fun v0 => c 22 (m9_22 p0 p1 p2 p3 p4 p5 p6 p7 p8 p9 p10 p11 p12 p13 p14 p15 p16 p17 p18 p19 v0)) (fun v0 => c 27 (m9_27 p0 p1 p2 p3 p4 p5 p6 p7 p8 p9 p10 p11 p12 p13 p14 p15 p16 p17 p18 p19 v0)) v0 := by kernel_rfl
theorem s9_12 (c : Nat → S U → Option R9) (p0 p1 p2 p3 p4 p5 : List TI) (p6 p7 : List (List (ByteArray))) (p8 p9 : List (List TRt)) (p10 p11 : List (List (List TRt))) (p12 p13 : List (List TIx)) (p14 p15 : List (List TOp)) (p16 p17 : List (List TIo)) (p18 p19 : List TMd) (v0 : Int) : res TP X q9 [2, 7, 12, 17, 22, 27] (fun q st => c q (keepD D9 (h9 p0 p1 p2 p3 p4 p5 p6 p7 p8 p9 p10 p11 p12 p13 p14 p15 p16 p17 p18 p19).length q st)) 12 body9 (finH TP Tryd.f9.results.toList (h9 p0 p1 p2 p3 p4 p5 p6 p7 p8 p9 p10 p11 p12 p13 p14 p15 p16 p17 p18 p19).length false k9) (m9_12 p0 p1 p2 p3 p4 p5 p6 p7 p8 p9 p10 p11 p12 p13 p14 p15 p16 p17 p18 p19 v0) = b9_12 p0 p1 p2 p3 p4 p5 p6 p7 p8 p9 p10 p11 p12 p13 p14 p15 p16 p17 p18 p19 (fun v0 => c 2 (m9_2 p0 p1 p2 p3 p4 p5 p6 p7 p8 p9 p10 p11 p12 p13 p14 p15 p16 p17 p18 p19 v0)) (fun v0 => c 7 (m9_7 p0 p1 p2 p3 p4 p5 p6 p7 p8 p9 p10 p11 p12 p13 p14 p15 p16 p17 p18 p19 v0)) (fun v0 => c 12 (m9_12 p0 p1 p2 p3 p4 p5 p6 p7 p8 p9 p10 p11 p12 p13 p14 p15 p16 p17 p18 p19 v0)) (fun v0 => c 17 (m9_17 p0 p1 p2 p3 p4 p5 p6 p7 p8 p9 p10 p11 p12 p13 p14 p15 p16 p17 p18 p19 v0)) (fun v0 => c 22 (m9_22 p0 p1 p2 p3 p4 p5 p6 p7 p8 p9 p10 p11 p12 p13 p14 p15 p16 p17 p18 p19 v0)) (fun v0 => c 27 (m9_27 p0 p1 p2 p3 p4 p5 p6 p7 p8 p9 p10 p11 p12 p13 p14 p15 p16 p17 p18 p19 v0)) v0 := by kernel_rfl
theorem s9_17 (c : Nat → S U → Option R9) (p0 p1 p2 p3 p4 p5 : List TI) (p6 p7 : List (List (ByteArray))) (p8 p9 : List (List TRt)) (p10 p11 : List (List (List TRt))) (p12 p13 : List (List TIx)) (p14 p15 : List (List TOp)) (p16 p17 : List (List TIo)) (p18 p19 : List TMd) (v0 : Int) : res TP X q9 [2, 7, 12, 17, 22, 27] (fun q st => c q (keepD D9 (h9 p0 p1 p2 p3 p4 p5 p6 p7 p8 p9 p10 p11 p12 p13 p14 p15 p16 p17 p18 p19).length q st)) 17 body9 (finH TP Tryd.f9.results.toList (h9 p0 p1 p2 p3 p4 p5 p6 p7 p8 p9 p10 p11 p12 p13 p14 p15 p16 p17 p18 p19).length false k9) (m9_17 p0 p1 p2 p3 p4 p5 p6 p7 p8 p9 p10 p11 p12 p13 p14 p15 p16 p17 p18 p19 v0) = b9_17 p0 p1 p2 p3 p4 p5 p6 p7 p8 p9 p10 p11 p12 p13 p14 p15 p16 p17 p18 p19 (fun v0 => c 2 (m9_2 p0 p1 p2 p3 p4 p5 p6 p7 p8 p9 p10 p11 p12 p13 p14 p15 p16 p17 p18 p19 v0)) (fun v0 => c 7 (m9_7 p0 p1 p2 p3 p4 p5 p6 p7 p8 p9 p10 p11 p12 p13 p14 p15 p16 p17 p18 p19 v0)) (fun v0 => c 12 (m9_12 p0 p1 p2 p3 p4 p5 p6 p7 p8 p9 p10 p11 p12 p13 p14 p15 p16 p17 p18 p19 v0)) (fun v0 => c 17 (m9_17 p0 p1 p2 p3 p4 p5 p6 p7 p8 p9 p10 p11 p12 p13 p14 p15 p16 p17 p18 p19 v0)) (fun v0 => c 22 (m9_22 p0 p1 p2 p3 p4 p5 p6 p7 p8 p9 p10 p11 p12 p13 p14 p15 p16 p17 p18 p19 v0)) (fun v0 => c 27 (m9_27 p0 p1 p2 p3 p4 p5 p6 p7 p8 p9 p10 p11 p12 p13 p14 p15 p16 p17 p18 p19 v0)) v0 := by kernel_rfl
theorem s9_22 (c : Nat → S U → Option R9) (p0 p1 p2 p3 p4 p5 : List TI) (p6 p7 : List (List (ByteArray))) (p8 p9 : List (List TRt)) (p10 p11 : List (List (List TRt))) (p12 p13 : List (List TIx)) (p14 p15 : List (List TOp)) (p16 p17 : List (List TIo)) (p18 p19 : List TMd) (v0 : Int) : res TP X q9 [2, 7, 12, 17, 22, 27] (fun q st => c q (keepD D9 (h9 p0 p1 p2 p3 p4 p5 p6 p7 p8 p9 p10 p11 p12 p13 p14 p15 p16 p17 p18 p19).length q st)) 22 body9 (finH TP Tryd.f9.results.toList (h9 p0 p1 p2 p3 p4 p5 p6 p7 p8 p9 p10 p11 p12 p13 p14 p15 p16 p17 p18 p19).length false k9) (m9_22 p0 p1 p2 p3 p4 p5 p6 p7 p8 p9 p10 p11 p12 p13 p14 p15 p16 p17 p18 p19 v0) = b9_22 p0 p1 p2 p3 p4 p5 p6 p7 p8 p9 p10 p11 p12 p13 p14 p15 p16 p17 p18 p19 (fun v0 => c 2 (m9_2 p0 p1 p2 p3 p4 p5 p6 p7 p8 p9 p10 p11 p12 p13 p14 p15 p16 p17 p18 p19 v0)) (fun v0 => c 7 (m9_7 p0 p1 p2 p3 p4 p5 p6 p7 p8 p9 p10 p11 p12 p13 p14 p15 p16 p17 p18 p19 v0)) (fun v0 => c 12 (m9_12 p0 p1 p2 p3 p4 p5 p6 p7 p8 p9 p10 p11 p12 p13 p14 p15 p16 p17 p18 p19 v0)) (fun v0 => c 17 (m9_17 p0 p1 p2 p3 p4 p5 p6 p7 p8 p9 p10 p11 p12 p13 p14 p15 p16 p17 p18 p19 v0)) (fun v0 => c 22 (m9_22 p0 p1 p2 p3 p4 p5 p6 p7 p8 p9 p10 p11 p12 p13 p14 p15 p16 p17 p18 p19 v0)) (fun v0 => c 27 (m9_27 p0 p1 p2 p3 p4 p5 p6 p7 p8 p9 p10 p11 p12 p13 p14 p15 p16 p17 p18 p19 v0)) v0 := by kernel_rfl
theorem s9_27 (c : Nat → S U → Option R9) (p0 p1 p2 p3 p4 p5 : List TI) (p6 p7 : List (List (ByteArray))) (p8 p9 : List (List TRt)) (p10 p11 : List (List (List TRt))) (p12 p13 : List (List TIx)) (p14 p15 : List (List TOp)) (p16 p17 : List (List TIo)) (p18 p19 : List TMd) (v0 : Int) : res TP X q9 [2, 7, 12, 17, 22, 27] (fun q st => c q (keepD D9 (h9 p0 p1 p2 p3 p4 p5 p6 p7 p8 p9 p10 p11 p12 p13 p14 p15 p16 p17 p18 p19).length q st)) 27 body9 (finH TP Tryd.f9.results.toList (h9 p0 p1 p2 p3 p4 p5 p6 p7 p8 p9 p10 p11 p12 p13 p14 p15 p16 p17 p18 p19).length false k9) (m9_27 p0 p1 p2 p3 p4 p5 p6 p7 p8 p9 p10 p11 p12 p13 p14 p15 p16 p17 p18 p19 v0) = b9_27 p0 p1 p2 p3 p4 p5 p6 p7 p8 p9 p10 p11 p12 p13 p14 p15 p16 p17 p18 p19 (fun v0 => c 2 (m9_2 p0 p1 p2 p3 p4 p5 p6 p7 p8 p9 p10 p11 p12 p13 p14 p15 p16 p17 p18 p19 v0)) (fun v0 => c 7 (m9_7 p0 p1 p2 p3 p4 p5 p6 p7 p8 p9 p10 p11 p12 p13 p14 p15 p16 p17 p18 p19 v0)) (fun v0 => c 12 (m9_12 p0 p1 p2 p3 p4 p5 p6 p7 p8 p9 p10 p11 p12 p13 p14 p15 p16 p17 p18 p19 v0)) (fun v0 => c 17 (m9_17 p0 p1 p2 p3 p4 p5 p6 p7 p8 p9 p10 p11 p12 p13 p14 p15 p16 p17 p18 p19 v0)) (fun v0 => c 22 (m9_22 p0 p1 p2 p3 p4 p5 p6 p7 p8 p9 p10 p11 p12 p13 p14 p15 p16 p17 p18 p19 v0)) (fun v0 => c 27 (m9_27 p0 p1 p2 p3 p4 p5 p6 p7 p8 p9 p10 p11 p12 p13 p14 p15 p16 p17 p18 p19 v0)) v0 := by kernel_rfl
mutual
def f9_2 (p0 p1 p2 p3 p4 p5 : List TI) (p6 p7 : List (List (ByteArray))) (p8 p9 : List (List TRt)) (p10 p11 : List (List (List TRt))) (p12 p13 : List (List TIx)) (p14 p15 : List (List TOp)) (p16 p17 : List (List TIo)) (p18 p19 : List TMd) : Nat → Int → Option R9
  | 0 => fun _ => none
  | k + 1 => b9_2 p0 p1 p2 p3 p4 p5 p6 p7 p8 p9 p10 p11 p12 p13 p14 p15 p16 p17 p18 p19 (f9_2 p0 p1 p2 p3 p4 p5 p6 p7 p8 p9 p10 p11 p12 p13 p14 p15 p16 p17 p18 p19 k) (f9_7 p0 p1 p2 p3 p4 p5 p6 p7 p8 p9 p10 p11 p12 p13 p14 p15 p16 p17 p18 p19 k) (f9_12 p0 p1 p2 p3 p4 p5 p6 p7 p8 p9 p10 p11 p12 p13 p14 p15 p16 p17 p18 p19 k) (f9_17 p0 p1 p2 p3 p4 p5 p6 p7 p8 p9 p10 p11 p12 p13 p14 p15 p16 p17 p18 p19 k) (f9_22 p0 p1 p2 p3 p4 p5 p6 p7 p8 p9 p10 p11 p12 p13 p14 p15 p16 p17 p18 p19 k) (f9_27 p0 p1 p2 p3 p4 p5 p6 p7 p8 p9 p10 p11 p12 p13 p14 p15 p16 p17 p18 p19 k)
def f9_7 (p0 p1 p2 p3 p4 p5 : List TI) (p6 p7 : List (List (ByteArray))) (p8 p9 : List (List TRt)) (p10 p11 : List (List (List TRt))) (p12 p13 : List (List TIx)) (p14 p15 : List (List TOp)) (p16 p17 : List (List TIo)) (p18 p19 : List TMd) : Nat → Int → Option R9
  | 0 => fun _ => none
  | k + 1 => b9_7 p0 p1 p2 p3 p4 p5 p6 p7 p8 p9 p10 p11 p12 p13 p14 p15 p16 p17 p18 p19 (f9_2 p0 p1 p2 p3 p4 p5 p6 p7 p8 p9 p10 p11 p12 p13 p14 p15 p16 p17 p18 p19 k) (f9_7 p0 p1 p2 p3 p4 p5 p6 p7 p8 p9 p10 p11 p12 p13 p14 p15 p16 p17 p18 p19 k) (f9_12 p0 p1 p2 p3 p4 p5 p6 p7 p8 p9 p10 p11 p12 p13 p14 p15 p16 p17 p18 p19 k) (f9_17 p0 p1 p2 p3 p4 p5 p6 p7 p8 p9 p10 p11 p12 p13 p14 p15 p16 p17 p18 p19 k) (f9_22 p0 p1 p2 p3 p4 p5 p6 p7 p8 p9 p10 p11 p12 p13 p14 p15 p16 p17 p18 p19 k) (f9_27 p0 p1 p2 p3 p4 p5 p6 p7 p8 p9 p10 p11 p12 p13 p14 p15 p16 p17 p18 p19 k)
def f9_12 (p0 p1 p2 p3 p4 p5 : List TI) (p6 p7 : List (List (ByteArray))) (p8 p9 : List (List TRt)) (p10 p11 : List (List (List TRt))) (p12 p13 : List (List TIx)) (p14 p15 : List (List TOp)) (p16 p17 : List (List TIo)) (p18 p19 : List TMd) : Nat → Int → Option R9
  | 0 => fun _ => none
  | k + 1 => b9_12 p0 p1 p2 p3 p4 p5 p6 p7 p8 p9 p10 p11 p12 p13 p14 p15 p16 p17 p18 p19 (f9_2 p0 p1 p2 p3 p4 p5 p6 p7 p8 p9 p10 p11 p12 p13 p14 p15 p16 p17 p18 p19 k) (f9_7 p0 p1 p2 p3 p4 p5 p6 p7 p8 p9 p10 p11 p12 p13 p14 p15 p16 p17 p18 p19 k) (f9_12 p0 p1 p2 p3 p4 p5 p6 p7 p8 p9 p10 p11 p12 p13 p14 p15 p16 p17 p18 p19 k) (f9_17 p0 p1 p2 p3 p4 p5 p6 p7 p8 p9 p10 p11 p12 p13 p14 p15 p16 p17 p18 p19 k) (f9_22 p0 p1 p2 p3 p4 p5 p6 p7 p8 p9 p10 p11 p12 p13 p14 p15 p16 p17 p18 p19 k) (f9_27 p0 p1 p2 p3 p4 p5 p6 p7 p8 p9 p10 p11 p12 p13 p14 p15 p16 p17 p18 p19 k)
def f9_17 (p0 p1 p2 p3 p4 p5 : List TI) (p6 p7 : List (List (ByteArray))) (p8 p9 : List (List TRt)) (p10 p11 : List (List (List TRt))) (p12 p13 : List (List TIx)) (p14 p15 : List (List TOp)) (p16 p17 : List (List TIo)) (p18 p19 : List TMd) : Nat → Int → Option R9
  | 0 => fun _ => none
  | k + 1 => b9_17 p0 p1 p2 p3 p4 p5 p6 p7 p8 p9 p10 p11 p12 p13 p14 p15 p16 p17 p18 p19 (f9_2 p0 p1 p2 p3 p4 p5 p6 p7 p8 p9 p10 p11 p12 p13 p14 p15 p16 p17 p18 p19 k) (f9_7 p0 p1 p2 p3 p4 p5 p6 p7 p8 p9 p10 p11 p12 p13 p14 p15 p16 p17 p18 p19 k) (f9_12 p0 p1 p2 p3 p4 p5 p6 p7 p8 p9 p10 p11 p12 p13 p14 p15 p16 p17 p18 p19 k) (f9_17 p0 p1 p2 p3 p4 p5 p6 p7 p8 p9 p10 p11 p12 p13 p14 p15 p16 p17 p18 p19 k) (f9_22 p0 p1 p2 p3 p4 p5 p6 p7 p8 p9 p10 p11 p12 p13 p14 p15 p16 p17 p18 p19 k) (f9_27 p0 p1 p2 p3 p4 p5 p6 p7 p8 p9 p10 p11 p12 p13 p14 p15 p16 p17 p18 p19 k)
def f9_22 (p0 p1 p2 p3 p4 p5 : List TI) (p6 p7 : List (List (ByteArray))) (p8 p9 : List (List TRt)) (p10 p11 : List (List (List TRt))) (p12 p13 : List (List TIx)) (p14 p15 : List (List TOp)) (p16 p17 : List (List TIo)) (p18 p19 : List TMd) : Nat → Int → Option R9
  | 0 => fun _ => none
  | k + 1 => b9_22 p0 p1 p2 p3 p4 p5 p6 p7 p8 p9 p10 p11 p12 p13 p14 p15 p16 p17 p18 p19 (f9_2 p0 p1 p2 p3 p4 p5 p6 p7 p8 p9 p10 p11 p12 p13 p14 p15 p16 p17 p18 p19 k) (f9_7 p0 p1 p2 p3 p4 p5 p6 p7 p8 p9 p10 p11 p12 p13 p14 p15 p16 p17 p18 p19 k) (f9_12 p0 p1 p2 p3 p4 p5 p6 p7 p8 p9 p10 p11 p12 p13 p14 p15 p16 p17 p18 p19 k) (f9_17 p0 p1 p2 p3 p4 p5 p6 p7 p8 p9 p10 p11 p12 p13 p14 p15 p16 p17 p18 p19 k) (f9_22 p0 p1 p2 p3 p4 p5 p6 p7 p8 p9 p10 p11 p12 p13 p14 p15 p16 p17 p18 p19 k) (f9_27 p0 p1 p2 p3 p4 p5 p6 p7 p8 p9 p10 p11 p12 p13 p14 p15 p16 p17 p18 p19 k)
def f9_27 (p0 p1 p2 p3 p4 p5 : List TI) (p6 p7 : List (List (ByteArray))) (p8 p9 : List (List TRt)) (p10 p11 : List (List (List TRt))) (p12 p13 : List (List TIx)) (p14 p15 : List (List TOp)) (p16 p17 : List (List TIo)) (p18 p19 : List TMd) : Nat → Int → Option R9
  | 0 => fun _ => none
  | k + 1 => b9_27 p0 p1 p2 p3 p4 p5 p6 p7 p8 p9 p10 p11 p12 p13 p14 p15 p16 p17 p18 p19 (f9_2 p0 p1 p2 p3 p4 p5 p6 p7 p8 p9 p10 p11 p12 p13 p14 p15 p16 p17 p18 p19 k) (f9_7 p0 p1 p2 p3 p4 p5 p6 p7 p8 p9 p10 p11 p12 p13 p14 p15 p16 p17 p18 p19 k) (f9_12 p0 p1 p2 p3 p4 p5 p6 p7 p8 p9 p10 p11 p12 p13 p14 p15 p16 p17 p18 p19 k) (f9_17 p0 p1 p2 p3 p4 p5 p6 p7 p8 p9 p10 p11 p12 p13 p14 p15 p16 p17 p18 p19 k) (f9_22 p0 p1 p2 p3 p4 p5 p6 p7 p8 p9 p10 p11 p12 p13 p14 p15 p16 p17 p18 p19 k) (f9_27 p0 p1 p2 p3 p4 p5 p6 p7 p8 p9 p10 p11 p12 p13 p14 p15 p16 p17 p18 p19 k)
end
def f9 (k : Nat) (p0 p1 p2 p3 p4 p5 : List TI) (p6 p7 : List (List (ByteArray))) (p8 p9 : List (List TRt)) (p10 p11 : List (List (List TRt))) (p12 p13 : List (List TIx)) (p14 p15 : List (List TOp)) (p16 p17 : List (List TIo)) (p18 p19 : List TMd) : Option R9 := b9 p0 p1 p2 p3 p4 p5 p6 p7 p8 p9 p10 p11 p12 p13 p14 p15 p16 p17 p18 p19 (f9_2 p0 p1 p2 p3 p4 p5 p6 p7 p8 p9 p10 p11 p12 p13 p14 p15 p16 p17 p18 p19 k) (f9_7 p0 p1 p2 p3 p4 p5 p6 p7 p8 p9 p10 p11 p12 p13 p14 p15 p16 p17 p18 p19 k) (f9_12 p0 p1 p2 p3 p4 p5 p6 p7 p8 p9 p10 p11 p12 p13 p14 p15 p16 p17 p18 p19 k) (f9_17 p0 p1 p2 p3 p4 p5 p6 p7 p8 p9 p10 p11 p12 p13 p14 p15 p16 p17 p18 p19 k) (f9_22 p0 p1 p2 p3 p4 p5 p6 p7 p8 p9 p10 p11 p12 p13 p14 p15 p16 p17 p18 p19 k) (f9_27 p0 p1 p2 p3 p4 p5 p6 p7 p8 p9 p10 p11 p12 p13 p14 p15 p16 p17 p18 p19 k)
theorem e9 (p0 p1 p2 p3 p4 p5 : List TI) (p6 p7 : List (List (ByteArray))) (p8 p9 : List (List TRt)) (p10 p11 : List (List (List TRt))) (p12 p13 : List (List TIx)) (p14 p15 : List (List TOp)) (p16 p17 : List (List TIo)) (p18 p19 : List TMd) : ∀ k, ((fun v0 => cutG TP X q9 [2, 7, 12, 17, 22, 27] D9 (h9 p0 p1 p2 p3 p4 p5 p6 p7 p8 p9 p10 p11 p12 p13 p14 p15 p16 p17 p18 p19).length body9 (finH TP Tryd.f9.results.toList (h9 p0 p1 p2 p3 p4 p5 p6 p7 p8 p9 p10 p11 p12 p13 p14 p15 p16 p17 p18 p19).length false k9) k 2 (m9_2 p0 p1 p2 p3 p4 p5 p6 p7 p8 p9 p10 p11 p12 p13 p14 p15 p16 p17 p18 p19 v0)) = f9_2 p0 p1 p2 p3 p4 p5 p6 p7 p8 p9 p10 p11 p12 p13 p14 p15 p16 p17 p18 p19 k) ∧ ((fun v0 => cutG TP X q9 [2, 7, 12, 17, 22, 27] D9 (h9 p0 p1 p2 p3 p4 p5 p6 p7 p8 p9 p10 p11 p12 p13 p14 p15 p16 p17 p18 p19).length body9 (finH TP Tryd.f9.results.toList (h9 p0 p1 p2 p3 p4 p5 p6 p7 p8 p9 p10 p11 p12 p13 p14 p15 p16 p17 p18 p19).length false k9) k 7 (m9_7 p0 p1 p2 p3 p4 p5 p6 p7 p8 p9 p10 p11 p12 p13 p14 p15 p16 p17 p18 p19 v0)) = f9_7 p0 p1 p2 p3 p4 p5 p6 p7 p8 p9 p10 p11 p12 p13 p14 p15 p16 p17 p18 p19 k) ∧ ((fun v0 => cutG TP X q9 [2, 7, 12, 17, 22, 27] D9 (h9 p0 p1 p2 p3 p4 p5 p6 p7 p8 p9 p10 p11 p12 p13 p14 p15 p16 p17 p18 p19).length body9 (finH TP Tryd.f9.results.toList (h9 p0 p1 p2 p3 p4 p5 p6 p7 p8 p9 p10 p11 p12 p13 p14 p15 p16 p17 p18 p19).length false k9) k 12 (m9_12 p0 p1 p2 p3 p4 p5 p6 p7 p8 p9 p10 p11 p12 p13 p14 p15 p16 p17 p18 p19 v0)) = f9_12 p0 p1 p2 p3 p4 p5 p6 p7 p8 p9 p10 p11 p12 p13 p14 p15 p16 p17 p18 p19 k) ∧ ((fun v0 => cutG TP X q9 [2, 7, 12, 17, 22, 27] D9 (h9 p0 p1 p2 p3 p4 p5 p6 p7 p8 p9 p10 p11 p12 p13 p14 p15 p16 p17 p18 p19).length body9 (finH TP Tryd.f9.results.toList (h9 p0 p1 p2 p3 p4 p5 p6 p7 p8 p9 p10 p11 p12 p13 p14 p15 p16 p17 p18 p19).length false k9) k 17 (m9_17 p0 p1 p2 p3 p4 p5 p6 p7 p8 p9 p10 p11 p12 p13 p14 p15 p16 p17 p18 p19 v0)) = f9_17 p0 p1 p2 p3 p4 p5 p6 p7 p8 p9 p10 p11 p12 p13 p14 p15 p16 p17 p18 p19 k) ∧ ((fun v0 => cutG TP X q9 [2, 7, 12, 17, 22, 27] D9 (h9 p0 p1 p2 p3 p4 p5 p6 p7 p8 p9 p10 p11 p12 p13 p14 p15 p16 p17 p18 p19).length body9 (finH TP Tryd.f9.results.toList (h9 p0 p1 p2 p3 p4 p5 p6 p7 p8 p9 p10 p11 p12 p13 p14 p15 p16 p17 p18 p19).length false k9) k 22 (m9_22 p0 p1 p2 p3 p4 p5 p6 p7 p8 p9 p10 p11 p12 p13 p14 p15 p16 p17 p18 p19 v0)) = f9_22 p0 p1 p2 p3 p4 p5 p6 p7 p8 p9 p10 p11 p12 p13 p14 p15 p16 p17 p18 p19 k) ∧ ((fun v0 => cutG TP X q9 [2, 7, 12, 17, 22, 27] D9 (h9 p0 p1 p2 p3 p4 p5 p6 p7 p8 p9 p10 p11 p12 p13 p14 p15 p16 p17 p18 p19).length body9 (finH TP Tryd.f9.results.toList (h9 p0 p1 p2 p3 p4 p5 p6 p7 p8 p9 p10 p11 p12 p13 p14 p15 p16 p17 p18 p19).length false k9) k 27 (m9_27 p0 p1 p2 p3 p4 p5 p6 p7 p8 p9 p10 p11 p12 p13 p14 p15 p16 p17 p18 p19 v0)) = f9_27 p0 p1 p2 p3 p4 p5 p6 p7 p8 p9 p10 p11 p12 p13 p14 p15 p16 p17 p18 p19 k)
  | 0 => ⟨rfl, rfl, rfl, rfl, rfl, rfl⟩
  | k + 1 => by
    have ih := e9 p0 p1 p2 p3 p4 p5 p6 p7 p8 p9 p10 p11 p12 p13 p14 p15 p16 p17 p18 p19 k
    refine ⟨?_, ?_, ?_, ?_, ?_, ?_⟩
    · funext v0
      refine (if_pos (by kernel_rfl)).trans ?_
      rw [s9_2]
      simp only [ih]
      rfl
    · funext v0
      refine (if_pos (by kernel_rfl)).trans ?_
      rw [s9_7]
      simp only [ih]
      rfl
    · funext v0
      refine (if_pos (by kernel_rfl)).trans ?_
      rw [s9_12]
      simp only [ih]
      rfl
    · funext v0
      refine (if_pos (by kernel_rfl)).trans ?_
      rw [s9_17]
      simp only [ih]
      rfl
    · funext v0
      refine (if_pos (by kernel_rfl)).trans ?_
      rw [s9_22]
      simp only [ih]
      rfl
    · funext v0
      refine (if_pos (by kernel_rfl)).trans ?_
      rw [s9_27]
      simp only [ih]
      rfl
theorem pure9 (p0 p1 p2 p3 p4 p5 : List TI) (p6 p7 : List (List (ByteArray))) (p8 p9 : List (List TRt)) (p10 p11 : List (List (List TRt))) (p12 p13 : List (List TIx)) (p14 p15 : List (List TOp)) (p16 p17 : List (List TIo)) (p18 p19 : List TMd) (pok : PrmOK TP X q9) (k : Nat) (r : R9) (h : f9 k p0 p1 p2 p3 p4 p5 p6 p7 p8 p9 p10 p11 p12 p13 p14 p15 p16 p17 p18 p19 = some r) : PureH TP X 9 [.ptr 0 0] (h9 p0 p1 p2 p3 p4 p5 p6 p7 p8 p9 p10 p11 p12 p13 p14 p15 p16 p17 p18 p19) (out9 r) (outh9 r) :=
  pure_gen good k (fn := Tryd.f9) (body := body9) (prim := q9) (D := D9) (cuts := [2, 7, 12, 17, 22, 27]) (h := h9 p0 p1 p2 p3 p4 p5 p6 p7 p8 p9 p10 p11 p12 p13 p14 p15 p16 p17 p18 p19) (own := false) (by kernel_rfl) (by kernel_rfl) (by decide +kernel) pok hk9 (by
    rw [s9]
    have ih := e9 p0 p1 p2 p3 p4 p5 p6 p7 p8 p9 p10 p11 p12 p13 p14 p15 p16 p17 p18 p19 k
    simp only [ih]
    exact h)
def F9 {R : Type} (spec : (List TI) → (List TI) → (List TI) → (List TI) → (List TI) → (List TI) → (List (List (ByteArray))) → (List (List (ByteArray))) → (List (List TRt)) → (List (List TRt)) → (List (List (List TRt))) → (List (List (List TRt))) → (List (List TIx)) → (List (List TIx)) → (List (List TOp)) → (List (List TOp)) → (List (List TIo)) → (List (List TIo)) → (List TMd) → (List TMd) → Option R9) : Fn U R := fun args h k => match args, h with | [.ptr 0 0], [.box [.imm 62 p0, .imm 62 p1, .imm 90 p2, .imm 90 p3, .imm 23 p4, .imm 23 p5, .imm 39 p6, .imm 39 p7, .imm 92 p8, .imm 92 p9, .imm 31 p10, .imm 31 p11, .imm 102 p12, .imm 102 p13, .imm 22 p14, .imm 22 p15, .imm 106 p16, .imm 106 p17, .imm 44 p18, .imm 44 p19]] => (spec p0 p1 p2 p3 p4 p5 p6 p7 p8 p9 p10 p11 p12 p13 p14 p15 p16 p17 p18 p19).bind fun r => k (out9 r) (outh9 r) | _, _ => none
theorem ok9 {R : Type} (spec : (List TI) → (List TI) → (List TI) → (List TI) → (List TI) → (List TI) → (List (List (ByteArray))) → (List (List (ByteArray))) → (List (List TRt)) → (List (List TRt)) → (List (List (List TRt))) → (List (List (List TRt))) → (List (List TIx)) → (List (List TIx)) → (List (List TOp)) → (List (List TOp)) → (List (List TIo)) → (List (List TIo)) → (List TMd) → (List TMd) → Option R9) (hp : ∀ (p0 : List TI) (p1 : List TI) (p2 : List TI) (p3 : List TI) (p4 : List TI) (p5 : List TI) (p6 : List (List (ByteArray))) (p7 : List (List (ByteArray))) (p8 : List (List TRt)) (p9 : List (List TRt)) (p10 : List (List (List TRt))) (p11 : List (List (List TRt))) (p12 : List (List TIx)) (p13 : List (List TIx)) (p14 : List (List TOp)) (p15 : List (List TOp)) (p16 : List (List TIo)) (p17 : List (List TIo)) (p18 : List TMd) (p19 : List TMd) (r : R9), spec p0 p1 p2 p3 p4 p5 p6 p7 p8 p9 p10 p11 p12 p13 p14 p15 p16 p17 p18 p19 = some r → PureH TP X 9 [.ptr 0 0] (h9 p0 p1 p2 p3 p4 p5 p6 p7 p8 p9 p10 p11 p12 p13 p14 p15 p16 p17 p18 p19) (out9 r) (outh9 r)) : FnOK TP X 9 (F9 spec : Fn U R) := by
  intro args h k r hh
  unfold F9 at hh
  split at hh
  · obtain ⟨x, h1, h2⟩ := Option.bind_eq_some_iff.1 hh
    exact ⟨_, _, h2, hp _ _ _ _ _ _ _ _ _ _ _ _ _ _ _ _ _ _ _ _ _ h1⟩
  · cases hh
theorem pok9 : PrmOK TP X q9 := prims_cons good okS25 (prims_cons good okS26 (prims_cons good okS23 (prims_cons good okS22 (prims_cons good okS27 (prims_cons good okS28 (prims_cons good okS29 (prims_nil TP X mixed)))))))
noncomputable def S9 (p0 p1 p2 p3 p4 p5 : List TI) (p6 p7 : List (List (ByteArray))) (p8 p9 : List (List TRt)) (p10 p11 : List (List (List TRt))) (p12 p13 : List (List TIx)) (p14 p15 : List (List TOp)) (p16 p17 : List (List TIo)) (p18 p19 : List TMd) : Option R9 := evv fun k => f9 k p0 p1 p2 p3 p4 p5 p6 p7 p8 p9 p10 p11 p12 p13 p14 p15 p16 p17 p18 p19
theorem okS9 {R : Type} : FnOK TP X 9 (F9 S9 : Fn U R) := ok9 S9 fun p0 p1 p2 p3 p4 p5 p6 p7 p8 p9 p10 p11 p12 p13 p14 p15 p16 p17 p18 p19 r h => by
  obtain ⟨k, hk⟩ := evv_fuel h
  exact pure9 p0 p1 p2 p3 p4 p5 p6 p7 p8 p9 p10 p11 p12 p13 p14 p15 p16 p17 p18 p19 pok9 k r hk
end
end Go.Abs.Z
namespace Go.Abs.Z
open Go Go.Abs Go.Proofs
noncomputable section
abbrev R33 : Type := TI × (List TI) × (List TI) × (List TI) × (List TI) × (List (List (ByteArray))) × (List (List (ByteArray))) × (List (List TRt)) × (List (List TRt)) × (List (List (List TRt))) × (List (List (List TRt))) × (List (List TIx)) × (List (List TIx)) × (List (List TOp)) × (List (List TOp)) × (List (List TIo)) × (List (List TIo)) × (List TMd) × (List TMd) × (List TI) × (List TI)
noncomputable def body33 : Go.Code := (Tryd.f33.body).getD Go.Code.skip
def h33 (p0 : TI) (p1 p2 p3 p4 p5 p6 : List TI) (p7 p8 : List (List (ByteArray))) (p9 p10 : List (List TRt)) (p11 p12 : List (List (List TRt))) (p13 p14 : List (List TIx)) (p15 p16 : List (List TOp)) (p17 p18 : List (List TIo)) (p19 p20 : List TMd) : List (AO U) := [.box [.row 1 62, .row 2 62, .row 3 90, .row 4 90, .row 5 23, .row 6 23, .row 7 39, .row 8 39, .row 9 92, .row 10 92, .row 11 31, .row 12 31, .row 13 102, .row 14 102, .row 15 22, .row 16 22, .row 17 106, .row 18 106, .row 19 44, .row 20 44], .row 62 p1, .row 62 p2, .row 90 p3, .row 90 p4, .row 23 p5, .row 23 p6, .row 39 p7, .row 39 p8, .row 92 p9, .row 92 p10, .row 31 p11, .row 31 p12, .row 102 p13, .row 102 p14, .row 22 p15, .row 22 p16, .row 106 p17, .row 106 p18, .row 44 p19, .row 44 p20]
def k33 : AV U → List (AO U) → Option R33 := fun v h => match v, h with | AV.imm 99 x0, [AO.box [AV.row 21 62, AV.row 22 62, AV.row 3 90, AV.row 4 90, AV.row 5 23, AV.row 6 23, AV.row 7 39, AV.row 8 39, AV.row 9 92, AV.row 10 92, AV.row 11 31, AV.row 12 31, AV.row 13 102, AV.row 14 102, AV.row 15 22, AV.row 16 22, AV.row 17 106, AV.row 18 106, AV.row 19 44, AV.row 20 44], AO.dead, AO.dead, AO.row 90 x1, AO.row 90 x2, AO.row 23 x3, AO.row 23 x4, AO.row 39 x5, AO.row 39 x6, AO.row 92 x7, AO.row 92 x8, AO.row 31 x9, AO.row 31 x10, AO.row 102 x11, AO.row 102 x12, AO.row 22 x13, AO.row 22 x14, AO.row 106 x15, AO.row 106 x16, AO.row 44 x17, AO.row 44 x18, AO.row 62 x19, AO.row 62 x20] => some (x0, x1, x2, x3, x4, x5, x6, x7, x8, x9, x10, x11, x12, x13, x14, x15, x16, x17, x18, x19, x20) | _, _ => none
def out33 : R33 → AV U := fun (x0, x1, x2, x3, x4, x5, x6, x7, x8, x9, x10, x11, x12, x13, x14, x15, x16, x17, x18, x19, x20) => AV.imm 99 x0
def outh33 : R33 → List (AO U) := fun (x0, x1, x2, x3, x4, x5, x6, x7, x8, x9, x10, x11, x12, x13, x14, x15, x16, x17, x18, x19, x20) => [AO.box [AV.row 21 62, AV.row 22 62, AV.row 3 90, AV.row 4 90, AV.row 5 23, AV.row 6 23, AV.row 7 39, AV.row 8 39, AV.row 9 92, AV.row 10 92, AV.row 11 31, AV.row 12 31, AV.row 13 102, AV.row 14 102, AV.row 15 22, AV.row 16 22, AV.row 17 106, AV.row 18 106, AV.row 19 44, AV.row 20 44], AO.dead, AO.dead, AO.row 90 x1, AO.row 90 x2, AO.row 23 x3, AO.row 23 x4, AO.row 39 x5, AO.row 39 x6, AO.row 92 x7, AO.row 92 x8, AO.row 31 x9, AO.row 31 x10, AO.row 102 x11, AO.row 102 x12, AO.row 22 x13, AO.row 22 x14, AO.row 106 x15, AO.row 106 x16, AO.row 44 x17, AO.row 44 x18, AO.row 62 x19, AO.row 62 x20]
def D33 : Nat → Dir := dirs []
def b33 (p0 : TI) (p1 p2 p3 p4 p5 p6 : List TI) (p7 p8 : List (List (ByteArray))) (p9 p10 : List (List TRt)) (p11 p12 : List (List (List TRt))) (p13 p14 : List (List TIx)) (p15 p16 : List (List TOp)) (p17 p18 : List (List TIo)) (p19 p20 : List TMd)   : Option R33 :=
  (S47 p0).bind fun r0 =>
  cond (decide ((List.length r0 + 3) * 4 ≤ 140737488355328))
  (cond (decide ((p1.length + 1) * 24 ≤ 140737488355328))
  ((S47 (r0 ++ [42405, 23130, 42330])).bind fun r1 =>
  cond (decide ((p2.length + 1) * 24 ≤ 140737488355328))
  (cond (decide ((↑p0.length : Int) ≤ (↑(r0 ++ [42405, 23130, 42330]).length : Int)))
  (some ((List.take (↑p0.length : Int).toNat (r0 ++ [42405, 23130, 42330]), p3, p4, p5, p6, p7, p8, p9, p10, p11, p12, p13, p14, p15, p16, p17, p18, p19, p20, p1 ++ [r0 ++ [42405, 23130, 42330]], p2 ++ [r1])))
  (none))
  (none))
  (none))
  (none)
theorem hk33 : ∀ v h' r, k33 v h' = some r → v = out33 r ∧ h' = outh33 r := by
  intro v h' r h
  unfold k33 at h
  split at h
  · injection h with h; subst h; exact ⟨rfl, rfl⟩
  · cases h
abbrev q33 : Prim U R33 := prims X [⟨47, fun _ => true, [.lend], F47 S47⟩]
theorem s33 (c : Nat → S U → Option R33) (p0 : TI) (p1 p2 p3 p4 p5 p6 : List TI) (p7 p8 : List (List (ByteArray))) (p9 p10 : List (List TRt)) (p11 p12 : List (List (List TRt))) (p13 p14 : List (List TIx)) (p15 p16 : List (List TOp)) (p17 p18 : List (List TIo)) (p19 p20 : List TMd) : seg TP X q33 [] (fun q st => c q (keepD D33 (h33 p0 p1 p2 p3 p4 p5 p6 p7 p8 p9 p10 p11 p12 p13 p14 p15 p16 p17 p18 p19 p20).length q st)) body33 (finH TP Tryd.f33.results.toList (h33 p0 p1 p2 p3 p4 p5 p6 p7 p8 p9 p10 p11 p12 p13 p14 p15 p16 p17 p18 p19 p20).length false k33) (start [.ptr 0 0, .imm 99 p0] Tryd.f33.ntmps (h33 p0 p1 p2 p3 p4 p5 p6 p7 p8 p9 p10 p11 p12 p13 p14 p15 p16 p17 p18 p19 p20)) = b33 p0 p1 p2 p3 p4 p5 p6 p7 p8 p9 p10 p11 p12 p13 p14 p15 p16 p17 p18 p19 p20  := by kernel_rfl
def f33 (_ : Nat) (p0 : TI) (p1 p2 p3 p4 p5 p6 : List TI) (p7 p8 : List (List (ByteArray))) (p9 p10 : List (List TRt)) (p11 p12 : List (List (List TRt))) (p13 p14 : List (List TIx)) (p15 p16 : List (List TOp)) (p17 p18 : List (List TIo)) (p19 p20 : List TMd) : Option R33 := b33 p0 p1 p2 p3 p4 p5 p6 p7 p8 p9 p10 p11 p12 p13 p14 p15 p16 p17 p18 p19 p20
theorem pure33 (p0 : TI) (p1 p2 p3 p4 p5 p6 : List TI) (p7 p8 : List (List (ByteArray))) (p9 p10 : List (List TRt)) (p11 p12 : List (List (List TRt))) (p13 p14 : List (List TIx)) (p15 p16 : List (List TOp)) (p17 p18 : List (List TIo)) (p19 p20 : List TMd) (pok : PrmOK TP X q33) (k : Nat) (r : R33) (h : f33 k p0 p1 p2 p3 p4 p5 p6 p7 p8 p9 p10 p11 p12 p13 p14 p15 p16 p17 p18 p19 p20 = some r) : PureH TP X 33 [.ptr 0 0, .imm 99 p0] (h33 p0 p1 p2 p3 p4 p5 p6 p7 p8 p9 p10 p11 p12 p13 p14 p15 p16 p17 p18 p19 p20) (out33 r) (outh33 r) :=
  pure_gen good 0 (fn := Tryd.f33) (body := body33) (prim := q33) (D := D33) (cuts := []) (h := h33 p0 p1 p2 p3 p4 p5 p6 p7 p8 p9 p10 p11 p12 p13 p14 p15 p16 p17 p18 p19 p20) (own := false) (by kernel_rfl) (by kernel_rfl) (by decide +kernel) pok hk33 (by
    rw [s33]
    exact h)
def F33 {R : Type} (spec : TI → (List TI) → (List TI) → (List TI) → (List TI) → (List TI) → (List TI) → (List (List (ByteArray))) → (List (List (ByteArray))) → (List (List TRt)) → (List (List TRt)) → (List (List (List TRt))) → (List (List (List TRt))) → (List (List TIx)) → (List (List TIx)) → (List (List TOp)) → (List (List TOp)) → (List (List TIo)) → (List (List TIo)) → (List TMd) → (List TMd) → Option R33) : Fn U R := fun args h k => match args, h with | [.ptr 0 0, .imm 99 p0], [.box [.row 1 62, .row 2 62, .row 3 90, .row 4 90, .row 5 23, .row 6 23, .row 7 39, .row 8 39, .row 9 92, .row 10 92, .row 11 31, .row 12 31, .row 13 102, .row 14 102, .row 15 22, .row 16 22, .row 17 106, .row 18 106, .row 19 44, .row 20 44], .row 62 p1, .row 62 p2, .row 90 p3, .row 90 p4, .row 23 p5, .row 23 p6, .row 39 p7, .row 39 p8, .row 92 p9, .row 92 p10, .row 31 p11, .row 31 p12, .row 102 p13, .row 102 p14, .row 22 p15, .row 22 p16, .row 106 p17, .row 106 p18, .row 44 p19, .row 44 p20] => (spec p0 p1 p2 p3 p4 p5 p6 p7 p8 p9 p10 p11 p12 p13 p14 p15 p16 p17 p18 p19 p20).bind fun r => k (out33 r) (outh33 r) | _, _ => none
theorem ok33 {R : Type} (spec : TI → (List TI) → (List TI) → (List TI) → (List TI) → (List TI) → (List TI) → (List (List (ByteArray))) → (List (List (ByteArray))) → (List (List TRt)) → (List (List TRt)) → (List (List (List TRt))) → (List (List (List TRt))) → (List (List TIx)) → (List (List TIx)) → (List (List TOp)) → (List (List TOp)) → (List (List TIo)) → (List (List TIo)) → (List TMd) → (List TMd) → Option R33) (hp : ∀ (p0 : TI) (p1 : List TI) (p2 : List TI) (p3 : List TI) (p4 : List TI) (p5 : List TI) (p6 : List TI) (p7 : List (List (ByteArray))) (p8 : List (List (ByteArray))) (p9 : List (List TRt)) (p10 : List (List TRt)) (p11 : List (List (List TRt))) (p12 : List (List (List TRt))) (p13 : List (List TIx)) (p14 : List (List TIx)) (p15 : List (List TOp)) (p16 : List (List TOp)) (p17 : List (List TIo)) (p18 : List (List TIo)) (p19 : List TMd) (p20 : List TMd) (r : R33), spec p0 p1 p2 p3 p4 p5 p6 p7 p8 p9 p10 p11 p12 p13 p14 p15 p16 p17 p18 p19 p20 = some r → PureH TP X 33 [.ptr 0 0, .imm 99 p0] (h33 p0 p1 p2 p3 p4 p5 p6 p7 p8 p9 p10 p11 p12 p13 p14 p15 p16 p17 p18 p19 p20) (out33 r) (outh33 r)) : FnOK TP X 33 (F33 spec : Fn U R) := by
  intro args h k r hh
  unfold F33 at hh
  split at hh
  · obtain ⟨x, h1, h2⟩ := Option.bind_eq_some_iff.1 hh
    exact ⟨_, _, h2, hp _ _ _ _ _ _ _ _ _ _ _ _ _ _ _ _ _ _ _ _ _ _ h1⟩
  · cases hh
theorem pok33 : PrmOK TP X q33 := prims_cons good okS47 (prims_nil TP X mixed)
noncomputable def S33 (p0 : TI) (p1 p2 p3 p4 p5 p6 : List TI) (p7 p8 : List (List (ByteArray))) (p9 p10 : List (List TRt)) (p11 p12 : List (List (List TRt))) (p13 p14 : List (List TIx)) (p15 p16 : List (List TOp)) (p17 p18 : List (List TIo)) (p19 p20 : List TMd) : Option R33 := evv fun k => f33 k p0 p1 p2 p3 p4 p5 p6 p7 p8 p9 p10 p11 p12 p13 p14 p15 p16 p17 p18 p19 p20
theorem okS33 {R : Type} : FnOK TP X 33 (F33 S33 : Fn U R) := ok33 S33 fun p0 p1 p2 p3 p4 p5 p6 p7 p8 p9 p10 p11 p12 p13 p14 p15 p16 p17 p18 p19 p20 r h => by
  obtain ⟨k, hk⟩ := evv_fuel h
  exact pure33 p0 p1 p2 p3 p4 p5 p6 p7 p8 p9 p10 p11 p12 p13 p14 p15 p16 p17 p18 p19 p20 pok33 k r hk
end
end Go.Abs.Z
namespace Go.Abs.Z
open Go Go.Abs Go.Proofs
noncomputable section
abbrev R14 : Type := Bool × TI × TI × (List TI) × (List TI) × (List TI) × (List TI) × (List (List (ByteArray))) × (List (List (ByteArray))) × (List (List TRt)) × (List (List TRt)) × (List (List (List TRt))) × (List (List (List TRt))) × (List (List TIx)) × (List (List TIx)) × (List (List TOp)) × (List (List TOp)) × (List (List TIo)) × (List (List TIo)) × (List TMd) × (List TMd) × (List TI) × (List TI)
noncomputable def body14 : Go.Code := (Tryd.f14.body).getD Go.Code.skip
def h14 (p0 : Bool) (p1 p2 : TI) (p3 p4 p5 p6 p7 p8 : List TI) (p9 p10 : List (List (ByteArray))) (p11 p12 : List (List TRt)) (p13 p14 : List (List (List TRt))) (p15 p16 : List (List TIx)) (p17 p18 : List (List TOp)) (p19 p20 : List (List TIo)) (p21 p22 : List TMd) : List (AO U) := [.box [.row 1 62, .row 2 62, .row 3 90, .row 4 90, .row 5 23, .row 6 23, .row 7 39, .row 8 39, .row 9 92, .row 10 92, .row 11 31, .row 12 31, .row 13 102, .row 14 102, .row 15 22, .row 16 22, .row 17 106, .row 18 106, .row 19 44, .row 20 44], .row 62 p3, .row 62 p4, .row 90 p5, .row 90 p6, .row 23 p7, .row 23 p8, .row 39 p9, .row 39 p10, .row 92 p11, .row 92 p12, .row 31 p13, .row 31 p14, .row 102 p15, .row 102 p16, .row 22 p17, .row 22 p18, .row 106 p19, .row 106 p20, .row 44 p21, .row 44 p22]
def k14 : AV U → List (AO U) → Option R14 := fun v h => match v, h with | AV.agg [AV.bool x0, AV.imm 99 x1, AV.imm 99 x2], [AO.box [AV.row 21 62, AV.row 22 62, AV.row 3 90, AV.row 4 90, AV.row 5 23, AV.row 6 23, AV.row 7 39, AV.row 8 39, AV.row 9 92, AV.row 10 92, AV.row 11 31, AV.row 12 31, AV.row 13 102, AV.row 14 102, AV.row 15 22, AV.row 16 22, AV.row 17 106, AV.row 18 106, AV.row 19 44, AV.row 20 44], AO.dead, AO.dead, AO.row 90 x3, AO.row 90 x4, AO.row 23 x5, AO.row 23 x6, AO.row 39 x7, AO.row 39 x8, AO.row 92 x9, AO.row 92 x10, AO.row 31 x11, AO.row 31 x12, AO.row 102 x13, AO.row 102 x14, AO.row 22 x15, AO.row 22 x16, AO.row 106 x17, AO.row 106 x18, AO.row 44 x19, AO.row 44 x20, AO.row 62 x21, AO.row 62 x22] => some (x0, x1, x2, x3, x4, x5, x6, x7, x8, x9, x10, x11, x12, x13, x14, x15, x16, x17, x18, x19, x20, x21, x22) | _, _ => none
def out14 : R14 → AV U := fun (x0, x1, x2, x3, x4, x5, x6, x7, x8, x9, x10, x11, x12, x13, x14, x15, x16, x17, x18, x19, x20, x21, x22) => AV.agg [AV.bool x0, AV.imm 99 x1, AV.imm 99 x2]
def outh14 : R14 → List (AO U) := fun (x0, x1, x2, x3, x4, x5, x6, x7, x8, x9, x10, x11, x12, x13, x14, x15, x16, x17, x18, x19, x20, x21, x22) => [AO.box [AV.row 21 62, AV.row 22 62, AV.row 3 90, AV.row 4 90, AV.row 5 23, AV.row 6 23, AV.row 7 39, AV.row 8 39, AV.row 9 92, AV.row 10 92, AV.row 11 31, AV.row 12 31, AV.row 13 102, AV.row 14 102, AV.row 15 22, AV.row 16 22, AV.row 17 106, AV.row 18 106, AV.row 19 44, AV.row 20 44], AO.dead, AO.dead, AO.row 90 x3, AO.row 90 x4, AO.row 23 x5, AO.row 23 x6, AO.row 39 x7, AO.row 39 x8, AO.row 92 x9, AO.row 92 x10, AO.row 31 x11, AO.row 31 x12, AO.row 102 x13, AO.row 102 x14, AO.row 22 x15, AO.row 22 x16, AO.row 106 x17, AO.row 106 x18, AO.row 44 x19, AO.row 44 x20, AO.row 62 x21, AO.row 62 x22]
def D14 : Nat → Dir := dirs []
def b14 (p0 : Bool) (p1 p2 : TI) (p3 p4 p5 p6 p7 p8 : List TI) (p9 p10 : List (List (ByteArray))) (p11 p12 : List (List TRt)) (p13 p14 : List (List (List TRt))) (p15 p16 : List (List TIx)) (p17 p18 : List (List TOp)) (p19 p20 : List (List TIo)) (p21 p22 : List TMd)   : Option R14 :=
  (S33 p1 p3 p4 p5 p6 p7 p8 p9 p10 p11 p12 p13 p14 p15 p16 p17 p18 p19 p20 p21 p22).bind fun r0 =>
  (S33 p2 r0.snd.snd.snd.snd.snd.snd.snd.snd.snd.snd.snd.snd.snd.snd.snd.snd.snd.snd.snd.fst r0.snd.snd.snd.snd.snd.snd.snd.snd.snd.snd.snd.snd.snd.snd.snd.snd.snd.snd.snd.snd r0.snd.fst r0.snd.snd.fst r0.snd.snd.snd.fst r0.snd.snd.snd.snd.fst r0.snd.snd.snd.snd.snd.fst r0.snd.snd.snd.snd.snd.snd.fst r0.snd.snd.snd.snd.snd.snd.snd.fst r0.snd.snd.snd.snd.snd.snd.snd.snd.fst r0.snd.snd.snd.snd.snd.snd.snd.snd.snd.fst r0.snd.snd.snd.snd.snd.snd.snd.snd.snd.snd.fst r0.snd.snd.snd.snd.snd.snd.snd.snd.snd.snd.snd.fst r0.snd.snd.snd.snd.snd.snd.snd.snd.snd.snd.snd.snd.fst r0.snd.snd.snd.snd.snd.snd.snd.snd.snd.snd.snd.snd.snd.fst r0.snd.snd.snd.snd.snd.snd.snd.snd.snd.snd.snd.snd.snd.snd.fst r0.snd.snd.snd.snd.snd.snd.snd.snd.snd.snd.snd.snd.snd.snd.snd.fst r0.snd.snd.snd.snd.snd.snd.snd.snd.snd.snd.snd.snd.snd.snd.snd.snd.fst r0.snd.snd.snd.snd.snd.snd.snd.snd.snd.snd.snd.snd.snd.snd.snd.snd.snd.fst r0.snd.snd.snd.snd.snd.snd.snd.snd.snd.snd.snd.snd.snd.snd.snd.snd.snd.snd.fst).bind fun r1 =>
  some ((p0, r0.fst, r1.fst, r1.snd.fst, r1.snd.snd.fst, r1.snd.snd.snd.fst, r1.snd.snd.snd.snd.fst, r1.snd.snd.snd.snd.snd.fst, r1.snd.snd.snd.snd.snd.snd.fst, r1.snd.snd.snd.snd.snd.snd.snd.fst, r1.snd.snd.snd.snd.snd.snd.snd.snd.fst, r1.snd.snd.snd.snd.snd.snd.snd.snd.snd.fst, r1.snd.snd.snd.snd.snd.snd.snd.snd.snd.snd.fst, r1.snd.snd.snd.snd.snd.snd.snd.snd.snd.snd.snd.fst, r1.snd.snd.snd.snd.snd.snd.snd.snd.snd.snd.snd.snd.fst, r1.snd.snd.snd.snd.snd.snd.snd.snd.snd.snd.snd.snd.snd.fst, r1.snd.snd.snd.snd.snd.snd.snd.snd.snd.snd.snd.snd.snd.snd.fst, r1.snd.snd.snd.snd.snd.snd.snd.snd.snd.snd.snd.snd.snd.snd.snd.fst, r1.snd.snd.snd.snd.snd.snd.snd.snd.snd.snd.snd.snd.snd.snd.snd.snd.fst, r1.snd.snd.snd.snd.snd.snd.snd.snd.snd.snd.snd.snd.snd.snd.snd.snd.snd.fst, r1.snd.snd.snd.snd.snd.snd.snd.snd.snd.snd.snd.snd.snd.snd.snd.snd.snd.snd.fst, r1.snd.snd.snd.snd.snd.snd.snd.snd.snd.snd.snd.snd.snd.snd.snd.snd.snd.snd.snd.fst, r1.snd.snd.snd.snd.snd.snd.snd.snd.snd.snd.snd.snd.snd.snd.snd.snd.snd.snd.snd.snd))
theorem hk14 : ∀ v h' r, k14 v h' = some r → v = out14 r ∧ h' = outh14 r := by
  intro v h' r h
  unfold k14 at h
  split at h
  · injection h with h; subst h; exact ⟨rfl, rfl⟩
  · cases h
abbrev q14 : Prim U R14 := prims X [⟨33, fun _ => true, [.hand, .lend], F33 S33⟩]
theorem s14 (c : Nat → S U → Option R14) (p0 : Bool) (p1 p2 : TI) (p3 p4 p5 p6 p7 p8 : List TI) (p9 p10 : List (List (ByteArray))) (p11 p12 : List (List TRt)) (p13 p14 : List (List (List TRt))) (p15 p16 : List (List TIx)) (p17 p18 : List (List TOp)) (p19 p20 : List (List TIo)) (p21 p22 : List TMd) : seg TP X q14 [] (fun q st => c q (keepD D14 (h14 p0 p1 p2 p3 p4 p5 p6 p7 p8 p9 p10 p11 p12 p13 p14 p15 p16 p17 p18 p19 p20 p21 p22).length q st)) body14 (finH TP Tryd.f14.results.toList (h14 p0 p1 p2 p3 p4 p5 p6 p7 p8 p9 p10 p11 p12 p13 p14 p15 p16 p17 p18 p19 p20 p21 p22).length false k14) (start [.ptr 0 0, .agg [.bool p0, .imm 99 p1, .imm 99 p2]] Tryd.f14.ntmps (h14 p0 p1 p2 p3 p4 p5 p6 p7 p8 p9 p10 p11 p12 p13 p14 p15 p16 p17 p18 p19 p20 p21 p22)) = b14 p0 p1 p2 p3 p4 p5 p6 p7 p8 p9 p10 p11 p12 p13 p14 p15 p16 p17 p18 p19 p20 p21 p22  := by kernel_rfl
def f14 (_ : Nat) (p0 : Bool) (p1 p2 : TI) (p3 p4 p5 p6 p7 p8 : List TI) (p9 p10 : List (List (ByteArray))) (p11 p12 : List (List TRt)) (p13 p14 : List (List (List TRt))) (p15 p16 : List (List TIx)) (p17 p18 : List (List TOp)) (p19 p20 : List (List TIo)) (p21 p22 : List TMd) : Option R14 := b14 p0 p1 p2 p3 p4 p5 p6 p7 p8 p9 p10 p11 p12 p13 p14 p15 p16 p17 p18 p19 p20 p21 p22
theorem pure14 (p0 : Bool) (p1 p2 : TI) (p3 p4 p5 p6 p7 p8 : List TI) (p9 p10 : List (List (ByteArray))) (p11 p12 : List (List TRt)) (p13 p14 : List (List (List TRt))) (p15 p16 : List (List TIx)) (p17 p18 : List (List TOp)) (p19 p20 : List (List TIo)) (p21 p22 : List TMd) (pok : PrmOK TP X q14) (k : Nat) (r : R14) (h : f14 k p0 p1 p2 p3 p4 p5 p6 p7 p8 p9 p10 p11 p12 p13 p14 p15 p16 p17 p18 p19 p20 p21 p22 = some r) : PureH TP X 14 [.ptr 0 0, .agg [.bool p0, .imm 99 p1, .imm 99 p2]] (h14 p0 p1 p2 p3 p4 p5 p6 p7 p8 p9 p10 p11 p12 p13 p14 p15 p16 p17 p18 p19 p20 p21 p22) (out14 r) (outh14 r) :=
  pure_gen good 0 (fn := Tryd.f14) (body := body14) (prim := q14) (D := D14) (cuts := []) (h := h14 p0 p1 p2 p3 p4 p5 p6 p7 p8 p9 p10 p11 p12 p13 p14 p15 p16 p17 p18 p19 p20 p21 p22) (own := false) (by kernel_rfl) (by kernel_rfl) (by decide +kernel) pok hk14 (by
    rw [s14]
    exact h)
def F14 {R : Type} (spec : (Bool) → TI → TI → (List TI) → (List TI) → (List TI) → (List TI) → (List TI) → (List TI) → (List (List (ByteArray))) → (List (List (ByteArray))) → (List (List TRt)) → (List (List TRt)) → (List (List (List TRt))) → (List (List (List TRt))) → (List (List TIx)) → (List (List TIx)) → (List (List TOp)) → (List (List TOp)) → (List (List TIo)) → (List (List TIo)) → (List TMd) → (List TMd) → Option R14) : Fn U R := fun args h k => match args, h with | [.ptr 0 0, .agg [.bool p0, .imm 99 p1, .imm 99 p2]], [.box [.row 1 62, .row 2 62, .row 3 90, .row 4 90, .row 5 23, .row 6 23, .row 7 39, .row 8 39, .row 9 92, .row 10 92, .row 11 31, .row 12 31, .row 13 102, .row 14 102, .row 15 22, .row 16 22, .row 17 106, .row 18 106, .row 19 44, .row 20 44], .row 62 p3, .row 62 p4, .row 90 p5, .row 90 p6, .row 23 p7, .row 23 p8, .row 39 p9, .row 39 p10, .row 92 p11, .row 92 p12, .row 31 p13, .row 31 p14, .row 102 p15, .row 102 p16, .row 22 p17, .row 22 p18, .row 106 p19, .row 106 p20, .row 44 p21, .row 44 p22] => (spec p0 p1 p2 p3 p4 p5 p6 p7 p8 p9 p10 p11 p12 p13 p14 p15 p16 p17 p18 p19 p20 p21 p22).bind fun r => k (out14 r) (outh14 r) | _, _ => none
theorem ok14 {R : Type} (spec : (Bool) → TI → TI → (List TI) → (List TI) → (List TI) → (List TI) → (List TI) → (List TI) → (List (List (ByteArray))) → (List (List (ByteArray))) → (List (List TRt)) → (List (List TRt)) → (List (List (List TRt))) → (List (List (List TRt))) → (List (List TIx)) → (List (List TIx)) → (List (List TOp)) → (List (List TOp)) → (List (List TIo)) → (List (List TIo)) → (List TMd) → (List TMd) → Option R14) (hp : ∀ (p0 : Bool) (p1 : TI) (p2 : TI) (p3 : List TI) (p4 : List TI) (p5 : List TI) (p6 : List TI) (p7 : List TI) (p8 : List TI) (p9 : List (List (ByteArray))) (p10 : List (List (ByteArray))) (p11 : List (List TRt)) (p12 : List (List TRt)) (p13 : List (List (List TRt))) (p14 : List (List (List TRt))) (p15 : List (List TIx)) (p16 : List (List TIx)) (p17 : List (List TOp)) (p18 : List (List TOp)) (p19 : List (List TIo)) (p20 : List (List TIo)) (p21 : List TMd) (p22 : List TMd) (r : R14), spec p0 p1 p2 p3 p4 p5 p6 p7 p8 p9 p10 p11 p12 p13 p14 p15 p16 p17 p18 p19 p20 p21 p22 = some r → PureH TP X 14 [.ptr 0 0, .agg [.bool p0, .imm 99 p1, .imm 99 p2]] (h14 p0 p1 p2 p3 p4 p5 p6 p7 p8 p9 p10 p11 p12 p13 p14 p15 p16 p17 p18 p19 p20 p21 p22) (out14 r) (outh14 r)) : FnOK TP X 14 (F14 spec : Fn U R) := by
  intro args h k r hh
  unfold F14 at hh
  split at hh
  · obtain ⟨x, h1, h2⟩ := Option.bind_eq_some_iff.1 hh
    exact ⟨_, _, h2, hp _ _ _ _ _ _ _ _ _ _ _ _ _ _ _ _ _ _ _ _ _ _ _ _ h1⟩
  · cases hh
theorem pok14 : PrmOK TP X q14 := prims_cons good okS33 (prims_nil TP X mixed)
noncomputable def S14 (p0 : Bool) (p1 p2 : TI) (p3 p4 p5 p6 p7 p8 : List TI) (p9 p10 : List (List (ByteArray))) (p11 p12 : List (List TRt)) (p13 p14 : List (List (List TRt))) (p15 p16 : List (List TIx)) (p17 p18 : List (List TOp)) (p19 p20 : List (List TIo)) (p21 p22 : List TMd) : Option R14 := evv fun k => f14 k p0 p1 p2 p3 p4 p5 p6 p7 p8 p9 p10 p11 p12 p13 p14 p15 p16 p17 p18 p19 p20 p21 p22
theorem okS14 {R : Type} : FnOK TP X 14 (F14 S14 : Fn U R) := ok14 S14 fun p0 p1 p2 p3 p4 p5 p6 p7 p8 p9 p10 p11 p12 p13 p14 p15 p16 p17 p18 p19 p20 p21 p22 r h => by
  obtain ⟨k, hk⟩ := evv_fuel h
  exact pure14 p0 p1 p2 p3 p4 p5 p6 p7 p8 p9 p10 p11 p12 p13 p14 p15 p16 p17 p18 p19 p20 p21 p22 pok14 k r hk
end
end Go.Abs.Z
namespace Go.Abs.Z
open Go Go.Abs Go.Proofs
noncomputable section
abbrev R34 : Type := Bool × TI × TI
noncomputable def body34 : Go.Code := (Tryd.f34.body).getD Go.Code.skip
def h34 (p0 : Bool) (p1 p2 : TI) : List (AO U) := []
def k34 : AV U → List (AO U) → Option R34 := fun v h => match v, h with | AV.agg [AV.bool x0, AV.row 0 99, AV.row 1 99], [AO.row 99 x1, AO.row 99 x2] => some (x0, x1, x2) | _, _ => none
def out34 : R34 → AV U := fun (x0, x1, x2) => AV.agg [AV.bool x0, AV.row 0 99, AV.row 1 99]
def outh34 : R34 → List (AO U) := fun (x0, x1, x2) => [AO.row 99 x1, AO.row 99 x2]
def D34 : Nat → Dir := dirs []
def b34 (p0 : Bool) (p1 p2 : TI)   : Option R34 :=
  (S47 p1).bind fun r0 =>
  (S47 p2).bind fun r1 =>
  some ((p0, r0, r1))
theorem hk34 : ∀ v h' r, k34 v h' = some r → v = out34 r ∧ h' = outh34 r := by
  intro v h' r h
  unfold k34 at h
  split at h
  · injection h with h; subst h; exact ⟨rfl, rfl⟩
  · cases h
abbrev q34 : Prim U R34 := prims X [⟨47, fun _ => true, [.lend], F47 S47⟩]
theorem s34 (c : Nat → S U → Option R34) (p0 : Bool) (p1 p2 : TI) : seg TP X q34 [] (fun q st => c q (keepD D34 (h34 p0 p1 p2).length q st)) body34 (finH TP Tryd.f34.results.toList (h34 p0 p1 p2).length true k34) (start [.agg [.bool p0, .imm 99 p1, .imm 99 p2]] Tryd.f34.ntmps (h34 p0 p1 p2)) = b34 p0 p1 p2  := by kernel_rfl
def f34 (_ : Nat) (p0 : Bool) (p1 p2 : TI) : Option R34 := b34 p0 p1 p2
theorem pure34 (p0 : Bool) (p1 p2 : TI) (pok : PrmOK TP X q34) (k : Nat) (r : R34) (h : f34 k p0 p1 p2 = some r) : PureH TP X 34 [.agg [.bool p0, .imm 99 p1, .imm 99 p2]] (h34 p0 p1 p2) (out34 r) (outh34 r) :=
  pure_gen good 0 (fn := Tryd.f34) (body := body34) (prim := q34) (D := D34) (cuts := []) (h := h34 p0 p1 p2) (own := true) (by kernel_rfl) (by kernel_rfl) (by decide +kernel) pok hk34 (by
    rw [s34]
    exact h)
def F34 {R : Type} (spec : (Bool) → TI → TI → Option R34) : Fn U R := fun args h k => match args, h with | [.agg [.bool p0, .imm 99 p1, .imm 99 p2]], [] => (spec p0 p1 p2).bind fun r => k (out34 r) (outh34 r) | _, _ => none
theorem ok34 {R : Type} (spec : (Bool) → TI → TI → Option R34) (hp : ∀ (p0 : Bool) (p1 : TI) (p2 : TI) (r : R34), spec p0 p1 p2 = some r → PureH TP X 34 [.agg [.bool p0, .imm 99 p1, .imm 99 p2]] (h34 p0 p1 p2) (out34 r) (outh34 r)) : FnOK TP X 34 (F34 spec : Fn U R) := by
  intro args h k r hh
  unfold F34 at hh
  split at hh
  · obtain ⟨x, h1, h2⟩ := Option.bind_eq_some_iff.1 hh
    exact ⟨_, _, h2, hp _ _ _ _ h1⟩
  · cases hh
theorem pok34 : PrmOK TP X q34 := prims_cons good okS47 (prims_nil TP X mixed)
noncomputable def S34 (p0 : Bool) (p1 p2 : TI) : Option R34 := evv fun k => f34 k p0 p1 p2
theorem okS34 {R : Type} : FnOK TP X 34 (F34 S34 : Fn U R) := ok34 S34 fun p0 p1 p2 r h => by
  obtain ⟨k, hk⟩ := evv_fuel h
  exact pure34 p0 p1 p2 pok34 k r hk
end
end Go.Abs.Z
namespace Go.Abs.Z
open Go Go.Abs Go.Proofs
noncomputable section
abbrev R15 : Type := Int × (List TOp) × TI
noncomputable def body15 : Go.Code := (Tryd.f15.body).getD Go.Code.skip
def h15 (p0 : Int) (p1 : List TOp) (p2 : TI) : List (AO U) := []
def k15 : AV U → List (AO U) → Option R15 := fun v h => match v, h with | AV.agg [AV.int IntKind.i64 x0, AV.row 0 67, AV.row 1 3], [AO.row 67 x1, AO.row 3 x2] => some (x0, x1, x2) | _, _ => none
def out15 : R15 → AV U := fun (x0, x1, x2) => AV.agg [AV.int IntKind.i64 x0, AV.row 0 67, AV.row 1 3]
def outh15 : R15 → List (AO U) := fun (x0, x1, x2) => [AO.row 67 x1, AO.row 3 x2]
def D15 : Nat → Dir := dirs [(3, ⟨[1, 2, 3, 4], [], [], []⟩)]
def b15 (p0 : Int) (p1 : List TOp) (p2 : TI) (c3 : (Int) → (List TOp) → Option R15)  : Option R15 :=
  cond (decide ((↑p1.length : Int) ≤ IntKind.i64.wrap ((↑p1.length : Int) + 3)))
  (cond (decide (IntKind.i64.wrap ((↑p1.length : Int) + 3) * (↑88 : Int) ≤ 140737488355328))
  (c3 (0) (List.replicate (↑p1.length : Int).toNat (0, 0, 0, 0, false, [], [])))
  (none))
  (none)
def m15_3 (p0 : Int) (p1 : List TOp) (p2 : TI) (v0 : Int) (v5 : List TOp) : S U := S.mk [AV.undef, AV.ptr 0 0, AV.ptr 1 0, AV.row 2 67, AV.int IntKind.i64 v0, AV.undef, AV.undef, AV.undef, AV.undef, AV.undef, AV.undef, AV.undef, AV.undef, AV.undef, AV.undef, AV.undef, AV.undef, AV.undef, AV.undef, AV.undef, AV.undef, AV.undef, AV.undef, AV.undef, AV.undef, AV.undef, AV.undef, AV.undef, AV.undef, AV.undef, AV.undef, AV.undef, AV.undef, AV.undef, AV.undef, AV.undef, AV.undef, AV.undef, AV.undef, AV.undef, AV.undef, AV.undef, AV.undef, AV.undef, AV.undef, AV.undef] [AO.box [AV.int IntKind.i64 p0, AV.imm 67 p1, AV.imm 3 p2], AO.box [AV.int IntKind.i64 0, AV.nils 67, AV.nils 3], AO.row 67 v5]
def b15_3 (p0 : Int) (p1 : List TOp) (p2 : TI) (c3 : (Int) → (List TOp) → Option R15) (v0 : Int) (v5 : List TOp) : Option R15 :=
  cond (decide (v0 < (↑p1.length : Int)))
  (cond (decide (0 ≤ v0))
  (cond (decide (v0 < (↑p1.length : Int)))
  (cond (decide (v0.toNat < p1.length))
  (cond (decide (0 ≤ v0))
  (cond (decide (v0 < (↑v5.length : Int)))
  (cond (decide (v0.toNat < v5.length))
  (cond (decide (0 ≤ v0))
  (cond (decide (v0 < (↑p1.length : Int)))
  (cond (decide (v0.toNat < p1.length))
  ((S34 (p1.getD v0.toNat (X.dflt 67)).snd.snd.snd.snd.fst (p1.getD v0.toNat (X.dflt 67)).snd.snd.snd.snd.snd.fst (p1.getD v0.toNat (X.dflt 67)).snd.snd.snd.snd.snd.snd).bind fun r0 =>
  cond (decide (0 ≤ v0))
  (cond (decide (v0 < (↑(v5.set v0.toNat ((p1.getD v0.toNat (X.dflt 67)).fst, (p1.getD v0.toNat (X.dflt 67)).snd.fst, (p1.getD v0.toNat (X.dflt 67)).snd.snd.fst, (p1.getD v0.toNat (X.dflt 67)).snd.snd.snd.fst, (p1.getD v0.toNat (X.dflt 67)).snd.snd.snd.snd.fst, (p1.getD v0.toNat (X.dflt 67)).snd.snd.snd.snd.snd.fst, (p1.getD v0.toNat (X.dflt 67)).snd.snd.snd.snd.snd.snd)).length : Int)))
  (cond (decide (v0.toNat < (v5.set v0.toNat ((p1.getD v0.toNat (X.dflt 67)).fst, (p1.getD v0.toNat (X.dflt 67)).snd.fst, (p1.getD v0.toNat (X.dflt 67)).snd.snd.fst, (p1.getD v0.toNat (X.dflt 67)).snd.snd.snd.fst, (p1.getD v0.toNat (X.dflt 67)).snd.snd.snd.snd.fst, (p1.getD v0.toNat (X.dflt 67)).snd.snd.snd.snd.snd.fst, (p1.getD v0.toNat (X.dflt 67)).snd.snd.snd.snd.snd.snd)).length))
  (c3 (IntKind.i64.wrap (v0 + 1)) ((v5.set v0.toNat ((p1.getD v0.toNat (X.dflt 67)).fst, (p1.getD v0.toNat (X.dflt 67)).snd.fst, (p1.getD v0.toNat (X.dflt 67)).snd.snd.fst, (p1.getD v0.toNat (X.dflt 67)).snd.snd.snd.fst, (p1.getD v0.toNat (X.dflt 67)).snd.snd.snd.snd.fst, (p1.getD v0.toNat (X.dflt 67)).snd.snd.snd.snd.snd.fst, (p1.getD v0.toNat (X.dflt 67)).snd.snd.snd.snd.snd.snd)).set v0.toNat (((v5.set v0.toNat ((p1.getD v0.toNat (X.dflt 67)).fst, (p1.getD v0.toNat (X.dflt 67)).snd.fst, (p1.getD v0.toNat (X.dflt 67)).snd.snd.fst, (p1.getD v0.toNat (X.dflt 67)).snd.snd.snd.fst, (p1.getD v0.toNat (X.dflt 67)).snd.snd.snd.snd.fst, (p1.getD v0.toNat (X.dflt 67)).snd.snd.snd.snd.snd.fst, (p1.getD v0.toNat (X.dflt 67)).snd.snd.snd.snd.snd.snd)).getD v0.toNat (X.dflt 67)).fst, ((v5.set v0.toNat ((p1.getD v0.toNat (X.dflt 67)).fst, (p1.getD v0.toNat (X.dflt 67)).snd.fst, (p1.getD v0.toNat (X.dflt 67)).snd.snd.fst, (p1.getD v0.toNat (X.dflt 67)).snd.snd.snd.fst, (p1.getD v0.toNat (X.dflt 67)).snd.snd.snd.snd.fst, (p1.getD v0.toNat (X.dflt 67)).snd.snd.snd.snd.snd.fst, (p1.getD v0.toNat (X.dflt 67)).snd.snd.snd.snd.snd.snd)).getD v0.toNat (X.dflt 67)).snd.fst, ((v5.set v0.toNat ((p1.getD v0.toNat (X.dflt 67)).fst, (p1.getD v0.toNat (X.dflt 67)).snd.fst, (p1.getD v0.toNat (X.dflt 67)).snd.snd.fst, (p1.getD v0.toNat (X.dflt 67)).snd.snd.snd.fst, (p1.getD v0.toNat (X.dflt 67)).snd.snd.snd.snd.fst, (p1.getD v0.toNat (X.dflt 67)).snd.snd.snd.snd.snd.fst, (p1.getD v0.toNat (X.dflt 67)).snd.snd.snd.snd.snd.snd)).getD v0.toNat (X.dflt 67)).snd.snd.fst, ((v5.set v0.toNat ((p1.getD v0.toNat (X.dflt 67)).fst, (p1.getD v0.toNat (X.dflt 67)).snd.fst, (p1.getD v0.toNat (X.dflt 67)).snd.snd.fst, (p1.getD v0.toNat (X.dflt 67)).snd.snd.snd.fst, (p1.getD v0.toNat (X.dflt 67)).snd.snd.snd.snd.fst, (p1.getD v0.toNat (X.dflt 67)).snd.snd.snd.snd.snd.fst, (p1.getD v0.toNat (X.dflt 67)).snd.snd.snd.snd.snd.snd)).getD v0.toNat (X.dflt 67)).snd.snd.snd.fst, r0.fst, r0.snd.fst, r0.snd.snd)))
  (none))
  (none))
  (none))
  (none))
  (none))
  (none))
  (none))
  (none))
  (none))
  (none))
  (none))
  (none))
  ((S35 p2).bind fun r1 =>
  some ((p0, v5, r1)))
theorem hk15 : ∀ v h' r, k15 v h' = some r → v = out15 r ∧ h' = outh15 r := by
  intro v h' r h
  unfold k15 at h
  split at h
  · injection h with h; subst h; exact ⟨rfl, rfl⟩
  · cases h
abbrev q15 : Prim U R15 := prims X [⟨34, fun _ => true, [.lend], F34 S34⟩, ⟨35, fun _ => true, [.lend], F35 S35⟩]
theorem s15 (c : Nat → S U → Option R15) (p0 : Int) (p1 : List TOp) (p2 : TI) : seg TP X q15 [3] (fun q st => c q (keepD D15 (h15 p0 p1 p2).length q st)) body15 (finH TP Tryd.f15.results.toList (h15 p0 p1 p2).length true k15) (start [.agg [.int .i64 p0, .imm 67 p1, .imm 3 p2]] Tryd.f15.ntmps (h15 p0 p1 p2)) = b15 p0 p1 p2 (fun v0 v5 => c 3 (m15_3 p0 p1 p2 v0 v5)) := by kernel_rfl
theorem s15_3 (c : Nat → S U → Option R15) (p0 : Int) (p1 : List TOp) (p2 : TI) (v0 : Int) (v5 : List TOp) : res TP X q15 [3] (fun q st => c q (keepD D15 (h15 p0 p1 p2).length q st)) 3 body15 (finH TP Tryd.f15.results.toList (h15 p0 p1 p2).length true k15) (m15_3 p0 p1 p2 v0 v5) = b15_3 p0 p1 p2 (fun v0 v5 => c 3 (m15_3 p0 p1 p2 v0 v5)) v0 v5 := by kernel_rfl
def f15_3 (p0 : Int) (p1 : List TOp) (p2 : TI) : Nat → Int → (List TOp) → Option R15
  | 0 => fun _ _ => none
  | k + 1 => b15_3 p0 p1 p2 (f15_3 p0 p1 p2 k)
def f15 (k : Nat) (p0 : Int) (p1 : List TOp) (p2 : TI) : Option R15 := b15 p0 p1 p2 (f15_3 p0 p1 p2 k)
theorem e15 (p0 : Int) (p1 : List TOp) (p2 : TI) : ∀ k, ((fun v0 v5 => cutG TP X q15 [3] D15 (h15 p0 p1 p2).length body15 (finH TP Tryd.f15.results.toList (h15 p0 p1 p2).length true k15) k 3 (m15_3 p0 p1 p2 v0 v5)) = f15_3 p0 p1 p2 k)
  | 0 => rfl
  | k + 1 => by
    have ih := e15 p0 p1 p2 k
    · funext v0 v5
      refine (if_pos (by kernel_rfl)).trans ?_
      rw [s15_3]
      simp only [ih]
      rfl
theorem pure15 (p0 : Int) (p1 : List TOp) (p2 : TI) (pok : PrmOK TP X q15) (k : Nat) (r : R15) (h : f15 k p0 p1 p2 = some r) : PureH TP X 15 [.agg [.int .i64 p0, .imm 67 p1, .imm 3 p2]] (h15 p0 p1 p2) (out15 r) (outh15 r) :=
  pure_gen good k (fn := Tryd.f15) (body := body15) (prim := q15) (D := D15) (cuts := [3]) (h := h15 p0 p1 p2) (own := true) (by kernel_rfl) (by kernel_rfl) (by decide +kernel) pok hk15 (by
    rw [s15]
    have ih := e15 p0 p1 p2 k
    simp only [ih]
    exact h)
def F15 {R : Type} (spec : (Int) → (List TOp) → TI → Option R15) : Fn U R := fun args h k => match args, h with | [.agg [.int .i64 p0, .imm 67 p1, .imm 3 p2]], [] => (spec p0 p1 p2).bind fun r => k (out15 r) (outh15 r) | _, _ => none
theorem ok15 {R : Type} (spec : (Int) → (List TOp) → TI → Option R15) (hp : ∀ (p0 : Int) (p1 : List TOp) (p2 : TI) (r : R15), spec p0 p1 p2 = some r → PureH TP X 15 [.agg [.int .i64 p0, .imm 67 p1, .imm 3 p2]] (h15 p0 p1 p2) (out15 r) (outh15 r)) : FnOK TP X 15 (F15 spec : Fn U R) := by
  intro args h k r hh
  unfold F15 at hh
  split at hh
  · obtain ⟨x, h1, h2⟩ := Option.bind_eq_some_iff.1 hh
    exact ⟨_, _, h2, hp _ _ _ _ h1⟩
  · cases hh
theorem pok15 : PrmOK TP X q15 := prims_cons good okS34 (prims_cons good okS35 (prims_nil TP X mixed))
noncomputable def S15 (p0 : Int) (p1 : List TOp) (p2 : TI) : Option R15 := evv fun k => f15 k p0 p1 p2
theorem okS15 {R : Type} : FnOK TP X 15 (F15 S15 : Fn U R) := ok15 S15 fun p0 p1 p2 r h => by
  obtain ⟨k, hk⟩ := evv_fuel h
  exact pure15 p0 p1 p2 pok15 k r hk
end
end Go.Abs.Z
namespace Go.Abs.Z
open Go Go.Abs Go.Proofs
noncomputable section
abbrev R16 : Type := TI × (List TI) × (List TI) × (List TI) × (List TI) × (List (List (ByteArray))) × (List (List (ByteArray))) × (List (List TRt)) × (List (List TRt)) × (List (List (List TRt))) × (List (List (List TRt))) × (List (List TIx)) × (List (List TIx)) × (List (List TOp)) × (List (List TOp)) × (List (List TIo)) × (List (List TIo)) × (List TMd) × (List TMd) × (List TI) × (List TI)
noncomputable def body16 : Go.Code := (Tryd.f16.body).getD Go.Code.skip
def h16 (p0 : TI) (p1 p2 p3 p4 p5 p6 : List TI) (p7 p8 : List (List (ByteArray))) (p9 p10 : List (List TRt)) (p11 p12 : List (List (List TRt))) (p13 p14 : List (List TIx)) (p15 p16 : List (List TOp)) (p17 p18 : List (List TIo)) (p19 p20 : List TMd) : List (AO U) := [.box [.row 1 62, .row 2 62, .row 3 90, .row 4 90, .row 5 23, .row 6 23, .row 7 39, .row 8 39, .row 9 92, .row 10 92, .row 11 31, .row 12 31, .row 13 102, .row 14 102, .row 15 22, .row 16 22, .row 17 106, .row 18 106, .row 19 44, .row 20 44], .row 62 p1, .row 62 p2, .row 90 p3, .row 90 p4, .row 23 p5, .row 23 p6, .row 39 p7, .row 39 p8, .row 92 p9, .row 92 p10, .row 31 p11, .row 31 p12, .row 102 p13, .row 102 p14, .row 22 p15, .row 22 p16, .row 106 p17, .row 106 p18, .row 44 p19, .row 44 p20]
def k16 : AV U → List (AO U) → Option R16 := fun v h => match v, h with | AV.imm 3 x0, [AO.box [AV.row 1 62, AV.row 2 62, AV.row 3 90, AV.row 4 90, AV.row 21 23, AV.row 22 23, AV.row 7 39, AV.row 8 39, AV.row 9 92, AV.row 10 92, AV.row 11 31, AV.row 12 31, AV.row 13 102, AV.row 14 102, AV.row 15 22, AV.row 16 22, AV.row 17 106, AV.row 18 106, AV.row 19 44, AV.row 20 44], AO.row 62 x1, AO.row 62 x2, AO.row 90 x3, AO.row 90 x4, AO.dead, AO.dead, AO.row 39 x5, AO.row 39 x6, AO.row 92 x7, AO.row 92 x8, AO.row 31 x9, AO.row 31 x10, AO.row 102 x11, AO.row 102 x12, AO.row 22 x13, AO.row 22 x14, AO.row 106 x15, AO.row 106 x16, AO.row 44 x17, AO.row 44 x18, AO.row 23 x19, AO.row 23 x20] => some (x0, x1, x2, x3, x4, x5, x6, x7, x8, x9, x10, x11, x12, x13, x14, x15, x16, x17, x18, x19, x20) | _, _ => none
def out16 : R16 → AV U := fun (x0, x1, x2, x3, x4, x5, x6, x7, x8, x9, x10, x11, x12, x13, x14, x15, x16, x17, x18, x19, x20) => AV.imm 3 x0
def outh16 : R16 → List (AO U) := fun (x0, x1, x2, x3, x4, x5, x6, x7, x8, x9, x10, x11, x12, x13, x14, x15, x16, x17, x18, x19, x20) => [AO.box [AV.row 1 62, AV.row 2 62, AV.row 3 90, AV.row 4 90, AV.row 21 23, AV.row 22 23, AV.row 7 39, AV.row 8 39, AV.row 9 92, AV.row 10 92, AV.row 11 31, AV.row 12 31, AV.row 13 102, AV.row 14 102, AV.row 15 22, AV.row 16 22, AV.row 17 106, AV.row 18 106, AV.row 19 44, AV.row 20 44], AO.row 62 x1, AO.row 62 x2, AO.row 90 x3, AO.row 90 x4, AO.dead, AO.dead, AO.row 39 x5, AO.row 39 x6, AO.row 92 x7, AO.row 92 x8, AO.row 31 x9, AO.row 31 x10, AO.row 102 x11, AO.row 102 x12, AO.row 22 x13, AO.row 22 x14, AO.row 106 x15, AO.row 106 x16, AO.row 44 x17, AO.row 44 x18, AO.row 23 x19, AO.row 23 x20]
def D16 : Nat → Dir := dirs []
def b16 (p0 : TI) (p1 p2 p3 p4 p5 p6 : List TI) (p7 p8 : List (List (ByteArray))) (p9 p10 : List (List TRt)) (p11 p12 : List (List (List TRt))) (p13 p14 : List (List TIx)) (p15 p16 : List (List TOp)) (p17 p18 : List (List TIo)) (p19 p20 : List TMd)   : Option R16 :=
  (S35 p0).bind fun r0 =>
  cond (decide ((List.length r0 + 3) * 8 ≤ 140737488355328))
  (cond (decide ((p5.length + 1) * 24 ≤ 140737488355328))
  ((S35 (r0 ++ [-41, -42, -43])).bind fun r1 =>
  cond (decide ((p6.length + 1) * 24 ≤ 140737488355328))
  (cond (decide ((↑p0.length : Int) ≤ (↑(r0 ++ [-41, -42, -43]).length : Int)))
  (some ((List.take (↑p0.length : Int).toNat (r0 ++ [-41, -42, -43]), p1, p2, p3, p4, p7, p8, p9, p10, p11, p12, p13, p14, p15, p16, p17, p18, p19, p20, p5 ++ [r0 ++ [-41, -42, -43]], p6 ++ [r1])))
  (none))
  (none))
  (none))
  (none)
theorem hk16 : ∀ v h' r, k16 v h' = some r → v = out16 r ∧ h' = outh16 r := by
  intro v h' r h
  unfold k16 at h
  split at h
  · injection h with h; subst h; exact ⟨rfl, rfl⟩
  · cases h
abbrev q16 : Prim U R16 := prims X [⟨35, fun _ => true, [.lend], F35 S35⟩]
theorem s16 (c : Nat → S U → Option R16) (p0 : TI) (p1 p2 p3 p4 p5 p6 : List TI) (p7 p8 : List (List (ByteArray))) (p9 p10 : List (List TRt)) (p11 p12 : List (List (List TRt))) (p13 p14 : List (List TIx)) (p15 p16 : List (List TOp)) (p17 p18 : List (List TIo)) (p19 p20 : List TMd) : seg TP X q16 [] (fun q st => c q (keepD D16 (h16 p0 p1 p2 p3 p4 p5 p6 p7 p8 p9 p10 p11 p12 p13 p14 p15 p16 p17 p18 p19 p20).length q st)) body16 (finH TP Tryd.f16.results.toList (h16 p0 p1 p2 p3 p4 p5 p6 p7 p8 p9 p10 p11 p12 p13 p14 p15 p16 p17 p18 p19 p20).length false k16) (start [.ptr 0 0, .imm 3 p0] Tryd.f16.ntmps (h16 p0 p1 p2 p3 p4 p5 p6 p7 p8 p9 p10 p11 p12 p13 p14 p15 p16 p17 p18 p19 p20)) = b16 p0 p1 p2 p3 p4 p5 p6 p7 p8 p9 p10 p11 p12 p13 p14 p15 p16 p17 p18 p19 p20  := by kernel_rfl
def f16 (_ : Nat) (p0 : TI) (p1 p2 p3 p4 p5 p6 : List TI) (p7 p8 : List (List (ByteArray))) (p9 p10 : List (List TRt)) (p11 p12 : List (List (List TRt))) (p13 p14 : List (List TIx)) (p15 p16 : List (List TOp)) (p17 p18 : List (List TIo)) (p19 p20 : List TMd) : Option R16 := b16 p0 p1 p2 p3 p4 p5 p6 p7 p8 p9 p10 p11 p12 p13 p14 p15 p16 p17 p18 p19 p20
theorem pure16 (p0 : TI) (p1 p2 p3 p4 p5 p6 : List TI) (p7 p8 : List (List (ByteArray))) (p9 p10 : List (List TRt)) (p11 p12 : List (List (List TRt))) (p13 p14 : List (List TIx)) (p15 p16 : List (List TOp)) (p17 p18 : List (List TIo)) (p19 p20 : List TMd) (pok : PrmOK TP X q16) (k : Nat) (r : R16) (h : f16 k p0 p1 p2 p3 p4 p5 p6 p7 p8 p9 p10 p11 p12 p13 p14 p15 p16 p17 p18 p19 p20 = some r) : PureH TP X 16 [.ptr 0 0, .imm 3 p0] (h16 p0 p1 p2 p3 p4 p5 p6 p7 p8 p9 p10 p11 p12 p13 p14 p15 p16 p17 p18 p19 p20) (out16 r) (outh16 r) :=
  pure_gen good 0 (fn := Tryd.f16) (body := body16) (prim := q16) (D := D16) (cuts := []) (h := h16 p0 p1 p2 p3 p4 p5 p6 p7 p8 p9 p10 p11 p12 p13 p14 p15 p16 p17 p18 p19 p20) (own := false) (by kernel_rfl) (by kernel_rfl) (by decide +kernel) pok hk16 (by
    rw [s16]
    exact h)
def F16 {R : Type} (spec : TI → (List TI) → (List TI) → (List TI) → (List TI) → (List TI) → (List TI) → (List (List (ByteArray))) → (List (List (ByteArray))) → (List (List TRt)) → (List (List TRt)) → (List (List (List TRt))) → (List (List (List TRt))) → (List (List TIx)) → (List (List TIx)) → (List (List TOp)) → (List (List TOp)) → (List (List TIo)) → (List (List TIo)) → (List TMd) → (List TMd) → Option R16) : Fn U R := fun args h k => match args, h with | [.ptr 0 0, .imm 3 p0], [.box [.row 1 62, .row 2 62, .row 3 90, .row 4 90, .row 5 23, .row 6 23, .row 7 39, .row 8 39, .row 9 92, .row 10 92, .row 11 31, .row 12 31, .row 13 102, .row 14 102, .row 15 22, .row 16 22, .row 17 106, .row 18 106, .row 19 44, .row 20 44], .row 62 p1, .row 62 p2, .row 90 p3, .row 90 p4, .row 23 p5, .row 23 p6, .row 39 p7, .row 39 p8, .row 92 p9, .row 92 p10, .row 31 p11, .row 31 p12, .row 102 p13, .row 102 p14, .row 22 p15, .row 22 p16, .row 106 p17, .row 106 p18, .row 44 p19, .row 44 p20] => (spec p0 p1 p2 p3 p4 p5 p6 p7 p8 p9 p10 p11 p12 p13 p14 p15 p16 p17 p18 p19 p20).bind fun r => k (out16 r) (outh16 r) | _, _ => none
theorem ok16 {R : Type} (spec : TI → (List TI) → (List TI) → (List TI) → (List TI) → (List TI) → (List TI) → (List (List (ByteArray))) → (List (List (ByteArray))) → (List (List TRt)) → (List (List TRt)) → (List (List (List TRt))) → (List (List (List TRt))) → (List (List TIx)) → (List (List TIx)) → (List (List TOp)) → (List (List TOp)) → (List (List TIo)) → (List (List TIo)) → (List TMd) → (List TMd) → Option R16) (hp : ∀ (p0 : TI) (p1 : List TI) (p2 : List TI) (p3 : List TI) (p4 : List TI) (p5 : List TI) (p6 : List TI) (p7 : List (List (ByteArray))) (p8 : List (List (ByteArray))) (p9 : List (List TRt)) (p10 : List (List TRt)) (p11 : List (List (List TRt))) (p12 : List (List (List TRt))) (p13 : List (List TIx)) (p14 : List (List TIx)) (p15 : List (List TOp)) (p16 : List (List TOp)) (p17 : List (List TIo)) (p18 : List (List TIo)) (p19 : List TMd) (p20 : List TMd) (r : R16), spec p0 p1 p2 p3 p4 p5 p6 p7 p8 p9 p10 p11 p12 p13 p14 p15 p16 p17 p18 p19 p20 = some r → PureH TP X 16 [.ptr 0 0, .imm 3 p0] (h16 p0 p1 p2 p3 p4 p5 p6 p7 p8 p9 p10 p11 p12 p13 p14 p15 p16 p17 p18 p19 p20) (out16 r) (outh16 r)) : FnOK TP X 16 (F16 spec : Fn U R) := by
  intro args h k r hh
  unfold F16 at hh
  split at hh
  · obtain ⟨x, h1, h2⟩ := Option.bind_eq_some_iff.1 hh
    exact ⟨_, _, h2, hp _ _ _ _ _ _ _ _ _ _ _ _ _ _ _ _ _ _ _ _ _ _ h1⟩
  · cases hh
theorem pok16 : PrmOK TP X q16 := prims_cons good okS35 (prims_nil TP X mixed)
noncomputable def S16 (p0 : TI) (p1 p2 p3 p4 p5 p6 : List TI) (p7 p8 : List (List (ByteArray))) (p9 p10 : List (List TRt)) (p11 p12 : List (List (List TRt))) (p13 p14 : List (List TIx)) (p15 p16 : List (List TOp)) (p17 p18 : List (List TIo)) (p19 p20 : List TMd) : Option R16 := evv fun k => f16 k p0 p1 p2 p3 p4 p5 p6 p7 p8 p9 p10 p11 p12 p13 p14 p15 p16 p17 p18 p19 p20
theorem okS16 {R : Type} : FnOK TP X 16 (F16 S16 : Fn U R) := ok16 S16 fun p0 p1 p2 p3 p4 p5 p6 p7 p8 p9 p10 p11 p12 p13 p14 p15 p16 p17 p18 p19 p20 r h => by
  obtain ⟨k, hk⟩ := evv_fuel h
  exact pure16 p0 p1 p2 p3 p4 p5 p6 p7 p8 p9 p10 p11 p12 p13 p14 p15 p16 p17 p18 p19 p20 pok16 k r hk
end
end Go.Abs.Z
namespace Go.Abs.Z
open Go Go.Abs Go.Proofs
noncomputable section
abbrev R5 : Type := Int × (List TOp) × TI × (List TI) × (List TI) × (List (List (ByteArray))) × (List (List (ByteArray))) × (List (List TRt)) × (List (List TRt)) × (List (List (List TRt))) × (List (List (List TRt))) × (List (List TIx)) × (List (List TIx)) × (List (List TIo)) × (List (List TIo)) × (List TMd) × (List TMd) × (List TI) × (List TI) × (List TI) × (List TI) × (List (List TOp)) × (List (List TOp))
noncomputable def body5 : Go.Code := (Tryd.f5.body).getD Go.Code.skip
def h5 (p0 : Int) (p1 : List TOp) (p2 : TI) (p3 p4 p5 p6 p7 p8 : List TI) (p9 p10 : List (List (ByteArray))) (p11 p12 : List (List TRt)) (p13 p14 : List (List (List TRt))) (p15 p16 : List (List TIx)) (p17 p18 : List (List TOp)) (p19 p20 : List (List TIo)) (p21 p22 : List TMd) : List (AO U) := [.box [.row 1 62, .row 2 62, .row 3 90, .row 4 90, .row 5 23, .row 6 23, .row 7 39, .row 8 39, .row 9 92, .row 10 92, .row 11 31, .row 12 31, .row 13 102, .row 14 102, .row 15 22, .row 16 22, .row 17 106, .row 18 106, .row 19 44, .row 20 44], .row 62 p3, .row 62 p4, .row 90 p5, .row 90 p6, .row 23 p7, .row 23 p8, .row 39 p9, .row 39 p10, .row 92 p11, .row 92 p12, .row 31 p13, .row 31 p14, .row 102 p15, .row 102 p16, .row 22 p17, .row 22 p18, .row 106 p19, .row 106 p20, .row 44 p21, .row 44 p22]
def k5 : AV U → List (AO U) → Option R5 := fun v h => match v, h with | AV.agg [AV.int IntKind.i64 x0, AV.imm 67 x1, AV.imm 3 x2], [AO.box [AV.row 21 62, AV.row 22 62, AV.row 3 90, AV.row 4 90, AV.row 23 23, AV.row 24 23, AV.row 7 39, AV.row 8 39, AV.row 9 92, AV.row 10 92, AV.row 11 31, AV.row 12 31, AV.row 13 102, AV.row 14 102, AV.row 25 22, AV.row 26 22, AV.row 17 106, AV.row 18 106, AV.row 19 44, AV.row 20 44], AO.dead, AO.dead, AO.row 90 x3, AO.row 90 x4, AO.dead, AO.dead, AO.row 39 x5, AO.row 39 x6, AO.row 92 x7, AO.row 92 x8, AO.row 31 x9, AO.row 31 x10, AO.row 102 x11, AO.row 102 x12, AO.dead, AO.dead, AO.row 106 x13, AO.row 106 x14, AO.row 44 x15, AO.row 44 x16, AO.row 62 x17, AO.row 62 x18, AO.row 23 x19, AO.row 23 x20, AO.row 22 x21, AO.row 22 x22] => some (x0, x1, x2, x3, x4, x5, x6, x7, x8, x9, x10, x11, x12, x13, x14, x15, x16, x17, x18, x19, x20, x21, x22) | _, _ => none
def out5 : R5 → AV U := fun (x0, x1, x2, x3, x4, x5, x6, x7, x8, x9, x10, x11, x12, x13, x14, x15, x16, x17, x18, x19, x20, x21, x22) => AV.agg [AV.int IntKind.i64 x0, AV.imm 67 x1, AV.imm 3 x2]
def outh5 : R5 → List (AO U) := fun (x0, x1, x2, x3, x4, x5, x6, x7, x8, x9, x10, x11, x12, x13, x14, x15, x16, x17, x18, x19, x20, x21, x22) => [AO.box [AV.row 21 62, AV.row 22 62, AV.row 3 90, AV.row 4 90, AV.row 23 23, AV.row 24 23, AV.row 7 39, AV.row 8 39, AV.row 9 92, AV.row 10 92, AV.row 11 31, AV.row 12 31, AV.row 13 102, AV.row 14 102, AV.row 25 22, AV.row 26 22, AV.row 17 106, AV.row 18 106, AV.row 19 44, AV.row 20 44], AO.dead, AO.dead, AO.row 90 x3, AO.row 90 x4, AO.dead, AO.dead, AO.row 39 x5, AO.row 39 x6, AO.row 92 x7, AO.row 92 x8, AO.row 31 x9, AO.row 31 x10, AO.row 102 x11, AO.row 102 x12, AO.dead, AO.dead, AO.row 106 x13, AO.row 106 x14, AO.row 44 x15, AO.row 44 x16, AO.row 62 x17, AO.row 62 x18, AO.row 23 x19, AO.row 23 x20, AO.row 22 x21, AO.row 22 x22]
def D5 : Nat → Dir := dirs [(3, ⟨[0, 3, 4, 5, 6], [], [], [(0, some 1), (0, some 0)]⟩)]
def b5 (p0 : Int) (p1 : List TOp) (p2 : TI) (p3 p4 p5 p6 p7 p8 : List TI) (p9 p10 : List (List (ByteArray))) (p11 p12 : List (List TRt)) (p13 p14 : List (List (List TRt))) (p15 p16 : List (List TIx)) (p17 p18 : List (List TOp)) (p19 p20 : List (List TIo)) (p21 p22 : List TMd) (c3 : (Int) → (List TI) → (List TI) → (List TI) → (List TI) → (List (List (ByteArray))) → (List (List (ByteArray))) → (List (List TRt)) → (List (List TRt)) → (List (List (List TRt))) → (List (List (List TRt))) → (List (List TIx)) → (List (List TIx)) → (List (List TOp)) → (List (List TOp)) → (List (List TIo)) → (List (List TIo)) → (List TMd) → (List TMd) → (List TOp) → (List TI) → (List TI) → Option R5)  : Option R5 :=
  cond (decide ((↑p1.length : Int) ≤ IntKind.i64.wrap ((↑p1.length : Int) + 3)))
  (cond (decide (IntKind.i64.wrap ((↑p1.length : Int) + 3) * (↑88 : Int) ≤ 140737488355328))
  (c3 (0) (p5) (p6) (p7) (p8) (p9) (p10) (p11) (p12) (p13) (p14) (p15) (p16) (p17) (p18) (p19) (p20) (p21) (p22) (List.replicate (↑p1.length : Int).toNat (0, 0, 0, 0, false, [], [])) (List.take p3.length p3) (List.take p4.length p4))
  (none))
  (none)
def m5_3 (p0 : Int) (p1 : List TOp) (p2 : TI) (p3 p4 p5 p6 p7 p8 : List TI) (p9 p10 : List (List (ByteArray))) (p11 p12 : List (List TRt)) (p13 p14 : List (List (List TRt))) (p15 p16 : List (List TIx)) (p17 p18 : List (List TOp)) (p19 p20 : List (List TIo)) (p21 p22 : List TMd) (v0 : Int) (v1 v2 v3 v4 : List TI) (v5 v6 : List (List (ByteArray))) (v7 v8 : List (List TRt)) (v9 v10 : List (List (List TRt))) (v11 v12 : List (List TIx)) (v13 v14 : List (List TOp)) (v15 v16 : List (List TIo)) (v17 v18 : List TMd) (v23 : List TOp) (v24 v25 : List TI) : S U := S.mk [AV.ptr 0 0, AV.undef, AV.undef, AV.ptr 21 0, AV.ptr 22 0, AV.row 23 67, AV.int IntKind.i64 v0, AV.undef, AV.undef, AV.undef, AV.undef, AV.undef, AV.undef, AV.undef, AV.undef, AV.undef, AV.undef, AV.undef, AV.undef, AV.undef, AV.undef, AV.undef, AV.undef, AV.undef, AV.undef, AV.undef, AV.undef, AV.undef, AV.undef, AV.undef, AV.undef, AV.undef, AV.undef, AV.undef, AV.undef, AV.undef, AV.undef, AV.undef, AV.undef, AV.undef, AV.undef, AV.undef, AV.undef, AV.undef, AV.undef, AV.undef, AV.undef, AV.undef, AV.undef, AV.undef, AV.undef, AV.undef, AV.undef, AV.undef, AV.undef, AV.undef, AV.undef, AV.undef, AV.undef, AV.undef, AV.undef, AV.undef, AV.undef, AV.undef, AV.undef, AV.undef, AV.undef, AV.undef, AV.undef, AV.undef, AV.undef, AV.undef, AV.undef, AV.undef, AV.undef, AV.undef, AV.undef, AV.undef, AV.undef, AV.undef, AV.undef, AV.undef, AV.undef] [AO.box [AV.row 24 62, AV.row 25 62, AV.row 3 90, AV.row 4 90, AV.row 5 23, AV.row 6 23, AV.row 7 39, AV.row 8 39, AV.row 9 92, AV.row 10 92, AV.row 11 31, AV.row 12 31, AV.row 13 102, AV.row 14 102, AV.row 15 22, AV.row 16 22, AV.row 17 106, AV.row 18 106, AV.row 19 44, AV.row 20 44], AO.dead, AO.dead, AO.row 90 v1, AO.row 90 v2, AO.row 23 v3, AO.row 23 v4, AO.row 39 v5, AO.row 39 v6, AO.row 92 v7, AO.row 92 v8, AO.row 31 v9, AO.row 31 v10, AO.row 102 v11, AO.row 102 v12, AO.row 22 v13, AO.row 22 v14, AO.row 106 v15, AO.row 106 v16, AO.row 44 v17, AO.row 44 v18, AO.box [AV.int IntKind.i64 p0, AV.imm 67 p1, AV.imm 3 p2], AO.box [AV.int IntKind.i64 0, AV.nils 67, AV.nils 3], AO.row 67 v23, AO.row 62 v24, AO.row 62 v25]
def b5_3 (p0 : Int) (p1 : List TOp) (p2 : TI) (p3 p4 p5 p6 p7 p8 : List TI) (p9 p10 : List (List (ByteArray))) (p11 p12 : List (List TRt)) (p13 p14 : List (List (List TRt))) (p15 p16 : List (List TIx)) (p17 p18 : List (List TOp)) (p19 p20 : List (List TIo)) (p21 p22 : List TMd) (c3 : (Int) → (List TI) → (List TI) → (List TI) → (List TI) → (List (List (ByteArray))) → (List (List (ByteArray))) → (List (List TRt)) → (List (List TRt)) → (List (List (List TRt))) → (List (List (List TRt))) → (List (List TIx)) → (List (List TIx)) → (List (List TOp)) → (List (List TOp)) → (List (List TIo)) → (List (List TIo)) → (List TMd) → (List TMd) → (List TOp) → (List TI) → (List TI) → Option R5) (v0 : Int) (v1 v2 v3 v4 : List TI) (v5 v6 : List (List (ByteArray))) (v7 v8 : List (List TRt)) (v9 v10 : List (List (List TRt))) (v11 v12 : List (List TIx)) (v13 v14 : List (List TOp)) (v15 v16 : List (List TIo)) (v17 v18 : List TMd) (v23 : List TOp) (v24 v25 : List TI) : Option R5 :=
  cond (decide (v0 < (↑p1.length : Int)))
  (cond (decide (0 ≤ v0))
  (cond (decide (v0 < (↑p1.length : Int)))
  (cond (decide (v0.toNat < p1.length))
  (cond (decide (0 ≤ v0))
  (cond (decide (v0 < (↑v23.length : Int)))
  (cond (decide (v0.toNat < v23.length))
  (cond (decide (0 ≤ v0))
  (cond (decide (v0 < (↑p1.length : Int)))
  (cond (decide (v0.toNat < p1.length))
  ((S14 (p1.getD v0.toNat (X.dflt 67)).snd.snd.snd.snd.fst (p1.getD v0.toNat (X.dflt 67)).snd.snd.snd.snd.snd.fst (p1.getD v0.toNat (X.dflt 67)).snd.snd.snd.snd.snd.snd v24 v25 v1 v2 v3 v4 v5 v6 v7 v8 v9 v10 v11 v12 v13 v14 v15 v16 v17 v18).bind fun r0 =>
  cond (decide (0 ≤ v0))
  (cond (decide (v0 < (↑(v23.set v0.toNat ((p1.getD v0.toNat (X.dflt 67)).fst, (p1.getD v0.toNat (X.dflt 67)).snd.fst, (p1.getD v0.toNat (X.dflt 67)).snd.snd.fst, (p1.getD v0.toNat (X.dflt 67)).snd.snd.snd.fst, (p1.getD v0.toNat (X.dflt 67)).snd.snd.snd.snd.fst, (p1.getD v0.toNat (X.dflt 67)).snd.snd.snd.snd.snd.fst, (p1.getD v0.toNat (X.dflt 67)).snd.snd.snd.snd.snd.snd)).length : Int)))
  (cond (decide (v0.toNat < (v23.set v0.toNat ((p1.getD v0.toNat (X.dflt 67)).fst, (p1.getD v0.toNat (X.dflt 67)).snd.fst, (p1.getD v0.toNat (X.dflt 67)).snd.snd.fst, (p1.getD v0.toNat (X.dflt 67)).snd.snd.snd.fst, (p1.getD v0.toNat (X.dflt 67)).snd.snd.snd.snd.fst, (p1.getD v0.toNat (X.dflt 67)).snd.snd.snd.snd.snd.fst, (p1.getD v0.toNat (X.dflt 67)).snd.snd.snd.snd.snd.snd)).length))
  (c3 (IntKind.i64.wrap (v0 + 1)) (r0.snd.snd.snd.fst) (r0.snd.snd.snd.snd.fst) (r0.snd.snd.snd.snd.snd.fst) (r0.snd.snd.snd.snd.snd.snd.fst) (r0.snd.snd.snd.snd.snd.snd.snd.fst) (r0.snd.snd.snd.snd.snd.snd.snd.snd.fst) (r0.snd.snd.snd.snd.snd.snd.snd.snd.snd.fst) (r0.snd.snd.snd.snd.snd.snd.snd.snd.snd.snd.fst) (r0.snd.snd.snd.snd.snd.snd.snd.snd.snd.snd.snd.fst) (r0.snd.snd.snd.snd.snd.snd.snd.snd.snd.snd.snd.snd.fst) (r0.snd.snd.snd.snd.snd.snd.snd.snd.snd.snd.snd.snd.snd.fst) (r0.snd.snd.snd.snd.snd.snd.snd.snd.snd.snd.snd.snd.snd.snd.fst) (r0.snd.snd.snd.snd.snd.snd.snd.snd.snd.snd.snd.snd.snd.snd.snd.fst) (r0.snd.snd.snd.snd.snd.snd.snd.snd.snd.snd.snd.snd.snd.snd.snd.snd.fst) (r0.snd.snd.snd.snd.snd.snd.snd.snd.snd.snd.snd.snd.snd.snd.snd.snd.snd.fst) (r0.snd.snd.snd.snd.snd.snd.snd.snd.snd.snd.snd.snd.snd.snd.snd.snd.snd.snd.fst) (r0.snd.snd.snd.snd.snd.snd.snd.snd.snd.snd.snd.snd.snd.snd.snd.snd.snd.snd.snd.fst) (r0.snd.snd.snd.snd.snd.snd.snd.snd.snd.snd.snd.snd.snd.snd.snd.snd.snd.snd.snd.snd.fst) ((v23.set v0.toNat ((p1.getD v0.toNat (X.dflt 67)).fst, (p1.getD v0.toNat (X.dflt 67)).snd.fst, (p1.getD v0.toNat (X.dflt 67)).snd.snd.fst, (p1.getD v0.toNat (X.dflt 67)).snd.snd.snd.fst, (p1.getD v0.toNat (X.dflt 67)).snd.snd.snd.snd.fst, (p1.getD v0.toNat (X.dflt 67)).snd.snd.snd.snd.snd.fst, (p1.getD v0.toNat (X.dflt 67)).snd.snd.snd.snd.snd.snd)).set v0.toNat (((v23.set v0.toNat ((p1.getD v0.toNat (X.dflt 67)).fst, (p1.getD v0.toNat (X.dflt 67)).snd.fst, (p1.getD v0.toNat (X.dflt 67)).snd.snd.fst, (p1.getD v0.toNat (X.dflt 67)).snd.snd.snd.fst, (p1.getD v0.toNat (X.dflt 67)).snd.snd.snd.snd.fst, (p1.getD v0.toNat (X.dflt 67)).snd.snd.snd.snd.snd.fst, (p1.getD v0.toNat (X.dflt 67)).snd.snd.snd.snd.snd.snd)).getD v0.toNat (X.dflt 67)).fst, ((v23.set v0.toNat ((p1.getD v0.toNat (X.dflt 67)).fst, (p1.getD v0.toNat (X.dflt 67)).snd.fst, (p1.getD v0.toNat (X.dflt 67)).snd.snd.fst, (p1.getD v0.toNat (X.dflt 67)).snd.snd.snd.fst, (p1.getD v0.toNat (X.dflt 67)).snd.snd.snd.snd.fst, (p1.getD v0.toNat (X.dflt 67)).snd.snd.snd.snd.snd.fst, (p1.getD v0.toNat (X.dflt 67)).snd.snd.snd.snd.snd.snd)).getD v0.toNat (X.dflt 67)).snd.fst, ((v23.set v0.toNat ((p1.getD v0.toNat (X.dflt 67)).fst, (p1.getD v0.toNat (X.dflt 67)).snd.fst, (p1.getD v0.toNat (X.dflt 67)).snd.snd.fst, (p1.getD v0.toNat (X.dflt 67)).snd.snd.snd.fst, (p1.getD v0.toNat (X.dflt 67)).snd.snd.snd.snd.fst, (p1.getD v0.toNat (X.dflt 67)).snd.snd.snd.snd.snd.fst, (p1.getD v0.toNat (X.dflt 67)).snd.snd.snd.snd.snd.snd)).getD v0.toNat (X.dflt 67)).snd.snd.fst, ((v23.set v0.toNat ((p1.getD v0.toNat (X.dflt 67)).fst, (p1.getD v0.toNat (X.dflt 67)).snd.fst, (p1.getD v0.toNat (X.dflt 67)).snd.snd.fst, (p1.getD v0.toNat (X.dflt 67)).snd.snd.snd.fst, (p1.getD v0.toNat (X.dflt 67)).snd.snd.snd.snd.fst, (p1.getD v0.toNat (X.dflt 67)).snd.snd.snd.snd.snd.fst, (p1.getD v0.toNat (X.dflt 67)).snd.snd.snd.snd.snd.snd)).getD v0.toNat (X.dflt 67)).snd.snd.snd.fst, r0.fst, r0.snd.fst, r0.snd.snd.fst)) (List.take r0.snd.snd.snd.snd.snd.snd.snd.snd.snd.snd.snd.snd.snd.snd.snd.snd.snd.snd.snd.snd.snd.fst.length r0.snd.snd.snd.snd.snd.snd.snd.snd.snd.snd.snd.snd.snd.snd.snd.snd.snd.snd.snd.snd.snd.fst) (List.take r0.snd.snd.snd.snd.snd.snd.snd.snd.snd.snd.snd.snd.snd.snd.snd.snd.snd.snd.snd.snd.snd.snd.length r0.snd.snd.snd.snd.snd.snd.snd.snd.snd.snd.snd.snd.snd.snd.snd.snd.snd.snd.snd.snd.snd.snd))
  (none))
  (none))
  (none))
  (none))
  (none))
  (none))
  (none))
  (none))
  (none))
  (none))
  (none))
  (none))
  (cond (decide ((v23.length + 3) * 88 ≤ 140737488355328))
  (cond (decide ((v13.length + 1) * 24 ≤ 140737488355328))
  ((S15 0 (v23 ++ [(0, -41, 0, 0, false, [], []), (0, -42, 0, 0, false, [], []), (0, -43, 0, 0, false, [], [])]) []).bind fun r1 =>
  cond (decide ((v14.length + 1) * 24 ≤ 140737488355328))
  (cond (decide ((↑p1.length : Int) ≤ (↑(v23 ++ [(0, -41, 0, 0, false, [], []), (0, -42, 0, 0, false, [], []), (0, -43, 0, 0, false, [], [])]).length : Int)))
  ((S16 p2 v24 v25 v1 v2 v3 v4 v5 v6 v7 v8 v9 v10 v11 v12 (v13 ++ [v23 ++ [(0, -41, 0, 0, false, [], []), (0, -42, 0, 0, false, [], []), (0, -43, 0, 0, false, [], [])]]) (v14 ++ [r1.snd.fst]) v15 v16 v17 v18).bind fun r2 =>
  some ((p0, List.take (↑p1.length : Int).toNat (v23 ++ [(0, -41, 0, 0, false, [], []), (0, -42, 0, 0, false, [], []), (0, -43, 0, 0, false, [], [])]), r2.fst, r2.snd.snd.snd.fst, r2.snd.snd.snd.snd.fst, r2.snd.snd.snd.snd.snd.fst, r2.snd.snd.snd.snd.snd.snd.fst, r2.snd.snd.snd.snd.snd.snd.snd.fst, r2.snd.snd.snd.snd.snd.snd.snd.snd.fst, r2.snd.snd.snd.snd.snd.snd.snd.snd.snd.fst, r2.snd.snd.snd.snd.snd.snd.snd.snd.snd.snd.fst, r2.snd.snd.snd.snd.snd.snd.snd.snd.snd.snd.snd.fst, r2.snd.snd.snd.snd.snd.snd.snd.snd.snd.snd.snd.snd.fst, r2.snd.snd.snd.snd.snd.snd.snd.snd.snd.snd.snd.snd.snd.snd.snd.fst, r2.snd.snd.snd.snd.snd.snd.snd.snd.snd.snd.snd.snd.snd.snd.snd.snd.fst, r2.snd.snd.snd.snd.snd.snd.snd.snd.snd.snd.snd.snd.snd.snd.snd.snd.snd.fst, r2.snd.snd.snd.snd.snd.snd.snd.snd.snd.snd.snd.snd.snd.snd.snd.snd.snd.snd.fst, r2.snd.fst, r2.snd.snd.fst, r2.snd.snd.snd.snd.snd.snd.snd.snd.snd.snd.snd.snd.snd.snd.snd.snd.snd.snd.snd.fst, r2.snd.snd.snd.snd.snd.snd.snd.snd.snd.snd.snd.snd.snd.snd.snd.snd.snd.snd.snd.snd, r2.snd.snd.snd.snd.snd.snd.snd.snd.snd.snd.snd.snd.snd.fst, r2.snd.snd.snd.snd.snd.snd.snd.snd.snd.snd.snd.snd.snd.snd.fst)))
  (none))
  (none))
  (none))
  (none))
theorem hk5 : ∀ v h' r, k5 v h' = some r → v = out5 r ∧ h' = outh5 r := by
  intro v h' r h
  unfold k5 at h
  split at h
  · injection h with h; subst h; exact ⟨rfl, rfl⟩
  · cases h
abbrev q5 : Prim U R5 := prims X [⟨14, fun _ => true, [.hand, .lend], F14 S14⟩, ⟨15, fun _ => true, [.lend], F15 S15⟩, ⟨16, fun _ => true, [.hand, .lend], F16 S16⟩]
theorem s5 (c : Nat → S U → Option R5) (p0 : Int) (p1 : List TOp) (p2 : TI) (p3 p4 p5 p6 p7 p8 : List TI) (p9 p10 : List (List (ByteArray))) (p11 p12 : List (List TRt)) (p13 p14 : List (List (List TRt))) (p15 p16 : List (List TIx)) (p17 p18 : List (List TOp)) (p19 p20 : List (List TIo)) (p21 p22 : List TMd) : seg TP X q5 [3] (fun q st => c q (keepD D5 (h5 p0 p1 p2 p3 p4 p5 p6 p7 p8 p9 p10 p11 p12 p13 p14 p15 p16 p17 p18 p19 p20 p21 p22).length q st)) body5 (finH TP Tryd.f5.results.toList (h5 p0 p1 p2 p3 p4 p5 p6 p7 p8 p9 p10 p11 p12 p13 p14 p15 p16 p17 p18 p19 p20 p21 p22).length false k5) (start [.ptr 0 0, .agg [.int .i64 p0, .imm 67 p1, .imm 3 p2]] Tryd.f5.ntmps (h5 p0 p1 p2 p3 p4 p5 p6 p7 p8 p9 p10 p11 p12 p13 p14 p15 p16 p17 p18 p19 p20 p21 p22)) = b5 p0 p1 p2 p3 p4 p5 p6 p7 p8 p9 p10 p11 p12 p13 p14 p15 p16 p17 p18 p19 p20 p21 p22 (fun v0 v1 v2 v3 v4 v5 v6 v7 v8 v9 v10 v11 v12 v13 v14 v15 v16 v17 v18 v23 v24 v25 => c 3 (m5_3 p0 p1 p2 p3 p4 p5 p6 p7 p8 p9 p10 p11 p12 p13 p14 p15 p16 p17 p18 p19 p20 p21 p22 v0 v1 v2 v3 v4 v5 v6 v7 v8 v9 v10 v11 v12 v13 v14 v15 v16 v17 v18 v23 v24 v25)) := by kernel_rfl
theorem s5_3 (c : Nat → S U → Option R5) (p0 : Int) (p1 : List TOp) (p2 : TI) (p3 p4 p5 p6 p7 p8 : List TI) (p9 p10 : List (List (ByteArray))) (p11 p12 : List (List TRt)) (p13 p14 : List (List (List TRt))) (p15 p16 : List (List TIx)) (p17 p18 : List (List TOp)) (p19 p20 : List (List TIo)) (p21 p22 : List TMd) (v0 : Int) (v1 v2 v3 v4 : List TI) (v5 v6 : List (List (ByteArray))) (v7 v8 : List (List TRt)) (v9 v10 : List (List (List TRt))) (v11 v12 : List (List TIx)) (v13 v14 : List (List TOp)) (v15 v16 : List (List TIo)) (v17 v18 : List TMd) (v23 : List TOp) (v24 v25 : List TI) : res TP X q5 [3] (fun q st => c q (keepD D5 (h5 p0 p1 p2 p3 p4 p5 p6 p7 p8 p9 p10 p11 p12 p13 p14 p15 p16 p17 p18 p19 p20 p21 p22).length q st)) 3 body5 (finH TP Tryd.f5.results.toList (h5 p0 p1 p2 p3 p4 p5 p6 p7 p8 p9 p10 p11 p12 p13 p14 p15 p16 p17 p18 p19 p20 p21 p22).length false k5) (m5_3 p0 p1 p2 p3 p4 p5 p6 p7 p8 p9 p10 p11 p12 p13 p14 p15 p16 p17 p18 p19 p20 p21 p22 v0 v1 v2 v3 v4 v5 v6 v7 v8 v9 v10 v11 v12 v13 v14 v15 v16 v17 v18 v23 v24 v25) = b5_3 p0 p1 p2 p3 p4 p5 p6 p7 p8 p9 p10 p11 p12 p13 p14 p15 p16 p17 p18 p19 p20 p21 p22 (fun v0 v1 v2 v3 v4 v5 v6 v7 v8 v9 v10 v11 v12 v13 v14 v15 v16 v17 v18 v23 v24 v25 => c 3 (m5_3 p0 p1 p2 p3 p4 p5 p6 p7 p8 p9 p10 p11 p12 p13 p14 p15 p16 p17 p18 p19 p20 p21 p22 v0 v1 v2 v3 v4 v5 v6 v7 v8 v9 v10 v11 v12 v13 v14 v15 v16 v17 v18 v23 v24 v25)) v0 v1 v2 v3 v4 v5 v6 v7 v8 v9 v10 v11 v12 v13 v14 v15 v16 v17 v18 v23 v24 v25 := by kernel_rfl
def f5_3 (p0 : Int) (p1 : List TOp) (p2 : TI) (p3 p4 p5 p6 p7 p8 : List TI) (p9 p10 : List (List (ByteArray))) (p11 p12 : List (List TRt)) (p13 p14 : List (List (List TRt))) (p15 p16 : List (List TIx)) (p17 p18 : List (List TOp)) (p19 p20 : List (List TIo)) (p21 p22 : List TMd) : Nat → Int → (List TI) → (List TI) → (List TI) → (List TI) → (List (List (ByteArray))) → (List (List (ByteArray))) → (List (List TRt)) → (List (List TRt)) → (List (List (List TRt))) → (List (List (List TRt))) → (List (List TIx)) → (List (List TIx)) → (List (List TOp)) → (List (List TOp)) → (List (List TIo)) → (List (List TIo)) → (List TMd) → (List TMd) → (List TOp) → (List TI) → (List TI) → Option R5
  | 0 => fun _ _ _ _ _ _ _ _ _ _ _ _ _ _ _ _ _ _ _ _ _ _ => none
  | k + 1 => b5_3 p0 p1 p2 p3 p4 p5 p6 p7 p8 p9 p10 p11 p12 p13 p14 p15 p16 p17 p18 p19 p20 p21 p22 (f5_3 p0 p1 p2 p3 p4 p5 p6 p7 p8 p9 p10 p11 p12 p13 p14 p15 p16 p17 p18 p19 p20 p21 p22 k)
def f5 (k : Nat) (p0 : Int) (p1 : List TOp) (p2 : TI) (p3 p4 p5 p6 p7 p8 : List TI) (p9 p10 : List (List (ByteArray))) (p11 p12 : List (List TRt)) (p13 p14 : List (List (List TRt))) (p15 p16 : List (List TIx)) (p17 p18 : List (List TOp)) (p19 p20 : List (List TIo)) (p21 p22 : List TMd) : Option R5 := b5 p0 p1 p2 p3 p4 p5 p6 p7 p8 p9 p10 p11 p12 p13 p14 p15 p16 p17 p18 p19 p20 p21 p22 (f5_3 p0 p1 p2 p3 p4 p5 p6 p7 p8 p9 p10 p11 p12 p13 p14 p15 p16 p17 p18 p19 p20 p21 p22 k)
theorem e5 (p0 : Int) (p1 : List TOp) (p2 : TI) (p3 p4 p5 p6 p7 p8 : List TI) (p9 p10 : List (List (ByteArray))) (p11 p12 : List (List TRt)) (p13 p14 : List (List (List TRt))) (p15 p16 : List (List TIx)) (p17 p18 : List (List TOp)) (p19 p20 : List (List TIo)) (p21 p22 : List TMd) : ∀ k, ((fun v0 v1 v2 v3 v4 v5 v6 v7 v8 v9 v10 v11 v12 v13 v14 v15 v16 v17 v18 v23 v24 v25 => cutG TP X q5 [3] D5 (h5 p0 p1 p2 p3 p4 p5 p6 p7 p8 p9 p10 p11 p12 p13 p14 p15 p16 p17 p18 p19 p20 p21 p22).length body5 (finH TP Tryd.f5.results.toList (h5 p0 p1 p2 p3 p4 p5 p6 p7 p8 p9 p10 p11 p12 p13 p14 p15 p16 p17 p18 p19 p20 p21 p22).length false k5) k 3 (m5_3 p0 p1 p2 p3 p4 p5 p6 p7 p8 p9 p10 p11 p12 p13 p14 p15 p16 p17 p18 p19 p20 p21 p22 v0 v1 v2 v3 v4 v5 v6 v7 v8 v9 v10 v11 v12 v13 v14 v15 v16 v17 v18 v23 v24 v25)) = f5_3 p0 p1 p2 p3 p4 p5 p6 p7 p8 p9 p10 p11 p12 p13 p14 p15 p16 p17 p18 p19 p20 p21 p22 k)
  | 0 => rfl
  | k + 1 => by
    have ih := e5 p0 p1 p2 p3 p4 p5 p6 p7 p8 p9 p10 p11 p12 p13 p14 p15 p16 p17 p18 p19 p20 p21 p22 k
    · funext v0 v1 v2 v3 v4 v5 v6 v7 v8 v9 v10 v11 v12 v13 v14 v15 v16 v17 v18 v23 v24 v25
      refine (if_pos (by kernel_rfl)).trans ?_
      rw [s5_3]
      simp only [ih]
      rfl
theorem pure5 (p0 : Int) (p1 : List TOp) (p2 : TI) (p3 p4 p5 p6 p7 p8 : List TI) (p9 p10 : List (List (ByteArray))) (p11 p12 : List (List TRt)) (p13 p14 : List (List (List TRt))) (p15 p16 : List (List TIx)) (p17 p18 : List (List TOp)) (p19 p20 : List (List TIo)) (p21 p22 : List TMd) (pok : PrmOK TP X q5) (k : Nat) (r : R5) (h : f5 k p0 p1 p2 p3 p4 p5 p6 p7 p8 p9 p10 p11 p12 p13 p14 p15 p16 p17 p18 p19 p20 p21 p22 = some r) : PureH TP X 5 [.ptr 0 0, .agg [.int .i64 p0, .imm 67 p1, .imm 3 p2]] (h5 p0 p1 p2 p3 p4 p5 p6 p7 p8 p9 p10 p11 p12 p13 p14 p15 p16 p17 p18 p19 p20 p21 p22) (out5 r) (outh5 r) :=
  pure_gen good k (fn := Tryd.f5) (body := body5) (prim := q5) (D := D5) (cuts := [3]) (h := h5 p0 p1 p2 p3 p4 p5 p6 p7 p8 p9 p10 p11 p12 p13 p14 p15 p16 p17 p18 p19 p20 p21 p22) (own := false) (by kernel_rfl) (by kernel_rfl) (by decide +kernel) pok hk5 (by
    rw [s5]
    have ih := e5 p0 p1 p2 p3 p4 p5 p6 p7 p8 p9 p10 p11 p12 p13 p14 p15 p16 p17 p18 p19 p20 p21 p22 k
    simp only [ih]
    exact h)
def F5 {R : Type} (spec : (Int) → (List TOp) → TI → (List TI) → (List TI) → (List TI) → (List TI) → (List TI) → (List TI) → (List (List (ByteArray))) → (List (List (ByteArray))) → (List (List TRt)) → (List (List TRt)) → (List (List (List TRt))) → (List (List (List TRt))) → (List (List TIx)) → (List (List TIx)) → (List (List TOp)) → (List (List TOp)) → (List (List TIo)) → (List (List TIo)) → (List TMd) → (List TMd) → Option R5) : Fn U R := fun args h k => match args, h with | [.ptr 0 0, .agg [.int .i64 p0, .imm 67 p1, .imm 3 p2]], [.box [.row 1 62, .row 2 62, .row 3 90, .row 4 90, .row 5 23, .row 6 23, .row 7 39, .row 8 39, .row 9 92, .row 10 92, .row 11 31, .row 12 31, .row 13 102, .row 14 102, .row 15 22, .row 16 22, .row 17 106, .row 18 106, .row 19 44, .row 20 44], .row 62 p3, .row 62 p4, .row 90 p5, .row 90 p6, .row 23 p7, .row 23 p8, .row 39 p9, .row 39 p10, .row 92 p11, .row 92 p12, .row 31 p13, .row 31 p14, .row 102 p15, .row 102 p16, .row 22 p17, .row 22 p18, .row 106 p19, .row 106 p20, .row 44 p21, .row 44 p22] => (spec p0 p1 p2 p3 p4 p5 p6 p7 p8 p9 p10 p11 p12 p13 p14 p15 p16 p17 p18 p19 p20 p21 p22).bind fun r => k (out5 r) (outh5 r) | _, _ => none
theorem ok5 {R : Type} (spec : (Int) → (List TOp) → TI → (List TI) → (List TI) → (List TI) → (List TI) → (List TI) → (List TI) → (List (List (ByteArray))) → (List (List (ByteArray))) → (List (List TRt)) → (List (List TRt)) → (List (List (List TRt))) → (List (List (List TRt))) → (List (List TIx)) → (List (List TIx)) → (List (List TOp)) → (List (List TOp)) → (List (List TIo)) → (List (List TIo)) → (List TMd) → (List TMd) → Option R5) (hp : ∀ (p0 : Int) (p1 : List TOp) (p2 : TI) (p3 : List TI) (p4 : List TI) (p5 : List TI) (p6 : List TI) (p7 : List TI) (p8 : List TI) (p9 : List (List (ByteArray))) (p10 : List (List (ByteArray))) (p11 : List (List TRt)) (p12 : List (List TRt)) (p13 : List (List (List TRt))) (p14 : List (List (List TRt))) (p15 : List (List TIx)) (p16 : List (List TIx)) (p17 : List (List TOp)) (p18 : List (List TOp)) (p19 : List (List TIo)) (p20 : List (List TIo)) (p21 : List TMd) (p22 : List TMd) (r : R5), spec p0 p1 p2 p3 p4 p5 p6 p7 p8 p9 p10 p11 p12 p13 p14 p15 p16 p17 p18 p19 p20 p21 p22 = some r → PureH TP X 5 [.ptr 0 0, .agg [.int .i64 p0, .imm 67 p1, .imm 3 p2]] (h5 p0 p1 p2 p3 p4 p5 p6 p7 p8 p9 p10 p11 p12 p13 p14 p15 p16 p17 p18 p19 p20 p21 p22) (out5 r) (outh5 r)) : FnOK TP X 5 (F5 spec : Fn U R) := by
  intro args h k r hh
  unfold F5 at hh
  split at hh
  · obtain ⟨x, h1, h2⟩ := Option.bind_eq_some_iff.1 hh
    exact ⟨_, _, h2, hp _ _ _ _ _ _ _ _ _ _ _ _ _ _ _ _ _ _ _ _ _ _ _ _ h1⟩
  · cases hh
theorem pok5 : PrmOK TP X q5 := prims_cons good okS14 (prims_cons good okS15 (prims_cons good okS16 (prims_nil TP X mixed)))
noncomputable def S5 (p0 : Int) (p1 : List TOp) (p2 : TI) (p3 p4 p5 p6 p7 p8 : List TI) (p9 p10 : List (List (ByteArray))) (p11 p12 : List (List TRt)) (p13 p14 : List (List (List TRt))) (p15 p16 : List (List TIx)) (p17 p18 : List (List TOp)) (p19 p20 : List (List TIo)) (p21 p22 : List TMd) : Option R5 := evv fun k => f5 k p0 p1 p2 p3 p4 p5 p6 p7 p8 p9 p10 p11 p12 p13 p14 p15 p16 p17 p18 p19 p20 p21 p22
theorem okS5 {R : Type} : FnOK TP X 5 (F5 S5 : Fn U R) := ok5 S5 fun p0 p1 p2 p3 p4 p5 p6 p7 p8 p9 p10 p11 p12 p13 p14 p15 p16 p17 p18 p19 p20 p21 p22 r h => by
  obtain ⟨k, hk⟩ := evv_fuel h
  exact pure5 p0 p1 p2 p3 p4 p5 p6 p7 p8 p9 p10 p11 p12 p13 p14 p15 p16 p17 p18 p19 p20 p21 p22 pok5 k r hk
end
end Go.Abs.Z
namespace Go.Abs.Z
open Go Go.Abs Limb Num
theorem upLoop {R : Type} {f : Nat → Int → Option R} {n : Nat} {r : R} (hend : Evt (fun k => f k (n : Int)) r) (hstep : ∀ (i k : Nat), i < n → f (k + 1) (i : Int) = f k ((i + 1 : Nat) : Int)) : Evt (fun k => f k 0) r := by
  have : ∀ (m i : Nat), i + m = n → Evt (fun k => f k (i : Int)) r := by
    intro m
    induction m with
    | zero => intro i hi; have : i = n := by omega
              subst this; exact hend
    | succ m ih => intro i hi; exact (ih (i + 1) (by omega)).step fun k => hstep i k (by omega)
  exact this n 0 (by omega)
theorem up1 {i : Nat} (h : i ≤ 1099511627776) : IntKind.i64.wrap ((i : Int) + 1) = ((i + 1 : Nat) : Int) := by rw [wi64] <;> omega
theorem same25 {a : List Int} (h : a.length ≤ 1099511627776) : S25 a a = some true := evv_eq (by
  refine (upLoop (f := f25_4 a a) (n := a.length) (Evt.last fun k => ?_) fun i k hi => ?_).same fun k => ?_
  · show b25_4 a a (f25_4 a a k) (a.length : Int) = _
    unfold b25_4
    rw [cF (by omega)]
  · show b25_4 a a (f25_4 a a k) (i : Int) = _
    unfold b25_4
    rw [up1 (by omega), bneF rfl]
    simp (disch := omega) only [cT, Int.toNat_natCast]
  · show b25 a a (f25_4 a a k) = _
    unfold b25
    rw [bneF rfl])
theorem same23 {a : List Int} (h : a.length ≤ 1099511627776) : S23 a a = some true := evv_eq (by
  refine (upLoop (f := f23_4 a a) (n := a.length) (Evt.last fun k => ?_) fun i k hi => ?_).same fun k => ?_
  · show b23_4 a a (f23_4 a a k) (a.length : Int) = _
    unfold b23_4
    rw [cF (by omega)]
  · show b23_4 a a (f23_4 a a k) (i : Int) = _
    unfold b23_4
    rw [up1 (by omega), bneF rfl]
    simp (disch := omega) only [cT, Int.toNat_natCast]
  · show b23 a a (f23_4 a a k) = _
    unfold b23
    rw [bneF rfl])
theorem same22 {a : List ByteArray} (h : a.length ≤ 1099511627776) : S22 a a = some true := evv_eq (by
  refine (upLoop (f := f22_4 a a) (n := a.length) (Evt.last fun k => ?_) fun i k hi => ?_).same fun k => ?_
  · show b22_4 a a (f22_4 a a k) (a.length : Int) = _
    unfold b22_4
    rw [cF (by omega)]
  · show b22_4 a a (f22_4 a a k) (i : Int) = _
    unfold b22_4
    rw [up1 (by omega)]
    simp (disch := omega) only [cT, Int.toNat_natCast]
    exact cBF (by simp) _ _
  · show b22 a a (f22_4 a a k) = _
    unfold b22
    rw [bneF rfl])
theorem same24 {neg : Bool} {x y : List Int} (hx : x.length ≤ 1099511627776) (hy : y.length ≤ 1099511627776) : S24 neg x y neg x y = some true := evv_eq (Evt.now fun k => by
  show b24 neg x y neg x y = _
  unfold b24
  rw [same25 hx, same25 hy, cBT (by simp)]; rfl)
theorem same51 {o : OpT} (h : OkOp o) : S51 o.1 o.2.1 o.2.2.1 o.2.2.2.1 o.2.2.2.2.1 o.2.2.2.2.2.1 o.2.2.2.2.2.2 o.1 o.2.1 o.2.2.1 o.2.2.2.1 o.2.2.2.2.1 o.2.2.2.2.2.1 o.2.2.2.2.2.2 = some true := evv_eq (Evt.now fun k => by
  have := h.l
  show b51 _ _ _ _ _ _ _ _ _ _ _ _ _ _ = _
  unfold b51
  rw [same24 (by omega) (by omega), cE rfl, cE rfl, cE rfl, cE rfl]; rfl)
theorem same40 {ops : List OpT} (hok : ∀ o ∈ ops, OkOp o) (h : ops.length ≤ 1099511627776) : S40 0 ops [] 0 ops [] = some true := evv_eq (by
  refine (upLoop (f := f40_4 0 ops [] 0 ops []) (n := ops.length) (Evt.last fun k => ?_) fun i k hi => ?_).same fun k => ?_
  · show b40_4 0 ops [] 0 ops [] (f40_4 0 ops [] 0 ops [] k) (ops.length : Int) = _
    unfold b40_4
    rw [cF (by omega)]
  · have eg : ops.getD i (0, 0, 0, 0, false, [], []) = ops[i] := by rw [List.getD_eq_getElem?_getD, List.getElem?_eq_getElem hi]; rfl
    show b40_4 0 ops [] 0 ops [] (f40_4 0 ops [] 0 ops [] k) (i : Int) = _
    unfold b40_4
    simp only [Int.toNat_natCast, dflt67]
    rw [up1 (by omega), eg, same51 (hok _ (List.getElem_mem hi))]
    simp (disch := omega) only [cT, Option.bind_some]
    rfl
  · show b40 0 ops [] 0 ops [] (f40_4 0 ops [] 0 ops [] k) = _
    unfold b40
    rw [bneF rfl, bneF rfl, same23 (by simp)]; rfl)
theorem copy47 {a : List Int} (h : a.length ≤ 1099511627776) : S47 a = some a := by
  have loop : ∀ (m i : Nat) (l : List Int), i + m = a.length → l.length = a.length → l.take i = a.take i → Evt (fun k => f47_3 a k (i : Int) l) (a : R47)
    := by
    intro m
    induction m with
    | zero =>
      intro i l hi hl ht
      have : l = a := by
        rw [List.take_of_length_le (by omega), List.take_of_length_le (by omega)] at ht; exact ht
      subst this
      refine Evt.last fun k => ?_
      show b47_3 l (f47_3 l k) (i : Int) l = _
      unfold b47_3
      rw [cF (by omega)]
    | succ m ih =>
      intro i l hi hl ht
      have hlt : i < a.length := by omega
      refine (ih (i + 1) (l.set i (a.getD i 0)) (by omega) (by simpa using hl) ?_).step fun k => ?_
      · rw [List.take_succ_eq_append_getElem (by simp; omega), List.take_succ_eq_append_getElem hlt, List.take_set_of_le (Nat.le_refl i), ht]
        simp [List.getD_eq_getElem?_getD, List.getElem?_eq_getElem hlt]
      · show b47_3 a (f47_3 a k) (i : Int) l = _
        unfold b47_3
        rw [up1 (by omega)]
        simp (disch := omega) only [cT, Int.toNat_natCast]
        rfl
  refine evv_eq ((loop a.length 0 (List.replicate a.length 0) (by omega) (by simp) rfl).same fun k => ?_)
  show b47 a (f47_3 a k) = _
  unfold b47
  have e1 : IntKind.i64.wrap ((a.length : Int) + 3) = (a.length : Int) + 3 := by rw [wi64] <;> omega
  rw [e1]
  simp (disch := omega) only [cT, Int.toNat_natCast]
  rfl
theorem copy35 {a : List Int} (h : a.length ≤ 1099511627776) : S35 a = some a := by
  have loop : ∀ (m i : Nat) (l : List Int), i + m = a.length → l.length = a.length → l.take i = a.take i → Evt (fun k => f35_3 a k (i : Int) l) (a : R35)
    := by
    intro m
    induction m with
    | zero =>
      intro i l hi hl ht
      have : l = a := by
        rw [List.take_of_length_le (by omega), List.take_of_length_le (by omega)] at ht; exact ht
      subst this
      refine Evt.last fun k => ?_
      show b35_3 l (f35_3 l k) (i : Int) l = _
      unfold b35_3
      rw [cF (by omega)]
    | succ m ih =>
      intro i l hi hl ht
      have hlt : i < a.length := by omega
      refine (ih (i + 1) (l.set i (a.getD i 0)) (by omega) (by simpa using hl) ?_).step fun k => ?_
      · rw [List.take_succ_eq_append_getElem (by simp; omega), List.take_succ_eq_append_getElem hlt, List.take_set_of_le (Nat.le_refl i), ht]
        simp [List.getD_eq_getElem?_getD, List.getElem?_eq_getElem hlt]
      · show b35_3 a (f35_3 a k) (i : Int) l = _
        unfold b35_3
        rw [up1 (by omega)]
        simp (disch := omega) only [cT, Int.toNat_natCast]
        rfl
  refine evv_eq ((loop a.length 0 (List.replicate a.length 0) (by omega) (by simp) rfl).same fun k => ?_)
  show b35 a (f35_3 a k) = _
  unfold b35
  have e1 : IntKind.i64.wrap ((a.length : Int) + 3) = (a.length : Int) + 3 := by rw [wi64] <;> omega
  rw [e1]
  simp (disch := omega) only [cT, Int.toNat_natCast]
  rfl
theorem copy34 {neg : Bool} {x y : List Int} (hx : x.length ≤ 1099511627776) (hy : y.length ≤ 1099511627776) : S34 neg x y = some (neg, x, y) := evv_eq (Evt.now fun k => by
  show b34 neg x y = _
  unfold b34
  rw [copy47 hx, copy47 hy]; rfl)
end Go.Abs.Z
namespace Go.Abs.Z
open Go Go.Abs Limb Num
def mN : List Int := [42405, 23130, 42330]
def mI : List Int := [-41, -42, -43]
def mO : List OpT := [(0, -41, 0, 0, false, [], []), (0, -42, 0, 0, false, [], []), (0, -43, 0, 0, false, [], [])]
theorem run33 {a : List Int} {p1 p2 : List (List Int)} {p3 p4 p5 p6 p7 p8 p9 p10 p11 p12 p13 p14 p15 p16 p17 p18 p19 p20 : _} (ha : a.length ≤ 1073741824) (h1 : p1.length ≤ 1073741824) (h2 : p2.length ≤ 1073741824) :
    S33 a p1 p2 p3 p4 p5 p6 p7 p8 p9 p10 p11 p12 p13 p14 p15 p16 p17 p18 p19 p20 = some (a, p3, p4, p5, p6, p7, p8, p9, p10, p11, p12, p13, p14, p15, p16, p17, p18, p19, p20, p1 ++ [a ++ mN], p2 ++ [a ++ mN]) := evv_eq (Evt.now fun k => by
  show b33 a p1 p2 p3 p4 p5 p6 p7 p8 p9 p10 p11 p12 p13 p14 p15 p16 p17 p18 p19 p20 = _
  unfold b33
  rw [copy47 (by omega)]
  simp only [Option.bind_some]
  rw [copy47 (by simp; omega)]
  simp only [Option.bind_some, Int.toNat_natCast]
  rw [cT (by omega), cT (by omega), cT (by omega), cT (by simp; omega)]
  have : List.take a.length (a ++ [42405, 23130, 42330]) = a := by simp
  rw [this]; rfl)
theorem run16 {a : List Int} {p5 p6 : List (List Int)} {p1 p2 p3 p4 p7 p8 p9 p10 p11 p12 p13 p14 p15 p16 p17 p18 p19 p20 : _} (ha : a.length ≤ 1073741824) (h1 : p5.length ≤ 1073741824) (h2 : p6.length ≤ 1073741824) :
    S16 a p1 p2 p3 p4 p5 p6 p7 p8 p9 p10 p11 p12 p13 p14 p15 p16 p17 p18 p19 p20 = some (a, p1, p2, p3, p4, p7, p8, p9, p10, p11, p12, p13, p14, p15, p16, p17, p18, p19, p20, p5 ++ [a ++ mI], p6 ++ [a ++ mI]) := evv_eq (Evt.now fun k => by
  show b16 a p1 p2 p3 p4 p5 p6 p7 p8 p9 p10 p11 p12 p13 p14 p15 p16 p17 p18 p19 p20 = _
  unfold b16
  rw [copy35 (by omega)]
  simp only [Option.bind_some]
  rw [copy35 (by simp; omega)]
  simp only [Option.bind_some, Int.toNat_natCast]
  rw [cT (by omega), cT (by omega), cT (by omega), cT (by simp; omega)]
  have : List.take a.length (a ++ [-41, -42, -43]) = a := by simp
  rw [this]; rfl)
theorem run14 {neg : Bool} {x y : List Int} {p1 p2 : List (List Int)} {p3 p4 p5 p6 p7 p8 p9 p10 p11 p12 p13 p14 p15 p16 p17 p18 p19 p20 : _} (hx : x.length ≤ 1073741824) (hy : y.length ≤ 1073741824) (h1 : p1.length + 1 ≤ 1073741824) (h2 : p2.length + 1 ≤ 1073741824) :
    S14 neg x y p1 p2 p3 p4 p5 p6 p7 p8 p9 p10 p11 p12 p13 p14 p15 p16 p17 p18 p19 p20 = some (neg, x, y, p3, p4, p5, p6, p7, p8, p9, p10, p11, p12, p13, p14, p15, p16, p17, p18, p19, p20, (p1 ++ [x ++ mN]) ++ [y ++ mN], (p2 ++ [x ++ mN]) ++ [y ++ mN]) := evv_eq (Evt.now fun k => by
  show b14 neg x y p1 p2 p3 p4 p5 p6 p7 p8 p9 p10 p11 p12 p13 p14 p15 p16 p17 p18 p19 p20 = _
  unfold b14
  rw [run33 hx (by omega) (by omega)]
  simp only [Option.bind_some]
  rw [run33 hy (by simp; omega) (by simp; omega)]
  rfl)
theorem take_set_next {α : Type} {l a : List α} {i : Nat} {d : α} (hi : i < a.length) (hl : l.length = a.length) (ht : l.take i = a.take i) : (l.set i (a.getD i d)).take (i + 1) = a.take (i + 1) := by
  rw [List.take_succ_eq_append_getElem (by simp; omega), List.take_succ_eq_append_getElem hi, List.take_set_of_le (Nat.le_refl i), ht]
  simp [List.getD_eq_getElem?_getD, List.getElem?_eq_getElem hi]
theorem take_all {α : Type} {l a : List α} (hl : l.length = a.length) (ht : l.take a.length = a.take a.length) : l = a := by
  rw [List.take_of_length_le (by omega), List.take_of_length_le (by omega)] at ht; exact ht
theorem copy15 {ops : List OpT} (hok : ∀ o ∈ ops, OkOp o) (h : ops.length ≤ 1073741824) : S15 0 ops [] = some (0, ops, []) := by
  have loop : ∀ (m i : Nat) (l : List OpT), i + m = ops.length → l.length = ops.length → l.take i = ops.take i → Evt (fun k => f15_3 0 ops [] k (i : Int) l) ((0, ops, []) : R15) := by
    intro m
    induction m with
    | zero =>
      intro i l hi hl ht
      have ei : i = ops.length := by omega
      subst ei
      have := take_all hl ht
      subst this
      refine Evt.last fun k => ?_
      show b15_3 0 l [] (f15_3 0 l [] k) (l.length : Int) l = _
      unfold b15_3
      rw [cF (by omega), copy35 (by simp)]; rfl
    | succ m ih =>
      intro i l hi hl ht
      have hlt : i < ops.length := by omega
      have eg : ops.getD i (0, 0, 0, 0, false, [], []) = ops[i] := by rw [List.getD_eq_getElem?_getD, List.getElem?_eq_getElem hlt]; rfl
      have ok : OkOp (ops.getD i (0, 0, 0, 0, false, [], [])) := by rw [eg]; exact hok ops[i] (List.getElem_mem hlt)
      have okl := ok.l
      refine (ih (i + 1) (l.set i (ops.getD i (0, 0, 0, 0, false, [], []))) (by omega) (by simpa using hl) (take_set_next hlt hl ht)).step fun k => ?_
      show b15_3 0 ops [] (f15_3 0 ops [] k) (i : Int) l = _
      unfold b15_3
      rw [up1 (by omega)]
      simp only [Int.toNat_natCast, List.length_set]
      simp (disch := omega) only [cT]
      simp only [dflt67]
      generalize ops.getD i (0, 0, 0, 0, false, [], []) = o at *
      have e2 : (l.set i o).getD i (0, 0, 0, 0, false, [], []) = o := by
        rw [List.getD_eq_getElem?_getD, List.getElem?_set_self (by omega)]; rfl
      rw [copy34 (by omega) (by omega)]
      simp only [Option.bind_some]
      have e3 : (l.set i (o.1, o.2.1, o.2.2.1, o.2.2.2.1, o.2.2.2.2.1, o.2.2.2.2.2.1, o.2.2.2.2.2.2)) = l.set i o := rfl
      rw [e3, e2, List.set_set]
  refine evv_eq ((loop ops.length 0 (List.replicate ops.length (0, 0, 0, 0, false, [], [])) (by omega) (by simp) rfl).same fun k => ?_)
  show b15 0 ops [] (f15_3 0 ops [] k) = _
  unfold b15
  have e1 : IntKind.i64.wrap ((ops.length : Int) + 3) = (ops.length : Int) + 3 := by rw [wi64] <;> omega
  rw [e1]
  simp (disch := omega) only [cT, Int.toNat_natCast]
  rfl
def limbsOf (ops : List OpT) : List (List Int) := ops.flatMap fun o => [o.2.2.2.2.2.1 ++ mN, o.2.2.2.2.2.2 ++ mN]
theorem limbsOf_len (ops : List OpT) : (limbsOf ops).length = 2 * ops.length := by
  induction ops with
  | nil => rfl
  | cons o l ih =>
    show (_ ++ limbsOf l).length = _
    rw [List.length_append, ih]
    simp; omega
theorem limbsOf_next {ops : List OpT} {i : Nat} (h : i < ops.length) : limbsOf (ops.take (i + 1)) = (limbsOf (ops.take i) ++ [ops[i].2.2.2.2.2.1 ++ mN]) ++ [ops[i].2.2.2.2.2.2 ++ mN] := by
  rw [List.take_succ_eq_append_getElem h]
  unfold limbsOf
  rw [List.flatMap_append]
  simp
theorem mO_ok : ∀ o ∈ mO, OkOp o := by
  intro o ho
  unfold mO at ho
  simp only [List.mem_cons, List.not_mem_nil, or_false] at ho
  rcases ho with rfl | rfl | rfl <;> exact ⟨Ok.nil, Ok.nil, by simp⟩
abbrev G18 : Type := List (List Int)
theorem run5 {inputs : Int} {ops : List OpT} {outs : List Int} (hok : ∀ o ∈ ops, OkOp o) (hsm : ∀ o ∈ ops, o.2.2.2.2.2.1.length ≤ 1073741824 ∧ o.2.2.2.2.2.2.length ≤ 1073741824) (h : ops.length ≤ 16777216) (ho : outs.length ≤ 1073741824) :
    S5 inputs ops outs [] [] [] [] [] [] [] [] [] [] [] [] [] [] [] [] [] [] [] [] = some (inputs, ops, outs, [], [], [], [], [], [], [], [], [], [], [], [], [], [], limbsOf ops, limbsOf ops, [outs ++ mI], [outs ++ mI], [ops ++ mO], [ops ++ mO]) := by
  have loop : ∀ (m i : Nat) (l : List OpT), i + m = ops.length → l.length = ops.length → l.take i = ops.take i →
      Evt (fun k => f5_3 inputs ops outs [] [] [] [] [] [] [] [] [] [] [] [] [] [] [] [] [] [] [] [] k (i : Int) [] [] [] [] [] [] [] [] [] [] [] [] [] [] [] [] [] [] l (limbsOf (ops.take i)) (limbsOf (ops.take i))) ((inputs, ops, outs, [], [], [], [], [], [], [], [], [], [], [], [], [], [], limbsOf ops, limbsOf ops, [outs ++ mI], [outs ++ mI], [ops ++ mO], [ops ++ mO]) : R5) := by
    intro m
    induction m with
    | zero =>
      intro i l hi hl ht
      have ei : i = ops.length := by omega
      subst ei
      have := take_all hl ht
      subst this
      refine Evt.last fun k => ?_
      show b5_3 inputs l outs [] [] [] [] [] [] [] [] [] [] [] [] [] [] [] [] [] [] [] [] (f5_3 inputs l outs [] [] [] [] [] [] [] [] [] [] [] [] [] [] [] [] [] [] [] [] k) (l.length : Int) [] [] [] [] [] [] [] [] [] [] [] [] [] [] [] [] [] [] l (limbsOf (l.take l.length)) (limbsOf (l.take l.length)) = _
      rw [List.take_length]
      have hll := limbsOf_len l
      unfold b5_3
      rw [cF (by omega), cT (by omega), cT (by decide)]
      have hA : ∀ o ∈ l ++ [((0 : Int), (-41 : Int), (0 : Int), (0 : Int), false, ([] : List Int), ([] : List Int)), (0, -42, 0, 0, false, [], []), (0, -43, 0, 0, false, [], [])], OkOp o := fun o ho => (List.mem_append.1 ho).elim (hok o) (mO_ok o)
      have c15 := copy15 hA (by simp; omega)
      rw [c15]
      simp only [Option.bind_some]
      rw [cT (by decide), cT (by simp; omega)]
      have r16 := run16 (a := outs) (p1 := limbsOf l) (p2 := limbsOf l) (p3 := []) (p4 := []) (p5 := []) (p6 := []) (p7 := []) (p8 := []) (p9 := []) (p10 := []) (p11 := []) (p12 := []) (p13 := []) (p14 := []) (p15 := [l ++ mO]) (p16 := [l ++ mO]) (p17 := []) (p18 := []) (p19 := []) (p20 := []) ho (by simp) (by simp)
      have et : List.take (l.length : Int).toNat (l ++ mO) = l := by rw [Int.toNat_natCast]; simp
      refine (congrArg (fun z => Option.bind z _) r16).trans ?_
      simp only [Option.bind_some]
      refine congrArg some ?_
      refine Prod.ext rfl (Prod.ext et rfl)
    | succ m ih =>
      intro i l hi hl ht
      have hlt : i < ops.length := by omega
      have eg : ops.getD i (0, 0, 0, 0, false, [], []) = ops[i] := by rw [List.getD_eq_getElem?_getD, List.getElem?_eq_getElem hlt]; rfl
      have hs := hsm ops[i] (List.getElem_mem hlt)
      have hll := limbsOf_len (ops.take i)
      have hti : (ops.take i).length = i := by simp; omega
      have IH := ih (i + 1) (l.set i (ops.getD i (0, 0, 0, 0, false, [], []))) (by omega) (by simpa using hl) (take_set_next hlt hl ht)
      rw [limbsOf_next hlt] at IH
      refine IH.step fun k => ?_
      show b5_3 inputs ops outs [] [] [] [] [] [] [] [] [] [] [] [] [] [] [] [] [] [] [] [] (f5_3 inputs ops outs [] [] [] [] [] [] [] [] [] [] [] [] [] [] [] [] [] [] [] [] k) (i : Int) [] [] [] [] [] [] [] [] [] [] [] [] [] [] [] [] [] [] l (limbsOf (ops.take i)) (limbsOf (ops.take i)) = _
      have hg' : ops.getD i (X.dflt 67) = ops[i] := eg
      rw [eg]
      unfold b5_3
      rw [up1 (by omega)]
      simp only [Int.toNat_natCast, List.length_set]
      simp (disch := omega) only [cT]
      simp only [dflt67]
      have e2 : (l.set i ops[i]).getD i (0, 0, 0, 0, false, [], []) = ops[i] := by
        rw [List.getD_eq_getElem?_getD, List.getElem?_set_self (by omega)]; rfl
      have r14 := run14 (neg := ops[i].2.2.2.2.1) (x := ops[i].2.2.2.2.2.1) (y := ops[i].2.2.2.2.2.2) (p1 := limbsOf (ops.take i)) (p2 := limbsOf (ops.take i)) (p3 := []) (p4 := []) (p5 := []) (p6 := []) (p7 := []) (p8 := []) (p9 := []) (p10 := []) (p11 := []) (p12 := []) (p13 := []) (p14 := []) (p15 := []) (p16 := []) (p17 := []) (p18 := []) (p19 := []) (p20 := []) hs.1 hs.2 (by omega) (by omega)
      rw [eg]
      refine (congrArg (fun z => Option.bind z _) r14).trans ?_
      simp only [Option.bind_some]
      have e3 : (l.set i (ops[i].1, ops[i].2.1, ops[i].2.2.1, ops[i].2.2.2.1, ops[i].2.2.2.2.1, ops[i].2.2.2.2.2.1, ops[i].2.2.2.2.2.2)) = l.set i ops[i] := rfl
      rw [e3, e2, List.set_set]
      rw [List.take_length]
  refine evv_eq ((loop ops.length 0 (List.replicate ops.length (0, 0, 0, 0, false, [], [])) (by omega) (by simp) rfl).same fun k => ?_)
  show b5 inputs ops outs [] [] [] [] [] [] [] [] [] [] [] [] [] [] [] [] [] [] [] [] (f5_3 inputs ops outs [] [] [] [] [] [] [] [] [] [] [] [] [] [] [] [] [] [] [] [] k) = _
  unfold b5
  have e1 : IntKind.i64.wrap ((ops.length : Int) + 3) = (ops.length : Int) + 3 := by rw [wi64] <;> omega
  rw [e1]
  simp (disch := omega) only [cT, Int.toNat_natCast]
  rfl
end Go.Abs.Z
namespace Go.Abs.Z
open Go Go.Abs Limb Num
section
variable {fs : List ((ByteArray) × (List (ByteArray)) × Int)} {ins : List ByteArray} {lets : List LetT} {outs : List Int} {nodes : List NodeT}
structure OkModel (ins : List ByteArray) (fs : List ((ByteArray) × (List (ByteArray)) × Int)) (lets : List LetT) (outs : List Int) (nodes : List NodeT) : Prop where
  i : ins.length ≤ 1099511627776
  f : fs.length ≤ 1099511627776
  fp : ∀ g ∈ fs, g.2.1.length ≤ 1099511627776
  l : lets.length ≤ 1099511627776
  o : outs.length ≤ 1099511627776
  n : nodes.length ≤ 1099511627776
  nx : ∀ x ∈ nodes, x.2.2.2.1.length ≤ 1099511627776 ∧ x.2.2.2.2.1.length ≤ 1099511627776 ∧ x.2.2.2.2.2.2.length ≤ 1099511627776
theorem same7 (h : OkModel ins fs lets outs nodes) : S7 ins fs lets outs nodes ins fs lets outs nodes = some true := evv_eq (by
  have unf0 : ∀ k, f7 k ins fs lets outs nodes ins fs lets outs nodes = b7 ins fs lets outs nodes ins fs lets outs nodes (f7_4 ins fs lets outs nodes ins fs lets outs nodes k) (f7_9 ins fs lets outs nodes ins fs lets outs nodes k) (f7_14 ins fs lets outs nodes ins fs lets outs nodes k) := fun k => rfl
  have u4 : ∀ k i, f7_4 ins fs lets outs nodes ins fs lets outs nodes (k + 1) i = b7_4 ins fs lets outs nodes ins fs lets outs nodes (f7_4 ins fs lets outs nodes ins fs lets outs nodes k) (f7_9 ins fs lets outs nodes ins fs lets outs nodes k) (f7_14 ins fs lets outs nodes ins fs lets outs nodes k) i := fun k i => rfl
  have u9 : ∀ k i, f7_9 ins fs lets outs nodes ins fs lets outs nodes (k + 1) i = b7_9 ins fs lets outs nodes ins fs lets outs nodes (f7_4 ins fs lets outs nodes ins fs lets outs nodes k) (f7_9 ins fs lets outs nodes ins fs lets outs nodes k) (f7_14 ins fs lets outs nodes ins fs lets outs nodes k) i := fun k i => rfl
  have u14 : ∀ k i, f7_14 ins fs lets outs nodes ins fs lets outs nodes (k + 1) i = b7_14 ins fs lets outs nodes ins fs lets outs nodes (f7_4 ins fs lets outs nodes ins fs lets outs nodes k) (f7_9 ins fs lets outs nodes ins fs lets outs nodes k) (f7_14 ins fs lets outs nodes ins fs lets outs nodes k) i := fun k i => rfl
  have e14 : Evt (fun k => f7_14 ins fs lets outs nodes ins fs lets outs nodes k 0) true := by
    refine upLoop (n := nodes.length) (Evt.last fun k => ?_) fun i k hi => ?_
    · rw [u14]; unfold b7_14; rw [cF (by omega)]
    · rw [u14]
      have hn := h.n
      have eg : nodes.getD i (X.dflt 73) = nodes[i] := by
        have : nodes.getD i (0, ByteArray.empty, false, [], [], 0, []) = nodes[i] := by rw [List.getD_eq_getElem?_getD, List.getElem?_eq_getElem hi]; rfl
        exact this
      obtain ⟨x1, x2, x3⟩ := h.nx nodes[i] (List.getElem_mem hi)
      have s24 := same24 (neg := nodes[i].2.2.1) x1 x2
      have s23 := same23 x3
      unfold b7_14
      rw [up1 (by omega)]
      simp only [Int.toNat_natCast]
      simp (disch := omega) only [cT]
      rw [bneF rfl, bneF rfl]
      have q : ∀ x : NodeT, x = nodes[i] → (cond (!x.2.1.toList == x.2.1.toList) (some false) ((S24 x.2.2.1 x.2.2.2.1 x.2.2.2.2.1 x.2.2.1 x.2.2.2.1 x.2.2.2.2.1).bind fun r0 => cond (!r0) (some false) ((S23 x.2.2.2.2.2.2 x.2.2.2.2.2.2).bind fun r1 => cond (!r1) (some false) (f7_14 ins fs lets outs nodes ins fs lets outs nodes k ((i + 1 : Nat) : Int))))) = f7_14 ins fs lets outs nodes ins fs lets outs nodes k ((i + 1 : Nat) : Int) := fun x hx => by
        subst hx
        rw [s24, s23, cBF (by simp)]; rfl
      exact q _ eg
  have e9 : Evt (fun k => f7_9 ins fs lets outs nodes ins fs lets outs nodes k 0) true := by
    refine upLoop (n := lets.length) (e14.step fun k => ?_) fun i k hi => ?_
    · rw [u9]; unfold b7_9; rw [cF (by omega)]
    · rw [u9]
      have hn := h.l
      unfold b7_9
      rw [up1 (by omega)]
      simp only [Int.toNat_natCast]
      simp (disch := omega) only [cT]
      refine cBF ?_ _ _
      simp
  have e4 : Evt (fun k => f7_4 ins fs lets outs nodes ins fs lets outs nodes k 0) true := by
    refine upLoop (n := fs.length) (e9.step fun k => ?_) fun i k hi => ?_
    · rw [u4]; unfold b7_4; rw [cF (by omega)]
    · rw [u4]
      have hn := h.f
      have eg : fs.getD i (X.dflt 86) = fs[i] := by
        have : fs.getD i (ByteArray.empty, [], 0) = fs[i] := by rw [List.getD_eq_getElem?_getD, List.getElem?_eq_getElem hi]; rfl
        exact this
      have s22 := same22 (h.fp fs[i] (List.getElem_mem hi))
      unfold b7_4
      rw [up1 (by omega)]
      simp only [Int.toNat_natCast]
      simp (disch := omega) only [cT]
      rw [bneF rfl]
      have q : ∀ x : (ByteArray) × (List (ByteArray)) × Int, x = fs[i] → (cond (!x.1.toList == x.1.toList) (some false) ((S22 x.2.1 x.2.1).bind fun r0 => cond (!r0) (some false) (f7_4 ins fs lets outs nodes ins fs lets outs nodes k ((i + 1 : Nat) : Int)))) = f7_4 ins fs lets outs nodes ins fs lets outs nodes k ((i + 1 : Nat) : Int) := fun x hx => by
        subst hx
        rw [s22, cBF (by simp)]; rfl
      exact q _ eg
  refine e4.same fun k => ?_
  rw [unf0]
  unfold b7
  rw [same22 h.i, same23 h.o]
  simp only [Option.bind_some]
  rw [cNF rfl, bneF rfl, bneF rfl, cNF rfl, bneF rfl])
end
section
variable {L I : List (List Int)} {O : List (List OpT)}
theorem same29 (hO : ∀ o ∈ O, o.length ≤ 1099511627776 ∧ ∀ x ∈ o, OkOp x) (hl : O.length ≤ 1099511627776) : S29 L L [] [] I I [] [] [] [] [] [] [] [] O O [] [] [] [] = some ((true, L, L, [], [], I, I, [], [], [], [], [], [], [], [], O, O, [], [], [], []) : R29) := evv_eq (by
  have e26 : Evt (fun k => f29_26 L L [] [] I I [] [] [] [] [] [] [] [] O O [] [] [] [] k 0) ((true, L, L, [], [], I, I, [], [], [], [], [], [], [], [], O, O, [], [], [], []) : R29) := Evt.last fun k => by
    show b29_26 L L [] [] I I [] [] [] [] [] [] [] [] O O [] [] [] [] (f29_2 L L [] [] I I [] [] [] [] [] [] [] [] O O [] [] [] [] k) (f29_7 L L [] [] I I [] [] [] [] [] [] [] [] O O [] [] [] [] k) (f29_12 L L [] [] I I [] [] [] [] [] [] [] [] O O [] [] [] [] k) (f29_16 L L [] [] I I [] [] [] [] [] [] [] [] O O [] [] [] [] k) (f29_26 L L [] [] I I [] [] [] [] [] [] [] [] O O [] [] [] [] k) (f29_21 L L [] [] I I [] [] [] [] [] [] [] [] O O [] [] [] [] k) 0 = _
    unfold b29_26
    rfl
  have e12 : Evt (fun k => f29_12 L L [] [] I I [] [] [] [] [] [] [] [] O O [] [] [] [] k 0) ((true, L, L, [], [], I, I, [], [], [], [], [], [], [], [], O, O, [], [], [], []) : R29) := e26.step fun k => by
    show b29_12 L L [] [] I I [] [] [] [] [] [] [] [] O O [] [] [] [] (f29_2 L L [] [] I I [] [] [] [] [] [] [] [] O O [] [] [] [] k) (f29_7 L L [] [] I I [] [] [] [] [] [] [] [] O O [] [] [] [] k) (f29_12 L L [] [] I I [] [] [] [] [] [] [] [] O O [] [] [] [] k) (f29_16 L L [] [] I I [] [] [] [] [] [] [] [] O O [] [] [] [] k) (f29_26 L L [] [] I I [] [] [] [] [] [] [] [] O O [] [] [] [] k) (f29_21 L L [] [] I I [] [] [] [] [] [] [] [] O O [] [] [] [] k) 0 = _
    unfold b29_12
    rfl
  have e7 : Evt (fun k => f29_7 L L [] [] I I [] [] [] [] [] [] [] [] O O [] [] [] [] k 0) ((true, L, L, [], [], I, I, [], [], [], [], [], [], [], [], O, O, [], [], [], []) : R29) := by
    refine upLoop (n := O.length) (e12.step fun k => ?_) fun i k hi => ?_
    · show b29_7 L L [] [] I I [] [] [] [] [] [] [] [] O O [] [] [] [] (f29_2 L L [] [] I I [] [] [] [] [] [] [] [] O O [] [] [] [] k) (f29_7 L L [] [] I I [] [] [] [] [] [] [] [] O O [] [] [] [] k) (f29_12 L L [] [] I I [] [] [] [] [] [] [] [] O O [] [] [] [] k) (f29_16 L L [] [] I I [] [] [] [] [] [] [] [] O O [] [] [] [] k) (f29_26 L L [] [] I I [] [] [] [] [] [] [] [] O O [] [] [] [] k) (f29_21 L L [] [] I I [] [] [] [] [] [] [] [] O O [] [] [] [] k) (O.length : Int) = _
      unfold b29_7
      rw [cF (by omega)]
    · show b29_7 L L [] [] I I [] [] [] [] [] [] [] [] O O [] [] [] [] (f29_2 L L [] [] I I [] [] [] [] [] [] [] [] O O [] [] [] [] k) (f29_7 L L [] [] I I [] [] [] [] [] [] [] [] O O [] [] [] [] k) (f29_12 L L [] [] I I [] [] [] [] [] [] [] [] O O [] [] [] [] k) (f29_16 L L [] [] I I [] [] [] [] [] [] [] [] O O [] [] [] [] k) (f29_26 L L [] [] I I [] [] [] [] [] [] [] [] O O [] [] [] [] k) (f29_21 L L [] [] I I [] [] [] [] [] [] [] [] O O [] [] [] [] k) (i : Int) = _
      have eg : O.getD i (X.dflt 22) = O[i] := by
        have : O.getD i [] = O[i] := by rw [List.getD_eq_getElem?_getD, List.getElem?_eq_getElem hi]; rfl
        exact this
      obtain ⟨g1, g2⟩ := hO O[i] (List.getElem_mem hi)
      have s40 := same40 g2 g1
      unfold b29_7
      rw [up1 (by omega)]
      simp only [Int.toNat_natCast]
      simp (disch := omega) only [cT]
      have q : ∀ x : List OpT, x = O[i] → ((S40 0 x [] 0 x []).bind fun r0 => cond (!r0) (some ((false, L, L, [], [], I, I, [], [], [], [], [], [], [], [], O, O, [], [], [], []) : R29)) (f29_7 L L [] [] I I [] [] [] [] [] [] [] [] O O [] [] [] [] k ((i + 1 : Nat) : Int))) = f29_7 L L [] [] I I [] [] [] [] [] [] [] [] O O [] [] [] [] k ((i + 1 : Nat) : Int) := fun x hx => by
        subst hx
        rw [s40]; rfl
      exact q _ eg
  refine (e7.step (f := fun k => f29_2 L L [] [] I I [] [] [] [] [] [] [] [] O O [] [] [] [] k 0) fun k => ?_).same fun k => ?_
  · show b29_2 L L [] [] I I [] [] [] [] [] [] [] [] O O [] [] [] [] (f29_2 L L [] [] I I [] [] [] [] [] [] [] [] O O [] [] [] [] k) (f29_7 L L [] [] I I [] [] [] [] [] [] [] [] O O [] [] [] [] k) (f29_12 L L [] [] I I [] [] [] [] [] [] [] [] O O [] [] [] [] k) (f29_16 L L [] [] I I [] [] [] [] [] [] [] [] O O [] [] [] [] k) (f29_26 L L [] [] I I [] [] [] [] [] [] [] [] O O [] [] [] [] k) (f29_21 L L [] [] I I [] [] [] [] [] [] [] [] O O [] [] [] [] k) 0 = _
    unfold b29_2
    rfl
  · rfl)
theorem same9 (hL : ∀ x ∈ L, x.length ≤ 1099511627776) (hLl : L.length ≤ 1099511627776) (hI : ∀ x ∈ I, x.length ≤ 1099511627776) (hIl : I.length ≤ 1099511627776) (hO : ∀ o ∈ O, o.length ≤ 1099511627776 ∧ ∀ x ∈ o, OkOp x) (hl : O.length ≤ 1099511627776) : S9 L L [] [] I I [] [] [] [] [] [] [] [] O O [] [] [] [] = some ((true, L, L, [], [], I, I, [], [], [], [], [], [], [], [], O, O, [], [], [], []) : R9) := evv_eq (by
  have e27 : Evt (fun k => f9_27 L L [] [] I I [] [] [] [] [] [] [] [] O O [] [] [] [] k 0) ((true, L, L, [], [], I, I, [], [], [], [], [], [], [], [], O, O, [], [], [], []) : R9) := Evt.last fun k => by
    show b9_27 L L [] [] I I [] [] [] [] [] [] [] [] O O [] [] [] [] (f9_2 L L [] [] I I [] [] [] [] [] [] [] [] O O [] [] [] [] k) (f9_7 L L [] [] I I [] [] [] [] [] [] [] [] O O [] [] [] [] k) (f9_12 L L [] [] I I [] [] [] [] [] [] [] [] O O [] [] [] [] k) (f9_17 L L [] [] I I [] [] [] [] [] [] [] [] O O [] [] [] [] k) (f9_22 L L [] [] I I [] [] [] [] [] [] [] [] O O [] [] [] [] k) (f9_27 L L [] [] I I [] [] [] [] [] [] [] [] O O [] [] [] [] k) 0 = _
    unfold b9_27
    rw [cF (by decide), same29 hO hl]; rfl
  have e22 : Evt (fun k => f9_22 L L [] [] I I [] [] [] [] [] [] [] [] O O [] [] [] [] k 0) ((true, L, L, [], [], I, I, [], [], [], [], [], [], [], [], O, O, [], [], [], []) : R9) := e27.step fun k => by
    show b9_22 L L [] [] I I [] [] [] [] [] [] [] [] O O [] [] [] [] (f9_2 L L [] [] I I [] [] [] [] [] [] [] [] O O [] [] [] [] k) (f9_7 L L [] [] I I [] [] [] [] [] [] [] [] O O [] [] [] [] k) (f9_12 L L [] [] I I [] [] [] [] [] [] [] [] O O [] [] [] [] k) (f9_17 L L [] [] I I [] [] [] [] [] [] [] [] O O [] [] [] [] k) (f9_22 L L [] [] I I [] [] [] [] [] [] [] [] O O [] [] [] [] k) (f9_27 L L [] [] I I [] [] [] [] [] [] [] [] O O [] [] [] [] k) 0 = _
    unfold b9_22
    rfl
  have e17 : Evt (fun k => f9_17 L L [] [] I I [] [] [] [] [] [] [] [] O O [] [] [] [] k 0) ((true, L, L, [], [], I, I, [], [], [], [], [], [], [], [], O, O, [], [], [], []) : R9) := e22.step fun k => by
    show b9_17 L L [] [] I I [] [] [] [] [] [] [] [] O O [] [] [] [] (f9_2 L L [] [] I I [] [] [] [] [] [] [] [] O O [] [] [] [] k) (f9_7 L L [] [] I I [] [] [] [] [] [] [] [] O O [] [] [] [] k) (f9_12 L L [] [] I I [] [] [] [] [] [] [] [] O O [] [] [] [] k) (f9_17 L L [] [] I I [] [] [] [] [] [] [] [] O O [] [] [] [] k) (f9_22 L L [] [] I I [] [] [] [] [] [] [] [] O O [] [] [] [] k) (f9_27 L L [] [] I I [] [] [] [] [] [] [] [] O O [] [] [] [] k) 0 = _
    unfold b9_17
    rfl
  have e12 : Evt (fun k => f9_12 L L [] [] I I [] [] [] [] [] [] [] [] O O [] [] [] [] k 0) ((true, L, L, [], [], I, I, [], [], [], [], [], [], [], [], O, O, [], [], [], []) : R9) := by
    refine upLoop (n := I.length) (e17.step fun k => ?_) fun i k hi => ?_
    · show b9_12 L L [] [] I I [] [] [] [] [] [] [] [] O O [] [] [] [] (f9_2 L L [] [] I I [] [] [] [] [] [] [] [] O O [] [] [] [] k) (f9_7 L L [] [] I I [] [] [] [] [] [] [] [] O O [] [] [] [] k) (f9_12 L L [] [] I I [] [] [] [] [] [] [] [] O O [] [] [] [] k) (f9_17 L L [] [] I I [] [] [] [] [] [] [] [] O O [] [] [] [] k) (f9_22 L L [] [] I I [] [] [] [] [] [] [] [] O O [] [] [] [] k) (f9_27 L L [] [] I I [] [] [] [] [] [] [] [] O O [] [] [] [] k) (I.length : Int) = _
      unfold b9_12
      rw [cF (by omega)]
    · show b9_12 L L [] [] I I [] [] [] [] [] [] [] [] O O [] [] [] [] (f9_2 L L [] [] I I [] [] [] [] [] [] [] [] O O [] [] [] [] k) (f9_7 L L [] [] I I [] [] [] [] [] [] [] [] O O [] [] [] [] k) (f9_12 L L [] [] I I [] [] [] [] [] [] [] [] O O [] [] [] [] k) (f9_17 L L [] [] I I [] [] [] [] [] [] [] [] O O [] [] [] [] k) (f9_22 L L [] [] I I [] [] [] [] [] [] [] [] O O [] [] [] [] k) (f9_27 L L [] [] I I [] [] [] [] [] [] [] [] O O [] [] [] [] k) (i : Int) = _
      have eg : I.getD i (X.dflt 23) = I[i] := by
        have : I.getD i [] = I[i] := by rw [List.getD_eq_getElem?_getD, List.getElem?_eq_getElem hi]; rfl
        exact this
      have s23 := same23 (hI I[i] (List.getElem_mem hi))
      unfold b9_12
      rw [up1 (by omega)]
      simp only [Int.toNat_natCast]
      simp (disch := omega) only [cT]
      have q : ∀ x : List Int, x = I[i] → ((S23 x x).bind fun r0 => cond (!r0) (some ((false, L, L, [], [], I, I, [], [], [], [], [], [], [], [], O, O, [], [], [], []) : R9)) (f9_12 L L [] [] I I [] [] [] [] [] [] [] [] O O [] [] [] [] k ((i + 1 : Nat) : Int))) = f9_12 L L [] [] I I [] [] [] [] [] [] [] [] O O [] [] [] [] k ((i + 1 : Nat) : Int) := fun x hx => by
        subst hx
        rw [s23]; rfl
      exact q _ eg
  have e7 : Evt (fun k => f9_7 L L [] [] I I [] [] [] [] [] [] [] [] O O [] [] [] [] k 0) ((true, L, L, [], [], I, I, [], [], [], [], [], [], [], [], O, O, [], [], [], []) : R9) := e12.step fun k => by
    show b9_7 L L [] [] I I [] [] [] [] [] [] [] [] O O [] [] [] [] (f9_2 L L [] [] I I [] [] [] [] [] [] [] [] O O [] [] [] [] k) (f9_7 L L [] [] I I [] [] [] [] [] [] [] [] O O [] [] [] [] k) (f9_12 L L [] [] I I [] [] [] [] [] [] [] [] O O [] [] [] [] k) (f9_17 L L [] [] I I [] [] [] [] [] [] [] [] O O [] [] [] [] k) (f9_22 L L [] [] I I [] [] [] [] [] [] [] [] O O [] [] [] [] k) (f9_27 L L [] [] I I [] [] [] [] [] [] [] [] O O [] [] [] [] k) 0 = _
    unfold b9_7
    rfl
  refine (upLoop (f := fun k i => f9_2 L L [] [] I I [] [] [] [] [] [] [] [] O O [] [] [] [] k i) (n := L.length) (e7.step fun k => ?_) fun i k hi => ?_).same fun k => ?_
  · show b9_2 L L [] [] I I [] [] [] [] [] [] [] [] O O [] [] [] [] (f9_2 L L [] [] I I [] [] [] [] [] [] [] [] O O [] [] [] [] k) (f9_7 L L [] [] I I [] [] [] [] [] [] [] [] O O [] [] [] [] k) (f9_12 L L [] [] I I [] [] [] [] [] [] [] [] O O [] [] [] [] k) (f9_17 L L [] [] I I [] [] [] [] [] [] [] [] O O [] [] [] [] k) (f9_22 L L [] [] I I [] [] [] [] [] [] [] [] O O [] [] [] [] k) (f9_27 L L [] [] I I [] [] [] [] [] [] [] [] O O [] [] [] [] k) (L.length : Int) = _
    unfold b9_2
    rw [cF (by omega)]
  · show b9_2 L L [] [] I I [] [] [] [] [] [] [] [] O O [] [] [] [] (f9_2 L L [] [] I I [] [] [] [] [] [] [] [] O O [] [] [] [] k) (f9_7 L L [] [] I I [] [] [] [] [] [] [] [] O O [] [] [] [] k) (f9_12 L L [] [] I I [] [] [] [] [] [] [] [] O O [] [] [] [] k) (f9_17 L L [] [] I I [] [] [] [] [] [] [] [] O O [] [] [] [] k) (f9_22 L L [] [] I I [] [] [] [] [] [] [] [] O O [] [] [] [] k) (f9_27 L L [] [] I I [] [] [] [] [] [] [] [] O O [] [] [] [] k) (i : Int) = _
    have eg : L.getD i (X.dflt 62) = L[i] := by
      have : L.getD i [] = L[i] := by rw [List.getD_eq_getElem?_getD, List.getElem?_eq_getElem hi]; rfl
      exact this
    have s25 := same25 (hL L[i] (List.getElem_mem hi))
    unfold b9_2
    rw [up1 (by omega)]
    simp only [Int.toNat_natCast]
    simp (disch := omega) only [cT]
    have q : ∀ x : List Int, x = L[i] → ((S25 x x).bind fun r0 => cond (!r0) (some ((false, L, L, [], [], I, I, [], [], [], [], [], [], [], [], O, O, [], [], [], []) : R9)) (f9_2 L L [] [] I I [] [] [] [] [] [] [] [] O O [] [] [] [] k ((i + 1 : Nat) : Int))) = f9_2 L L [] [] I I [] [] [] [] [] [] [] [] O O [] [] [] [] k ((i + 1 : Nat) : Int) := fun x hx => by
      subst hx
      rw [s25]; rfl
    exact q _ eg
  · rfl)
end
end Go.Abs.Z
namespace Go.Abs.Z
open Go Go.Abs Go.Proofs
noncomputable section
abbrev R13 : Type := Int × Int × (List TOp) × TI × (List (ByteArray)) × (List TFn) × (List TLt) × TI × (List TNd)
noncomputable def body13 : Go.Code := (Tryd.f13.body).getD Go.Code.skip
def h13 (p0 : Int) (p1 : List TOp) (p2 : TI) (p3 : List (ByteArray)) (p4 : List TFn) (p5 : List TLt) (p6 : TI) (p7 : List TNd) (p8 : Int) (p9 : ByteArray) (p10 : Bool) (p11 p12 : TI) (p13 : Int) (p14 : TI) : List (AO U) := [.box [.int .i64 p0, .imm 67 p1, .imm 3 p2, .row 1 9, .row 2 86, .row 3 75, .row 4 3, .row 5 73], .row 9 p3, .row 86 p4, .row 75 p5, .row 3 p6, .row 73 p7]
def k13 : AV U → List (AO U) → Option R13 := fun v h => match v, h with | AV.int IntKind.i64 x0, [AO.box [AV.int IntKind.i64 x1, AV.imm 67 x2, AV.imm 3 x3, AV.row 1 9, AV.row 2 86, AV.row 3 75, AV.row 4 3, AV.row 6 73], AO.row 9 x4, AO.row 86 x5, AO.row 75 x6, AO.row 3 x7, AO.dead, AO.row 73 x8] => some (x0, x1, x2, x3, x4, x5, x6, x7, x8) | _, _ => none
def out13 : R13 → AV U := fun (x0, x1, x2, x3, x4, x5, x6, x7, x8) => AV.int IntKind.i64 x0
def outh13 : R13 → List (AO U) := fun (x0, x1, x2, x3, x4, x5, x6, x7, x8) => [AO.box [AV.int IntKind.i64 x1, AV.imm 67 x2, AV.imm 3 x3, AV.row 1 9, AV.row 2 86, AV.row 3 75, AV.row 4 3, AV.row 6 73], AO.row 9 x4, AO.row 86 x5, AO.row 75 x6, AO.row 3 x7, AO.dead, AO.row 73 x8]
def D13 : Nat → Dir := dirs []
def b13 (p0 : Int) (p1 : List TOp) (p2 : TI) (p3 : List (ByteArray)) (p4 : List TFn) (p5 : List TLt) (p6 : TI) (p7 : List TNd) (p8 : Int) (p9 : ByteArray) (p10 : Bool) (p11 p12 : TI) (p13 : Int) (p14 : TI)   : Option R13 :=
  cond (decide ((p7.length + 1) * 112 ≤ 140737488355328))
  (some ((IntKind.i64.wrap ((↑(p7 ++ [(p8, p9, p10, p11, p12, p13, p14)]).length : Int) - 1), p0, p1, p2, p3, p4, p5, p6, p7 ++ [(p8, p9, p10, p11, p12, p13, p14)])))
  (none)
theorem hk13 : ∀ v h' r, k13 v h' = some r → v = out13 r ∧ h' = outh13 r := by
  intro v h' r h
  unfold k13 at h
  split at h
  · injection h with h; subst h; exact ⟨rfl, rfl⟩
  · cases h
abbrev q13 : Prim U R13 := prims X []
theorem s13 (c : Nat → S U → Option R13) (p0 : Int) (p1 : List TOp) (p2 : TI) (p3 : List (ByteArray)) (p4 : List TFn) (p5 : List TLt) (p6 : TI) (p7 : List TNd) (p8 : Int) (p9 : ByteArray) (p10 : Bool) (p11 p12 : TI) (p13 : Int) (p14 : TI) : seg TP X q13 [] (fun q st => c q (keepD D13 (h13 p0 p1 p2 p3 p4 p5 p6 p7 p8 p9 p10 p11 p12 p13 p14).length q st)) body13 (finH TP Tryd.f13.results.toList (h13 p0 p1 p2 p3 p4 p5 p6 p7 p8 p9 p10 p11 p12 p13 p14).length false k13) (start [.ptr 0 0, .agg [.int .i64 p8, .str p9, .bool p10, .imm 99 p11, .imm 99 p12, .int .i64 p13, .imm 3 p14]] Tryd.f13.ntmps (h13 p0 p1 p2 p3 p4 p5 p6 p7 p8 p9 p10 p11 p12 p13 p14)) = b13 p0 p1 p2 p3 p4 p5 p6 p7 p8 p9 p10 p11 p12 p13 p14  := by kernel_rfl
def f13 (_ : Nat) (p0 : Int) (p1 : List TOp) (p2 : TI) (p3 : List (ByteArray)) (p4 : List TFn) (p5 : List TLt) (p6 : TI) (p7 : List TNd) (p8 : Int) (p9 : ByteArray) (p10 : Bool) (p11 p12 : TI) (p13 : Int) (p14 : TI) : Option R13 := b13 p0 p1 p2 p3 p4 p5 p6 p7 p8 p9 p10 p11 p12 p13 p14
theorem pure13 (p0 : Int) (p1 : List TOp) (p2 : TI) (p3 : List (ByteArray)) (p4 : List TFn) (p5 : List TLt) (p6 : TI) (p7 : List TNd) (p8 : Int) (p9 : ByteArray) (p10 : Bool) (p11 p12 : TI) (p13 : Int) (p14 : TI) (pok : PrmOK TP X q13) (k : Nat) (r : R13) (h : f13 k p0 p1 p2 p3 p4 p5 p6 p7 p8 p9 p10 p11 p12 p13 p14 = some r) : PureH TP X 13 [.ptr 0 0, .agg [.int .i64 p8, .str p9, .bool p10, .imm 99 p11, .imm 99 p12, .int .i64 p13, .imm 3 p14]] (h13 p0 p1 p2 p3 p4 p5 p6 p7 p8 p9 p10 p11 p12 p13 p14) (out13 r) (outh13 r) :=
  pure_gen good 0 (fn := Tryd.f13) (body := body13) (prim := q13) (D := D13) (cuts := []) (h := h13 p0 p1 p2 p3 p4 p5 p6 p7 p8 p9 p10 p11 p12 p13 p14) (own := false) (by kernel_rfl) (by kernel_rfl) (by decide +kernel) pok hk13 (by
    rw [s13]
    exact h)
def F13 {R : Type} (spec : (Int) → (List TOp) → TI → (List (ByteArray)) → (List TFn) → (List TLt) → TI → (List TNd) → Int → (ByteArray) → (Bool) → TI → TI → Int → TI → Option R13) : Fn U R := fun args h k => match args, h with | [.ptr 0 0, .agg [.int .i64 p8, .str p9, .bool p10, .imm 99 p11, .imm 99 p12, .int .i64 p13, .imm 3 p14]], [.box [.int .i64 p0, .imm 67 p1, .imm 3 p2, .row 1 9, .row 2 86, .row 3 75, .row 4 3, .row 5 73], .row 9 p3, .row 86 p4, .row 75 p5, .row 3 p6, .row 73 p7] => (spec p0 p1 p2 p3 p4 p5 p6 p7 p8 p9 p10 p11 p12 p13 p14).bind fun r => k (out13 r) (outh13 r) | _, _ => none
theorem ok13 {R : Type} (spec : (Int) → (List TOp) → TI → (List (ByteArray)) → (List TFn) → (List TLt) → TI → (List TNd) → Int → (ByteArray) → (Bool) → TI → TI → Int → TI → Option R13) (hp : ∀ (p0 : Int) (p1 : List TOp) (p2 : TI) (p3 : List (ByteArray)) (p4 : List TFn) (p5 : List TLt) (p6 : TI) (p7 : List TNd) (p8 : Int) (p9 : ByteArray) (p10 : Bool) (p11 : TI) (p12 : TI) (p13 : Int) (p14 : TI) (r : R13), spec p0 p1 p2 p3 p4 p5 p6 p7 p8 p9 p10 p11 p12 p13 p14 = some r → PureH TP X 13 [.ptr 0 0, .agg [.int .i64 p8, .str p9, .bool p10, .imm 99 p11, .imm 99 p12, .int .i64 p13, .imm 3 p14]] (h13 p0 p1 p2 p3 p4 p5 p6 p7 p8 p9 p10 p11 p12 p13 p14) (out13 r) (outh13 r)) : FnOK TP X 13 (F13 spec : Fn U R) := by
  intro args h k r hh
  unfold F13 at hh
  split at hh
  · obtain ⟨x, h1, h2⟩ := Option.bind_eq_some_iff.1 hh
    exact ⟨_, _, h2, hp _ _ _ _ _ _ _ _ _ _ _ _ _ _ _ _ h1⟩
  · cases hh
theorem pok13 : PrmOK TP X q13 := prims_nil TP X mixed
noncomputable def S13 (p0 : Int) (p1 : List TOp) (p2 : TI) (p3 : List (ByteArray)) (p4 : List TFn) (p5 : List TLt) (p6 : TI) (p7 : List TNd) (p8 : Int) (p9 : ByteArray) (p10 : Bool) (p11 p12 : TI) (p13 : Int) (p14 : TI) : Option R13 := evv fun k => f13 k p0 p1 p2 p3 p4 p5 p6 p7 p8 p9 p10 p11 p12 p13 p14
theorem okS13 {R : Type} : FnOK TP X 13 (F13 S13 : Fn U R) := ok13 S13 fun p0 p1 p2 p3 p4 p5 p6 p7 p8 p9 p10 p11 p12 p13 p14 r h => by
  obtain ⟨k, hk⟩ := evv_fuel h
  exact pure13 p0 p1 p2 p3 p4 p5 p6 p7 p8 p9 p10 p11 p12 p13 p14 pok13 k r hk
end
end Go.Abs.Z
namespace Go.Abs.Z
open Go Go.Abs Go.Proofs
noncomputable section
abbrev R12 : Type := Int × Int × (List TOp) × TI × (List (ByteArray)) × (List TFn) × (List TLt) × TI × (List TNd)
noncomputable def body12 : Go.Code := (Tryd.f12.body).getD Go.Code.skip
def h12 (p0 : Int) (p1 : List TOp) (p2 : TI) (p3 : List (ByteArray)) (p4 : List TFn) (p5 : List TLt) (p6 : TI) (p7 : List TNd) (p8 : Int) : List (AO U) := [.box [.int .i64 p0, .imm 67 p1, .imm 3 p2, .row 1 9, .row 2 86, .row 3 75, .row 4 3, .row 5 73], .row 9 p3, .row 86 p4, .row 75 p5, .row 3 p6, .row 73 p7]
def k12 : AV U → List (AO U) → Option R12 := fun v h => match v, h with | AV.int IntKind.i64 x0, [AO.box [AV.int IntKind.i64 x1, AV.imm 67 x2, AV.imm 3 x3, AV.row 1 9, AV.row 2 86, AV.row 3 75, AV.row 4 3, AV.row 6 73], AO.row 9 x4, AO.row 86 x5, AO.row 75 x6, AO.row 3 x7, AO.dead, AO.row 73 x8] => some (x0, x1, x2, x3, x4, x5, x6, x7, x8) | _, _ => none
def out12 : R12 → AV U := fun (x0, x1, x2, x3, x4, x5, x6, x7, x8) => AV.int IntKind.i64 x0
def outh12 : R12 → List (AO U) := fun (x0, x1, x2, x3, x4, x5, x6, x7, x8) => [AO.box [AV.int IntKind.i64 x1, AV.imm 67 x2, AV.imm 3 x3, AV.row 1 9, AV.row 2 86, AV.row 3 75, AV.row 4 3, AV.row 6 73], AO.row 9 x4, AO.row 86 x5, AO.row 75 x6, AO.row 3 x7, AO.dead, AO.row 73 x8]
def D12 : Nat → Dir := dirs []
def b12 (p0 : Int) (p1 : List TOp) (p2 : TI) (p3 : List (ByteArray)) (p4 : List TFn) (p5 : List TLt) (p6 : TI) (p7 : List TNd) (p8 : Int)   : Option R12 :=
  cond (decide (0 ≤ p8))
  (cond (decide (p8 < (↑p1.length : Int)))
  (cond (decide (p8.toNat < p1.length))
  (cond ((p1.getD p8.toNat (X.dflt 67)).fst == 2)
  ((S32 (p1.getD p8.toNat (X.dflt 67)).snd.snd.snd.snd.fst (p1.getD p8.toNat (X.dflt 67)).snd.snd.snd.snd.snd.fst (p1.getD p8.toNat (X.dflt 67)).snd.snd.snd.snd.snd.snd).bind fun r0 =>
  (S13 p0 p1 p2 p3 p4 p5 p6 p7 1 (ByteArray.mk #[]) r0.fst r0.snd.fst r0.snd.snd 0 []).bind fun r1 =>
  some ((r1.fst, r1.snd.fst, r1.snd.snd.fst, r1.snd.snd.snd.fst, r1.snd.snd.snd.snd.fst, r1.snd.snd.snd.snd.snd.fst, r1.snd.snd.snd.snd.snd.snd.fst, r1.snd.snd.snd.snd.snd.snd.snd.fst, r1.snd.snd.snd.snd.snd.snd.snd.snd)))
  (cond ((p1.getD p8.toNat (X.dflt 67)).fst == 1)
  ((S11 (p1.getD p8.toNat (X.dflt 67)).snd.fst).bind fun r2 =>
  cond (decide ((ByteArray.mk #[120]).size + ByteArray.size r2 ≤ 4611686018427387904))
  ((S13 p0 p1 p2 p3 p4 p5 p6 p7 2 (ByteArray.mk #[120] ++ r2) false [] [] 0 []).bind fun r3 =>
  some ((r3.fst, r3.snd.fst, r3.snd.snd.fst, r3.snd.snd.snd.fst, r3.snd.snd.snd.snd.fst, r3.snd.snd.snd.snd.snd.fst, r3.snd.snd.snd.snd.snd.snd.fst, r3.snd.snd.snd.snd.snd.snd.snd.fst, r3.snd.snd.snd.snd.snd.snd.snd.snd)))
  (none))
  ((S11 p8).bind fun r4 =>
  cond (decide ((ByteArray.mk #[110]).size + ByteArray.size r4 ≤ 4611686018427387904))
  ((S13 p0 p1 p2 p3 p4 p5 p6 p7 2 (ByteArray.mk #[110] ++ r4) false [] [] 0 []).bind fun r5 =>
  some ((r5.fst, r5.snd.fst, r5.snd.snd.fst, r5.snd.snd.snd.fst, r5.snd.snd.snd.snd.fst, r5.snd.snd.snd.snd.snd.fst, r5.snd.snd.snd.snd.snd.snd.fst, r5.snd.snd.snd.snd.snd.snd.snd.fst, r5.snd.snd.snd.snd.snd.snd.snd.snd)))
  (none))))
  (none))
  (none))
  (none)
theorem hk12 : ∀ v h' r, k12 v h' = some r → v = out12 r ∧ h' = outh12 r := by
  intro v h' r h
  unfold k12 at h
  split at h
  · injection h with h; subst h; exact ⟨rfl, rfl⟩
  · cases h
abbrev q12 : Prim U R12 := prims X [⟨32, fun _ => true, [.lend], F32 S32⟩, ⟨13, fun _ => true, [.hand, .frz], F13 S13⟩, ⟨11, fun _ => true, [.lend], F11 S11⟩]
theorem s12 (c : Nat → S U → Option R12) (p0 : Int) (p1 : List TOp) (p2 : TI) (p3 : List (ByteArray)) (p4 : List TFn) (p5 : List TLt) (p6 : TI) (p7 : List TNd) (p8 : Int) : seg TP X q12 [] (fun q st => c q (keepD D12 (h12 p0 p1 p2 p3 p4 p5 p6 p7 p8).length q st)) body12 (finH TP Tryd.f12.results.toList (h12 p0 p1 p2 p3 p4 p5 p6 p7 p8).length false k12) (start [.ptr 0 0, .int .i64 p8] Tryd.f12.ntmps (h12 p0 p1 p2 p3 p4 p5 p6 p7 p8)) = b12 p0 p1 p2 p3 p4 p5 p6 p7 p8  := by kernel_rfl
def f12 (_ : Nat) (p0 : Int) (p1 : List TOp) (p2 : TI) (p3 : List (ByteArray)) (p4 : List TFn) (p5 : List TLt) (p6 : TI) (p7 : List TNd) (p8 : Int) : Option R12 := b12 p0 p1 p2 p3 p4 p5 p6 p7 p8
theorem pure12 (p0 : Int) (p1 : List TOp) (p2 : TI) (p3 : List (ByteArray)) (p4 : List TFn) (p5 : List TLt) (p6 : TI) (p7 : List TNd) (p8 : Int) (pok : PrmOK TP X q12) (k : Nat) (r : R12) (h : f12 k p0 p1 p2 p3 p4 p5 p6 p7 p8 = some r) : PureH TP X 12 [.ptr 0 0, .int .i64 p8] (h12 p0 p1 p2 p3 p4 p5 p6 p7 p8) (out12 r) (outh12 r) :=
  pure_gen good 0 (fn := Tryd.f12) (body := body12) (prim := q12) (D := D12) (cuts := []) (h := h12 p0 p1 p2 p3 p4 p5 p6 p7 p8) (own := false) (by kernel_rfl) (by kernel_rfl) (by decide +kernel) pok hk12 (by
    rw [s12]
    exact h)
def F12 {R : Type} (spec : (Int) → (List TOp) → TI → (List (ByteArray)) → (List TFn) → (List TLt) → TI → (List TNd) → Int → Option R12) : Fn U R := fun args h k => match args, h with | [.ptr 0 0, .int .i64 p8], [.box [.int .i64 p0, .imm 67 p1, .imm 3 p2, .row 1 9, .row 2 86, .row 3 75, .row 4 3, .row 5 73], .row 9 p3, .row 86 p4, .row 75 p5, .row 3 p6, .row 73 p7] => (spec p0 p1 p2 p3 p4 p5 p6 p7 p8).bind fun r => k (out12 r) (outh12 r) | _, _ => none
theorem ok12 {R : Type} (spec : (Int) → (List TOp) → TI → (List (ByteArray)) → (List TFn) → (List TLt) → TI → (List TNd) → Int → Option R12) (hp : ∀ (p0 : Int) (p1 : List TOp) (p2 : TI) (p3 : List (ByteArray)) (p4 : List TFn) (p5 : List TLt) (p6 : TI) (p7 : List TNd) (p8 : Int) (r : R12), spec p0 p1 p2 p3 p4 p5 p6 p7 p8 = some r → PureH TP X 12 [.ptr 0 0, .int .i64 p8] (h12 p0 p1 p2 p3 p4 p5 p6 p7 p8) (out12 r) (outh12 r)) : FnOK TP X 12 (F12 spec : Fn U R) := by
  intro args h k r hh
  unfold F12 at hh
  split at hh
  · obtain ⟨x, h1, h2⟩ := Option.bind_eq_some_iff.1 hh
    exact ⟨_, _, h2, hp _ _ _ _ _ _ _ _ _ _ h1⟩
  · cases hh
theorem pok12 : PrmOK TP X q12 := prims_cons good okS32 (prims_cons good okS13 (prims_cons good okS11 (prims_nil TP X mixed)))
noncomputable def S12 (p0 : Int) (p1 : List TOp) (p2 : TI) (p3 : List (ByteArray)) (p4 : List TFn) (p5 : List TLt) (p6 : TI) (p7 : List TNd) (p8 : Int) : Option R12 := evv fun k => f12 k p0 p1 p2 p3 p4 p5 p6 p7 p8
theorem okS12 {R : Type} : FnOK TP X 12 (F12 S12 : Fn U R) := ok12 S12 fun p0 p1 p2 p3 p4 p5 p6 p7 p8 r h => by
  obtain ⟨k, hk⟩ := evv_fuel h
  exact pure12 p0 p1 p2 p3 p4 p5 p6 p7 p8 pok12 k r hk
end
end Go.Abs.Z
