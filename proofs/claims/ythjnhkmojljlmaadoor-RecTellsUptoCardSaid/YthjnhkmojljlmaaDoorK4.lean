/- Parts of the proof: PA, Pf79, Pf80, Pf61, Pf49, MG2, MG3, MG4, PM4, MF, MG5, PE, Pf36, Pf17, PD, Pf30, Pf10, MD1, PI, Pf20, Pf19, MD2, Pf6, MD3, Pf24. -/
import Derived.Test.YthjnhkmojljlmaaDoorK3
import Derived.Shelf.Strconv.Itoa3
import Derived.Shelf.LaysM
import Derived.Lib.AppendIntMem
set_option linter.unusedVariables false
namespace Go.Abs.Z
open Go Go.Abs Go.Proofs
noncomputable section
abbrev R25 : Type := (Bool)
noncomputable def body25 : Go.Code := (Tryd.f25.body).getD Go.Code.skip
def h25 (p0 p1 : TI) : List (AO U) := []
def k25 : AV U → List (AO U) → Option R25 := fun v h => match v, h with | AV.bool x0, [] => some x0 | _, _ => none
def out25 : R25 → AV U := fun x0 => AV.bool x0
def outh25 : R25 → List (AO U) := fun x0 => []
def D25 : Nat → Dir := dirs [(4, ⟨[0, 1, 5], [], [], []⟩)]
def b25 (p0 p1 : TI) (c4 : (Int) → Option R25)  : Option R25 :=
  cond ((↑p0.length : Int) != (↑p1.length : Int))
  (some (false))
  (c4 (0))
def m25_4 (p0 p1 : TI) (v2 : Int) : S U := S.mk [AV.imm 99 p0, AV.imm 99 p1, AV.undef, AV.undef, AV.undef, AV.int IntKind.i64 v2, AV.undef, AV.undef, AV.undef, AV.undef, AV.undef, AV.undef, AV.undef, AV.undef, AV.undef, AV.undef, AV.undef, AV.undef, AV.undef, AV.undef, AV.undef, AV.undef, AV.undef, AV.undef, AV.undef, AV.undef] []
def b25_4 (p0 p1 : TI) (c4 : (Int) → Option R25) (v2 : Int) : Option R25 :=
  cond (decide (v2 < (↑p0.length : Int)))
  (cond (decide (0 ≤ v2))
  (cond (decide (v2 < (↑p0.length : Int)))
  (cond (decide (v2.toNat < p0.length))
  (cond (decide (0 ≤ v2))
  (cond (decide (v2 < (↑p1.length : Int)))
  (cond (decide (v2.toNat < p1.length))
  (cond (p0.getD v2.toNat (X.dflt 99) != p1.getD v2.toNat (X.dflt 99))
  (some (false))
  (c4 (IntKind.i64.wrap (v2 + 1))))
  (none))
  (none))
  (none))
  (none))
  (none))
  (none))
  (some (true))
theorem hk25 : ∀ v h' r, k25 v h' = some r → v = out25 r ∧ h' = outh25 r := by
  intro v h' r h
  unfold k25 at h
  split at h
  · injection h with h; subst h; exact ⟨rfl, rfl⟩
  · cases h
abbrev q25 : Prim U R25 := prims X []
theorem s25 (c : Nat → S U → Option R25) (p0 p1 : TI) : seg TP X q25 [4] (fun q st => c q (keepD D25 (h25 p0 p1).length q st)) body25 (finH TP Tryd.f25.results.toList (h25 p0 p1).length false k25) (start [.imm 99 p0, .imm 99 p1] Tryd.f25.ntmps (h25 p0 p1)) = b25 p0 p1 (fun v2 => c 4 (m25_4 p0 p1 v2)) := by kernel_rfl
theorem s25_4 (c : Nat → S U → Option R25) (p0 p1 : TI) (v2 : Int) : res TP X q25 [4] (fun q st => c q (keepD D25 (h25 p0 p1).length q st)) 4 body25 (finH TP Tryd.f25.results.toList (h25 p0 p1).length false k25) (m25_4 p0 p1 v2) = b25_4 p0 p1 (fun v2 => c 4 (m25_4 p0 p1 v2)) v2 := by kernel_rfl
def f25_4 (p0 p1 : TI) : Nat → Int → Option R25
  | 0 => fun _ => none
  | k + 1 => b25_4 p0 p1 (f25_4 p0 p1 k)
def f25 (k : Nat) (p0 p1 : TI) : Option R25 := b25 p0 p1 (f25_4 p0 p1 k)
theorem e25 (p0 p1 : TI) : ∀ k, ((fun v2 => cutG TP X q25 [4] D25 (h25 p0 p1).length body25 (finH TP Tryd.f25.results.toList (h25 p0 p1).length false k25) k 4 (m25_4 p0 p1 v2)) = f25_4 p0 p1 k)
  | 0 => rfl
  | k + 1 => by
    have ih := e25 p0 p1 k
    · funext v2
      refine (if_pos (by kernel_rfl)).trans ?_
      rw [s25_4]
      simp only [ih]
      rfl
theorem pure25 (p0 p1 : TI) (pok : PrmOK TP X q25) (k : Nat) (r : R25) (h : f25 k p0 p1 = some r) : PureH TP X 25 [.imm 99 p0, .imm 99 p1] (h25 p0 p1) (out25 r) (outh25 r) :=
  pure_gen good k (fn := Tryd.f25) (body := body25) (prim := q25) (D := D25) (cuts := [4]) (h := h25 p0 p1) (own := false) (by kernel_rfl) (by kernel_rfl) (by decide +kernel) pok hk25 (by
    rw [s25]
    have ih := e25 p0 p1 k
    simp only [ih]
    exact h)
def F25 {R : Type} (spec : TI → TI → Option R25) : Fn U R := fun args h k => match args, h with | [.imm 99 p0, .imm 99 p1], [] => (spec p0 p1).bind fun r => k (out25 r) (outh25 r) | _, _ => none
theorem ok25 {R : Type} (spec : TI → TI → Option R25) (hp : ∀ (p0 : TI) (p1 : TI) (r : R25), spec p0 p1 = some r → PureH TP X 25 [.imm 99 p0, .imm 99 p1] (h25 p0 p1) (out25 r) (outh25 r)) : FnOK TP X 25 (F25 spec : Fn U R) := by
  intro args h k r hh
  unfold F25 at hh
  split at hh
  · obtain ⟨x, h1, h2⟩ := Option.bind_eq_some_iff.1 hh
    exact ⟨_, _, h2, hp _ _ _ h1⟩
  · cases hh
theorem pok25 : PrmOK TP X q25 := prims_nil TP X mixed
noncomputable def S25 (p0 p1 : TI) : Option R25 := evv fun k => f25 k p0 p1
theorem okS25 {R : Type} : FnOK TP X 25 (F25 S25 : Fn U R) := ok25 S25 fun p0 p1 r h => by
  obtain ⟨k, hk⟩ := evv_fuel h
  exact pure25 p0 p1 pok25 k r hk
abbrev R26 : Type := (Bool)
noncomputable def body26 : Go.Code := (Tryd.f26.body).getD Go.Code.skip
def h26 (p0 p1 : TI) : List (AO U) := []
def k26 : AV U → List (AO U) → Option R26 := fun v h => match v, h with | AV.bool x0, [] => some x0 | _, _ => none
def out26 : R26 → AV U := fun x0 => AV.bool x0
def outh26 : R26 → List (AO U) := fun x0 => []
def D26 : Nat → Dir := dirs [(4, ⟨[0, 1, 5], [], [], []⟩)]
def b26 (p0 p1 : TI) (c4 : (Int) → Option R26)  : Option R26 :=
  cond ((↑p0.length : Int) != (↑p1.length : Int))
  (some (false))
  (c4 (0))
def m26_4 (p0 p1 : TI) (v2 : Int) : S U := S.mk [AV.imm 100 p0, AV.imm 100 p1, AV.undef, AV.undef, AV.undef, AV.int IntKind.i64 v2, AV.undef, AV.undef, AV.undef, AV.undef, AV.undef, AV.undef, AV.undef, AV.undef, AV.undef, AV.undef, AV.undef, AV.undef, AV.undef, AV.undef, AV.undef, AV.undef, AV.undef, AV.undef, AV.undef, AV.undef] []
def b26_4 (p0 p1 : TI) (c4 : (Int) → Option R26) (v2 : Int) : Option R26 :=
  cond (decide (v2 < (↑p0.length : Int)))
  (cond (decide (0 ≤ v2))
  (cond (decide (v2 < (↑p0.length : Int)))
  (cond (decide (v2.toNat < p0.length))
  (cond (decide (0 ≤ v2))
  (cond (decide (v2 < (↑p1.length : Int)))
  (cond (decide (v2.toNat < p1.length))
  (cond (p0.getD v2.toNat (X.dflt 100) != p1.getD v2.toNat (X.dflt 100))
  (some (false))
  (c4 (IntKind.i64.wrap (v2 + 1))))
  (none))
  (none))
  (none))
  (none))
  (none))
  (none))
  (some (true))
theorem hk26 : ∀ v h' r, k26 v h' = some r → v = out26 r ∧ h' = outh26 r := by
  intro v h' r h
  unfold k26 at h
  split at h
  · injection h with h; subst h; exact ⟨rfl, rfl⟩
  · cases h
abbrev q26 : Prim U R26 := prims X []
theorem s26 (c : Nat → S U → Option R26) (p0 p1 : TI) : seg TP X q26 [4] (fun q st => c q (keepD D26 (h26 p0 p1).length q st)) body26 (finH TP Tryd.f26.results.toList (h26 p0 p1).length false k26) (start [.imm 100 p0, .imm 100 p1] Tryd.f26.ntmps (h26 p0 p1)) = b26 p0 p1 (fun v2 => c 4 (m26_4 p0 p1 v2)) := by kernel_rfl
theorem s26_4 (c : Nat → S U → Option R26) (p0 p1 : TI) (v2 : Int) : res TP X q26 [4] (fun q st => c q (keepD D26 (h26 p0 p1).length q st)) 4 body26 (finH TP Tryd.f26.results.toList (h26 p0 p1).length false k26) (m26_4 p0 p1 v2) = b26_4 p0 p1 (fun v2 => c 4 (m26_4 p0 p1 v2)) v2 := by kernel_rfl
def f26_4 (p0 p1 : TI) : Nat → Int → Option R26
  | 0 => fun _ => none
  | k + 1 => b26_4 p0 p1 (f26_4 p0 p1 k)
def f26 (k : Nat) (p0 p1 : TI) : Option R26 := b26 p0 p1 (f26_4 p0 p1 k)
theorem e26 (p0 p1 : TI) : ∀ k, ((fun v2 => cutG TP X q26 [4] D26 (h26 p0 p1).length body26 (finH TP Tryd.f26.results.toList (h26 p0 p1).length false k26) k 4 (m26_4 p0 p1 v2)) = f26_4 p0 p1 k)
  | 0 => rfl
  | k + 1 => by
    have ih := e26 p0 p1 k
    · funext v2
      refine (if_pos (by kernel_rfl)).trans ?_
      rw [s26_4]
      simp only [ih]
      rfl
theorem pure26 (p0 p1 : TI) (pok : PrmOK TP X q26) (k : Nat) (r : R26) (h : f26 k p0 p1 = some r) : PureH TP X 26 [.imm 100 p0, .imm 100 p1] (h26 p0 p1) (out26 r) (outh26 r) :=
  pure_gen good k (fn := Tryd.f26) (body := body26) (prim := q26) (D := D26) (cuts := [4]) (h := h26 p0 p1) (own := false) (by kernel_rfl) (by kernel_rfl) (by decide +kernel) pok hk26 (by
    rw [s26]
    have ih := e26 p0 p1 k
    simp only [ih]
    exact h)
def F26 {R : Type} (spec : TI → TI → Option R26) : Fn U R := fun args h k => match args, h with | [.imm 100 p0, .imm 100 p1], [] => (spec p0 p1).bind fun r => k (out26 r) (outh26 r) | _, _ => none
theorem ok26 {R : Type} (spec : TI → TI → Option R26) (hp : ∀ (p0 : TI) (p1 : TI) (r : R26), spec p0 p1 = some r → PureH TP X 26 [.imm 100 p0, .imm 100 p1] (h26 p0 p1) (out26 r) (outh26 r)) : FnOK TP X 26 (F26 spec : Fn U R) := by
  intro args h k r hh
  unfold F26 at hh
  split at hh
  · obtain ⟨x, h1, h2⟩ := Option.bind_eq_some_iff.1 hh
    exact ⟨_, _, h2, hp _ _ _ h1⟩
  · cases hh
theorem pok26 : PrmOK TP X q26 := prims_nil TP X mixed
noncomputable def S26 (p0 p1 : TI) : Option R26 := evv fun k => f26 k p0 p1
theorem okS26 {R : Type} : FnOK TP X 26 (F26 S26 : Fn U R) := ok26 S26 fun p0 p1 r h => by
  obtain ⟨k, hk⟩ := evv_fuel h
  exact pure26 p0 p1 pok26 k r hk
abbrev R23 : Type := (Bool)
noncomputable def body23 : Go.Code := (Tryd.f23.body).getD Go.Code.skip
def h23 (p0 p1 : TI) : List (AO U) := []
def k23 : AV U → List (AO U) → Option R23 := fun v h => match v, h with | AV.bool x0, [] => some x0 | _, _ => none
def out23 : R23 → AV U := fun x0 => AV.bool x0
def outh23 : R23 → List (AO U) := fun x0 => []
def D23 : Nat → Dir := dirs [(4, ⟨[0, 1, 5], [], [], []⟩)]
def b23 (p0 p1 : TI) (c4 : (Int) → Option R23)  : Option R23 :=
  cond ((↑p0.length : Int) != (↑p1.length : Int))
  (some (false))
  (c4 (0))
def m23_4 (p0 p1 : TI) (v2 : Int) : S U := S.mk [AV.imm 3 p0, AV.imm 3 p1, AV.undef, AV.undef, AV.undef, AV.int IntKind.i64 v2, AV.undef, AV.undef, AV.undef, AV.undef, AV.undef, AV.undef, AV.undef, AV.undef, AV.undef, AV.undef, AV.undef, AV.undef, AV.undef, AV.undef, AV.undef, AV.undef, AV.undef, AV.undef, AV.undef, AV.undef] []
def b23_4 (p0 p1 : TI) (c4 : (Int) → Option R23) (v2 : Int) : Option R23 :=
  cond (decide (v2 < (↑p0.length : Int)))
  (cond (decide (0 ≤ v2))
  (cond (decide (v2 < (↑p0.length : Int)))
  (cond (decide (v2.toNat < p0.length))
  (cond (decide (0 ≤ v2))
  (cond (decide (v2 < (↑p1.length : Int)))
  (cond (decide (v2.toNat < p1.length))
  (cond (p0.getD v2.toNat (X.dflt 3) != p1.getD v2.toNat (X.dflt 3))
  (some (false))
  (c4 (IntKind.i64.wrap (v2 + 1))))
  (none))
  (none))
  (none))
  (none))
  (none))
  (none))
  (some (true))
theorem hk23 : ∀ v h' r, k23 v h' = some r → v = out23 r ∧ h' = outh23 r := by
  intro v h' r h
  unfold k23 at h
  split at h
  · injection h with h; subst h; exact ⟨rfl, rfl⟩
  · cases h
abbrev q23 : Prim U R23 := prims X []
theorem s23 (c : Nat → S U → Option R23) (p0 p1 : TI) : seg TP X q23 [4] (fun q st => c q (keepD D23 (h23 p0 p1).length q st)) body23 (finH TP Tryd.f23.results.toList (h23 p0 p1).length false k23) (start [.imm 3 p0, .imm 3 p1] Tryd.f23.ntmps (h23 p0 p1)) = b23 p0 p1 (fun v2 => c 4 (m23_4 p0 p1 v2)) := by kernel_rfl
theorem s23_4 (c : Nat → S U → Option R23) (p0 p1 : TI) (v2 : Int) : res TP X q23 [4] (fun q st => c q (keepD D23 (h23 p0 p1).length q st)) 4 body23 (finH TP Tryd.f23.results.toList (h23 p0 p1).length false k23) (m23_4 p0 p1 v2) = b23_4 p0 p1 (fun v2 => c 4 (m23_4 p0 p1 v2)) v2 := by kernel_rfl
def f23_4 (p0 p1 : TI) : Nat → Int → Option R23
  | 0 => fun _ => none
  | k + 1 => b23_4 p0 p1 (f23_4 p0 p1 k)
def f23 (k : Nat) (p0 p1 : TI) : Option R23 := b23 p0 p1 (f23_4 p0 p1 k)
theorem e23 (p0 p1 : TI) : ∀ k, ((fun v2 => cutG TP X q23 [4] D23 (h23 p0 p1).length body23 (finH TP Tryd.f23.results.toList (h23 p0 p1).length false k23) k 4 (m23_4 p0 p1 v2)) = f23_4 p0 p1 k)
  | 0 => rfl
  | k + 1 => by
    have ih := e23 p0 p1 k
    · funext v2
      refine (if_pos (by kernel_rfl)).trans ?_
      rw [s23_4]
      simp only [ih]
      rfl
theorem pure23 (p0 p1 : TI) (pok : PrmOK TP X q23) (k : Nat) (r : R23) (h : f23 k p0 p1 = some r) : PureH TP X 23 [.imm 3 p0, .imm 3 p1] (h23 p0 p1) (out23 r) (outh23 r) :=
  pure_gen good k (fn := Tryd.f23) (body := body23) (prim := q23) (D := D23) (cuts := [4]) (h := h23 p0 p1) (own := false) (by kernel_rfl) (by kernel_rfl) (by decide +kernel) pok hk23 (by
    rw [s23]
    have ih := e23 p0 p1 k
    simp only [ih]
    exact h)
def F23 {R : Type} (spec : TI → TI → Option R23) : Fn U R := fun args h k => match args, h with | [.imm 3 p0, .imm 3 p1], [] => (spec p0 p1).bind fun r => k (out23 r) (outh23 r) | _, _ => none
theorem ok23 {R : Type} (spec : TI → TI → Option R23) (hp : ∀ (p0 : TI) (p1 : TI) (r : R23), spec p0 p1 = some r → PureH TP X 23 [.imm 3 p0, .imm 3 p1] (h23 p0 p1) (out23 r) (outh23 r)) : FnOK TP X 23 (F23 spec : Fn U R) := by
  intro args h k r hh
  unfold F23 at hh
  split at hh
  · obtain ⟨x, h1, h2⟩ := Option.bind_eq_some_iff.1 hh
    exact ⟨_, _, h2, hp _ _ _ h1⟩
  · cases hh
theorem pok23 : PrmOK TP X q23 := prims_nil TP X mixed
noncomputable def S23 (p0 p1 : TI) : Option R23 := evv fun k => f23 k p0 p1
theorem okS23 {R : Type} : FnOK TP X 23 (F23 S23 : Fn U R) := ok23 S23 fun p0 p1 r h => by
  obtain ⟨k, hk⟩ := evv_fuel h
  exact pure23 p0 p1 pok23 k r hk
abbrev R22 : Type := (Bool)
noncomputable def body22 : Go.Code := (Tryd.f22.body).getD Go.Code.skip
def h22 (p0 p1 : List (ByteArray)) : List (AO U) := []
def k22 : AV U → List (AO U) → Option R22 := fun v h => match v, h with | AV.bool x0, [] => some x0 | _, _ => none
def out22 : R22 → AV U := fun x0 => AV.bool x0
def outh22 : R22 → List (AO U) := fun x0 => []
def D22 : Nat → Dir := dirs [(4, ⟨[0, 1, 5], [], [], []⟩)]
def b22 (p0 p1 : List (ByteArray)) (c4 : (Int) → Option R22)  : Option R22 :=
  cond ((↑p0.length : Int) != (↑p1.length : Int))
  (some (false))
  (c4 (0))
def m22_4 (p0 p1 : List (ByteArray)) (v2 : Int) : S U := S.mk [AV.imm 9 p0, AV.imm 9 p1, AV.undef, AV.undef, AV.undef, AV.int IntKind.i64 v2, AV.undef, AV.undef, AV.undef, AV.undef, AV.undef, AV.undef, AV.undef, AV.undef, AV.undef, AV.undef, AV.undef, AV.undef, AV.undef, AV.undef, AV.undef, AV.undef, AV.undef, AV.undef, AV.undef, AV.undef] []
def b22_4 (p0 p1 : List (ByteArray)) (c4 : (Int) → Option R22) (v2 : Int) : Option R22 :=
  cond (decide (v2 < (↑p0.length : Int)))
  (cond (decide (0 ≤ v2))
  (cond (decide (v2 < (↑p0.length : Int)))
  (cond (decide (v2.toNat < p0.length))
  (cond (decide (0 ≤ v2))
  (cond (decide (v2 < (↑p1.length : Int)))
  (cond (decide (v2.toNat < p1.length))
  (cond (!ByteArray.toList (p0.getD v2.toNat (X.dflt 9)) == ByteArray.toList (p1.getD v2.toNat (X.dflt 9)))
  (some (false))
  (c4 (IntKind.i64.wrap (v2 + 1))))
  (none))
  (none))
  (none))
  (none))
  (none))
  (none))
  (some (true))
theorem hk22 : ∀ v h' r, k22 v h' = some r → v = out22 r ∧ h' = outh22 r := by
  intro v h' r h
  unfold k22 at h
  split at h
  · injection h with h; subst h; exact ⟨rfl, rfl⟩
  · cases h
abbrev q22 : Prim U R22 := prims X []
theorem s22 (c : Nat → S U → Option R22) (p0 p1 : List (ByteArray)) : seg TP X q22 [4] (fun q st => c q (keepD D22 (h22 p0 p1).length q st)) body22 (finH TP Tryd.f22.results.toList (h22 p0 p1).length false k22) (start [.imm 9 p0, .imm 9 p1] Tryd.f22.ntmps (h22 p0 p1)) = b22 p0 p1 (fun v2 => c 4 (m22_4 p0 p1 v2)) := by kernel_rfl
theorem s22_4 (c : Nat → S U → Option R22) (p0 p1 : List (ByteArray)) (v2 : Int) : res TP X q22 [4] (fun q st => c q (keepD D22 (h22 p0 p1).length q st)) 4 body22 (finH TP Tryd.f22.results.toList (h22 p0 p1).length false k22) (m22_4 p0 p1 v2) = b22_4 p0 p1 (fun v2 => c 4 (m22_4 p0 p1 v2)) v2 := by kernel_rfl
def f22_4 (p0 p1 : List (ByteArray)) : Nat → Int → Option R22
  | 0 => fun _ => none
  | k + 1 => b22_4 p0 p1 (f22_4 p0 p1 k)
def f22 (k : Nat) (p0 p1 : List (ByteArray)) : Option R22 := b22 p0 p1 (f22_4 p0 p1 k)
theorem e22 (p0 p1 : List (ByteArray)) : ∀ k, ((fun v2 => cutG TP X q22 [4] D22 (h22 p0 p1).length body22 (finH TP Tryd.f22.results.toList (h22 p0 p1).length false k22) k 4 (m22_4 p0 p1 v2)) = f22_4 p0 p1 k)
  | 0 => rfl
  | k + 1 => by
    have ih := e22 p0 p1 k
    · funext v2
      refine (if_pos (by kernel_rfl)).trans ?_
      rw [s22_4]
      simp only [ih]
      rfl
theorem pure22 (p0 p1 : List (ByteArray)) (pok : PrmOK TP X q22) (k : Nat) (r : R22) (h : f22 k p0 p1 = some r) : PureH TP X 22 [.imm 9 p0, .imm 9 p1] (h22 p0 p1) (out22 r) (outh22 r) :=
  pure_gen good k (fn := Tryd.f22) (body := body22) (prim := q22) (D := D22) (cuts := [4]) (h := h22 p0 p1) (own := false) (by kernel_rfl) (by kernel_rfl) (by decide +kernel) pok hk22 (by
    rw [s22]
    have ih := e22 p0 p1 k
    simp only [ih]
    exact h)
def F22 {R : Type} (spec : (List (ByteArray)) → (List (ByteArray)) → Option R22) : Fn U R := fun args h k => match args, h with | [.imm 9 p0, .imm 9 p1], [] => (spec p0 p1).bind fun r => k (out22 r) (outh22 r) | _, _ => none
theorem ok22 {R : Type} (spec : (List (ByteArray)) → (List (ByteArray)) → Option R22) (hp : ∀ (p0 : List (ByteArray)) (p1 : List (ByteArray)) (r : R22), spec p0 p1 = some r → PureH TP X 22 [.imm 9 p0, .imm 9 p1] (h22 p0 p1) (out22 r) (outh22 r)) : FnOK TP X 22 (F22 spec : Fn U R) := by
  intro args h k r hh
  unfold F22 at hh
  split at hh
  · obtain ⟨x, h1, h2⟩ := Option.bind_eq_some_iff.1 hh
    exact ⟨_, _, h2, hp _ _ _ h1⟩
  · cases hh
theorem pok22 : PrmOK TP X q22 := prims_nil TP X mixed
noncomputable def S22 (p0 p1 : List (ByteArray)) : Option R22 := evv fun k => f22 k p0 p1
theorem okS22 {R : Type} : FnOK TP X 22 (F22 S22 : Fn U R) := ok22 S22 fun p0 p1 r h => by
  obtain ⟨k, hk⟩ := evv_fuel h
  exact pure22 p0 p1 pok22 k r hk
abbrev R8 : Type := (Int)
noncomputable def body8 : Go.Code := (Tryd.f8.body).getD Go.Code.skip
def h8 (p0 : Int) : List (AO U) := []
def k8 : AV U → List (AO U) → Option R8 := fun v h => match v, h with | AV.int IntKind.i64 x0, [] => some x0 | _, _ => none
def out8 : R8 → AV U := fun x0 => AV.int IntKind.i64 x0
def outh8 : R8 → List (AO U) := fun x0 => []
def D8 : Nat → Dir := dirs []
def b8 (p0 : Int)   : Option R8 :=
  some (p0)
theorem hk8 : ∀ v h' r, k8 v h' = some r → v = out8 r ∧ h' = outh8 r := by
  intro v h' r h
  unfold k8 at h
  split at h
  · injection h with h; subst h; exact ⟨rfl, rfl⟩
  · cases h
abbrev q8 : Prim U R8 := prims X []
theorem s8 (c : Nat → S U → Option R8) (p0 : Int) : seg TP X q8 [] (fun q st => c q (keepD D8 (h8 p0).length q st)) body8 (finH TP Tryd.f8.results.toList (h8 p0).length false k8) (start [.int .i64 p0] Tryd.f8.ntmps (h8 p0)) = b8 p0  := by kernel_rfl
def f8 (_ : Nat) (p0 : Int) : Option R8 := b8 p0
theorem pure8 (p0 : Int) (pok : PrmOK TP X q8) (k : Nat) (r : R8) (h : f8 k p0 = some r) : PureH TP X 8 [.int .i64 p0] (h8 p0) (out8 r) (outh8 r) :=
  pure_gen good 0 (fn := Tryd.f8) (body := body8) (prim := q8) (D := D8) (cuts := []) (h := h8 p0) (own := false) (by kernel_rfl) (by kernel_rfl) (by decide +kernel) pok hk8 (by
    rw [s8]
    exact h)
def F8 {R : Type} (spec : (Int) → Option R8) : Fn U R := fun args h k => match args, h with | [.int .i64 p0], [] => (spec p0).bind fun r => k (out8 r) (outh8 r) | _, _ => none
theorem ok8 {R : Type} (spec : (Int) → Option R8) (hp : ∀ (p0 : Int) (r : R8), spec p0 = some r → PureH TP X 8 [.int .i64 p0] (h8 p0) (out8 r) (outh8 r)) : FnOK TP X 8 (F8 spec : Fn U R) := by
  intro args h k r hh
  unfold F8 at hh
  split at hh
  · obtain ⟨x, h1, h2⟩ := Option.bind_eq_some_iff.1 hh
    exact ⟨_, _, h2, hp _ _ h1⟩
  · cases hh
theorem pok8 : PrmOK TP X q8 := prims_nil TP X mixed
noncomputable def S8 (p0 : Int) : Option R8 := evv fun k => f8 k p0
theorem okS8 {R : Type} : FnOK TP X 8 (F8 S8 : Fn U R) := ok8 S8 fun p0 r h => by
  obtain ⟨k, hk⟩ := evv_fuel h
  exact pure8 p0 pok8 k r hk
abbrev R35 : Type := TI
noncomputable def body35 : Go.Code := (Tryd.f35.body).getD Go.Code.skip
def h35 (p0 : TI) : List (AO U) := []
def k35 : AV U → List (AO U) → Option R35 := fun v h => match v, h with | AV.row 0 3, [AO.row 3 x0] => some x0 | _, _ => none
def out35 : R35 → AV U := fun x0 => AV.row 0 3
def outh35 : R35 → List (AO U) := fun x0 => [AO.row 3 x0]
def D35 : Nat → Dir := dirs [(3, ⟨[0, 3, 4], [], [], []⟩)]
def b35 (p0 : TI) (c3 : (Int) → TI → Option R35)  : Option R35 :=
  cond (decide ((↑p0.length : Int) ≤ IntKind.i64.wrap ((↑p0.length : Int) + 3)))
  (cond (decide (IntKind.i64.wrap ((↑p0.length : Int) + 3) * (↑8 : Int) ≤ 140737488355328))
  (c3 (0) (repI (↑p0.length : Int).toNat 0))
  (none))
  (none)
def m35_3 (p0 : TI) (v1 : Int) (v2 : TI) : S U := S.mk [AV.imm 3 p0, AV.undef, AV.undef, AV.row 0 3, AV.int IntKind.i64 v1, AV.undef, AV.undef, AV.undef, AV.undef, AV.undef, AV.undef, AV.undef, AV.undef, AV.undef, AV.undef, AV.undef, AV.undef, AV.undef, AV.undef, AV.undef, AV.undef, AV.undef, AV.undef, AV.undef, AV.undef] [AO.row 3 v2]
def b35_3 (p0 : TI) (c3 : (Int) → TI → Option R35) (v1 : Int) (v2 : TI) : Option R35 :=
  cond (decide (v1 < (↑p0.length : Int)))
  (cond (decide (0 ≤ v1))
  (cond (decide (v1 < (↑p0.length : Int)))
  (cond (decide (v1.toNat < p0.length))
  (cond (decide (0 ≤ v1))
  (cond (decide (v1 < (↑v2.length : Int)))
  (cond (decide (v1.toNat < v2.length))
  (c3 (IntKind.i64.wrap (v1 + 1)) (v2.set v1.toNat (p0.getD v1.toNat (X.dflt 3))))
  (none))
  (none))
  (none))
  (none))
  (none))
  (none))
  (some (v2))
theorem hk35 : ∀ v h' r, k35 v h' = some r → v = out35 r ∧ h' = outh35 r := by
  intro v h' r h
  unfold k35 at h
  split at h
  · injection h with h; subst h; exact ⟨rfl, rfl⟩
  · cases h
abbrev q35 : Prim U R35 := prims X []
theorem s35 (c : Nat → S U → Option R35) (p0 : TI) : seg TP X q35 [3] (fun q st => c q (keepD D35 (h35 p0).length q st)) body35 (finH TP Tryd.f35.results.toList (h35 p0).length true k35) (start [.imm 3 p0] Tryd.f35.ntmps (h35 p0)) = b35 p0 (fun v1 v2 => c 3 (m35_3 p0 v1 v2)) := by kernel_rfl
theorem s35_3 (c : Nat → S U → Option R35) (p0 : TI) (v1 : Int) (v2 : TI) : res TP X q35 [3] (fun q st => c q (keepD D35 (h35 p0).length q st)) 3 body35 (finH TP Tryd.f35.results.toList (h35 p0).length true k35) (m35_3 p0 v1 v2) = b35_3 p0 (fun v1 v2 => c 3 (m35_3 p0 v1 v2)) v1 v2 := by kernel_rfl
def f35_3 (p0 : TI) : Nat → Int → TI → Option R35
  | 0 => fun _ _ => none
  | k + 1 => b35_3 p0 (f35_3 p0 k)
def f35 (k : Nat) (p0 : TI) : Option R35 := b35 p0 (f35_3 p0 k)
theorem e35 (p0 : TI) : ∀ k, ((fun v1 v2 => cutG TP X q35 [3] D35 (h35 p0).length body35 (finH TP Tryd.f35.results.toList (h35 p0).length true k35) k 3 (m35_3 p0 v1 v2)) = f35_3 p0 k)
  | 0 => rfl
  | k + 1 => by
    have ih := e35 p0 k
    · funext v1 v2
      refine (if_pos (by kernel_rfl)).trans ?_
      rw [s35_3]
      simp only [ih]
      rfl
theorem pure35 (p0 : TI) (pok : PrmOK TP X q35) (k : Nat) (r : R35) (h : f35 k p0 = some r) : PureH TP X 35 [.imm 3 p0] (h35 p0) (out35 r) (outh35 r) :=
  pure_gen good k (fn := Tryd.f35) (body := body35) (prim := q35) (D := D35) (cuts := [3]) (h := h35 p0) (own := true) (by kernel_rfl) (by kernel_rfl) (by decide +kernel) pok hk35 (by
    rw [s35]
    have ih := e35 p0 k
    simp only [ih]
    exact h)
def F35 {R : Type} (spec : TI → Option R35) : Fn U R := fun args h k => match args, h with | [.imm 3 p0], [] => (spec p0).bind fun r => k (out35 r) (outh35 r) | _, _ => none
theorem ok35 {R : Type} (spec : TI → Option R35) (hp : ∀ (p0 : TI) (r : R35), spec p0 = some r → PureH TP X 35 [.imm 3 p0] (h35 p0) (out35 r) (outh35 r)) : FnOK TP X 35 (F35 spec : Fn U R) := by
  intro args h k r hh
  unfold F35 at hh
  split at hh
  · obtain ⟨x, h1, h2⟩ := Option.bind_eq_some_iff.1 hh
    exact ⟨_, _, h2, hp _ _ h1⟩
  · cases hh
theorem pok35 : PrmOK TP X q35 := prims_nil TP X mixed
noncomputable def S35 (p0 : TI) : Option R35 := evv fun k => f35 k p0
theorem okS35 {R : Type} : FnOK TP X 35 (F35 S35 : Fn U R) := ok35 S35 fun p0 r h => by
  obtain ⟨k, hk⟩ := evv_fuel h
  exact pure35 p0 pok35 k r hk
abbrev R47 : Type := TI
noncomputable def body47 : Go.Code := (Tryd.f47.body).getD Go.Code.skip
def h47 (p0 : TI) : List (AO U) := []
def k47 : AV U → List (AO U) → Option R47 := fun v h => match v, h with | AV.row 0 99, [AO.row 99 x0] => some x0 | _, _ => none
def out47 : R47 → AV U := fun x0 => AV.row 0 99
def outh47 : R47 → List (AO U) := fun x0 => [AO.row 99 x0]
def D47 : Nat → Dir := dirs [(3, ⟨[0, 3, 4], [], [], []⟩)]
def b47 (p0 : TI) (c3 : (Int) → TI → Option R47)  : Option R47 :=
  cond (decide ((↑p0.length : Int) ≤ IntKind.i64.wrap ((↑p0.length : Int) + 3)))
  (cond (decide (IntKind.i64.wrap ((↑p0.length : Int) + 3) * (↑4 : Int) ≤ 140737488355328))
  (c3 (0) (repI (↑p0.length : Int).toNat 0))
  (none))
  (none)
def m47_3 (p0 : TI) (v1 : Int) (v2 : TI) : S U := S.mk [AV.imm 99 p0, AV.undef, AV.undef, AV.row 0 99, AV.int IntKind.i64 v1, AV.undef, AV.undef, AV.undef, AV.undef, AV.undef, AV.undef, AV.undef, AV.undef, AV.undef, AV.undef, AV.undef, AV.undef, AV.undef, AV.undef, AV.undef, AV.undef, AV.undef, AV.undef, AV.undef, AV.undef] [AO.row 99 v2]
def b47_3 (p0 : TI) (c3 : (Int) → TI → Option R47) (v1 : Int) (v2 : TI) : Option R47 :=
  cond (decide (v1 < (↑p0.length : Int)))
  (cond (decide (0 ≤ v1))
  (cond (decide (v1 < (↑p0.length : Int)))
  (cond (decide (v1.toNat < p0.length))
  (cond (decide (0 ≤ v1))
  (cond (decide (v1 < (↑v2.length : Int)))
  (cond (decide (v1.toNat < v2.length))
  (c3 (IntKind.i64.wrap (v1 + 1)) (v2.set v1.toNat (p0.getD v1.toNat (X.dflt 99))))
  (none))
  (none))
  (none))
  (none))
  (none))
  (none))
  (some (v2))
theorem hk47 : ∀ v h' r, k47 v h' = some r → v = out47 r ∧ h' = outh47 r := by
  intro v h' r h
  unfold k47 at h
  split at h
  · injection h with h; subst h; exact ⟨rfl, rfl⟩
  · cases h
abbrev q47 : Prim U R47 := prims X []
theorem s47 (c : Nat → S U → Option R47) (p0 : TI) : seg TP X q47 [3] (fun q st => c q (keepD D47 (h47 p0).length q st)) body47 (finH TP Tryd.f47.results.toList (h47 p0).length true k47) (start [.imm 99 p0] Tryd.f47.ntmps (h47 p0)) = b47 p0 (fun v1 v2 => c 3 (m47_3 p0 v1 v2)) := by kernel_rfl
theorem s47_3 (c : Nat → S U → Option R47) (p0 : TI) (v1 : Int) (v2 : TI) : res TP X q47 [3] (fun q st => c q (keepD D47 (h47 p0).length q st)) 3 body47 (finH TP Tryd.f47.results.toList (h47 p0).length true k47) (m47_3 p0 v1 v2) = b47_3 p0 (fun v1 v2 => c 3 (m47_3 p0 v1 v2)) v1 v2 := by kernel_rfl
def f47_3 (p0 : TI) : Nat → Int → TI → Option R47
  | 0 => fun _ _ => none
  | k + 1 => b47_3 p0 (f47_3 p0 k)
def f47 (k : Nat) (p0 : TI) : Option R47 := b47 p0 (f47_3 p0 k)
theorem e47 (p0 : TI) : ∀ k, ((fun v1 v2 => cutG TP X q47 [3] D47 (h47 p0).length body47 (finH TP Tryd.f47.results.toList (h47 p0).length true k47) k 3 (m47_3 p0 v1 v2)) = f47_3 p0 k)
  | 0 => rfl
  | k + 1 => by
    have ih := e47 p0 k
    · funext v1 v2
      refine (if_pos (by kernel_rfl)).trans ?_
      rw [s47_3]
      simp only [ih]
      rfl
theorem pure47 (p0 : TI) (pok : PrmOK TP X q47) (k : Nat) (r : R47) (h : f47 k p0 = some r) : PureH TP X 47 [.imm 99 p0] (h47 p0) (out47 r) (outh47 r) :=
  pure_gen good k (fn := Tryd.f47) (body := body47) (prim := q47) (D := D47) (cuts := [3]) (h := h47 p0) (own := true) (by kernel_rfl) (by kernel_rfl) (by decide +kernel) pok hk47 (by
    rw [s47]
    have ih := e47 p0 k
    simp only [ih]
    exact h)
def F47 {R : Type} (spec : TI → Option R47) : Fn U R := fun args h k => match args, h with | [.imm 99 p0], [] => (spec p0).bind fun r => k (out47 r) (outh47 r) | _, _ => none
theorem ok47 {R : Type} (spec : TI → Option R47) (hp : ∀ (p0 : TI) (r : R47), spec p0 = some r → PureH TP X 47 [.imm 99 p0] (h47 p0) (out47 r) (outh47 r)) : FnOK TP X 47 (F47 spec : Fn U R) := by
  intro args h k r hh
  unfold F47 at hh
  split at hh
  · obtain ⟨x, h1, h2⟩ := Option.bind_eq_some_iff.1 hh
    exact ⟨_, _, h2, hp _ _ h1⟩
  · cases hh
theorem pok47 : PrmOK TP X q47 := prims_nil TP X mixed
noncomputable def S47 (p0 : TI) : Option R47 := evv fun k => f47 k p0
theorem okS47 {R : Type} : FnOK TP X 47 (F47 S47 : Fn U R) := ok47 S47 fun p0 r h => by
  obtain ⟨k, hk⟩ := evv_fuel h
  exact pure47 p0 pok47 k r hk
abbrev R37 : Type := (Bool)
noncomputable def body37 : Go.Code := (Tryd.f37.body).getD Go.Code.skip
def h37 (p0 : Int) : List (AO U) := []
def k37 : AV U → List (AO U) → Option R37 := fun v h => match v, h with | AV.bool x0, [] => some x0 | _, _ => none
def out37 : R37 → AV U := fun x0 => AV.bool x0
def outh37 : R37 → List (AO U) := fun x0 => []
def D37 : Nat → Dir := dirs []
def b37 (p0 : Int)   : Option R37 :=
  cond (p0 == 3)
  (some (true))
  (cond (p0 == 4)
  (some (true))
  (cond (p0 == 5)
  (some (true))
  (some (p0 == 6))))
theorem hk37 : ∀ v h' r, k37 v h' = some r → v = out37 r ∧ h' = outh37 r := by
  intro v h' r h
  unfold k37 at h
  split at h
  · injection h with h; subst h; exact ⟨rfl, rfl⟩
  · cases h
abbrev q37 : Prim U R37 := prims X []
theorem s37 (c : Nat → S U → Option R37) (p0 : Int) : seg TP X q37 [] (fun q st => c q (keepD D37 (h37 p0).length q st)) body37 (finH TP Tryd.f37.results.toList (h37 p0).length false k37) (start [.int .i64 p0] Tryd.f37.ntmps (h37 p0)) = b37 p0  := by kernel_rfl
def f37 (_ : Nat) (p0 : Int) : Option R37 := b37 p0
theorem pure37 (p0 : Int) (pok : PrmOK TP X q37) (k : Nat) (r : R37) (h : f37 k p0 = some r) : PureH TP X 37 [.int .i64 p0] (h37 p0) (out37 r) (outh37 r) :=
  pure_gen good 0 (fn := Tryd.f37) (body := body37) (prim := q37) (D := D37) (cuts := []) (h := h37 p0) (own := false) (by kernel_rfl) (by kernel_rfl) (by decide +kernel) pok hk37 (by
    rw [s37]
    exact h)
def F37 {R : Type} (spec : (Int) → Option R37) : Fn U R := fun args h k => match args, h with | [.int .i64 p0], [] => (spec p0).bind fun r => k (out37 r) (outh37 r) | _, _ => none
theorem ok37 {R : Type} (spec : (Int) → Option R37) (hp : ∀ (p0 : Int) (r : R37), spec p0 = some r → PureH TP X 37 [.int .i64 p0] (h37 p0) (out37 r) (outh37 r)) : FnOK TP X 37 (F37 spec : Fn U R) := by
  intro args h k r hh
  unfold F37 at hh
  split at hh
  · obtain ⟨x, h1, h2⟩ := Option.bind_eq_some_iff.1 hh
    exact ⟨_, _, h2, hp _ _ h1⟩
  · cases hh
theorem pok37 : PrmOK TP X q37 := prims_nil TP X mixed
noncomputable def S37 (p0 : Int) : Option R37 := evv fun k => f37 k p0
theorem okS37 {R : Type} : FnOK TP X 37 (F37 S37 : Fn U R) := ok37 S37 fun p0 r h => by
  obtain ⟨k, hk⟩ := evv_fuel h
  exact pure37 p0 pok37 k r hk
abbrev R38 : Type := (Bool)
noncomputable def body38 : Go.Code := (Tryd.f38.body).getD Go.Code.skip
def h38 (p0 : Int) : List (AO U) := []
def k38 : AV U → List (AO U) → Option R38 := fun v h => match v, h with | AV.bool x0, [] => some x0 | _, _ => none
def out38 : R38 → AV U := fun x0 => AV.bool x0
def outh38 : R38 → List (AO U) := fun x0 => []
def D38 : Nat → Dir := dirs []
def b38 (p0 : Int)   : Option R38 :=
  cond (p0 == 7)
  (some (true))
  (some (p0 == 8))
theorem hk38 : ∀ v h' r, k38 v h' = some r → v = out38 r ∧ h' = outh38 r := by
  intro v h' r h
  unfold k38 at h
  split at h
  · injection h with h; subst h; exact ⟨rfl, rfl⟩
  · cases h
abbrev q38 : Prim U R38 := prims X []
theorem s38 (c : Nat → S U → Option R38) (p0 : Int) : seg TP X q38 [] (fun q st => c q (keepD D38 (h38 p0).length q st)) body38 (finH TP Tryd.f38.results.toList (h38 p0).length false k38) (start [.int .i64 p0] Tryd.f38.ntmps (h38 p0)) = b38 p0  := by kernel_rfl
def f38 (_ : Nat) (p0 : Int) : Option R38 := b38 p0
theorem pure38 (p0 : Int) (pok : PrmOK TP X q38) (k : Nat) (r : R38) (h : f38 k p0 = some r) : PureH TP X 38 [.int .i64 p0] (h38 p0) (out38 r) (outh38 r) :=
  pure_gen good 0 (fn := Tryd.f38) (body := body38) (prim := q38) (D := D38) (cuts := []) (h := h38 p0) (own := false) (by kernel_rfl) (by kernel_rfl) (by decide +kernel) pok hk38 (by
    rw [s38]
    exact h)
def F38 {R : Type} (spec : (Int) → Option R38) : Fn U R := fun args h k => match args, h with | [.int .i64 p0], [] => (spec p0).bind fun r => k (out38 r) (outh38 r) | _, _ => none
theorem ok38 {R : Type} (spec : (Int) → Option R38) (hp : ∀ (p0 : Int) (r : R38), spec p0 = some r → PureH TP X 38 [.int .i64 p0] (h38 p0) (out38 r) (outh38 r)) : FnOK TP X 38 (F38 spec : Fn U R) := by
  intro args h k r hh
  unfold F38 at hh
  split at hh
  · obtain ⟨x, h1, h2⟩ := Option.bind_eq_some_iff.1 hh
    exact ⟨_, _, h2, hp _ _ h1⟩
  · cases hh
theorem pok38 : PrmOK TP X q38 := prims_nil TP X mixed
noncomputable def S38 (p0 : Int) : Option R38 := evv fun k => f38 k p0
theorem okS38 {R : Type} : FnOK TP X 38 (F38 S38 : Fn U R) := ok38 S38 fun p0 r h => by
  obtain ⟨k, hk⟩ := evv_fuel h
  exact pure38 p0 pok38 k r hk
abbrev R45 : Type := (Bool)
noncomputable def body45 : Go.Code := (Tryd.f45.body).getD Go.Code.skip
def h45 (p0 : Int) : List (AO U) := []
def k45 : AV U → List (AO U) → Option R45 := fun v h => match v, h with | AV.bool x0, [] => some x0 | _, _ => none
def out45 : R45 → AV U := fun x0 => AV.bool x0
def outh45 : R45 → List (AO U) := fun x0 => []
def D45 : Nat → Dir := dirs []
def b45 (p0 : Int)   : Option R45 :=
  cond (p0 == 3)
  (some (true))
  (cond (p0 == 4)
  (some (true))
  (cond (p0 == 5)
  (some (true))
  (some (p0 == 6))))
theorem hk45 : ∀ v h' r, k45 v h' = some r → v = out45 r ∧ h' = outh45 r := by
  intro v h' r h
  unfold k45 at h
  split at h
  · injection h with h; subst h; exact ⟨rfl, rfl⟩
  · cases h
abbrev q45 : Prim U R45 := prims X []
theorem s45 (c : Nat → S U → Option R45) (p0 : Int) : seg TP X q45 [] (fun q st => c q (keepD D45 (h45 p0).length q st)) body45 (finH TP Tryd.f45.results.toList (h45 p0).length false k45) (start [.int .i64 p0] Tryd.f45.ntmps (h45 p0)) = b45 p0  := by kernel_rfl
def f45 (_ : Nat) (p0 : Int) : Option R45 := b45 p0
theorem pure45 (p0 : Int) (pok : PrmOK TP X q45) (k : Nat) (r : R45) (h : f45 k p0 = some r) : PureH TP X 45 [.int .i64 p0] (h45 p0) (out45 r) (outh45 r) :=
  pure_gen good 0 (fn := Tryd.f45) (body := body45) (prim := q45) (D := D45) (cuts := []) (h := h45 p0) (own := false) (by kernel_rfl) (by kernel_rfl) (by decide +kernel) pok hk45 (by
    rw [s45]
    exact h)
def F45 {R : Type} (spec : (Int) → Option R45) : Fn U R := fun args h k => match args, h with | [.int .i64 p0], [] => (spec p0).bind fun r => k (out45 r) (outh45 r) | _, _ => none
theorem ok45 {R : Type} (spec : (Int) → Option R45) (hp : ∀ (p0 : Int) (r : R45), spec p0 = some r → PureH TP X 45 [.int .i64 p0] (h45 p0) (out45 r) (outh45 r)) : FnOK TP X 45 (F45 spec : Fn U R) := by
  intro args h k r hh
  unfold F45 at hh
  split at hh
  · obtain ⟨x, h1, h2⟩ := Option.bind_eq_some_iff.1 hh
    exact ⟨_, _, h2, hp _ _ h1⟩
  · cases hh
theorem pok45 : PrmOK TP X q45 := prims_nil TP X mixed
noncomputable def S45 (p0 : Int) : Option R45 := evv fun k => f45 k p0
theorem okS45 {R : Type} : FnOK TP X 45 (F45 S45 : Fn U R) := ok45 S45 fun p0 r h => by
  obtain ⟨k, hk⟩ := evv_fuel h
  exact pure45 p0 pok45 k r hk
abbrev R59 : Type := (Bool)
noncomputable def body59 : Go.Code := (Tryd.f59.body).getD Go.Code.skip
def h59 (p0 : Bool) (p1 p2 : TI) : List (AO U) := []
def k59 : AV U → List (AO U) → Option R59 := fun v h => match v, h with | AV.bool x0, [] => some x0 | _, _ => none
def out59 : R59 → AV U := fun x0 => AV.bool x0
def outh59 : R59 → List (AO U) := fun x0 => []
def D59 : Nat → Dir := dirs []
def b59 (p0 : Bool) (p1 p2 : TI)   : Option R59 :=
  cond (!p0)
  (cond ((↑p1.length : Int) == 0)
  (some ((↑p2.length : Int) == 0))
  (some (false)))
  (some (false))
theorem hk59 : ∀ v h' r, k59 v h' = some r → v = out59 r ∧ h' = outh59 r := by
  intro v h' r h
  unfold k59 at h
  split at h
  · injection h with h; subst h; exact ⟨rfl, rfl⟩
  · cases h
abbrev q59 : Prim U R59 := prims X []
theorem s59 (c : Nat → S U → Option R59) (p0 : Bool) (p1 p2 : TI) : seg TP X q59 [] (fun q st => c q (keepD D59 (h59 p0 p1 p2).length q st)) body59 (finH TP Tryd.f59.results.toList (h59 p0 p1 p2).length false k59) (start [.agg [.bool p0, .imm 99 p1, .imm 99 p2]] Tryd.f59.ntmps (h59 p0 p1 p2)) = b59 p0 p1 p2  := by kernel_rfl
def f59 (_ : Nat) (p0 : Bool) (p1 p2 : TI) : Option R59 := b59 p0 p1 p2
theorem pure59 (p0 : Bool) (p1 p2 : TI) (pok : PrmOK TP X q59) (k : Nat) (r : R59) (h : f59 k p0 p1 p2 = some r) : PureH TP X 59 [.agg [.bool p0, .imm 99 p1, .imm 99 p2]] (h59 p0 p1 p2) (out59 r) (outh59 r) :=
  pure_gen good 0 (fn := Tryd.f59) (body := body59) (prim := q59) (D := D59) (cuts := []) (h := h59 p0 p1 p2) (own := false) (by kernel_rfl) (by kernel_rfl) (by decide +kernel) pok hk59 (by
    rw [s59]
    exact h)
def F59 {R : Type} (spec : (Bool) → TI → TI → Option R59) : Fn U R := fun args h k => match args, h with | [.agg [.bool p0, .imm 99 p1, .imm 99 p2]], [] => (spec p0 p1 p2).bind fun r => k (out59 r) (outh59 r) | _, _ => none
theorem ok59 {R : Type} (spec : (Bool) → TI → TI → Option R59) (hp : ∀ (p0 : Bool) (p1 : TI) (p2 : TI) (r : R59), spec p0 p1 p2 = some r → PureH TP X 59 [.agg [.bool p0, .imm 99 p1, .imm 99 p2]] (h59 p0 p1 p2) (out59 r) (outh59 r)) : FnOK TP X 59 (F59 spec : Fn U R) := by
  intro args h k r hh
  unfold F59 at hh
  split at hh
  · obtain ⟨x, h1, h2⟩ := Option.bind_eq_some_iff.1 hh
    exact ⟨_, _, h2, hp _ _ _ _ h1⟩
  · cases hh
theorem pok59 : PrmOK TP X q59 := prims_nil TP X mixed
noncomputable def S59 (p0 : Bool) (p1 p2 : TI) : Option R59 := evv fun k => f59 k p0 p1 p2
theorem okS59 {R : Type} : FnOK TP X 59 (F59 S59 : Fn U R) := ok59 S59 fun p0 p1 p2 r h => by
  obtain ⟨k, hk⟩ := evv_fuel h
  exact pure59 p0 p1 p2 pok59 k r hk
abbrev R60 : Type := (Bool)
noncomputable def body60 : Go.Code := (Tryd.f60.body).getD Go.Code.skip
def h60 (p0 : TI) : List (AO U) := []
def k60 : AV U → List (AO U) → Option R60 := fun v h => match v, h with | AV.bool x0, [] => some x0 | _, _ => none
def out60 : R60 → AV U := fun x0 => AV.bool x0
def outh60 : R60 → List (AO U) := fun x0 => []
def D60 : Nat → Dir := dirs []
def b60 (p0 : TI)   : Option R60 :=
  cond (decide ((↑p0.length : Int) ≤ 2048))
  (cond ((↑p0.length : Int) == 0)
  (some (true))
  (cond (decide (0 ≤ IntKind.i64.wrap ((↑p0.length : Int) - 1)))
  (cond (decide (IntKind.i64.wrap ((↑p0.length : Int) - 1) < (↑p0.length : Int)))
  (cond (decide ((IntKind.i64.wrap ((↑p0.length : Int) - 1)).toNat < p0.length))
  (some (p0.getD (IntKind.i64.wrap ((↑p0.length : Int) - 1)).toNat (X.dflt 99) != 0))
  (none))
  (none))
  (none)))
  (some (false))
theorem hk60 : ∀ v h' r, k60 v h' = some r → v = out60 r ∧ h' = outh60 r := by
  intro v h' r h
  unfold k60 at h
  split at h
  · injection h with h; subst h; exact ⟨rfl, rfl⟩
  · cases h
abbrev q60 : Prim U R60 := prims X []
theorem s60 (c : Nat → S U → Option R60) (p0 : TI) : seg TP X q60 [] (fun q st => c q (keepD D60 (h60 p0).length q st)) body60 (finH TP Tryd.f60.results.toList (h60 p0).length false k60) (start [.imm 99 p0] Tryd.f60.ntmps (h60 p0)) = b60 p0  := by kernel_rfl
def f60 (_ : Nat) (p0 : TI) : Option R60 := b60 p0
theorem pure60 (p0 : TI) (pok : PrmOK TP X q60) (k : Nat) (r : R60) (h : f60 k p0 = some r) : PureH TP X 60 [.imm 99 p0] (h60 p0) (out60 r) (outh60 r) :=
  pure_gen good 0 (fn := Tryd.f60) (body := body60) (prim := q60) (D := D60) (cuts := []) (h := h60 p0) (own := false) (by kernel_rfl) (by kernel_rfl) (by decide +kernel) pok hk60 (by
    rw [s60]
    exact h)
def F60 {R : Type} (spec : TI → Option R60) : Fn U R := fun args h k => match args, h with | [.imm 99 p0], [] => (spec p0).bind fun r => k (out60 r) (outh60 r) | _, _ => none
theorem ok60 {R : Type} (spec : TI → Option R60) (hp : ∀ (p0 : TI) (r : R60), spec p0 = some r → PureH TP X 60 [.imm 99 p0] (h60 p0) (out60 r) (outh60 r)) : FnOK TP X 60 (F60 spec : Fn U R) := by
  intro args h k r hh
  unfold F60 at hh
  split at hh
  · obtain ⟨x, h1, h2⟩ := Option.bind_eq_some_iff.1 hh
    exact ⟨_, _, h2, hp _ _ h1⟩
  · cases hh
theorem pok60 : PrmOK TP X q60 := prims_nil TP X mixed
noncomputable def S60 (p0 : TI) : Option R60 := evv fun k => f60 k p0
theorem okS60 {R : Type} : FnOK TP X 60 (F60 S60 : Fn U R) := ok60 S60 fun p0 r h => by
  obtain ⟨k, hk⟩ := evv_fuel h
  exact pure60 p0 pok60 k r hk
abbrev R93 : Type := (Int)
noncomputable def body93 : Go.Code := (Tryd.f93.body).getD Go.Code.skip
def h93 (p0 : Int) : List (AO U) := []
def k93 : AV U → List (AO U) → Option R93 := fun v h => match v, h with | AV.int IntKind.i64 x0, [] => some x0 | _, _ => none
def out93 : R93 → AV U := fun x0 => AV.int IntKind.i64 x0
def outh93 : R93 → List (AO U) := fun x0 => []
def D93 : Nat → Dir := dirs []
def b93 (p0 : Int)   : Option R93 :=
  cond (decide (p0 < 0))
  (some (-1))
  (cond (decide (p0 > 0))
  (some (1))
  (some (0)))
theorem hk93 : ∀ v h' r, k93 v h' = some r → v = out93 r ∧ h' = outh93 r := by
  intro v h' r h
  unfold k93 at h
  split at h
  · injection h with h; subst h; exact ⟨rfl, rfl⟩
  · cases h
abbrev q93 : Prim U R93 := prims X []
theorem s93 (c : Nat → S U → Option R93) (p0 : Int) : seg TP X q93 [] (fun q st => c q (keepD D93 (h93 p0).length q st)) body93 (finH TP Tryd.f93.results.toList (h93 p0).length false k93) (start [.int .i64 p0] Tryd.f93.ntmps (h93 p0)) = b93 p0  := by kernel_rfl
def f93 (_ : Nat) (p0 : Int) : Option R93 := b93 p0
theorem pure93 (p0 : Int) (pok : PrmOK TP X q93) (k : Nat) (r : R93) (h : f93 k p0 = some r) : PureH TP X 93 [.int .i64 p0] (h93 p0) (out93 r) (outh93 r) :=
  pure_gen good 0 (fn := Tryd.f93) (body := body93) (prim := q93) (D := D93) (cuts := []) (h := h93 p0) (own := false) (by kernel_rfl) (by kernel_rfl) (by decide +kernel) pok hk93 (by
    rw [s93]
    exact h)
def F93 {R : Type} (spec : (Int) → Option R93) : Fn U R := fun args h k => match args, h with | [.int .i64 p0], [] => (spec p0).bind fun r => k (out93 r) (outh93 r) | _, _ => none
theorem ok93 {R : Type} (spec : (Int) → Option R93) (hp : ∀ (p0 : Int) (r : R93), spec p0 = some r → PureH TP X 93 [.int .i64 p0] (h93 p0) (out93 r) (outh93 r)) : FnOK TP X 93 (F93 spec : Fn U R) := by
  intro args h k r hh
  unfold F93 at hh
  split at hh
  · obtain ⟨x, h1, h2⟩ := Option.bind_eq_some_iff.1 hh
    exact ⟨_, _, h2, hp _ _ h1⟩
  · cases hh
theorem pok93 : PrmOK TP X q93 := prims_nil TP X mixed
noncomputable def S93 (p0 : Int) : Option R93 := evv fun k => f93 k p0
theorem okS93 {R : Type} : FnOK TP X 93 (F93 S93 : Fn U R) := ok93 S93 fun p0 r h => by
  obtain ⟨k, hk⟩ := evv_fuel h
  exact pure93 p0 pok93 k r hk
abbrev R42 : Type := (Bool)
noncomputable def body42 : Go.Code := (Tryd.f42.body).getD Go.Code.skip
def h42 (p0 : Int) : List (AO U) := []
def k42 : AV U → List (AO U) → Option R42 := fun v h => match v, h with | AV.bool x0, [] => some x0 | _, _ => none
def out42 : R42 → AV U := fun x0 => AV.bool x0
def outh42 : R42 → List (AO U) := fun x0 => []
def D42 : Nat → Dir := dirs []
def b42 (p0 : Int)   : Option R42 :=
  cond (decide (p0 ≥ 0))
  (none)
  (some (false))
theorem hk42 : ∀ v h' r, k42 v h' = some r → v = out42 r ∧ h' = outh42 r := by
  intro v h' r h
  unfold k42 at h
  split at h
  · injection h with h; subst h; exact ⟨rfl, rfl⟩
  · cases h
abbrev q42 : Prim U R42 := prims X []
theorem s42 (c : Nat → S U → Option R42) (p0 : Int) : seg TP X q42 [] (fun q st => c q (keepD D42 (h42 p0).length q st)) body42 (finH TP Tryd.f42.results.toList (h42 p0).length false k42) (start [.int .i64 p0] Tryd.f42.ntmps (h42 p0)) = b42 p0  := by kernel_rfl
def f42 (_ : Nat) (p0 : Int) : Option R42 := b42 p0
theorem pure42 (p0 : Int) (pok : PrmOK TP X q42) (k : Nat) (r : R42) (h : f42 k p0 = some r) : PureH TP X 42 [.int .i64 p0] (h42 p0) (out42 r) (outh42 r) :=
  pure_gen good 0 (fn := Tryd.f42) (body := body42) (prim := q42) (D := D42) (cuts := []) (h := h42 p0) (own := false) (by kernel_rfl) (by kernel_rfl) (by decide +kernel) pok hk42 (by
    rw [s42]
    exact h)
def F42 {R : Type} (spec : (Int) → Option R42) : Fn U R := fun args h k => match args, h with | [.int .i64 p0], [] => (spec p0).bind fun r => k (out42 r) (outh42 r) | _, _ => none
theorem ok42 {R : Type} (spec : (Int) → Option R42) (hp : ∀ (p0 : Int) (r : R42), spec p0 = some r → PureH TP X 42 [.int .i64 p0] (h42 p0) (out42 r) (outh42 r)) : FnOK TP X 42 (F42 spec : Fn U R) := by
  intro args h k r hh
  unfold F42 at hh
  split at hh
  · obtain ⟨x, h1, h2⟩ := Option.bind_eq_some_iff.1 hh
    exact ⟨_, _, h2, hp _ _ h1⟩
  · cases hh
theorem pok42 : PrmOK TP X q42 := prims_nil TP X mixed
noncomputable def S42 (p0 : Int) : Option R42 := evv fun k => f42 k p0
theorem okS42 {R : Type} : FnOK TP X 42 (F42 S42 : Fn U R) := ok42 S42 fun p0 r h => by
  obtain ⟨k, hk⟩ := evv_fuel h
  exact pure42 p0 pok42 k r hk
abbrev R18 : Type := (ByteArray)
noncomputable def body18 : Go.Code := (Tryd.f18.body).getD Go.Code.skip
def h18 (p0 : Int) : List (AO U) := []
def k18 : AV U → List (AO U) → Option R18 := fun v h => match v, h with | AV.str x0, [] => some x0 | _, _ => none
def out18 : R18 → AV U := fun x0 => AV.str x0
def outh18 : R18 → List (AO U) := fun x0 => []
def D18 : Nat → Dir := dirs [(2, ⟨[0, 3], [], [], []⟩)]
def b18 (p0 : Int) (c2 : (Int) → (ByteArray) → Option R18)  : Option R18 :=
  c2 (p0) (ByteArray.mk #[])
def m18_2 (p0 v0 : Int) (v1 : ByteArray) : S U := S.mk [AV.int IntKind.i64 v0, AV.undef, AV.undef, AV.str v1, AV.undef, AV.undef, AV.undef, AV.undef, AV.undef, AV.undef, AV.undef, AV.undef, AV.undef, AV.undef, AV.undef, AV.undef, AV.undef, AV.undef, AV.undef, AV.undef, AV.undef, AV.undef, AV.undef] []
def b18_2 (p0 : Int) (c2 : (Int) → (ByteArray) → Option R18) (v0 : Int) (v1 : ByteArray) : Option R18 :=
  cond (decide (v0 ≥ 10))
  (cond (decide ((bytesL X 5 [IntKind.u8.wrap (IntKind.i64.wrap (48 + v0.tmod 10))]).size + v1.size ≤ 4611686018427387904))
  (c2 (IntKind.i64.wrap (v0.tdiv 10)) (bytesL X 5 [IntKind.u8.wrap (IntKind.i64.wrap (48 + v0.tmod 10))] ++ v1))
  (none))
  (cond (decide ((bytesL X 5 [IntKind.u8.wrap (IntKind.i64.wrap (48 + v0))]).size + v1.size ≤ 4611686018427387904))
  (some (bytesL X 5 [IntKind.u8.wrap (IntKind.i64.wrap (48 + v0))] ++ v1))
  (none))
theorem hk18 : ∀ v h' r, k18 v h' = some r → v = out18 r ∧ h' = outh18 r := by
  intro v h' r h
  unfold k18 at h
  split at h
  · injection h with h; subst h; exact ⟨rfl, rfl⟩
  · cases h
abbrev q18 : Prim U R18 := prims X []
theorem s18 (c : Nat → S U → Option R18) (p0 : Int) : seg TP X q18 [2] (fun q st => c q (keepD D18 (h18 p0).length q st)) body18 (finH TP Tryd.f18.results.toList (h18 p0).length false k18) (start [.int .i64 p0] Tryd.f18.ntmps (h18 p0)) = b18 p0 (fun v0 v1 => c 2 (m18_2 p0 v0 v1)) := by kernel_rfl
theorem s18_2 (c : Nat → S U → Option R18) (p0 v0 : Int) (v1 : ByteArray) : res TP X q18 [2] (fun q st => c q (keepD D18 (h18 p0).length q st)) 2 body18 (finH TP Tryd.f18.results.toList (h18 p0).length false k18) (m18_2 p0 v0 v1) = b18_2 p0 (fun v0 v1 => c 2 (m18_2 p0 v0 v1)) v0 v1 := by kernel_rfl
def f18_2 (p0 : Int) : Nat → Int → (ByteArray) → Option R18
  | 0 => fun _ _ => none
  | k + 1 => b18_2 p0 (f18_2 p0 k)
def f18 (k : Nat) (p0 : Int) : Option R18 := b18 p0 (f18_2 p0 k)
theorem e18 (p0 : Int) : ∀ k, ((fun v0 v1 => cutG TP X q18 [2] D18 (h18 p0).length body18 (finH TP Tryd.f18.results.toList (h18 p0).length false k18) k 2 (m18_2 p0 v0 v1)) = f18_2 p0 k)
  | 0 => rfl
  | k + 1 => by
    have ih := e18 p0 k
    · funext v0 v1
      refine (if_pos (by kernel_rfl)).trans ?_
      rw [s18_2]
      simp only [ih]
      rfl
theorem pure18 (p0 : Int) (pok : PrmOK TP X q18) (k : Nat) (r : R18) (h : f18 k p0 = some r) : PureH TP X 18 [.int .i64 p0] (h18 p0) (out18 r) (outh18 r) :=
  pure_gen good k (fn := Tryd.f18) (body := body18) (prim := q18) (D := D18) (cuts := [2]) (h := h18 p0) (own := false) (by kernel_rfl) (by kernel_rfl) (by decide +kernel) pok hk18 (by
    rw [s18]
    have ih := e18 p0 k
    simp only [ih]
    exact h)
def F18 {R : Type} (spec : (Int) → Option R18) : Fn U R := fun args h k => match args, h with | [.int .i64 p0], [] => (spec p0).bind fun r => k (out18 r) (outh18 r) | _, _ => none
theorem ok18 {R : Type} (spec : (Int) → Option R18) (hp : ∀ (p0 : Int) (r : R18), spec p0 = some r → PureH TP X 18 [.int .i64 p0] (h18 p0) (out18 r) (outh18 r)) : FnOK TP X 18 (F18 spec : Fn U R) := by
  intro args h k r hh
  unfold F18 at hh
  split at hh
  · obtain ⟨x, h1, h2⟩ := Option.bind_eq_some_iff.1 hh
    exact ⟨_, _, h2, hp _ _ h1⟩
  · cases hh
theorem pok18 : PrmOK TP X q18 := prims_nil TP X mixed
noncomputable def S18 (p0 : Int) : Option R18 := evv fun k => f18 k p0
theorem okS18 {R : Type} : FnOK TP X 18 (F18 S18 : Fn U R) := ok18 S18 fun p0 r h => by
  obtain ⟨k, hk⟩ := evv_fuel h
  exact pure18 p0 pok18 k r hk
abbrev R21 : Type := (Int)
noncomputable def body21 : Go.Code := (Tryd.f21.body).getD Go.Code.skip
def h21 (p0 : Int) : List (AO U) := []
def k21 : AV U → List (AO U) → Option R21 := fun v h => match v, h with | AV.int IntKind.i64 x0, [] => some x0 | _, _ => none
def out21 : R21 → AV U := fun x0 => AV.int IntKind.i64 x0
def outh21 : R21 → List (AO U) := fun x0 => []
def D21 : Nat → Dir := dirs []
def b21 (p0 : Int)   : Option R21 :=
  cond (p0 == 3)
  (some (4))
  (cond (p0 == 4)
  (some (5))
  (cond (p0 == 5)
  (some (6))
  (cond (p0 == 6)
  (some (7))
  (cond (p0 == 7)
  (some (3))
  (some (8))))))
theorem hk21 : ∀ v h' r, k21 v h' = some r → v = out21 r ∧ h' = outh21 r := by
  intro v h' r h
  unfold k21 at h
  split at h
  · injection h with h; subst h; exact ⟨rfl, rfl⟩
  · cases h
abbrev q21 : Prim U R21 := prims X []
theorem s21 (c : Nat → S U → Option R21) (p0 : Int) : seg TP X q21 [] (fun q st => c q (keepD D21 (h21 p0).length q st)) body21 (finH TP Tryd.f21.results.toList (h21 p0).length false k21) (start [.int .i64 p0] Tryd.f21.ntmps (h21 p0)) = b21 p0  := by kernel_rfl
def f21 (_ : Nat) (p0 : Int) : Option R21 := b21 p0
theorem pure21 (p0 : Int) (pok : PrmOK TP X q21) (k : Nat) (r : R21) (h : f21 k p0 = some r) : PureH TP X 21 [.int .i64 p0] (h21 p0) (out21 r) (outh21 r) :=
  pure_gen good 0 (fn := Tryd.f21) (body := body21) (prim := q21) (D := D21) (cuts := []) (h := h21 p0) (own := false) (by kernel_rfl) (by kernel_rfl) (by decide +kernel) pok hk21 (by
    rw [s21]
    exact h)
def F21 {R : Type} (spec : (Int) → Option R21) : Fn U R := fun args h k => match args, h with | [.int .i64 p0], [] => (spec p0).bind fun r => k (out21 r) (outh21 r) | _, _ => none
theorem ok21 {R : Type} (spec : (Int) → Option R21) (hp : ∀ (p0 : Int) (r : R21), spec p0 = some r → PureH TP X 21 [.int .i64 p0] (h21 p0) (out21 r) (outh21 r)) : FnOK TP X 21 (F21 spec : Fn U R) := by
  intro args h k r hh
  unfold F21 at hh
  split at hh
  · obtain ⟨x, h1, h2⟩ := Option.bind_eq_some_iff.1 hh
    exact ⟨_, _, h2, hp _ _ h1⟩
  · cases hh
theorem pok21 : PrmOK TP X q21 := prims_nil TP X mixed
noncomputable def S21 (p0 : Int) : Option R21 := evv fun k => f21 k p0
theorem okS21 {R : Type} : FnOK TP X 21 (F21 S21 : Fn U R) := ok21 S21 fun p0 r h => by
  obtain ⟨k, hk⟩ := evv_fuel h
  exact pure21 p0 pok21 k r hk
abbrev R32 : Type := Bool × TI × TI
noncomputable def body32 : Go.Code := (Tryd.f32.body).getD Go.Code.skip
def h32 (p0 : Bool) (p1 p2 : TI) : List (AO U) := []
def k32 : AV U → List (AO U) → Option R32 := fun v h => match v, h with | AV.agg [AV.bool x0, AV.row 0 99, AV.row 1 99], [AO.row 99 x1, AO.row 99 x2] => some (x0, x1, x2) | _, _ => none
def out32 : R32 → AV U := fun (x0, x1, x2) => AV.agg [AV.bool x0, AV.row 0 99, AV.row 1 99]
def outh32 : R32 → List (AO U) := fun (x0, x1, x2) => [AO.row 99 x1, AO.row 99 x2]
def D32 : Nat → Dir := dirs []
def b32 (p0 : Bool) (p1 p2 : TI)   : Option R32 :=
  cond (decide ((0 + p1.length) * 4 ≤ 140737488355328))
  (cond (decide ((0 + p2.length) * 4 ≤ 140737488355328))
  (some ((p0, [] ++ p1, [] ++ p2)))
  (none))
  (none)
theorem hk32 : ∀ v h' r, k32 v h' = some r → v = out32 r ∧ h' = outh32 r := by
  intro v h' r h
  unfold k32 at h
  split at h
  · injection h with h; subst h; exact ⟨rfl, rfl⟩
  · cases h
abbrev q32 : Prim U R32 := prims X []
theorem s32 (c : Nat → S U → Option R32) (p0 : Bool) (p1 p2 : TI) : seg TP X q32 [] (fun q st => c q (keepD D32 (h32 p0 p1 p2).length q st)) body32 (finH TP Tryd.f32.results.toList (h32 p0 p1 p2).length true k32) (start [.agg [.bool p0, .imm 99 p1, .imm 99 p2]] Tryd.f32.ntmps (h32 p0 p1 p2)) = b32 p0 p1 p2  := by kernel_rfl
def f32 (_ : Nat) (p0 : Bool) (p1 p2 : TI) : Option R32 := b32 p0 p1 p2
theorem pure32 (p0 : Bool) (p1 p2 : TI) (pok : PrmOK TP X q32) (k : Nat) (r : R32) (h : f32 k p0 p1 p2 = some r) : PureH TP X 32 [.agg [.bool p0, .imm 99 p1, .imm 99 p2]] (h32 p0 p1 p2) (out32 r) (outh32 r) :=
  pure_gen good 0 (fn := Tryd.f32) (body := body32) (prim := q32) (D := D32) (cuts := []) (h := h32 p0 p1 p2) (own := true) (by kernel_rfl) (by kernel_rfl) (by decide +kernel) pok hk32 (by
    rw [s32]
    exact h)
def F32 {R : Type} (spec : (Bool) → TI → TI → Option R32) : Fn U R := fun args h k => match args, h with | [.agg [.bool p0, .imm 99 p1, .imm 99 p2]], [] => (spec p0 p1 p2).bind fun r => k (out32 r) (outh32 r) | _, _ => none
theorem ok32 {R : Type} (spec : (Bool) → TI → TI → Option R32) (hp : ∀ (p0 : Bool) (p1 : TI) (p2 : TI) (r : R32), spec p0 p1 p2 = some r → PureH TP X 32 [.agg [.bool p0, .imm 99 p1, .imm 99 p2]] (h32 p0 p1 p2) (out32 r) (outh32 r)) : FnOK TP X 32 (F32 spec : Fn U R) := by
  intro args h k r hh
  unfold F32 at hh
  split at hh
  · obtain ⟨x, h1, h2⟩ := Option.bind_eq_some_iff.1 hh
    exact ⟨_, _, h2, hp _ _ _ _ h1⟩
  · cases hh
theorem pok32 : PrmOK TP X q32 := prims_nil TP X mixed
noncomputable def S32 (p0 : Bool) (p1 p2 : TI) : Option R32 := evv fun k => f32 k p0 p1 p2
theorem okS32 {R : Type} : FnOK TP X 32 (F32 S32 : Fn U R) := ok32 S32 fun p0 p1 p2 r h => by
  obtain ⟨k, hk⟩ := evv_fuel h
  exact pure32 p0 p1 p2 pok32 k r hk
end
end Go.Abs.Z
namespace Go.Abs.Z
open Go Go.Abs Go.Proofs
noncomputable section
abbrev R79 : Type := (Int)
noncomputable def body79 : Go.Code := (Tryd.f79.body).getD Go.Code.skip
def h79 (p0 p1 : TI) : List (AO U) := []
def k79 : AV U → List (AO U) → Option R79 := fun v h => match v, h with | AV.int IntKind.i64 x0, [] => some x0 | _, _ => none
def out79 : R79 → AV U := fun x0 => AV.int IntKind.i64 x0
def outh79 : R79 → List (AO U) := fun x0 => []
def D79 : Nat → Dir := dirs [(4, ⟨[0, 1, 5], [], [], []⟩)]
def b79 (p0 p1 : TI) (c4 : (Int) → Option R79)  : Option R79 :=
  cond ((↑p0.length : Int) != (↑p1.length : Int))
  ((S93 (IntKind.i64.wrap ((↑p0.length : Int) - (↑p1.length : Int)))).bind fun r0 =>
  some (r0))
  (c4 (IntKind.i64.wrap ((↑p0.length : Int) - 1)))
def m79_4 (p0 p1 : TI) (v2 : Int) : S U := S.mk [AV.imm 99 p0, AV.imm 99 p1, AV.undef, AV.undef, AV.undef, AV.int IntKind.i64 v2, AV.undef, AV.undef, AV.undef, AV.undef, AV.undef, AV.undef, AV.undef, AV.undef, AV.undef, AV.undef, AV.undef, AV.undef, AV.undef, AV.undef, AV.undef, AV.undef, AV.undef, AV.undef, AV.undef, AV.undef, AV.undef, AV.undef, AV.undef, AV.undef, AV.undef, AV.undef, AV.undef, AV.undef, AV.undef, AV.undef, AV.undef, AV.undef, AV.undef, AV.undef, AV.undef, AV.undef] []
def b79_4 (p0 p1 : TI) (c4 : (Int) → Option R79) (v2 : Int) : Option R79 :=
  cond (decide (v2 ≥ 0))
  (cond (decide (0 ≤ v2))
  (cond (decide (v2 < (↑p0.length : Int)))
  (cond (decide (v2.toNat < p0.length))
  (cond (decide (0 ≤ v2))
  (cond (decide (v2 < (↑p1.length : Int)))
  (cond (decide (v2.toNat < p1.length))
  (cond (decide (p0.getD v2.toNat (X.dflt 99) < p1.getD v2.toNat (X.dflt 99)))
  (some (-1))
  (cond (decide (0 ≤ v2))
  (cond (decide (v2 < (↑p0.length : Int)))
  (cond (decide (v2.toNat < p0.length))
  (cond (decide (0 ≤ v2))
  (cond (decide (v2 < (↑p1.length : Int)))
  (cond (decide (v2.toNat < p1.length))
  (cond (decide (p0.getD v2.toNat (X.dflt 99) > p1.getD v2.toNat (X.dflt 99)))
  (some (1))
  (c4 (IntKind.i64.wrap (v2 - 1))))
  (none))
  (none))
  (none))
  (none))
  (none))
  (none)))
  (none))
  (none))
  (none))
  (none))
  (none))
  (none))
  (some (0))
theorem hk79 : ∀ v h' r, k79 v h' = some r → v = out79 r ∧ h' = outh79 r := by
  intro v h' r h
  unfold k79 at h
  split at h
  · injection h with h; subst h; exact ⟨rfl, rfl⟩
  · cases h
abbrev q79 : Prim U R79 := prims X [⟨93, fun _ => true, [.lend], F93 S93⟩]
theorem s79 (c : Nat → S U → Option R79) (p0 p1 : TI) : seg TP X q79 [4] (fun q st => c q (keepD D79 (h79 p0 p1).length q st)) body79 (finH TP Tryd.f79.results.toList (h79 p0 p1).length false k79) (start [.imm 99 p0, .imm 99 p1] Tryd.f79.ntmps (h79 p0 p1)) = b79 p0 p1 (fun v2 => c 4 (m79_4 p0 p1 v2)) := by kernel_rfl
theorem s79_4 (c : Nat → S U → Option R79) (p0 p1 : TI) (v2 : Int) : res TP X q79 [4] (fun q st => c q (keepD D79 (h79 p0 p1).length q st)) 4 body79 (finH TP Tryd.f79.results.toList (h79 p0 p1).length false k79) (m79_4 p0 p1 v2) = b79_4 p0 p1 (fun v2 => c 4 (m79_4 p0 p1 v2)) v2 := by kernel_rfl
def f79_4 (p0 p1 : TI) : Nat → Int → Option R79
  | 0 => fun _ => none
  | k + 1 => b79_4 p0 p1 (f79_4 p0 p1 k)
def f79 (k : Nat) (p0 p1 : TI) : Option R79 := b79 p0 p1 (f79_4 p0 p1 k)
theorem e79 (p0 p1 : TI) : ∀ k, ((fun v2 => cutG TP X q79 [4] D79 (h79 p0 p1).length body79 (finH TP Tryd.f79.results.toList (h79 p0 p1).length false k79) k 4 (m79_4 p0 p1 v2)) = f79_4 p0 p1 k)
  | 0 => rfl
  | k + 1 => by
    have ih := e79 p0 p1 k
    · funext v2
      refine (if_pos (by kernel_rfl)).trans ?_
      rw [s79_4]
      simp only [ih]
      rfl
theorem pure79 (p0 p1 : TI) (pok : PrmOK TP X q79) (k : Nat) (r : R79) (h : f79 k p0 p1 = some r) : PureH TP X 79 [.imm 99 p0, .imm 99 p1] (h79 p0 p1) (out79 r) (outh79 r) :=
  pure_gen good k (fn := Tryd.f79) (body := body79) (prim := q79) (D := D79) (cuts := [4]) (h := h79 p0 p1) (own := false) (by kernel_rfl) (by kernel_rfl) (by decide +kernel) pok hk79 (by
    rw [s79]
    have ih := e79 p0 p1 k
    simp only [ih]
    exact h)
def F79 {R : Type} (spec : TI → TI → Option R79) : Fn U R := fun args h k => match args, h with | [.imm 99 p0, .imm 99 p1], [] => (spec p0 p1).bind fun r => k (out79 r) (outh79 r) | _, _ => none
theorem ok79 {R : Type} (spec : TI → TI → Option R79) (hp : ∀ (p0 : TI) (p1 : TI) (r : R79), spec p0 p1 = some r → PureH TP X 79 [.imm 99 p0, .imm 99 p1] (h79 p0 p1) (out79 r) (outh79 r)) : FnOK TP X 79 (F79 spec : Fn U R) := by
  intro args h k r hh
  unfold F79 at hh
  split at hh
  · obtain ⟨x, h1, h2⟩ := Option.bind_eq_some_iff.1 hh
    exact ⟨_, _, h2, hp _ _ _ h1⟩
  · cases hh
theorem pok79 : PrmOK TP X q79 := prims_cons good okS93 (prims_nil TP X mixed)
noncomputable def S79 (p0 p1 : TI) : Option R79 := evv fun k => f79 k p0 p1
theorem okS79 {R : Type} : FnOK TP X 79 (F79 S79 : Fn U R) := ok79 S79 fun p0 p1 r h => by
  obtain ⟨k, hk⟩ := evv_fuel h
  exact pure79 p0 p1 pok79 k r hk
end
end Go.Abs.Z
namespace Go.Abs.Z
open Go Go.Abs Go.Proofs
noncomputable section
abbrev R80 : Type := TI
noncomputable def body80 : Go.Code := (Tryd.f80.body).getD Go.Code.skip
def h80 (p0 p1 : TI) : List (AO U) := [.row 99 p1]
def k80 : AV U → List (AO U) → Option R80 := fun v h => match v, h with | AV.row 1 99, [AO.dead, AO.row 99 x0] => some x0 | _, _ => none
def out80 : R80 → AV U := fun x0 => AV.row 1 99
def outh80 : R80 → List (AO U) := fun x0 => [AO.dead, AO.row 99 x0]
def D80 : Nat → Dir := dirs [(3, ⟨[0, 1, 5, 6], [], [], []⟩)]
def b80 (p0 p1 : TI) (c3 : (Int) → Int → TI → Option R80)  : Option R80 :=
  c3 (0) (0) (p1)
def m80_3 (p0 p1 : TI) (v1 v2 : Int) (v3 : TI) : S U := S.mk [AV.row 0 99, AV.imm 99 p0, AV.undef, AV.undef, AV.undef, AV.int IntKind.i64 v1, AV.int IntKind.i64 v2, AV.undef, AV.undef, AV.undef, AV.undef, AV.undef, AV.undef, AV.undef, AV.undef, AV.undef, AV.undef, AV.undef, AV.undef, AV.undef, AV.undef, AV.undef, AV.undef, AV.undef, AV.undef, AV.undef, AV.undef, AV.undef, AV.undef, AV.undef, AV.undef, AV.undef, AV.undef, AV.undef, AV.undef, AV.undef, AV.undef, AV.undef, AV.undef, AV.undef] [AO.row 99 v3]
def b80_3 (p0 p1 : TI) (c3 : (Int) → Int → TI → Option R80) (v1 v2 : Int) (v3 : TI) : Option R80 :=
  cond (decide (v2 < (↑v3.length : Int)))
  (cond (decide (0 ≤ v2))
  (cond (decide (v2 < (↑v3.length : Int)))
  (cond (decide (v2.toNat < v3.length))
  (cond (decide (v2 < (↑p0.length : Int)))
  (cond (decide (0 ≤ v2))
  (cond (decide (v2 < (↑p0.length : Int)))
  (cond (decide (v2.toNat < p0.length))
  (cond (decide (0 ≤ v2))
  (cond (decide (v2 < (↑v3.length : Int)))
  (cond (decide (v2.toNat < v3.length))
  (c3 (shr IntKind.i64 (IntKind.i64.wrap (IntKind.i64.wrap (v1 + IntKind.i64.wrap (v3.getD v2.toNat (X.dflt 99))) - IntKind.i64.wrap (p0.getD v2.toNat (X.dflt 99)))) 32) (IntKind.i64.wrap (v2 + 1)) (v3.set v2.toNat (IntKind.u32.wrap (IntKind.i64.wrap (IntKind.i64.wrap (v1 + IntKind.i64.wrap (v3.getD v2.toNat (X.dflt 99))) - IntKind.i64.wrap (p0.getD v2.toNat (X.dflt 99)))))))
  (none))
  (none))
  (none))
  (none))
  (none))
  (none))
  (cond (decide (0 ≤ v2))
  (cond (decide (v2 < (↑v3.length : Int)))
  (cond (decide (v2.toNat < v3.length))
  (c3 (shr IntKind.i64 (IntKind.i64.wrap (v1 + IntKind.i64.wrap (v3.getD v2.toNat (X.dflt 99)))) 32) (IntKind.i64.wrap (v2 + 1)) (v3.set v2.toNat (IntKind.u32.wrap (IntKind.i64.wrap (v1 + IntKind.i64.wrap (v3.getD v2.toNat (X.dflt 99)))))))
  (none))
  (none))
  (none)))
  (none))
  (none))
  (none))
  ((S92h v3).bind fun r0 =>
  some (r0))
theorem hk80 : ∀ v h' r, k80 v h' = some r → v = out80 r ∧ h' = outh80 r := by
  intro v h' r h
  unfold k80 at h
  split at h
  · injection h with h; subst h; exact ⟨rfl, rfl⟩
  · cases h
abbrev q80 : Prim U R80 := prims X [⟨92, fun _ => true, [.hand], F92h S92h⟩]
theorem s80 (c : Nat → S U → Option R80) (p0 p1 : TI) : seg TP X q80 [3] (fun q st => c q (keepD D80 (h80 p0 p1).length q st)) body80 (finH TP Tryd.f80.results.toList (h80 p0 p1).length true k80) (start [.row 0 99, .imm 99 p0] Tryd.f80.ntmps (h80 p0 p1)) = b80 p0 p1 (fun v1 v2 v3 => c 3 (m80_3 p0 p1 v1 v2 v3)) := by kernel_rfl
theorem s80_3 (c : Nat → S U → Option R80) (p0 p1 : TI) (v1 v2 : Int) (v3 : TI) : res TP X q80 [3] (fun q st => c q (keepD D80 (h80 p0 p1).length q st)) 3 body80 (finH TP Tryd.f80.results.toList (h80 p0 p1).length true k80) (m80_3 p0 p1 v1 v2 v3) = b80_3 p0 p1 (fun v1 v2 v3 => c 3 (m80_3 p0 p1 v1 v2 v3)) v1 v2 v3 := by kernel_rfl
def f80_3 (p0 p1 : TI) : Nat → Int → (Int) → TI → Option R80
  | 0 => fun _ _ _ => none
  | k + 1 => b80_3 p0 p1 (f80_3 p0 p1 k)
def f80 (k : Nat) (p0 p1 : TI) : Option R80 := b80 p0 p1 (f80_3 p0 p1 k)
theorem e80 (p0 p1 : TI) : ∀ k, ((fun v1 v2 v3 => cutG TP X q80 [3] D80 (h80 p0 p1).length body80 (finH TP Tryd.f80.results.toList (h80 p0 p1).length true k80) k 3 (m80_3 p0 p1 v1 v2 v3)) = f80_3 p0 p1 k)
  | 0 => rfl
  | k + 1 => by
    have ih := e80 p0 p1 k
    · funext v1 v2 v3
      refine (if_pos (by kernel_rfl)).trans ?_
      rw [s80_3]
      simp only [ih]
      rfl
theorem pure80 (p0 p1 : TI) (pok : PrmOK TP X q80) (k : Nat) (r : R80) (h : f80 k p0 p1 = some r) : PureH TP X 80 [.row 0 99, .imm 99 p0] (h80 p0 p1) (out80 r) (outh80 r) :=
  pure_gen good k (fn := Tryd.f80) (body := body80) (prim := q80) (D := D80) (cuts := [3]) (h := h80 p0 p1) (own := true) (by kernel_rfl) (by kernel_rfl) (by decide +kernel) pok hk80 (by
    rw [s80]
    have ih := e80 p0 p1 k
    simp only [ih]
    exact h)
def F80 {R : Type} (spec : TI → TI → Option R80) : Fn U R := fun args h k => match args, h with | [.row 0 99, .imm 99 p0], [.row 99 p1] => (spec p0 p1).bind fun r => k (out80 r) (outh80 r) | _, _ => none
theorem ok80 {R : Type} (spec : TI → TI → Option R80) (hp : ∀ (p0 : TI) (p1 : TI) (r : R80), spec p0 p1 = some r → PureH TP X 80 [.row 0 99, .imm 99 p0] (h80 p0 p1) (out80 r) (outh80 r)) : FnOK TP X 80 (F80 spec : Fn U R) := by
  intro args h k r hh
  unfold F80 at hh
  split at hh
  · obtain ⟨x, h1, h2⟩ := Option.bind_eq_some_iff.1 hh
    exact ⟨_, _, h2, hp _ _ _ h1⟩
  · cases hh
theorem pok80 : PrmOK TP X q80 := prims_cons good okS92h (prims_nil TP X mixed)
noncomputable def S80 (p0 p1 : TI) : Option R80 := evv fun k => f80 k p0 p1
theorem okS80 {R : Type} : FnOK TP X 80 (F80 S80 : Fn U R) := ok80 S80 fun p0 p1 r h => by
  obtain ⟨k, hk⟩ := evv_fuel h
  exact pure80 p0 p1 pok80 k r hk
end
end Go.Abs.Z
namespace Go.Abs.Z
open Go Go.Abs Go.Proofs
noncomputable section
abbrev R61 : Type := TI
noncomputable def body61 : Go.Code := (Tryd.f61.body).getD Go.Code.skip
def h61 (p0 p1 : TI) : List (AO U) := []
def k61 : AV U → List (AO U) → Option R61 := fun v h => match v, h with | AV.imm 99 x0, [] => some x0 | _, _ => none
def out61 : R61 → AV U := fun x0 => AV.imm 99 x0
def outh61 : R61 → List (AO U) := fun x0 => []
def D61 : Nat → Dir := dirs [(11, ⟨[0, 1, 5], [], [], []⟩)]
def b61 (p0 p1 : TI) (c11 : (Int) → TI → TI → Option R61)  : Option R61 :=
  (S73 p0).bind fun r0 =>
  (S73 p1).bind fun r1 =>
  cond ((↑(List.length r0) : Int) == 0)
  (some (r1))
  (cond ((↑(List.length r1) : Int) == 0)
  (some (r0))
  ((S74 r0).bind fun r2 =>
  (S74 r1).bind fun r3 =>
  cond (decide (r3.fst < r2.fst))
  (c11 (r3.fst) (r2.snd) (r3.snd))
  (c11 (r2.fst) (r2.snd) (r3.snd))))
def m61_11 (p0 p1 : TI) (v0 : Int) (v1 v2 : TI) : S U := S.mk [AV.row 0 99, AV.row 1 99, AV.undef, AV.undef, AV.undef, AV.int IntKind.i64 v0, AV.undef, AV.undef, AV.undef, AV.undef, AV.undef, AV.undef, AV.undef, AV.undef, AV.undef, AV.undef, AV.undef, AV.undef, AV.undef, AV.undef, AV.undef, AV.undef, AV.undef, AV.undef, AV.undef, AV.undef, AV.undef, AV.undef, AV.undef, AV.undef, AV.undef, AV.undef, AV.undef, AV.undef, AV.undef, AV.undef, AV.undef, AV.undef, AV.undef, AV.undef, AV.undef, AV.undef, AV.undef, AV.undef, AV.undef, AV.undef, AV.undef, AV.undef, AV.undef, AV.undef, AV.undef, AV.undef, AV.undef, AV.undef, AV.undef, AV.undef, AV.undef, AV.undef, AV.undef, AV.undef, AV.undef, AV.undef, AV.undef, AV.undef, AV.undef, AV.undef, AV.undef, AV.undef, AV.undef, AV.undef, AV.undef] [AO.row 99 v1, AO.row 99 v2]
def b61_11 (p0 p1 : TI) (c11 : (Int) → TI → TI → Option R61) (v0 : Int) (v1 v2 : TI) : Option R61 :=
  cond (decide ((↑v1.length : Int) > 0))
  ((S74 v1).bind fun r0 =>
  cond (decide ((↑r0.snd.length : Int) ≤ 2))
  (cond (decide ((↑v2.length : Int) ≤ 2))
  ((S78 r0.snd).bind fun r1 =>
  (S78 v2).bind fun r2 =>
  (S77 r1 r2).bind fun r3 =>
  (S76 r3).bind fun r4 =>
  (S75 r4 v0).bind fun r5 =>
  some (r5))
  ((S79 r0.snd v2).bind fun r6 =>
  cond (decide (r6 < 0))
  ((S80 r0.snd v2).bind fun r7 =>
  c11 (v0) (r7) (r0.snd))
  ((S80 v2 r0.snd).bind fun r8 =>
  c11 (v0) (r8) (v2))))
  ((S79 r0.snd v2).bind fun r9 =>
  cond (decide (r9 < 0))
  ((S80 r0.snd v2).bind fun r10 =>
  c11 (v0) (r10) (r0.snd))
  ((S80 v2 r0.snd).bind fun r11 =>
  c11 (v0) (r11) (v2))))
  ((S75 v2 v0).bind fun r12 =>
  some (r12))
theorem hk61 : ∀ v h' r, k61 v h' = some r → v = out61 r ∧ h' = outh61 r := by
  intro v h' r h
  unfold k61 at h
  split at h
  · injection h with h; subst h; exact ⟨rfl, rfl⟩
  · cases h
abbrev q61 : Prim U R61 := prims X [⟨73, fun _ => true, [.lend], F73 S73⟩, ⟨74, fun _ => true, [.hand], F74 S74⟩, ⟨78, fun _ => true, [.lend], F78 S78⟩, ⟨77, fun _ => true, [.lend, .lend], F77 S77⟩, ⟨76, fun _ => true, [.lend], F76 S76⟩, ⟨75, fun _ => true, [.lend, .lend], F75 S75⟩, ⟨79, fun _ => true, [.lend, .lend], F79 S79⟩, ⟨80, fun _ => true, [.hand, .lend], F80 S80⟩]
theorem s61 (c : Nat → S U → Option R61) (p0 p1 : TI) : seg TP X q61 [11] (fun q st => c q (keepD D61 (h61 p0 p1).length q st)) body61 (finH TP Tryd.f61.results.toList (h61 p0 p1).length false k61) (start [.imm 99 p0, .imm 99 p1] Tryd.f61.ntmps (h61 p0 p1)) = b61 p0 p1 (fun v0 v1 v2 => c 11 (m61_11 p0 p1 v0 v1 v2)) := by kernel_rfl
theorem s61_11 (c : Nat → S U → Option R61) (p0 p1 : TI) (v0 : Int) (v1 v2 : TI) : res TP X q61 [11] (fun q st => c q (keepD D61 (h61 p0 p1).length q st)) 11 body61 (finH TP Tryd.f61.results.toList (h61 p0 p1).length false k61) (m61_11 p0 p1 v0 v1 v2) = b61_11 p0 p1 (fun v0 v1 v2 => c 11 (m61_11 p0 p1 v0 v1 v2)) v0 v1 v2 := by kernel_rfl
def f61_11 (p0 p1 : TI) : Nat → Int → TI → TI → Option R61
  | 0 => fun _ _ _ => none
  | k + 1 => b61_11 p0 p1 (f61_11 p0 p1 k)
def f61 (k : Nat) (p0 p1 : TI) : Option R61 := b61 p0 p1 (f61_11 p0 p1 k)
theorem e61 (p0 p1 : TI) : ∀ k, ((fun v0 v1 v2 => cutG TP X q61 [11] D61 (h61 p0 p1).length body61 (finH TP Tryd.f61.results.toList (h61 p0 p1).length false k61) k 11 (m61_11 p0 p1 v0 v1 v2)) = f61_11 p0 p1 k)
  | 0 => rfl
  | k + 1 => by
    have ih := e61 p0 p1 k
    · funext v0 v1 v2
      refine (if_pos (by kernel_rfl)).trans ?_
      rw [s61_11]
      simp only [ih]
      rfl
theorem pure61 (p0 p1 : TI) (pok : PrmOK TP X q61) (k : Nat) (r : R61) (h : f61 k p0 p1 = some r) : PureH TP X 61 [.imm 99 p0, .imm 99 p1] (h61 p0 p1) (out61 r) (outh61 r) :=
  pure_gen good k (fn := Tryd.f61) (body := body61) (prim := q61) (D := D61) (cuts := [11]) (h := h61 p0 p1) (own := false) (by kernel_rfl) (by kernel_rfl) (by decide +kernel) pok hk61 (by
    rw [s61]
    have ih := e61 p0 p1 k
    simp only [ih]
    exact h)
def F61 {R : Type} (spec : TI → TI → Option R61) : Fn U R := fun args h k => match args, h with | [.imm 99 p0, .imm 99 p1], [] => (spec p0 p1).bind fun r => k (out61 r) (outh61 r) | _, _ => none
theorem ok61 {R : Type} (spec : TI → TI → Option R61) (hp : ∀ (p0 : TI) (p1 : TI) (r : R61), spec p0 p1 = some r → PureH TP X 61 [.imm 99 p0, .imm 99 p1] (h61 p0 p1) (out61 r) (outh61 r)) : FnOK TP X 61 (F61 spec : Fn U R) := by
  intro args h k r hh
  unfold F61 at hh
  split at hh
  · obtain ⟨x, h1, h2⟩ := Option.bind_eq_some_iff.1 hh
    exact ⟨_, _, h2, hp _ _ _ h1⟩
  · cases hh
theorem pok61 : PrmOK TP X q61 := prims_cons good okS73 (prims_cons good okS74 (prims_cons good okS78 (prims_cons good okS77 (prims_cons good okS76 (prims_cons good okS75 (prims_cons good okS79 (prims_cons good okS80 (prims_nil TP X mixed))))))))
noncomputable def S61 (p0 p1 : TI) : Option R61 := evv fun k => f61 k p0 p1
theorem okS61 {R : Type} : FnOK TP X 61 (F61 S61 : Fn U R) := ok61 S61 fun p0 p1 r h => by
  obtain ⟨k, hk⟩ := evv_fuel h
  exact pure61 p0 p1 pok61 k r hk
end
end Go.Abs.Z
namespace Go.Abs.Z
open Go Go.Abs Go.Proofs
noncomputable section
abbrev R49 : Type := (Bool)
noncomputable def body49 : Go.Code := (Tryd.f49.body).getD Go.Code.skip
def h49 (p0 : Bool) (p1 p2 : TI) : List (AO U) := []
def k49 : AV U → List (AO U) → Option R49 := fun v h => match v, h with | AV.bool x0, [] => some x0 | _, _ => none
def out49 : R49 → AV U := fun x0 => AV.bool x0
def outh49 : R49 → List (AO U) := fun x0 => []
def D49 : Nat → Dir := dirs []
def b49 (p0 : Bool) (p1 p2 : TI)   : Option R49 :=
  (S60 p1).bind fun r0 =>
  cond (!r0)
  (some (false))
  ((S60 p2).bind fun r1 =>
  cond (!r1)
  (some (false))
  (cond ((↑p2.length : Int) == 0)
  (some (false))
  (cond ((↑p1.length : Int) == 0)
  (cond (!p0)
  (cond ((↑p2.length : Int) == 1)
  (cond (decide (0 < (↑p2.length : Int)))
  (cond (decide (Int.toNat 0 < p2.length))
  (some (p2.getD (Int.toNat 0) (X.dflt 99) == 1))
  (none))
  (none))
  (some (false)))
  (some (false)))
  ((S61 p1 p2).bind fun r2 =>
  cond ((↑(List.length r2) : Int) == 1)
  (cond (decide (0 < (↑(List.length r2) : Int)))
  (cond (decide (Int.toNat 0 < List.length r2))
  (some (List.getD r2 (Int.toNat 0) (X.dflt 99) == 1))
  (none))
  (none))
  (some (false))))))
theorem hk49 : ∀ v h' r, k49 v h' = some r → v = out49 r ∧ h' = outh49 r := by
  intro v h' r h
  unfold k49 at h
  split at h
  · injection h with h; subst h; exact ⟨rfl, rfl⟩
  · cases h
abbrev q49 : Prim U R49 := prims X [⟨60, fun _ => true, [.lend], F60 S60⟩, ⟨61, fun _ => true, [.lend, .lend], F61 S61⟩]
theorem s49 (c : Nat → S U → Option R49) (p0 : Bool) (p1 p2 : TI) : seg TP X q49 [] (fun q st => c q (keepD D49 (h49 p0 p1 p2).length q st)) body49 (finH TP Tryd.f49.results.toList (h49 p0 p1 p2).length false k49) (start [.agg [.bool p0, .imm 99 p1, .imm 99 p2]] Tryd.f49.ntmps (h49 p0 p1 p2)) = b49 p0 p1 p2  := by kernel_rfl
def f49 (_ : Nat) (p0 : Bool) (p1 p2 : TI) : Option R49 := b49 p0 p1 p2
theorem pure49 (p0 : Bool) (p1 p2 : TI) (pok : PrmOK TP X q49) (k : Nat) (r : R49) (h : f49 k p0 p1 p2 = some r) : PureH TP X 49 [.agg [.bool p0, .imm 99 p1, .imm 99 p2]] (h49 p0 p1 p2) (out49 r) (outh49 r) :=
  pure_gen good 0 (fn := Tryd.f49) (body := body49) (prim := q49) (D := D49) (cuts := []) (h := h49 p0 p1 p2) (own := false) (by kernel_rfl) (by kernel_rfl) (by decide +kernel) pok hk49 (by
    rw [s49]
    exact h)
def F49 {R : Type} (spec : (Bool) → TI → TI → Option R49) : Fn U R := fun args h k => match args, h with | [.agg [.bool p0, .imm 99 p1, .imm 99 p2]], [] => (spec p0 p1 p2).bind fun r => k (out49 r) (outh49 r) | _, _ => none
theorem ok49 {R : Type} (spec : (Bool) → TI → TI → Option R49) (hp : ∀ (p0 : Bool) (p1 : TI) (p2 : TI) (r : R49), spec p0 p1 p2 = some r → PureH TP X 49 [.agg [.bool p0, .imm 99 p1, .imm 99 p2]] (h49 p0 p1 p2) (out49 r) (outh49 r)) : FnOK TP X 49 (F49 spec : Fn U R) := by
  intro args h k r hh
  unfold F49 at hh
  split at hh
  · obtain ⟨x, h1, h2⟩ := Option.bind_eq_some_iff.1 hh
    exact ⟨_, _, h2, hp _ _ _ _ h1⟩
  · cases hh
theorem pok49 : PrmOK TP X q49 := prims_cons good okS60 (prims_cons good okS61 (prims_nil TP X mixed))
noncomputable def S49 (p0 : Bool) (p1 p2 : TI) : Option R49 := evv fun k => f49 k p0 p1 p2
theorem okS49 {R : Type} : FnOK TP X 49 (F49 S49 : Fn U R) := ok49 S49 fun p0 p1 p2 r h => by
  obtain ⟨k, hk⟩ := evv_fuel h
  exact pure49 p0 p1 p2 pok49 k r hk
end
end Go.Abs.Z
namespace Go.Abs.Z
open Go Go.Abs Limb Num
theorem loop92 (p0 : List Int) (h : p0.length < 4611686018427387904) : ∀ n : Nat, n ≤ p0.length → Evt (fun k => f92_2 p0 k (n : Int)) (p0.take (tn p0 n))
  | 0, _ => Evt.last fun k => by
    show b92_2 p0 (f92_2 p0 k) ((0 : Nat) : Int) = _
    unfold b92_2
    simp (disch := omega) only [cT, cF]
    rfl
  | n + 1, hn => by
    have e0 : IntKind.i64.wrap (((n + 1 : Nat) : Int) - 1) = (n : Int) := by rw [wi64] <;> omega
    by_cases hz : p0.getD n 0 = 0
    · have et : tn p0 (n + 1) = tn p0 n := by show (if _ then _ else _) = _; rw [if_pos hz]
      rw [et]
      refine Evt.step (loop92 p0 h n (by omega)) fun k => ?_
      show b92_2 p0 (f92_2 p0 k) ((n + 1 : Nat) : Int) = _
      unfold b92_2
      rw [e0]
      simp only [Int.toNat_natCast, dflt99]
      simp (disch := omega) only [cT, cF, cE]
    · have et : tn p0 (n + 1) = n + 1 := by show (if _ then _ else _) = _; rw [if_neg hz]
      rw [et]
      refine Evt.last fun k => ?_
      show b92_2 p0 (f92_2 p0 k) ((n + 1 : Nat) : Int) = _
      unfold b92_2
      rw [e0]
      simp only [Int.toNat_natCast, dflt99]
      simp (disch := omega) only [cT, cF, cN]
theorem run92 {p0 : List Int} (h : p0.length < 4611686018427387904) : S92 p0 = some (trimL p0) := evv_eq (loop92 p0 h p0.length (Nat.le_refl _))
theorem loop92h (p0 : List Int) (h : p0.length < 4611686018427387904) : ∀ n : Nat, n ≤ p0.length → Evt (fun k => f92h_2 p0 k (n : Int)) (p0.take (tn p0 n))
  | 0, _ => Evt.last fun k => by
    show b92h_2 p0 (f92h_2 p0 k) ((0 : Nat) : Int) = _
    unfold b92h_2
    simp (disch := omega) only [cT, cF]
    rfl
  | n + 1, hn => by
    have e0 : IntKind.i64.wrap (((n + 1 : Nat) : Int) - 1) = (n : Int) := by rw [wi64] <;> omega
    by_cases hz : p0.getD n 0 = 0
    · have et : tn p0 (n + 1) = tn p0 n := by show (if _ then _ else _) = _; rw [if_pos hz]
      rw [et]
      refine Evt.step (loop92h p0 h n (by omega)) fun k => ?_
      show b92h_2 p0 (f92h_2 p0 k) ((n + 1 : Nat) : Int) = _
      unfold b92h_2
      rw [e0]
      simp only [Int.toNat_natCast, dflt99]
      simp (disch := omega) only [cT, cF, cE]
    · have et : tn p0 (n + 1) = n + 1 := by show (if _ then _ else _) = _; rw [if_neg hz]
      rw [et]
      refine Evt.last fun k => ?_
      show b92h_2 p0 (f92h_2 p0 k) ((n + 1 : Nat) : Int) = _
      unfold b92h_2
      rw [e0]
      simp only [Int.toNat_natCast, dflt99]
      simp (disch := omega) only [cT, cF, cN]
      rfl
theorem run92h {p0 : List Int} (h : p0.length < 4611686018427387904) : S92h p0 = some (trimL p0) := evv_eq (loop92h p0 h p0.length (Nat.le_refl _))
theorem trimmed2 {l : List Int} (h : Ok l) (hl : l.length < 4611686018427387904) : ∃ r, S92 l = some r ∧ Is r (val l) := ⟨_, run92 hl, trim_is h⟩
theorem trimmed2H {l : List Int} (h : Ok l) (hl : l.length < 4611686018427387904) : ∃ r, S92h l = some r ∧ Is r (val l) := ⟨_, run92h hl, trim_is h⟩
theorem loop78 {p0 : List Int} (ho : Ok p0) (hl : p0.length ≤ 2) : ∀ n : Nat, n ≤ p0.length → Evt (fun k => f78_3 p0 k (val (p0.drop n)) ((n : Int) - 1)) (val p0)
  | 0, _ => Evt.last fun k => by
    show b78_3 p0 (f78_3 p0 k) (val (p0.drop 0)) (((0 : Nat) : Int) - 1) = _
    unfold b78_3
    simp (disch := omega) only [cF]
    rfl
  | n + 1, hn => by
    refine Evt.step (loop78 ho hl n (by omega)) fun k => ?_
    show b78_3 p0 (f78_3 p0 k) (val (p0.drop (n + 1))) (((n + 1 : Nat) : Int) - 1) = _
    unfold b78_3
    have e1 : (((n + 1 : Nat) : Int) - 1) = (n : Int) := by omega
    have e2 : IntKind.i64.wrap ((n : Int) - 1) = (n : Int) - 1 := by rw [wi64] <;> omega
    rw [e1, e2]
    simp only [Int.toNat_natCast, dflt99]
    simp (disch := omega) only [cT, cF]
    have b := val_bound (ho.drop (n + 1))
    have hb : val (p0.drop (n + 1)) < 4294967296 := by
      have hp := P_mono (m := (p0.drop (n + 1)).length) (n := 1) (by simp; omega)
      have : P 1 = 4294967296 := by rfl
      omega
    have g := getD_ok ho n
    have es : shl .u64 (val (p0.drop (n + 1))) 32 = val (p0.drop (n + 1)) * 2 ^ 32 := by
      refine (shl64 32 (by decide)).trans ?_
      omega
    have ew : IntKind.u64.wrap (p0.getD n 0) = p0.getD n 0 := by rw [wu64]; omega
    rw [es, ew, or_low b.1 g.1 (by omega) (by omega), drop_val p0 n (by omega)]
    congr 1
    omega
theorem run78 {p0 : List Int} (ho : Ok p0) (hl : p0.length ≤ 2) : S78 p0 = some (val p0) := evv_eq (by
  refine (loop78 ho hl p0.length (Nat.le_refl _)).same fun k => ?_
  show b78 p0 (f78_3 p0 k) = _
  unfold b78
  have e2 : IntKind.i64.wrap ((p0.length : Int) - 1) = (p0.length : Int) - 1 := by rw [wi64] <;> omega
  rw [e2, List.drop_length]; rfl)
theorem loop80 {a b : List Int} {V : Int} (ha : Ok a) (hb : Ok b) (hl : a.length ≤ 1073741824) (hlb : b.length ≤ a.length) (hV : val a - val b = V) (h0 : 0 ≤ V) :
    ∀ (m i : Nat) (c : Int) (l : List Int), i + m = a.length → Ok l → l.length = a.length → -1 ≤ c → c ≤ 0 → l.drop i = a.drop i → val (l.take i) + c * P i = val (a.take i) - val (b.take i) →
    ∃ r, Evt (fun f => f80_3 b a f c (i : Int) l) r ∧ Is r V
  | 0, i, c, l, hi, hlo, hll, c0, c1, hd, hv => by
    obtain ⟨r, h2, h3⟩ := trimmed2H hlo (by omega)
    have ei : i = a.length := by omega
    subst ei
    rw [← hll, List.take_length, hll, List.take_length, List.take_of_length_le hlb, hV] at hv
    have bd := val_bound hlo
    rw [hll] at bd
    have hc : c = 0 := by
      rcases Int.lt_trichotomy c 0 with h | h | h
      · have : c = -1 := by omega
        rw [this] at hv; omega
      · exact h
      · omega
    have hval : V = val l := by rw [hc] at hv; omega
    refine ⟨r, ?_, by rw [hval]; exact h3⟩
    refine Evt.last fun f => ?_
    show b80_3 b a (f80_3 b a f) c (a.length : Int) l = _
    unfold b80_3
    simp (disch := omega) only [cF]
    rw [h2]; rfl
  | m + 1, i, c, l, hi, hlo, hll, c0, c1, hd, hv => by
    have gx := getD_ok ha i
    have gy := getD_ok hb i
    have el : l.getD i 0 = a.getD i 0 := Limb.drop_getD hd i (Nat.le_refl _)
    have e1 : IntKind.i64.wrap ((i : Int) + 1) = ((i + 1 : Nat) : Int) := by rw [wi64] <;> omega
    have m0 : 0 ≤ (c + a.getD i 0 - b.getD i 0) % 4294967296 := Int.emod_nonneg _ (by decide)
    have m1 : (c + a.getD i 0 - b.getD i 0) % 4294967296 < 4294967296 := Int.emod_lt_of_pos _ (by decide)
    obtain ⟨r, h2, h3⟩ := loop80 ha hb hl hlb hV h0 m (i + 1) ((c + a.getD i 0 - b.getD i 0) / 4294967296) (l.set i ((c + a.getD i 0 - b.getD i 0) % 4294967296)) (by omega) (hlo.set i m0 m1) (by simpa using hll) (by omega) (by omega) (Limb.drop_next hd) (by
      rw [val_take_succ _ i (by simp; omega), Limb.getD_set_self _ _ _ (by omega), List.take_set_of_le (Nat.le_refl i), val_take_any a, val_take_any b, P_succ]
      have ee := Int.mul_ediv_add_emod (c + a.getD i 0 - b.getD i 0) 4294967296
      generalize (c + a.getD i 0 - b.getD i 0) / 4294967296 = D at *
      generalize (c + a.getD i 0 - b.getD i 0) % 4294967296 = M at *
      generalize a.getD i 0 = x at *
      generalize b.getD i 0 = y at *
      generalize P i = Q at *
      generalize val (l.take i) = V1 at *
      generalize val (a.take i) = V2 at *
      generalize val (b.take i) = V3 at *
      have h5 : (4294967296 * D + M) * Q = (c + x - y) * Q := by rw [ee]
      grind)
    refine ⟨r, h2.step fun f => ?_, h3⟩
    show b80_3 b a (f80_3 b a f) c (i : Int) l = _
    unfold b80_3
    have wx : IntKind.i64.wrap (a.getD i 0) = a.getD i 0 := by rw [wi64] <;> omega
    have wy : IntKind.i64.wrap (b.getD i 0) = b.getD i 0 := by rw [wi64] <;> omega
    have w1 : IntKind.i64.wrap (c + a.getD i 0) = c + a.getD i 0 := by rw [wi64] <;> omega
    have w2 : IntKind.i64.wrap (c + a.getD i 0 - b.getD i 0) = c + a.getD i 0 - b.getD i 0 := by rw [wi64] <;> omega
    by_cases hyb : i < b.length
    · simp only [Int.toNat_natCast, dflt99, el, wx, wy, w1, w2, e1, shri64, wu32]
      simp (disch := omega) only [cT]
    · have hy0 : b.getD i 0 = 0 := getD_out (by omega)
      simp only [hy0, Int.sub_zero] at *
      simp only [Int.toNat_natCast, dflt99, el, wx, w1, e1, shri64, wu32]
      simp (disch := omega) only [cT, cF]
theorem run80 {a b : List Int} {A B : Int} (ha : Is a A) (hb : Is b B) (hl : a.length ≤ 1073741824) (h : B ≤ A) : ∃ r, S80 b a = some r ∧ Is r (A - B) := by
  have hlb : b.length ≤ a.length := len_le_of_val hb.ok hb.norm ha.ok (by rw [hb.val, ha.val]; exact h)
  obtain ⟨r, h2, h3⟩ := loop80 ha.ok hb.ok hl hlb (V := A - B) (by rw [ha.val, hb.val]) (by omega) a.length 0 0 a (by omega) ha.ok rfl (by omega) (by omega) rfl (by simp [val])
  exact ⟨r, evv_eq (h2.same fun f => rfl), h3⟩
end Go.Abs.Z
namespace Limb
theorem ext_getD {l l' : List Int} (h : l.length = l'.length) (hg : ∀ j, j < l.length → l.getD j 0 = l'.getD j 0) : l = l' := by
  apply List.ext_getElem h
  intro j h1 h2
  have := hg j h1
  rw [List.getD_eq_getElem?_getD, List.getD_eq_getElem?_getD, List.getElem?_eq_getElem h1, List.getElem?_eq_getElem h2] at this
  simpa using this
end Limb
namespace Go.Abs.Z
open Go Go.Abs Limb Num
theorem loop91_3 {a : List Int} (hl : a.length ≤ 1073741824) (hne : a ≠ []) : ∀ (m i : Nat) (l : List Int), i + m + 1 = a.length → l.length = a.length → (∀ j, j < i → l.getD j 0 = a.getD (j + 1) 0) → (∀ j, i ≤ j → l.getD j 0 = a.getD j 0) →
    Evt (fun f => f91_3 a f (i : Int) l) ((32, false, a.drop 1) : R91)
  | 0, i, l, hi, hll, h1, h2 => by
    have e1 : IntKind.i64.wrap ((i : Int) + 1) = ((i + 1 : Nat) : Int) := by rw [wi64] <;> omega
    have e2 : IntKind.i64.wrap ((l.length : Int) - 1) = ((a.length - 1 : Nat) : Int) := by rw [wi64] <;> omega
    refine Evt.last fun f => ?_
    show b91_3 a (f91_3 a f) (f91_8 a f) (f91_11 a f) (i : Int) l = _
    unfold b91_3
    rw [e1, e2]
    simp (disch := omega) only [cT, cF, Int.toNat_natCast]
    have : List.take (a.length - 1 - 0) l = a.drop 1 := by
      refine ext_getD (by simp; omega) fun j hj => ?_
      have hj' : j < a.length - 1 := by simp at hj; omega
      rw [List.getD_eq_getElem?_getD, List.getElem?_take, if_pos (by omega), ← List.getD_eq_getElem?_getD, h1 j (by omega)]
      rw [List.getD_eq_getElem?_getD, List.getD_eq_getElem?_getD, List.getElem?_drop, Nat.add_comm]
    rw [this]
  | m + 1, i, l, hi, hll, h1, h2 => by
    have e1 : IntKind.i64.wrap ((i : Int) + 1) = ((i + 1 : Nat) : Int) := by rw [wi64] <;> omega
    refine (loop91_3 hl hne m (i + 1) (l.set i (l.getD (i + 1) 0)) (by omega) (by simpa using hll) (fun j hj => ?_) (fun j hj => ?_)).step fun f => ?_
    · by_cases e : j = i
      · subst e; rw [Limb.getD_set_self _ _ _ (by omega)]; exact h2 _ (by omega)
      · rw [Limb.getD_set_other _ _ _ _ (by omega)]; exact h1 j (by omega)
    · rw [Limb.getD_set_other _ _ _ _ (by omega)]; exact h2 j (by omega)
    · show b91_3 a (f91_3 a f) (f91_8 a f) (f91_11 a f) (i : Int) l = _
      unfold b91_3
      rw [e1]
      simp (disch := omega) only [cT, Int.toNat_natCast, dflt99]
theorem shiftMix {A B : Int} {k : Nat} (hA : 0 ≤ A) (hA' : A < 4294967296) (hB : 0 ≤ B) (hB' : B < 4294967296) (hk : k < 32) :
    IntKind.u32.wrap (shr .u64 (bits .or .u64 (IntKind.u64.wrap A) (shl .u64 (IntKind.u64.wrap B) 32)) (IntKind.u64.wrap (k : Int))) = A / 2 ^ k + (B % 2 ^ k) * 2 ^ (32 - k) := by
  have hp : (0 : Int) < 2 ^ k := Int.pow_pos (by decide)
  have hp2 : (0 : Int) < 2 ^ (32 - k) := Int.pow_pos (by decide)
  have ep := pow32 (k := k) (by omega)
  have w1 : IntKind.u64.wrap A = A := by rw [wu64]; omega
  have w2 : IntKind.u64.wrap B = B := by rw [wu64]; omega
  have w3 : IntKind.u64.wrap (k : Int) = (k : Int) := by rw [wu64]; omega
  have e1 : shl .u64 B 32 = B * 2 ^ 32 := by
    have : shl .u64 B 32 = B * 2 ^ 32 % 18446744073709551616 := shl64 32 (by decide)
    rw [this, Int.emod_eq_of_lt (Int.mul_nonneg hB (by decide)) (by omega)]
  rw [w1, w2, w3, e1, or_low' hB hA (by simpa using hA') (by omega), shr64 k (by omega), wu32]
  have d0 : 0 ≤ A / 2 ^ k := Int.ediv_nonneg hA (Int.le_of_lt hp)
  have d1 : A / 2 ^ k < 2 ^ (32 - k) := Int.ediv_lt_of_lt_mul hp (by rw [ep]; exact hA')
  have e2 : (B * 2 ^ 32 + A) / 2 ^ k = B * 2 ^ (32 - k) + A / 2 ^ k := by
    have : B * 2 ^ 32 = B * 2 ^ (32 - k) * 2 ^ k := by rw [Int.mul_assoc, ep]; rfl
    rw [this, Int.add_comm, Int.add_mul_ediv_right _ _ (by omega)]; omega
  rw [e2]
  have e3 : B * 2 ^ (32 - k) % 4294967296 = (B % 2 ^ k) * 2 ^ (32 - k) := by
    rw [mod_shift (by omega), show 32 - (32 - k) = k from by omega]
  have m0 : 0 ≤ B % 2 ^ k := Int.emod_nonneg _ (by omega)
  have m1 : B % 2 ^ k < 2 ^ k := Int.emod_lt_of_pos _ hp
  have m2 := Int.mul_nonneg m0 (Int.le_of_lt hp2)
  have m3 := Int.mul_le_mul_of_nonneg_right (show B % 2 ^ k + 1 ≤ 2 ^ k by omega) (Int.le_of_lt hp2)
  rw [Int.add_mul, Int.one_mul, Int.mul_comm (2 ^ k), ep] at m3
  omega
theorem loop91_11 {a : List Int} {k : Nat} (ha : Ok a) (hl : a.length ≤ 1073741824) (hk : k < 32) (hk0 : 0 < k) : ∀ (m i : Nat) (l : List Int), i + m = a.length → Ok l → l.length = a.length → l.drop i = a.drop i → val (l.take i) * 2 ^ k + a.getD 0 0 % 2 ^ k = val (a.take i) + (a.getD i 0 % 2 ^ k) * P i →
    ∃ r, Evt (fun f => f91_11 a f (k : Int) (i : Int) l) (((k : Int), true, r) : R91) ∧ Is r (val a / 2 ^ k)
  | 0, i, l, hi, hlo, hll, hd, hv => by
    obtain ⟨r, h2, h3⟩ := trimmed2H hlo (by omega)
    have hp : (0 : Int) < 2 ^ k := Int.pow_pos (by decide)
    have ei : i = a.length := by omega
    subst ei
    rw [List.take_length, ← hll, List.take_length, hll, getD_out (Nat.le_refl _), Int.zero_emod, Int.zero_mul, Int.add_zero] at hv
    have hval : val a / 2 ^ k = val l := by
      rw [← hv, Int.add_comm, Int.add_mul_ediv_right _ _ (by omega), Int.ediv_eq_zero_of_lt (Int.emod_nonneg _ (by omega)) (Int.emod_lt_of_pos _ hp)]
      omega
    refine ⟨r, ?_, by rw [hval]; exact h3⟩
    refine Evt.last fun f => ?_
    show b91_11 a (f91_3 a f) (f91_8 a f) (f91_11 a f) (k : Int) (a.length : Int) l = _
    unfold b91_11
    simp (disch := omega) only [cF]
    rw [h2]; rfl
  | m + 1, i, l, hi, hlo, hll, hd, hv => by
    have g := getD_ok ha i
    have g' := getD_ok ha (i + 1)
    have hp : (0 : Int) < 2 ^ k := Int.pow_pos (by decide)
    have hp2 : (0 : Int) < 2 ^ (32 - k) := Int.pow_pos (by decide)
    have ep := pow32 (k := k) (by omega)
    obtain ⟨o0, o1, o2⟩ := halfAt_ok ha hk i
    have e1 : IntKind.i64.wrap ((i : Int) + 1) = ((i + 1 : Nat) : Int) := by rw [wi64] <;> omega
    have el : l.getD i 0 = a.getD i 0 := Limb.drop_getD hd i (Nat.le_refl _)
    have el' : l.getD (i + 1) 0 = a.getD (i + 1) 0 := Limb.drop_getD hd (i + 1) (by omega)
    have hset : Ok (l.set i (halfAt a k i)) := hlo.set i o0 o1
    obtain ⟨r, h2, h3⟩ := loop91_11 ha hl hk hk0 m (i + 1) (l.set i (halfAt a k i)) (by omega) hset (by simpa using hll) (Limb.drop_next hd) (by
      rw [val_take_succ _ i (by simp; omega), Limb.getD_set_self _ _ _ (by omega), List.take_set_of_le (Nat.le_refl i), val_take_succ a i (by omega), P_succ]
      have ee := Int.mul_ediv_add_emod (a.getD i 0) (2 ^ k)
      unfold halfAt
      have e4 : (val (l.take i) + (a.getD i 0 / 2 ^ k + a.getD (i + 1) 0 % 2 ^ k * 2 ^ (32 - k)) * P i) * 2 ^ k = val (l.take i) * 2 ^ k + 2 ^ k * (a.getD i 0 / 2 ^ k) * P i + (a.getD (i + 1) 0 % 2 ^ k) * P i * (2 ^ (32 - k) * 2 ^ k) := by
        generalize (2 : Int) ^ (32 - k) = B
        generalize a.getD i 0 / 2 ^ k = D
        generalize a.getD (i + 1) 0 % 2 ^ k = M
        generalize (2 : Int) ^ k = K
        grind
      rw [e4, ep]
      have e5 : val (a.take i) + a.getD i 0 * P i = val (a.take i) + 2 ^ k * (a.getD i 0 / 2 ^ k) * P i + (a.getD i 0 % 2 ^ k) * P i := by
        have : a.getD i 0 * P i = (2 ^ k * (a.getD i 0 / 2 ^ k) + a.getD i 0 % 2 ^ k) * P i := by rw [ee]
        rw [this, Int.add_mul]; omega
      rw [e5]
      generalize a.getD (i + 1) 0 % 2 ^ k = M at *
      generalize a.getD i 0 % 2 ^ k = M1 at *
      generalize a.getD i 0 / 2 ^ k = M2 at *
      grind)
    refine ⟨r, h2.step fun f => ?_, h3⟩
    show b91_11 a (f91_3 a f) (f91_8 a f) (f91_11 a f) (k : Int) (i : Int) l = _
    have w3 : IntKind.u64.wrap (k : Int) = (k : Int) := by rw [wu64]; omega
    unfold b91_11
    simp only [e1, Int.toNat_natCast, dflt99, el, el']
    by_cases hlast : i + 1 < a.length
    · rw [shiftMix g.1 g.2 g'.1 g'.2 hk]
      have c1 : (0 : Int) ≤ IntKind.u64.wrap (k : Int) := by rw [w3]; omega
      rw [cT c1]
      simp (disch := omega) only [cT]
      try rfl
    · have eh : halfAt a k i = a.getD i 0 / 2 ^ k := by
        unfold halfAt
        rw [getD_out (by omega : a.length ≤ i + 1)]; simp
      have w1 : IntKind.u64.wrap (a.getD i 0) = a.getD i 0 := by rw [wu64]; omega
      have c1 : (0 : Int) ≤ IntKind.u64.wrap (k : Int) := by rw [w3]; omega
      have e6 : IntKind.u32.wrap (shr .u64 (IntKind.u64.wrap (a.getD i 0)) (IntKind.u64.wrap (k : Int))) = a.getD i 0 / 2 ^ k := by
        rw [w1, w3, shr64 k (by omega), wu32]
        have h1 := Int.ediv_nonneg g.1 (Int.le_of_lt hp)
        have h2 := Int.ediv_le_self (2 ^ k) g.1
        omega
      rw [e6, eh]
      simp (disch := omega) only [cT, cF]
theorem band1 {y : Int} (h0 : 0 ≤ y) (h1 : y < 4294967296) : bits .and .u32 y 1 = y % 2 := by
  rw [band32 h0 h1 (by decide) (by decide)]
  show ((y.toNat &&& 1 : Nat) : Int) = _
  rw [Nat.and_one_is_mod]; omega
theorem loop91_8 {a : List Int} (ha : Ok a) (hlen : 0 < a.length) {r : R91} (hx : 0 < a.getD 0 0) : ∀ (m i : Nat), i + m = 32 → a.getD 0 0 % 2 ^ i = 0 → (∀ n : Nat, n < 32 → a.getD 0 0 % 2 ^ n = 0 → a.getD 0 0 / 2 ^ n % 2 = 1 → Evt (fun f => f91_11 a f (n : Int) 0 a) r) → Evt (fun f => f91_8 a f (i : Int)) r
  | 0, i, hi, hz, _ => by
    have g := getD_ok ha 0
    have : i = 32 := by omega
    subst this
    have : a.getD 0 0 % 4294967296 = 0 := hz
    omega
  | m + 1, i, hi, hz, hK => by
    have g := getD_ok ha 0
    have hp : (0 : Int) < 2 ^ i := Int.pow_pos (by decide)
    have w3 : IntKind.u64.wrap (i : Int) = (i : Int) := by rw [wu64]; omega
    have e1 : IntKind.i64.wrap ((i : Int) + 1) = ((i + 1 : Nat) : Int) := by rw [wi64] <;> omega
    have es : shr .u32 (a.getD 0 0) (i : Int) = a.getD 0 0 / 2 ^ i := shr32 i (by omega)
    have d0 := Int.ediv_nonneg g.1 (Int.le_of_lt hp)
    have d1 := Int.ediv_le_self (2 ^ i) g.1
    have eb := band1 d0 (by omega)
    have c1 : (0 : Int) ≤ IntKind.u64.wrap (i : Int) := by rw [w3]; omega
    have em := Int.mul_ediv_add_emod (a.getD 0 0) (2 ^ i)
    have z : Int.toNat 0 = 0 := rfl
    by_cases hb : a.getD 0 0 / 2 ^ i % 2 = 0
    · have hz' : a.getD 0 0 % 2 ^ (i + 1) = 0 := by
        have h2 : a.getD 0 0 = 2 ^ (i + 1) * (a.getD 0 0 / 2 ^ i / 2) := by
          have := Int.mul_ediv_add_emod (a.getD 0 0 / 2 ^ i) 2
          rw [Int.pow_succ]
          rw [hz, Int.add_zero] at em
          rw [hb, Int.add_zero] at this
          generalize a.getD 0 0 / 2 ^ i / 2 = y at *
          generalize a.getD 0 0 / 2 ^ i = x at *
          rw [Int.mul_assoc, this]; exact em.symm
        rw [h2]; exact Int.mul_emod_right _ _
      refine (loop91_8 ha hlen hx m (i + 1) (by omega) hz' hK).step fun f => ?_
      show b91_8 a (f91_3 a f) (f91_8 a f) (f91_11 a f) (i : Int) = _
      unfold b91_8
      simp only [z, dflt99, w3, es, eb, e1]
      simp (disch := omega) only [cT, cE]
    · refine (hK i (by omega) hz (by omega)).step fun f => ?_
      show b91_8 a (f91_3 a f) (f91_8 a f) (f91_11 a f) (i : Int) = _
      unfold b91_8
      simp only [z, dflt99, w3, es, eb, e1]
      simp (disch := omega) only [cT, cN]
theorem run91 {a : List Int} {A : Int} (ha : Is a A) (hA : 0 < A) (hl : a.length ≤ 1073741824) : ∃ (k : Nat) (b : Bool) (r : List Int) (B : Int), S91 a = some ((k : Int), b, r) ∧ Is r B ∧ A = B * 2 ^ k ∧ (b = false → k = 32) ∧ (b = true → B % 2 = 1) ∧ k ≤ 32 := by
  have hne : a ≠ [] := fun h => by have := ha.nil_iff.1 h; omega
  have hlen : 0 < a.length := List.length_pos_iff.2 hne
  have z : Int.toNat 0 = 0 := rfl
  have g := getD_ok ha.ok 0
  have hv : val a = a.getD 0 0 + 4294967296 * val (a.drop 1) := by
    have := drop_val a 0 hlen
    simpa using this
  have entry : ∀ f, b91 a (f91_3 a f) (f91_8 a f) (f91_11 a f) = if a.getD 0 0 = 0 then f91_3 a f 0 a else f91_8 a f 0 := fun f => by
    unfold b91
    simp only [z, dflt99]
    split
    · rename_i h; simp (disch := omega) only [cT, cE]
    · rename_i h; simp (disch := omega) only [cT, cN]
  by_cases h0 : a.getD 0 0 = 0
  · have hd : 2 ≤ a.length := by
      refine Nat.lt_of_not_le fun hle => ?_
      have : a.drop 1 = [] := List.drop_eq_nil_of_le (by omega)
      rw [this, h0, ha.val] at hv
      have : val [] = 0 := rfl
      omega
    have hnorm : Norm (a.drop 1) := by
      rcases ha.norm with h | h
      · exact absurd h hne
      · right
        rw [List.length_drop, List.getD_eq_getElem?_getD, List.getElem?_drop, ← List.getD_eq_getElem?_getD, show 1 + (a.length - 1 - 1) = a.length - 1 from by omega]; exact h
    refine ⟨32, false, a.drop 1, val (a.drop 1), evv_eq ((loop91_3 hl hne (a.length - 1) 0 a (by omega) rfl (fun j hj => by omega) (fun j _ => rfl)).same fun f => ?_), ⟨ha.ok.drop 1, hnorm, rfl⟩, ?_, fun _ => rfl, fun h => (by cases h), Nat.le_refl _⟩
    · show b91 a (f91_3 a f) (f91_8 a f) (f91_11 a f) = _
      rw [entry, if_pos h0]; rfl
    · rw [ha.val] at hv; omega
  · obtain ⟨n, hn, hz, hodd⟩ : ∃ n, n < 32 ∧ a.getD 0 0 % 2 ^ n = 0 ∧ a.getD 0 0 / 2 ^ n % 2 = 1 := by
      have : ∀ m i, i + m = 32 → a.getD 0 0 % 2 ^ i = 0 → ∃ n, n < 32 ∧ a.getD 0 0 % 2 ^ n = 0 ∧ a.getD 0 0 / 2 ^ n % 2 = 1 := by
        intro m
        induction m with
        | zero =>
          intro i hi hz
          have : i = 32 := by omega
          subst this
          have : a.getD 0 0 % 4294967296 = 0 := hz
          omega
        | succ m ih =>
          intro i hi hz
          by_cases hb : a.getD 0 0 / 2 ^ i % 2 = 0
          · refine ih (i + 1) (by omega) ?_
            have em := Int.mul_ediv_add_emod (a.getD 0 0) (2 ^ i)
            have h2 : a.getD 0 0 = 2 ^ (i + 1) * (a.getD 0 0 / 2 ^ i / 2) := by
              have := Int.mul_ediv_add_emod (a.getD 0 0 / 2 ^ i) 2
              rw [Int.pow_succ]
              rw [hz, Int.add_zero] at em
              rw [hb, Int.add_zero] at this
              generalize a.getD 0 0 / 2 ^ i / 2 = y at *
              generalize a.getD 0 0 / 2 ^ i = x at *
              rw [Int.mul_assoc, this]; exact em.symm
            rw [h2]; exact Int.mul_emod_right _ _
          · exact ⟨i, by omega, hz, by omega⟩
      exact this 32 0 rfl (by simp [Int.emod_one])
    have uniq : ∀ n', n' < 32 → a.getD 0 0 % 2 ^ n' = 0 → a.getD 0 0 / 2 ^ n' % 2 = 1 → n' = n := by
      have key : ∀ p q : Nat, p < q → a.getD 0 0 % 2 ^ q = 0 → a.getD 0 0 / 2 ^ p % 2 = 1 → False := by
        intro p q hpq hz ho
        have em := Int.mul_ediv_add_emod (a.getD 0 0) (2 ^ q)
        rw [hz, Int.add_zero] at em
        have e : (2 : Int) ^ q = 2 ^ p * (2 * 2 ^ (q - p - 1)) := by
          rw [← Int.pow_succ', ← Int.pow_add]; congr 1; omega
        have e2 : a.getD 0 0 / 2 ^ p = 2 * (2 ^ (q - p - 1) * (a.getD 0 0 / 2 ^ q)) := by
          have h1 : a.getD 0 0 = 2 ^ p * (2 * (2 ^ (q - p - 1) * (a.getD 0 0 / 2 ^ q))) := by
            rw [← Int.mul_assoc 2, ← Int.mul_assoc, ← e]; exact em.symm
          have hp : (2 : Int) ^ p ≠ 0 := Int.ne_of_gt (Int.pow_pos (by decide))
          generalize (2 * (2 ^ (q - p - 1) * (a.getD 0 0 / 2 ^ q))) = Y at *
          rw [h1]; exact Int.mul_ediv_cancel_left _ hp
        rw [e2] at ho; omega
      intro n' h1 h2 h3
      rcases Nat.lt_trichotomy n' n with h | h | h
      · exact (key n' n h hz h3).elim
      · exact h
      · exact (key n n' h h2 hodd).elim
    have hp : (0 : Int) < 2 ^ n := Int.pow_pos (by decide)
    have ev : A = (A / 2 ^ n) * 2 ^ n ∧ A / 2 ^ n % 2 = 1 := by
      have em := Int.mul_ediv_add_emod (a.getD 0 0) (2 ^ n)
      rw [hz, Int.add_zero] at em
      have e32 : (4294967296 : Int) = 2 ^ n * (2 * 2 ^ (31 - n)) := by
        rw [← Int.pow_succ', ← Int.pow_add, show n + (31 - n + 1) = 32 from by omega]; rfl
      have hA2 : A = 2 ^ n * (a.getD 0 0 / 2 ^ n + 2 * (2 ^ (31 - n) * val (a.drop 1))) := by
        rw [← ha.val, hv]
        generalize val (a.drop 1) = D at *
        have : 4294967296 * D = 2 ^ n * (2 * 2 ^ (31 - n)) * D := by rw [← e32]
        rw [this, Int.mul_add, em, Int.mul_assoc, Int.mul_assoc]
      have hq : A / 2 ^ n = a.getD 0 0 / 2 ^ n + 2 * (2 ^ (31 - n) * val (a.drop 1)) := by
        have hp' : (2 : Int) ^ n ≠ 0 := Int.ne_of_gt hp
        generalize (a.getD 0 0 / 2 ^ n + 2 * (2 ^ (31 - n) * val (a.drop 1))) = Y at *
        rw [hA2]; exact Int.mul_ediv_cancel_left _ hp'
      refine ⟨?_, ?_⟩
      · rw [hq, Int.mul_comm]; exact hA2
      · rw [hq]; omega
    have final : ∃ r, Evt (fun f => f91_11 a f (n : Int) 0 a) (((n : Int), true, r) : R91) ∧ Is r (A / 2 ^ n) := by
      by_cases hn0 : 0 < n
      · obtain ⟨r, h1, h2⟩ := loop91_11 ha.ok hl hn hn0 a.length 0 a (by omega) ha.ok rfl rfl (by rw [List.take_zero, P_zero, Int.mul_one]; simp [val])
        rw [ha.val] at h2
        exact ⟨r, h1, h2⟩
      · have : n = 0 := by omega
        subst this
        obtain ⟨r, h2, h3⟩ := trimmed2H ha.ok (by omega)
        refine ⟨r, Evt.last fun f => ?_, by rw [ha.val] at h3; simpa using h3⟩
        show b91_11 a (f91_3 a f) (f91_8 a f) (f91_11 a f) ((0 : Nat) : Int) 0 a = _
        unfold b91_11
        simp (disch := omega) only [cT, cF]
        rw [h2]; rfl
    obtain ⟨r, h1, h2⟩ := final
    refine ⟨n, true, r, A / 2 ^ n, evv_eq ((loop91_8 ha.ok hlen (r := ((n : Int), true, r)) (by omega) 32 0 rfl (by simp [Int.emod_one]) fun n' k1 k2 k3 => by rw [uniq n' k1 k2 k3]; exact h1).same fun f => ?_), h2, ev.1, fun h => (by cases h), fun _ => ev.2, by omega⟩
    show b91 a (f91_3 a f) (f91_8 a f) (f91_11 a f) = _
    rw [entry, if_neg h0]; rfl
end Go.Abs.Z
namespace Go.Abs.Z
open Go Go.Abs Limb Num
theorem pow_mono2 {m n : Nat} (h : m ≤ n) : (2 : Int) ^ m ≤ 2 ^ n := by
  obtain ⟨d, rfl⟩ := Nat.le.dest h
  rw [Int.pow_add]
  have h1 : (0 : Int) < 2 ^ d := Int.pow_pos (by decide)
  have := Int.mul_le_mul_of_nonneg_left (show (1 : Int) ≤ 2 ^ d by omega) (Int.le_of_lt (Int.pow_pos (by decide) : (0 : Int) < 2 ^ m))
  omega
theorem loop74 {p0 : List Int} {A0 : Int} {N : Nat} (hN : N ≤ 34359738368) (h0 : A0 < 2 ^ N) : ∀ (G : Nat) (a : List Int) (A : Int) (j : Nat), A.toNat ≤ G → Is a A → 0 < A → a.length ≤ 1073741824 → A * 2 ^ j = A0 →
    ∃ (k : Nat) (r : List Int) (B : Int), Evt (fun f => f74_2 p0 f (j : Int) a) (((k : Int), r) : R74) ∧ Is r B ∧ A0 = B * 2 ^ k ∧ B % 2 = 1 := by
  intro G
  induction G with
  | zero => intro a A j hG ha hA; omega
  | succ G ih =>
    intro a A j hG ha hA hl hj
    obtain ⟨k, b, r, B, h1, h2, h3, h4, h5, h6⟩ := run91 ha hA hl
    have hB : 0 < B := by
      refine Int.lt_of_not_ge fun hle => ?_
      have := h2.nonneg
      have hB0 : B = 0 := by omega
      rw [hB0, Int.zero_mul] at h3; omega
    have hjb : j < N := by
      refine Nat.lt_of_not_le fun hle => ?_
      have h7 := pow_mono2 hle
      have h8 := Int.mul_le_mul_of_nonneg_right (show 1 ≤ A by omega) (Int.le_of_lt (Int.pow_pos (by decide) : (0 : Int) < 2 ^ j))
      omega
    have e1 : IntKind.i64.wrap ((j : Int) + (k : Int)) = ((j + k : Nat) : Int) := by rw [wi64] <;> omega
    have hval : B * 2 ^ (j + k) = A0 := by
      rw [← hj, h3, Nat.add_comm, Int.pow_add, Int.mul_assoc]
    cases b with
    | true =>
      refine ⟨j + k, r, B, Evt.last fun f => ?_, h2, hval.symm, h5 rfl⟩
      show b74_2 p0 (f74_2 p0 f) (j : Int) a = _
      unfold b74_2
      rw [h1]
      simp only [Option.bind_some, cond_true, e1]
    | false =>
      have hk : k = 32 := h4 rfl
      have hlt : B < A := by
        rw [h3, hk]
        have : B * 2 ^ 32 = B * 4294967296 := rfl
        omega
      have hlr : r.length ≤ a.length := len_le_of_val h2.ok h2.norm ha.ok (by rw [h2.val, ha.val]; omega)
      obtain ⟨k', r', B', g1, g2, g3, g4⟩ := ih r B (j + k) (by omega) h2 hB (by omega) hval
      refine ⟨k', r', B', g1.step fun f => ?_, g2, g3, g4⟩
      show b74_2 p0 (f74_2 p0 f) (j : Int) a = _
      unfold b74_2
      rw [h1]
      simp only [Option.bind_some, cond_false, e1, List.take_length]
theorem lt_pow_of_len {a : List Int} (ha : Ok a) {L : Nat} (h : a.length ≤ L) : val a < 2 ^ (32 * L) := by
  have h1 := (val_bound ha).2
  have h2 := P_mono h
  rw [P_two] at h2
  rw [P_two] at h1 h2
  omega
theorem run74 {a : List Int} {A : Int} (ha : Is a A) (hA : 0 < A) (hl : a.length ≤ 1073741824) : ∃ (k : Nat) (r : List Int) (B : Int), S74 a = some ((k : Int), r) ∧ Is r B ∧ A = B * 2 ^ k ∧ B % 2 = 1 := by
  have h := lt_pow_of_len ha.ok (Nat.le_refl _)
  rw [ha.val] at h
  obtain ⟨k, r, B, h1, h2⟩ := loop74 (p0 := a) (A0 := A) (by omega) h _ a A 0 (Nat.le_refl _) ha hA hl (by simp)
  refine ⟨k, r, B, evv_eq (h1.same fun f => ?_), h2⟩
  show b74 a (f74_2 a f) = _
  unfold b74
  rw [List.take_length]; rfl
theorem loop77 {p0 p1 A B : Int} : ∀ (G : Nat) (x y : Int), y.toNat ≤ G → 0 ≤ x → 0 ≤ y → CD x y A B → ∃ g : Int, Evt (fun f => f77_1 p0 p1 f x y) g ∧ IsG g A B ∧ (g = x ∨ g ≤ y) := by
  intro G
  induction G with
  | zero => ?_
  | succ G ih => ?_
  all_goals
    intro x y hG x0 y0 hcd
    by_cases hy : 0 < y
    · have m0 := Int.emod_nonneg x (b := y) (by omega)
      have m1 := Int.emod_lt_of_pos x hy
      first
      | (exfalso; omega)
      | (have e : x - x / y * y = x % y := by have := Int.mul_ediv_add_emod x y; rw [Int.mul_comm] at this; omega
         obtain ⟨g, h1, h2, h3⟩ := ih y (x % y) (by omega) y0 m0 (by have := hcd.step (x / y); rwa [e] at this)
         refine ⟨g, h1.step fun f => ?_, h2, by omega⟩
         show b77_1 p0 p1 (f77_1 p0 p1 f) x y = _
         unfold b77_1
         rw [Int.tmod_eq_emod_of_nonneg x0]
         simp (disch := omega) only [cT, cF])
    · have h0 : y = 0 := by omega
      subst h0
      refine ⟨x, Evt.last fun f => ?_, .of_zero x0 hcd, .inl rfl⟩
      show b77_1 p0 p1 (f77_1 p0 p1 f) x 0 = _
      unfold b77_1
      simp (disch := omega) only [cF]
theorem run77 {x y : Int} (hx : 0 ≤ x) (hy : 0 ≤ y) : ∃ g : Int, S77 x y = some g ∧ IsG g x y ∧ (g = x ∨ g ≤ y) := by
  obtain ⟨g, h1, h2, h3⟩ := loop77 (p0 := x) (p1 := y) _ x y (Nat.le_refl _) hx hy (CD.refl x y)
  exact ⟨g, evv_eq (h1.same fun f => rfl), h2, h3⟩
theorem run76 {x : Int} (h0 : 0 ≤ x) (h1 : x < 18446744073709551616) : ∃ r, S76 x = some r ∧ Is r x := by
  have e : shr .u64 x 32 = x / 4294967296 := shr64 32 (by decide)
  obtain ⟨r, h2, h3⟩ := trimmed2 (l := [x % 4294967296, x / 4294967296 % 4294967296]) (Ok.mk (by omega) (by omega) (Ok.mk (by omega) (by omega) Ok.nil)) (by simp)
  refine ⟨r, evv_eq (Evt.now fun k => ?_), ?_⟩
  · show b76 x = _
    unfold b76
    rw [e, wu32, wu32, h2]; rfl
  · have : val [x % 4294967296, x / 4294967296 % 4294967296] = x := by simp only [val]; omega
    rw [this] at h3; exact h3
theorem loop75 {a : List Int} {n : Nat} (ha : Ok a) (hl : a.length ≤ 1073741824) (hn : n ≤ 34359738368) : ∀ (m i : Nat) (c : Int) (l : List Int), i + m = a.length → Ok l → l.length = n / 32 + i → 0 ≤ c → c < 2 ^ (n % 32) → val l + c * P (n / 32 + i) = val (a.take i) * 2 ^ n →
    ∃ r, Evt (fun f => f75_7 a (n : Int) f c (i : Int) l) r ∧ Is r (val a * 2 ^ n)
  | 0, i, c, l, hi, hlo, hll, c0, c1, hv => by
    have hc2 : (2 : Int) ^ (n % 32) ≤ 2 ^ 31 := pow_mono2 (by omega)
    have hc : c % 4294967296 = c := by omega
    have ei : i = a.length := by omega
    subst ei
    obtain ⟨r, h2, h3⟩ := trimmed2H (l := l ++ [c]) (hlo.append (Ok.mk c0 (by omega) Ok.nil)) (by simp; omega)
    have e2 : val (l ++ [c]) = val a * 2 ^ n := by
      rw [val_append, hll, show val [c] = c from by simp [val], Int.mul_comm (P _)]
      rw [hv, List.take_length]
    refine ⟨r, Evt.last fun f => ?_, by rw [← e2]; exact h3⟩
    show b75_7 a (n : Int) (f75_7 a (n : Int) f) c (a.length : Int) l = _
    unfold b75_7
    simp (disch := omega) only [cF, cT, wu32, hc]
    rw [h2]; rfl
  | m + 1, i, c, l, hi, hlo, hll, c0, c1, hv => by
    have g := getD_ok ha i
    have hp : (0 : Int) < 2 ^ (n % 32) := Int.pow_pos (by decide)
    have hc2 : (2 : Int) ^ (n % 32) ≤ 2 ^ 31 := pow_mono2 (by omega)
    have hc3 : (2 : Int) ^ 31 = 2147483648 := rfl
    have e1 : IntKind.i64.wrap ((i : Int) + 1) = ((i + 1 : Nat) : Int) := by rw [wi64] <;> omega
    have t2 : Int.tmod (n : Int) 32 = ((n % 32 : Nat) : Int) := by rw [Int.tmod_eq_emod_of_nonneg (by omega)]; omega
    have w3 : IntKind.u64.wrap ((n % 32 : Nat) : Int) = ((n % 32 : Nat) : Int) := by rw [wu64]; omega
    have ew : IntKind.u64.wrap (a.getD i 0) = a.getD i 0 := by rw [wu64]; omega
    have mb := mul_bound g.1 (show a.getD i 0 ≤ 4294967295 by omega) (Int.le_of_lt hp) hc2
    rw [hc3] at mb
    have es : shl .u64 (a.getD i 0) ((n % 32 : Nat) : Int) = a.getD i 0 * 2 ^ (n % 32) := by
      rw [shl64 (n % 32) (by omega), Int.emod_eq_of_lt mb.1 (by omega)]
    have eo : bits .or .u64 c (a.getD i 0 * 2 ^ (n % 32)) = a.getD i 0 * 2 ^ (n % 32) + c := or_low' g.1 c0 c1 (by omega)
    have eh : ∀ s : Int, shr .u64 s 32 = s / 4294967296 := fun s => shr64 32 (by decide)
    have m0 : 0 ≤ (a.getD i 0 * 2 ^ (n % 32) + c) % 4294967296 := Int.emod_nonneg _ (by decide)
    have m1 : (a.getD i 0 * 2 ^ (n % 32) + c) % 4294967296 < 4294967296 := Int.emod_lt_of_pos _ (by decide)
    have d0 : 0 ≤ (a.getD i 0 * 2 ^ (n % 32) + c) / 4294967296 := Int.ediv_nonneg (by omega) (by decide)
    have d1 : (a.getD i 0 * 2 ^ (n % 32) + c) / 4294967296 < 2 ^ (n % 32) := by
      refine Int.ediv_lt_of_lt_mul (by decide) ?_
      have := Int.mul_le_mul_of_nonneg_right (show a.getD i 0 + 1 ≤ 4294967296 by omega) (Int.le_of_lt hp)
      rw [Int.add_mul, Int.one_mul] at this
      rw [Int.mul_comm (2 ^ (n % 32))]
      omega
    obtain ⟨r, h2, h3⟩ := loop75 ha hl hn m (i + 1) ((a.getD i 0 * 2 ^ (n % 32) + c) / 4294967296) (l ++ [(a.getD i 0 * 2 ^ (n % 32) + c) % 4294967296]) (by omega) (hlo.append (Ok.mk m0 m1 Ok.nil)) (by simp; omega) d0 d1 (by
      rw [val_append, hll, show ∀ x : Int, val [x] = x from fun x => by simp [val], val_take_succ a i (by omega), Int.add_mul, ← hv]
      rw [show n / 32 + (i + 1) = n / 32 + i + 1 from rfl, P_succ]
      have ee := Int.mul_ediv_add_emod (a.getD i 0 * 2 ^ (n % 32) + c) 4294967296
      have ep : a.getD i 0 * P i * 2 ^ n = a.getD i 0 * 2 ^ (n % 32) * P (n / 32 + i) := by
        have : (2 : Int) ^ n = P (n / 32) * 2 ^ (n % 32) := by rw [P_two, ← Int.pow_add, Nat.div_add_mod]
        rw [this, P_add]
        generalize P (n / 32) = X; generalize P i = Y; generalize (2 : Int) ^ (n % 32) = Z; generalize a.getD i 0 = W
        grind
      rw [ep]
      generalize (a.getD i 0 * 2 ^ (n % 32) + c) / 4294967296 = D at *
      generalize (a.getD i 0 * 2 ^ (n % 32) + c) % 4294967296 = M at *
      generalize a.getD i 0 * 2 ^ (n % 32) = X at *
      generalize P (n / 32 + i) = Q at *
      have h5 : (4294967296 * D + M) * Q = (X + c) * Q := by rw [ee]
      grind)
    refine ⟨r, h2.step fun f => ?_, h3⟩
    show b75_7 a (n : Int) (f75_7 a (n : Int) f) c (i : Int) l = _
    unfold b75_7
    have c3 : (0 : Int) ≤ IntKind.u64.wrap ((n : Int).tmod 32) := by rw [t2, w3]; omega
    rw [cT c3]
    simp only [t2, w3, e1, Int.toNat_natCast, dflt99, ew, es, eo, eh, wu32]
    simp (disch := omega) only [cT]
theorem run75 {a : List Int} {A : Int} {n : Nat} (ha : Is a A) (hl : a.length ≤ 1073741824) (hn : n ≤ 34359738368) : ∃ r, S75 a (n : Int) = some r ∧ Is r (A * 2 ^ n) := by
  by_cases h0 : a.length = 0
  · have : a = [] := List.eq_nil_of_length_eq_zero h0
    subst this
    have hA : A = 0 := ha.nil_iff.1 rfl
    subst hA
    refine ⟨[], evv_eq (Evt.now fun f => ?_), by rw [Int.zero_mul]; exact Is.nil⟩
    show b75 [] (n : Int) (f75_7 [] (n : Int) f) = _
    unfold b75
    rfl
  · have t1 : Int.tdiv (n : Int) 32 = ((n / 32 : Nat) : Int) := by rw [Int.tdiv_eq_ediv_of_nonneg (by omega)]; omega
    have e1 : IntKind.i64.wrap ((n / 32 : Nat) : Int) = ((n / 32 : Nat) : Int) := by rw [wi64] <;> omega
    obtain ⟨r, h1, h2⟩ := loop75 ha.ok hl hn a.length 0 0 (List.replicate (n / 32) 0) (by omega) (Ok.replicate _) (by simp) (by omega) (Int.pow_pos (by decide)) (by rw [val_replicate]; simp [val])
    rw [ha.val] at h2
    refine ⟨r, evv_eq (h1.same fun f => ?_), h2⟩
    show b75 a (n : Int) (f75_7 a (n : Int) f) = _
    unfold b75
    rw [t1, e1]
    simp (disch := omega) only [cN, cT, Int.toNat_natCast]
    rfl
end Go.Abs.Z
namespace Go.Abs.Z
open Go Go.Abs Go.Proofs
noncomputable section
abbrev R44 : Type := (Bool)
noncomputable def body44 : Go.Code := (Tryd.f44.body).getD Go.Code.skip
def h44 (p0 : Bool) (p1 p2 : TI) : List (AO U) := []
def k44 : AV U → List (AO U) → Option R44 := fun v h => match v, h with | AV.bool x0, [] => some x0 | _, _ => none
def out44 : R44 → AV U := fun x0 => AV.bool x0
def outh44 : R44 → List (AO U) := fun x0 => []
def D44 : Nat → Dir := dirs []
def b44 (p0 : Bool) (p1 p2 : TI)   : Option R44 :=
  (S52 p1).bind fun r0 =>
  cond (!r0)
  (some (false))
  ((S52 p2).bind fun r1 =>
  cond (!r1)
  (some (false))
  (cond ((↑p2.length : Int) == 0)
  (some (false))
  (cond ((↑p1.length : Int) == 0)
  ((S53 p2).bind fun r2 =>
  cond (r2)
  (some (!p0))
  (some (false)))
  ((S53 p2).bind fun r3 =>
  cond (r3)
  (some (true))
  ((S54 p1 p2).bind fun r4 =>
  (S53 r4).bind fun r5 =>
  some (r5))))))
theorem hk44 : ∀ v h' r, k44 v h' = some r → v = out44 r ∧ h' = outh44 r := by
  intro v h' r h
  unfold k44 at h
  split at h
  · injection h with h; subst h; exact ⟨rfl, rfl⟩
  · cases h
abbrev q44 : Prim U R44 := prims X [⟨52, fun _ => true, [.lend], F52 S52⟩, ⟨53, fun _ => true, [.lend], F53 S53⟩, ⟨54, fun _ => true, [.lend, .lend], F54 S54⟩]
theorem s44 (c : Nat → S U → Option R44) (p0 : Bool) (p1 p2 : TI) : seg TP X q44 [] (fun q st => c q (keepD D44 (h44 p0 p1 p2).length q st)) body44 (finH TP Tryd.f44.results.toList (h44 p0 p1 p2).length false k44) (start [.agg [.bool p0, .imm 99 p1, .imm 99 p2]] Tryd.f44.ntmps (h44 p0 p1 p2)) = b44 p0 p1 p2  := by kernel_rfl
def f44 (_ : Nat) (p0 : Bool) (p1 p2 : TI) : Option R44 := b44 p0 p1 p2
theorem pure44 (p0 : Bool) (p1 p2 : TI) (pok : PrmOK TP X q44) (k : Nat) (r : R44) (h : f44 k p0 p1 p2 = some r) : PureH TP X 44 [.agg [.bool p0, .imm 99 p1, .imm 99 p2]] (h44 p0 p1 p2) (out44 r) (outh44 r) :=
  pure_gen good 0 (fn := Tryd.f44) (body := body44) (prim := q44) (D := D44) (cuts := []) (h := h44 p0 p1 p2) (own := false) (by kernel_rfl) (by kernel_rfl) (by decide +kernel) pok hk44 (by
    rw [s44]
    exact h)
def F44 {R : Type} (spec : (Bool) → TI → TI → Option R44) : Fn U R := fun args h k => match args, h with | [.agg [.bool p0, .imm 99 p1, .imm 99 p2]], [] => (spec p0 p1 p2).bind fun r => k (out44 r) (outh44 r) | _, _ => none
theorem ok44 {R : Type} (spec : (Bool) → TI → TI → Option R44) (hp : ∀ (p0 : Bool) (p1 : TI) (p2 : TI) (r : R44), spec p0 p1 p2 = some r → PureH TP X 44 [.agg [.bool p0, .imm 99 p1, .imm 99 p2]] (h44 p0 p1 p2) (out44 r) (outh44 r)) : FnOK TP X 44 (F44 spec : Fn U R) := by
  intro args h k r hh
  unfold F44 at hh
  split at hh
  · obtain ⟨x, h1, h2⟩ := Option.bind_eq_some_iff.1 hh
    exact ⟨_, _, h2, hp _ _ _ _ h1⟩
  · cases hh
theorem pok44 : PrmOK TP X q44 := prims_cons good okS52 (prims_cons good okS53 (prims_cons good okS54 (prims_nil TP X mixed)))
noncomputable def S44 (p0 : Bool) (p1 p2 : TI) : Option R44 := evv fun k => f44 k p0 p1 p2
theorem okS44 {R : Type} : FnOK TP X 44 (F44 S44 : Fn U R) := ok44 S44 fun p0 p1 p2 r h => by
  obtain ⟨k, hk⟩ := evv_fuel h
  exact pure44 p0 p1 p2 pok44 k r hk
end
end Go.Abs.Z
namespace Go.Abs.Z
open Go Go.Abs Limb Num
theorem isG_gcd (A B : Int) : IsG (Int.gcd A B : Int) A B := ⟨Int.natCast_nonneg _, fun d => Int.dvd_coe_gcd_iff⟩
theorem one_iff {r : List Int} {g : Int} (h : Is r g) : (r == [1]) = decide (g = 1) := by
  have h1 : Is [1] 1 := ⟨Ok.mk (by decide) (by decide) Ok.nil, .inr (by decide), by decide⟩
  by_cases e : g = 1
  · rw [e] at h
    rw [h.inj h1, decide_eq_true e]; rfl
  · rw [decide_eq_false e]
    refine Bool.eq_false_iff.2 fun hh => e ?_
    rw [beq_iff_eq] at hh
    rw [← h.val, hh]; rfl
def ratMay (neg : Bool) (n d : List Int) : Bool :=
  mayL n && (mayL d && (!(d.length == 0) && (if n.length = 0 then (d == [1] && !neg) else (d == [1] || decide ((Int.gcd (val n) (val d) : Int) = 1)))))
theorem run44 {neg : Bool} {n d : List Int} (hn : Ok n) (hd : Ok d) : S44 neg n d = some (ratMay neg n d) := evv_eq (Evt.now fun f => by
  show b44 neg n d = _
  unfold b44 ratMay
  rw [run52, run52]
  cases hmn : mayL n with
  | false => rfl
  | true =>
    cases hmd : mayL d with
    | false => rfl
    | true =>
      simp only [Option.bind_some, Bool.true_and]
      rw [cNF rfl, cNF rfl]
      by_cases hd0 : d.length = 0
      · rw [cE (by omega)]
        have : (d.length == 0) = true := by simpa using hd0
        rw [this]; rfl
      · rw [cN (by omega)]
        have : (d.length == 0) = false := by simpa using hd0
        rw [this]
        simp only [Bool.not_false, Bool.true_and]
        by_cases hn0 : n.length = 0
        · rw [cE (by omega), if_pos hn0, run53]
          simp only [Option.bind_some]
          cases hd1 : (d == [1]) <;> rfl
        · rw [cN (by omega), if_neg hn0, run53]
          simp only [Option.bind_some]
          cases hd1 : (d == [1]) with
          | true => rfl
          | false =>
            obtain ⟨r, g, g1, g2, g3⟩ := run54 (A := val n) (B := val d) ⟨hn, (mayL_is hmn).2, rfl⟩ ⟨hd, (mayL_is hmd).2, rfl⟩ (by have := (mayL_is hmn).1; omega) (by have := (mayL_is hmd).1; omega)
            rw [g1]
            simp only [Option.bind_some, cond_false, Bool.false_or]
            rw [run53, one_iff g2, g3.one (isG_gcd _ _)]
            rfl)
theorem oneL (r : List Int) : cond ((r.length : Int) == 1) (cond (decide (0 < (r.length : Int))) (cond (decide (Int.toNat 0 < r.length)) (some (r.getD (Int.toNat 0) (X.dflt 99) == 1)) none) none) (some false) = some (r == [1]) := by
  have := run53 r
  have h2 : S53 r = b53 r := by
    rw [this]
    obtain ⟨k, hk⟩ := evv_fuel this
    exact hk.symm
  rw [← this, h2]; rfl
end Go.Abs.Z
namespace Go.Abs.Z
open Go Go.Abs Limb Num
theorem loop79 {a b : List Int} (ha : Ok a) (hb : Ok b) (hlen : a.length = b.length) (hl : a.length ≤ 1073741824) : ∀ n : Nat, n ≤ a.length → a.drop n = b.drop n → Evt (fun k => f79_4 a b k ((n : Int) - 1)) (cmpI (val a) (val b))
  | 0, _, hd => by
    have : a = b := by simpa using hd
    subst this
    refine Evt.last fun k => ?_
    show b79_4 a a (f79_4 a a k) (((0 : Nat) : Int) - 1) = _
    unfold b79_4 cmpI
    simp (disch := omega) only [cF]
    rw [if_neg (Int.lt_irrefl _), if_neg (Int.lt_irrefl _)]
  | n + 1, hn, hd => by
    have e1 : (((n + 1 : Nat) : Int) - 1) = (n : Int) := by omega
    have e2 : IntKind.i64.wrap ((n : Int) - 1) = (n : Int) - 1 := by rw [wi64] <;> omega
    rcases Int.lt_trichotomy (a.getD n 0) (b.getD n 0) with h | h | h
    · have hv := val_lt_at ha hb (by omega) (by omega) hd h
      refine Evt.last fun k => ?_
      show b79_4 a b (f79_4 a b k) (((n + 1 : Nat) : Int) - 1) = _
      unfold b79_4 cmpI
      rw [e1, e2, if_pos hv]
      simp only [Int.toNat_natCast, dflt99]
      simp (disch := omega) only [cT, cF]
      exact cT h _ _
    · have hd' : a.drop n = b.drop n := by
        rw [List.drop_eq_getElem_cons (by omega : n < a.length), List.drop_eq_getElem_cons (by omega : n < b.length), hd]
        congr 1
        rw [List.getD_eq_getElem?_getD, List.getD_eq_getElem?_getD, List.getElem?_eq_getElem (by omega), List.getElem?_eq_getElem (by omega)] at h
        exact h
      refine Evt.step (loop79 ha hb hlen hl n (by omega) hd') fun k => ?_
      show b79_4 a b (f79_4 a b k) (((n + 1 : Nat) : Int) - 1) = _
      unfold b79_4
      rw [e1, e2]
      simp only [Int.toNat_natCast, dflt99]
      simp (disch := omega) only [cT, cF]
      exact (cF (by omega) _ _).trans (cF (show ¬ b.getD n 0 < a.getD n 0 by omega) _ _)
    · have hv := val_lt_at hb ha (by omega) (by omega) hd.symm h
      refine Evt.last fun k => ?_
      show b79_4 a b (f79_4 a b k) (((n + 1 : Nat) : Int) - 1) = _
      unfold b79_4 cmpI
      rw [e1, e2, if_neg (by omega), if_pos hv]
      simp only [Int.toNat_natCast, dflt99]
      simp (disch := omega) only [cT, cF]
      exact (cF (by omega) _ _).trans (cT h _ _)
theorem run93 (x : Int) : S93 x = some (cmpI x 0) := evv_eq (Evt.now fun k => by
  show b93 x = _
  unfold b93 cmpI
  by_cases h : x < 0
  · rw [cT h, if_pos h]
  · rw [cF h, if_neg h]
    by_cases h' : 0 < x
    · rw [cT h', if_pos h']
    · rw [cF (by omega), if_neg h'])
theorem run79 {a b : List Int} {x y : Int} (ha : Is a x) (hb : Is b y) (hl : a.length ≤ 1073741824) (hlb : b.length ≤ 1073741824) : S79 a b = some (cmpI x y) := evv_eq (by
  rw [← ha.val, ← hb.val]
  by_cases h : a.length = b.length
  · refine (loop79 ha.ok hb.ok h hl a.length (Nat.le_refl _) ?_).same fun k => ?_
    · rw [List.drop_length, h, List.drop_length]
    · show b79 a b (f79_4 a b k) = _
      unfold b79
      rw [bneF (by omega), wi64 (by omega) (by omega)]
  · refine Evt.now fun k => ?_
    show b79 a b (f79_4 a b k) = _
    unfold b79
    rw [bneT (by omega), wi64 (by omega) (by omega), run93]
    by_cases h' : a.length < b.length
    · have hv := len_lt_val ha.ok hb.ok hb.norm h'
      show some (cmpI _ _) = _
      unfold cmpI
      rw [if_pos (by omega), if_pos hv]
    · have hv := len_lt_val hb.ok ha.ok ha.norm (show b.length < a.length by omega)
      show some (cmpI _ _) = _
      unfold cmpI
      rw [if_neg (by omega), if_pos (by omega), if_neg (by omega), if_pos hv])
theorem run73 {a : List Int} (h : a.length ≤ 1073741824) : S73 a = some a := evv_eq (Evt.now fun f => by
  show b73 a = _
  unfold b73
  rw [cT (by omega)]; rfl)
theorem cd_two {A B : Int} (k : Nat) (hB : B % 2 = 1) : CD A B (A * 2 ^ k) B := by
  intro d
  constructor
  · rintro ⟨h1, h2⟩; exact ⟨Int.dvd_trans h1 (Int.dvd_mul_right _ _), h2⟩
  · rintro ⟨h1, h2⟩
    refine ⟨?_, h2⟩
    have hd : Nat.Coprime d.natAbs (2 ^ k) := by
      refine Nat.Coprime.pow_right k ?_
      have h3 : Nat.gcd d.natAbs 2 ∣ 2 := Nat.gcd_dvd_right _ _
      have h4 : Nat.gcd d.natAbs 2 ∣ B.natAbs := Nat.dvd_trans (Nat.gcd_dvd_left _ _) (Int.natAbs_dvd_natAbs.2 h2)
      have h5 : Nat.gcd d.natAbs 2 ≤ 2 := Nat.le_of_dvd (by decide) h3
      have h6 : Nat.gcd d.natAbs 2 ≠ 0 := fun h => by rw [h] at h3; exact absurd h3 (by decide)
      have h7 : Nat.gcd d.natAbs 2 ≠ 2 := fun h => by rw [h] at h4; omega
      show Nat.gcd d.natAbs 2 = 1
      omega
    have h8 : d.natAbs ∣ A.natAbs * 2 ^ k := by
      have := Int.natAbs_dvd_natAbs.2 h1
      rwa [Int.natAbs_mul, Int.natAbs_pow] at this
    exact Int.natAbs_dvd_natAbs.1 (hd.dvd_of_dvd_mul_right h8)
theorem cmpI_lt {x y : Int} : cmpI x y < 0 ↔ x < y := by
  unfold cmpI
  split
  · simp_all
  · split <;> simp_all
theorem loop61 {p0 p1 : List Int} {A1 B1 : Int} {n : Nat} (hn : n ≤ 34359738368) : ∀ (G : Nat) (a b : List Int) (A B : Int), (A + B).toNat ≤ G → Is a A → Is b B → B % 2 = 1 → a.length ≤ 536870912 → b.length ≤ 536870912 → CD A B A1 B1 →
    ∃ r g, Evt (fun f => f61_11 p0 p1 f (n : Int) a b) r ∧ Is r (g * 2 ^ n) ∧ IsG g A1 B1 := by
  intro G
  induction G with
  | zero =>
    intro a b A B hG ha hb hodd hla hlb hcd
    have := ha.nonneg
    have := hb.nonneg
    omega
  | succ G ih =>
    intro a b A B hG ha hb hodd hla hlb hcd
    have hA0 := ha.nonneg
    have hB0 := hb.nonneg
    by_cases hA : A = 0
    · subst hA
      have hal : a.length = 0 := by rw [ha.nil_iff.2 rfl]; rfl
      obtain ⟨r, h1, h2⟩ := run75 (n := n) hb (by omega) hn
      refine ⟨r, B, Evt.last fun f => ?_, h2, .of_zero hB0 ((CD.swap 0 B).trans hcd)⟩
      show b61_11 p0 p1 (f61_11 p0 p1 f) (n : Int) a b = _
      unfold b61_11
      rw [h1]
      simp (disch := omega) only [cF]
      rfl
    · have hal : a.length ≠ 0 := fun h => hA (ha.nil_iff.1 (List.eq_nil_of_length_eq_zero h))
      obtain ⟨k, r0, A', g1, g2, g3, g4⟩ := run74 ha (by omega) (by omega)
      have hA'0 := g2.nonneg
      have hA'1 : A' ≤ A := by
        rw [g3]
        have := Int.mul_le_mul_of_nonneg_left (show (1 : Int) ≤ 2 ^ k by have := (Int.pow_pos (by decide) : (0 : Int) < 2 ^ k); omega) hA'0
        omega
      have hlr : r0.length ≤ a.length := len_le_of_val g2.ok g2.norm ha.ok (by rw [g2.val, ha.val]; exact hA'1)
      have hcd' : CD A' B A1 B1 := by
        have h1 := cd_two (A := A') k hodd
        rw [← g3] at h1
        exact h1.trans hcd
      have hc := run79 g2 hb (by omega) (by omega)
      have rest : ∀ (K : Nat → Option R61), (∀ f, b61_11 p0 p1 (f61_11 p0 p1 f) (n : Int) a b = (S79 r0 b).bind fun r9 => cond (decide (r9 < 0)) ((S80 r0 b).bind fun r10 => f61_11 p0 p1 f (n : Int) r10 r0) ((S80 b r0).bind fun r11 => f61_11 p0 p1 f (n : Int) r11 b)) →
          ∃ r g, Evt (fun f => f61_11 p0 p1 f (n : Int) a b) r ∧ Is r (g * 2 ^ n) ∧ IsG g A1 B1 := by
        intro K hb61
        by_cases hlt : A' < B
        · obtain ⟨t, t1, t2⟩ := run80 hb g2 (by omega) (by omega)
          have hlt' : t.length ≤ b.length := len_le_of_val t2.ok t2.norm hb.ok (by rw [t2.val, hb.val]; omega)
          obtain ⟨r, g, k1, k2, k3⟩ := ih t r0 (B - A') A' (by omega) t2 g2 g4 (by omega) (by omega) (by
            have h2 := (CD.refl B A').step 1
            rw [Int.one_mul] at h2
            exact ((CD.swap A' (B - A')).trans h2).trans ((CD.swap A' B).trans hcd'))
          refine ⟨r, g, k1.step fun f => ?_, k2, k3⟩
          show b61_11 p0 p1 (f61_11 p0 p1 f) (n : Int) a b = _
          rw [hb61, hc]
          simp only [Option.bind_some]
          rw [cT (cmpI_lt.2 hlt), t1]; rfl
        · obtain ⟨t, t1, t2⟩ := run80 g2 hb (by omega) (by omega)
          have hlt' : t.length ≤ r0.length := len_le_of_val t2.ok t2.norm g2.ok (by rw [t2.val, g2.val]; omega)
          obtain ⟨r, g, k1, k2, k3⟩ := ih t b (A' - B) B (by omega) t2 hb hodd (by omega) (by omega) (by
            refine CD.trans (CD.swap B (A' - B)) (CD.trans ?_ hcd')
            have h2 := (CD.refl A' B).step 1
            rw [Int.one_mul] at h2
            exact h2)
          refine ⟨r, g, k1.step fun f => ?_, k2, k3⟩
          show b61_11 p0 p1 (f61_11 p0 p1 f) (n : Int) a b = _
          rw [hb61, hc]
          simp only [Option.bind_some]
          rw [cF (fun h => hlt (cmpI_lt.1 h)), t1]; rfl
      by_cases h2a : r0.length ≤ 2
      · by_cases h2b : b.length ≤ 2
        · have s1 := run78 g2.ok h2a
          have s2 := run78 hb.ok h2b
          rw [g2.val] at s1
          rw [hb.val] at s2
          obtain ⟨g, u1, u2, u3⟩ := run77 hA'0 hB0
          have hbA := two_limbs g2 h2a
          have hbB := two_limbs hb h2b
          obtain ⟨t, v1, v2⟩ := run76 (x := g) u2.1 (by omega)
          have hlt : t.length ≤ 2 := len_of_val v2.ok v2.norm 2 (by rw [v2.val]; show g < 18446744073709551616; omega)
          obtain ⟨r, w1, w2⟩ := run75 (n := n) v2 (by omega) hn
          refine ⟨r, g, Evt.last fun f => ?_, w2, u2.cd hcd'⟩
          show b61_11 p0 p1 (f61_11 p0 p1 f) (n : Int) a b = _
          unfold b61_11
          rw [g1]
          simp only [Option.bind_some]
          rw [s1, s2]
          simp only [Option.bind_some]
          rw [u1]
          simp only [Option.bind_some]
          rw [v1]
          simp only [Option.bind_some]
          rw [w1]
          simp (disch := omega) only [cT, Option.bind_some]
        · refine rest (fun _ => none) fun f => ?_
          unfold b61_11
          rw [g1]
          simp only [Option.bind_some]
          simp (disch := omega) only [cT, cF]
      · refine rest (fun _ => none) fun f => ?_
        unfold b61_11
        rw [g1]
        simp only [Option.bind_some]
        simp (disch := omega) only [cT, cF]
theorem gcd_pow {a b : Int} {p q : Nat} (ha : a % 2 = 1) (hb : b % 2 = 1) (g : Int) (hg : IsG g a b) : IsG (g * 2 ^ (min p q)) (a * 2 ^ p) (b * 2 ^ q) := by
  have hp : (0 : Int) < 2 ^ (min p q) := Int.pow_pos (by decide)
  have key : ∀ {x y : Int} {u : Nat} (m : Nat), y % 2 = 1 → IsG g x y → IsG (g * 2 ^ m) (x * 2 ^ (u + m)) (y * 2 ^ m) := by
    intro x y u m hy hg
    have h1 : IsG g (x * 2 ^ u) y := hg.cd (cd_two u hy)
    have h2 : g = (Int.gcd (x * 2 ^ u) y : Int) := h1.one (isG_gcd _ _)
    have h3 : ((Int.gcd (x * 2 ^ (u + m)) (y * 2 ^ m) : Nat) : Int) = g * 2 ^ m := by
      rw [Int.pow_add, ← Int.mul_assoc, Int.gcd_mul_right, h2]
      rw [Int.natAbs_pow]
      push_cast
      rfl
    rw [← h3]; exact isG_gcd _ _
  rcases Nat.le_total q p with h | h
  · rw [Nat.min_eq_right h]
    have := key (x := a) (y := b) (u := p - q) q hb hg
    rwa [show p - q + q = p from by omega] at this
  · rw [Nat.min_eq_left h]
    have := key (x := b) (y := a) (u := q - p) p ha (hg.cd (CD.swap b a))
    rw [show q - p + p = q from by omega] at this
    exact this.cd (CD.swap _ _)
theorem run61 {a b : List Int} {A B : Int} (ha : Is a A) (hb : Is b B) (hA : 0 < A) (hB : 0 < B) (hla : a.length ≤ 2048) (hlb : b.length ≤ 2048) : ∃ r, S61 a b = some r ∧ Is r (Int.gcd A B : Int) := by
  obtain ⟨p, x, X, p1, p2, p3, p4⟩ := run74 ha hA (by omega)
  obtain ⟨q, y, Y, q1, q2, q3, q4⟩ := run74 hb hB (by omega)
  have bound : ∀ {z : List Int} {Z W : Int} {k : Nat}, Is z Z → z.length ≤ 2048 → 0 < Z → Z = W * 2 ^ k → W % 2 = 1 → k ≤ 65536 ∧ 0 ≤ W ∧ W ≤ Z := by
    intro z Z W k hz hl hZ e ho
    have h1 := lt_pow_of_len hz.ok hl
    rw [hz.val] at h1
    have hk : (0 : Int) < 2 ^ k := Int.pow_pos (by decide)
    have hW : 0 < W := by
      refine Int.lt_of_not_ge fun hle => ?_
      have := Int.mul_nonneg (show 0 ≤ -W by omega) (Int.le_of_lt hk)
      rw [Int.neg_mul] at this
      omega
    have h2 := Int.mul_le_mul_of_nonneg_right (show 1 ≤ W by omega) (Int.le_of_lt hk)
    have h3 := Int.mul_le_mul_of_nonneg_left (show 1 ≤ (2 : Int) ^ k by omega) (Int.le_of_lt hW)
    refine ⟨?_, by omega, by omega⟩
    refine Nat.le_of_not_lt fun hlt => ?_
    have h4 := pow_mono2 (show 32 * 2048 ≤ k by omega)
    omega
  obtain ⟨bp, x0, x1⟩ := bound ha hla hA p3 p4
  obtain ⟨bq, y0, y1⟩ := bound hb hlb hB q3 q4
  have lx : x.length ≤ 2048 := Nat.le_trans (len_le_of_val p2.ok p2.norm ha.ok (by rw [p2.val, ha.val]; exact x1)) hla
  have ly : y.length ≤ 2048 := Nat.le_trans (len_le_of_val q2.ok q2.norm hb.ok (by rw [q2.val, hb.val]; exact y1)) hlb
  obtain ⟨r, g, h1, h2, h3⟩ := loop61 (p0 := a) (p1 := b) (A1 := X) (B1 := Y) (n := min p q) (by omega) _ x y X Y (Nat.le_refl _) p2 q2 q4 (by omega) (by omega) (CD.refl X Y)
  have hG := gcd_pow (p := p) (q := q) p4 q4 g h3
  rw [← p3, ← q3] at hG
  rw [hG.one (isG_gcd _ _)] at h2
  refine ⟨r, evv_eq (h1.same fun f => ?_), h2⟩
  have na : a.length ≠ 0 := fun h => by have := ha.nil_iff.1 (List.eq_nil_of_length_eq_zero h); omega
  have nb : b.length ≠ 0 := fun h => by have := hb.nil_iff.1 (List.eq_nil_of_length_eq_zero h); omega
  show b61 a b (f61_11 a b f) = _
  unfold b61
  rw [run73 (by omega), run73 (by omega)]
  simp only [Option.bind_some]
  rw [p1, q1]
  simp only [Option.bind_some]
  rw [cN (by omega), cN (by omega)]
  by_cases hlt : q < p
  · rw [cT (by omega), Nat.min_eq_right (by omega)]
  · rw [cF (by omega), Nat.min_eq_left (by omega)]
theorem run60 (l : List Int) : S60 l = some (mayL l) := evv_eq (Evt.now fun k => by
  show b60 l = _
  unfold b60 mayL
  by_cases h : l.length ≤ 2048
  · by_cases h0 : l.length = 0
    · have : decide (l.length ≤ 2048) = true := by simpa using h
      rw [this]
      simp (disch := omega) only [cT, cE]
      rw [h0]; rfl
    · have e0 : IntKind.i64.wrap ((l.length : Int) - 1) = ((l.length - 1 : Nat) : Int) := by rw [wi64] <;> omega
      rw [e0]
      simp only [Int.toNat_natCast, dflt99]
      simp (disch := omega) only [cT, cN]
      have h1 : decide (l.length ≤ 2048) = true := by simpa using h
      have h2 : (l.length == 0) = false := by simpa using h0
      rw [h1, h2]; rfl
  · have h1 : decide (l.length ≤ 2048) = false := by simpa using h
    rw [h1]
    simp (disch := omega) only [cF]
    rfl)
theorem run49 {neg : Bool} {n d : List Int} (hn : Ok n) (hd : Ok d) : S49 neg n d = some (ratMay neg n d) := evv_eq (Evt.now fun f => by
  show b49 neg n d = _
  unfold b49 ratMay
  rw [run60, run60]
  cases hmn : mayL n with
  | false => rfl
  | true =>
    cases hmd : mayL d with
    | false => rfl
    | true =>
      simp only [Option.bind_some, Bool.true_and]
      rw [cNF rfl, cNF rfl]
      by_cases hd0 : d.length = 0
      · rw [cE (by omega)]
        have : (d.length == 0) = true := by simpa using hd0
        rw [this]; rfl
      · rw [cN (by omega)]
        have : (d.length == 0) = false := by simpa using hd0
        rw [this]
        simp only [Bool.not_false, Bool.true_and]
        by_cases hn0 : n.length = 0
        · rw [cE (by omega), if_pos hn0]
          cases neg with
          | true => simp
          | false =>
            simp only [Bool.not_false, cond_true, Bool.and_true]
            exact oneL d
        · rw [cN (by omega), if_neg hn0]
          have iN : Is n (val n) := ⟨hn, (mayL_is hmn).2, rfl⟩
          have iD : Is d (val d) := ⟨hd, (mayL_is hmd).2, rfl⟩
          have pN : 0 < val n := by
            have := iN.nonneg
            have : val n ≠ 0 := fun h => hn0 (by rw [iN.nil_iff.2 h]; rfl)
            omega
          have pD : 0 < val d := by
            have := iD.nonneg
            have : val d ≠ 0 := fun h => hd0 (by rw [iD.nil_iff.2 h]; rfl)
            omega
          obtain ⟨r, g1, g2⟩ := run61 iN iD pN pD (mayL_is hmn).1 (mayL_is hmd).1
          rw [g1]
          refine (oneL r).trans ?_
          rw [one_iff g2]
          by_cases e : d = [1]
          · subst e
            have : val [1] = 1 := by simp [val]
            rw [this]; simp
          · have : (d == [1]) = false := by simpa using e
            rw [this, Bool.false_or])
end Go.Abs.Z
namespace Go.Abs.Z
open Go Go.Abs Go.Proofs
noncomputable section
abbrev R48 : Type := (Bool)
noncomputable def body48 : Go.Code := (Tryd.f48.body).getD Go.Code.skip
def h48 (p0 p1 p2 p3 : Int) (p4 : Bool) (p5 p6 : TI) : List (AO U) := []
def k48 : AV U → List (AO U) → Option R48 := fun v h => match v, h with | AV.bool x0, [] => some x0 | _, _ => none
def out48 : R48 → AV U := fun x0 => AV.bool x0
def outh48 : R48 → List (AO U) := fun x0 => []
def D48 : Nat → Dir := dirs [(3, ⟨[1], [], [], []⟩), (5, ⟨[1], [], [], []⟩), (7, ⟨[1], [], [], []⟩)]
def b48 (p0 p1 p2 p3 : Int) (p4 : Bool) (p5 p6 : TI) (c3 c5 c7 : Option R48)  : Option R48 :=
  cond (p0 == 2)
  (cond (p1 != 0)
  (some (true))
  (c3))
  (c3)
def m48_3 (p0 p1 p2 p3 : Int) (p4 : Bool) (p5 p6 : TI)  : S U := S.mk [AV.undef, AV.ptr 0 0, AV.undef, AV.undef, AV.undef, AV.undef, AV.undef, AV.undef, AV.undef, AV.undef, AV.undef, AV.undef, AV.undef, AV.undef, AV.undef, AV.undef, AV.undef, AV.undef, AV.undef, AV.undef, AV.undef, AV.undef, AV.undef, AV.undef, AV.undef, AV.undef, AV.undef, AV.undef, AV.undef, AV.undef, AV.undef, AV.undef, AV.undef, AV.undef, AV.undef, AV.undef, AV.undef] [AO.box [AV.int IntKind.i64 p0, AV.int IntKind.i64 p1, AV.int IntKind.i64 p2, AV.int IntKind.i64 p3, AV.bool p4, AV.imm 99 p5, AV.imm 99 p6]]
def b48_3 (p0 p1 p2 p3 : Int) (p4 : Bool) (p5 p6 : TI) (c3 c5 c7 : Option R48)  : Option R48 :=
  (S37 p0).bind fun r0 =>
  cond (!r0)
  (cond (p2 != 0)
  (some (true))
  (c5))
  (c5)
def m48_5 (p0 p1 p2 p3 : Int) (p4 : Bool) (p5 p6 : TI)  : S U := S.mk [AV.undef, AV.ptr 0 0, AV.undef, AV.undef, AV.undef, AV.undef, AV.undef, AV.undef, AV.undef, AV.undef, AV.undef, AV.undef, AV.undef, AV.undef, AV.undef, AV.undef, AV.undef, AV.undef, AV.undef, AV.undef, AV.undef, AV.undef, AV.undef, AV.undef, AV.undef, AV.undef, AV.undef, AV.undef, AV.undef, AV.undef, AV.undef, AV.undef, AV.undef, AV.undef, AV.undef, AV.undef, AV.undef] [AO.box [AV.int IntKind.i64 p0, AV.int IntKind.i64 p1, AV.int IntKind.i64 p2, AV.int IntKind.i64 p3, AV.bool p4, AV.imm 99 p5, AV.imm 99 p6]]
def b48_5 (p0 p1 p2 p3 : Int) (p4 : Bool) (p5 p6 : TI) (c3 c5 c7 : Option R48)  : Option R48 :=
  cond (p0 != 8)
  (cond (p3 != 0)
  (some (true))
  (c7))
  (c7)
def m48_7 (p0 p1 p2 p3 : Int) (p4 : Bool) (p5 p6 : TI)  : S U := S.mk [AV.undef, AV.ptr 0 0, AV.undef, AV.undef, AV.undef, AV.undef, AV.undef, AV.undef, AV.undef, AV.undef, AV.undef, AV.undef, AV.undef, AV.undef, AV.undef, AV.undef, AV.undef, AV.undef, AV.undef, AV.undef, AV.undef, AV.undef, AV.undef, AV.undef, AV.undef, AV.undef, AV.undef, AV.undef, AV.undef, AV.undef, AV.undef, AV.undef, AV.undef, AV.undef, AV.undef, AV.undef, AV.undef] [AO.box [AV.int IntKind.i64 p0, AV.int IntKind.i64 p1, AV.int IntKind.i64 p2, AV.int IntKind.i64 p3, AV.bool p4, AV.imm 99 p5, AV.imm 99 p6]]
def b48_7 (p0 p1 p2 p3 : Int) (p4 : Bool) (p5 p6 : TI) (c3 c5 c7 : Option R48)  : Option R48 :=
  cond (p0 != 2)
  ((S59 p4 p5 p6).bind fun r0 =>
  some (!r0))
  (some (false))
theorem hk48 : ∀ v h' r, k48 v h' = some r → v = out48 r ∧ h' = outh48 r := by
  intro v h' r h
  unfold k48 at h
  split at h
  · injection h with h; subst h; exact ⟨rfl, rfl⟩
  · cases h
abbrev q48 : Prim U R48 := prims X [⟨37, fun _ => true, [], F37 S37⟩, ⟨59, fun _ => true, [.lend], F59 S59⟩]
theorem s48 (c : Nat → S U → Option R48) (p0 p1 p2 p3 : Int) (p4 : Bool) (p5 p6 : TI) : seg TP X q48 [3, 5, 7] (fun q st => c q (keepD D48 (h48 p0 p1 p2 p3 p4 p5 p6).length q st)) body48 (finH TP Tryd.f48.results.toList (h48 p0 p1 p2 p3 p4 p5 p6).length false k48) (start [.agg [.int .i64 p0, .int .i64 p1, .int .i64 p2, .int .i64 p3, .bool p4, .imm 99 p5, .imm 99 p6]] Tryd.f48.ntmps (h48 p0 p1 p2 p3 p4 p5 p6)) = b48 p0 p1 p2 p3 p4 p5 p6 (c 3 (m48_3 p0 p1 p2 p3 p4 p5 p6)) (c 5 (m48_5 p0 p1 p2 p3 p4 p5 p6)) (c 7 (m48_7 p0 p1 p2 p3 p4 p5 p6)) := by kernel_rfl
theorem s48_3 (c : Nat → S U → Option R48) (p0 p1 p2 p3 : Int) (p4 : Bool) (p5 p6 : TI)  : res TP X q48 [3, 5, 7] (fun q st => c q (keepD D48 (h48 p0 p1 p2 p3 p4 p5 p6).length q st)) 3 body48 (finH TP Tryd.f48.results.toList (h48 p0 p1 p2 p3 p4 p5 p6).length false k48) (m48_3 p0 p1 p2 p3 p4 p5 p6 ) = b48_3 p0 p1 p2 p3 p4 p5 p6 (c 3 (m48_3 p0 p1 p2 p3 p4 p5 p6)) (c 5 (m48_5 p0 p1 p2 p3 p4 p5 p6)) (c 7 (m48_7 p0 p1 p2 p3 p4 p5 p6))  := by kernel_rfl
theorem s48_5 (c : Nat → S U → Option R48) (p0 p1 p2 p3 : Int) (p4 : Bool) (p5 p6 : TI)  : res TP X q48 [3, 5, 7] (fun q st => c q (keepD D48 (h48 p0 p1 p2 p3 p4 p5 p6).length q st)) 5 body48 (finH TP Tryd.f48.results.toList (h48 p0 p1 p2 p3 p4 p5 p6).length false k48) (m48_5 p0 p1 p2 p3 p4 p5 p6 ) = b48_5 p0 p1 p2 p3 p4 p5 p6 (c 3 (m48_3 p0 p1 p2 p3 p4 p5 p6)) (c 5 (m48_5 p0 p1 p2 p3 p4 p5 p6)) (c 7 (m48_7 p0 p1 p2 p3 p4 p5 p6))  := by kernel_rfl
theorem s48_7 (c : Nat → S U → Option R48) (p0 p1 p2 p3 : Int) (p4 : Bool) (p5 p6 : TI)  : res TP X q48 [3, 5, 7] (fun q st => c q (keepD D48 (h48 p0 p1 p2 p3 p4 p5 p6).length q st)) 7 body48 (finH TP Tryd.f48.results.toList (h48 p0 p1 p2 p3 p4 p5 p6).length false k48) (m48_7 p0 p1 p2 p3 p4 p5 p6 ) = b48_7 p0 p1 p2 p3 p4 p5 p6 (c 3 (m48_3 p0 p1 p2 p3 p4 p5 p6)) (c 5 (m48_5 p0 p1 p2 p3 p4 p5 p6)) (c 7 (m48_7 p0 p1 p2 p3 p4 p5 p6))  := by kernel_rfl
mutual
def f48_3 (p0 p1 p2 p3 : Int) (p4 : Bool) (p5 p6 : TI) : Nat → Option R48
  | 0 => none
  | k + 1 => b48_3 p0 p1 p2 p3 p4 p5 p6 (f48_3 p0 p1 p2 p3 p4 p5 p6 k) (f48_5 p0 p1 p2 p3 p4 p5 p6 k) (f48_7 p0 p1 p2 p3 p4 p5 p6 k)
def f48_5 (p0 p1 p2 p3 : Int) (p4 : Bool) (p5 p6 : TI) : Nat → Option R48
  | 0 => none
  | k + 1 => b48_5 p0 p1 p2 p3 p4 p5 p6 (f48_3 p0 p1 p2 p3 p4 p5 p6 k) (f48_5 p0 p1 p2 p3 p4 p5 p6 k) (f48_7 p0 p1 p2 p3 p4 p5 p6 k)
def f48_7 (p0 p1 p2 p3 : Int) (p4 : Bool) (p5 p6 : TI) : Nat → Option R48
  | 0 => none
  | k + 1 => b48_7 p0 p1 p2 p3 p4 p5 p6 (f48_3 p0 p1 p2 p3 p4 p5 p6 k) (f48_5 p0 p1 p2 p3 p4 p5 p6 k) (f48_7 p0 p1 p2 p3 p4 p5 p6 k)
end
def f48 (k : Nat) (p0 p1 p2 p3 : Int) (p4 : Bool) (p5 p6 : TI) : Option R48 := b48 p0 p1 p2 p3 p4 p5 p6 (f48_3 p0 p1 p2 p3 p4 p5 p6 k) (f48_5 p0 p1 p2 p3 p4 p5 p6 k) (f48_7 p0 p1 p2 p3 p4 p5 p6 k)
theorem e48 (p0 p1 p2 p3 : Int) (p4 : Bool) (p5 p6 : TI) : ∀ k, (cutG TP X q48 [3, 5, 7] D48 (h48 p0 p1 p2 p3 p4 p5 p6).length body48 (finH TP Tryd.f48.results.toList (h48 p0 p1 p2 p3 p4 p5 p6).length false k48) k 3 (m48_3 p0 p1 p2 p3 p4 p5 p6) = f48_3 p0 p1 p2 p3 p4 p5 p6 k) ∧ (cutG TP X q48 [3, 5, 7] D48 (h48 p0 p1 p2 p3 p4 p5 p6).length body48 (finH TP Tryd.f48.results.toList (h48 p0 p1 p2 p3 p4 p5 p6).length false k48) k 5 (m48_5 p0 p1 p2 p3 p4 p5 p6) = f48_5 p0 p1 p2 p3 p4 p5 p6 k) ∧ (cutG TP X q48 [3, 5, 7] D48 (h48 p0 p1 p2 p3 p4 p5 p6).length body48 (finH TP Tryd.f48.results.toList (h48 p0 p1 p2 p3 p4 p5 p6).length false k48) k 7 (m48_7 p0 p1 p2 p3 p4 p5 p6) = f48_7 p0 p1 p2 p3 p4 p5 p6 k)
  | 0 => ⟨rfl, rfl, rfl⟩
  | k + 1 => by
    have ih := e48 p0 p1 p2 p3 p4 p5 p6 k
    refine ⟨?_, ?_, ?_⟩
    · refine (if_pos (by kernel_rfl)).trans ?_
      rw [s48_3]
      simp only [ih]
      rfl
    · refine (if_pos (by kernel_rfl)).trans ?_
      rw [s48_5]
      simp only [ih]
      rfl
    · refine (if_pos (by kernel_rfl)).trans ?_
      rw [s48_7]
      simp only [ih]
      rfl
theorem pure48 (p0 p1 p2 p3 : Int) (p4 : Bool) (p5 p6 : TI) (pok : PrmOK TP X q48) (k : Nat) (r : R48) (h : f48 k p0 p1 p2 p3 p4 p5 p6 = some r) : PureH TP X 48 [.agg [.int .i64 p0, .int .i64 p1, .int .i64 p2, .int .i64 p3, .bool p4, .imm 99 p5, .imm 99 p6]] (h48 p0 p1 p2 p3 p4 p5 p6) (out48 r) (outh48 r) :=
  pure_gen good k (fn := Tryd.f48) (body := body48) (prim := q48) (D := D48) (cuts := [3, 5, 7]) (h := h48 p0 p1 p2 p3 p4 p5 p6) (own := false) (by kernel_rfl) (by kernel_rfl) (by decide +kernel) pok hk48 (by
    rw [s48]
    have ih := e48 p0 p1 p2 p3 p4 p5 p6 k
    simp only [ih]
    exact h)
def F48 {R : Type} (spec : (Int) → Int → (Int) → Int → (Bool) → TI → TI → Option R48) : Fn U R := fun args h k => match args, h with | [.agg [.int .i64 p0, .int .i64 p1, .int .i64 p2, .int .i64 p3, .bool p4, .imm 99 p5, .imm 99 p6]], [] => (spec p0 p1 p2 p3 p4 p5 p6).bind fun r => k (out48 r) (outh48 r) | _, _ => none
theorem ok48 {R : Type} (spec : (Int) → Int → (Int) → Int → (Bool) → TI → TI → Option R48) (hp : ∀ (p0 : Int) (p1 : Int) (p2 : Int) (p3 : Int) (p4 : Bool) (p5 : TI) (p6 : TI) (r : R48), spec p0 p1 p2 p3 p4 p5 p6 = some r → PureH TP X 48 [.agg [.int .i64 p0, .int .i64 p1, .int .i64 p2, .int .i64 p3, .bool p4, .imm 99 p5, .imm 99 p6]] (h48 p0 p1 p2 p3 p4 p5 p6) (out48 r) (outh48 r)) : FnOK TP X 48 (F48 spec : Fn U R) := by
  intro args h k r hh
  unfold F48 at hh
  split at hh
  · obtain ⟨x, h1, h2⟩ := Option.bind_eq_some_iff.1 hh
    exact ⟨_, _, h2, hp _ _ _ _ _ _ _ _ h1⟩
  · cases hh
theorem pok48 : PrmOK TP X q48 := prims_cons good okS37 (prims_cons good okS59 (prims_nil TP X mixed))
noncomputable def S48 (p0 p1 p2 p3 : Int) (p4 : Bool) (p5 p6 : TI) : Option R48 := evv fun k => f48 k p0 p1 p2 p3 p4 p5 p6
theorem okS48 {R : Type} : FnOK TP X 48 (F48 S48 : Fn U R) := ok48 S48 fun p0 p1 p2 p3 p4 p5 p6 r h => by
  obtain ⟨k, hk⟩ := evv_fuel h
  exact pure48 p0 p1 p2 p3 p4 p5 p6 pok48 k r hk
end
end Go.Abs.Z
namespace Go.Abs.Z
open Go Go.Abs Go.Proofs
noncomputable section
abbrev R36 : Type := (Int)
noncomputable def body36 : Go.Code := (Tryd.f36.body).getD Go.Code.skip
def h36 (p0 p1 p2 p3 : Int) (p4 : Bool) (p5 p6 : TI) (p7 p8 : Int) : List (AO U) := []
def k36 : AV U → List (AO U) → Option R36 := fun v h => match v, h with | AV.int IntKind.i64 x0, [] => some x0 | _, _ => none
def out36 : R36 → AV U := fun x0 => AV.int IntKind.i64 x0
def outh36 : R36 → List (AO U) := fun x0 => []
def D36 : Nat → Dir := dirs [(3, ⟨[1, 2, 3], [], [], []⟩), (5, ⟨[1, 2, 3], [], [], []⟩), (7, ⟨[2, 3], [], [], []⟩), (9, ⟨[2, 3], [], [], []⟩), (11, ⟨[2, 3], [], [], []⟩), (13, ⟨[3], [], [], []⟩)]
def b36 (p0 p1 p2 p3 : Int) (p4 : Bool) (p5 p6 : TI) (p7 p8 : Int) (c3 c5 c7 c9 c11 c13 : Option R36)  : Option R36 :=
  cond (decide (p0 < 1))
  (some (103))
  (cond (decide (p0 > 8))
  (some (103))
  (c3))
def m36_3 (p0 p1 p2 p3 : Int) (p4 : Bool) (p5 p6 : TI) (p7 p8 : Int)  : S U := S.mk [AV.undef, AV.int IntKind.i64 p7, AV.int IntKind.i64 p8, AV.ptr 0 0, AV.undef, AV.undef, AV.undef, AV.undef, AV.undef, AV.undef, AV.undef, AV.undef, AV.undef, AV.undef, AV.undef, AV.undef, AV.undef, AV.undef, AV.undef, AV.undef, AV.undef, AV.undef, AV.undef, AV.undef, AV.undef, AV.undef, AV.undef, AV.undef, AV.undef, AV.undef, AV.undef, AV.undef, AV.undef, AV.undef, AV.undef, AV.undef, AV.undef, AV.undef, AV.undef, AV.undef, AV.undef, AV.undef, AV.undef, AV.undef, AV.undef, AV.undef, AV.undef, AV.undef, AV.undef, AV.undef, AV.undef, AV.undef, AV.undef, AV.undef, AV.undef, AV.undef, AV.undef, AV.undef, AV.undef, AV.undef, AV.undef, AV.undef, AV.undef, AV.undef, AV.undef, AV.undef, AV.undef, AV.undef, AV.undef, AV.undef, AV.undef, AV.undef, AV.undef, AV.undef, AV.undef, AV.undef, AV.undef, AV.undef, AV.undef, AV.undef, AV.undef] [AO.box [AV.int IntKind.i64 p0, AV.int IntKind.i64 p1, AV.int IntKind.i64 p2, AV.int IntKind.i64 p3, AV.bool p4, AV.imm 99 p5, AV.imm 99 p6]]
def b36_3 (p0 p1 p2 p3 : Int) (p4 : Bool) (p5 p6 : TI) (p7 p8 : Int) (c3 c5 c7 c9 c11 c13 : Option R36)  : Option R36 :=
  (S48 p0 p1 p2 p3 p4 p5 p6).bind fun r0 =>
  cond (r0)
  (some (104))
  (c5)
def m36_5 (p0 p1 p2 p3 : Int) (p4 : Bool) (p5 p6 : TI) (p7 p8 : Int)  : S U := S.mk [AV.undef, AV.int IntKind.i64 p7, AV.int IntKind.i64 p8, AV.ptr 0 0, AV.undef, AV.undef, AV.undef, AV.undef, AV.undef, AV.undef, AV.undef, AV.undef, AV.undef, AV.undef, AV.undef, AV.undef, AV.undef, AV.undef, AV.undef, AV.undef, AV.undef, AV.undef, AV.undef, AV.undef, AV.undef, AV.undef, AV.undef, AV.undef, AV.undef, AV.undef, AV.undef, AV.undef, AV.undef, AV.undef, AV.undef, AV.undef, AV.undef, AV.undef, AV.undef, AV.undef, AV.undef, AV.undef, AV.undef, AV.undef, AV.undef, AV.undef, AV.undef, AV.undef, AV.undef, AV.undef, AV.undef, AV.undef, AV.undef, AV.undef, AV.undef, AV.undef, AV.undef, AV.undef, AV.undef, AV.undef, AV.undef, AV.undef, AV.undef, AV.undef, AV.undef, AV.undef, AV.undef, AV.undef, AV.undef, AV.undef, AV.undef, AV.undef, AV.undef, AV.undef, AV.undef, AV.undef, AV.undef, AV.undef, AV.undef, AV.undef, AV.undef] [AO.box [AV.int IntKind.i64 p0, AV.int IntKind.i64 p1, AV.int IntKind.i64 p2, AV.int IntKind.i64 p3, AV.bool p4, AV.imm 99 p5, AV.imm 99 p6]]
def b36_5 (p0 p1 p2 p3 : Int) (p4 : Bool) (p5 p6 : TI) (p7 p8 : Int) (c3 c5 c7 c9 c11 c13 : Option R36)  : Option R36 :=
  cond (p0 == 1)
  (cond (decide (p1 < 0))
  (some (105))
  (cond (decide (p1 ≥ p7))
  (some (105))
  (c7)))
  (c7)
def m36_7 (p0 p1 p2 p3 : Int) (p4 : Bool) (p5 p6 : TI) (p7 p8 : Int)  : S U := S.mk [AV.undef, AV.undef, AV.int IntKind.i64 p8, AV.ptr 0 0, AV.undef, AV.undef, AV.undef, AV.undef, AV.undef, AV.undef, AV.undef, AV.undef, AV.undef, AV.undef, AV.undef, AV.undef, AV.undef, AV.undef, AV.undef, AV.undef, AV.undef, AV.undef, AV.undef, AV.undef, AV.undef, AV.undef, AV.undef, AV.undef, AV.undef, AV.undef, AV.undef, AV.undef, AV.undef, AV.undef, AV.undef, AV.undef, AV.undef, AV.undef, AV.undef, AV.undef, AV.undef, AV.undef, AV.undef, AV.undef, AV.undef, AV.undef, AV.undef, AV.undef, AV.undef, AV.undef, AV.undef, AV.undef, AV.undef, AV.undef, AV.undef, AV.undef, AV.undef, AV.undef, AV.undef, AV.undef, AV.undef, AV.undef, AV.undef, AV.undef, AV.undef, AV.undef, AV.undef, AV.undef, AV.undef, AV.undef, AV.undef, AV.undef, AV.undef, AV.undef, AV.undef, AV.undef, AV.undef, AV.undef, AV.undef, AV.undef, AV.undef] [AO.box [AV.int IntKind.i64 p0, AV.int IntKind.i64 p1, AV.int IntKind.i64 p2, AV.int IntKind.i64 p3, AV.bool p4, AV.imm 99 p5, AV.imm 99 p6]]
def b36_7 (p0 p1 p2 p3 : Int) (p4 : Bool) (p5 p6 : TI) (p7 p8 : Int) (c3 c5 c7 c9 c11 c13 : Option R36)  : Option R36 :=
  cond (p0 == 2)
  ((S49 p4 p5 p6).bind fun r0 =>
  cond (!r0)
  (some (40))
  (c9))
  (c9)
def m36_9 (p0 p1 p2 p3 : Int) (p4 : Bool) (p5 p6 : TI) (p7 p8 : Int)  : S U := S.mk [AV.undef, AV.undef, AV.int IntKind.i64 p8, AV.ptr 0 0, AV.undef, AV.undef, AV.undef, AV.undef, AV.undef, AV.undef, AV.undef, AV.undef, AV.undef, AV.undef, AV.undef, AV.undef, AV.undef, AV.undef, AV.undef, AV.undef, AV.undef, AV.undef, AV.undef, AV.undef, AV.undef, AV.undef, AV.undef, AV.undef, AV.undef, AV.undef, AV.undef, AV.undef, AV.undef, AV.undef, AV.undef, AV.undef, AV.undef, AV.undef, AV.undef, AV.undef, AV.undef, AV.undef, AV.undef, AV.undef, AV.undef, AV.undef, AV.undef, AV.undef, AV.undef, AV.undef, AV.undef, AV.undef, AV.undef, AV.undef, AV.undef, AV.undef, AV.undef, AV.undef, AV.undef, AV.undef, AV.undef, AV.undef, AV.undef, AV.undef, AV.undef, AV.undef, AV.undef, AV.undef, AV.undef, AV.undef, AV.undef, AV.undef, AV.undef, AV.undef, AV.undef, AV.undef, AV.undef, AV.undef, AV.undef, AV.undef, AV.undef] [AO.box [AV.int IntKind.i64 p0, AV.int IntKind.i64 p1, AV.int IntKind.i64 p2, AV.int IntKind.i64 p3, AV.bool p4, AV.imm 99 p5, AV.imm 99 p6]]
def b36_9 (p0 p1 p2 p3 : Int) (p4 : Bool) (p5 p6 : TI) (p7 p8 : Int) (c3 c5 c7 c9 c11 c13 : Option R36)  : Option R36 :=
  (S38 p0).bind fun r0 =>
  cond (r0)
  (cond (decide (p1 < 0))
  (some (106))
  (cond (decide (p1 ≥ p8))
  (some (106))
  (c11)))
  ((S37 p0).bind fun r1 =>
  cond (r1)
  (cond (decide (p1 < 0))
  (some (106))
  (cond (decide (p1 ≥ p8))
  (some (106))
  (c11)))
  (c11))
def m36_11 (p0 p1 p2 p3 : Int) (p4 : Bool) (p5 p6 : TI) (p7 p8 : Int)  : S U := S.mk [AV.undef, AV.undef, AV.int IntKind.i64 p8, AV.ptr 0 0, AV.undef, AV.undef, AV.undef, AV.undef, AV.undef, AV.undef, AV.undef, AV.undef, AV.undef, AV.undef, AV.undef, AV.undef, AV.undef, AV.undef, AV.undef, AV.undef, AV.undef, AV.undef, AV.undef, AV.undef, AV.undef, AV.undef, AV.undef, AV.undef, AV.undef, AV.undef, AV.undef, AV.undef, AV.undef, AV.undef, AV.undef, AV.undef, AV.undef, AV.undef, AV.undef, AV.undef, AV.undef, AV.undef, AV.undef, AV.undef, AV.undef, AV.undef, AV.undef, AV.undef, AV.undef, AV.undef, AV.undef, AV.undef, AV.undef, AV.undef, AV.undef, AV.undef, AV.undef, AV.undef, AV.undef, AV.undef, AV.undef, AV.undef, AV.undef, AV.undef, AV.undef, AV.undef, AV.undef, AV.undef, AV.undef, AV.undef, AV.undef, AV.undef, AV.undef, AV.undef, AV.undef, AV.undef, AV.undef, AV.undef, AV.undef, AV.undef, AV.undef] [AO.box [AV.int IntKind.i64 p0, AV.int IntKind.i64 p1, AV.int IntKind.i64 p2, AV.int IntKind.i64 p3, AV.bool p4, AV.imm 99 p5, AV.imm 99 p6]]
def b36_11 (p0 p1 p2 p3 : Int) (p4 : Bool) (p5 p6 : TI) (p7 p8 : Int) (c3 c5 c7 c9 c11 c13 : Option R36)  : Option R36 :=
  (S37 p0).bind fun r0 =>
  cond (r0)
  (cond (decide (p2 < 0))
  (some (106))
  (cond (decide (p2 ≥ p8))
  (some (106))
  (c13)))
  (c13)
def m36_13 (p0 p1 p2 p3 : Int) (p4 : Bool) (p5 p6 : TI) (p7 p8 : Int)  : S U := S.mk [AV.undef, AV.undef, AV.undef, AV.ptr 0 0, AV.undef, AV.undef, AV.undef, AV.undef, AV.undef, AV.undef, AV.undef, AV.undef, AV.undef, AV.undef, AV.undef, AV.undef, AV.undef, AV.undef, AV.undef, AV.undef, AV.undef, AV.undef, AV.undef, AV.undef, AV.undef, AV.undef, AV.undef, AV.undef, AV.undef, AV.undef, AV.undef, AV.undef, AV.undef, AV.undef, AV.undef, AV.undef, AV.undef, AV.undef, AV.undef, AV.undef, AV.undef, AV.undef, AV.undef, AV.undef, AV.undef, AV.undef, AV.undef, AV.undef, AV.undef, AV.undef, AV.undef, AV.undef, AV.undef, AV.undef, AV.undef, AV.undef, AV.undef, AV.undef, AV.undef, AV.undef, AV.undef, AV.undef, AV.undef, AV.undef, AV.undef, AV.undef, AV.undef, AV.undef, AV.undef, AV.undef, AV.undef, AV.undef, AV.undef, AV.undef, AV.undef, AV.undef, AV.undef, AV.undef, AV.undef, AV.undef, AV.undef] [AO.box [AV.int IntKind.i64 p0, AV.int IntKind.i64 p1, AV.int IntKind.i64 p2, AV.int IntKind.i64 p3, AV.bool p4, AV.imm 99 p5, AV.imm 99 p6]]
def b36_13 (p0 p1 p2 p3 : Int) (p4 : Bool) (p5 p6 : TI) (p7 p8 : Int) (c3 c5 c7 c9 c11 c13 : Option R36)  : Option R36 :=
  cond (decide (p3 < -1024))
  (some (107))
  (cond (decide (p3 > 1024))
  (some (107))
  (some (0)))
theorem hk36 : ∀ v h' r, k36 v h' = some r → v = out36 r ∧ h' = outh36 r := by
  intro v h' r h
  unfold k36 at h
  split at h
  · injection h with h; subst h; exact ⟨rfl, rfl⟩
  · cases h
abbrev q36 : Prim U R36 := prims X [⟨48, fun _ => true, [.lend], F48 S48⟩, ⟨49, fun _ => true, [.lend], F49 S49⟩, ⟨38, fun _ => true, [.lend], F38 S38⟩, ⟨37, fun _ => true, [.lend], F37 S37⟩]
theorem s36 (c : Nat → S U → Option R36) (p0 p1 p2 p3 : Int) (p4 : Bool) (p5 p6 : TI) (p7 p8 : Int) : seg TP X q36 [3, 5, 7, 9, 11, 13] (fun q st => c q (keepD D36 (h36 p0 p1 p2 p3 p4 p5 p6 p7 p8).length q st)) body36 (finH TP Tryd.f36.results.toList (h36 p0 p1 p2 p3 p4 p5 p6 p7 p8).length false k36) (start [.agg [.int .i64 p0, .int .i64 p1, .int .i64 p2, .int .i64 p3, .bool p4, .imm 99 p5, .imm 99 p6], .int .i64 p7, .int .i64 p8] Tryd.f36.ntmps (h36 p0 p1 p2 p3 p4 p5 p6 p7 p8)) = b36 p0 p1 p2 p3 p4 p5 p6 p7 p8 (c 3 (m36_3 p0 p1 p2 p3 p4 p5 p6 p7 p8)) (c 5 (m36_5 p0 p1 p2 p3 p4 p5 p6 p7 p8)) (c 7 (m36_7 p0 p1 p2 p3 p4 p5 p6 p7 p8)) (c 9 (m36_9 p0 p1 p2 p3 p4 p5 p6 p7 p8)) (c 11 (m36_11 p0 p1 p2 p3 p4 p5 p6 p7 p8)) (c 13 (m36_13 p0 p1 p2 p3 p4 p5 p6 p7 p8)) := by kernel_rfl
theorem s36_3 (c : Nat → S U → Option R36) (p0 p1 p2 p3 : Int) (p4 : Bool) (p5 p6 : TI) (p7 p8 : Int)  : res TP X q36 [3, 5, 7, 9, 11, 13] (fun q st => c q (keepD D36 (h36 p0 p1 p2 p3 p4 p5 p6 p7 p8).length q st)) 3 body36 (finH TP Tryd.f36.results.toList (h36 p0 p1 p2 p3 p4 p5 p6 p7 p8).length false k36) (m36_3 p0 p1 p2 p3 p4 p5 p6 p7 p8 ) = b36_3 p0 p1 p2 p3 p4 p5 p6 p7 p8 (c 3 (m36_3 p0 p1 p2 p3 p4 p5 p6 p7 p8)) (c 5 (m36_5 p0 p1 p2 p3 p4 p5 p6 p7 p8)) (c 7 (m36_7 p0 p1 p2 p3 p4 p5 p6 p7 p8)) (c 9 (m36_9 p0 p1 p2 p3 p4 p5 p6 p7 p8)) (c 11 (m36_11 p0 p1 p2 p3 p4 p5 p6 p7 p8)) (c 13 (m36_13 p0 p1 p2 p3 p4 p5 p6 p7 p8))  := by kernel_rfl
theorem s36_5 (c : Nat → S U → Option R36) (p0 p1 p2 p3 : Int) (p4 : Bool) (p5 p6 : TI) (p7 p8 : Int)  : res TP X q36 [3, 5, 7, 9, 11, 13] (fun q st => c q (keepD D36 (h36 p0 p1 p2 p3 p4 p5 p6 p7 p8).length q st)) 5 body36 (finH TP Tryd.f36.results.toList (h36 p0 p1 p2 p3 p4 p5 p6 p7 p8).length false k36) (m36_5 p0 p1 p2 p3 p4 p5 p6 p7 p8 ) = b36_5 p0 p1 p2 p3 p4 p5 p6 p7 p8 (c 3 (m36_3 p0 p1 p2 p3 p4 p5 p6 p7 p8)) (c 5 (m36_5 p0 p1 p2 p3 p4 p5 p6 p7 p8)) (c 7 (m36_7 p0 p1 p2 p3 p4 p5 p6 p7 p8)) (c 9 (m36_9 p0 p1 p2 p3 p4 p5 p6 p7 p8)) (c 11 (m36_11 p0 p1 p2 p3 p4 p5 p6 p7 p8)) (c 13 (m36_13 p0 p1 p2 p3 p4 p5 p6 p7 p8))  := by kernel_rfl
theorem s36_7 (c : Nat → S U → Option R36) (p0 p1 p2 p3 : Int) (p4 : Bool) (p5 p6 : TI) (p7 p8 : Int)  : res TP X q36 [3, 5, 7, 9, 11, 13] (fun q st => c q (keepD D36 (h36 p0 p1 p2 p3 p4 p5 p6 p7 p8).length q st)) 7 body36 (finH TP Tryd.f36.results.toList (h36 p0 p1 p2 p3 p4 p5 p6 p7 p8).length false k36) (m36_7 p0 p1 p2 p3 p4 p5 p6 p7 p8 ) = b36_7 p0 p1 p2 p3 p4 p5 p6 p7 p8 (c 3 (m36_3 p0 p1 p2 p3 p4 p5 p6 p7 p8)) (c 5 (m36_5 p0 p1 p2 p3 p4 p5 p6 p7 p8)) (c 7 (m36_7 p0 p1 p2 p3 p4 p5 p6 p7 p8)) (c 9 (m36_9 p0 p1 p2 p3 p4 p5 p6 p7 p8)) (c 11 (m36_11 p0 p1 p2 p3 p4 p5 p6 p7 p8)) (c 13 (m36_13 p0 p1 p2 p3 p4 p5 p6 p7 p8))  := by kernel_rfl
theorem s36_9 (c : Nat → S U → Option R36) (p0 p1 p2 p3 : Int) (p4 : Bool) (p5 p6 : TI) (p7 p8 : Int)  : res TP X q36 [3, 5, 7, 9, 11, 13] (fun q st => c q (keepD D36 (h36 p0 p1 p2 p3 p4 p5 p6 p7 p8).length q st)) 9 body36 (finH TP Tryd.f36.results.toList (h36 p0 p1 p2 p3 p4 p5 p6 p7 p8).length false k36) (m36_9 p0 p1 p2 p3 p4 p5 p6 p7 p8 ) = b36_9 p0 p1 p2 p3 p4 p5 p6 p7 p8 (c 3 (m36_3 p0 p1 p2 p3 p4 p5 p6 p7 p8)) (c 5 (m36_5 p0 p1 p2 p3 p4 p5 p6 p7 p8)) (c 7 (m36_7 p0 p1 p2 p3 p4 p5 p6 p7 p8)) (c 9 (m36_9 p0 p1 p2 p3 p4 p5 p6 p7 p8)) (c 11 (m36_11 p0 p1 p2 p3 p4 p5 p6 p7 p8)) (c 13 (m36_13 p0 p1 p2 p3 p4 p5 p6 p7 p8))  := by kernel_rfl
theorem s36_11 (c : Nat → S U → Option R36) (p0 p1 p2 p3 : Int) (p4 : Bool) (p5 p6 : TI) (p7 p8 : Int)  : res TP X q36 [3, 5, 7, 9, 11, 13] (fun q st => c q (keepD D36 (h36 p0 p1 p2 p3 p4 p5 p6 p7 p8).length q st)) 11 body36 (finH TP Tryd.f36.results.toList (h36 p0 p1 p2 p3 p4 p5 p6 p7 p8).length false k36) (m36_11 p0 p1 p2 p3 p4 p5 p6 p7 p8 ) = b36_11 p0 p1 p2 p3 p4 p5 p6 p7 p8 (c 3 (m36_3 p0 p1 p2 p3 p4 p5 p6 p7 p8)) (c 5 (m36_5 p0 p1 p2 p3 p4 p5 p6 p7 p8)) (c 7 (m36_7 p0 p1 p2 p3 p4 p5 p6 p7 p8)) (c 9 (m36_9 p0 p1 p2 p3 p4 p5 p6 p7 p8)) (c 11 (m36_11 p0 p1 p2 p3 p4 p5 p6 p7 p8)) (c 13 (m36_13 p0 p1 p2 p3 p4 p5 p6 p7 p8))  := by kernel_rfl
theorem s36_13 (c : Nat → S U → Option R36) (p0 p1 p2 p3 : Int) (p4 : Bool) (p5 p6 : TI) (p7 p8 : Int)  : res TP X q36 [3, 5, 7, 9, 11, 13] (fun q st => c q (keepD D36 (h36 p0 p1 p2 p3 p4 p5 p6 p7 p8).length q st)) 13 body36 (finH TP Tryd.f36.results.toList (h36 p0 p1 p2 p3 p4 p5 p6 p7 p8).length false k36) (m36_13 p0 p1 p2 p3 p4 p5 p6 p7 p8 ) = b36_13 p0 p1 p2 p3 p4 p5 p6 p7 p8 (c 3 (m36_3 p0 p1 p2 p3 p4 p5 p6 p7 p8)) (c 5 (m36_5 p0 p1 p2 p3 p4 p5 p6 p7 p8)) (c 7 (m36_7 p0 p1 p2 p3 p4 p5 p6 p7 p8)) (c 9 (m36_9 p0 p1 p2 p3 p4 p5 p6 p7 p8)) (c 11 (m36_11 p0 p1 p2 p3 p4 p5 p6 p7 p8)) (c 13 (m36_13 p0 p1 p2 p3 p4 p5 p6 p7 p8))  := by kernel_rfl
mutual
def f36_3 (p0 p1 p2 p3 : Int) (p4 : Bool) (p5 p6 : TI) (p7 p8 : Int) : Nat → Option R36
  | 0 => none
  | k + 1 => b36_3 p0 p1 p2 p3 p4 p5 p6 p7 p8 (f36_3 p0 p1 p2 p3 p4 p5 p6 p7 p8 k) (f36_5 p0 p1 p2 p3 p4 p5 p6 p7 p8 k) (f36_7 p0 p1 p2 p3 p4 p5 p6 p7 p8 k) (f36_9 p0 p1 p2 p3 p4 p5 p6 p7 p8 k) (f36_11 p0 p1 p2 p3 p4 p5 p6 p7 p8 k) (f36_13 p0 p1 p2 p3 p4 p5 p6 p7 p8 k)
def f36_5 (p0 p1 p2 p3 : Int) (p4 : Bool) (p5 p6 : TI) (p7 p8 : Int) : Nat → Option R36
  | 0 => none
  | k + 1 => b36_5 p0 p1 p2 p3 p4 p5 p6 p7 p8 (f36_3 p0 p1 p2 p3 p4 p5 p6 p7 p8 k) (f36_5 p0 p1 p2 p3 p4 p5 p6 p7 p8 k) (f36_7 p0 p1 p2 p3 p4 p5 p6 p7 p8 k) (f36_9 p0 p1 p2 p3 p4 p5 p6 p7 p8 k) (f36_11 p0 p1 p2 p3 p4 p5 p6 p7 p8 k) (f36_13 p0 p1 p2 p3 p4 p5 p6 p7 p8 k)
def f36_7 (p0 p1 p2 p3 : Int) (p4 : Bool) (p5 p6 : TI) (p7 p8 : Int) : Nat → Option R36
  | 0 => none
  | k + 1 => b36_7 p0 p1 p2 p3 p4 p5 p6 p7 p8 (f36_3 p0 p1 p2 p3 p4 p5 p6 p7 p8 k) (f36_5 p0 p1 p2 p3 p4 p5 p6 p7 p8 k) (f36_7 p0 p1 p2 p3 p4 p5 p6 p7 p8 k) (f36_9 p0 p1 p2 p3 p4 p5 p6 p7 p8 k) (f36_11 p0 p1 p2 p3 p4 p5 p6 p7 p8 k) (f36_13 p0 p1 p2 p3 p4 p5 p6 p7 p8 k)
def f36_9 (p0 p1 p2 p3 : Int) (p4 : Bool) (p5 p6 : TI) (p7 p8 : Int) : Nat → Option R36
  | 0 => none
  | k + 1 => b36_9 p0 p1 p2 p3 p4 p5 p6 p7 p8 (f36_3 p0 p1 p2 p3 p4 p5 p6 p7 p8 k) (f36_5 p0 p1 p2 p3 p4 p5 p6 p7 p8 k) (f36_7 p0 p1 p2 p3 p4 p5 p6 p7 p8 k) (f36_9 p0 p1 p2 p3 p4 p5 p6 p7 p8 k) (f36_11 p0 p1 p2 p3 p4 p5 p6 p7 p8 k) (f36_13 p0 p1 p2 p3 p4 p5 p6 p7 p8 k)
def f36_11 (p0 p1 p2 p3 : Int) (p4 : Bool) (p5 p6 : TI) (p7 p8 : Int) : Nat → Option R36
  | 0 => none
  | k + 1 => b36_11 p0 p1 p2 p3 p4 p5 p6 p7 p8 (f36_3 p0 p1 p2 p3 p4 p5 p6 p7 p8 k) (f36_5 p0 p1 p2 p3 p4 p5 p6 p7 p8 k) (f36_7 p0 p1 p2 p3 p4 p5 p6 p7 p8 k) (f36_9 p0 p1 p2 p3 p4 p5 p6 p7 p8 k) (f36_11 p0 p1 p2 p3 p4 p5 p6 p7 p8 k) (f36_13 p0 p1 p2 p3 p4 p5 p6 p7 p8 k)
def f36_13 (p0 p1 p2 p3 : Int) (p4 : Bool) (p5 p6 : TI) (p7 p8 : Int) : Nat → Option R36
  | 0 => none
  | k + 1 => b36_13 p0 p1 p2 p3 p4 p5 p6 p7 p8 (f36_3 p0 p1 p2 p3 p4 p5 p6 p7 p8 k) (f36_5 p0 p1 p2 p3 p4 p5 p6 p7 p8 k) (f36_7 p0 p1 p2 p3 p4 p5 p6 p7 p8 k) (f36_9 p0 p1 p2 p3 p4 p5 p6 p7 p8 k) (f36_11 p0 p1 p2 p3 p4 p5 p6 p7 p8 k) (f36_13 p0 p1 p2 p3 p4 p5 p6 p7 p8 k)
end
def f36 (k : Nat) (p0 p1 p2 p3 : Int) (p4 : Bool) (p5 p6 : TI) (p7 p8 : Int) : Option R36 := b36 p0 p1 p2 p3 p4 p5 p6 p7 p8 (f36_3 p0 p1 p2 p3 p4 p5 p6 p7 p8 k) (f36_5 p0 p1 p2 p3 p4 p5 p6 p7 p8 k) (f36_7 p0 p1 p2 p3 p4 p5 p6 p7 p8 k) (f36_9 p0 p1 p2 p3 p4 p5 p6 p7 p8 k) (f36_11 p0 p1 p2 p3 p4 p5 p6 p7 p8 k) (f36_13 p0 p1 p2 p3 p4 p5 p6 p7 p8 k)
theorem e36 (p0 p1 p2 p3 : Int) (p4 : Bool) (p5 p6 : TI) (p7 p8 : Int) : ∀ k, (cutG TP X q36 [3, 5, 7, 9, 11, 13] D36 (h36 p0 p1 p2 p3 p4 p5 p6 p7 p8).length body36 (finH TP Tryd.f36.results.toList (h36 p0 p1 p2 p3 p4 p5 p6 p7 p8).length false k36) k 3 (m36_3 p0 p1 p2 p3 p4 p5 p6 p7 p8) = f36_3 p0 p1 p2 p3 p4 p5 p6 p7 p8 k) ∧ (cutG TP X q36 [3, 5, 7, 9, 11, 13] D36 (h36 p0 p1 p2 p3 p4 p5 p6 p7 p8).length body36 (finH TP Tryd.f36.results.toList (h36 p0 p1 p2 p3 p4 p5 p6 p7 p8).length false k36) k 5 (m36_5 p0 p1 p2 p3 p4 p5 p6 p7 p8) = f36_5 p0 p1 p2 p3 p4 p5 p6 p7 p8 k) ∧ (cutG TP X q36 [3, 5, 7, 9, 11, 13] D36 (h36 p0 p1 p2 p3 p4 p5 p6 p7 p8).length body36 (finH TP Tryd.f36.results.toList (h36 p0 p1 p2 p3 p4 p5 p6 p7 p8).length false k36) k 7 (m36_7 p0 p1 p2 p3 p4 p5 p6 p7 p8) = f36_7 p0 p1 p2 p3 p4 p5 p6 p7 p8 k) ∧ (cutG TP X q36 [3, 5, 7, 9, 11, 13] D36 (h36 p0 p1 p2 p3 p4 p5 p6 p7 p8).length body36 (finH TP Tryd.f36.results.toList (h36 p0 p1 p2 p3 p4 p5 p6 p7 p8).length false k36) k 9 (m36_9 p0 p1 p2 p3 p4 p5 p6 p7 p8) = f36_9 p0 p1 p2 p3 p4 p5 p6 p7 p8 k) ∧ (cutG TP X q36 [3, 5, 7, 9, 11, 13] D36 (h36 p0 p1 p2 p3 p4 p5 p6 p7 p8).length body36 (finH TP Tryd.f36.results.toList (h36 p0 p1 p2 p3 p4 p5 p6 p7 p8).length false k36) k 11 (m36_11 p0 p1 p2 p3 p4 p5 p6 p7 p8) = f36_11 p0 p1 p2 p3 p4 p5 p6 p7 p8 k) ∧ (cutG TP X q36 [3, 5, 7, 9, 11, 13] D36 (h36 p0 p1 p2 p3 p4 p5 p6 p7 p8).length body36 (finH TP Tryd.f36.results.toList (h36 p0 p1 p2 p3 p4 p5 p6 p7 p8).length false k36) k 13 (m36_13 p0 p1 p2 p3 p4 p5 p6 p7 p8) = f36_13 p0 p1 p2 p3 p4 p5 p6 p7 p8 k)
  | 0 => ⟨rfl, rfl, rfl, rfl, rfl, rfl⟩
  | k + 1 => by
    have ih := e36 p0 p1 p2 p3 p4 p5 p6 p7 p8 k
    refine ⟨?_, ?_, ?_, ?_, ?_, ?_⟩
    · refine (if_pos (by kernel_rfl)).trans ?_
      rw [s36_3]
      simp only [ih]
      rfl
    · refine (if_pos (by kernel_rfl)).trans ?_
      rw [s36_5]
      simp only [ih]
      rfl
    · refine (if_pos (by kernel_rfl)).trans ?_
      rw [s36_7]
      simp only [ih]
      rfl
    · refine (if_pos (by kernel_rfl)).trans ?_
      rw [s36_9]
      simp only [ih]
      rfl
    · refine (if_pos (by kernel_rfl)).trans ?_
      rw [s36_11]
      simp only [ih]
      rfl
    · refine (if_pos (by kernel_rfl)).trans ?_
      rw [s36_13]
      simp only [ih]
      rfl
theorem pure36 (p0 p1 p2 p3 : Int) (p4 : Bool) (p5 p6 : TI) (p7 p8 : Int) (pok : PrmOK TP X q36) (k : Nat) (r : R36) (h : f36 k p0 p1 p2 p3 p4 p5 p6 p7 p8 = some r) : PureH TP X 36 [.agg [.int .i64 p0, .int .i64 p1, .int .i64 p2, .int .i64 p3, .bool p4, .imm 99 p5, .imm 99 p6], .int .i64 p7, .int .i64 p8] (h36 p0 p1 p2 p3 p4 p5 p6 p7 p8) (out36 r) (outh36 r) :=
  pure_gen good k (fn := Tryd.f36) (body := body36) (prim := q36) (D := D36) (cuts := [3, 5, 7, 9, 11, 13]) (h := h36 p0 p1 p2 p3 p4 p5 p6 p7 p8) (own := false) (by kernel_rfl) (by kernel_rfl) (by decide +kernel) pok hk36 (by
    rw [s36]
    have ih := e36 p0 p1 p2 p3 p4 p5 p6 p7 p8 k
    simp only [ih]
    exact h)
def F36 {R : Type} (spec : (Int) → Int → (Int) → Int → (Bool) → TI → TI → Int → (Int) → Option R36) : Fn U R := fun args h k => match args, h with | [.agg [.int .i64 p0, .int .i64 p1, .int .i64 p2, .int .i64 p3, .bool p4, .imm 99 p5, .imm 99 p6], .int .i64 p7, .int .i64 p8], [] => (spec p0 p1 p2 p3 p4 p5 p6 p7 p8).bind fun r => k (out36 r) (outh36 r) | _, _ => none
theorem ok36 {R : Type} (spec : (Int) → Int → (Int) → Int → (Bool) → TI → TI → Int → (Int) → Option R36) (hp : ∀ (p0 : Int) (p1 : Int) (p2 : Int) (p3 : Int) (p4 : Bool) (p5 : TI) (p6 : TI) (p7 : Int) (p8 : Int) (r : R36), spec p0 p1 p2 p3 p4 p5 p6 p7 p8 = some r → PureH TP X 36 [.agg [.int .i64 p0, .int .i64 p1, .int .i64 p2, .int .i64 p3, .bool p4, .imm 99 p5, .imm 99 p6], .int .i64 p7, .int .i64 p8] (h36 p0 p1 p2 p3 p4 p5 p6 p7 p8) (out36 r) (outh36 r)) : FnOK TP X 36 (F36 spec : Fn U R) := by
  intro args h k r hh
  unfold F36 at hh
  split at hh
  · obtain ⟨x, h1, h2⟩ := Option.bind_eq_some_iff.1 hh
    exact ⟨_, _, h2, hp _ _ _ _ _ _ _ _ _ _ h1⟩
  · cases hh
theorem pok36 : PrmOK TP X q36 := prims_cons good okS48 (prims_cons good okS49 (prims_cons good okS38 (prims_cons good okS37 (prims_nil TP X mixed))))
noncomputable def S36 (p0 p1 p2 p3 : Int) (p4 : Bool) (p5 p6 : TI) (p7 p8 : Int) : Option R36 := evv fun k => f36 k p0 p1 p2 p3 p4 p5 p6 p7 p8
theorem okS36 {R : Type} : FnOK TP X 36 (F36 S36 : Fn U R) := ok36 S36 fun p0 p1 p2 p3 p4 p5 p6 p7 p8 r h => by
  obtain ⟨k, hk⟩ := evv_fuel h
  exact pure36 p0 p1 p2 p3 p4 p5 p6 p7 p8 pok36 k r hk
end
end Go.Abs.Z
namespace Go.Abs.Z
open Go Go.Abs Go.Proofs
noncomputable section
abbrev R17 : Type := Int × (Int)
noncomputable def body17 : Go.Code := (Tryd.f17.body).getD Go.Code.skip
def h17 (p0 : Int) (p1 : List TOp) (p2 : TI) : List (AO U) := []
def k17 : AV U → List (AO U) → Option R17 := fun v h => match v, h with | AV.tup [AV.int IntKind.i64 x0, AV.int IntKind.i64 x1], [] => some (x0, x1) | _, _ => none
def out17 : R17 → AV U := fun (x0, x1) => AV.tup [AV.int IntKind.i64 x0, AV.int IntKind.i64 x1]
def outh17 : R17 → List (AO U) := fun (x0, x1) => []
def D17 : Nat → Dir := dirs [(8, ⟨[1, 4], [], [], []⟩), (14, ⟨[1, 6], [], [], []⟩)]
def b17 (p0 : Int) (p1 : List TOp) (p2 : TI) (c8 c14 : (Int) → Option R17)  : Option R17 :=
  cond (decide (p0 < 0))
  (some ((-1, 100)))
  (cond (decide (p0 > 64))
  (some ((-1, 100)))
  (cond (decide ((↑p1.length : Int) > 2048))
  (some ((-1, 101)))
  (cond ((↑p2.length : Int) == 0)
  (some ((-1, 102)))
  (cond (decide ((↑p2.length : Int) > 64))
  (some ((-1, 102)))
  (c8 (0))))))
def m17_8 (p0 : Int) (p1 : List TOp) (p2 : TI) (v0 : Int) : S U := S.mk [AV.undef, AV.ptr 0 0, AV.undef, AV.undef, AV.int IntKind.i64 v0, AV.undef, AV.undef, AV.undef, AV.undef, AV.undef, AV.undef, AV.undef, AV.undef, AV.undef, AV.undef, AV.undef, AV.undef, AV.undef, AV.undef, AV.undef, AV.undef, AV.undef, AV.undef, AV.undef, AV.undef, AV.undef, AV.undef, AV.undef, AV.undef, AV.undef, AV.undef, AV.undef, AV.undef, AV.undef, AV.undef, AV.undef, AV.undef, AV.undef, AV.undef, AV.undef, AV.undef, AV.undef, AV.undef, AV.undef, AV.undef, AV.undef, AV.undef, AV.undef, AV.undef, AV.undef, AV.undef, AV.undef, AV.undef, AV.undef, AV.undef, AV.undef, AV.undef, AV.undef, AV.undef, AV.undef, AV.undef, AV.undef, AV.undef, AV.undef, AV.undef, AV.undef, AV.undef, AV.undef, AV.undef, AV.undef, AV.undef, AV.undef, AV.undef, AV.undef, AV.undef, AV.undef, AV.undef, AV.undef] [AO.box [AV.int IntKind.i64 p0, AV.imm 67 p1, AV.imm 3 p2]]
def b17_8 (p0 : Int) (p1 : List TOp) (p2 : TI) (c8 c14 : (Int) → Option R17) (v0 : Int) : Option R17 :=
  cond (decide (v0 < (↑p1.length : Int)))
  (cond (decide (0 ≤ v0))
  (cond (decide (v0 < (↑p1.length : Int)))
  (cond (decide (v0.toNat < p1.length))
  ((S36 (p1.getD v0.toNat (X.dflt 67)).fst (p1.getD v0.toNat (X.dflt 67)).snd.fst (p1.getD v0.toNat (X.dflt 67)).snd.snd.fst (p1.getD v0.toNat (X.dflt 67)).snd.snd.snd.fst (p1.getD v0.toNat (X.dflt 67)).snd.snd.snd.snd.fst (p1.getD v0.toNat (X.dflt 67)).snd.snd.snd.snd.snd.fst (p1.getD v0.toNat (X.dflt 67)).snd.snd.snd.snd.snd.snd p0 v0).bind fun r0 =>
  cond (r0 != 0)
  (some ((v0, r0)))
  (c8 (IntKind.i64.wrap (v0 + 1))))
  (none))
  (none))
  (none))
  (c14 (0))
def m17_14 (p0 : Int) (p1 : List TOp) (p2 : TI) (v0 : Int) : S U := S.mk [AV.undef, AV.ptr 0 0, AV.undef, AV.undef, AV.undef, AV.undef, AV.int IntKind.i64 v0, AV.undef, AV.undef, AV.undef, AV.undef, AV.undef, AV.undef, AV.undef, AV.undef, AV.undef, AV.undef, AV.undef, AV.undef, AV.undef, AV.undef, AV.undef, AV.undef, AV.undef, AV.undef, AV.undef, AV.undef, AV.undef, AV.undef, AV.undef, AV.undef, AV.undef, AV.undef, AV.undef, AV.undef, AV.undef, AV.undef, AV.undef, AV.undef, AV.undef, AV.undef, AV.undef, AV.undef, AV.undef, AV.undef, AV.undef, AV.undef, AV.undef, AV.undef, AV.undef, AV.undef, AV.undef, AV.undef, AV.undef, AV.undef, AV.undef, AV.undef, AV.undef, AV.undef, AV.undef, AV.undef, AV.undef, AV.undef, AV.undef, AV.undef, AV.undef, AV.undef, AV.undef, AV.undef, AV.undef, AV.undef, AV.undef, AV.undef, AV.undef, AV.undef, AV.undef, AV.undef, AV.undef] [AO.box [AV.int IntKind.i64 p0, AV.imm 67 p1, AV.imm 3 p2]]
def b17_14 (p0 : Int) (p1 : List TOp) (p2 : TI) (c8 c14 : (Int) → Option R17) (v0 : Int) : Option R17 :=
  cond (decide (v0 < (↑p2.length : Int)))
  (cond (decide (0 ≤ v0))
  (cond (decide (v0 < (↑p2.length : Int)))
  (cond (decide (v0.toNat < p2.length))
  (cond (decide (p2.getD v0.toNat (X.dflt 3) < 0))
  (some ((IntKind.i64.wrap ((↑p1.length : Int) + v0), 108)))
  (cond (decide (0 ≤ v0))
  (cond (decide (v0 < (↑p2.length : Int)))
  (cond (decide (v0.toNat < p2.length))
  (cond (decide (p2.getD v0.toNat (X.dflt 3) ≥ (↑p1.length : Int)))
  (some ((IntKind.i64.wrap ((↑p1.length : Int) + v0), 108)))
  (c14 (IntKind.i64.wrap (v0 + 1))))
  (none))
  (none))
  (none)))
  (none))
  (none))
  (none))
  (some ((0, 0)))
theorem hk17 : ∀ v h' r, k17 v h' = some r → v = out17 r ∧ h' = outh17 r := by
  intro v h' r h
  unfold k17 at h
  split at h
  · injection h with h; subst h; exact ⟨rfl, rfl⟩
  · cases h
abbrev q17 : Prim U R17 := prims X [⟨36, fun _ => true, [.lend, .lend, .lend], F36 S36⟩]
theorem s17 (c : Nat → S U → Option R17) (p0 : Int) (p1 : List TOp) (p2 : TI) : seg TP X q17 [8, 14] (fun q st => c q (keepD D17 (h17 p0 p1 p2).length q st)) body17 (finH TP Tryd.f17.results.toList (h17 p0 p1 p2).length false k17) (start [.agg [.int .i64 p0, .imm 67 p1, .imm 3 p2]] Tryd.f17.ntmps (h17 p0 p1 p2)) = b17 p0 p1 p2 (fun v0 => c 8 (m17_8 p0 p1 p2 v0)) (fun v0 => c 14 (m17_14 p0 p1 p2 v0)) := by kernel_rfl
theorem s17_8 (c : Nat → S U → Option R17) (p0 : Int) (p1 : List TOp) (p2 : TI) (v0 : Int) : res TP X q17 [8, 14] (fun q st => c q (keepD D17 (h17 p0 p1 p2).length q st)) 8 body17 (finH TP Tryd.f17.results.toList (h17 p0 p1 p2).length false k17) (m17_8 p0 p1 p2 v0) = b17_8 p0 p1 p2 (fun v0 => c 8 (m17_8 p0 p1 p2 v0)) (fun v0 => c 14 (m17_14 p0 p1 p2 v0)) v0 := by kernel_rfl
theorem s17_14 (c : Nat → S U → Option R17) (p0 : Int) (p1 : List TOp) (p2 : TI) (v0 : Int) : res TP X q17 [8, 14] (fun q st => c q (keepD D17 (h17 p0 p1 p2).length q st)) 14 body17 (finH TP Tryd.f17.results.toList (h17 p0 p1 p2).length false k17) (m17_14 p0 p1 p2 v0) = b17_14 p0 p1 p2 (fun v0 => c 8 (m17_8 p0 p1 p2 v0)) (fun v0 => c 14 (m17_14 p0 p1 p2 v0)) v0 := by kernel_rfl
mutual
def f17_8 (p0 : Int) (p1 : List TOp) (p2 : TI) : Nat → Int → Option R17
  | 0 => fun _ => none
  | k + 1 => b17_8 p0 p1 p2 (f17_8 p0 p1 p2 k) (f17_14 p0 p1 p2 k)
def f17_14 (p0 : Int) (p1 : List TOp) (p2 : TI) : Nat → Int → Option R17
  | 0 => fun _ => none
  | k + 1 => b17_14 p0 p1 p2 (f17_8 p0 p1 p2 k) (f17_14 p0 p1 p2 k)
end
def f17 (k : Nat) (p0 : Int) (p1 : List TOp) (p2 : TI) : Option R17 := b17 p0 p1 p2 (f17_8 p0 p1 p2 k) (f17_14 p0 p1 p2 k)
theorem e17 (p0 : Int) (p1 : List TOp) (p2 : TI) : ∀ k, ((fun v0 => cutG TP X q17 [8, 14] D17 (h17 p0 p1 p2).length body17 (finH TP Tryd.f17.results.toList (h17 p0 p1 p2).length false k17) k 8 (m17_8 p0 p1 p2 v0)) = f17_8 p0 p1 p2 k) ∧ ((fun v0 => cutG TP X q17 [8, 14] D17 (h17 p0 p1 p2).length body17 (finH TP Tryd.f17.results.toList (h17 p0 p1 p2).length false k17) k 14 (m17_14 p0 p1 p2 v0)) = f17_14 p0 p1 p2 k)
  | 0 => ⟨rfl, rfl⟩
  | k + 1 => by
    have ih := e17 p0 p1 p2 k
    refine ⟨?_, ?_⟩
    · funext v0
      refine (if_pos (by kernel_rfl)).trans ?_
      rw [s17_8]
      simp only [ih]
      rfl
    · funext v0
      refine (if_pos (by kernel_rfl)).trans ?_
      rw [s17_14]
      simp only [ih]
      rfl
theorem pure17 (p0 : Int) (p1 : List TOp) (p2 : TI) (pok : PrmOK TP X q17) (k : Nat) (r : R17) (h : f17 k p0 p1 p2 = some r) : PureH TP X 17 [.agg [.int .i64 p0, .imm 67 p1, .imm 3 p2]] (h17 p0 p1 p2) (out17 r) (outh17 r) :=
  pure_gen good k (fn := Tryd.f17) (body := body17) (prim := q17) (D := D17) (cuts := [8, 14]) (h := h17 p0 p1 p2) (own := false) (by kernel_rfl) (by kernel_rfl) (by decide +kernel) pok hk17 (by
    rw [s17]
    have ih := e17 p0 p1 p2 k
    simp only [ih]
    exact h)
def F17 {R : Type} (spec : (Int) → (List TOp) → TI → Option R17) : Fn U R := fun args h k => match args, h with | [.agg [.int .i64 p0, .imm 67 p1, .imm 3 p2]], [] => (spec p0 p1 p2).bind fun r => k (out17 r) (outh17 r) | _, _ => none
theorem ok17 {R : Type} (spec : (Int) → (List TOp) → TI → Option R17) (hp : ∀ (p0 : Int) (p1 : List TOp) (p2 : TI) (r : R17), spec p0 p1 p2 = some r → PureH TP X 17 [.agg [.int .i64 p0, .imm 67 p1, .imm 3 p2]] (h17 p0 p1 p2) (out17 r) (outh17 r)) : FnOK TP X 17 (F17 spec : Fn U R) := by
  intro args h k r hh
  unfold F17 at hh
  split at hh
  · obtain ⟨x, h1, h2⟩ := Option.bind_eq_some_iff.1 hh
    exact ⟨_, _, h2, hp _ _ _ _ h1⟩
  · cases hh
theorem pok17 : PrmOK TP X q17 := prims_cons good okS36 (prims_nil TP X mixed)
noncomputable def S17 (p0 : Int) (p1 : List TOp) (p2 : TI) : Option R17 := evv fun k => f17 k p0 p1 p2
theorem okS17 {R : Type} : FnOK TP X 17 (F17 S17 : Fn U R) := ok17 S17 fun p0 p1 p2 r h => by
  obtain ⟨k, hk⟩ := evv_fuel h
  exact pure17 p0 p1 p2 pok17 k r hk
end
end Go.Abs.Z
namespace Go.Abs.Z
open Go Go.Abs Go.Proofs
noncomputable section
abbrev R43 : Type := (Bool)
noncomputable def body43 : Go.Code := (Tryd.f43.body).getD Go.Code.skip
def h43 (p0 p1 p2 p3 : Int) (p4 : Bool) (p5 p6 : TI) : List (AO U) := []
def k43 : AV U → List (AO U) → Option R43 := fun v h => match v, h with | AV.bool x0, [] => some x0 | _, _ => none
def out43 : R43 → AV U := fun x0 => AV.bool x0
def outh43 : R43 → List (AO U) := fun x0 => []
def D43 : Nat → Dir := dirs [(2, ⟨[1, 3], [], [], []⟩), (3, ⟨[1, 3, 4], [], [], []⟩), (4, ⟨[1, 3, 4, 5], [], [], []⟩), (5, ⟨[3, 4, 5, 6], [], [], []⟩)]
def b43 (p0 p1 p2 p3 : Int) (p4 : Bool) (p5 p6 : TI) (c2 : (Bool) → Option R43) (c3 : (Bool) → (Bool) → Option R43) (c4 : (Bool) → (Bool) → (Bool) → Option R43) (c5 : (Bool) → (Bool) → (Bool) → (Bool) → Option R43)  : Option R43 :=
  cond (p1 != 0)
  (c2 (p0 == 2))
  (c2 (false))
def m43_2 (p0 p1 p2 p3 : Int) (p4 : Bool) (p5 p6 : TI) (v0 : Bool) : S U := S.mk [AV.undef, AV.ptr 0 0, AV.undef, AV.bool v0, AV.undef, AV.undef, AV.undef, AV.undef, AV.undef, AV.undef, AV.undef, AV.undef, AV.undef, AV.undef, AV.undef, AV.undef, AV.undef, AV.undef, AV.undef, AV.undef, AV.undef, AV.undef, AV.undef, AV.undef, AV.undef, AV.undef, AV.undef, AV.undef, AV.undef, AV.undef, AV.undef, AV.undef, AV.undef, AV.undef, AV.undef, AV.undef, AV.undef, AV.undef, AV.undef, AV.undef, AV.undef, AV.undef, AV.undef, AV.undef, AV.undef, AV.undef, AV.undef, AV.undef, AV.undef, AV.undef, AV.undef, AV.undef, AV.undef, AV.undef, AV.undef, AV.undef, AV.undef, AV.undef, AV.undef, AV.undef, AV.undef, AV.undef] [AO.box [AV.int IntKind.i64 p0, AV.int IntKind.i64 p1, AV.int IntKind.i64 p2, AV.int IntKind.i64 p3, AV.bool p4, AV.imm 99 p5, AV.imm 99 p6]]
def b43_2 (p0 p1 p2 p3 : Int) (p4 : Bool) (p5 p6 : TI) (c2 : (Bool) → Option R43) (c3 : (Bool) → (Bool) → Option R43) (c4 : (Bool) → (Bool) → (Bool) → Option R43) (c5 : (Bool) → (Bool) → (Bool) → (Bool) → Option R43) (v0 : Bool) : Option R43 :=
  cond (p2 != 0)
  ((S45 p0).bind fun r0 =>
  c3 (v0) (!r0))
  (c3 (v0) (false))
def m43_3 (p0 p1 p2 p3 : Int) (p4 : Bool) (p5 p6 : TI) (v0 v1 : Bool) : S U := S.mk [AV.undef, AV.ptr 0 0, AV.undef, AV.bool v0, AV.bool v1, AV.undef, AV.undef, AV.undef, AV.undef, AV.undef, AV.undef, AV.undef, AV.undef, AV.undef, AV.undef, AV.undef, AV.undef, AV.undef, AV.undef, AV.undef, AV.undef, AV.undef, AV.undef, AV.undef, AV.undef, AV.undef, AV.undef, AV.undef, AV.undef, AV.undef, AV.undef, AV.undef, AV.undef, AV.undef, AV.undef, AV.undef, AV.undef, AV.undef, AV.undef, AV.undef, AV.undef, AV.undef, AV.undef, AV.undef, AV.undef, AV.undef, AV.undef, AV.undef, AV.undef, AV.undef, AV.undef, AV.undef, AV.undef, AV.undef, AV.undef, AV.undef, AV.undef, AV.undef, AV.undef, AV.undef, AV.undef, AV.undef] [AO.box [AV.int IntKind.i64 p0, AV.int IntKind.i64 p1, AV.int IntKind.i64 p2, AV.int IntKind.i64 p3, AV.bool p4, AV.imm 99 p5, AV.imm 99 p6]]
def b43_3 (p0 p1 p2 p3 : Int) (p4 : Bool) (p5 p6 : TI) (c2 : (Bool) → Option R43) (c3 : (Bool) → (Bool) → Option R43) (c4 : (Bool) → (Bool) → (Bool) → Option R43) (c5 : (Bool) → (Bool) → (Bool) → (Bool) → Option R43) (v0 v1 : Bool) : Option R43 :=
  cond (p3 != 0)
  (c4 (v0) (v1) (p0 != 8))
  (c4 (v0) (v1) (false))
def m43_4 (p0 p1 p2 p3 : Int) (p4 : Bool) (p5 p6 : TI) (v0 v1 v2 : Bool) : S U := S.mk [AV.undef, AV.ptr 0 0, AV.undef, AV.bool v0, AV.bool v1, AV.bool v2, AV.undef, AV.undef, AV.undef, AV.undef, AV.undef, AV.undef, AV.undef, AV.undef, AV.undef, AV.undef, AV.undef, AV.undef, AV.undef, AV.undef, AV.undef, AV.undef, AV.undef, AV.undef, AV.undef, AV.undef, AV.undef, AV.undef, AV.undef, AV.undef, AV.undef, AV.undef, AV.undef, AV.undef, AV.undef, AV.undef, AV.undef, AV.undef, AV.undef, AV.undef, AV.undef, AV.undef, AV.undef, AV.undef, AV.undef, AV.undef, AV.undef, AV.undef, AV.undef, AV.undef, AV.undef, AV.undef, AV.undef, AV.undef, AV.undef, AV.undef, AV.undef, AV.undef, AV.undef, AV.undef, AV.undef, AV.undef] [AO.box [AV.int IntKind.i64 p0, AV.int IntKind.i64 p1, AV.int IntKind.i64 p2, AV.int IntKind.i64 p3, AV.bool p4, AV.imm 99 p5, AV.imm 99 p6]]
def b43_4 (p0 p1 p2 p3 : Int) (p4 : Bool) (p5 p6 : TI) (c2 : (Bool) → Option R43) (c3 : (Bool) → (Bool) → Option R43) (c4 : (Bool) → (Bool) → (Bool) → Option R43) (c5 : (Bool) → (Bool) → (Bool) → (Bool) → Option R43) (v0 v1 v2 : Bool) : Option R43 :=
  cond (p4)
  (c5 (v0) (v1) (v2) (p0 != 2))
  (cond (decide (IntKind.i64.wrap ((↑p5.length : Int) + (↑p6.length : Int)) > 0))
  (c5 (v0) (v1) (v2) (p0 != 2))
  (c5 (v0) (v1) (v2) (false)))
def m43_5 (p0 p1 p2 p3 : Int) (p4 : Bool) (p5 p6 : TI) (v0 v1 v2 v3 : Bool) : S U := S.mk [AV.undef, AV.undef, AV.undef, AV.bool v0, AV.bool v1, AV.bool v2, AV.bool v3, AV.undef, AV.undef, AV.undef, AV.undef, AV.undef, AV.undef, AV.undef, AV.undef, AV.undef, AV.undef, AV.undef, AV.undef, AV.undef, AV.undef, AV.undef, AV.undef, AV.undef, AV.undef, AV.undef, AV.undef, AV.undef, AV.undef, AV.undef, AV.undef, AV.undef, AV.undef, AV.undef, AV.undef, AV.undef, AV.undef, AV.undef, AV.undef, AV.undef, AV.undef, AV.undef, AV.undef, AV.undef, AV.undef, AV.undef, AV.undef, AV.undef, AV.undef, AV.undef, AV.undef, AV.undef, AV.undef, AV.undef, AV.undef, AV.undef, AV.undef, AV.undef, AV.undef, AV.undef, AV.undef, AV.undef] []
def b43_5 (p0 p1 p2 p3 : Int) (p4 : Bool) (p5 p6 : TI) (c2 : (Bool) → Option R43) (c3 : (Bool) → (Bool) → Option R43) (c4 : (Bool) → (Bool) → (Bool) → Option R43) (c5 : (Bool) → (Bool) → (Bool) → (Bool) → Option R43) (v0 v1 v2 v3 : Bool) : Option R43 :=
  cond (v0)
  (some (true))
  (cond (v1)
  (some (true))
  (cond (v2)
  (some (true))
  (some (v3))))
theorem hk43 : ∀ v h' r, k43 v h' = some r → v = out43 r ∧ h' = outh43 r := by
  intro v h' r h
  unfold k43 at h
  split at h
  · injection h with h; subst h; exact ⟨rfl, rfl⟩
  · cases h
abbrev q43 : Prim U R43 := prims X [⟨45, fun _ => true, [], F45 S45⟩]
theorem s43 (c : Nat → S U → Option R43) (p0 p1 p2 p3 : Int) (p4 : Bool) (p5 p6 : TI) : seg TP X q43 [2, 3, 4, 5] (fun q st => c q (keepD D43 (h43 p0 p1 p2 p3 p4 p5 p6).length q st)) body43 (finH TP Tryd.f43.results.toList (h43 p0 p1 p2 p3 p4 p5 p6).length false k43) (start [.agg [.int .i64 p0, .int .i64 p1, .int .i64 p2, .int .i64 p3, .bool p4, .imm 99 p5, .imm 99 p6]] Tryd.f43.ntmps (h43 p0 p1 p2 p3 p4 p5 p6)) = b43 p0 p1 p2 p3 p4 p5 p6 (fun v0 => c 2 (m43_2 p0 p1 p2 p3 p4 p5 p6 v0)) (fun v0 v1 => c 3 (m43_3 p0 p1 p2 p3 p4 p5 p6 v0 v1)) (fun v0 v1 v2 => c 4 (m43_4 p0 p1 p2 p3 p4 p5 p6 v0 v1 v2)) (fun v0 v1 v2 v3 => c 5 (m43_5 p0 p1 p2 p3 p4 p5 p6 v0 v1 v2 v3)) := by kernel_rfl
theorem s43_2 (c : Nat → S U → Option R43) (p0 p1 p2 p3 : Int) (p4 : Bool) (p5 p6 : TI) (v0 : Bool) : res TP X q43 [2, 3, 4, 5] (fun q st => c q (keepD D43 (h43 p0 p1 p2 p3 p4 p5 p6).length q st)) 2 body43 (finH TP Tryd.f43.results.toList (h43 p0 p1 p2 p3 p4 p5 p6).length false k43) (m43_2 p0 p1 p2 p3 p4 p5 p6 v0) = b43_2 p0 p1 p2 p3 p4 p5 p6 (fun v0 => c 2 (m43_2 p0 p1 p2 p3 p4 p5 p6 v0)) (fun v0 v1 => c 3 (m43_3 p0 p1 p2 p3 p4 p5 p6 v0 v1)) (fun v0 v1 v2 => c 4 (m43_4 p0 p1 p2 p3 p4 p5 p6 v0 v1 v2)) (fun v0 v1 v2 v3 => c 5 (m43_5 p0 p1 p2 p3 p4 p5 p6 v0 v1 v2 v3)) v0 := by kernel_rfl
theorem s43_3 (c : Nat → S U → Option R43) (p0 p1 p2 p3 : Int) (p4 : Bool) (p5 p6 : TI) (v0 v1 : Bool) : res TP X q43 [2, 3, 4, 5] (fun q st => c q (keepD D43 (h43 p0 p1 p2 p3 p4 p5 p6).length q st)) 3 body43 (finH TP Tryd.f43.results.toList (h43 p0 p1 p2 p3 p4 p5 p6).length false k43) (m43_3 p0 p1 p2 p3 p4 p5 p6 v0 v1) = b43_3 p0 p1 p2 p3 p4 p5 p6 (fun v0 => c 2 (m43_2 p0 p1 p2 p3 p4 p5 p6 v0)) (fun v0 v1 => c 3 (m43_3 p0 p1 p2 p3 p4 p5 p6 v0 v1)) (fun v0 v1 v2 => c 4 (m43_4 p0 p1 p2 p3 p4 p5 p6 v0 v1 v2)) (fun v0 v1 v2 v3 => c 5 (m43_5 p0 p1 p2 p3 p4 p5 p6 v0 v1 v2 v3)) v0 v1 := by kernel_rfl
theorem s43_4 (c : Nat → S U → Option R43) (p0 p1 p2 p3 : Int) (p4 : Bool) (p5 p6 : TI) (v0 v1 v2 : Bool) : res TP X q43 [2, 3, 4, 5] (fun q st => c q (keepD D43 (h43 p0 p1 p2 p3 p4 p5 p6).length q st)) 4 body43 (finH TP Tryd.f43.results.toList (h43 p0 p1 p2 p3 p4 p5 p6).length false k43) (m43_4 p0 p1 p2 p3 p4 p5 p6 v0 v1 v2) = b43_4 p0 p1 p2 p3 p4 p5 p6 (fun v0 => c 2 (m43_2 p0 p1 p2 p3 p4 p5 p6 v0)) (fun v0 v1 => c 3 (m43_3 p0 p1 p2 p3 p4 p5 p6 v0 v1)) (fun v0 v1 v2 => c 4 (m43_4 p0 p1 p2 p3 p4 p5 p6 v0 v1 v2)) (fun v0 v1 v2 v3 => c 5 (m43_5 p0 p1 p2 p3 p4 p5 p6 v0 v1 v2 v3)) v0 v1 v2 := by kernel_rfl
theorem s43_5 (c : Nat → S U → Option R43) (p0 p1 p2 p3 : Int) (p4 : Bool) (p5 p6 : TI) (v0 v1 v2 v3 : Bool) : res TP X q43 [2, 3, 4, 5] (fun q st => c q (keepD D43 (h43 p0 p1 p2 p3 p4 p5 p6).length q st)) 5 body43 (finH TP Tryd.f43.results.toList (h43 p0 p1 p2 p3 p4 p5 p6).length false k43) (m43_5 p0 p1 p2 p3 p4 p5 p6 v0 v1 v2 v3) = b43_5 p0 p1 p2 p3 p4 p5 p6 (fun v0 => c 2 (m43_2 p0 p1 p2 p3 p4 p5 p6 v0)) (fun v0 v1 => c 3 (m43_3 p0 p1 p2 p3 p4 p5 p6 v0 v1)) (fun v0 v1 v2 => c 4 (m43_4 p0 p1 p2 p3 p4 p5 p6 v0 v1 v2)) (fun v0 v1 v2 v3 => c 5 (m43_5 p0 p1 p2 p3 p4 p5 p6 v0 v1 v2 v3)) v0 v1 v2 v3 := by kernel_rfl
mutual
def f43_2 (p0 p1 p2 p3 : Int) (p4 : Bool) (p5 p6 : TI) : Nat → (Bool) → Option R43
  | 0 => fun _ => none
  | k + 1 => b43_2 p0 p1 p2 p3 p4 p5 p6 (f43_2 p0 p1 p2 p3 p4 p5 p6 k) (f43_3 p0 p1 p2 p3 p4 p5 p6 k) (f43_4 p0 p1 p2 p3 p4 p5 p6 k) (f43_5 p0 p1 p2 p3 p4 p5 p6 k)
def f43_3 (p0 p1 p2 p3 : Int) (p4 : Bool) (p5 p6 : TI) : Nat → (Bool) → (Bool) → Option R43
  | 0 => fun _ _ => none
  | k + 1 => b43_3 p0 p1 p2 p3 p4 p5 p6 (f43_2 p0 p1 p2 p3 p4 p5 p6 k) (f43_3 p0 p1 p2 p3 p4 p5 p6 k) (f43_4 p0 p1 p2 p3 p4 p5 p6 k) (f43_5 p0 p1 p2 p3 p4 p5 p6 k)
def f43_4 (p0 p1 p2 p3 : Int) (p4 : Bool) (p5 p6 : TI) : Nat → (Bool) → (Bool) → (Bool) → Option R43
  | 0 => fun _ _ _ => none
  | k + 1 => b43_4 p0 p1 p2 p3 p4 p5 p6 (f43_2 p0 p1 p2 p3 p4 p5 p6 k) (f43_3 p0 p1 p2 p3 p4 p5 p6 k) (f43_4 p0 p1 p2 p3 p4 p5 p6 k) (f43_5 p0 p1 p2 p3 p4 p5 p6 k)
def f43_5 (p0 p1 p2 p3 : Int) (p4 : Bool) (p5 p6 : TI) : Nat → (Bool) → (Bool) → (Bool) → (Bool) → Option R43
  | 0 => fun _ _ _ _ => none
  | k + 1 => b43_5 p0 p1 p2 p3 p4 p5 p6 (f43_2 p0 p1 p2 p3 p4 p5 p6 k) (f43_3 p0 p1 p2 p3 p4 p5 p6 k) (f43_4 p0 p1 p2 p3 p4 p5 p6 k) (f43_5 p0 p1 p2 p3 p4 p5 p6 k)
end
def f43 (k : Nat) (p0 p1 p2 p3 : Int) (p4 : Bool) (p5 p6 : TI) : Option R43 := b43 p0 p1 p2 p3 p4 p5 p6 (f43_2 p0 p1 p2 p3 p4 p5 p6 k) (f43_3 p0 p1 p2 p3 p4 p5 p6 k) (f43_4 p0 p1 p2 p3 p4 p5 p6 k) (f43_5 p0 p1 p2 p3 p4 p5 p6 k)
theorem e43 (p0 p1 p2 p3 : Int) (p4 : Bool) (p5 p6 : TI) : ∀ k, ((fun v0 => cutG TP X q43 [2, 3, 4, 5] D43 (h43 p0 p1 p2 p3 p4 p5 p6).length body43 (finH TP Tryd.f43.results.toList (h43 p0 p1 p2 p3 p4 p5 p6).length false k43) k 2 (m43_2 p0 p1 p2 p3 p4 p5 p6 v0)) = f43_2 p0 p1 p2 p3 p4 p5 p6 k) ∧ ((fun v0 v1 => cutG TP X q43 [2, 3, 4, 5] D43 (h43 p0 p1 p2 p3 p4 p5 p6).length body43 (finH TP Tryd.f43.results.toList (h43 p0 p1 p2 p3 p4 p5 p6).length false k43) k 3 (m43_3 p0 p1 p2 p3 p4 p5 p6 v0 v1)) = f43_3 p0 p1 p2 p3 p4 p5 p6 k) ∧ ((fun v0 v1 v2 => cutG TP X q43 [2, 3, 4, 5] D43 (h43 p0 p1 p2 p3 p4 p5 p6).length body43 (finH TP Tryd.f43.results.toList (h43 p0 p1 p2 p3 p4 p5 p6).length false k43) k 4 (m43_4 p0 p1 p2 p3 p4 p5 p6 v0 v1 v2)) = f43_4 p0 p1 p2 p3 p4 p5 p6 k) ∧ ((fun v0 v1 v2 v3 => cutG TP X q43 [2, 3, 4, 5] D43 (h43 p0 p1 p2 p3 p4 p5 p6).length body43 (finH TP Tryd.f43.results.toList (h43 p0 p1 p2 p3 p4 p5 p6).length false k43) k 5 (m43_5 p0 p1 p2 p3 p4 p5 p6 v0 v1 v2 v3)) = f43_5 p0 p1 p2 p3 p4 p5 p6 k)
  | 0 => ⟨rfl, rfl, rfl, rfl⟩
  | k + 1 => by
    have ih := e43 p0 p1 p2 p3 p4 p5 p6 k
    refine ⟨?_, ?_, ?_, ?_⟩
    · funext v0
      refine (if_pos (by kernel_rfl)).trans ?_
      rw [s43_2]
      simp only [ih]
      rfl
    · funext v0 v1
      refine (if_pos (by kernel_rfl)).trans ?_
      rw [s43_3]
      simp only [ih]
      rfl
    · funext v0 v1 v2
      refine (if_pos (by kernel_rfl)).trans ?_
      rw [s43_4]
      simp only [ih]
      rfl
    · funext v0 v1 v2 v3
      refine (if_pos (by kernel_rfl)).trans ?_
      rw [s43_5]
      simp only [ih]
      rfl
theorem pure43 (p0 p1 p2 p3 : Int) (p4 : Bool) (p5 p6 : TI) (pok : PrmOK TP X q43) (k : Nat) (r : R43) (h : f43 k p0 p1 p2 p3 p4 p5 p6 = some r) : PureH TP X 43 [.agg [.int .i64 p0, .int .i64 p1, .int .i64 p2, .int .i64 p3, .bool p4, .imm 99 p5, .imm 99 p6]] (h43 p0 p1 p2 p3 p4 p5 p6) (out43 r) (outh43 r) :=
  pure_gen good k (fn := Tryd.f43) (body := body43) (prim := q43) (D := D43) (cuts := [2, 3, 4, 5]) (h := h43 p0 p1 p2 p3 p4 p5 p6) (own := false) (by kernel_rfl) (by kernel_rfl) (by decide +kernel) pok hk43 (by
    rw [s43]
    have ih := e43 p0 p1 p2 p3 p4 p5 p6 k
    simp only [ih]
    exact h)
def F43 {R : Type} (spec : (Int) → Int → (Int) → Int → (Bool) → TI → TI → Option R43) : Fn U R := fun args h k => match args, h with | [.agg [.int .i64 p0, .int .i64 p1, .int .i64 p2, .int .i64 p3, .bool p4, .imm 99 p5, .imm 99 p6]], [] => (spec p0 p1 p2 p3 p4 p5 p6).bind fun r => k (out43 r) (outh43 r) | _, _ => none
theorem ok43 {R : Type} (spec : (Int) → Int → (Int) → Int → (Bool) → TI → TI → Option R43) (hp : ∀ (p0 : Int) (p1 : Int) (p2 : Int) (p3 : Int) (p4 : Bool) (p5 : TI) (p6 : TI) (r : R43), spec p0 p1 p2 p3 p4 p5 p6 = some r → PureH TP X 43 [.agg [.int .i64 p0, .int .i64 p1, .int .i64 p2, .int .i64 p3, .bool p4, .imm 99 p5, .imm 99 p6]] (h43 p0 p1 p2 p3 p4 p5 p6) (out43 r) (outh43 r)) : FnOK TP X 43 (F43 spec : Fn U R) := by
  intro args h k r hh
  unfold F43 at hh
  split at hh
  · obtain ⟨x, h1, h2⟩ := Option.bind_eq_some_iff.1 hh
    exact ⟨_, _, h2, hp _ _ _ _ _ _ _ _ h1⟩
  · cases hh
theorem pok43 : PrmOK TP X q43 := prims_cons good okS45 (prims_nil TP X mixed)
noncomputable def S43 (p0 p1 p2 p3 : Int) (p4 : Bool) (p5 p6 : TI) : Option R43 := evv fun k => f43 k p0 p1 p2 p3 p4 p5 p6
theorem okS43 {R : Type} : FnOK TP X 43 (F43 S43 : Fn U R) := ok43 S43 fun p0 p1 p2 p3 p4 p5 p6 r h => by
  obtain ⟨k, hk⟩ := evv_fuel h
  exact pure43 p0 p1 p2 p3 p4 p5 p6 pok43 k r hk
end
end Go.Abs.Z
namespace Go.Abs.Z
open Go Go.Abs Go.Proofs
noncomputable section
abbrev R30 : Type := (Int)
noncomputable def body30 : Go.Code := (Tryd.f30.body).getD Go.Code.skip
def h30 (p0 p1 p2 p3 : Int) (p4 : Bool) (p5 p6 : TI) (p7 p8 : Int) : List (AO U) := []
def k30 : AV U → List (AO U) → Option R30 := fun v h => match v, h with | AV.int IntKind.i64 x0, [] => some x0 | _, _ => none
def out30 : R30 → AV U := fun x0 => AV.int IntKind.i64 x0
def outh30 : R30 → List (AO U) := fun x0 => []
def D30 : Nat → Dir := dirs [(4, ⟨[1, 3, 7], [], [], []⟩), (6, ⟨[1, 3, 7], [], [], []⟩)]
def b30 (p0 p1 p2 p3 : Int) (p4 : Bool) (p5 p6 : TI) (p7 p8 : Int) (c4 c6 : Option R30)  : Option R30 :=
  cond (decide (p0 < 1))
  (some (103))
  (cond (decide (p0 > 8))
  (some (103))
  (c4))
def m30_4 (p0 p1 p2 p3 : Int) (p4 : Bool) (p5 p6 : TI) (p7 p8 : Int)  : S U := S.mk [AV.undef, AV.int IntKind.i64 p7, AV.undef, AV.ptr 0 0, AV.undef, AV.undef, AV.undef, AV.fn 42 [AV.ptr 1 0], AV.undef, AV.undef, AV.undef, AV.undef, AV.undef, AV.undef, AV.undef, AV.undef, AV.undef, AV.undef, AV.undef, AV.undef, AV.undef, AV.undef, AV.undef, AV.undef, AV.undef, AV.undef, AV.undef, AV.undef, AV.undef, AV.undef, AV.undef, AV.undef, AV.undef, AV.undef, AV.undef, AV.undef, AV.undef, AV.undef, AV.undef, AV.undef, AV.undef, AV.undef, AV.undef, AV.undef, AV.undef, AV.undef, AV.undef, AV.undef, AV.undef, AV.undef, AV.undef, AV.undef, AV.undef, AV.undef, AV.undef, AV.undef, AV.undef, AV.undef, AV.undef, AV.undef, AV.undef, AV.undef, AV.undef, AV.undef, AV.undef] [AO.box [AV.int IntKind.i64 p0, AV.int IntKind.i64 p1, AV.int IntKind.i64 p2, AV.int IntKind.i64 p3, AV.bool p4, AV.imm 99 p5, AV.imm 99 p6], AO.box [AV.int IntKind.i64 p8]]
def b30_4 (p0 p1 p2 p3 : Int) (p4 : Bool) (p5 p6 : TI) (p7 p8 : Int) (c4 c6 : Option R30)  : Option R30 :=
  (S43 p0 p1 p2 p3 p4 p5 p6).bind fun r0 =>
  cond (r0)
  (some (104))
  (c6)
def m30_6 (p0 p1 p2 p3 : Int) (p4 : Bool) (p5 p6 : TI) (p7 p8 : Int)  : S U := S.mk [AV.undef, AV.int IntKind.i64 p7, AV.undef, AV.ptr 0 0, AV.undef, AV.undef, AV.undef, AV.fn 42 [AV.ptr 1 0], AV.undef, AV.undef, AV.undef, AV.undef, AV.undef, AV.undef, AV.undef, AV.undef, AV.undef, AV.undef, AV.undef, AV.undef, AV.undef, AV.undef, AV.undef, AV.undef, AV.undef, AV.undef, AV.undef, AV.undef, AV.undef, AV.undef, AV.undef, AV.undef, AV.undef, AV.undef, AV.undef, AV.undef, AV.undef, AV.undef, AV.undef, AV.undef, AV.undef, AV.undef, AV.undef, AV.undef, AV.undef, AV.undef, AV.undef, AV.undef, AV.undef, AV.undef, AV.undef, AV.undef, AV.undef, AV.undef, AV.undef, AV.undef, AV.undef, AV.undef, AV.undef, AV.undef, AV.undef, AV.undef, AV.undef, AV.undef, AV.undef] [AO.box [AV.int IntKind.i64 p0, AV.int IntKind.i64 p1, AV.int IntKind.i64 p2, AV.int IntKind.i64 p3, AV.bool p4, AV.imm 99 p5, AV.imm 99 p6], AO.box [AV.int IntKind.i64 p8]]
def b30_6 (p0 p1 p2 p3 : Int) (p4 : Bool) (p5 p6 : TI) (p7 p8 : Int) (c4 c6 : Option R30)  : Option R30 :=
  cond (p0 == 1)
  (cond (decide (p1 < 0))
  (some (105))
  (cond (decide (p1 ≥ p7))
  (some (105))
  (some (0))))
  (cond (p0 == 2)
  ((S44 p4 p5 p6).bind fun r0 =>
  cond (!r0)
  (some (40))
  (some (0)))
  ((S42c p1 p8).bind fun r1 =>
  cond (!r1.fst)
  (some (106))
  ((S45 p0).bind fun r2 =>
  cond (r2)
  ((S42c p2 r1.snd).bind fun r3 =>
  cond (!r3.fst)
  (some (106))
  (cond (decide (p3 < -1024))
  (some (107))
  (cond (decide (p3 > 1024))
  (some (107))
  (some (0)))))
  (cond (decide (p3 < -1024))
  (some (107))
  (cond (decide (p3 > 1024))
  (some (107))
  (some (0)))))))
theorem hk30 : ∀ v h' r, k30 v h' = some r → v = out30 r ∧ h' = outh30 r := by
  intro v h' r h
  unfold k30 at h
  split at h
  · injection h with h; subst h; exact ⟨rfl, rfl⟩
  · cases h
abbrev q30 : Prim U R30 := prims X [⟨42, fun _ => true, [], F42c S42c⟩, ⟨43, fun _ => true, [.lend], F43 S43⟩, ⟨44, fun _ => true, [.lend], F44 S44⟩, ⟨45, fun _ => true, [.lend], F45 S45⟩]
theorem s30 (c : Nat → S U → Option R30) (p0 p1 p2 p3 : Int) (p4 : Bool) (p5 p6 : TI) (p7 p8 : Int) : seg TP X q30 [4, 6] (fun q st => c q (keepD D30 (h30 p0 p1 p2 p3 p4 p5 p6 p7 p8).length q st)) body30 (finH TP Tryd.f30.results.toList (h30 p0 p1 p2 p3 p4 p5 p6 p7 p8).length false k30) (start [.agg [.int .i64 p0, .int .i64 p1, .int .i64 p2, .int .i64 p3, .bool p4, .imm 99 p5, .imm 99 p6], .int .i64 p7, .int .i64 p8] Tryd.f30.ntmps (h30 p0 p1 p2 p3 p4 p5 p6 p7 p8)) = b30 p0 p1 p2 p3 p4 p5 p6 p7 p8 (c 4 (m30_4 p0 p1 p2 p3 p4 p5 p6 p7 p8)) (c 6 (m30_6 p0 p1 p2 p3 p4 p5 p6 p7 p8)) := by kernel_rfl
theorem s30_4 (c : Nat → S U → Option R30) (p0 p1 p2 p3 : Int) (p4 : Bool) (p5 p6 : TI) (p7 p8 : Int)  : res TP X q30 [4, 6] (fun q st => c q (keepD D30 (h30 p0 p1 p2 p3 p4 p5 p6 p7 p8).length q st)) 4 body30 (finH TP Tryd.f30.results.toList (h30 p0 p1 p2 p3 p4 p5 p6 p7 p8).length false k30) (m30_4 p0 p1 p2 p3 p4 p5 p6 p7 p8 ) = b30_4 p0 p1 p2 p3 p4 p5 p6 p7 p8 (c 4 (m30_4 p0 p1 p2 p3 p4 p5 p6 p7 p8)) (c 6 (m30_6 p0 p1 p2 p3 p4 p5 p6 p7 p8))  := by kernel_rfl
theorem s30_6 (c : Nat → S U → Option R30) (p0 p1 p2 p3 : Int) (p4 : Bool) (p5 p6 : TI) (p7 p8 : Int)  : res TP X q30 [4, 6] (fun q st => c q (keepD D30 (h30 p0 p1 p2 p3 p4 p5 p6 p7 p8).length q st)) 6 body30 (finH TP Tryd.f30.results.toList (h30 p0 p1 p2 p3 p4 p5 p6 p7 p8).length false k30) (m30_6 p0 p1 p2 p3 p4 p5 p6 p7 p8 ) = b30_6 p0 p1 p2 p3 p4 p5 p6 p7 p8 (c 4 (m30_4 p0 p1 p2 p3 p4 p5 p6 p7 p8)) (c 6 (m30_6 p0 p1 p2 p3 p4 p5 p6 p7 p8))  := by kernel_rfl
mutual
def f30_4 (p0 p1 p2 p3 : Int) (p4 : Bool) (p5 p6 : TI) (p7 p8 : Int) : Nat → Option R30
  | 0 => none
  | k + 1 => b30_4 p0 p1 p2 p3 p4 p5 p6 p7 p8 (f30_4 p0 p1 p2 p3 p4 p5 p6 p7 p8 k) (f30_6 p0 p1 p2 p3 p4 p5 p6 p7 p8 k)
def f30_6 (p0 p1 p2 p3 : Int) (p4 : Bool) (p5 p6 : TI) (p7 p8 : Int) : Nat → Option R30
  | 0 => none
  | k + 1 => b30_6 p0 p1 p2 p3 p4 p5 p6 p7 p8 (f30_4 p0 p1 p2 p3 p4 p5 p6 p7 p8 k) (f30_6 p0 p1 p2 p3 p4 p5 p6 p7 p8 k)
end
def f30 (k : Nat) (p0 p1 p2 p3 : Int) (p4 : Bool) (p5 p6 : TI) (p7 p8 : Int) : Option R30 := b30 p0 p1 p2 p3 p4 p5 p6 p7 p8 (f30_4 p0 p1 p2 p3 p4 p5 p6 p7 p8 k) (f30_6 p0 p1 p2 p3 p4 p5 p6 p7 p8 k)
theorem e30 (p0 p1 p2 p3 : Int) (p4 : Bool) (p5 p6 : TI) (p7 p8 : Int) : ∀ k, (cutG TP X q30 [4, 6] D30 (h30 p0 p1 p2 p3 p4 p5 p6 p7 p8).length body30 (finH TP Tryd.f30.results.toList (h30 p0 p1 p2 p3 p4 p5 p6 p7 p8).length false k30) k 4 (m30_4 p0 p1 p2 p3 p4 p5 p6 p7 p8) = f30_4 p0 p1 p2 p3 p4 p5 p6 p7 p8 k) ∧ (cutG TP X q30 [4, 6] D30 (h30 p0 p1 p2 p3 p4 p5 p6 p7 p8).length body30 (finH TP Tryd.f30.results.toList (h30 p0 p1 p2 p3 p4 p5 p6 p7 p8).length false k30) k 6 (m30_6 p0 p1 p2 p3 p4 p5 p6 p7 p8) = f30_6 p0 p1 p2 p3 p4 p5 p6 p7 p8 k)
  | 0 => ⟨rfl, rfl⟩
  | k + 1 => by
    have ih := e30 p0 p1 p2 p3 p4 p5 p6 p7 p8 k
    refine ⟨?_, ?_⟩
    · refine (if_pos (by kernel_rfl)).trans ?_
      rw [s30_4]
      simp only [ih]
      rfl
    · refine (if_pos (by kernel_rfl)).trans ?_
      rw [s30_6]
      simp only [ih]
      rfl
theorem pure30 (p0 p1 p2 p3 : Int) (p4 : Bool) (p5 p6 : TI) (p7 p8 : Int) (pok : PrmOK TP X q30) (k : Nat) (r : R30) (h : f30 k p0 p1 p2 p3 p4 p5 p6 p7 p8 = some r) : PureH TP X 30 [.agg [.int .i64 p0, .int .i64 p1, .int .i64 p2, .int .i64 p3, .bool p4, .imm 99 p5, .imm 99 p6], .int .i64 p7, .int .i64 p8] (h30 p0 p1 p2 p3 p4 p5 p6 p7 p8) (out30 r) (outh30 r) :=
  pure_gen good k (fn := Tryd.f30) (body := body30) (prim := q30) (D := D30) (cuts := [4, 6]) (h := h30 p0 p1 p2 p3 p4 p5 p6 p7 p8) (own := false) (by kernel_rfl) (by kernel_rfl) (by decide +kernel) pok hk30 (by
    rw [s30]
    have ih := e30 p0 p1 p2 p3 p4 p5 p6 p7 p8 k
    simp only [ih]
    exact h)
def F30 {R : Type} (spec : (Int) → Int → (Int) → Int → (Bool) → TI → TI → Int → (Int) → Option R30) : Fn U R := fun args h k => match args, h with | [.agg [.int .i64 p0, .int .i64 p1, .int .i64 p2, .int .i64 p3, .bool p4, .imm 99 p5, .imm 99 p6], .int .i64 p7, .int .i64 p8], [] => (spec p0 p1 p2 p3 p4 p5 p6 p7 p8).bind fun r => k (out30 r) (outh30 r) | _, _ => none
theorem ok30 {R : Type} (spec : (Int) → Int → (Int) → Int → (Bool) → TI → TI → Int → (Int) → Option R30) (hp : ∀ (p0 : Int) (p1 : Int) (p2 : Int) (p3 : Int) (p4 : Bool) (p5 : TI) (p6 : TI) (p7 : Int) (p8 : Int) (r : R30), spec p0 p1 p2 p3 p4 p5 p6 p7 p8 = some r → PureH TP X 30 [.agg [.int .i64 p0, .int .i64 p1, .int .i64 p2, .int .i64 p3, .bool p4, .imm 99 p5, .imm 99 p6], .int .i64 p7, .int .i64 p8] (h30 p0 p1 p2 p3 p4 p5 p6 p7 p8) (out30 r) (outh30 r)) : FnOK TP X 30 (F30 spec : Fn U R) := by
  intro args h k r hh
  unfold F30 at hh
  split at hh
  · obtain ⟨x, h1, h2⟩ := Option.bind_eq_some_iff.1 hh
    exact ⟨_, _, h2, hp _ _ _ _ _ _ _ _ _ _ h1⟩
  · cases hh
theorem pok30 : PrmOK TP X q30 := prims_cons good okS42c (prims_cons good okS43 (prims_cons good okS44 (prims_cons good okS45 (prims_nil TP X mixed))))
noncomputable def S30 (p0 p1 p2 p3 : Int) (p4 : Bool) (p5 p6 : TI) (p7 p8 : Int) : Option R30 := evv fun k => f30 k p0 p1 p2 p3 p4 p5 p6 p7 p8
theorem okS30 {R : Type} : FnOK TP X 30 (F30 S30 : Fn U R) := ok30 S30 fun p0 p1 p2 p3 p4 p5 p6 p7 p8 r h => by
  obtain ⟨k, hk⟩ := evv_fuel h
  exact pure30 p0 p1 p2 p3 p4 p5 p6 p7 p8 pok30 k r hk
end
end Go.Abs.Z
namespace Go.Abs.Z
open Go Go.Abs Go.Proofs
noncomputable section
abbrev R10 : Type := Int × (Int)
noncomputable def body10 : Go.Code := (Tryd.f10.body).getD Go.Code.skip
def h10 (p0 : Int) (p1 : List TOp) (p2 : TI) : List (AO U) := []
def k10 : AV U → List (AO U) → Option R10 := fun v h => match v, h with | AV.tup [AV.int IntKind.i64 x0, AV.int IntKind.i64 x1], [] => some (x0, x1) | _, _ => none
def out10 : R10 → AV U := fun (x0, x1) => AV.tup [AV.int IntKind.i64 x0, AV.int IntKind.i64 x1]
def outh10 : R10 → List (AO U) := fun (x0, x1) => []
def D10 : Nat → Dir := dirs [(8, ⟨[1, 35, 36, 37], [], [], []⟩), (15, ⟨[1, 53, 54, 55], [], [], []⟩)]
def b10 (p0 : Int) (p1 : List TOp) (p2 : TI) (c8 c15 : (Int) → Option R10)  : Option R10 :=
  cond (decide (p0 < 0))
  (some ((-1, 100)))
  (cond (decide (p0 > 64))
  (some ((-1, 100)))
  (cond (decide ((↑p1.length : Int) > 2048))
  (some ((-1, 101)))
  (cond ((↑p2.length : Int) == 0)
  (some ((-1, 102)))
  (cond (decide ((↑p2.length : Int) > 64))
  (some ((-1, 102)))
  (c8 (0))))))
def m10_8 (p0 : Int) (p1 : List TOp) (p2 : TI) (v2 : Int) : S U := S.mk [AV.undef, AV.ptr 0 0, AV.undef, AV.undef, AV.undef, AV.undef, AV.undef, AV.undef, AV.undef, AV.undef, AV.undef, AV.undef, AV.undef, AV.undef, AV.undef, AV.undef, AV.undef, AV.undef, AV.undef, AV.undef, AV.undef, AV.undef, AV.undef, AV.undef, AV.undef, AV.undef, AV.undef, AV.undef, AV.undef, AV.undef, AV.undef, AV.undef, AV.undef, AV.undef, AV.undef, AV.imm 67 p1, AV.int IntKind.i64 (↑p1.length : Int), AV.int IntKind.i64 v2, AV.undef, AV.undef, AV.undef, AV.undef, AV.undef, AV.undef, AV.undef, AV.undef, AV.undef, AV.undef, AV.undef, AV.undef, AV.undef, AV.undef, AV.undef, AV.undef, AV.undef, AV.undef, AV.undef, AV.undef, AV.undef, AV.undef, AV.undef, AV.undef, AV.undef, AV.undef, AV.undef, AV.undef, AV.undef, AV.undef, AV.undef, AV.undef, AV.undef, AV.undef, AV.undef, AV.undef, AV.undef] [AO.box [AV.int IntKind.i64 p0, AV.imm 67 p1, AV.imm 3 p2]]
def b10_8 (p0 : Int) (p1 : List TOp) (p2 : TI) (c8 c15 : (Int) → Option R10) (v2 : Int) : Option R10 :=
  cond (decide (v2 < (↑p1.length : Int)))
  (cond (decide (0 ≤ v2))
  (cond (decide (v2 < (↑p1.length : Int)))
  (cond (decide (v2.toNat < p1.length))
  ((S30 (p1.getD v2.toNat (X.dflt 67)).fst (p1.getD v2.toNat (X.dflt 67)).snd.fst (p1.getD v2.toNat (X.dflt 67)).snd.snd.fst (p1.getD v2.toNat (X.dflt 67)).snd.snd.snd.fst (p1.getD v2.toNat (X.dflt 67)).snd.snd.snd.snd.fst (p1.getD v2.toNat (X.dflt 67)).snd.snd.snd.snd.snd.fst (p1.getD v2.toNat (X.dflt 67)).snd.snd.snd.snd.snd.snd p0 v2).bind fun r0 =>
  cond (r0 != 0)
  (some ((v2, r0)))
  (c8 (IntKind.i64.wrap (v2 + 1))))
  (none))
  (none))
  (none))
  (c15 (0))
def m10_15 (p0 : Int) (p1 : List TOp) (p2 : TI) (v2 : Int) : S U := S.mk [AV.undef, AV.ptr 0 0, AV.undef, AV.undef, AV.undef, AV.undef, AV.undef, AV.undef, AV.undef, AV.undef, AV.undef, AV.undef, AV.undef, AV.undef, AV.undef, AV.undef, AV.undef, AV.undef, AV.undef, AV.undef, AV.undef, AV.undef, AV.undef, AV.undef, AV.undef, AV.undef, AV.undef, AV.undef, AV.undef, AV.undef, AV.undef, AV.undef, AV.undef, AV.undef, AV.undef, AV.undef, AV.undef, AV.undef, AV.undef, AV.undef, AV.undef, AV.undef, AV.undef, AV.undef, AV.undef, AV.undef, AV.undef, AV.undef, AV.undef, AV.undef, AV.undef, AV.undef, AV.undef, AV.imm 3 p2, AV.int IntKind.i64 (↑p2.length : Int), AV.int IntKind.i64 v2, AV.undef, AV.undef, AV.undef, AV.undef, AV.undef, AV.undef, AV.undef, AV.undef, AV.undef, AV.undef, AV.undef, AV.undef, AV.undef, AV.undef, AV.undef, AV.undef, AV.undef, AV.undef, AV.undef] [AO.box [AV.int IntKind.i64 p0, AV.imm 67 p1, AV.imm 3 p2]]
def b10_15 (p0 : Int) (p1 : List TOp) (p2 : TI) (c8 c15 : (Int) → Option R10) (v2 : Int) : Option R10 :=
  cond (decide (v2 < (↑p2.length : Int)))
  (cond (decide (0 ≤ v2))
  (cond (decide (v2 < (↑p2.length : Int)))
  (cond (decide (v2.toNat < p2.length))
  (cond (decide (p2.getD v2.toNat (X.dflt 3) < 0))
  (some ((IntKind.i64.wrap ((↑p1.length : Int) + v2), 108)))
  (cond (decide (p2.getD v2.toNat (X.dflt 3) ≥ (↑p1.length : Int)))
  (some ((IntKind.i64.wrap ((↑p1.length : Int) + v2), 108)))
  (c15 (IntKind.i64.wrap (v2 + 1)))))
  (none))
  (none))
  (none))
  (some ((0, 0)))
theorem hk10 : ∀ v h' r, k10 v h' = some r → v = out10 r ∧ h' = outh10 r := by
  intro v h' r h
  unfold k10 at h
  split at h
  · injection h with h; subst h; exact ⟨rfl, rfl⟩
  · cases h
abbrev q10 : Prim U R10 := prims X [⟨30, fun _ => true, [.lend, .lend, .lend], F30 S30⟩]
theorem s10 (c : Nat → S U → Option R10) (p0 : Int) (p1 : List TOp) (p2 : TI) : seg TP X q10 [8, 15] (fun q st => c q (keepD D10 (h10 p0 p1 p2).length q st)) body10 (finH TP Tryd.f10.results.toList (h10 p0 p1 p2).length false k10) (start [.agg [.int .i64 p0, .imm 67 p1, .imm 3 p2]] Tryd.f10.ntmps (h10 p0 p1 p2)) = b10 p0 p1 p2 (fun v2 => c 8 (m10_8 p0 p1 p2 v2)) (fun v2 => c 15 (m10_15 p0 p1 p2 v2)) := by kernel_rfl
theorem s10_8 (c : Nat → S U → Option R10) (p0 : Int) (p1 : List TOp) (p2 : TI) (v2 : Int) : res TP X q10 [8, 15] (fun q st => c q (keepD D10 (h10 p0 p1 p2).length q st)) 8 body10 (finH TP Tryd.f10.results.toList (h10 p0 p1 p2).length false k10) (m10_8 p0 p1 p2 v2) = b10_8 p0 p1 p2 (fun v2 => c 8 (m10_8 p0 p1 p2 v2)) (fun v2 => c 15 (m10_15 p0 p1 p2 v2)) v2 := by kernel_rfl
theorem s10_15 (c : Nat → S U → Option R10) (p0 : Int) (p1 : List TOp) (p2 : TI) (v2 : Int) : res TP X q10 [8, 15] (fun q st => c q (keepD D10 (h10 p0 p1 p2).length q st)) 15 body10 (finH TP Tryd.f10.results.toList (h10 p0 p1 p2).length false k10) (m10_15 p0 p1 p2 v2) = b10_15 p0 p1 p2 (fun v2 => c 8 (m10_8 p0 p1 p2 v2)) (fun v2 => c 15 (m10_15 p0 p1 p2 v2)) v2 := by kernel_rfl
mutual
def f10_8 (p0 : Int) (p1 : List TOp) (p2 : TI) : Nat → Int → Option R10
  | 0 => fun _ => none
  | k + 1 => b10_8 p0 p1 p2 (f10_8 p0 p1 p2 k) (f10_15 p0 p1 p2 k)
def f10_15 (p0 : Int) (p1 : List TOp) (p2 : TI) : Nat → Int → Option R10
  | 0 => fun _ => none
  | k + 1 => b10_15 p0 p1 p2 (f10_8 p0 p1 p2 k) (f10_15 p0 p1 p2 k)
end
def f10 (k : Nat) (p0 : Int) (p1 : List TOp) (p2 : TI) : Option R10 := b10 p0 p1 p2 (f10_8 p0 p1 p2 k) (f10_15 p0 p1 p2 k)
theorem e10 (p0 : Int) (p1 : List TOp) (p2 : TI) : ∀ k, ((fun v2 => cutG TP X q10 [8, 15] D10 (h10 p0 p1 p2).length body10 (finH TP Tryd.f10.results.toList (h10 p0 p1 p2).length false k10) k 8 (m10_8 p0 p1 p2 v2)) = f10_8 p0 p1 p2 k) ∧ ((fun v2 => cutG TP X q10 [8, 15] D10 (h10 p0 p1 p2).length body10 (finH TP Tryd.f10.results.toList (h10 p0 p1 p2).length false k10) k 15 (m10_15 p0 p1 p2 v2)) = f10_15 p0 p1 p2 k)
  | 0 => ⟨rfl, rfl⟩
  | k + 1 => by
    have ih := e10 p0 p1 p2 k
    refine ⟨?_, ?_⟩
    · funext v2
      refine (if_pos (by kernel_rfl)).trans ?_
      rw [s10_8]
      simp only [ih]
      rfl
    · funext v2
      refine (if_pos (by kernel_rfl)).trans ?_
      rw [s10_15]
      simp only [ih]
      rfl
theorem pure10 (p0 : Int) (p1 : List TOp) (p2 : TI) (pok : PrmOK TP X q10) (k : Nat) (r : R10) (h : f10 k p0 p1 p2 = some r) : PureH TP X 10 [.agg [.int .i64 p0, .imm 67 p1, .imm 3 p2]] (h10 p0 p1 p2) (out10 r) (outh10 r) :=
  pure_gen good k (fn := Tryd.f10) (body := body10) (prim := q10) (D := D10) (cuts := [8, 15]) (h := h10 p0 p1 p2) (own := false) (by kernel_rfl) (by kernel_rfl) (by decide +kernel) pok hk10 (by
    rw [s10]
    have ih := e10 p0 p1 p2 k
    simp only [ih]
    exact h)
def F10 {R : Type} (spec : (Int) → (List TOp) → TI → Option R10) : Fn U R := fun args h k => match args, h with | [.agg [.int .i64 p0, .imm 67 p1, .imm 3 p2]], [] => (spec p0 p1 p2).bind fun r => k (out10 r) (outh10 r) | _, _ => none
theorem ok10 {R : Type} (spec : (Int) → (List TOp) → TI → Option R10) (hp : ∀ (p0 : Int) (p1 : List TOp) (p2 : TI) (r : R10), spec p0 p1 p2 = some r → PureH TP X 10 [.agg [.int .i64 p0, .imm 67 p1, .imm 3 p2]] (h10 p0 p1 p2) (out10 r) (outh10 r)) : FnOK TP X 10 (F10 spec : Fn U R) := by
  intro args h k r hh
  unfold F10 at hh
  split at hh
  · obtain ⟨x, h1, h2⟩ := Option.bind_eq_some_iff.1 hh
    exact ⟨_, _, h2, hp _ _ _ _ h1⟩
  · cases hh
theorem pok10 : PrmOK TP X q10 := prims_cons good okS30 (prims_nil TP X mixed)
noncomputable def S10 (p0 : Int) (p1 : List TOp) (p2 : TI) : Option R10 := evv fun k => f10 k p0 p1 p2
theorem okS10 {R : Type} : FnOK TP X 10 (F10 S10 : Fn U R) := ok10 S10 fun p0 p1 p2 r h => by
  obtain ⟨k, hk⟩ := evv_fuel h
  exact pure10 p0 p1 p2 pok10 k r hk
end
end Go.Abs.Z
namespace Go.Abs.Z
open Go Go.Abs Limb Num
theorem cIf (b : Bool) {α : Type} (x y : α) : cond b x y = if b = true then x else y := by cases b <;> rfl
theorem bneE {a b : Int} : (a != b) = decide (a ≠ b) := by
  by_cases h : a = b <;> simp [h]
theorem beqE {a b : Int} : (a == b) = decide (a = b) := by
  by_cases h : a = b <;> simp [h]
def two (k : Int) : Bool := decide (3 ≤ k ∧ k ≤ 6)
def oneK (k : Int) : Bool := decide (k = 7 ∨ k = 8)
theorem run45 (k : Int) : S45 k = some (two k) := evv_eq (Evt.now fun f => by
  show b45 k = _
  unfold b45 two
  simp only [cIf, beqE, decide_eq_true_eq]
  repeat' split
  all_goals first | (refine congrArg some (Eq.symm (decide_eq_true ?_)); omega) | (refine congrArg some (decide_eq_decide.2 ?_); omega))
theorem run37 (k : Int) : S37 k = some (two k) := evv_eq (Evt.now fun f => by
  show b37 k = _
  unfold b37 two
  simp only [cIf, beqE, decide_eq_true_eq]
  repeat' split
  all_goals first | (refine congrArg some (Eq.symm (decide_eq_true ?_)); omega) | (refine congrArg some (decide_eq_decide.2 ?_); omega))
theorem run38 (k : Int) : S38 k = some (oneK k) := evv_eq (Evt.now fun f => by
  show b38 k = _
  unfold b38 oneK
  simp only [cIf, beqE, decide_eq_true_eq]
  repeat' split
  all_goals first | (refine congrArg some (Eq.symm (decide_eq_true ?_)); omega) | (refine congrArg some (decide_eq_decide.2 ?_); omega))
theorem run59 (neg : Bool) (n d : List Int) : S59 neg n d = some (!neg && n.isEmpty && d.isEmpty) := evv_eq (Evt.now fun f => by
  show b59 neg n d = _
  unfold b59
  cases neg <;> cases n <;> cases d <;> simp [cIf]
  all_goals (intros; omega))
theorem run42c (a i : Int) : S42c a i = some (decide (0 ≤ a ∧ a < i), i) := evv_eq (Evt.now fun f => by
  show b42c a i = _
  unfold b42c
  simp only [cIf, decide_eq_true_eq]
  split <;> (simp; try omega))
def sp (k a b n : Int) (neg : Bool) (x y : List Int) : Bool :=
  (decide (a ≠ 0) && decide (k = 2)) || (decide (b ≠ 0) && !two k) || (decide (n ≠ 0) && decide (k ≠ 8)) || ((neg || !x.isEmpty || !y.isEmpty) && decide (k ≠ 2))
theorem run43 {k a b n : Int} {neg : Bool} {x y : List Int} (h : x.length + y.length ≤ 1099511627776) : S43 k a b n neg x y = some (sp k a b n neg x y) := evv_eq ⟨8, fun f hf => by
  obtain ⟨m, rfl⟩ := Nat.le.dest hf
  rw [Nat.add_comm]
  have e0 : IntKind.i64.wrap ((x.length : Int) + (y.length : Int)) = (x.length : Int) + (y.length : Int) := by rw [wi64] <;> omega
  have e1 : decide ((x.length : Int) + (y.length : Int) > 0) = (!x.isEmpty || !y.isEmpty) := by
    cases x <;> cases y <;> simp <;> omega
  show b43 k a b n neg x y (f43_2 k a b n neg x y (m + 8)) (f43_3 k a b n neg x y (m + 8)) (f43_4 k a b n neg x y (m + 8)) (f43_5 k a b n neg x y (m + 8)) = _
  simp only [b43, f43_2, b43_2, f43_3, b43_3, f43_4, b43_4, f43_5, b43_5, run45, Option.bind_some, e0, e1, bneE, beqE]
  unfold sp
  by_cases h1 : a = 0 <;> by_cases h2 : b = 0 <;> by_cases h3 : n = 0 <;> cases neg <;> cases x.isEmpty <;> cases y.isEmpty <;> by_cases h4 : k = 2 <;> by_cases h5 : k = 8 <;> cases two k <;> simp [h1, h2, h3, h4, h5]⟩
theorem run48 {k a b n : Int} {neg : Bool} {x y : List Int} : S48 k a b n neg x y = some (sp k a b n neg x y) := evv_eq ⟨8, fun f hf => by
  obtain ⟨m, rfl⟩ := Nat.le.dest hf
  rw [Nat.add_comm]
  show b48 k a b n neg x y (f48_3 k a b n neg x y (m + 8)) (f48_5 k a b n neg x y (m + 8)) (f48_7 k a b n neg x y (m + 8)) = _
  simp only [b48, f48_3, b48_3, f48_5, b48_5, f48_7, b48_7, run37, run59, Option.bind_some, bneE, beqE]
  unfold sp
  by_cases h1 : a = 0 <;> by_cases h2 : b = 0 <;> by_cases h3 : n = 0 <;> cases neg <;> cases x.isEmpty <;> cases y.isEmpty <;> by_cases h4 : k = 2 <;> by_cases h5 : k = 8 <;> cases two k <;> simp [h1, h2, h3, h4, h5]⟩
def nodeE (k a b n : Int) (neg : Bool) (x y : List Int) (inputs i : Int) : Int :=
  if k < 1 ∨ 8 < k then 103 else if sp k a b n neg x y = true then 104
  else if k = 1 then (if a < 0 ∨ inputs ≤ a then 105 else 0)
  else if k = 2 then (if ratMay neg x y = true then 0 else 40)
  else if a < 0 ∨ i ≤ a then 106
  else if two k = true ∧ (b < 0 ∨ i ≤ b) then 106
  else if n < -1024 ∨ 1024 < n then 107 else 0
theorem run30 {k a b n : Int} {neg : Bool} {x y : List Int} {inputs i : Int} (hx : Ok x) (hy : Ok y) (h : x.length + y.length ≤ 1099511627776) : S30 k a b n neg x y inputs i = some (nodeE k a b n neg x y inputs i) := evv_eq ⟨8, fun f hf => by
  obtain ⟨m, rfl⟩ := Nat.le.dest hf
  rw [Nat.add_comm]
  show b30 k a b n neg x y inputs i (f30_4 k a b n neg x y inputs i (m + 8)) (f30_6 k a b n neg x y inputs i (m + 8)) = _
  simp only [b30, f30_4, b30_4, f30_6, b30_6, run43 h, run45, run42c, run44 hx hy, Option.bind_some, bneE, beqE, cIf]
  unfold nodeE
  cases sp k a b n neg x y <;> cases ratMay neg x y <;> cases h2 : two k <;> simp <;> grind⟩
theorem run36 {k a b n : Int} {neg : Bool} {x y : List Int} {inputs i : Int} (hx : Ok x) (hy : Ok y) : S36 k a b n neg x y inputs i = some (nodeE k a b n neg x y inputs i) := evv_eq ⟨12, fun f hf => by
  obtain ⟨m, rfl⟩ := Nat.le.dest hf
  rw [Nat.add_comm]
  show b36 k a b n neg x y inputs i (f36_3 k a b n neg x y inputs i (m + 12)) (f36_5 k a b n neg x y inputs i (m + 12)) (f36_7 k a b n neg x y inputs i (m + 12)) (f36_9 k a b n neg x y inputs i (m + 12)) (f36_11 k a b n neg x y inputs i (m + 12)) (f36_13 k a b n neg x y inputs i (m + 12)) = _
  simp only [b36, f36_3, b36_3, f36_5, b36_5, f36_7, b36_7, f36_9, b36_9, f36_11, b36_11, f36_13, b36_13, run48, run37, run38, run49 hx hy, Option.bind_some, beqE, cIf]
  unfold nodeE
  cases hs : sp k a b n neg x y with
  | true => simp; grind
  | false =>
    have hn : k ≠ 8 → n = 0 := fun h => by
      unfold sp at hs
      simp only [Bool.or_eq_false_iff, Bool.and_eq_false_iff, decide_eq_false_iff_not] at hs
      have := hs.1.2
      grind
    unfold two oneK
    cases ratMay neg x y <;> simp <;> grind⟩
abbrev OpT : Type := (Int) × (Int) × (Int) × (Int) × (Bool) × (List (Int)) × List (Int)
def opE (inputs : Int) (o : OpT) (i : Int) : Int := nodeE o.1 o.2.1 o.2.2.1 o.2.2.2.1 o.2.2.2.2.1 o.2.2.2.2.2.1 o.2.2.2.2.2.2 inputs i
def opsE (inputs : Int) : List OpT → Int → Option (Int × Int)
  | [], _ => none
  | o :: l, i => if opE inputs o i = 0 then opsE inputs l (i + 1) else some (i, opE inputs o i)
def outsE (n : Int) : List Int → Int → Option (Int × Int)
  | [], _ => none
  | o :: l, i => if o < 0 ∨ n ≤ o then some (n + i, 108) else outsE n l (i + 1)
def tapeE (inputs : Int) (ops : List OpT) (outs : List Int) : Int × Int :=
  if inputs < 0 ∨ 64 < inputs then (-1, 100) else if 2048 < ops.length then (-1, 101) else if outs.length = 0 ∨ 64 < outs.length then (-1, 102)
  else match opsE inputs ops 0 with
    | some r => r
    | none => match outsE ops.length outs 0 with
      | some r => r
      | none => (0, 0)
structure OkOp (o : OpT) : Prop where
  x : Ok o.2.2.2.2.2.1
  y : Ok o.2.2.2.2.2.2
  l : o.2.2.2.2.2.1.length + o.2.2.2.2.2.2.length ≤ 1099511627776
theorem dflt67 : @Eq OpT (X.dflt 67) (0, 0, 0, 0, false, [], []) := rfl
theorem dflt3 : @Eq Int (X.dflt 3) 0 := rfl
section
variable {inputs : Int} {ops : List OpT} {outs : List Int}
theorem loop10_15 (h1 : ops.length ≤ 2048) (h2 : outs.length ≤ 64) : ∀ (m i : Nat), i + m = outs.length → Evt (fun f => f10_15 inputs ops outs f (i : Int)) (match outsE ops.length (outs.drop i) i with | some r => r | none => (0, 0))
  | 0, i, hi => by
    rw [List.drop_eq_nil_of_le (by omega)]
    refine Evt.last fun f => ?_
    show b10_15 inputs ops outs (f10_8 inputs ops outs f) (f10_15 inputs ops outs f) (i : Int) = _
    unfold b10_15
    simp (disch := omega) only [cF]
    rfl
  | m + 1, i, hi => by
    have hlt : i < outs.length := by omega
    have e1 : IntKind.i64.wrap ((i : Int) + 1) = ((i + 1 : Nat) : Int) := by rw [wi64] <;> omega
    have e2 : IntKind.i64.wrap ((ops.length : Int) + (i : Int)) = (ops.length : Int) + (i : Int) := by rw [wi64] <;> omega
    have eg : outs.getD i 0 = outs[i] := by rw [List.getD_eq_getElem?_getD, List.getElem?_eq_getElem hlt]; rfl
    rw [List.drop_eq_getElem_cons hlt]
    unfold outsE
    by_cases hb : outs[i] < 0 ∨ (ops.length : Int) ≤ outs[i]
    · rw [if_pos hb]
      refine Evt.last fun f => ?_
      show b10_15 inputs ops outs (f10_8 inputs ops outs f) (f10_15 inputs ops outs f) (i : Int) = _
      unfold b10_15
      simp only [Int.toNat_natCast, dflt3, eg, e2]
      simp (disch := omega) only [cT]
      simp only [cIf, decide_eq_true_eq]
      grind
    · rw [if_neg hb]
      refine (loop10_15 h1 h2 m (i + 1) (by omega)).step fun f => ?_
      show b10_15 inputs ops outs (f10_8 inputs ops outs f) (f10_15 inputs ops outs f) (i : Int) = _
      unfold b10_15
      simp only [Int.toNat_natCast, dflt3, eg, e1]
      simp (disch := omega) only [cT, cF]
theorem loop10_8 (hok : ∀ o ∈ ops, OkOp o) (h1 : ops.length ≤ 2048) (h2 : outs.length ≤ 64) : ∀ (m i : Nat), i + m = ops.length → Evt (fun f => f10_8 inputs ops outs f (i : Int)) (match opsE inputs (ops.drop i) i with | some r => r | none => match outsE ops.length outs 0 with | some r => r | none => (0, 0))
  | 0, i, hi => by
    rw [List.drop_eq_nil_of_le (by omega)]
    refine (loop10_15 (inputs := inputs) h1 h2 outs.length 0 (by omega)).step fun f => ?_
    show b10_8 inputs ops outs (f10_8 inputs ops outs f) (f10_15 inputs ops outs f) (i : Int) = _
    unfold b10_8
    simp (disch := omega) only [cF]
    rfl
  | m + 1, i, hi => by
    have hlt : i < ops.length := by omega
    have e1 : IntKind.i64.wrap ((i : Int) + 1) = ((i + 1 : Nat) : Int) := by rw [wi64] <;> omega
    have eg : ops.getD i (0, 0, 0, 0, false, [], []) = ops[i] := by rw [List.getD_eq_getElem?_getD, List.getElem?_eq_getElem hlt]; rfl
    have ok := hok ops[i] (List.getElem_mem hlt)
    have hr : S30 ops[i].1 ops[i].2.1 ops[i].2.2.1 ops[i].2.2.2.1 ops[i].2.2.2.2.1 ops[i].2.2.2.2.2.1 ops[i].2.2.2.2.2.2 inputs (i : Int) = some (opE inputs ops[i] (i : Int)) := run30 ok.x ok.y ok.l
    rw [List.drop_eq_getElem_cons hlt]
    unfold opsE
    by_cases hb : opE inputs ops[i] i = 0
    · rw [if_pos hb]
      refine (loop10_8 hok h1 h2 m (i + 1) (by omega)).step fun f => ?_
      show b10_8 inputs ops outs (f10_8 inputs ops outs f) (f10_15 inputs ops outs f) (i : Int) = _
      unfold b10_8
      simp only [Int.toNat_natCast, dflt67, e1]
      rw [eg, hr]
      simp only [Option.bind_some]
      rw [bneF hb]
      simp (disch := omega) only [cT]
    · rw [if_neg hb]
      refine Evt.last fun f => ?_
      show b10_8 inputs ops outs (f10_8 inputs ops outs f) (f10_15 inputs ops outs f) (i : Int) = _
      unfold b10_8
      simp only [Int.toNat_natCast, dflt67, e1]
      rw [eg, hr]
      simp only [Option.bind_some]
      rw [bneT hb]
      simp (disch := omega) only [cT]
theorem run10 (hok : ∀ o ∈ ops, OkOp o) : S10 inputs ops outs = some (tapeE inputs ops outs) := evv_eq (by
  unfold tapeE
  by_cases h0 : inputs < 0 ∨ 64 < inputs
  · rw [if_pos h0]
    refine Evt.now fun f => ?_
    show b10 inputs ops outs (f10_8 inputs ops outs f) (f10_15 inputs ops outs f) = _
    unfold b10
    simp only [cIf, decide_eq_true_eq]
    grind
  · rw [if_neg h0]
    by_cases h1 : 2048 < ops.length
    · rw [if_pos h1]
      refine Evt.now fun f => ?_
      show b10 inputs ops outs (f10_8 inputs ops outs f) (f10_15 inputs ops outs f) = _
      unfold b10
      simp (disch := omega) only [cT, cF]
    · rw [if_neg h1]
      by_cases h2 : outs.length = 0 ∨ 64 < outs.length
      · rw [if_pos h2]
        refine Evt.now fun f => ?_
        show b10 inputs ops outs (f10_8 inputs ops outs f) (f10_15 inputs ops outs f) = _
        unfold b10
        rw [cF (by omega), cF (by omega), cF (by omega), beqE]
        simp only [cIf, decide_eq_true_eq]
        grind
      · rw [if_neg h2]
        refine (loop10_8 hok (by omega) (by omega) ops.length 0 (by omega)).same fun f => ?_
        show b10 inputs ops outs (f10_8 inputs ops outs f) (f10_15 inputs ops outs f) = _
        unfold b10
        rw [cF (by omega), cF (by omega), cF (by omega), cN (by omega), cF (by omega)]; rfl)
theorem loop17_14 (h1 : ops.length ≤ 2048) (h2 : outs.length ≤ 64) : ∀ (m i : Nat), i + m = outs.length → Evt (fun f => f17_14 inputs ops outs f (i : Int)) (match outsE ops.length (outs.drop i) i with | some r => r | none => (0, 0))
  | 0, i, hi => by
    rw [List.drop_eq_nil_of_le (by omega)]
    refine Evt.last fun f => ?_
    show b17_14 inputs ops outs (f17_8 inputs ops outs f) (f17_14 inputs ops outs f) (i : Int) = _
    unfold b17_14
    simp (disch := omega) only [cF]
    rfl
  | m + 1, i, hi => by
    have hlt : i < outs.length := by omega
    have e1 : IntKind.i64.wrap ((i : Int) + 1) = ((i + 1 : Nat) : Int) := by rw [wi64] <;> omega
    have e2 : IntKind.i64.wrap ((ops.length : Int) + (i : Int)) = (ops.length : Int) + (i : Int) := by rw [wi64] <;> omega
    have eg : outs.getD i 0 = outs[i] := by rw [List.getD_eq_getElem?_getD, List.getElem?_eq_getElem hlt]; rfl
    rw [List.drop_eq_getElem_cons hlt]
    unfold outsE
    by_cases hb : outs[i] < 0 ∨ (ops.length : Int) ≤ outs[i]
    · rw [if_pos hb]
      refine Evt.last fun f => ?_
      show b17_14 inputs ops outs (f17_8 inputs ops outs f) (f17_14 inputs ops outs f) (i : Int) = _
      unfold b17_14
      simp only [Int.toNat_natCast, dflt3, eg, e2]
      simp (disch := omega) only [cT]
      simp only [cIf, decide_eq_true_eq]
      grind
    · rw [if_neg hb]
      refine (loop17_14 h1 h2 m (i + 1) (by omega)).step fun f => ?_
      show b17_14 inputs ops outs (f17_8 inputs ops outs f) (f17_14 inputs ops outs f) (i : Int) = _
      unfold b17_14
      simp only [Int.toNat_natCast, dflt3, eg, e1]
      simp (disch := omega) only [cT, cF]
theorem loop17_8 (hok : ∀ o ∈ ops, OkOp o) (h1 : ops.length ≤ 2048) (h2 : outs.length ≤ 64) : ∀ (m i : Nat), i + m = ops.length → Evt (fun f => f17_8 inputs ops outs f (i : Int)) (match opsE inputs (ops.drop i) i with | some r => r | none => match outsE ops.length outs 0 with | some r => r | none => (0, 0))
  | 0, i, hi => by
    rw [List.drop_eq_nil_of_le (by omega)]
    refine (loop17_14 (inputs := inputs) h1 h2 outs.length 0 (by omega)).step fun f => ?_
    show b17_8 inputs ops outs (f17_8 inputs ops outs f) (f17_14 inputs ops outs f) (i : Int) = _
    unfold b17_8
    simp (disch := omega) only [cF]
    rfl
  | m + 1, i, hi => by
    have hlt : i < ops.length := by omega
    have e1 : IntKind.i64.wrap ((i : Int) + 1) = ((i + 1 : Nat) : Int) := by rw [wi64] <;> omega
    have eg : ops.getD i (0, 0, 0, 0, false, [], []) = ops[i] := by rw [List.getD_eq_getElem?_getD, List.getElem?_eq_getElem hlt]; rfl
    have ok := hok ops[i] (List.getElem_mem hlt)
    have hr : S36 ops[i].1 ops[i].2.1 ops[i].2.2.1 ops[i].2.2.2.1 ops[i].2.2.2.2.1 ops[i].2.2.2.2.2.1 ops[i].2.2.2.2.2.2 inputs (i : Int) = some (opE inputs ops[i] (i : Int)) := run36 ok.x ok.y
    rw [List.drop_eq_getElem_cons hlt]
    unfold opsE
    by_cases hb : opE inputs ops[i] i = 0
    · rw [if_pos hb]
      refine (loop17_8 hok h1 h2 m (i + 1) (by omega)).step fun f => ?_
      show b17_8 inputs ops outs (f17_8 inputs ops outs f) (f17_14 inputs ops outs f) (i : Int) = _
      unfold b17_8
      simp only [Int.toNat_natCast, dflt67, e1]
      rw [eg, hr]
      simp only [Option.bind_some]
      rw [bneF hb]
      simp (disch := omega) only [cT]
    · rw [if_neg hb]
      refine Evt.last fun f => ?_
      show b17_8 inputs ops outs (f17_8 inputs ops outs f) (f17_14 inputs ops outs f) (i : Int) = _
      unfold b17_8
      simp only [Int.toNat_natCast, dflt67, e1]
      rw [eg, hr]
      simp only [Option.bind_some]
      rw [bneT hb]
      simp (disch := omega) only [cT]
theorem run17 (hok : ∀ o ∈ ops, OkOp o) : S17 inputs ops outs = some (tapeE inputs ops outs) := evv_eq (by
  unfold tapeE
  by_cases h0 : inputs < 0 ∨ 64 < inputs
  · rw [if_pos h0]
    refine Evt.now fun f => ?_
    show b17 inputs ops outs (f17_8 inputs ops outs f) (f17_14 inputs ops outs f) = _
    unfold b17
    simp only [cIf, decide_eq_true_eq]
    grind
  · rw [if_neg h0]
    by_cases h1 : 2048 < ops.length
    · rw [if_pos h1]
      refine Evt.now fun f => ?_
      show b17 inputs ops outs (f17_8 inputs ops outs f) (f17_14 inputs ops outs f) = _
      unfold b17
      simp (disch := omega) only [cT, cF]
    · rw [if_neg h1]
      by_cases h2 : outs.length = 0 ∨ 64 < outs.length
      · rw [if_pos h2]
        refine Evt.now fun f => ?_
        show b17 inputs ops outs (f17_8 inputs ops outs f) (f17_14 inputs ops outs f) = _
        unfold b17
        rw [cF (by omega), cF (by omega), cF (by omega), beqE]
        simp only [cIf, decide_eq_true_eq]
        grind
      · rw [if_neg h2]
        refine (loop17_8 hok (by omega) (by omega) ops.length 0 (by omega)).same fun f => ?_
        show b17 inputs ops outs (f17_8 inputs ops outs f) (f17_14 inputs ops outs f) = _
        unfold b17
        rw [cF (by omega), cF (by omega), cF (by omega), cN (by omega), cF (by omega)]; rfl)
end
end Go.Abs.Z
namespace Go.Abs.Z
open Go Go.Abs Go.Proofs Go.Shelf Go.RowKit
noncomputable section
def layRen : Ren := {
  f := fun x =>
    match x with
    | 171 => 11
    | 243 => 31
    | 246 => 46
    | 283 => 55
    | 284 => 56
    | 285 => 57
    | 286 => 58
    | 129 => 69
    | 317 => 68
    | 318 => 70
    | 319 => 71
    | 320 => 72
    | 337 => 89
    | 338 => 90
    | n => n,
  t := fun x =>
    match x with
    | 3 => 3
    | 9 => 9
    | 2 => 2
    | 4 => 4
    | 171 => 122
    | 0 => 0
    | 53 => 100
    | 37 => 97
    | 5 => 5
    | 173 => 125
    | 212 => 137
    | 51 => 99
    | 20 => 20
    | 213 => 138
    | 46 => 139
    | 232 => 161
    | 233 => 162
    | n => n,
  g := fun x =>
    match x with
    | 17 => 1
    | 18 => 2
    | 19 => 3
    | n => n }
theorem layItoa : LaysM.n171 Tryd.prog layRen where
  mixed := by kernel_rfl
  f129 := Tryd.func69.trans (by kernel_rfl)
  f171 := Tryd.func11.trans (by kernel_rfl)
  f243 := Tryd.func31.trans (by kernel_rfl)
  f246 := Tryd.func46.trans (by kernel_rfl)
  f283 := Tryd.func55.trans (by kernel_rfl)
  f284 := Tryd.func56.trans (by kernel_rfl)
  f285 := Tryd.func57.trans (by kernel_rfl)
  f286 := Tryd.func58.trans (by kernel_rfl)
  f317 := Tryd.func68.trans (by kernel_rfl)
  f318 := Tryd.func70.trans (by kernel_rfl)
  f319 := Tryd.func71.trans (by kernel_rfl)
  f320 := Tryd.func72.trans (by kernel_rfl)
  f337 := Tryd.func89.trans (by kernel_rfl)
  f338 := Tryd.func90.trans (by kernel_rfl)
  t0 := Tryd.underlying0
  a0 := Tryd.isAgg0
  z0 := Tryd.sizeOf0
  v0 := Tryd.zeroValue0
  t2 := Tryd.underlying2
  a2 := Tryd.isAgg2
  z2 := Tryd.sizeOf2
  v2 := Tryd.zeroValue2
  t3 := Tryd.underlying3
  a3 := Tryd.isAgg3
  z3 := Tryd.sizeOf3
  v3 := Tryd.zeroValue3
  t4 := Tryd.underlying4
  a4 := Tryd.isAgg4
  z4 := Tryd.sizeOf4
  v4 := Tryd.zeroValue4
  t5 := Tryd.underlying5
  a5 := Tryd.isAgg5
  z5 := Tryd.sizeOf5
  v5 := Tryd.zeroValue5
  t9 := Tryd.underlying9
  a9 := Tryd.isAgg9
  z9 := Tryd.sizeOf9
  v9 := Tryd.zeroValue9
  t20 := Tryd.underlying20
  a20 := Tryd.isAgg20
  z20 := Tryd.sizeOf20
  v20 := Tryd.zeroValue20
  t37 := Tryd.underlying97
  a37 := Tryd.isAgg97
  z37 := Tryd.sizeOf97
  v37 := Tryd.zeroValue97
  t46 := Tryd.underlying139
  a46 := Tryd.isAgg139
  z46 := Tryd.sizeOf139
  v46 := Tryd.zeroValue139
  t51 := Tryd.underlying99
  a51 := Tryd.isAgg99
  z51 := Tryd.sizeOf99
  v51 := Tryd.zeroValue99
  t53 := Tryd.underlying100
  a53 := Tryd.isAgg100
  z53 := Tryd.sizeOf100
  v53 := Tryd.zeroValue100
  t171 := Tryd.underlying122
  a171 := Tryd.isAgg122
  z171 := Tryd.sizeOf122
  v171 := Tryd.zeroValue122
  t173 := Tryd.underlying125
  a173 := Tryd.isAgg125
  z173 := Tryd.sizeOf125
  v173 := Tryd.zeroValue125
  t212 := Tryd.underlying137
  a212 := Tryd.isAgg137
  z212 := Tryd.sizeOf137
  v212 := Tryd.zeroValue137
  t213 := Tryd.underlying138
  a213 := Tryd.isAgg138
  z213 := Tryd.sizeOf138
  t232 := Tryd.underlying161
  a232 := Tryd.isAgg161
  z232 := Tryd.sizeOf161
  v232 := Tryd.zeroValue161
  t233 := Tryd.underlying162
  a233 := Tryd.isAgg162
  z233 := Tryd.sizeOf162
  v233 := Tryd.zeroValue162
  g17 := by kernel_rfl
  g18 := by kernel_rfl
  g19 := by kernel_rfl
  i0 := by kernel_rfl
  i2 := by kernel_rfl
  i3 := by kernel_rfl
  i4 := by kernel_rfl
  i5 := by kernel_rfl
  i9 := by kernel_rfl
  i20 := by kernel_rfl
  i37 := by kernel_rfl
  i46 := by kernel_rfl
  i51 := by kernel_rfl
  i53 := by kernel_rfl
  i171 := by kernel_rfl
  i173 := by kernel_rfl
  i212 := by kernel_rfl
  i232 := by kernel_rfl
  i233 := by kernel_rfl
  m17 := by kernel_rfl
  m18 := by kernel_rfl
  m19 := by kernel_rfl
abbrev R11 : Type := (ByteArray)
def out11 : R11 → AV U := fun x0 => .str x0
def outh11 : R11 → List (AO U) := fun x0 => []
def h11 (p0 : Int) : List (AO U) := []
def S11 (p0 : Int) : Option R11 := if -9223372036854775808 ≤ p0 ∧ p0 ≤ 9223372036854775807 then some ⟨(Lib.itoa p0).toArray⟩ else none
def F11 {R : Type} (spec : (Int) → Option R11) : Fn U R := fun args h k => match args, h with | [.int .i64 p0], [] => (spec p0).bind fun r => k (out11 r) (outh11 r) | _, _ => none
theorem ok11 {R : Type} (spec : (Int) → Option R11) (hp : ∀ (p0 : Int) (r : R11), spec p0 = some r → PureH Tryd.prog X 11 [.int .i64 p0] (h11 p0) (out11 r) (outh11 r)) : FnOK Tryd.prog X 11 (F11 spec : Fn U R) := by
  intro args h k r hh
  unfold F11 at hh
  split at hh
  · obtain ⟨x, h1, h2⟩ := Option.bind_eq_some_iff.1 hh
    exact ⟨_, _, h2, hp _ _ h1⟩
  · cases hh
theorem pure11 (p0 : Int) (r : R11) (h : S11 p0 = some r) : PureH Tryd.prog X 11 [.int .i64 p0] (h11 p0) (out11 r) (outh11 r) := by
  unfold S11 at h
  split at h
  · rename_i hr
    injection h with h; subst h
    intro w N th vs m hs ha
    have hv := ha 0 (Nat.zero_lt_one)
    obtain ⟨v, rfl⟩ : ∃ v, vs = #[v] := by
      obtain ⟨l⟩ := vs
      match l, hs with
      | [v], _ => exact ⟨v, rfl⟩
    have hv' : VRel X w (NN N th) th (.int .i64 p0) v := hv
    cases hv'
    have htab : Lib.TabIs Tryd.prog w "internal/strconv.uint64pow10" .u64 Lib.pow10Tab := by
      obtain ⟨g1, g2, T, mm, g3⟩ := m.gv 1 _ rfl
      unfold Lib.TabIs World.var?
      have : Tryd.prog.globalNamed "internal/strconv.uint64pow10" = some 1 := by kernel_rfl
      rw [this]
      simp only [Option.bind_some, g3]
    have := Any.strconv_Itoa layItoa p0 hr.1 hr.2 w htab
    refine this.mono fun e w' ⟨he, k, os, hw⟩ => ?_
    subst he
    have hb : Below w.heap.size w w' := by rw [hw]; exact Lib.below_grow _ _ (Nat.le_refl _) k os
    obtain ⟨r1, _⟩ := below_ok (X := X) (st := ⟨[], []⟩) (a := { tmps := #[], defers := [] }) ⟨Nat.le_refl _, fun i => .undef _, m, rfl⟩ hb
    exact ⟨_, th, rfl, r1.mem, .str _⟩
  · cases h
theorem okS11 {R : Type} : FnOK Tryd.prog X 11 (F11 S11 : Fn U R) := ok11 S11 pure11
end
end Go.Abs.Z
namespace Go.Abs.Z
open Go Go.Abs Go.Proofs
noncomputable section
abbrev R20 : Type := Int × ByteArray × Bool × TI × TI × Int × TI
noncomputable def body20 : Go.Code := (Tryd.f20.body).getD Go.Code.skip
def h20 (p0 : Int) (p1 : List TOp) (p2 : TI) (p3 : Int) : List (AO U) := []
def k20 : AV U → List (AO U) → Option R20 := fun v h => match v, h with | AV.agg [AV.int IntKind.i64 x0, AV.str x1, AV.bool x2, AV.imm 99 x3, AV.imm 99 x4, AV.int IntKind.i64 x5, AV.imm 3 x6], [] => some (x0, x1, x2, x3, x4, x5, x6) | _, _ => none
def out20 : R20 → AV U := fun (x0, x1, x2, x3, x4, x5, x6) => AV.agg [AV.int IntKind.i64 x0, AV.str x1, AV.bool x2, AV.imm 99 x3, AV.imm 99 x4, AV.int IntKind.i64 x5, AV.imm 3 x6]
def outh20 : R20 → List (AO U) := fun (x0, x1, x2, x3, x4, x5, x6) => []
def D20 : Nat → Dir := dirs []
def b20 (p0 : Int) (p1 : List TOp) (p2 : TI) (p3 : Int)   : Option R20 :=
  cond (decide (0 ≤ p3))
  (cond (decide (p3 < (↑p1.length : Int)))
  (cond (decide (p3.toNat < p1.length))
  (cond ((p1.getD p3.toNat (X.dflt 67)).fst == 2)
  (some ((1, ByteArray.mk #[], (p1.getD p3.toNat (X.dflt 67)).snd.snd.snd.snd.fst, (p1.getD p3.toNat (X.dflt 67)).snd.snd.snd.snd.snd.fst, (p1.getD p3.toNat (X.dflt 67)).snd.snd.snd.snd.snd.snd, 0, [])))
  (cond ((p1.getD p3.toNat (X.dflt 67)).fst == 1)
  ((S18 (p1.getD p3.toNat (X.dflt 67)).snd.fst).bind fun r0 =>
  cond (decide ((ByteArray.mk #[120]).size + ByteArray.size r0 ≤ 4611686018427387904))
  (some ((2, ByteArray.mk #[120] ++ r0, false, [], [], 0, [])))
  (none))
  ((S18 p3).bind fun r1 =>
  cond (decide ((ByteArray.mk #[110]).size + ByteArray.size r1 ≤ 4611686018427387904))
  (some ((2, ByteArray.mk #[110] ++ r1, false, [], [], 0, [])))
  (none))))
  (none))
  (none))
  (none)
theorem hk20 : ∀ v h' r, k20 v h' = some r → v = out20 r ∧ h' = outh20 r := by
  intro v h' r h
  unfold k20 at h
  split at h
  · injection h with h; subst h; exact ⟨rfl, rfl⟩
  · cases h
abbrev q20 : Prim U R20 := prims X [⟨18, fun _ => true, [.lend], F18 S18⟩]
theorem s20 (c : Nat → S U → Option R20) (p0 : Int) (p1 : List TOp) (p2 : TI) (p3 : Int) : seg TP X q20 [] (fun q st => c q (keepD D20 (h20 p0 p1 p2 p3).length q st)) body20 (finH TP Tryd.f20.results.toList (h20 p0 p1 p2 p3).length false k20) (start [.agg [.int .i64 p0, .imm 67 p1, .imm 3 p2], .int .i64 p3] Tryd.f20.ntmps (h20 p0 p1 p2 p3)) = b20 p0 p1 p2 p3  := by kernel_rfl
def f20 (_ : Nat) (p0 : Int) (p1 : List TOp) (p2 : TI) (p3 : Int) : Option R20 := b20 p0 p1 p2 p3
theorem pure20 (p0 : Int) (p1 : List TOp) (p2 : TI) (p3 : Int) (pok : PrmOK TP X q20) (k : Nat) (r : R20) (h : f20 k p0 p1 p2 p3 = some r) : PureH TP X 20 [.agg [.int .i64 p0, .imm 67 p1, .imm 3 p2], .int .i64 p3] (h20 p0 p1 p2 p3) (out20 r) (outh20 r) :=
  pure_gen good 0 (fn := Tryd.f20) (body := body20) (prim := q20) (D := D20) (cuts := []) (h := h20 p0 p1 p2 p3) (own := false) (by kernel_rfl) (by kernel_rfl) (by decide +kernel) pok hk20 (by
    rw [s20]
    exact h)
def F20 {R : Type} (spec : (Int) → (List TOp) → TI → Int → Option R20) : Fn U R := fun args h k => match args, h with | [.agg [.int .i64 p0, .imm 67 p1, .imm 3 p2], .int .i64 p3], [] => (spec p0 p1 p2 p3).bind fun r => k (out20 r) (outh20 r) | _, _ => none
theorem ok20 {R : Type} (spec : (Int) → (List TOp) → TI → Int → Option R20) (hp : ∀ (p0 : Int) (p1 : List TOp) (p2 : TI) (p3 : Int) (r : R20), spec p0 p1 p2 p3 = some r → PureH TP X 20 [.agg [.int .i64 p0, .imm 67 p1, .imm 3 p2], .int .i64 p3] (h20 p0 p1 p2 p3) (out20 r) (outh20 r)) : FnOK TP X 20 (F20 spec : Fn U R) := by
  intro args h k r hh
  unfold F20 at hh
  split at hh
  · obtain ⟨x, h1, h2⟩ := Option.bind_eq_some_iff.1 hh
    exact ⟨_, _, h2, hp _ _ _ _ _ h1⟩
  · cases hh
theorem pok20 : PrmOK TP X q20 := prims_cons good okS18 (prims_nil TP X mixed)
noncomputable def S20 (p0 : Int) (p1 : List TOp) (p2 : TI) (p3 : Int) : Option R20 := evv fun k => f20 k p0 p1 p2 p3
theorem okS20 {R : Type} : FnOK TP X 20 (F20 S20 : Fn U R) := ok20 S20 fun p0 p1 p2 p3 r h => by
  obtain ⟨k, hk⟩ := evv_fuel h
  exact pure20 p0 p1 p2 p3 pok20 k r hk
end
end Go.Abs.Z
namespace Go.Abs.Z
open Go Go.Abs Go.Proofs
noncomputable section
abbrev R19 : Type := TI
noncomputable def body19 : Go.Code := (Tryd.f19.body).getD Go.Code.skip
def h19 (p0 p1 p2 p3 : Int) (p4 : Bool) (p5 p6 : TI) : List (AO U) := []
def k19 : AV U → List (AO U) → Option R19 := fun v h => match v, h with | AV.imm 3 x0, [] => some x0 | _, _ => none
def out19 : R19 → AV U := fun x0 => AV.imm 3 x0
def outh19 : R19 → List (AO U) := fun x0 => []
def D19 : Nat → Dir := dirs []
def b19 (p0 p1 p2 p3 : Int) (p4 : Bool) (p5 p6 : TI)   : Option R19 :=
  (S37 p0).bind fun r0 =>
  cond (r0)
  (some ([p1, p2]))
  ((S38 p0).bind fun r1 =>
  cond (r1)
  (some ([p1]))
  (some ([])))
theorem hk19 : ∀ v h' r, k19 v h' = some r → v = out19 r ∧ h' = outh19 r := by
  intro v h' r h
  unfold k19 at h
  split at h
  · injection h with h; subst h; exact ⟨rfl, rfl⟩
  · cases h
abbrev q19 : Prim U R19 := prims X [⟨37, fun _ => true, [.lend], F37 S37⟩, ⟨38, fun _ => true, [.lend], F38 S38⟩]
theorem s19 (c : Nat → S U → Option R19) (p0 p1 p2 p3 : Int) (p4 : Bool) (p5 p6 : TI) : seg TP X q19 [] (fun q st => c q (keepD D19 (h19 p0 p1 p2 p3 p4 p5 p6).length q st)) body19 (finH TP Tryd.f19.results.toList (h19 p0 p1 p2 p3 p4 p5 p6).length false k19) (start [.agg [.int .i64 p0, .int .i64 p1, .int .i64 p2, .int .i64 p3, .bool p4, .imm 99 p5, .imm 99 p6]] Tryd.f19.ntmps (h19 p0 p1 p2 p3 p4 p5 p6)) = b19 p0 p1 p2 p3 p4 p5 p6  := by kernel_rfl
def f19 (_ : Nat) (p0 p1 p2 p3 : Int) (p4 : Bool) (p5 p6 : TI) : Option R19 := b19 p0 p1 p2 p3 p4 p5 p6
theorem pure19 (p0 p1 p2 p3 : Int) (p4 : Bool) (p5 p6 : TI) (pok : PrmOK TP X q19) (k : Nat) (r : R19) (h : f19 k p0 p1 p2 p3 p4 p5 p6 = some r) : PureH TP X 19 [.agg [.int .i64 p0, .int .i64 p1, .int .i64 p2, .int .i64 p3, .bool p4, .imm 99 p5, .imm 99 p6]] (h19 p0 p1 p2 p3 p4 p5 p6) (out19 r) (outh19 r) :=
  pure_gen good 0 (fn := Tryd.f19) (body := body19) (prim := q19) (D := D19) (cuts := []) (h := h19 p0 p1 p2 p3 p4 p5 p6) (own := false) (by kernel_rfl) (by kernel_rfl) (by decide +kernel) pok hk19 (by
    rw [s19]
    exact h)
def F19 {R : Type} (spec : (Int) → Int → (Int) → Int → (Bool) → TI → TI → Option R19) : Fn U R := fun args h k => match args, h with | [.agg [.int .i64 p0, .int .i64 p1, .int .i64 p2, .int .i64 p3, .bool p4, .imm 99 p5, .imm 99 p6]], [] => (spec p0 p1 p2 p3 p4 p5 p6).bind fun r => k (out19 r) (outh19 r) | _, _ => none
theorem ok19 {R : Type} (spec : (Int) → Int → (Int) → Int → (Bool) → TI → TI → Option R19) (hp : ∀ (p0 : Int) (p1 : Int) (p2 : Int) (p3 : Int) (p4 : Bool) (p5 : TI) (p6 : TI) (r : R19), spec p0 p1 p2 p3 p4 p5 p6 = some r → PureH TP X 19 [.agg [.int .i64 p0, .int .i64 p1, .int .i64 p2, .int .i64 p3, .bool p4, .imm 99 p5, .imm 99 p6]] (h19 p0 p1 p2 p3 p4 p5 p6) (out19 r) (outh19 r)) : FnOK TP X 19 (F19 spec : Fn U R) := by
  intro args h k r hh
  unfold F19 at hh
  split at hh
  · obtain ⟨x, h1, h2⟩ := Option.bind_eq_some_iff.1 hh
    exact ⟨_, _, h2, hp _ _ _ _ _ _ _ _ h1⟩
  · cases hh
theorem pok19 : PrmOK TP X q19 := prims_cons good okS37 (prims_cons good okS38 (prims_nil TP X mixed))
noncomputable def S19 (p0 p1 p2 p3 : Int) (p4 : Bool) (p5 p6 : TI) : Option R19 := evv fun k => f19 k p0 p1 p2 p3 p4 p5 p6
theorem okS19 {R : Type} : FnOK TP X 19 (F19 S19 : Fn U R) := ok19 S19 fun p0 p1 p2 p3 p4 p5 p6 r h => by
  obtain ⟨k, hk⟩ := evv_fuel h
  exact pure19 p0 p1 p2 p3 p4 p5 p6 pok19 k r hk
end
end Go.Abs.Z
namespace Go.Abs.Z
open Go Go.Abs Limb Num
def mk (l : List UInt8) : ByteArray := ⟨l.toArray⟩
theorem mk_append (a b : List UInt8) : mk a ++ mk b = mk (a ++ b) := by
  apply ByteArray.ext
  rw [ByteArray.data_append]
  simp [mk]
theorem mk_size (a : List UInt8) : (mk a).size = a.length := by
  show (mk a).data.size = _
  simp [mk]
def decT (n : Int) : ByteArray := mk (Lib.itoa n)
theorem byte1 (x : Int) : bytesL X 5 [x] = mk [UInt8.ofNat x.toNat] := rfl
theorem digit1 {n : Nat} (h : n < 10) : IntKind.u8.wrap (IntKind.i64.wrap (48 + (n : Int))) = ((48 + n : Nat) : Int) := by
  rw [wi64 (by omega) (by omega), wu8]; omega
theorem byteD {n : Nat} (h : n < 10) {x : Int} (hx : x = (n : Int)) : bytesL X 5 [IntKind.u8.wrap (IntKind.i64.wrap (48 + x))] = mk [UInt8.ofNat (48 + n)] := by
  subst hx
  show mk [UInt8.ofNat (IntKind.u8.wrap (IntKind.i64.wrap (48 + (n : Int)))).toNat] = _
  rw [digit1 h, Int.toNat_natCast]
theorem loop18 (p0 : Int) (n : Nat) : ∀ l : List UInt8, l.length + n ≤ 2305843009213693952 → Evt (fun f => f18_2 p0 f (n : Int) (mk l)) (mk (Lib.decDigits n ++ l)) := by
  induction n using Nat.strongRecOn with
  | _ n ih =>
    intro l hl
    by_cases h : n < 10
    · rw [Lib.decDigits, dif_pos h]
      refine Evt.last fun f => ?_
      show b18_2 p0 (f18_2 p0 f) (n : Int) (mk l) = _
      unfold b18_2
      rw [cF (by omega), byteD h rfl, mk_append, mk_size, mk_size]
      rw [cT (by simp; omega)]
    · rw [Lib.decDigits, dif_neg h]
      have t1 : Int.tmod (n : Int) 10 = ((n % 10 : Nat) : Int) := by rw [Int.tmod_eq_emod_of_nonneg (by omega)]; omega
      have t2 : IntKind.i64.wrap (Int.tdiv (n : Int) 10) = ((n / 10 : Nat) : Int) := by rw [Int.tdiv_eq_ediv_of_nonneg (by omega), wi64 (by omega) (by omega)]; omega
      have := ih (n / 10) (by omega) (UInt8.ofNat (48 + n % 10) :: l) (by simp; omega)
      rw [List.append_assoc, List.singleton_append]
      refine this.step fun f => ?_
      show b18_2 p0 (f18_2 p0 f) (n : Int) (mk l) = _
      unfold b18_2
      rw [cT (by omega), t2, byteD (by omega) t1, mk_append, mk_size, mk_size]
      rw [cT (by simp; omega)]
      rfl
theorem run18 {n : Int} (h0 : 0 ≤ n) (h1 : n ≤ 1152921504606846976) : S18 n = some (decT n) := evv_eq (by
  obtain ⟨m, rfl⟩ := Int.eq_ofNat_of_zero_le h0
  have := loop18 (m : Int) m [] (by simp; omega)
  rw [List.append_nil] at this
  have e : decT (m : Int) = mk (Lib.decDigits m) := by
    unfold decT Lib.itoa
    rw [if_neg (by omega), Int.toNat_natCast]
  rw [e]
  exact this.same fun f => rfl)
theorem run11 {n : Int} (h0 : 0 ≤ n) (h1 : n ≤ 1152921504606846976) : S11 n = some (decT n) := by
  unfold S11
  rw [if_pos (by omega)]; rfl
theorem dec_len (n : Nat) : (Lib.decDigits n).length ≤ n + 1 := by
  induction n using Nat.strongRecOn with
  | _ n ih =>
    rw [Lib.decDigits]
    split
    · simp
    · have := ih (n / 10) (by omega)
      simp; omega
theorem decT_size {n : Int} (h0 : 0 ≤ n) : ((decT n).size : Int) ≤ n + 1 := by
  obtain ⟨m, rfl⟩ := Int.eq_ofNat_of_zero_le h0
  unfold decT Lib.itoa
  rw [if_neg (by omega), mk_size, Int.toNat_natCast]
  have := dec_len m
  omega
abbrev NodeT : Type := (Int) × (ByteArray) × (Bool) × (List (Int)) × (List (Int)) × (Int) × List (Int)
abbrev LetT : Type := (ByteArray) × Int
def xT (n : Int) : ByteArray := ByteArray.mk #[120] ++ decT n
def nT (n : Int) : ByteArray := ByteArray.mk #[110] ++ decT n
def wordN (ops : List OpT) (i : Int) : NodeT :=
  let o := ops.getD i.toNat (0, 0, 0, 0, false, [], [])
  if o.1 = 2 then (1, ByteArray.mk #[], o.2.2.2.2.1, o.2.2.2.2.2.1, o.2.2.2.2.2.2, 0, [])
  else if o.1 = 1 then (2, xT o.2.1, false, [], [], 0, [])
  else (2, nT i, false, [], [], 0, [])
def kindN (k : Int) : Int := if k = 3 then 4 else if k = 4 then 5 else if k = 5 then 6 else if k = 6 then 7 else if k = 7 then 3 else 8
theorem run21 (k : Int) : S21 k = some (kindN k) := evv_eq (Evt.now fun f => by
  show b21 k = _
  unfold b21 kindN
  simp only [cIf, beqE, decide_eq_true_eq]
  repeat' split
  all_goals first | rfl | omega)
theorem run19 {k a b n : Int} {neg : Bool} {x y : List Int} : S19 k a b n neg x y = some (if two k = true then [a, b] else if oneK k = true then [a] else []) := evv_eq (Evt.now fun f => by
  show b19 k a b n neg x y = _
  unfold b19
  rw [run37, run38]
  cases two k <;> cases oneK k <;> rfl)
structure Sane (ops : List OpT) : Prop where
  len : ops.length ≤ 2048
  inp : ∀ o ∈ ops, o.1 = 1 → 0 ≤ o.2.1 ∧ o.2.1 ≤ 64
  ok : ∀ o ∈ ops, OkOp o
theorem run20 {inputs : Int} {ops : List OpT} {outs : List Int} (hs : Sane ops) {i : Int} (h0 : 0 ≤ i) (h1 : i < ops.length) : S20 inputs ops outs i = some (wordN ops i) := evv_eq (Evt.now fun f => by
  obtain ⟨j, rfl⟩ := Int.eq_ofNat_of_zero_le h0
  have hlen := hs.len
  have hlt : j < ops.length := by omega
  have eg : ops.getD j (0, 0, 0, 0, false, [], []) = ops[j] := by rw [List.getD_eq_getElem?_getD, List.getElem?_eq_getElem hlt]; rfl
  have hin := hs.inp ops[j] (List.getElem_mem hlt)
  show b20 inputs ops outs (j : Int) = _
  unfold b20 wordN
  simp only [Int.toNat_natCast, dflt67]
  rw [eg]
  simp (disch := omega) only [cT]
  rw [run18 h0 (by omega)]
  by_cases h2 : ops[j].1 = 2
  · rw [cE h2, if_pos h2]
  · rw [cN h2, if_neg h2]
    by_cases h3 : ops[j].1 = 1
    · obtain ⟨a0, a1⟩ := hin h3
      have := decT_size a0
      rw [cE h3, if_pos h3, run18 a0 (by omega)]
      simp only [Option.bind_some]
      rw [cT (by show 1 + _ ≤ _; omega)]; rfl
    · have := decT_size h0
      rw [cN h3, if_neg h3]
      simp only [Option.bind_some]
      rw [cT (by show 1 + _ ≤ _; omega)]; rfl)
end Go.Abs.Z
namespace Go.Abs.Z
open Go Go.Abs Go.Proofs
noncomputable section
abbrev R6 : Type := (List (ByteArray)) × (List TFn) × (List TLt) × TI × (List TNd) × Int × (Int)
noncomputable def body6 : Go.Code := (Tryd.f6.body).getD Go.Code.skip
def h6 (p0 : Int) (p1 : List TOp) (p2 : TI) : List (AO U) := []
def k6 : AV U → List (AO U) → Option R6 := fun v h => match v, h with | AV.tup [AV.agg [AV.imm 9 x0, AV.imm 86 x1, AV.imm 75 x2, AV.imm 3 x3, AV.imm 73 x4], AV.int IntKind.i64 x5, AV.int IntKind.i64 x6], [] => some (x0, x1, x2, x3, x4, x5, x6) | _, _ => none
def out6 : R6 → AV U := fun (x0, x1, x2, x3, x4, x5, x6) => AV.tup [AV.agg [AV.imm 9 x0, AV.imm 86 x1, AV.imm 75 x2, AV.imm 3 x3, AV.imm 73 x4], AV.int IntKind.i64 x5, AV.int IntKind.i64 x6]
def outh6 : R6 → List (AO U) := fun (x0, x1, x2, x3, x4, x5, x6) => []
def D6 : Nat → Dir := dirs [(6, ⟨[1, 2, 7, 8], [(7, some 0)], [], []⟩), (10, ⟨[1, 2, 7, 9], [(7, some 4), (7, some 2), (7, some 0)], [], []⟩), (17, ⟨[1, 2, 7, 9, 10, 11, 12, 13], [(12, none)], [], []⟩), (24, ⟨[1, 2, 7, 14], [(7, some 4), (7, some 3)], [], []⟩)]
def b6 (p0 : Int) (p1 : List TOp) (p2 : TI) (c6 : (Int) → (List (ByteArray)) → Option R6) (c10 : (Int) → (List (ByteArray)) → (List TLt) → (List TNd) → Option R6) (c17 : (Int) → TI → Int → (Int) → Int → (Int) → Int → (Bool) → TI → TI → TI → (List (ByteArray)) → (List TLt) → (List TNd) → Option R6) (c24 : (Int) → (List (ByteArray)) → (List TLt) → TI → (List TNd) → Option R6)  : Option R6 :=
  (S17 p0 p1 p2).bind fun r0 =>
  cond (r0.snd != 0)
  (some (([], [], [], [], [], r0.fst, r0.snd)))
  (c6 (0) ([]))
def m6_6 (p0 : Int) (p1 : List TOp) (p2 : TI) (v0 : Int) (v4 : List (ByteArray)) : S U := S.mk [AV.undef, AV.ptr 0 0, AV.ptr 1 0, AV.undef, AV.undef, AV.undef, AV.undef, AV.ptr 2 0, AV.int IntKind.i64 v0, AV.undef, AV.undef, AV.undef, AV.undef, AV.undef, AV.undef, AV.undef, AV.undef, AV.undef, AV.undef, AV.undef, AV.undef, AV.undef, AV.undef, AV.undef, AV.undef, AV.undef, AV.undef, AV.undef, AV.undef, AV.undef, AV.undef, AV.undef, AV.undef, AV.undef, AV.undef, AV.undef, AV.undef, AV.undef, AV.undef, AV.undef, AV.undef, AV.undef, AV.undef, AV.undef, AV.undef, AV.undef, AV.undef, AV.undef, AV.undef, AV.undef, AV.undef, AV.undef, AV.undef, AV.undef, AV.undef, AV.undef, AV.undef, AV.undef, AV.undef, AV.undef, AV.undef, AV.undef, AV.undef, AV.undef, AV.undef, AV.undef, AV.undef, AV.undef, AV.undef, AV.undef, AV.undef, AV.undef, AV.undef, AV.undef, AV.undef, AV.undef, AV.undef, AV.undef, AV.undef, AV.undef, AV.undef, AV.undef, AV.undef, AV.undef, AV.undef, AV.undef, AV.undef, AV.undef, AV.undef, AV.undef, AV.undef, AV.undef, AV.undef, AV.undef, AV.undef, AV.undef, AV.undef, AV.undef, AV.undef, AV.undef, AV.undef, AV.undef, AV.undef, AV.undef, AV.undef, AV.undef, AV.undef, AV.undef, AV.undef, AV.undef, AV.undef, AV.undef, AV.undef, AV.undef, AV.undef, AV.undef, AV.undef, AV.undef, AV.undef, AV.undef, AV.undef, AV.undef, AV.undef, AV.undef, AV.undef, AV.undef, AV.undef, AV.undef, AV.undef, AV.undef, AV.undef, AV.undef, AV.undef, AV.undef, AV.undef, AV.undef, AV.undef, AV.undef, AV.undef, AV.undef, AV.undef, AV.undef, AV.undef, AV.undef] [AO.box [AV.int IntKind.i64 p0, AV.imm 67 p1, AV.imm 3 p2], AO.box [AV.nils 9, AV.nils 86, AV.nils 75, AV.nils 3, AV.nils 73], AO.box [AV.row 3 9, AV.nils 86, AV.nils 75, AV.nils 3, AV.nils 73], AO.row 9 v4]
def b6_6 (p0 : Int) (p1 : List TOp) (p2 : TI) (c6 : (Int) → (List (ByteArray)) → Option R6) (c10 : (Int) → (List (ByteArray)) → (List TLt) → (List TNd) → Option R6) (c17 : (Int) → TI → Int → (Int) → Int → (Int) → Int → (Bool) → TI → TI → TI → (List (ByteArray)) → (List TLt) → (List TNd) → Option R6) (c24 : (Int) → (List (ByteArray)) → (List TLt) → TI → (List TNd) → Option R6) (v0 : Int) (v4 : List (ByteArray)) : Option R6 :=
  cond (decide (v0 < p0))
  ((S18 v0).bind fun r0 =>
  cond (decide ((ByteArray.mk #[120]).size + ByteArray.size r0 ≤ 4611686018427387904))
  (cond (decide ((v4.length + 1) * 16 ≤ 140737488355328))
  (c6 (IntKind.i64.wrap (v0 + 1)) (v4 ++ [ByteArray.mk #[120] ++ r0]))
  (none))
  (none))
  (c10 (0) (v4) ([]) ([]))
def m6_10 (p0 : Int) (p1 : List TOp) (p2 : TI) (v0 : Int) (v4 : List (ByteArray)) (v5 : List TLt) (v6 : List TNd) : S U := S.mk [AV.undef, AV.ptr 0 0, AV.ptr 1 0, AV.undef, AV.undef, AV.undef, AV.undef, AV.ptr 2 0, AV.undef, AV.int IntKind.i64 v0, AV.undef, AV.undef, AV.undef, AV.undef, AV.undef, AV.undef, AV.undef, AV.undef, AV.undef, AV.undef, AV.undef, AV.undef, AV.undef, AV.undef, AV.undef, AV.undef, AV.undef, AV.undef, AV.undef, AV.undef, AV.undef, AV.undef, AV.undef, AV.undef, AV.undef, AV.undef, AV.undef, AV.undef, AV.undef, AV.undef, AV.undef, AV.undef, AV.undef, AV.undef, AV.undef, AV.undef, AV.undef, AV.undef, AV.undef, AV.undef, AV.undef, AV.undef, AV.undef, AV.undef, AV.undef, AV.undef, AV.undef, AV.undef, AV.undef, AV.undef, AV.undef, AV.undef, AV.undef, AV.undef, AV.undef, AV.undef, AV.undef, AV.undef, AV.undef, AV.undef, AV.undef, AV.undef, AV.undef, AV.undef, AV.undef, AV.undef, AV.undef, AV.undef, AV.undef, AV.undef, AV.undef, AV.undef, AV.undef, AV.undef, AV.undef, AV.undef, AV.undef, AV.undef, AV.undef, AV.undef, AV.undef, AV.undef, AV.undef, AV.undef, AV.undef, AV.undef, AV.undef, AV.undef, AV.undef, AV.undef, AV.undef, AV.undef, AV.undef, AV.undef, AV.undef, AV.undef, AV.undef, AV.undef, AV.undef, AV.undef, AV.undef, AV.undef, AV.undef, AV.undef, AV.undef, AV.undef, AV.undef, AV.undef, AV.undef, AV.undef, AV.undef, AV.undef, AV.undef, AV.undef, AV.undef, AV.undef, AV.undef, AV.undef, AV.undef, AV.undef, AV.undef, AV.undef, AV.undef, AV.undef, AV.undef, AV.undef, AV.undef, AV.undef, AV.undef, AV.undef, AV.undef, AV.undef, AV.undef, AV.undef] [AO.box [AV.int IntKind.i64 p0, AV.imm 67 p1, AV.imm 3 p2], AO.box [AV.nils 9, AV.nils 86, AV.nils 75, AV.nils 3, AV.nils 73], AO.box [AV.row 3 9, AV.nils 86, AV.row 4 75, AV.nils 3, AV.row 5 73], AO.row 9 v4, AO.row 75 v5, AO.row 73 v6]
def b6_10 (p0 : Int) (p1 : List TOp) (p2 : TI) (c6 : (Int) → (List (ByteArray)) → Option R6) (c10 : (Int) → (List (ByteArray)) → (List TLt) → (List TNd) → Option R6) (c17 : (Int) → TI → Int → (Int) → Int → (Int) → Int → (Bool) → TI → TI → TI → (List (ByteArray)) → (List TLt) → (List TNd) → Option R6) (c24 : (Int) → (List (ByteArray)) → (List TLt) → TI → (List TNd) → Option R6) (v0 : Int) (v4 : List (ByteArray)) (v5 : List TLt) (v6 : List TNd) : Option R6 :=
  cond (decide (v0 < (↑p1.length : Int)))
  (cond (decide (0 ≤ v0))
  (cond (decide (v0 < (↑p1.length : Int)))
  (cond (decide (v0.toNat < p1.length))
  (cond ((p1.getD v0.toNat (X.dflt 67)).fst == 1)
  (c10 (IntKind.i64.wrap (v0 + 1)) (v4) (v5) (v6))
  (cond ((p1.getD v0.toNat (X.dflt 67)).fst == 2)
  (c10 (IntKind.i64.wrap (v0 + 1)) (v4) (v5) (v6))
  ((S19 (p1.getD v0.toNat (X.dflt 67)).fst (p1.getD v0.toNat (X.dflt 67)).snd.fst (p1.getD v0.toNat (X.dflt 67)).snd.snd.fst (p1.getD v0.toNat (X.dflt 67)).snd.snd.snd.fst (p1.getD v0.toNat (X.dflt 67)).snd.snd.snd.snd.fst (p1.getD v0.toNat (X.dflt 67)).snd.snd.snd.snd.snd.fst (p1.getD v0.toNat (X.dflt 67)).snd.snd.snd.snd.snd.snd).bind fun r0 =>
  c17 (v0) (r0) (0) ((p1.getD v0.toNat (X.dflt 67)).fst) ((p1.getD v0.toNat (X.dflt 67)).snd.fst) ((p1.getD v0.toNat (X.dflt 67)).snd.snd.fst) ((p1.getD v0.toNat (X.dflt 67)).snd.snd.snd.fst) ((p1.getD v0.toNat (X.dflt 67)).snd.snd.snd.snd.fst) ((p1.getD v0.toNat (X.dflt 67)).snd.snd.snd.snd.snd.fst) ((p1.getD v0.toNat (X.dflt 67)).snd.snd.snd.snd.snd.snd) ([]) (v4) (v5) (v6))))
  (none))
  (none))
  (none))
  (c24 (0) (v4) (v5) ([]) (v6))
def m6_17 (p0 : Int) (p1 : List TOp) (p2 : TI) (v0 : Int) (v1 : TI) (v2 v6 v7 v8 v9 : Int) (v10 : Bool) (v11 v12 v13 : TI) (v14 : List (ByteArray)) (v15 : List TLt) (v16 : List TNd) : S U := S.mk [AV.undef, AV.ptr 0 0, AV.ptr 1 0, AV.undef, AV.undef, AV.undef, AV.undef, AV.ptr 2 0, AV.undef, AV.int IntKind.i64 v0, AV.ptr 3 0, AV.imm 3 v1, AV.row 4 3, AV.int IntKind.i64 v2, AV.undef, AV.undef, AV.undef, AV.undef, AV.undef, AV.undef, AV.undef, AV.undef, AV.undef, AV.undef, AV.undef, AV.undef, AV.undef, AV.undef, AV.undef, AV.undef, AV.undef, AV.undef, AV.undef, AV.undef, AV.undef, AV.undef, AV.undef, AV.undef, AV.undef, AV.undef, AV.undef, AV.undef, AV.undef, AV.undef, AV.undef, AV.undef, AV.undef, AV.undef, AV.undef, AV.undef, AV.undef, AV.undef, AV.undef, AV.undef, AV.undef, AV.undef, AV.undef, AV.undef, AV.undef, AV.undef, AV.undef, AV.undef, AV.undef, AV.undef, AV.undef, AV.undef, AV.undef, AV.undef, AV.undef, AV.undef, AV.undef, AV.undef, AV.undef, AV.undef, AV.undef, AV.undef, AV.undef, AV.undef, AV.undef, AV.undef, AV.undef, AV.undef, AV.undef, AV.undef, AV.undef, AV.undef, AV.undef, AV.undef, AV.undef, AV.undef, AV.undef, AV.undef, AV.undef, AV.undef, AV.undef, AV.undef, AV.undef, AV.undef, AV.undef, AV.undef, AV.undef, AV.undef, AV.undef, AV.undef, AV.undef, AV.undef, AV.undef, AV.undef, AV.undef, AV.undef, AV.undef, AV.undef, AV.undef, AV.undef, AV.undef, AV.undef, AV.undef, AV.undef, AV.undef, AV.undef, AV.undef, AV.undef, AV.undef, AV.undef, AV.undef, AV.undef, AV.undef, AV.undef, AV.undef, AV.undef, AV.undef, AV.undef, AV.undef, AV.undef, AV.undef, AV.undef, AV.undef, AV.undef, AV.undef, AV.undef, AV.undef, AV.undef, AV.undef, AV.undef] [AO.box [AV.int IntKind.i64 p0, AV.imm 67 p1, AV.imm 3 p2], AO.box [AV.nils 9, AV.nils 86, AV.nils 75, AV.nils 3, AV.nils 73], AO.box [AV.row 5 9, AV.nils 86, AV.row 6 75, AV.nils 3, AV.row 7 73], AO.box [AV.int IntKind.i64 v6, AV.int IntKind.i64 v7, AV.int IntKind.i64 v8, AV.int IntKind.i64 v9, AV.bool v10, AV.imm 99 v11, AV.imm 99 v12], AO.row 3 v13, AO.row 9 v14, AO.row 75 v15, AO.row 73 v16]
def b6_17 (p0 : Int) (p1 : List TOp) (p2 : TI) (c6 : (Int) → (List (ByteArray)) → Option R6) (c10 : (Int) → (List (ByteArray)) → (List TLt) → (List TNd) → Option R6) (c17 : (Int) → TI → Int → (Int) → Int → (Int) → Int → (Bool) → TI → TI → TI → (List (ByteArray)) → (List TLt) → (List TNd) → Option R6) (c24 : (Int) → (List (ByteArray)) → (List TLt) → TI → (List TNd) → Option R6) (v0 : Int) (v1 : TI) (v2 v6 v7 v8 v9 : Int) (v10 : Bool) (v11 v12 v13 : TI) (v14 : List (ByteArray)) (v15 : List TLt) (v16 : List TNd) : Option R6 :=
  cond (decide (v2 < (↑v1.length : Int)))
  (cond (decide (0 ≤ v2))
  (cond (decide (v2 < (↑v1.length : Int)))
  (cond (decide (v2.toNat < v1.length))
  ((S20 p0 p1 p2 (v1.getD v2.toNat (X.dflt 3))).bind fun r0 =>
  cond (decide ((v16.length + 1) * 112 ≤ 140737488355328))
  (cond (decide ((v13.length + 1) * 8 ≤ 140737488355328))
  (c17 (v0) (v1) (IntKind.i64.wrap (v2 + 1)) (v6) (v7) (v8) (v9) (v10) (v11) (v12) (v13 ++ [IntKind.i64.wrap ((↑(v16 ++ [(r0.fst, r0.snd.fst, r0.snd.snd.fst, r0.snd.snd.snd.fst, r0.snd.snd.snd.snd.fst, r0.snd.snd.snd.snd.snd.fst, r0.snd.snd.snd.snd.snd.snd)]).length : Int) - 1)]) (v14) (v15) (v16 ++ [(r0.fst, r0.snd.fst, r0.snd.snd.fst, r0.snd.snd.snd.fst, r0.snd.snd.snd.snd.fst, r0.snd.snd.snd.snd.snd.fst, r0.snd.snd.snd.snd.snd.snd)]))
  (none))
  (none))
  (none))
  (none))
  (none))
  ((S21 v6).bind fun r1 =>
  cond (decide ((v16.length + 1) * 112 ≤ 140737488355328))
  ((S18 v0).bind fun r2 =>
  cond (decide ((ByteArray.mk #[110]).size + ByteArray.size r2 ≤ 4611686018427387904))
  (cond (decide ((v15.length + 1) * 24 ≤ 140737488355328))
  (c10 (IntKind.i64.wrap (v0 + 1)) (v14) (v15 ++ [(ByteArray.mk #[110] ++ r2, IntKind.i64.wrap ((↑(v16 ++ [(r1, ByteArray.mk #[], false, [], [], v9, v13)]).length : Int) - 1))]) (v16 ++ [(r1, ByteArray.mk #[], false, [], [], v9, v13)]))
  (none))
  (none))
  (none))
def m6_24 (p0 : Int) (p1 : List TOp) (p2 : TI) (v0 : Int) (v4 : List (ByteArray)) (v5 : List TLt) (v6 : TI) (v7 : List TNd) : S U := S.mk [AV.undef, AV.ptr 0 0, AV.ptr 1 0, AV.undef, AV.undef, AV.undef, AV.undef, AV.ptr 2 0, AV.undef, AV.undef, AV.undef, AV.undef, AV.undef, AV.undef, AV.int IntKind.i64 v0, AV.undef, AV.undef, AV.undef, AV.undef, AV.undef, AV.undef, AV.undef, AV.undef, AV.undef, AV.undef, AV.undef, AV.undef, AV.undef, AV.undef, AV.undef, AV.undef, AV.undef, AV.undef, AV.undef, AV.undef, AV.undef, AV.undef, AV.undef, AV.undef, AV.undef, AV.undef, AV.undef, AV.undef, AV.undef, AV.undef, AV.undef, AV.undef, AV.undef, AV.undef, AV.undef, AV.undef, AV.undef, AV.undef, AV.undef, AV.undef, AV.undef, AV.undef, AV.undef, AV.undef, AV.undef, AV.undef, AV.undef, AV.undef, AV.undef, AV.undef, AV.undef, AV.undef, AV.undef, AV.undef, AV.undef, AV.undef, AV.undef, AV.undef, AV.undef, AV.undef, AV.undef, AV.undef, AV.undef, AV.undef, AV.undef, AV.undef, AV.undef, AV.undef, AV.undef, AV.undef, AV.undef, AV.undef, AV.undef, AV.undef, AV.undef, AV.undef, AV.undef, AV.undef, AV.undef, AV.undef, AV.undef, AV.undef, AV.undef, AV.undef, AV.undef, AV.undef, AV.undef, AV.undef, AV.undef, AV.undef, AV.undef, AV.undef, AV.undef, AV.undef, AV.undef, AV.undef, AV.undef, AV.undef, AV.undef, AV.undef, AV.undef, AV.undef, AV.undef, AV.undef, AV.undef, AV.undef, AV.undef, AV.undef, AV.undef, AV.undef, AV.undef, AV.undef, AV.undef, AV.undef, AV.undef, AV.undef, AV.undef, AV.undef, AV.undef, AV.undef, AV.undef, AV.undef, AV.undef, AV.undef, AV.undef, AV.undef, AV.undef, AV.undef, AV.undef] [AO.box [AV.int IntKind.i64 p0, AV.imm 67 p1, AV.imm 3 p2], AO.box [AV.nils 9, AV.nils 86, AV.nils 75, AV.nils 3, AV.nils 73], AO.box [AV.row 3 9, AV.nils 86, AV.row 4 75, AV.row 5 3, AV.row 6 73], AO.row 9 v4, AO.row 75 v5, AO.row 3 v6, AO.row 73 v7]
def b6_24 (p0 : Int) (p1 : List TOp) (p2 : TI) (c6 : (Int) → (List (ByteArray)) → Option R6) (c10 : (Int) → (List (ByteArray)) → (List TLt) → (List TNd) → Option R6) (c17 : (Int) → TI → Int → (Int) → Int → (Int) → Int → (Bool) → TI → TI → TI → (List (ByteArray)) → (List TLt) → (List TNd) → Option R6) (c24 : (Int) → (List (ByteArray)) → (List TLt) → TI → (List TNd) → Option R6) (v0 : Int) (v4 : List (ByteArray)) (v5 : List TLt) (v6 : TI) (v7 : List TNd) : Option R6 :=
  cond (decide (v0 < (↑p2.length : Int)))
  (cond (decide (0 ≤ v0))
  (cond (decide (v0 < (↑p2.length : Int)))
  (cond (decide (v0.toNat < p2.length))
  ((S20 p0 p1 p2 (p2.getD v0.toNat (X.dflt 3))).bind fun r0 =>
  cond (decide ((v7.length + 1) * 112 ≤ 140737488355328))
  (cond (decide ((v6.length + 1) * 8 ≤ 140737488355328))
  (c24 (IntKind.i64.wrap (v0 + 1)) (v4) (v5) (v6 ++ [IntKind.i64.wrap ((↑(v7 ++ [(r0.fst, r0.snd.fst, r0.snd.snd.fst, r0.snd.snd.snd.fst, r0.snd.snd.snd.snd.fst, r0.snd.snd.snd.snd.snd.fst, r0.snd.snd.snd.snd.snd.snd)]).length : Int) - 1)]) (v7 ++ [(r0.fst, r0.snd.fst, r0.snd.snd.fst, r0.snd.snd.snd.fst, r0.snd.snd.snd.snd.fst, r0.snd.snd.snd.snd.snd.fst, r0.snd.snd.snd.snd.snd.snd)]))
  (none))
  (none))
  (none))
  (none))
  (none))
  (cond (decide ((↑v7.length : Int) > 4096))
  (some (([], [], [], [], [], 0, 86)))
  (some ((v4, [], v5, v6, v7, 0, 0))))
theorem hk6 : ∀ v h' r, k6 v h' = some r → v = out6 r ∧ h' = outh6 r := by
  intro v h' r h
  unfold k6 at h
  split at h
  · injection h with h; subst h; exact ⟨rfl, rfl⟩
  · cases h
abbrev q6 : Prim U R6 := prims X [⟨17, fun _ => true, [.lend], F17 S17⟩, ⟨18, fun _ => true, [.lend], F18 S18⟩, ⟨19, fun _ => true, [.lend], F19 S19⟩, ⟨20, fun _ => true, [.lend, .lend], F20 S20⟩, ⟨21, fun _ => true, [.lend], F21 S21⟩]
theorem s6 (c : Nat → S U → Option R6) (p0 : Int) (p1 : List TOp) (p2 : TI) : seg TP X q6 [6, 10, 17, 24] (fun q st => c q (keepD D6 (h6 p0 p1 p2).length q st)) body6 (finH TP Tryd.f6.results.toList (h6 p0 p1 p2).length false k6) (start [.agg [.int .i64 p0, .imm 67 p1, .imm 3 p2]] Tryd.f6.ntmps (h6 p0 p1 p2)) = b6 p0 p1 p2 (fun v0 v4 => c 6 (m6_6 p0 p1 p2 v0 v4)) (fun v0 v4 v5 v6 => c 10 (m6_10 p0 p1 p2 v0 v4 v5 v6)) (fun v0 v1 v2 v6 v7 v8 v9 v10 v11 v12 v13 v14 v15 v16 => c 17 (m6_17 p0 p1 p2 v0 v1 v2 v6 v7 v8 v9 v10 v11 v12 v13 v14 v15 v16)) (fun v0 v4 v5 v6 v7 => c 24 (m6_24 p0 p1 p2 v0 v4 v5 v6 v7)) := by kernel_rfl
theorem s6_6 (c : Nat → S U → Option R6) (p0 : Int) (p1 : List TOp) (p2 : TI) (v0 : Int) (v4 : List (ByteArray)) : res TP X q6 [6, 10, 17, 24] (fun q st => c q (keepD D6 (h6 p0 p1 p2).length q st)) 6 body6 (finH TP Tryd.f6.results.toList (h6 p0 p1 p2).length false k6) (m6_6 p0 p1 p2 v0 v4) = b6_6 p0 p1 p2 (fun v0 v4 => c 6 (m6_6 p0 p1 p2 v0 v4)) (fun v0 v4 v5 v6 => c 10 (m6_10 p0 p1 p2 v0 v4 v5 v6)) (fun v0 v1 v2 v6 v7 v8 v9 v10 v11 v12 v13 v14 v15 v16 => c 17 (m6_17 p0 p1 p2 v0 v1 v2 v6 v7 v8 v9 v10 v11 v12 v13 v14 v15 v16)) (fun v0 v4 v5 v6 v7 => c 24 (m6_24 p0 p1 p2 v0 v4 v5 v6 v7)) v0 v4 := by kernel_rfl
theorem s6_10 (c : Nat → S U → Option R6) (p0 : Int) (p1 : List TOp) (p2 : TI) (v0 : Int) (v4 : List (ByteArray)) (v5 : List TLt) (v6 : List TNd) : res TP X q6 [6, 10, 17, 24] (fun q st => c q (keepD D6 (h6 p0 p1 p2).length q st)) 10 body6 (finH TP Tryd.f6.results.toList (h6 p0 p1 p2).length false k6) (m6_10 p0 p1 p2 v0 v4 v5 v6) = b6_10 p0 p1 p2 (fun v0 v4 => c 6 (m6_6 p0 p1 p2 v0 v4)) (fun v0 v4 v5 v6 => c 10 (m6_10 p0 p1 p2 v0 v4 v5 v6)) (fun v0 v1 v2 v6 v7 v8 v9 v10 v11 v12 v13 v14 v15 v16 => c 17 (m6_17 p0 p1 p2 v0 v1 v2 v6 v7 v8 v9 v10 v11 v12 v13 v14 v15 v16)) (fun v0 v4 v5 v6 v7 => c 24 (m6_24 p0 p1 p2 v0 v4 v5 v6 v7)) v0 v4 v5 v6 := by kernel_rfl
theorem s6_17 (c : Nat → S U → Option R6) (p0 : Int) (p1 : List TOp) (p2 : TI) (v0 : Int) (v1 : TI) (v2 v6 v7 v8 v9 : Int) (v10 : Bool) (v11 v12 v13 : TI) (v14 : List (ByteArray)) (v15 : List TLt) (v16 : List TNd) : res TP X q6 [6, 10, 17, 24] (fun q st => c q (keepD D6 (h6 p0 p1 p2).length q st)) 17 body6 (finH TP Tryd.f6.results.toList (h6 p0 p1 p2).length false k6) (m6_17 p0 p1 p2 v0 v1 v2 v6 v7 v8 v9 v10 v11 v12 v13 v14 v15 v16) = b6_17 p0 p1 p2 (fun v0 v4 => c 6 (m6_6 p0 p1 p2 v0 v4)) (fun v0 v4 v5 v6 => c 10 (m6_10 p0 p1 p2 v0 v4 v5 v6)) (fun v0 v1 v2 v6 v7 v8 v9 v10 v11 v12 v13 v14 v15 v16 => c 17 (m6_17 p0 p1 p2 v0 v1 v2 v6 v7 v8 v9 v10 v11 v12 v13 v14 v15 v16)) (fun v0 v4 v5 v6 v7 => c 24 (m6_24 p0 p1 p2 v0 v4 v5 v6 v7)) v0 v1 v2 v6 v7 v8 v9 v10 v11 v12 v13 v14 v15 v16 := by kernel_rfl
theorem s6_24 (c : Nat → S U → Option R6) (p0 : Int) (p1 : List TOp) (p2 : TI) (v0 : Int) (v4 : List (ByteArray)) (v5 : List TLt) (v6 : TI) (v7 : List TNd) : res TP X q6 [6, 10, 17, 24] (fun q st => c q (keepD D6 (h6 p0 p1 p2).length q st)) 24 body6 (finH TP Tryd.f6.results.toList (h6 p0 p1 p2).length false k6) (m6_24 p0 p1 p2 v0 v4 v5 v6 v7) = b6_24 p0 p1 p2 (fun v0 v4 => c 6 (m6_6 p0 p1 p2 v0 v4)) (fun v0 v4 v5 v6 => c 10 (m6_10 p0 p1 p2 v0 v4 v5 v6)) (fun v0 v1 v2 v6 v7 v8 v9 v10 v11 v12 v13 v14 v15 v16 => c 17 (m6_17 p0 p1 p2 v0 v1 v2 v6 v7 v8 v9 v10 v11 v12 v13 v14 v15 v16)) (fun v0 v4 v5 v6 v7 => c 24 (m6_24 p0 p1 p2 v0 v4 v5 v6 v7)) v0 v4 v5 v6 v7 := by kernel_rfl
mutual
def f6_6 (p0 : Int) (p1 : List TOp) (p2 : TI) : Nat → Int → (List (ByteArray)) → Option R6
  | 0 => fun _ _ => none
  | k + 1 => b6_6 p0 p1 p2 (f6_6 p0 p1 p2 k) (f6_10 p0 p1 p2 k) (f6_17 p0 p1 p2 k) (f6_24 p0 p1 p2 k)
def f6_10 (p0 : Int) (p1 : List TOp) (p2 : TI) : Nat → Int → (List (ByteArray)) → (List TLt) → (List TNd) → Option R6
  | 0 => fun _ _ _ _ => none
  | k + 1 => b6_10 p0 p1 p2 (f6_6 p0 p1 p2 k) (f6_10 p0 p1 p2 k) (f6_17 p0 p1 p2 k) (f6_24 p0 p1 p2 k)
def f6_17 (p0 : Int) (p1 : List TOp) (p2 : TI) : Nat → Int → TI → Int → (Int) → Int → (Int) → Int → (Bool) → TI → TI → TI → (List (ByteArray)) → (List TLt) → (List TNd) → Option R6
  | 0 => fun _ _ _ _ _ _ _ _ _ _ _ _ _ _ => none
  | k + 1 => b6_17 p0 p1 p2 (f6_6 p0 p1 p2 k) (f6_10 p0 p1 p2 k) (f6_17 p0 p1 p2 k) (f6_24 p0 p1 p2 k)
def f6_24 (p0 : Int) (p1 : List TOp) (p2 : TI) : Nat → Int → (List (ByteArray)) → (List TLt) → TI → (List TNd) → Option R6
  | 0 => fun _ _ _ _ _ => none
  | k + 1 => b6_24 p0 p1 p2 (f6_6 p0 p1 p2 k) (f6_10 p0 p1 p2 k) (f6_17 p0 p1 p2 k) (f6_24 p0 p1 p2 k)
end
def f6 (k : Nat) (p0 : Int) (p1 : List TOp) (p2 : TI) : Option R6 := b6 p0 p1 p2 (f6_6 p0 p1 p2 k) (f6_10 p0 p1 p2 k) (f6_17 p0 p1 p2 k) (f6_24 p0 p1 p2 k)
theorem e6 (p0 : Int) (p1 : List TOp) (p2 : TI) : ∀ k, ((fun v0 v4 => cutG TP X q6 [6, 10, 17, 24] D6 (h6 p0 p1 p2).length body6 (finH TP Tryd.f6.results.toList (h6 p0 p1 p2).length false k6) k 6 (m6_6 p0 p1 p2 v0 v4)) = f6_6 p0 p1 p2 k) ∧ ((fun v0 v4 v5 v6 => cutG TP X q6 [6, 10, 17, 24] D6 (h6 p0 p1 p2).length body6 (finH TP Tryd.f6.results.toList (h6 p0 p1 p2).length false k6) k 10 (m6_10 p0 p1 p2 v0 v4 v5 v6)) = f6_10 p0 p1 p2 k) ∧ ((fun v0 v1 v2 v6 v7 v8 v9 v10 v11 v12 v13 v14 v15 v16 => cutG TP X q6 [6, 10, 17, 24] D6 (h6 p0 p1 p2).length body6 (finH TP Tryd.f6.results.toList (h6 p0 p1 p2).length false k6) k 17 (m6_17 p0 p1 p2 v0 v1 v2 v6 v7 v8 v9 v10 v11 v12 v13 v14 v15 v16)) = f6_17 p0 p1 p2 k) ∧ ((fun v0 v4 v5 v6 v7 => cutG TP X q6 [6, 10, 17, 24] D6 (h6 p0 p1 p2).length body6 (finH TP Tryd.f6.results.toList (h6 p0 p1 p2).length false k6) k 24 (m6_24 p0 p1 p2 v0 v4 v5 v6 v7)) = f6_24 p0 p1 p2 k)
  | 0 => ⟨rfl, rfl, rfl, rfl⟩
  | k + 1 => by
    have ih := e6 p0 p1 p2 k
    refine ⟨?_, ?_, ?_, ?_⟩
    · funext v0 v4
      refine (if_pos (by kernel_rfl)).trans ?_
      rw [s6_6]
      simp only [ih]
      rfl
    · funext v0 v4 v5 v6
      refine (if_pos (by kernel_rfl)).trans ?_
      rw [s6_10]
      simp only [ih]
      rfl
    · funext v0 v1 v2 v6 v7 v8 v9 v10 v11 v12 v13 v14 v15 v16
      refine (if_pos (by kernel_rfl)).trans ?_
      rw [s6_17]
      simp only [ih]
      rfl
    · funext v0 v4 v5 v6 v7
      refine (if_pos (by kernel_rfl)).trans ?_
      rw [s6_24]
      simp only [ih]
      rfl
theorem pure6 (p0 : Int) (p1 : List TOp) (p2 : TI) (pok : PrmOK TP X q6) (k : Nat) (r : R6) (h : f6 k p0 p1 p2 = some r) : PureH TP X 6 [.agg [.int .i64 p0, .imm 67 p1, .imm 3 p2]] (h6 p0 p1 p2) (out6 r) (outh6 r) :=
  pure_gen good k (fn := Tryd.f6) (body := body6) (prim := q6) (D := D6) (cuts := [6, 10, 17, 24]) (h := h6 p0 p1 p2) (own := false) (by kernel_rfl) (by kernel_rfl) (by decide +kernel) pok hk6 (by
    rw [s6]
    have ih := e6 p0 p1 p2 k
    simp only [ih]
    exact h)
def F6 {R : Type} (spec : (Int) → (List TOp) → TI → Option R6) : Fn U R := fun args h k => match args, h with | [.agg [.int .i64 p0, .imm 67 p1, .imm 3 p2]], [] => (spec p0 p1 p2).bind fun r => k (out6 r) (outh6 r) | _, _ => none
theorem ok6 {R : Type} (spec : (Int) → (List TOp) → TI → Option R6) (hp : ∀ (p0 : Int) (p1 : List TOp) (p2 : TI) (r : R6), spec p0 p1 p2 = some r → PureH TP X 6 [.agg [.int .i64 p0, .imm 67 p1, .imm 3 p2]] (h6 p0 p1 p2) (out6 r) (outh6 r)) : FnOK TP X 6 (F6 spec : Fn U R) := by
  intro args h k r hh
  unfold F6 at hh
  split at hh
  · obtain ⟨x, h1, h2⟩ := Option.bind_eq_some_iff.1 hh
    exact ⟨_, _, h2, hp _ _ _ _ h1⟩
  · cases hh
theorem pok6 : PrmOK TP X q6 := prims_cons good okS17 (prims_cons good okS18 (prims_cons good okS19 (prims_cons good okS20 (prims_cons good okS21 (prims_nil TP X mixed)))))
noncomputable def S6 (p0 : Int) (p1 : List TOp) (p2 : TI) : Option R6 := evv fun k => f6 k p0 p1 p2
theorem okS6 {R : Type} : FnOK TP X 6 (F6 S6 : Fn U R) := ok6 S6 fun p0 p1 p2 r h => by
  obtain ⟨k, hk⟩ := evv_fuel h
  exact pure6 p0 p1 p2 pok6 k r hk
end
end Go.Abs.Z
namespace Go.Abs.Z
open Go Go.Abs Limb Num
def kidsFrom : Nat → Nat → List Int
  | _, 0 => []
  | s, m + 1 => (s : Int) :: kidsFrom (s + 1) m
def insL (n : Nat) : List ByteArray := (List.range n).map fun (i : Nat) => xT (i : Int)
theorem insL_succ (n : Nat) : insL (n + 1) = insL n ++ [xT (n : Int)] := by
  unfold insL
  rw [List.range_succ, List.map_append]; rfl
theorem insL_len (n : Nat) : (insL n).length = n := by simp [insL]
def argsOf (o : OpT) : List Int := if two o.1 = true then [o.2.1, o.2.2.1] else [o.2.1]
def opAt (ops : List OpT) (i : Nat) : OpT := ops.getD i (0, 0, 0, 0, false, [], [])
def opS (ops : List OpT) (st : List LetT × List NodeT) (i : Nat) : List LetT × List NodeT :=
  let o := opAt ops i
  if o.1 = 1 ∨ o.1 = 2 then st else
  let n2 := st.2 ++ (argsOf o).map (wordN ops)
  (st.1 ++ [(nT (i : Int), (n2.length : Int))], n2 ++ [(kindN o.1, ByteArray.mk #[], false, [], [], o.2.2.2.1, kidsFrom st.2.length (argsOf o).length)])
def opsS (ops : List OpT) : Nat → Nat → List LetT × List NodeT → List LetT × List NodeT
  | _, 0, st => st
  | i, m + 1, st => opsS ops (i + 1) m (opS ops st i)
def outsS (ops : List OpT) : List Int → List Int × List NodeT → List Int × List NodeT
  | [], st => st
  | o :: l, st => outsS ops l (st.1 ++ [(st.2.length : Int)], st.2 ++ [wordN ops o])
abbrev TellT : Type := (List (ByteArray)) × (List ((ByteArray) × (List (ByteArray)) × Int)) × (List ((ByteArray) × Int)) × (List (Int)) × (List NodeT) × (Int) × (Int)
def finS (ops : List OpT) (outs : List Int) (ins : List ByteArray) (s : List LetT × List NodeT) : TellT :=
  let t := outsS ops outs ([], s.2)
  if 4096 < t.2.length then ([], [], [], [], [], 0, 86) else (ins, [], s.1, t.1, t.2, 0, 0)
def tellS (inputs : Int) (ops : List OpT) (outs : List Int) : TellT :=
  let e := tapeE inputs ops outs
  if e.2 ≠ 0 then ([], [], [], [], [], e.1, e.2) else
  finS ops outs (insL inputs.toNat) (opsS ops 0 ops.length ([], []))
structure Fine (inputs : Int) (ops : List OpT) (outs : List Int) : Prop where
  sane : Sane ops
  i0 : 0 ≤ inputs
  i1 : inputs ≤ 64
  o1 : outs.length ≤ 64
  kind : ∀ i, i < ops.length → 1 ≤ (opAt ops i).1 ∧ (opAt ops i).1 ≤ 8
  a : ∀ i, i < ops.length → (opAt ops i).1 ≠ 1 → (opAt ops i).1 ≠ 2 → 0 ≤ (opAt ops i).2.1 ∧ (opAt ops i).2.1 < i
  b : ∀ i, i < ops.length → two (opAt ops i).1 = true → 0 ≤ (opAt ops i).2.2.1 ∧ (opAt ops i).2.2.1 < i
  out : ∀ o ∈ outs, 0 ≤ o ∧ o < ops.length
theorem opAt_eq {ops : List OpT} {i : Nat} (h : i < ops.length) : opAt ops i = ops[i] := by
  unfold opAt
  rw [List.getD_eq_getElem?_getD, List.getElem?_eq_getElem h]; rfl
theorem opsE_none {inputs : Int} : ∀ {ops : List OpT} {i : Int}, opsE inputs ops i = none → ∀ j (h : j < ops.length), opE inputs ops[j] (i + j) = 0
  | [], _, _, j, h => by simp at h
  | o :: l, i, hn, j, h => by
    unfold opsE at hn
    split at hn
    · rename_i h0
      cases j with
      | zero => simpa using h0
      | succ j =>
        have := opsE_none hn j (by simpa using h)
        have e : i + 1 + (j : Int) = i + ((j + 1 : Nat) : Int) := by omega
        rw [e] at this; exact this
    · cases hn
theorem outsE_none {n : Int} : ∀ {outs : List Int} {i : Int}, outsE n outs i = none → ∀ o ∈ outs, 0 ≤ o ∧ o < n
  | [], _, _, o, h => by simp at h
  | x :: l, i, hn, o, h => by
    unfold outsE at hn
    split at hn
    · cases hn
    · rcases List.mem_cons.1 h with rfl | h
      · omega
      · exact outsE_none hn o h
theorem opsE_nz {inputs : Int} : ∀ {ops : List OpT} {i : Int} {r : Int × Int}, opsE inputs ops i = some r → r.2 ≠ 0
  | [], _, _, h => by cases h
  | o :: l, i, r, h => by
    unfold opsE at h
    split at h
    · exact opsE_nz h
    · rename_i h0; injection h with h; subst h; exact h0
theorem outsE_nz {n : Int} : ∀ {outs : List Int} {i : Int} {r : Int × Int}, outsE n outs i = some r → r.2 ≠ 0
  | [], _, _, h => by cases h
  | o :: l, i, r, h => by
    unfold outsE at h
    split at h
    · injection h with h; subst h; show (108 : Int) ≠ 0; decide
    · exact outsE_nz h
theorem fine_of {inputs : Int} {ops : List OpT} {outs : List Int} (hok : ∀ o ∈ ops, OkOp o) (h : (tapeE inputs ops outs).2 = 0) : Fine inputs ops outs ∧ tapeE inputs ops outs = (0, 0) := by
  unfold tapeE at h ⊢
  split at h
  · cases h
  rename_i h0
  rw [if_neg h0]
  split at h
  · cases h
  rename_i h1
  rw [if_neg h1]
  split at h
  · cases h
  rename_i h2
  rw [if_neg h2]
  split at h
  · rename_i r hr; exact absurd h (opsE_nz hr)
  rename_i hn
  split at h
  · rename_i r hr; exact absurd h (outsE_nz hr)
  rename_i hm
  simp only [hn, hm, and_true]
  have key : ∀ i, i < ops.length → opE inputs (opAt ops i) i = 0 := fun i hi => by
    rw [opAt_eq hi]
    have := opsE_none hn i hi
    rwa [Int.zero_add] at this
  have kd : ∀ i, i < ops.length → 1 ≤ (opAt ops i).1 ∧ (opAt ops i).1 ≤ 8 := fun i hi => by
    have := key i hi
    unfold opE nodeE at this
    split at this
    · cases this
    · omega
  have ax : ∀ i, i < ops.length → (opAt ops i).1 ≠ 1 → (opAt ops i).1 ≠ 2 → (0 ≤ (opAt ops i).2.1 ∧ (opAt ops i).2.1 < i) ∧ (two (opAt ops i).1 = true → 0 ≤ (opAt ops i).2.2.1 ∧ (opAt ops i).2.2.1 < i) := fun i hi n1 n2 => by
    have := key i hi
    unfold opE nodeE at this
    rw [if_neg n1, if_neg n2] at this
    split at this
    · cases this
    split at this
    · cases this
    split at this
    · cases this
    rename_i q
    split at this
    · cases this
    rename_i q2
    refine ⟨by omega, fun ht => ?_⟩
    rw [ht] at q2
    simp only [true_and] at q2
    omega
  refine ⟨⟨by omega, fun o ho h1 => ?_, hok⟩, by omega, by omega, by omega, kd, fun i hi n1 n2 => (ax i hi n1 n2).1, fun i hi ht => (ax i hi (fun e => by rw [e] at ht; cases ht) (fun e => by rw [e] at ht; cases ht)).2 ht, fun o ho => outsE_none hm o ho⟩
  obtain ⟨i, hi, rfl⟩ := List.mem_iff_getElem.1 ho
  have := key i hi
  rw [opAt_eq hi] at this
  unfold opE nodeE at this
  split at this
  · cases this
  split at this
  · cases this
  try rw [if_pos h1] at this
  split at this
  · cases this
  · omega
section
variable {inputs : Int} {ops : List OpT} {outs : List Int}
theorem args_ok (F : Fine inputs ops outs) {i : Nat} (hi : i < ops.length) (n1 : (opAt ops i).1 ≠ 1) (n2 : (opAt ops i).1 ≠ 2) : ∀ x ∈ argsOf (opAt ops i), 0 ≤ x ∧ x < ops.length := by
  intro x hx
  have ha := F.a i hi n1 n2
  unfold argsOf at hx
  split at hx
  · rename_i ht
    have hb := F.b i hi ht
    simp only [List.mem_cons, List.not_mem_nil, or_false] at hx
    rcases hx with rfl | rfl <;> omega
  · simp only [List.mem_cons, List.not_mem_nil, or_false] at hx
    subst hx; omega
theorem last_at (nodes : List NodeT) (w : NodeT) (h : nodes.length ≤ 1000000) : IntKind.i64.wrap (((nodes ++ [w]).length : Int) - 1) = (nodes.length : Int) := by
  rw [List.length_append]
  simp only [List.length_cons, List.length_nil]
  rw [wi64] <;> omega
theorem nT_size {i : Nat} (h : i ≤ 1000000) : (ByteArray.mk #[110]).size + ByteArray.size (decT (i : Int)) ≤ 4611686018427387904 := by
  have := decT_size (n := (i : Int)) (by omega)
  show 1 + _ ≤ _
  omega
theorem loop6_17 (F : Fine inputs ops outs) {i : Nat} (hi : i < ops.length) {args : List Int} (hargs : ∀ x ∈ args, 0 ≤ x ∧ x < ops.length) {k a b n : Int} {neg : Bool} {x y : List Int} {ins : List ByteArray} {lets : List LetT} (hl2 : lets.length ≤ 100000) (hal : args.length ≤ 1000) {r : R6} :
    ∀ (m j : Nat) (kids : List Int) (nodes : List NodeT), j + m = args.length → nodes.length + m ≤ 100000 → kids.length + m ≤ 100000 →
      Evt (fun f => f6_10 inputs ops outs f ((i + 1 : Nat) : Int) ins (lets ++ [(nT (i : Int), ((nodes ++ (args.drop j).map (wordN ops)).length : Int))]) (nodes ++ (args.drop j).map (wordN ops) ++ [(kindN k, ByteArray.mk #[], false, [], [], n, kids ++ kidsFrom nodes.length m)])) r →
      Evt (fun f => f6_17 inputs ops outs f (i : Int) args (j : Int) k a b n neg x y kids ins lets nodes) r
  | 0, j, kids, nodes, hj, hn, hk, hK => by
    have e1 : IntKind.i64.wrap ((i : Int) + 1) = ((i + 1 : Nat) : Int) := by have := F.sane.len; rw [wi64] <;> omega
    have hil := F.sane.len
    rw [List.drop_eq_nil_of_le (by omega), List.map_nil, List.append_nil] at hK
    simp only [kidsFrom, List.append_nil] at hK
    refine hK.step fun f => ?_
    show b6_17 inputs ops outs (f6_6 inputs ops outs f) (f6_10 inputs ops outs f) (f6_17 inputs ops outs f) (f6_24 inputs ops outs f) (i : Int) args (j : Int) k a b n neg x y kids ins lets nodes = _
    unfold b6_17
    rw [cF (by omega), run21]
    simp only [Option.bind_some]
    rw [cT (by omega), run18 (by omega) (by omega)]
    simp only [Option.bind_some]
    rw [cT (nT_size (by omega)), cT (by omega), e1, last_at _ _ (by omega)]
    rfl
  | m + 1, j, kids, nodes, hj, hn, hk, hK => by
    have hlt : j < args.length := by omega
    have e1 : IntKind.i64.wrap ((j : Int) + 1) = ((j + 1 : Nat) : Int) := by rw [wi64] <;> omega
    have eg : args.getD j 0 = args[j] := by rw [List.getD_eq_getElem?_getD, List.getElem?_eq_getElem hlt]; rfl
    obtain ⟨a0, a1⟩ := hargs args[j] (List.getElem_mem hlt)
    rw [List.drop_eq_getElem_cons hlt, List.map_cons] at hK
    refine (loop6_17 (k := k) (a := a) (b := b) (n := n) (neg := neg) (x := x) (y := y) (ins := ins) F hi hargs hl2 hal m (j + 1) (kids ++ [(nodes.length : Int)]) (nodes ++ [wordN ops args[j]]) (by omega) (by simp; omega) (by simp; omega) ?_).step fun f => ?_
    · simp only [List.append_assoc, List.singleton_append, List.length_append, List.length_cons, List.length_nil, kidsFrom] at hK ⊢
      exact hK
    · show b6_17 inputs ops outs (f6_6 inputs ops outs f) (f6_10 inputs ops outs f) (f6_17 inputs ops outs f) (f6_24 inputs ops outs f) (i : Int) args (j : Int) k a b n neg x y kids ins lets nodes = _
      unfold b6_17
      simp only [Int.toNat_natCast, dflt3]
      rw [eg, run20 F.sane a0 a1]
      simp only [Option.bind_some]
      rw [e1, last_at _ _ (by omega)]
      simp (disch := omega) only [cT]
theorem opsS_lets (ops : List OpT) : ∀ (m i : Nat) (st : List LetT × List NodeT), (opsS ops i m st).1.length ≤ st.1.length + m ∧ (opsS ops i m st).2.length ≤ st.2.length + 3 * m
  | 0, i, st => ⟨Nat.le_refl _, Nat.le_refl _⟩
  | m + 1, i, st => by
    have h := opsS_lets ops m (i + 1) (opS ops st i)
    have h2 : (opS ops st i).1.length ≤ st.1.length + 1 ∧ (opS ops st i).2.length ≤ st.2.length + 3 := by
      unfold opS argsOf
      dsimp only
      split
      · omega
      · split <;> simp
    show (opsS ops (i + 1) m (opS ops st i)).1.length ≤ _ ∧ (opsS ops (i + 1) m (opS ops st i)).2.length ≤ _
    omega
theorem outsS_len (ops : List OpT) : ∀ (l : List Int) (st : List Int × List NodeT), (outsS ops l st).2.length = st.2.length + l.length
  | [], st => rfl
  | o :: l, st => by
    show (outsS ops l _).2.length = _
    rw [outsS_len ops l]
    simp; omega
theorem loop6_24 (F : Fine inputs ops outs) {ins : List ByteArray} {lets : List LetT} : ∀ (m i : Nat) (os : List Int) (nodes : List NodeT), i + m = outs.length → nodes.length + m ≤ 100000 → os.length + m ≤ 100000 →
    Evt (fun f => f6_24 inputs ops outs f (i : Int) ins lets os nodes) (let t := outsS ops (outs.drop i) (os, nodes); if 4096 < t.2.length then (([], [], [], [], [], 0, 86) : TellT) else (ins, [], lets, t.1, t.2, 0, 0))
  | 0, i, os, nodes, hi, hn, ho => by
    have := F.o1
    rw [List.drop_eq_nil_of_le (by omega)]
    refine Evt.last fun f => ?_
    show b6_24 inputs ops outs (f6_6 inputs ops outs f) (f6_10 inputs ops outs f) (f6_17 inputs ops outs f) (f6_24 inputs ops outs f) (i : Int) ins lets os nodes = _
    unfold b6_24 outsS
    rw [cF (by omega)]
    dsimp only
    by_cases h : 4096 < nodes.length
    · rw [cT (by omega), if_pos h]
    · rw [cF (by omega), if_neg h]
  | m + 1, i, os, nodes, hi, hn, ho => by
    have hlt : i < outs.length := by omega
    have h64 := F.o1
    have e1 : IntKind.i64.wrap ((i : Int) + 1) = ((i + 1 : Nat) : Int) := by rw [wi64] <;> omega
    have eg : outs.getD i 0 = outs[i] := by rw [List.getD_eq_getElem?_getD, List.getElem?_eq_getElem hlt]; rfl
    obtain ⟨a0, a1⟩ := F.out outs[i] (List.getElem_mem hlt)
    rw [List.drop_eq_getElem_cons hlt]
    refine (loop6_24 F m (i + 1) (os ++ [(nodes.length : Int)]) (nodes ++ [wordN ops outs[i]]) (by omega) (by simp; omega) (by simp; omega)).step fun f => ?_
    show b6_24 inputs ops outs (f6_6 inputs ops outs f) (f6_10 inputs ops outs f) (f6_17 inputs ops outs f) (f6_24 inputs ops outs f) (i : Int) ins lets os nodes = _
    unfold b6_24
    simp only [Int.toNat_natCast, dflt3]
    rw [eg, run20 F.sane a0 a1]
    simp only [Option.bind_some]
    rw [e1, last_at _ _ (by omega)]
    simp (disch := omega) only [cT]
theorem loop6_10 (F : Fine inputs ops outs) {ins : List ByteArray} : ∀ (m i : Nat) (st : List LetT × List NodeT), i + m = ops.length → st.1.length + m ≤ 3000 → st.2.length + 3 * m ≤ 9000 →
    Evt (fun f => f6_10 inputs ops outs f (i : Int) ins st.1 st.2) (finS ops outs ins (opsS ops i m st))
  | 0, i, st, hi, h1, h2 => by
    have h64 := F.o1
    have := loop6_24 (ins := ins) (lets := st.1) F outs.length 0 [] st.2 (by omega) (by omega) (by simp; omega)
    refine this.step fun f => ?_
    show b6_10 inputs ops outs (f6_6 inputs ops outs f) (f6_10 inputs ops outs f) (f6_17 inputs ops outs f) (f6_24 inputs ops outs f) (i : Int) ins st.1 st.2 = _
    unfold b6_10
    rw [cF (by omega)]; rfl
  | m + 1, i, st, hi, h1, h2 => by
    have hlt : i < ops.length := by omega
    have hl := F.sane.len
    have e1 : IntKind.i64.wrap ((i : Int) + 1) = ((i + 1 : Nat) : Int) := by rw [wi64] <;> omega
    have ih := loop6_10 (ins := ins) F m (i + 1) (opS ops st i) (by omega)
    have hS := opsS_lets ops 1 i st
    have hS1 : opsS ops i 1 st = opS ops st i := rfl
    rw [hS1] at hS
    have ih := ih (by omega) (by omega)
    have eo : ops.getD i (0, 0, 0, 0, false, [], []) = opAt ops i := rfl
    have unf : ∀ f, f6_10 inputs ops outs (f + 1) (i : Int) ins st.1 st.2 = b6_10 inputs ops outs (f6_6 inputs ops outs f) (f6_10 inputs ops outs f) (f6_17 inputs ops outs f) (f6_24 inputs ops outs f) (i : Int) ins st.1 st.2 := fun f => rfl
    by_cases hk : (opAt ops i).1 = 1 ∨ (opAt ops i).1 = 2
    · have es : opS ops st i = st := by unfold opS; dsimp only; rw [if_pos hk]
      rw [es] at ih
      show Evt _ (finS ops outs ins (opsS ops (i + 1) m (opS ops st i)))
      rw [es]
      refine ih.step fun f => ?_
      rw [unf]
      unfold b6_10
      simp only [Int.toNat_natCast, dflt67]
      rw [eo, e1]
      simp (disch := omega) only [cT]
      rcases hk with hk | hk
      · rw [cE hk]
      · rw [cN (by omega), cE hk]
    · have n1 : (opAt ops i).1 ≠ 1 := fun h => hk (.inl h)
      have n2 : (opAt ops i).1 ≠ 2 := fun h => hk (.inr h)
      have kd := F.kind i hlt
      have hargs := args_ok F hlt n1 n2
      have hal : (argsOf (opAt ops i)).length ≤ 2 := by unfold argsOf; split <;> simp
      have r19 : S19 (opAt ops i).1 (opAt ops i).2.1 (opAt ops i).2.2.1 (opAt ops i).2.2.2.1 (opAt ops i).2.2.2.2.1 (opAt ops i).2.2.2.2.2.1 (opAt ops i).2.2.2.2.2.2 = some (argsOf (opAt ops i)) := by
        rw [run19]
        unfold argsOf
        by_cases ht : two (opAt ops i).1 = true
        · rw [if_pos ht, if_pos ht]
        · rw [if_neg ht, if_neg ht, if_pos]
          unfold two at ht
          unfold oneK
          simp only [decide_eq_true_eq] at ht ⊢
          omega
      have hlen : (argsOf (opAt ops i)).length = (argsOf (opAt ops i)).length - 0 := by omega
      refine (loop6_17 (k := (opAt ops i).1) (a := (opAt ops i).2.1) (b := (opAt ops i).2.2.1) (n := (opAt ops i).2.2.2.1) (neg := (opAt ops i).2.2.2.2.1) (x := (opAt ops i).2.2.2.2.2.1) (y := (opAt ops i).2.2.2.2.2.2) (ins := ins) (lets := st.1) F hlt hargs (by omega) (by omega) (argsOf (opAt ops i)).length 0 [] st.2 (by omega) (by omega) (by simp; omega) ?_).step fun f => ?_
      · rw [List.drop_zero, List.nil_append]
        have es : opS ops st i = (st.1 ++ [(nT (i : Int), ((st.2 ++ (argsOf (opAt ops i)).map (wordN ops)).length : Int))], st.2 ++ (argsOf (opAt ops i)).map (wordN ops) ++ [(kindN (opAt ops i).1, ByteArray.mk #[], false, [], [], (opAt ops i).2.2.2.1, kidsFrom st.2.length (argsOf (opAt ops i)).length)]) := by
          unfold opS; dsimp only; rw [if_neg hk]
        rw [es] at ih
        show Evt _ (finS ops outs ins (opsS ops (i + 1) m (opS ops st i)))
        rw [es]
        exact ih
      · rw [unf]
        unfold b6_10
        simp only [Int.toNat_natCast, dflt67]
        rw [eo, r19]
        simp only [Option.bind_some]
        simp (disch := omega) only [cT, cN]
        rfl
theorem loop6_6 (F : Fine inputs ops outs) : ∀ (m i : Nat), (i : Int) + m = inputs → Evt (fun f => f6_6 inputs ops outs f (i : Int) (insL i)) (finS ops outs (insL inputs.toNat) (opsS ops 0 ops.length ([], [])))
  | 0, i, hi => by
    have h1 := F.sane.len
    have ei : inputs.toNat = i := by omega
    rw [ei]
    have := loop6_10 (ins := insL i) F ops.length 0 ([], []) (by omega) (by simp; omega) (by simp; omega)
    refine this.step fun f => ?_
    show b6_6 inputs ops outs (f6_6 inputs ops outs f) (f6_10 inputs ops outs f) (f6_17 inputs ops outs f) (f6_24 inputs ops outs f) (i : Int) (insL i) = _
    unfold b6_6
    rw [cF (by omega)]; rfl
  | m + 1, i, hi => by
    have h64 := F.i1
    have e1 : IntKind.i64.wrap ((i : Int) + 1) = ((i + 1 : Nat) : Int) := by rw [wi64] <;> omega
    have hz := decT_size (n := (i : Int)) (by omega)
    refine (loop6_6 F m (i + 1) (by omega)).step fun f => ?_
    show b6_6 inputs ops outs (f6_6 inputs ops outs f) (f6_10 inputs ops outs f) (f6_17 inputs ops outs f) (f6_24 inputs ops outs f) (i : Int) (insL i) = _
    unfold b6_6
    rw [cT (by omega), run18 (by omega) (by omega)]
    simp only [Option.bind_some]
    rw [cT (by show 1 + _ ≤ _; omega), cT (by rw [insL_len]; omega), e1, insL_succ]; rfl
theorem run6 (hok : ∀ o ∈ ops, OkOp o) : S6 inputs ops outs = some (tellS inputs ops outs) := evv_eq (by
  unfold tellS
  dsimp only
  by_cases h : (tapeE inputs ops outs).2 = 0
  · obtain ⟨F, he⟩ := fine_of hok h
    rw [if_neg (fun hn => hn h)]
    have h0 := F.i0
    refine (loop6_6 F inputs.toNat 0 (by omega)).same fun f => ?_
    show b6 inputs ops outs (f6_6 inputs ops outs f) (f6_10 inputs ops outs f) (f6_17 inputs ops outs f) (f6_24 inputs ops outs f) = _
    unfold b6
    rw [run17 hok]
    simp only [Option.bind_some]
    rw [bneF h]; rfl
  · rw [if_pos h]
    refine Evt.now fun f => ?_
    show b6 inputs ops outs (f6_6 inputs ops outs f) (f6_10 inputs ops outs f) (f6_17 inputs ops outs f) (f6_24 inputs ops outs f) = _
    unfold b6
    rw [run17 hok]
    simp only [Option.bind_some]
    rw [bneT h])
end
end Go.Abs.Z
namespace Go.Abs.Z
open Go Go.Abs Go.Proofs
noncomputable section
abbrev R24 : Type := (Bool)
noncomputable def body24 : Go.Code := (Tryd.f24.body).getD Go.Code.skip
def h24 (p0 : Bool) (p1 p2 : TI) (p3 : Bool) (p4 p5 : TI) : List (AO U) := []
def k24 : AV U → List (AO U) → Option R24 := fun v h => match v, h with | AV.bool x0, [] => some x0 | _, _ => none
def out24 : R24 → AV U := fun x0 => AV.bool x0
def outh24 : R24 → List (AO U) := fun x0 => []
def D24 : Nat → Dir := dirs []
def b24 (p0 : Bool) (p1 p2 : TI) (p3 : Bool) (p4 p5 : TI)   : Option R24 :=
  cond (p0 == p3)
  ((S25 p1 p4).bind fun r0 =>
  cond (r0)
  ((S25 p2 p5).bind fun r1 =>
  some (r1))
  (some (false)))
  (some (false))
theorem hk24 : ∀ v h' r, k24 v h' = some r → v = out24 r ∧ h' = outh24 r := by
  intro v h' r h
  unfold k24 at h
  split at h
  · injection h with h; subst h; exact ⟨rfl, rfl⟩
  · cases h
abbrev q24 : Prim U R24 := prims X [⟨25, fun _ => true, [.lend, .lend], F25 S25⟩]
theorem s24 (c : Nat → S U → Option R24) (p0 : Bool) (p1 p2 : TI) (p3 : Bool) (p4 p5 : TI) : seg TP X q24 [] (fun q st => c q (keepD D24 (h24 p0 p1 p2 p3 p4 p5).length q st)) body24 (finH TP Tryd.f24.results.toList (h24 p0 p1 p2 p3 p4 p5).length false k24) (start [.agg [.bool p0, .imm 99 p1, .imm 99 p2], .agg [.bool p3, .imm 99 p4, .imm 99 p5]] Tryd.f24.ntmps (h24 p0 p1 p2 p3 p4 p5)) = b24 p0 p1 p2 p3 p4 p5  := by kernel_rfl
def f24 (_ : Nat) (p0 : Bool) (p1 p2 : TI) (p3 : Bool) (p4 p5 : TI) : Option R24 := b24 p0 p1 p2 p3 p4 p5
theorem pure24 (p0 : Bool) (p1 p2 : TI) (p3 : Bool) (p4 p5 : TI) (pok : PrmOK TP X q24) (k : Nat) (r : R24) (h : f24 k p0 p1 p2 p3 p4 p5 = some r) : PureH TP X 24 [.agg [.bool p0, .imm 99 p1, .imm 99 p2], .agg [.bool p3, .imm 99 p4, .imm 99 p5]] (h24 p0 p1 p2 p3 p4 p5) (out24 r) (outh24 r) :=
  pure_gen good 0 (fn := Tryd.f24) (body := body24) (prim := q24) (D := D24) (cuts := []) (h := h24 p0 p1 p2 p3 p4 p5) (own := false) (by kernel_rfl) (by kernel_rfl) (by decide +kernel) pok hk24 (by
    rw [s24]
    exact h)
def F24 {R : Type} (spec : (Bool) → TI → TI → (Bool) → TI → TI → Option R24) : Fn U R := fun args h k => match args, h with | [.agg [.bool p0, .imm 99 p1, .imm 99 p2], .agg [.bool p3, .imm 99 p4, .imm 99 p5]], [] => (spec p0 p1 p2 p3 p4 p5).bind fun r => k (out24 r) (outh24 r) | _, _ => none
theorem ok24 {R : Type} (spec : (Bool) → TI → TI → (Bool) → TI → TI → Option R24) (hp : ∀ (p0 : Bool) (p1 : TI) (p2 : TI) (p3 : Bool) (p4 : TI) (p5 : TI) (r : R24), spec p0 p1 p2 p3 p4 p5 = some r → PureH TP X 24 [.agg [.bool p0, .imm 99 p1, .imm 99 p2], .agg [.bool p3, .imm 99 p4, .imm 99 p5]] (h24 p0 p1 p2 p3 p4 p5) (out24 r) (outh24 r)) : FnOK TP X 24 (F24 spec : Fn U R) := by
  intro args h k r hh
  unfold F24 at hh
  split at hh
  · obtain ⟨x, h1, h2⟩ := Option.bind_eq_some_iff.1 hh
    exact ⟨_, _, h2, hp _ _ _ _ _ _ _ h1⟩
  · cases hh
theorem pok24 : PrmOK TP X q24 := prims_cons good okS25 (prims_nil TP X mixed)
noncomputable def S24 (p0 : Bool) (p1 p2 : TI) (p3 : Bool) (p4 p5 : TI) : Option R24 := evv fun k => f24 k p0 p1 p2 p3 p4 p5
theorem okS24 {R : Type} : FnOK TP X 24 (F24 S24 : Fn U R) := ok24 S24 fun p0 p1 p2 p3 p4 p5 r h => by
  obtain ⟨k, hk⟩ := evv_fuel h
  exact pure24 p0 p1 p2 p3 p4 p5 pok24 k r hk
end
end Go.Abs.Z
