/- Parts of the proof: PM1, MV, ML1, ML2, ML3, ML4, ML5, ML6, PM2, ML7, MS1, MS2, MS3, PM3, MG, PB, Pf91, Pf74, Pf75, Pf76. -/
import Derived.Test.YthjnhkmojljlmaaDoorK2
set_option linter.unusedVariables false
namespace Go.Abs.Z
open Go Go.Abs Go.Proofs
noncomputable section
abbrev R67 : Type := TI
noncomputable def body67 : Go.Code := (Tryd.f67.body).getD Go.Code.skip
def h67 (p0 : Int) : List (AO U) := []
def k67 : AV U → List (AO U) → Option R67 := fun v h => match v, h with | AV.imm 99 x0, [] => some x0 | _, _ => none
def out67 : R67 → AV U := fun x0 => AV.imm 99 x0
def outh67 : R67 → List (AO U) := fun x0 => []
def D67 : Nat → Dir := dirs []
def b67 (p0 : Int)   : Option R67 :=
  (S87 [IntKind.u32.wrap p0, IntKind.u32.wrap (shr IntKind.u64 p0 32)]).bind fun r0 =>
  some (r0)
theorem hk67 : ∀ v h' r, k67 v h' = some r → v = out67 r ∧ h' = outh67 r := by
  intro v h' r h
  unfold k67 at h
  split at h
  · injection h with h; subst h; exact ⟨rfl, rfl⟩
  · cases h
abbrev q67 : Prim U R67 := prims X [⟨87, fun _ => true, [.frz], F87 S87⟩]
theorem s67 (c : Nat → S U → Option R67) (p0 : Int) : seg TP X q67 [] (fun q st => c q (keepD D67 (h67 p0).length q st)) body67 (finH TP Tryd.f67.results.toList (h67 p0).length false k67) (start [.int .u64 p0] Tryd.f67.ntmps (h67 p0)) = b67 p0  := by kernel_rfl
def f67 (_ : Nat) (p0 : Int) : Option R67 := b67 p0
theorem pure67 (p0 : Int) (pok : PrmOK TP X q67) (k : Nat) (r : R67) (h : f67 k p0 = some r) : PureH TP X 67 [.int .u64 p0] (h67 p0) (out67 r) (outh67 r) :=
  pure_gen good 0 (fn := Tryd.f67) (body := body67) (prim := q67) (D := D67) (cuts := []) (h := h67 p0) (own := false) (by kernel_rfl) (by kernel_rfl) (by decide +kernel) pok hk67 (by
    rw [s67]
    exact h)
def F67 {R : Type} (spec : (Int) → Option R67) : Fn U R := fun args h k => match args, h with | [.int .u64 p0], [] => (spec p0).bind fun r => k (out67 r) (outh67 r) | _, _ => none
theorem ok67 {R : Type} (spec : (Int) → Option R67) (hp : ∀ (p0 : Int) (r : R67), spec p0 = some r → PureH TP X 67 [.int .u64 p0] (h67 p0) (out67 r) (outh67 r)) : FnOK TP X 67 (F67 spec : Fn U R) := by
  intro args h k r hh
  unfold F67 at hh
  split at hh
  · obtain ⟨x, h1, h2⟩ := Option.bind_eq_some_iff.1 hh
    exact ⟨_, _, h2, hp _ _ h1⟩
  · cases hh
theorem pok67 : PrmOK TP X q67 := prims_cons good okS87 (prims_nil TP X mixed)
noncomputable def S67 (p0 : Int) : Option R67 := evv fun k => f67 k p0
theorem okS67 {R : Type} : FnOK TP X 67 (F67 S67 : Fn U R) := ok67 S67 fun p0 r h => by
  obtain ⟨k, hk⟩ := evv_fuel h
  exact pure67 p0 pok67 k r hk
abbrev R81 : Type := (Int)
noncomputable def body81 : Go.Code := (Tryd.f81.body).getD Go.Code.skip
def h81 (p0 : TI) : List (AO U) := []
def k81 : AV U → List (AO U) → Option R81 := fun v h => match v, h with | AV.int IntKind.i64 x0, [] => some x0 | _, _ => none
def out81 : R81 → AV U := fun x0 => AV.int IntKind.i64 x0
def outh81 : R81 → List (AO U) := fun x0 => []
def D81 : Nat → Dir := dirs []
def b81 (p0 : TI)   : Option R81 :=
  cond ((↑p0.length : Int) == 0)
  (some (0))
  (cond (decide (0 ≤ IntKind.i64.wrap ((↑p0.length : Int) - 1)))
  (cond (decide (IntKind.i64.wrap ((↑p0.length : Int) - 1) < (↑p0.length : Int)))
  (cond (decide ((IntKind.i64.wrap ((↑p0.length : Int) - 1)).toNat < p0.length))
  ((S94 (p0.getD (IntKind.i64.wrap ((↑p0.length : Int) - 1)).toNat (X.dflt 99))).bind fun r0 =>
  some (IntKind.i64.wrap (IntKind.i64.wrap (32 * IntKind.i64.wrap ((↑p0.length : Int) - 1)) + r0)))
  (none))
  (none))
  (none))
theorem hk81 : ∀ v h' r, k81 v h' = some r → v = out81 r ∧ h' = outh81 r := by
  intro v h' r h
  unfold k81 at h
  split at h
  · injection h with h; subst h; exact ⟨rfl, rfl⟩
  · cases h
abbrev q81 : Prim U R81 := prims X [⟨94, fun _ => true, [], F94 S94⟩]
theorem s81 (c : Nat → S U → Option R81) (p0 : TI) : seg TP X q81 [] (fun q st => c q (keepD D81 (h81 p0).length q st)) body81 (finH TP Tryd.f81.results.toList (h81 p0).length false k81) (start [.imm 99 p0] Tryd.f81.ntmps (h81 p0)) = b81 p0  := by kernel_rfl
def f81 (_ : Nat) (p0 : TI) : Option R81 := b81 p0
theorem pure81 (p0 : TI) (pok : PrmOK TP X q81) (k : Nat) (r : R81) (h : f81 k p0 = some r) : PureH TP X 81 [.imm 99 p0] (h81 p0) (out81 r) (outh81 r) :=
  pure_gen good 0 (fn := Tryd.f81) (body := body81) (prim := q81) (D := D81) (cuts := []) (h := h81 p0) (own := false) (by kernel_rfl) (by kernel_rfl) (by decide +kernel) pok hk81 (by
    rw [s81]
    exact h)
def F81 {R : Type} (spec : TI → Option R81) : Fn U R := fun args h k => match args, h with | [.imm 99 p0], [] => (spec p0).bind fun r => k (out81 r) (outh81 r) | _, _ => none
theorem ok81 {R : Type} (spec : TI → Option R81) (hp : ∀ (p0 : TI) (r : R81), spec p0 = some r → PureH TP X 81 [.imm 99 p0] (h81 p0) (out81 r) (outh81 r)) : FnOK TP X 81 (F81 spec : Fn U R) := by
  intro args h k r hh
  unfold F81 at hh
  split at hh
  · obtain ⟨x, h1, h2⟩ := Option.bind_eq_some_iff.1 hh
    exact ⟨_, _, h2, hp _ _ h1⟩
  · cases hh
theorem pok81 : PrmOK TP X q81 := prims_cons good okS94 (prims_nil TP X mixed)
noncomputable def S81 (p0 : TI) : Option R81 := evv fun k => f81 k p0
theorem okS81 {R : Type} : FnOK TP X 81 (F81 S81 : Fn U R) := ok81 S81 fun p0 r h => by
  obtain ⟨k, hk⟩ := evv_fuel h
  exact pure81 p0 pok81 k r hk
abbrev R84 : Type := (Int)
noncomputable def body84 : Go.Code := (Tryd.f84.body).getD Go.Code.skip
def h84 (p0 : Int) : List (AO U) := []
def k84 : AV U → List (AO U) → Option R84 := fun v h => match v, h with | AV.int IntKind.i64 x0, [] => some x0 | _, _ => none
def out84 : R84 → AV U := fun x0 => AV.int IntKind.i64 x0
def outh84 : R84 → List (AO U) := fun x0 => []
def D84 : Nat → Dir := dirs []
def b84 (p0 : Int)   : Option R84 :=
  (S94 p0).bind fun r0 =>
  some (IntKind.i64.wrap (32 - r0))
theorem hk84 : ∀ v h' r, k84 v h' = some r → v = out84 r ∧ h' = outh84 r := by
  intro v h' r h
  unfold k84 at h
  split at h
  · injection h with h; subst h; exact ⟨rfl, rfl⟩
  · cases h
abbrev q84 : Prim U R84 := prims X [⟨94, fun _ => true, [], F94 S94⟩]
theorem s84 (c : Nat → S U → Option R84) (p0 : Int) : seg TP X q84 [] (fun q st => c q (keepD D84 (h84 p0).length q st)) body84 (finH TP Tryd.f84.results.toList (h84 p0).length false k84) (start [.int .u32 p0] Tryd.f84.ntmps (h84 p0)) = b84 p0  := by kernel_rfl
def f84 (_ : Nat) (p0 : Int) : Option R84 := b84 p0
theorem pure84 (p0 : Int) (pok : PrmOK TP X q84) (k : Nat) (r : R84) (h : f84 k p0 = some r) : PureH TP X 84 [.int .u32 p0] (h84 p0) (out84 r) (outh84 r) :=
  pure_gen good 0 (fn := Tryd.f84) (body := body84) (prim := q84) (D := D84) (cuts := []) (h := h84 p0) (own := false) (by kernel_rfl) (by kernel_rfl) (by decide +kernel) pok hk84 (by
    rw [s84]
    exact h)
def F84 {R : Type} (spec : (Int) → Option R84) : Fn U R := fun args h k => match args, h with | [.int .u32 p0], [] => (spec p0).bind fun r => k (out84 r) (outh84 r) | _, _ => none
theorem ok84 {R : Type} (spec : (Int) → Option R84) (hp : ∀ (p0 : Int) (r : R84), spec p0 = some r → PureH TP X 84 [.int .u32 p0] (h84 p0) (out84 r) (outh84 r)) : FnOK TP X 84 (F84 spec : Fn U R) := by
  intro args h k r hh
  unfold F84 at hh
  split at hh
  · obtain ⟨x, h1, h2⟩ := Option.bind_eq_some_iff.1 hh
    exact ⟨_, _, h2, hp _ _ h1⟩
  · cases hh
theorem pok84 : PrmOK TP X q84 := prims_cons good okS94 (prims_nil TP X mixed)
noncomputable def S84 (p0 : Int) : Option R84 := evv fun k => f84 k p0
theorem okS84 {R : Type} : FnOK TP X 84 (F84 S84 : Fn U R) := ok84 S84 fun p0 r h => by
  obtain ⟨k, hk⟩ := evv_fuel h
  exact pure84 p0 pok84 k r hk
abbrev R85 : Type := TI
noncomputable def body85 : Go.Code := (Tryd.f85.body).getD Go.Code.skip
def h85 (p0 : TI) (p1 : Int) : List (AO U) := []
def k85 : AV U → List (AO U) → Option R85 := fun v h => match v, h with | AV.row 0 99, [AO.row 99 x0] => some x0 | _, _ => none
def out85 : R85 → AV U := fun x0 => AV.row 0 99
def outh85 : R85 → List (AO U) := fun x0 => [AO.row 99 x0]
def D85 : Nat → Dir := dirs [(5, ⟨[1, 5, 19, 20, 21], [], [], []⟩)]
def b85 (p0 : TI) (p1 : Int) (c5 : (Int) → TI → Option R85)  : Option R85 :=
  cond ((↑p0.length : Int) == 0)
  (some ([]))
  (cond (decide (0 ≤ IntKind.i64.wrap (IntKind.i64.wrap (IntKind.i64.wrap (p1.tdiv 32) + (↑p0.length : Int)) + 1)))
  (cond (decide (IntKind.i64.wrap (IntKind.i64.wrap (IntKind.i64.wrap (p1.tdiv 32) + (↑p0.length : Int)) + 1) ≤ IntKind.i64.wrap (IntKind.i64.wrap (IntKind.i64.wrap (p1.tdiv 32) + (↑p0.length : Int)) + 1)))
  (cond (decide (IntKind.i64.wrap (IntKind.i64.wrap (IntKind.i64.wrap (p1.tdiv 32) + (↑p0.length : Int)) + 1) * (↑4 : Int) ≤ 140737488355328))
  (c5 (0) (repI (IntKind.i64.wrap (IntKind.i64.wrap (IntKind.i64.wrap (p1.tdiv 32) + (↑p0.length : Int)) + 1)).toNat 0))
  (none))
  (none))
  (none))
def m85_5 (p0 : TI) (p1 v3 : Int) (v4 : TI) : S U := S.mk [AV.undef, AV.int IntKind.i64 p1, AV.undef, AV.undef, AV.undef, AV.row 0 99, AV.undef, AV.undef, AV.undef, AV.undef, AV.undef, AV.undef, AV.undef, AV.undef, AV.undef, AV.undef, AV.undef, AV.undef, AV.undef, AV.imm 99 p0, AV.int IntKind.i64 (↑p0.length : Int), AV.int IntKind.i64 v3, AV.undef, AV.undef, AV.undef, AV.undef, AV.undef, AV.undef, AV.undef, AV.undef, AV.undef, AV.undef, AV.undef, AV.undef, AV.undef, AV.undef, AV.undef, AV.undef, AV.undef, AV.undef, AV.undef, AV.undef, AV.undef, AV.undef, AV.undef, AV.undef, AV.undef, AV.undef, AV.undef, AV.undef, AV.undef, AV.undef, AV.undef, AV.undef, AV.undef] [AO.row 99 v4]
def b85_5 (p0 : TI) (p1 : Int) (c5 : (Int) → TI → Option R85) (v3 : Int) (v4 : TI) : Option R85 :=
  cond (decide (v3 < (↑p0.length : Int)))
  (cond (decide (0 ≤ v3))
  (cond (decide (v3 < (↑p0.length : Int)))
  (cond (decide (v3.toNat < p0.length))
  (cond (decide (0 ≤ p1.tmod 32))
  (cond (decide (0 ≤ IntKind.i64.wrap (IntKind.i64.wrap (p1.tdiv 32) + v3)))
  (cond (decide (IntKind.i64.wrap (IntKind.i64.wrap (p1.tdiv 32) + v3) < (↑v4.length : Int)))
  (cond (decide ((IntKind.i64.wrap (IntKind.i64.wrap (p1.tdiv 32) + v3)).toNat < v4.length))
  (cond (decide (0 ≤ IntKind.i64.wrap (IntKind.i64.wrap (p1.tdiv 32) + v3)))
  (cond (decide (IntKind.i64.wrap (IntKind.i64.wrap (p1.tdiv 32) + v3) < (↑v4.length : Int)))
  (cond (decide ((IntKind.i64.wrap (IntKind.i64.wrap (p1.tdiv 32) + v3)).toNat < v4.length))
  (cond (decide (0 ≤ IntKind.i64.wrap (IntKind.i64.wrap (IntKind.i64.wrap (p1.tdiv 32) + v3) + 1)))
  (cond (decide (IntKind.i64.wrap (IntKind.i64.wrap (IntKind.i64.wrap (p1.tdiv 32) + v3) + 1) < (↑(v4.set (IntKind.i64.wrap (IntKind.i64.wrap (p1.tdiv 32) + v3)).toNat (Go.bits Go.BinOp.or IntKind.u32 (v4.getD (IntKind.i64.wrap (IntKind.i64.wrap (p1.tdiv 32) + v3)).toNat (X.dflt 99)) (IntKind.u32.wrap (shl IntKind.u64 (IntKind.u64.wrap (p0.getD v3.toNat (X.dflt 99))) (p1.tmod 32))))).length : Int)))
  (cond (decide ((IntKind.i64.wrap (IntKind.i64.wrap (IntKind.i64.wrap (p1.tdiv 32) + v3) + 1)).toNat < (v4.set (IntKind.i64.wrap (IntKind.i64.wrap (p1.tdiv 32) + v3)).toNat (Go.bits Go.BinOp.or IntKind.u32 (v4.getD (IntKind.i64.wrap (IntKind.i64.wrap (p1.tdiv 32) + v3)).toNat (X.dflt 99)) (IntKind.u32.wrap (shl IntKind.u64 (IntKind.u64.wrap (p0.getD v3.toNat (X.dflt 99))) (p1.tmod 32))))).length))
  (c5 (IntKind.i64.wrap (v3 + 1)) ((v4.set (IntKind.i64.wrap (IntKind.i64.wrap (p1.tdiv 32) + v3)).toNat (Go.bits Go.BinOp.or IntKind.u32 (v4.getD (IntKind.i64.wrap (IntKind.i64.wrap (p1.tdiv 32) + v3)).toNat (X.dflt 99)) (IntKind.u32.wrap (shl IntKind.u64 (IntKind.u64.wrap (p0.getD v3.toNat (X.dflt 99))) (p1.tmod 32))))).set (IntKind.i64.wrap (IntKind.i64.wrap (IntKind.i64.wrap (p1.tdiv 32) + v3) + 1)).toNat (IntKind.u32.wrap (shr IntKind.u64 (shl IntKind.u64 (IntKind.u64.wrap (p0.getD v3.toNat (X.dflt 99))) (p1.tmod 32)) 32))))
  (none))
  (none))
  (none))
  (none))
  (none))
  (none))
  (none))
  (none))
  (none))
  (none))
  (none))
  (none))
  (none))
  ((S87h v4).bind fun r0 =>
  some (r0))
theorem hk85 : ∀ v h' r, k85 v h' = some r → v = out85 r ∧ h' = outh85 r := by
  intro v h' r h
  unfold k85 at h
  split at h
  · injection h with h; subst h; exact ⟨rfl, rfl⟩
  · cases h
abbrev q85 : Prim U R85 := prims X [⟨87, fun _ => true, [.hand], F87h S87h⟩]
theorem s85 (c : Nat → S U → Option R85) (p0 : TI) (p1 : Int) : seg TP X q85 [5] (fun q st => c q (keepD D85 (h85 p0 p1).length q st)) body85 (finH TP Tryd.f85.results.toList (h85 p0 p1).length true k85) (start [.imm 99 p0, .int .i64 p1] Tryd.f85.ntmps (h85 p0 p1)) = b85 p0 p1 (fun v3 v4 => c 5 (m85_5 p0 p1 v3 v4)) := by kernel_rfl
theorem s85_5 (c : Nat → S U → Option R85) (p0 : TI) (p1 v3 : Int) (v4 : TI) : res TP X q85 [5] (fun q st => c q (keepD D85 (h85 p0 p1).length q st)) 5 body85 (finH TP Tryd.f85.results.toList (h85 p0 p1).length true k85) (m85_5 p0 p1 v3 v4) = b85_5 p0 p1 (fun v3 v4 => c 5 (m85_5 p0 p1 v3 v4)) v3 v4 := by kernel_rfl
def f85_5 (p0 : TI) (p1 : Int) : Nat → Int → TI → Option R85
  | 0 => fun _ _ => none
  | k + 1 => b85_5 p0 p1 (f85_5 p0 p1 k)
def f85 (k : Nat) (p0 : TI) (p1 : Int) : Option R85 := b85 p0 p1 (f85_5 p0 p1 k)
theorem e85 (p0 : TI) (p1 : Int) : ∀ k, ((fun v3 v4 => cutG TP X q85 [5] D85 (h85 p0 p1).length body85 (finH TP Tryd.f85.results.toList (h85 p0 p1).length true k85) k 5 (m85_5 p0 p1 v3 v4)) = f85_5 p0 p1 k)
  | 0 => rfl
  | k + 1 => by
    have ih := e85 p0 p1 k
    · funext v3 v4
      refine (if_pos (by kernel_rfl)).trans ?_
      rw [s85_5]
      simp only [ih]
      rfl
theorem pure85 (p0 : TI) (p1 : Int) (pok : PrmOK TP X q85) (k : Nat) (r : R85) (h : f85 k p0 p1 = some r) : PureH TP X 85 [.imm 99 p0, .int .i64 p1] (h85 p0 p1) (out85 r) (outh85 r) :=
  pure_gen good k (fn := Tryd.f85) (body := body85) (prim := q85) (D := D85) (cuts := [5]) (h := h85 p0 p1) (own := true) (by kernel_rfl) (by kernel_rfl) (by decide +kernel) pok hk85 (by
    rw [s85]
    have ih := e85 p0 p1 k
    simp only [ih]
    exact h)
def F85 {R : Type} (spec : TI → Int → Option R85) : Fn U R := fun args h k => match args, h with | [.imm 99 p0, .int .i64 p1], [] => (spec p0 p1).bind fun r => k (out85 r) (outh85 r) | _, _ => none
theorem ok85 {R : Type} (spec : TI → Int → Option R85) (hp : ∀ (p0 : TI) (p1 : Int) (r : R85), spec p0 p1 = some r → PureH TP X 85 [.imm 99 p0, .int .i64 p1] (h85 p0 p1) (out85 r) (outh85 r)) : FnOK TP X 85 (F85 spec : Fn U R) := by
  intro args h k r hh
  unfold F85 at hh
  split at hh
  · obtain ⟨x, h1, h2⟩ := Option.bind_eq_some_iff.1 hh
    exact ⟨_, _, h2, hp _ _ _ h1⟩
  · cases hh
theorem pok85 : PrmOK TP X q85 := prims_cons good okS87h (prims_nil TP X mixed)
noncomputable def S85 (p0 : TI) (p1 : Int) : Option R85 := evv fun k => f85 k p0 p1
theorem okS85 {R : Type} : FnOK TP X 85 (F85 S85 : Fn U R) := ok85 S85 fun p0 p1 r h => by
  obtain ⟨k, hk⟩ := evv_fuel h
  exact pure85 p0 p1 pok85 k r hk
abbrev R83 : Type := TI × (Int)
noncomputable def body83 : Go.Code := (Tryd.f83.body).getD Go.Code.skip
def h83 (p0 : TI) (p1 : Int) : List (AO U) := []
def k83 : AV U → List (AO U) → Option R83 := fun v h => match v, h with | AV.tup [AV.imm 99 x0, AV.int IntKind.u32 x1], [] => some (x0, x1) | _, _ => none
def out83 : R83 → AV U := fun (x0, x1) => AV.tup [AV.imm 99 x0, AV.int IntKind.u32 x1]
def outh83 : R83 → List (AO U) := fun (x0, x1) => []
def D83 : Nat → Dir := dirs [(4, ⟨[0, 1, 6, 7, 8], [], [], []⟩)]
def b83 (p0 : TI) (p1 : Int) (c4 : (Int) → Int → TI → Option R83)  : Option R83 :=
  cond (decide ((↑p0.length : Int) ≤ (↑p0.length : Int)))
  (cond (decide ((↑p0.length : Int) * (↑4 : Int) ≤ 140737488355328))
  (c4 (0) (IntKind.i64.wrap ((↑p0.length : Int) - 1)) (repI (↑p0.length : Int).toNat 0))
  (none))
  (none)
def m83_4 (p0 : TI) (p1 v2 v3 : Int) (v4 : TI) : S U := S.mk [AV.imm 99 p0, AV.int IntKind.u32 p1, AV.undef, AV.undef, AV.undef, AV.undef, AV.row 0 99, AV.int IntKind.u32 v2, AV.int IntKind.i64 v3, AV.undef, AV.undef, AV.undef, AV.undef, AV.undef, AV.undef, AV.undef, AV.undef, AV.undef, AV.undef, AV.undef, AV.undef, AV.undef, AV.undef, AV.undef, AV.undef, AV.undef, AV.undef, AV.undef, AV.undef, AV.undef, AV.undef, AV.undef, AV.undef, AV.undef, AV.undef] [AO.row 99 v4]
def b83_4 (p0 : TI) (p1 : Int) (c4 : (Int) → Int → TI → Option R83) (v2 v3 : Int) (v4 : TI) : Option R83 :=
  cond (decide (v3 ≥ 0))
  (cond (decide (0 ≤ v3))
  (cond (decide (v3 < (↑p0.length : Int)))
  (cond (decide (v3.toNat < p0.length))
  ((S95 v2 (p0.getD v3.toNat (X.dflt 99)) p1).bind fun r0 =>
  cond (decide (0 ≤ v3))
  (cond (decide (v3 < (↑v4.length : Int)))
  (cond (decide (v3.toNat < v4.length))
  (c4 (r0.snd) (IntKind.i64.wrap (v3 - 1)) (v4.set v3.toNat r0.fst))
  (none))
  (none))
  (none))
  (none))
  (none))
  (none))
  ((S87 v4).bind fun r1 =>
  some ((r1, v2)))
theorem hk83 : ∀ v h' r, k83 v h' = some r → v = out83 r ∧ h' = outh83 r := by
  intro v h' r h
  unfold k83 at h
  split at h
  · injection h with h; subst h; exact ⟨rfl, rfl⟩
  · cases h
abbrev q83 : Prim U R83 := prims X [⟨87, fun _ => true, [.frz], F87 S87⟩, ⟨95, fun _ => true, [], F95 S95⟩]
theorem s83 (c : Nat → S U → Option R83) (p0 : TI) (p1 : Int) : seg TP X q83 [4] (fun q st => c q (keepD D83 (h83 p0 p1).length q st)) body83 (finH TP Tryd.f83.results.toList (h83 p0 p1).length false k83) (start [.imm 99 p0, .int .u32 p1] Tryd.f83.ntmps (h83 p0 p1)) = b83 p0 p1 (fun v2 v3 v4 => c 4 (m83_4 p0 p1 v2 v3 v4)) := by kernel_rfl
theorem s83_4 (c : Nat → S U → Option R83) (p0 : TI) (p1 v2 v3 : Int) (v4 : TI) : res TP X q83 [4] (fun q st => c q (keepD D83 (h83 p0 p1).length q st)) 4 body83 (finH TP Tryd.f83.results.toList (h83 p0 p1).length false k83) (m83_4 p0 p1 v2 v3 v4) = b83_4 p0 p1 (fun v2 v3 v4 => c 4 (m83_4 p0 p1 v2 v3 v4)) v2 v3 v4 := by kernel_rfl
def f83_4 (p0 : TI) (p1 : Int) : Nat → Int → (Int) → TI → Option R83
  | 0 => fun _ _ _ => none
  | k + 1 => b83_4 p0 p1 (f83_4 p0 p1 k)
def f83 (k : Nat) (p0 : TI) (p1 : Int) : Option R83 := b83 p0 p1 (f83_4 p0 p1 k)
theorem e83 (p0 : TI) (p1 : Int) : ∀ k, ((fun v2 v3 v4 => cutG TP X q83 [4] D83 (h83 p0 p1).length body83 (finH TP Tryd.f83.results.toList (h83 p0 p1).length false k83) k 4 (m83_4 p0 p1 v2 v3 v4)) = f83_4 p0 p1 k)
  | 0 => rfl
  | k + 1 => by
    have ih := e83 p0 p1 k
    · funext v2 v3 v4
      refine (if_pos (by kernel_rfl)).trans ?_
      rw [s83_4]
      simp only [ih]
      rfl
theorem pure83 (p0 : TI) (p1 : Int) (pok : PrmOK TP X q83) (k : Nat) (r : R83) (h : f83 k p0 p1 = some r) : PureH TP X 83 [.imm 99 p0, .int .u32 p1] (h83 p0 p1) (out83 r) (outh83 r) :=
  pure_gen good k (fn := Tryd.f83) (body := body83) (prim := q83) (D := D83) (cuts := [4]) (h := h83 p0 p1) (own := false) (by kernel_rfl) (by kernel_rfl) (by decide +kernel) pok hk83 (by
    rw [s83]
    have ih := e83 p0 p1 k
    simp only [ih]
    exact h)
def F83 {R : Type} (spec : TI → Int → Option R83) : Fn U R := fun args h k => match args, h with | [.imm 99 p0, .int .u32 p1], [] => (spec p0 p1).bind fun r => k (out83 r) (outh83 r) | _, _ => none
theorem ok83 {R : Type} (spec : TI → Int → Option R83) (hp : ∀ (p0 : TI) (p1 : Int) (r : R83), spec p0 p1 = some r → PureH TP X 83 [.imm 99 p0, .int .u32 p1] (h83 p0 p1) (out83 r) (outh83 r)) : FnOK TP X 83 (F83 spec : Fn U R) := by
  intro args h k r hh
  unfold F83 at hh
  split at hh
  · obtain ⟨x, h1, h2⟩ := Option.bind_eq_some_iff.1 hh
    exact ⟨_, _, h2, hp _ _ _ h1⟩
  · cases hh
theorem pok83 : PrmOK TP X q83 := prims_cons good okS87 (prims_cons good okS95 (prims_nil TP X mixed))
noncomputable def S83 (p0 : TI) (p1 : Int) : Option R83 := evv fun k => f83 k p0 p1
theorem okS83 {R : Type} : FnOK TP X 83 (F83 S83 : Fn U R) := ok83 S83 fun p0 p1 r h => by
  obtain ⟨k, hk⟩ := evv_fuel h
  exact pure83 p0 p1 pok83 k r hk
abbrev R86 : Type := Int × TI
noncomputable def body86 : Go.Code := (Tryd.f86.body).getD Go.Code.skip
def h86 (p0 p1 : Nat) (p2 p3 : TI) : List (AO U) := [.row 99 p2]
def k86 : AV U → List (AO U) → Option R86 := fun v h => match v, h with | AV.int IntKind.u32 x0, [AO.row 99 x1] => some (x0, x1) | _, _ => none
def out86 : R86 → AV U := fun (x0, x1) => AV.int IntKind.u32 x0
def outh86 : R86 → List (AO U) := fun (x0, x1) => [AO.row 99 x1]
def D86 : Nat → Dir := dirs [(7, ⟨[0, 1, 5, 7, 8], [], [], []⟩), (12, ⟨[0, 1, 5, 7, 9, 10, 100, 101, 102], [], [], []⟩), (23, ⟨[0, 5, 7, 14, 148, 149, 150], [], [], []⟩)]
def b86 (p0 p1 : Nat) (p2 p3 : TI) (c7 : (Int) → Int → Option R86) (c12 : (Int) → Int → (Int) → Int → TI → Option R86) (c23 : (Int) → Int → (Int) → TI → Option R86)  : Option R86 :=
  cond (decide ((↑p3.length : Int) < (↑p1 : Int)))
  (cond (decide (p0 + (↑p3.length : Int).toNat < p2.length))
  (cond (decide (0 ≤ IntKind.i64.wrap ((↑p3.length : Int) - 1)))
  (cond (decide (IntKind.i64.wrap ((↑p3.length : Int) - 1) < (↑p1 : Int)))
  (cond (decide (p0 + (IntKind.i64.wrap ((↑p3.length : Int) - 1)).toNat < p2.length))
  (cond (decide ((↑p3.length : Int) < (↑p1 : Int)))
  (cond (decide (p0 + (↑p3.length : Int).toNat < p2.length))
  (cond (decide (0 ≤ IntKind.i64.wrap ((↑p3.length : Int) - 1)))
  (cond (decide (IntKind.i64.wrap ((↑p3.length : Int) - 1) < (↑p3.length : Int)))
  (cond (decide ((IntKind.i64.wrap ((↑p3.length : Int) - 1)).toNat < p3.length))
  (cond (decide (p2.getD (p0 + (↑p3.length : Int).toNat) (X.dflt 99) < p3.getD (IntKind.i64.wrap ((↑p3.length : Int) - 1)).toNat (X.dflt 99)))
  (cond (decide (0 ≤ IntKind.i64.wrap ((↑p3.length : Int) - 1)))
  (cond (decide (IntKind.i64.wrap ((↑p3.length : Int) - 1) < (↑p3.length : Int)))
  (cond (decide ((IntKind.i64.wrap ((↑p3.length : Int) - 1)).toNat < p3.length))
  (cond (decide (IntKind.u64.wrap (p3.getD (IntKind.i64.wrap ((↑p3.length : Int) - 1)).toNat (X.dflt 99)) = 0))
  (none)
  (cond (decide (0 ≤ IntKind.i64.wrap ((↑p3.length : Int) - 1)))
  (cond (decide (IntKind.i64.wrap ((↑p3.length : Int) - 1) < (↑p3.length : Int)))
  (cond (decide ((IntKind.i64.wrap ((↑p3.length : Int) - 1)).toNat < p3.length))
  (cond (decide (IntKind.u64.wrap (p3.getD (IntKind.i64.wrap ((↑p3.length : Int) - 1)).toNat (X.dflt 99)) = 0))
  (none)
  (c7 (IntKind.u64.wrap ((Go.bits Go.BinOp.or IntKind.u64 (shl IntKind.u64 (IntKind.u64.wrap (p2.getD (p0 + (↑p3.length : Int).toNat) (X.dflt 99))) 32) (IntKind.u64.wrap (p2.getD (p0 + (IntKind.i64.wrap ((↑p3.length : Int) - 1)).toNat) (X.dflt 99)))).tdiv (IntKind.u64.wrap (p3.getD (IntKind.i64.wrap ((↑p3.length : Int) - 1)).toNat (X.dflt 99))))) ((Go.bits Go.BinOp.or IntKind.u64 (shl IntKind.u64 (IntKind.u64.wrap (p2.getD (p0 + (↑p3.length : Int).toNat) (X.dflt 99))) 32) (IntKind.u64.wrap (p2.getD (p0 + (IntKind.i64.wrap ((↑p3.length : Int) - 1)).toNat) (X.dflt 99)))).tmod (IntKind.u64.wrap (p3.getD (IntKind.i64.wrap ((↑p3.length : Int) - 1)).toNat (X.dflt 99))))))
  (none))
  (none))
  (none)))
  (none))
  (none))
  (none))
  (cond (decide (0 ≤ IntKind.i64.wrap ((↑p3.length : Int) - 1)))
  (cond (decide (IntKind.i64.wrap ((↑p3.length : Int) - 1) < (↑p3.length : Int)))
  (cond (decide ((IntKind.i64.wrap ((↑p3.length : Int) - 1)).toNat < p3.length))
  (c7 (4294967295) (IntKind.u64.wrap (Go.bits Go.BinOp.or IntKind.u64 (shl IntKind.u64 (IntKind.u64.wrap (p2.getD (p0 + (↑p3.length : Int).toNat) (X.dflt 99))) 32) (IntKind.u64.wrap (p2.getD (p0 + (IntKind.i64.wrap ((↑p3.length : Int) - 1)).toNat) (X.dflt 99))) - IntKind.u64.wrap (4294967295 * IntKind.u64.wrap (p3.getD (IntKind.i64.wrap ((↑p3.length : Int) - 1)).toNat (X.dflt 99))))))
  (none))
  (none))
  (none)))
  (none))
  (none))
  (none))
  (none))
  (none))
  (none))
  (none))
  (none))
  (none))
  (none)
def m86_7 (p0 p1 : Nat) (p2 p3 : TI) (v4 v5 : Int) : S U := S.mk [AV.view 0 99 p0 p1, AV.imm 99 p3, AV.undef, AV.undef, AV.undef, AV.int IntKind.i64 (↑p3.length : Int), AV.undef, AV.int IntKind.u64 v4, AV.int IntKind.u64 v5, AV.undef, AV.undef, AV.undef, AV.undef, AV.undef, AV.undef, AV.undef, AV.undef, AV.undef, AV.undef, AV.undef, AV.undef, AV.undef, AV.undef, AV.undef, AV.undef, AV.undef, AV.undef, AV.undef, AV.undef, AV.undef, AV.undef, AV.undef, AV.undef, AV.undef, AV.undef, AV.undef, AV.undef, AV.undef, AV.undef, AV.undef, AV.undef, AV.undef, AV.undef, AV.undef, AV.undef, AV.undef, AV.undef, AV.undef, AV.undef, AV.undef, AV.undef, AV.undef, AV.undef, AV.undef, AV.undef, AV.undef, AV.undef, AV.undef, AV.undef, AV.undef, AV.undef, AV.undef, AV.undef, AV.undef, AV.undef, AV.undef, AV.undef, AV.undef, AV.undef, AV.undef, AV.undef, AV.undef, AV.undef, AV.undef, AV.undef, AV.undef, AV.undef, AV.undef, AV.undef, AV.undef, AV.undef, AV.undef, AV.undef, AV.undef, AV.undef, AV.undef, AV.undef, AV.undef, AV.undef, AV.undef, AV.undef, AV.undef, AV.undef, AV.undef, AV.undef, AV.undef, AV.undef, AV.undef, AV.undef, AV.undef, AV.undef, AV.undef, AV.undef, AV.undef, AV.undef, AV.undef, AV.undef, AV.undef, AV.undef, AV.undef, AV.undef, AV.undef, AV.undef, AV.undef, AV.undef, AV.undef, AV.undef, AV.undef, AV.undef, AV.undef, AV.undef, AV.undef, AV.undef, AV.undef, AV.undef, AV.undef, AV.undef, AV.undef, AV.undef, AV.undef, AV.undef, AV.undef, AV.undef, AV.undef, AV.undef, AV.undef, AV.undef, AV.undef, AV.undef, AV.undef, AV.undef, AV.undef, AV.undef, AV.undef, AV.undef, AV.undef, AV.undef, AV.undef, AV.undef, AV.undef, AV.undef, AV.undef, AV.undef, AV.undef, AV.undef, AV.undef, AV.undef, AV.undef, AV.undef, AV.undef, AV.undef, AV.undef, AV.undef, AV.undef, AV.undef, AV.undef, AV.undef, AV.undef, AV.undef, AV.undef, AV.undef, AV.undef, AV.undef, AV.undef, AV.undef, AV.undef, AV.undef, AV.undef, AV.undef] [AO.row 99 p2]
def b86_7 (p0 p1 : Nat) (p2 p3 : TI) (c7 : (Int) → Int → Option R86) (c12 : (Int) → Int → (Int) → Int → TI → Option R86) (c23 : (Int) → Int → (Int) → TI → Option R86) (v4 v5 : Int) : Option R86 :=
  cond (decide (v5 < 4294967296))
  (cond (decide (0 ≤ IntKind.i64.wrap ((↑p3.length : Int) - 2)))
  (cond (decide (IntKind.i64.wrap ((↑p3.length : Int) - 2) < (↑p3.length : Int)))
  (cond (decide ((IntKind.i64.wrap ((↑p3.length : Int) - 2)).toNat < p3.length))
  (cond (decide (0 ≤ IntKind.i64.wrap ((↑p3.length : Int) - 2)))
  (cond (decide (IntKind.i64.wrap ((↑p3.length : Int) - 2) < (↑p1 : Int)))
  (cond (decide (p0 + (IntKind.i64.wrap ((↑p3.length : Int) - 2)).toNat < p2.length))
  (cond (decide (IntKind.u64.wrap (v4 * IntKind.u64.wrap (p3.getD (IntKind.i64.wrap ((↑p3.length : Int) - 2)).toNat (X.dflt 99))) > Go.bits Go.BinOp.or IntKind.u64 (shl IntKind.u64 v5 32) (IntKind.u64.wrap (p2.getD (p0 + (IntKind.i64.wrap ((↑p3.length : Int) - 2)).toNat) (X.dflt 99)))))
  (cond (decide (0 ≤ IntKind.i64.wrap ((↑p3.length : Int) - 1)))
  (cond (decide (IntKind.i64.wrap ((↑p3.length : Int) - 1) < (↑p3.length : Int)))
  (cond (decide ((IntKind.i64.wrap ((↑p3.length : Int) - 1)).toNat < p3.length))
  (c7 (IntKind.u64.wrap (v4 - 1)) (IntKind.u64.wrap (v5 + IntKind.u64.wrap (p3.getD (IntKind.i64.wrap ((↑p3.length : Int) - 1)).toNat (X.dflt 99)))))
  (none))
  (none))
  (none))
  (c12 (v4) (0) (0) (0) (p2)))
  (none))
  (none))
  (none))
  (none))
  (none))
  (none))
  (c12 (v4) (0) (0) (0) (p2))
def m86_12 (p0 p1 : Nat) (p2 p3 : TI) (v4 v5 v6 v9 : Int) (v10 : TI) : S U := S.mk [AV.view 0 99 p0 p1, AV.imm 99 p3, AV.undef, AV.undef, AV.undef, AV.int IntKind.i64 (↑p3.length : Int), AV.undef, AV.int IntKind.u64 v4, AV.undef, AV.int IntKind.u64 v5, AV.int IntKind.u32 v6, AV.undef, AV.undef, AV.undef, AV.undef, AV.undef, AV.undef, AV.undef, AV.undef, AV.undef, AV.undef, AV.undef, AV.undef, AV.undef, AV.undef, AV.undef, AV.undef, AV.undef, AV.undef, AV.undef, AV.undef, AV.undef, AV.undef, AV.undef, AV.undef, AV.undef, AV.undef, AV.undef, AV.undef, AV.undef, AV.undef, AV.undef, AV.undef, AV.undef, AV.undef, AV.undef, AV.undef, AV.undef, AV.undef, AV.undef, AV.undef, AV.undef, AV.undef, AV.undef, AV.undef, AV.undef, AV.undef, AV.undef, AV.undef, AV.undef, AV.undef, AV.undef, AV.undef, AV.undef, AV.undef, AV.undef, AV.undef, AV.undef, AV.undef, AV.undef, AV.undef, AV.undef, AV.undef, AV.undef, AV.undef, AV.undef, AV.undef, AV.undef, AV.undef, AV.undef, AV.undef, AV.undef, AV.undef, AV.undef, AV.undef, AV.undef, AV.undef, AV.undef, AV.undef, AV.undef, AV.undef, AV.undef, AV.undef, AV.undef, AV.undef, AV.undef, AV.undef, AV.undef, AV.undef, AV.undef, AV.imm 99 p3, AV.int IntKind.i64 (↑p3.length : Int), AV.int IntKind.i64 v9, AV.undef, AV.undef, AV.undef, AV.undef, AV.undef, AV.undef, AV.undef, AV.undef, AV.undef, AV.undef, AV.undef, AV.undef, AV.undef, AV.undef, AV.undef, AV.undef, AV.undef, AV.undef, AV.undef, AV.undef, AV.undef, AV.undef, AV.undef, AV.undef, AV.undef, AV.undef, AV.undef, AV.undef, AV.undef, AV.undef, AV.undef, AV.undef, AV.undef, AV.undef, AV.undef, AV.undef, AV.undef, AV.undef, AV.undef, AV.undef, AV.undef, AV.undef, AV.undef, AV.undef, AV.undef, AV.undef, AV.undef, AV.undef, AV.undef, AV.undef, AV.undef, AV.undef, AV.undef, AV.undef, AV.undef, AV.undef, AV.undef, AV.undef, AV.undef, AV.undef, AV.undef, AV.undef, AV.undef, AV.undef, AV.undef, AV.undef, AV.undef, AV.undef, AV.undef, AV.undef, AV.undef, AV.undef, AV.undef, AV.undef, AV.undef, AV.undef] [AO.row 99 v10]
def b86_12 (p0 p1 : Nat) (p2 p3 : TI) (c7 : (Int) → Int → Option R86) (c12 : (Int) → Int → (Int) → Int → TI → Option R86) (c23 : (Int) → Int → (Int) → TI → Option R86) (v4 v5 v6 v9 : Int) (v10 : TI) : Option R86 :=
  cond (decide (v9 < (↑p3.length : Int)))
  (cond (decide (0 ≤ v9))
  (cond (decide (v9 < (↑p3.length : Int)))
  (cond (decide (v9.toNat < p3.length))
  (cond (decide (0 ≤ v9))
  (cond (decide (v9 < (↑p1 : Int)))
  (cond (decide (p0 + v9.toNat < v10.length))
  ((S96 (v10.getD (p0 + v9.toNat) (X.dflt 99)) (IntKind.u32.wrap (IntKind.u64.wrap (IntKind.u64.wrap (v4 * IntKind.u64.wrap (p3.getD v9.toNat (X.dflt 99))) + v5))) v6).bind fun r0 =>
  cond (decide (0 ≤ v9))
  (cond (decide (v9 < (↑p1 : Int)))
  (cond (decide (p0 + v9.toNat < v10.length))
  (c12 (v4) (shr IntKind.u64 (IntKind.u64.wrap (IntKind.u64.wrap (v4 * IntKind.u64.wrap (p3.getD v9.toNat (X.dflt 99))) + v5)) 32) (r0.snd) (IntKind.i64.wrap (v9 + 1)) (v10.set (p0 + v9.toNat) r0.fst))
  (none))
  (none))
  (none))
  (none))
  (none))
  (none))
  (none))
  (none))
  (none))
  (cond (decide ((↑p3.length : Int) < (↑p1 : Int)))
  (cond (decide (p0 + (↑p3.length : Int).toNat < v10.length))
  ((S96 (v10.getD (p0 + (↑p3.length : Int).toNat) (X.dflt 99)) (IntKind.u32.wrap v5) v6).bind fun r1 =>
  cond (decide ((↑p3.length : Int) < (↑p1 : Int)))
  (cond (decide (p0 + (↑p3.length : Int).toNat < v10.length))
  (cond (r1.snd == 0)
  (some ((IntKind.u32.wrap v4, v10.set (p0 + (↑p3.length : Int).toNat) r1.fst)))
  (c23 (v4) (0) (0) (v10.set (p0 + (↑p3.length : Int).toNat) r1.fst)))
  (none))
  (none))
  (none))
  (none))
def m86_23 (p0 p1 : Nat) (p2 p3 : TI) (v3 v4 v7 : Int) (v8 : TI) : S U := S.mk [AV.view 0 99 p0 p1, AV.undef, AV.undef, AV.undef, AV.undef, AV.int IntKind.i64 (↑p3.length : Int), AV.undef, AV.int IntKind.u64 v3, AV.undef, AV.undef, AV.undef, AV.undef, AV.undef, AV.undef, AV.int IntKind.u32 v4, AV.undef, AV.undef, AV.undef, AV.undef, AV.undef, AV.undef, AV.undef, AV.undef, AV.undef, AV.undef, AV.undef, AV.undef, AV.undef, AV.undef, AV.undef, AV.undef, AV.undef, AV.undef, AV.undef, AV.undef, AV.undef, AV.undef, AV.undef, AV.undef, AV.undef, AV.undef, AV.undef, AV.undef, AV.undef, AV.undef, AV.undef, AV.undef, AV.undef, AV.undef, AV.undef, AV.undef, AV.undef, AV.undef, AV.undef, AV.undef, AV.undef, AV.undef, AV.undef, AV.undef, AV.undef, AV.undef, AV.undef, AV.undef, AV.undef, AV.undef, AV.undef, AV.undef, AV.undef, AV.undef, AV.undef, AV.undef, AV.undef, AV.undef, AV.undef, AV.undef, AV.undef, AV.undef, AV.undef, AV.undef, AV.undef, AV.undef, AV.undef, AV.undef, AV.undef, AV.undef, AV.undef, AV.undef, AV.undef, AV.undef, AV.undef, AV.undef, AV.undef, AV.undef, AV.undef, AV.undef, AV.undef, AV.undef, AV.undef, AV.undef, AV.undef, AV.undef, AV.undef, AV.undef, AV.undef, AV.undef, AV.undef, AV.undef, AV.undef, AV.undef, AV.undef, AV.undef, AV.undef, AV.undef, AV.undef, AV.undef, AV.undef, AV.undef, AV.undef, AV.undef, AV.undef, AV.undef, AV.undef, AV.undef, AV.undef, AV.undef, AV.undef, AV.undef, AV.undef, AV.undef, AV.undef, AV.undef, AV.undef, AV.undef, AV.undef, AV.undef, AV.undef, AV.undef, AV.undef, AV.undef, AV.undef, AV.undef, AV.undef, AV.undef, AV.undef, AV.undef, AV.undef, AV.undef, AV.undef, AV.imm 99 p3, AV.int IntKind.i64 (↑p3.length : Int), AV.int IntKind.i64 v7, AV.undef, AV.undef, AV.undef, AV.undef, AV.undef, AV.undef, AV.undef, AV.undef, AV.undef, AV.undef, AV.undef, AV.undef, AV.undef, AV.undef, AV.undef, AV.undef, AV.undef, AV.undef, AV.undef, AV.undef, AV.undef, AV.undef, AV.undef, AV.undef, AV.undef, AV.undef, AV.undef, AV.undef] [AO.row 99 v8]
def b86_23 (p0 p1 : Nat) (p2 p3 : TI) (c7 : (Int) → Int → Option R86) (c12 : (Int) → Int → (Int) → Int → TI → Option R86) (c23 : (Int) → Int → (Int) → TI → Option R86) (v3 v4 v7 : Int) (v8 : TI) : Option R86 :=
  cond (decide (v7 < (↑p3.length : Int)))
  (cond (decide (0 ≤ v7))
  (cond (decide (v7 < (↑p3.length : Int)))
  (cond (decide (v7.toNat < p3.length))
  (cond (decide (0 ≤ v7))
  (cond (decide (v7 < (↑p1 : Int)))
  (cond (decide (p0 + v7.toNat < v8.length))
  ((S97 (v8.getD (p0 + v7.toNat) (X.dflt 99)) (p3.getD v7.toNat (X.dflt 99)) v4).bind fun r0 =>
  cond (decide (0 ≤ v7))
  (cond (decide (v7 < (↑p1 : Int)))
  (cond (decide (p0 + v7.toNat < v8.length))
  (c23 (v3) (r0.snd) (IntKind.i64.wrap (v7 + 1)) (v8.set (p0 + v7.toNat) r0.fst))
  (none))
  (none))
  (none))
  (none))
  (none))
  (none))
  (none))
  (none))
  (none))
  (cond (decide ((↑p3.length : Int) < (↑p1 : Int)))
  (cond (decide (p0 + (↑p3.length : Int).toNat < v8.length))
  (cond (decide ((↑p3.length : Int) < (↑p1 : Int)))
  (cond (decide (p0 + (↑p3.length : Int).toNat < v8.length))
  (some ((IntKind.u32.wrap (IntKind.u32.wrap v3 - 1), v8.set (p0 + (↑p3.length : Int).toNat) (IntKind.u32.wrap (v8.getD (p0 + (↑p3.length : Int).toNat) (X.dflt 99) + v4)))))
  (none))
  (none))
  (none))
  (none))
theorem hk86 : ∀ v h' r, k86 v h' = some r → v = out86 r ∧ h' = outh86 r := by
  intro v h' r h
  unfold k86 at h
  split at h
  · injection h with h; subst h; exact ⟨rfl, rfl⟩
  · cases h
abbrev q86 : Prim U R86 := prims X [⟨96, fun _ => true, [], F96 S96⟩, ⟨97, fun _ => true, [], F97 S97⟩]
theorem s86 (c : Nat → S U → Option R86) (p0 p1 : Nat) (p2 p3 : TI) : seg TP X q86 [7, 12, 23] (fun q st => c q (keepD D86 (h86 p0 p1 p2 p3).length q st)) body86 (finH TP Tryd.f86.results.toList (h86 p0 p1 p2 p3).length false k86) (start [.view 0 99 p0 p1, .imm 99 p3] Tryd.f86.ntmps (h86 p0 p1 p2 p3)) = b86 p0 p1 p2 p3 (fun v4 v5 => c 7 (m86_7 p0 p1 p2 p3 v4 v5)) (fun v4 v5 v6 v9 v10 => c 12 (m86_12 p0 p1 p2 p3 v4 v5 v6 v9 v10)) (fun v3 v4 v7 v8 => c 23 (m86_23 p0 p1 p2 p3 v3 v4 v7 v8)) := by kernel_rfl
theorem s86_7 (c : Nat → S U → Option R86) (p0 p1 : Nat) (p2 p3 : TI) (v4 v5 : Int) : res TP X q86 [7, 12, 23] (fun q st => c q (keepD D86 (h86 p0 p1 p2 p3).length q st)) 7 body86 (finH TP Tryd.f86.results.toList (h86 p0 p1 p2 p3).length false k86) (m86_7 p0 p1 p2 p3 v4 v5) = b86_7 p0 p1 p2 p3 (fun v4 v5 => c 7 (m86_7 p0 p1 p2 p3 v4 v5)) (fun v4 v5 v6 v9 v10 => c 12 (m86_12 p0 p1 p2 p3 v4 v5 v6 v9 v10)) (fun v3 v4 v7 v8 => c 23 (m86_23 p0 p1 p2 p3 v3 v4 v7 v8)) v4 v5 := by kernel_rfl
theorem s86_12 (c : Nat → S U → Option R86) (p0 p1 : Nat) (p2 p3 : TI) (v4 v5 v6 v9 : Int) (v10 : TI) : res TP X q86 [7, 12, 23] (fun q st => c q (keepD D86 (h86 p0 p1 p2 p3).length q st)) 12 body86 (finH TP Tryd.f86.results.toList (h86 p0 p1 p2 p3).length false k86) (m86_12 p0 p1 p2 p3 v4 v5 v6 v9 v10) = b86_12 p0 p1 p2 p3 (fun v4 v5 => c 7 (m86_7 p0 p1 p2 p3 v4 v5)) (fun v4 v5 v6 v9 v10 => c 12 (m86_12 p0 p1 p2 p3 v4 v5 v6 v9 v10)) (fun v3 v4 v7 v8 => c 23 (m86_23 p0 p1 p2 p3 v3 v4 v7 v8)) v4 v5 v6 v9 v10 := by kernel_rfl
theorem s86_23 (c : Nat → S U → Option R86) (p0 p1 : Nat) (p2 p3 : TI) (v3 v4 v7 : Int) (v8 : TI) : res TP X q86 [7, 12, 23] (fun q st => c q (keepD D86 (h86 p0 p1 p2 p3).length q st)) 23 body86 (finH TP Tryd.f86.results.toList (h86 p0 p1 p2 p3).length false k86) (m86_23 p0 p1 p2 p3 v3 v4 v7 v8) = b86_23 p0 p1 p2 p3 (fun v4 v5 => c 7 (m86_7 p0 p1 p2 p3 v4 v5)) (fun v4 v5 v6 v9 v10 => c 12 (m86_12 p0 p1 p2 p3 v4 v5 v6 v9 v10)) (fun v3 v4 v7 v8 => c 23 (m86_23 p0 p1 p2 p3 v3 v4 v7 v8)) v3 v4 v7 v8 := by kernel_rfl
mutual
def f86_7 (p0 p1 : Nat) (p2 p3 : TI) : Nat → Int → (Int) → Option R86
  | 0 => fun _ _ => none
  | k + 1 => b86_7 p0 p1 p2 p3 (f86_7 p0 p1 p2 p3 k) (f86_12 p0 p1 p2 p3 k) (f86_23 p0 p1 p2 p3 k)
def f86_12 (p0 p1 : Nat) (p2 p3 : TI) : Nat → Int → (Int) → Int → (Int) → TI → Option R86
  | 0 => fun _ _ _ _ _ => none
  | k + 1 => b86_12 p0 p1 p2 p3 (f86_7 p0 p1 p2 p3 k) (f86_12 p0 p1 p2 p3 k) (f86_23 p0 p1 p2 p3 k)
def f86_23 (p0 p1 : Nat) (p2 p3 : TI) : Nat → Int → (Int) → Int → TI → Option R86
  | 0 => fun _ _ _ _ => none
  | k + 1 => b86_23 p0 p1 p2 p3 (f86_7 p0 p1 p2 p3 k) (f86_12 p0 p1 p2 p3 k) (f86_23 p0 p1 p2 p3 k)
end
def f86 (k p0 p1 : Nat) (p2 p3 : TI) : Option R86 := b86 p0 p1 p2 p3 (f86_7 p0 p1 p2 p3 k) (f86_12 p0 p1 p2 p3 k) (f86_23 p0 p1 p2 p3 k)
theorem e86 (p0 p1 : Nat) (p2 p3 : TI) : ∀ k, ((fun v4 v5 => cutG TP X q86 [7, 12, 23] D86 (h86 p0 p1 p2 p3).length body86 (finH TP Tryd.f86.results.toList (h86 p0 p1 p2 p3).length false k86) k 7 (m86_7 p0 p1 p2 p3 v4 v5)) = f86_7 p0 p1 p2 p3 k) ∧ ((fun v4 v5 v6 v9 v10 => cutG TP X q86 [7, 12, 23] D86 (h86 p0 p1 p2 p3).length body86 (finH TP Tryd.f86.results.toList (h86 p0 p1 p2 p3).length false k86) k 12 (m86_12 p0 p1 p2 p3 v4 v5 v6 v9 v10)) = f86_12 p0 p1 p2 p3 k) ∧ ((fun v3 v4 v7 v8 => cutG TP X q86 [7, 12, 23] D86 (h86 p0 p1 p2 p3).length body86 (finH TP Tryd.f86.results.toList (h86 p0 p1 p2 p3).length false k86) k 23 (m86_23 p0 p1 p2 p3 v3 v4 v7 v8)) = f86_23 p0 p1 p2 p3 k)
  | 0 => ⟨rfl, rfl, rfl⟩
  | k + 1 => by
    have ih := e86 p0 p1 p2 p3 k
    refine ⟨?_, ?_, ?_⟩
    · funext v4 v5
      refine (if_pos (by kernel_rfl)).trans ?_
      rw [s86_7]
      simp only [ih]
      rfl
    · funext v4 v5 v6 v9 v10
      refine (if_pos (by kernel_rfl)).trans ?_
      rw [s86_12]
      simp only [ih]
      rfl
    · funext v3 v4 v7 v8
      refine (if_pos (by kernel_rfl)).trans ?_
      rw [s86_23]
      simp only [ih]
      rfl
theorem pure86 (p0 p1 : Nat) (p2 p3 : TI) (pok : PrmOK TP X q86) (k : Nat) (r : R86) (h : f86 k p0 p1 p2 p3 = some r) : PureH TP X 86 [.view 0 99 p0 p1, .imm 99 p3] (h86 p0 p1 p2 p3) (out86 r) (outh86 r) :=
  pure_gen good k (fn := Tryd.f86) (body := body86) (prim := q86) (D := D86) (cuts := [7, 12, 23]) (h := h86 p0 p1 p2 p3) (own := false) (by kernel_rfl) (by kernel_rfl) (by decide +kernel) pok hk86 (by
    rw [s86]
    have ih := e86 p0 p1 p2 p3 k
    simp only [ih]
    exact h)
def F86 {R : Type} (spec : (Nat) → (Nat) → TI → TI → Option R86) : Fn U R := fun args h k => match args, h with | [.view 0 99 p0 p1, .imm 99 p3], [.row 99 p2] => (spec p0 p1 p2 p3).bind fun r => k (out86 r) (outh86 r) | _, _ => none
theorem ok86 {R : Type} (spec : (Nat) → (Nat) → TI → TI → Option R86) (hp : ∀ (p0 : Nat) (p1 : Nat) (p2 : TI) (p3 : TI) (r : R86), spec p0 p1 p2 p3 = some r → PureH TP X 86 [.view 0 99 p0 p1, .imm 99 p3] (h86 p0 p1 p2 p3) (out86 r) (outh86 r)) : FnOK TP X 86 (F86 spec : Fn U R) := by
  intro args h k r hh
  unfold F86 at hh
  split at hh
  · obtain ⟨x, h1, h2⟩ := Option.bind_eq_some_iff.1 hh
    exact ⟨_, _, h2, hp _ _ _ _ _ h1⟩
  · cases hh
theorem pok86 : PrmOK TP X q86 := prims_cons good okS96 (prims_cons good okS97 (prims_nil TP X mixed))
noncomputable def S86 (p0 p1 : Nat) (p2 p3 : TI) : Option R86 := evv fun k => f86 k p0 p1 p2 p3
theorem okS86 {R : Type} : FnOK TP X 86 (F86 S86 : Fn U R) := ok86 S86 fun p0 p1 p2 p3 r h => by
  obtain ⟨k, hk⟩ := evv_fuel h
  exact pure86 p0 p1 p2 p3 pok86 k r hk
abbrev R88 : Type := TI
noncomputable def body88 : Go.Code := (Tryd.f88.body).getD Go.Code.skip
def h88 (p0 : TI) (p1 : Int) : List (AO U) := []
def k88 : AV U → List (AO U) → Option R88 := fun v h => match v, h with | AV.imm 99 x0, [] => some x0 | _, _ => none
def out88 : R88 → AV U := fun x0 => AV.imm 99 x0
def outh88 : R88 → List (AO U) := fun x0 => []
def D88 : Nat → Dir := dirs [(3, ⟨[0, 1, 5, 11, 12, 13], [], [], []⟩)]
def b88 (p0 : TI) (p1 : Int) (c3 : (Int) → TI → Option R88)  : Option R88 :=
  cond (decide ((↑p0.length : Int) ≤ (↑p0.length : Int)))
  (cond (decide ((↑p0.length : Int) * (↑4 : Int) ≤ 140737488355328))
  (c3 (0) (repI (↑p0.length : Int).toNat 0))
  (none))
  (none)
def m88_3 (p0 : TI) (p1 v4 : Int) (v5 : TI) : S U := S.mk [AV.imm 99 p0, AV.int IntKind.i64 p1, AV.undef, AV.undef, AV.undef, AV.row 0 99, AV.undef, AV.undef, AV.undef, AV.undef, AV.undef, AV.imm 99 p0, AV.int IntKind.i64 (↑p0.length : Int), AV.int IntKind.i64 v4, AV.undef, AV.undef, AV.undef, AV.undef, AV.undef, AV.undef, AV.undef, AV.undef, AV.undef, AV.undef, AV.undef, AV.undef, AV.undef, AV.undef, AV.undef, AV.undef, AV.undef, AV.undef, AV.undef, AV.undef, AV.undef, AV.undef, AV.undef, AV.undef, AV.undef, AV.undef, AV.undef, AV.undef, AV.undef, AV.undef, AV.undef, AV.undef, AV.undef, AV.undef, AV.undef, AV.undef] [AO.row 99 v5]
def b88_3 (p0 : TI) (p1 : Int) (c3 : (Int) → TI → Option R88) (v4 : Int) (v5 : TI) : Option R88 :=
  cond (decide (v4 < (↑p0.length : Int)))
  (cond (decide (0 ≤ v4))
  (cond (decide (v4 < (↑p0.length : Int)))
  (cond (decide (v4.toNat < p0.length))
  (cond (decide (0 ≤ p1))
  (cond (decide (0 ≤ v4))
  (cond (decide (v4 < (↑v5.length : Int)))
  (cond (decide (v4.toNat < v5.length))
  (cond (decide (IntKind.i64.wrap (v4 + 1) < (↑p0.length : Int)))
  (cond (decide (p1 > 0))
  (cond (decide (0 ≤ v4))
  (cond (decide (v4 < (↑(v5.set v4.toNat (shr IntKind.u32 (p0.getD v4.toNat (X.dflt 99)) p1)).length : Int)))
  (cond (decide (v4.toNat < (v5.set v4.toNat (shr IntKind.u32 (p0.getD v4.toNat (X.dflt 99)) p1)).length))
  (cond (decide (0 ≤ IntKind.i64.wrap (v4 + 1)))
  (cond (decide (IntKind.i64.wrap (v4 + 1) < (↑p0.length : Int)))
  (cond (decide ((IntKind.i64.wrap (v4 + 1)).toNat < p0.length))
  (cond (decide (0 ≤ IntKind.i64.wrap (32 - p1)))
  (cond (decide (0 ≤ v4))
  (cond (decide (v4 < (↑(v5.set v4.toNat (shr IntKind.u32 (p0.getD v4.toNat (X.dflt 99)) p1)).length : Int)))
  (cond (decide (v4.toNat < (v5.set v4.toNat (shr IntKind.u32 (p0.getD v4.toNat (X.dflt 99)) p1)).length))
  (c3 (IntKind.i64.wrap (v4 + 1)) ((v5.set v4.toNat (shr IntKind.u32 (p0.getD v4.toNat (X.dflt 99)) p1)).set v4.toNat (Go.bits Go.BinOp.or IntKind.u32 ((v5.set v4.toNat (shr IntKind.u32 (p0.getD v4.toNat (X.dflt 99)) p1)).getD v4.toNat (X.dflt 99)) (shl IntKind.u32 (p0.getD (IntKind.i64.wrap (v4 + 1)).toNat (X.dflt 99)) (IntKind.i64.wrap (32 - p1))))))
  (none))
  (none))
  (none))
  (none))
  (none))
  (none))
  (none))
  (none))
  (none))
  (none))
  (c3 (IntKind.i64.wrap (v4 + 1)) (v5.set v4.toNat (shr IntKind.u32 (p0.getD v4.toNat (X.dflt 99)) p1))))
  (c3 (IntKind.i64.wrap (v4 + 1)) (v5.set v4.toNat (shr IntKind.u32 (p0.getD v4.toNat (X.dflt 99)) p1))))
  (none))
  (none))
  (none))
  (none))
  (none))
  (none))
  (none))
  ((S87 v5).bind fun r0 =>
  some (r0))
theorem hk88 : ∀ v h' r, k88 v h' = some r → v = out88 r ∧ h' = outh88 r := by
  intro v h' r h
  unfold k88 at h
  split at h
  · injection h with h; subst h; exact ⟨rfl, rfl⟩
  · cases h
abbrev q88 : Prim U R88 := prims X [⟨87, fun _ => true, [.frz], F87 S87⟩]
theorem s88 (c : Nat → S U → Option R88) (p0 : TI) (p1 : Int) : seg TP X q88 [3] (fun q st => c q (keepD D88 (h88 p0 p1).length q st)) body88 (finH TP Tryd.f88.results.toList (h88 p0 p1).length false k88) (start [.imm 99 p0, .int .i64 p1] Tryd.f88.ntmps (h88 p0 p1)) = b88 p0 p1 (fun v4 v5 => c 3 (m88_3 p0 p1 v4 v5)) := by kernel_rfl
theorem s88_3 (c : Nat → S U → Option R88) (p0 : TI) (p1 v4 : Int) (v5 : TI) : res TP X q88 [3] (fun q st => c q (keepD D88 (h88 p0 p1).length q st)) 3 body88 (finH TP Tryd.f88.results.toList (h88 p0 p1).length false k88) (m88_3 p0 p1 v4 v5) = b88_3 p0 p1 (fun v4 v5 => c 3 (m88_3 p0 p1 v4 v5)) v4 v5 := by kernel_rfl
def f88_3 (p0 : TI) (p1 : Int) : Nat → Int → TI → Option R88
  | 0 => fun _ _ => none
  | k + 1 => b88_3 p0 p1 (f88_3 p0 p1 k)
def f88 (k : Nat) (p0 : TI) (p1 : Int) : Option R88 := b88 p0 p1 (f88_3 p0 p1 k)
theorem e88 (p0 : TI) (p1 : Int) : ∀ k, ((fun v4 v5 => cutG TP X q88 [3] D88 (h88 p0 p1).length body88 (finH TP Tryd.f88.results.toList (h88 p0 p1).length false k88) k 3 (m88_3 p0 p1 v4 v5)) = f88_3 p0 p1 k)
  | 0 => rfl
  | k + 1 => by
    have ih := e88 p0 p1 k
    · funext v4 v5
      refine (if_pos (by kernel_rfl)).trans ?_
      rw [s88_3]
      simp only [ih]
      rfl
theorem pure88 (p0 : TI) (p1 : Int) (pok : PrmOK TP X q88) (k : Nat) (r : R88) (h : f88 k p0 p1 = some r) : PureH TP X 88 [.imm 99 p0, .int .i64 p1] (h88 p0 p1) (out88 r) (outh88 r) :=
  pure_gen good k (fn := Tryd.f88) (body := body88) (prim := q88) (D := D88) (cuts := [3]) (h := h88 p0 p1) (own := false) (by kernel_rfl) (by kernel_rfl) (by decide +kernel) pok hk88 (by
    rw [s88]
    have ih := e88 p0 p1 k
    simp only [ih]
    exact h)
def F88 {R : Type} (spec : TI → Int → Option R88) : Fn U R := fun args h k => match args, h with | [.imm 99 p0, .int .i64 p1], [] => (spec p0 p1).bind fun r => k (out88 r) (outh88 r) | _, _ => none
theorem ok88 {R : Type} (spec : TI → Int → Option R88) (hp : ∀ (p0 : TI) (p1 : Int) (r : R88), spec p0 p1 = some r → PureH TP X 88 [.imm 99 p0, .int .i64 p1] (h88 p0 p1) (out88 r) (outh88 r)) : FnOK TP X 88 (F88 spec : Fn U R) := by
  intro args h k r hh
  unfold F88 at hh
  split at hh
  · obtain ⟨x, h1, h2⟩ := Option.bind_eq_some_iff.1 hh
    exact ⟨_, _, h2, hp _ _ _ h1⟩
  · cases hh
theorem pok88 : PrmOK TP X q88 := prims_cons good okS87 (prims_nil TP X mixed)
noncomputable def S88 (p0 : TI) (p1 : Int) : Option R88 := evv fun k => f88 k p0 p1
theorem okS88 {R : Type} : FnOK TP X 88 (F88 S88 : Fn U R) := ok88 S88 fun p0 p1 r h => by
  obtain ⟨k, hk⟩ := evv_fuel h
  exact pure88 p0 p1 pok88 k r hk
abbrev R65 : Type := TI
noncomputable def body65 : Go.Code := (Tryd.f65.body).getD Go.Code.skip
def h65 (p0 p1 : TI) (p2 p3 : Int) : List (AO U) := []
def k65 : AV U → List (AO U) → Option R65 := fun v h => match v, h with | AV.imm 99 x0, [] => some x0 | _, _ => none
def out65 : R65 → AV U := fun x0 => AV.imm 99 x0
def outh65 : R65 → List (AO U) := fun x0 => []
def D65 : Nat → Dir := dirs [(4, ⟨[0, 1, 2, 3, 9, 10, 19, 20], [], [], []⟩)]
def b65 (p0 p1 : TI) (p2 p3 : Int) (c4 : (Int) → Int → TI → Option R65)  : Option R65 :=
  cond (decide (0 ≤ IntKind.i64.wrap ((↑p0.length : Int) + 1)))
  (cond (decide (IntKind.i64.wrap ((↑p0.length : Int) + 1) ≤ IntKind.i64.wrap ((↑p0.length : Int) + 1)))
  (cond (decide (IntKind.i64.wrap ((↑p0.length : Int) + 1) * (↑4 : Int) ≤ 140737488355328))
  (c4 (0) (0) (repI (IntKind.i64.wrap ((↑p0.length : Int) + 1)).toNat 0))
  (none))
  (none))
  (none)
def m65_4 (p0 p1 : TI) (p2 p3 v4 v6 : Int) (v7 : TI) : S U := S.mk [AV.imm 99 p0, AV.imm 99 p1, AV.int IntKind.i64 p2, AV.int IntKind.i64 p3, AV.undef, AV.undef, AV.undef, AV.undef, AV.undef, AV.row 0 99, AV.int IntKind.i64 v4, AV.undef, AV.undef, AV.undef, AV.undef, AV.undef, AV.undef, AV.undef, AV.undef, AV.int IntKind.i64 (↑(repI (IntKind.i64.wrap ((↑p0.length : Int) + 1)).toNat 0).length : Int), AV.int IntKind.i64 v6, AV.undef, AV.undef, AV.undef, AV.undef, AV.undef, AV.undef, AV.undef, AV.undef, AV.undef, AV.undef, AV.undef, AV.undef, AV.undef, AV.undef, AV.undef, AV.undef, AV.undef, AV.undef, AV.undef, AV.undef, AV.undef, AV.undef, AV.undef, AV.undef, AV.undef, AV.undef, AV.undef, AV.undef, AV.undef, AV.undef, AV.undef, AV.undef, AV.undef, AV.undef, AV.undef, AV.undef, AV.undef, AV.undef, AV.undef] [AO.row 99 v7]
def b65_4 (p0 p1 : TI) (p2 p3 : Int) (c4 : (Int) → Int → TI → Option R65) (v4 v6 : Int) (v7 : TI) : Option R65 :=
  cond (decide (v6 < (↑(repI (IntKind.i64.wrap ((↑p0.length : Int) + 1)).toNat 0).length : Int)))
  (cond (decide (v6 < (↑p0.length : Int)))
  (cond (decide (0 ≤ v6))
  (cond (decide (v6 < (↑p0.length : Int)))
  (cond (decide (v6.toNat < p0.length))
  (cond (decide (v6 < (↑p1.length : Int)))
  (cond (decide (0 ≤ v6))
  (cond (decide (v6 < (↑p1.length : Int)))
  (cond (decide (v6.toNat < p1.length))
  (cond (decide (0 ≤ v6))
  (cond (decide (v6 < (↑v7.length : Int)))
  (cond (decide (v6.toNat < v7.length))
  (c4 (shr IntKind.i64 (IntKind.i64.wrap (v4 + IntKind.i64.wrap (IntKind.i64.wrap (p2 * IntKind.i64.wrap (p0.getD v6.toNat (X.dflt 99))) + IntKind.i64.wrap (p3 * IntKind.i64.wrap (p1.getD v6.toNat (X.dflt 99)))))) 32) (IntKind.i64.wrap (v6 + 1)) (v7.set v6.toNat (IntKind.u32.wrap (IntKind.i64.wrap (v4 + IntKind.i64.wrap (IntKind.i64.wrap (p2 * IntKind.i64.wrap (p0.getD v6.toNat (X.dflt 99))) + IntKind.i64.wrap (p3 * IntKind.i64.wrap (p1.getD v6.toNat (X.dflt 99)))))))))
  (none))
  (none))
  (none))
  (none))
  (none))
  (none))
  (cond (decide (0 ≤ v6))
  (cond (decide (v6 < (↑v7.length : Int)))
  (cond (decide (v6.toNat < v7.length))
  (c4 (shr IntKind.i64 (IntKind.i64.wrap (v4 + IntKind.i64.wrap (IntKind.i64.wrap (p2 * IntKind.i64.wrap (p0.getD v6.toNat (X.dflt 99))) + IntKind.i64.wrap (p3 * 0)))) 32) (IntKind.i64.wrap (v6 + 1)) (v7.set v6.toNat (IntKind.u32.wrap (IntKind.i64.wrap (v4 + IntKind.i64.wrap (IntKind.i64.wrap (p2 * IntKind.i64.wrap (p0.getD v6.toNat (X.dflt 99))) + IntKind.i64.wrap (p3 * 0)))))))
  (none))
  (none))
  (none)))
  (none))
  (none))
  (none))
  (cond (decide (v6 < (↑p1.length : Int)))
  (cond (decide (0 ≤ v6))
  (cond (decide (v6 < (↑p1.length : Int)))
  (cond (decide (v6.toNat < p1.length))
  (cond (decide (0 ≤ v6))
  (cond (decide (v6 < (↑v7.length : Int)))
  (cond (decide (v6.toNat < v7.length))
  (c4 (shr IntKind.i64 (IntKind.i64.wrap (v4 + IntKind.i64.wrap (IntKind.i64.wrap (p2 * 0) + IntKind.i64.wrap (p3 * IntKind.i64.wrap (p1.getD v6.toNat (X.dflt 99)))))) 32) (IntKind.i64.wrap (v6 + 1)) (v7.set v6.toNat (IntKind.u32.wrap (IntKind.i64.wrap (v4 + IntKind.i64.wrap (IntKind.i64.wrap (p2 * 0) + IntKind.i64.wrap (p3 * IntKind.i64.wrap (p1.getD v6.toNat (X.dflt 99)))))))))
  (none))
  (none))
  (none))
  (none))
  (none))
  (none))
  (cond (decide (0 ≤ v6))
  (cond (decide (v6 < (↑v7.length : Int)))
  (cond (decide (v6.toNat < v7.length))
  (c4 (shr IntKind.i64 (IntKind.i64.wrap (v4 + IntKind.i64.wrap (IntKind.i64.wrap (p2 * 0) + IntKind.i64.wrap (p3 * 0)))) 32) (IntKind.i64.wrap (v6 + 1)) (v7.set v6.toNat (IntKind.u32.wrap (IntKind.i64.wrap (v4 + IntKind.i64.wrap (IntKind.i64.wrap (p2 * 0) + IntKind.i64.wrap (p3 * 0)))))))
  (none))
  (none))
  (none))))
  ((S87 v7).bind fun r0 =>
  some (r0))
theorem hk65 : ∀ v h' r, k65 v h' = some r → v = out65 r ∧ h' = outh65 r := by
  intro v h' r h
  unfold k65 at h
  split at h
  · injection h with h; subst h; exact ⟨rfl, rfl⟩
  · cases h
abbrev q65 : Prim U R65 := prims X [⟨87, fun _ => true, [.frz], F87 S87⟩]
theorem s65 (c : Nat → S U → Option R65) (p0 p1 : TI) (p2 p3 : Int) : seg TP X q65 [4] (fun q st => c q (keepD D65 (h65 p0 p1 p2 p3).length q st)) body65 (finH TP Tryd.f65.results.toList (h65 p0 p1 p2 p3).length false k65) (start [.imm 99 p0, .imm 99 p1, .int .i64 p2, .int .i64 p3] Tryd.f65.ntmps (h65 p0 p1 p2 p3)) = b65 p0 p1 p2 p3 (fun v4 v6 v7 => c 4 (m65_4 p0 p1 p2 p3 v4 v6 v7)) := by kernel_rfl
theorem s65_4 (c : Nat → S U → Option R65) (p0 p1 : TI) (p2 p3 v4 v6 : Int) (v7 : TI) : res TP X q65 [4] (fun q st => c q (keepD D65 (h65 p0 p1 p2 p3).length q st)) 4 body65 (finH TP Tryd.f65.results.toList (h65 p0 p1 p2 p3).length false k65) (m65_4 p0 p1 p2 p3 v4 v6 v7) = b65_4 p0 p1 p2 p3 (fun v4 v6 v7 => c 4 (m65_4 p0 p1 p2 p3 v4 v6 v7)) v4 v6 v7 := by kernel_rfl
def f65_4 (p0 p1 : TI) (p2 p3 : Int) : Nat → Int → (Int) → TI → Option R65
  | 0 => fun _ _ _ => none
  | k + 1 => b65_4 p0 p1 p2 p3 (f65_4 p0 p1 p2 p3 k)
def f65 (k : Nat) (p0 p1 : TI) (p2 p3 : Int) : Option R65 := b65 p0 p1 p2 p3 (f65_4 p0 p1 p2 p3 k)
theorem e65 (p0 p1 : TI) (p2 p3 : Int) : ∀ k, ((fun v4 v6 v7 => cutG TP X q65 [4] D65 (h65 p0 p1 p2 p3).length body65 (finH TP Tryd.f65.results.toList (h65 p0 p1 p2 p3).length false k65) k 4 (m65_4 p0 p1 p2 p3 v4 v6 v7)) = f65_4 p0 p1 p2 p3 k)
  | 0 => rfl
  | k + 1 => by
    have ih := e65 p0 p1 p2 p3 k
    · funext v4 v6 v7
      refine (if_pos (by kernel_rfl)).trans ?_
      rw [s65_4]
      simp only [ih]
      rfl
theorem pure65 (p0 p1 : TI) (p2 p3 : Int) (pok : PrmOK TP X q65) (k : Nat) (r : R65) (h : f65 k p0 p1 p2 p3 = some r) : PureH TP X 65 [.imm 99 p0, .imm 99 p1, .int .i64 p2, .int .i64 p3] (h65 p0 p1 p2 p3) (out65 r) (outh65 r) :=
  pure_gen good k (fn := Tryd.f65) (body := body65) (prim := q65) (D := D65) (cuts := [4]) (h := h65 p0 p1 p2 p3) (own := false) (by kernel_rfl) (by kernel_rfl) (by decide +kernel) pok hk65 (by
    rw [s65]
    have ih := e65 p0 p1 p2 p3 k
    simp only [ih]
    exact h)
def F65 {R : Type} (spec : TI → TI → Int → (Int) → Option R65) : Fn U R := fun args h k => match args, h with | [.imm 99 p0, .imm 99 p1, .int .i64 p2, .int .i64 p3], [] => (spec p0 p1 p2 p3).bind fun r => k (out65 r) (outh65 r) | _, _ => none
theorem ok65 {R : Type} (spec : TI → TI → Int → (Int) → Option R65) (hp : ∀ (p0 : TI) (p1 : TI) (p2 : Int) (p3 : Int) (r : R65), spec p0 p1 p2 p3 = some r → PureH TP X 65 [.imm 99 p0, .imm 99 p1, .int .i64 p2, .int .i64 p3] (h65 p0 p1 p2 p3) (out65 r) (outh65 r)) : FnOK TP X 65 (F65 spec : Fn U R) := by
  intro args h k r hh
  unfold F65 at hh
  split at hh
  · obtain ⟨x, h1, h2⟩ := Option.bind_eq_some_iff.1 hh
    exact ⟨_, _, h2, hp _ _ _ _ _ h1⟩
  · cases hh
theorem pok65 : PrmOK TP X q65 := prims_cons good okS87 (prims_nil TP X mixed)
noncomputable def S65 (p0 p1 : TI) (p2 p3 : Int) : Option R65 := evv fun k => f65 k p0 p1 p2 p3
theorem okS65 {R : Type} : FnOK TP X 65 (F65 S65 : Fn U R) := ok65 S65 fun p0 p1 p2 p3 r h => by
  obtain ⟨k, hk⟩ := evv_fuel h
  exact pure65 p0 p1 p2 p3 pok65 k r hk
end
end Go.Abs.Z
namespace Go.Abs.Z
open Go Go.Abs Limb
theorem loop87h (p0 : List Int) (h : p0.length < 4611686018427387904) : ∀ n : Nat, n ≤ p0.length → Evt (fun k => f87h_2 p0 k (n : Int)) (p0.take (tn p0 n))
  | 0, _ => Evt.last fun k => by
    show b87h_2 p0 (f87h_2 p0 k) ((0 : Nat) : Int) = _
    unfold b87h_2
    simp (disch := omega) only [cT, cF]
    rfl
  | n + 1, hn => by
    have e0 : IntKind.i64.wrap (((n + 1 : Nat) : Int) - 1) = (n : Int) := by rw [wi64] <;> omega
    by_cases hz : p0.getD n 0 = 0
    · have et : tn p0 (n + 1) = tn p0 n := by show (if _ then _ else _) = _; rw [if_pos hz]
      rw [et]
      refine Evt.step (loop87h p0 h n (by omega)) fun k => ?_
      show b87h_2 p0 (f87h_2 p0 k) ((n + 1 : Nat) : Int) = _
      unfold b87h_2
      rw [e0]
      simp only [Int.toNat_natCast, dflt99]
      simp (disch := omega) only [cT, cF, cE]
    · have et : tn p0 (n + 1) = n + 1 := by show (if _ then _ else _) = _; rw [if_neg hz]
      rw [et]
      refine Evt.last fun k => ?_
      show b87h_2 p0 (f87h_2 p0 k) ((n + 1 : Nat) : Int) = _
      unfold b87h_2
      rw [e0]
      simp only [Int.toNat_natCast, dflt99]
      simp (disch := omega) only [cT, cF, cN]
      rfl
theorem run87h {p0 : List Int} (h : p0.length < 4611686018427387904) : S87h p0 = some (trimL p0) := evv_eq (loop87h p0 h p0.length (Nat.le_refl _))
theorem trimmed {l : List Int} (h : Ok l) (hl : l.length < 4611686018427387904) : ∃ r, S87 l = some r ∧ Is r (val l) := ⟨_, run87 hl, trim_is h⟩
theorem trimmedH {l : List Int} (h : Ok l) (hl : l.length < 4611686018427387904) : ∃ r, S87h l = some r ∧ Is r (val l) := ⟨_, run87h hl, trim_is h⟩
theorem shr64 {x : Int} (s : Nat) (hs : s ≤ 64) : shr .u64 x (s : Int) = x / 2 ^ s := by
  unfold shr
  have : min (s : Int).toNat IntKind.u64.bits = s := by
    rw [Int.toNat_natCast]
    exact Nat.min_eq_left hs
  rw [this, Int.fdiv_eq_ediv_of_nonneg _ (Int.le_of_lt (Int.pow_pos (by decide)))]
theorem shl64 {x : Int} (s : Nat) (hs : s ≤ 64) : shl .u64 x (s : Int) = x * 2 ^ s % 18446744073709551616 := by
  unfold shl
  have : min (s : Int).toNat IntKind.u64.bits = s := by
    rw [Int.toNat_natCast]
    exact Nat.min_eq_left hs
  rw [this, wu64]
theorem run67 {x : Int} (h0 : 0 ≤ x) (h1 : x < 18446744073709551616) : ∃ r, S67 x = some r ∧ Is r x := by
  have e : shr .u64 x 32 = x / 4294967296 := shr64 32 (by decide)
  obtain ⟨r, h2, h3⟩ := trimmed (l := [x % 4294967296, x / 4294967296 % 4294967296]) (Ok.mk (by omega) (by omega) (Ok.mk (by omega) (by omega) Ok.nil)) (by simp)
  refine ⟨r, evv_eq (Evt.now fun k => ?_), ?_⟩
  · show b67 x = _
    unfold b67
    rw [e, wu32, wu32, h2]; rfl
  · have : val [x % 4294967296, x / 4294967296 % 4294967296] = x := by simp only [val]; omega
    rw [this] at h3; exact h3
theorem P_two (n : Nat) : P n = 2 ^ (32 * n) := by
  unfold P
  rw [Int.pow_mul]; rfl
theorem top_split {l : List Int} (h : l ≠ []) : val l = val (l.take (l.length - 1)) + l.getD (l.length - 1) 0 * P (l.length - 1) := by
  have hl : 0 < l.length := List.length_pos_iff.2 h
  have e := val_take_succ l (l.length - 1) (by omega)
  rwa [show l.length - 1 + 1 = l.length from by omega, List.take_length] at e
theorem top_div {l : List Int} (ho : Ok l) (h : l ≠ []) : l.getD (l.length - 1) 0 = val l / P (l.length - 1) := by
  have e := top_split h
  have b := val_bound (ho.take (l.length - 1))
  have hlen : (l.take (l.length - 1)).length = l.length - 1 := by simp
  rw [hlen] at b
  rw [e, Int.add_mul_ediv_right _ _ (by have := P_pos (l.length - 1); omega), Int.ediv_eq_zero_of_lt b.1 b.2]
  omega
theorem getD_ok {l : List Int} (h : Ok l) (i : Nat) : 0 ≤ l.getD i 0 ∧ l.getD i 0 < 4294967296 := by
  have := h.rd (i : Int)
  unfold Limb.rd at this
  simpa using this
theorem run81 {a : List Int} {v : Int} (ha : Is a v) (hl : a.length ≤ 1073741824) : ∃ n : Int, S81 a = some n ∧ BL v n ∧ n ≤ 32 * a.length := by
  by_cases h : a = []
  · refine ⟨0, evv_eq (Evt.now fun k => ?_), ?_, ?_⟩
    · show b81 a = _
      unfold b81
      rw [h]; rfl
    · have : v = 0 := by rw [← ha.val, h]; rfl
      rw [this]; exact ⟨by decide, by decide, .inl rfl⟩
    · omega
  · have hlen : 0 < a.length := List.length_pos_iff.2 h
    have ht := getD_ok ha.ok (a.length - 1)
    obtain ⟨n, h1, h2, h3, h4⟩ := run94 ht.1 ht.2
    have e0 : IntKind.i64.wrap ((a.length : Int) - 1) = ((a.length - 1 : Nat) : Int) := by rw [wi64] <;> omega
    refine ⟨n + (32 * (a.length - 1) : Nat), evv_eq (Evt.now fun k => ?_), ?_, by omega⟩
    · show b81 a = _
      unfold b81
      rw [e0]
      simp only [Int.toNat_natCast, dflt99]
      rw [h1]
      simp (disch := omega) only [cT, cF, cN, Option.bind_some, wi64]
      refine congrArg some ?_
      show 32 * ((a.length - 1 : Nat) : Int) + n = n + ((32 * (a.length - 1) : Nat) : Int)
      omega
    · refine h4.shift (s := 32 * (a.length - 1)) ?_ ?_
      · rcases ha.norm with h' | h'
        · exact absurd h' h
        · omega
      · rw [← P_two, ← ha.val]; exact top_div ha.ok h
theorem run84 {x : Int} (h0 : 0 ≤ x) (h1 : x < 4294967296) : ∃ n : Int, S84 x = some (32 - n) ∧ 0 ≤ n ∧ n ≤ 32 ∧ BL x n := by
  obtain ⟨n, a, b, c, d⟩ := run94 h0 h1
  refine ⟨n, evv_eq (Evt.now fun k => ?_), b, c, d⟩
  show b84 x = _
  unfold b84
  rw [a]
  simp (disch := omega) only [Option.bind_some, wi64]
theorem drop_val (l : List Int) (i : Nat) (h : i < l.length) : val (l.drop i) = l.getD i 0 + 4294967296 * val (l.drop (i + 1)) := by
  rw [List.drop_eq_getElem_cons h, List.getD_eq_getElem?_getD, List.getElem?_eq_getElem h]; rfl
theorem loop66 {p0 : List Int} (ho : Ok p0) (hl : p0.length ≤ 2) : ∀ n : Nat, n ≤ p0.length → Evt (fun k => f66_3 p0 k (val (p0.drop n)) ((n : Int) - 1)) (val p0)
  | 0, _ => Evt.last fun k => by
    show b66_3 p0 (f66_3 p0 k) (val (p0.drop 0)) (((0 : Nat) : Int) - 1) = _
    unfold b66_3
    simp (disch := omega) only [cF]
    rfl
  | n + 1, hn => by
    refine Evt.step (loop66 ho hl n (by omega)) fun k => ?_
    show b66_3 p0 (f66_3 p0 k) (val (p0.drop (n + 1))) (((n + 1 : Nat) : Int) - 1) = _
    unfold b66_3
    have e1 : (((n + 1 : Nat) : Int) - 1) = (n : Int) := by omega
    have e2 : IntKind.i64.wrap ((n : Int) - 1) = (n : Int) - 1 := by rw [wi64] <;> omega
    rw [e1, e2]
    simp only [Int.toNat_natCast, dflt99]
    simp (disch := omega) only [cT, cF]
    have b := val_bound (ho.drop (n + 1))
    have hb : val (p0.drop (n + 1)) < 4294967296 := by
      have hp := P_mono (m := (p0.drop (n + 1)).length) (n := 1) (by simp; omega)
      have : P 1 = 4294967296 := by rfl
      omega
    have g := getD_ok ho n
    have es : shl .u64 (val (p0.drop (n + 1))) 32 = val (p0.drop (n + 1)) * 2 ^ 32 := by
      refine (shl64 32 (by decide)).trans ?_
      omega
    have ew : IntKind.u64.wrap (p0.getD n 0) = p0.getD n 0 := by rw [wu64]; omega
    rw [es, ew, or_low b.1 g.1 (by omega) (by omega), drop_val p0 n (by omega)]
    congr 1
    omega
theorem run66 {p0 : List Int} (ho : Ok p0) (hl : p0.length ≤ 2) : S66 p0 = some (val p0) := evv_eq (by
  refine (loop66 ho hl p0.length (Nat.le_refl _)).same fun k => ?_
  show b66 p0 (f66_3 p0 k) = _
  unfold b66
  have e2 : IntKind.i64.wrap ((p0.length : Int) - 1) = (p0.length : Int) - 1 := by rw [wi64] <;> omega
  rw [e2, List.drop_length]; rfl)
end Go.Abs.Z
namespace Limb
theorem drop_set_lt (l : List Int) (i j : Nat) (x : Int) (h : i < j) : (l.set i x).drop j = l.drop j := by
  apply List.ext_getElem?
  intro k
  rw [List.getElem?_drop, List.getElem?_drop, List.getElem?_set_ne (by omega)]
theorem getD_set_self (l : List Int) (i : Nat) (x : Int) (h : i < l.length) : (l.set i x).getD i 0 = x := by
  rw [List.getD_eq_getElem?_getD, List.getElem?_set_self h]; rfl
theorem getD_set_other (l : List Int) (i j : Nat) (x : Int) (h : i ≠ j) : (l.set i x).getD j 0 = l.getD j 0 := by
  rw [List.getD_eq_getElem?_getD, List.getElem?_set_ne h, ← List.getD_eq_getElem?_getD]
theorem getD_replicate (n i : Nat) : (List.replicate n (0 : Int)).getD i 0 = 0 := by
  rw [List.getD_eq_getElem?_getD, List.getElem?_replicate]; split <;> rfl
end Limb
namespace Go.Abs.Z
open Go Go.Abs Limb
theorem loop83 {a : List Int} {d : Int} (ha : Ok a) (hl : a.length ≤ 1073741824) (hd : 0 < d) (hd' : d < 4294967296) : ∀ (n : Nat) (q : List Int) (r : Int), n ≤ a.length → Ok q → q.length = a.length → 0 ≤ r → r < d → val (a.drop n) = val (q.drop n) * d + r →
    ∃ rq, Evt (fun k => f83_4 a d k r ((n : Int) - 1) q) (rq, val a % d) ∧ Is rq (val a / d)
  | 0, q, r, _, hq, hql, h0, h1, he => by
    obtain ⟨rq, h2, h3⟩ := trimmed hq (by omega)
    rw [List.drop_zero, List.drop_zero] at he
    have e1 : val a / d = val q := by rw [he, Int.add_comm, Int.add_mul_ediv_right _ _ (by omega), Int.ediv_eq_zero_of_lt h0 h1]; omega
    have e2 : val a % d = r := by rw [he, Int.add_comm, Int.add_mul_emod_self_right, Int.emod_eq_of_lt h0 h1]
    refine ⟨rq, ?_, by rw [e1]; exact h3⟩
    rw [e2]
    refine Evt.last fun k => ?_
    show b83_4 a d (f83_4 a d k) r (((0 : Nat) : Int) - 1) q = _
    unfold b83_4
    simp (disch := omega) only [cF]
    rw [h2]; rfl
  | n + 1, q, r, hn, hq, hql, h0, h1, he => by
    have e1 : (((n + 1 : Nat) : Int) - 1) = (n : Int) := by omega
    have e2 : IntKind.i64.wrap ((n : Int) - 1) = (n : Int) - 1 := by rw [wi64] <;> omega
    have g := getD_ok ha n
    have p0 : 0 ≤ (r * 4294967296 + a.getD n 0) / d := Int.ediv_nonneg (by omega) (by omega)
    have p1 : (r * 4294967296 + a.getD n 0) / d < 4294967296 := by
      refine Int.ediv_lt_of_lt_mul (by omega) ?_
      have : (r + 1) * 4294967296 ≤ d * 4294967296 := Int.mul_le_mul_of_nonneg_right (by omega) (by decide)
      rw [Int.mul_comm 4294967296 d]
      omega
    have q0 : 0 ≤ (r * 4294967296 + a.getD n 0) % d := Int.emod_nonneg _ (by omega)
    have q1 : (r * 4294967296 + a.getD n 0) % d < d := Int.emod_lt_of_pos _ (by omega)
    have em := Int.mul_ediv_add_emod (r * 4294967296 + a.getD n 0) d
    obtain ⟨rq, h2, h3⟩ := loop83 ha hl hd hd' n (q.set n ((r * 4294967296 + a.getD n 0) / d)) ((r * 4294967296 + a.getD n 0) % d) (by omega) (hq.set n p0 p1) (by simpa using hql) q0 q1 (by
      rw [drop_val a n (by omega), drop_val _ n (by simp; omega), drop_set_lt _ _ _ _ (by omega), getD_set_self _ _ _ (by omega), he]
      generalize (r * 4294967296 + a.getD n 0) / d = Q at *
      generalize (r * 4294967296 + a.getD n 0) % d = M at *
      generalize val (q.drop (n + 1)) = V at *
      grind)
    refine ⟨rq, h2.step fun k => ?_, h3⟩
    show b83_4 a d (f83_4 a d k) r (((n + 1 : Nat) : Int) - 1) q = _
    unfold b83_4
    rw [e1, e2]
    simp only [Int.toNat_natCast, dflt99]
    rw [run95 h0 g.1 g.2 hd' h1]
    simp (disch := omega) only [cT, cF, Option.bind_some]
theorem run83 {a : List Int} {d : Int} (ha : Ok a) (hl : a.length ≤ 1073741824) (hd : 0 < d) (hd' : d < 4294967296) : ∃ rq, S83 a d = some (rq, val a % d) ∧ Is rq (val a / d) := by
  obtain ⟨rq, h1, h2⟩ := loop83 ha hl hd hd' a.length (List.replicate a.length 0) 0 (Nat.le_refl _) (Ok.replicate _) (by simp) (by omega) hd (by rw [List.drop_length, List.drop_eq_nil_of_le (by simp)]; simp [val])
  refine ⟨rq, evv_eq (h1.same fun k => ?_), h2⟩
  show b83 a d (f83_4 a d k) = _
  unfold b83
  have e2 : IntKind.i64.wrap ((a.length : Int) - 1) = (a.length : Int) - 1 := by rw [wi64] <;> omega
  rw [e2]
  simp (disch := omega) only [cT, Int.toNat_natCast]
end Go.Abs.Z
namespace Go.Abs
theorem or32_low {a b : Int} {n : Nat} (ha : 0 ≤ a) (hb : 0 ≤ b) (hb' : b < 2 ^ n) (h : a * 2 ^ n + b < 4294967296) : bits .or .u32 (a * 2 ^ n) b = a * 2 ^ n + b := by
  have hp : (0 : Int) < 2 ^ n := Int.pow_pos (by decide)
  have hm : 0 ≤ a * 2 ^ n := Int.mul_nonneg ha (Int.le_of_lt hp)
  have h64 := or_low ha hb hb' (by omega)
  rw [bor64 hm (by omega) hb (by omega)] at h64
  rw [bor32 hm (by omega) hb (by omega)]
  exact h64
theorem or32_low' {a b : Int} {n : Nat} (ha : 0 ≤ a) (hb : 0 ≤ b) (hb' : b < 2 ^ n) (h : a * 2 ^ n + b < 4294967296) : bits .or .u32 b (a * 2 ^ n) = a * 2 ^ n + b := by
  have hp : (0 : Int) < 2 ^ n := Int.pow_pos (by decide)
  have hm : 0 ≤ a * 2 ^ n := Int.mul_nonneg ha (Int.le_of_lt hp)
  rw [bor32 hb (by omega) hm (by omega), Nat.or_comm, ← bor32 hm (by omega) hb (by omega)]
  exact or32_low ha hb hb' h
theorem shl32 {x : Int} (s : Nat) (hs : s ≤ 32) : shl .u32 x (s : Int) = x * 2 ^ s % 4294967296 := by
  unfold shl
  have : min (s : Int).toNat IntKind.u32.bits = s := by
    rw [Int.toNat_natCast]
    exact Nat.min_eq_left hs
  rw [this, wu32]
theorem pow32 {k : Nat} (h : k ≤ 32) : (2 : Int) ^ (32 - k) * 2 ^ k = 4294967296 := by
  rw [← Int.pow_add, show 32 - k + k = 32 from by omega]; rfl
theorem mod_shift {x : Int} {k : Nat} (h : k ≤ 32) : x * 2 ^ k % 4294967296 = (x % 2 ^ (32 - k)) * 2 ^ k := by
  rw [← pow32 h, Int.mul_comm x, Int.mul_comm (2 ^ (32 - k)), Int.mul_emod_mul_of_pos _ _ (Int.pow_pos (by decide)), Int.mul_comm]
theorem div_shift {x : Int} {k : Nat} (h : k ≤ 32) : x * 2 ^ k / 4294967296 = x / 2 ^ (32 - k) := by
  rw [← pow32 h, Int.mul_comm x, Int.mul_comm (2 ^ (32 - k)), Int.mul_ediv_mul_of_pos _ _ (Int.pow_pos (by decide))]
end Go.Abs
namespace Go.Abs.Z
open Go Go.Abs Limb
theorem loop85 {a : List Int} {k : Nat} (ha : Ok a) (hl : a.length ≤ 1073741824) (hk : k < 32) : ∀ (m i : Nat) (l : List Int), i + m = a.length → Ok l → l.length = a.length + 1 → l.getD i 0 < 2 ^ k → (∀ j, i < j → l.getD j 0 = 0) → val l = val (a.take i) * 2 ^ k →
    ∃ r, Evt (fun f => f85_5 a (k : Int) f (i : Int) l) r ∧ Is r (val a * 2 ^ k)
  | 0, i, l, hi, hlo, hll, hc, hz, hv => by
    obtain ⟨r, h2, h3⟩ := trimmedH hlo (by omega)
    have ei : i = a.length := by omega
    subst ei
    rw [List.take_length] at hv
    refine ⟨r, ?_, by rw [← hv]; exact h3⟩
    refine Evt.last fun f => ?_
    show b85_5 a (k : Int) (f85_5 a (k : Int) f) (a.length : Int) l = _
    unfold b85_5
    simp (disch := omega) only [cF]
    rw [h2]; rfl
  | m + 1, i, l, hi, hlo, hll, hc, hz, hv => by
    have g := getD_ok ha i
    have gl := getD_ok hlo i
    have hp : (0 : Int) < 2 ^ k := Int.pow_pos (by decide)
    have hp2 : (0 : Int) < 2 ^ (32 - k) := Int.pow_pos (by decide)
    have ep := pow32 (k := k) (by omega)
    have t1 : Int.tdiv (k : Int) 32 = 0 := Int.tdiv_eq_zero_of_lt (by omega) (by omega)
    have t2 : Int.tmod (k : Int) 32 = (k : Int) := Int.tmod_eq_of_lt (by omega) (by omega)
    have e0 : IntKind.i64.wrap (IntKind.i64.wrap 0 + (i : Int)) = (i : Int) := by rw [wi64 (x := 0), wi64] <;> omega
    have e1 : IntKind.i64.wrap ((i : Int) + 1) = ((i + 1 : Nat) : Int) := by rw [wi64] <;> omega
    have ew : IntKind.u64.wrap (a.getD i 0) = a.getD i 0 := by rw [wu64]; omega
    have ebig : a.getD i 0 * 2 ^ k < 18446744073709551616 := by
      have h1 := Int.mul_lt_mul_of_pos_right g.2 hp
      have h2 : (2 : Int) ^ k ≤ 4294967296 := by
        have h3 := Int.mul_le_mul_of_nonneg_right (show (1 : Int) ≤ 2 ^ (32 - k) by omega) (Int.le_of_lt hp)
        omega
      omega
    have epos : 0 ≤ a.getD i 0 * 2 ^ k := Int.mul_nonneg g.1 (Int.le_of_lt hp)
    have es : shl .u64 (a.getD i 0) (k : Int) = a.getD i 0 * 2 ^ k := by
      rw [shl64 k (by omega), Int.emod_eq_of_lt epos ebig]
    have ed : IntKind.u32.wrap (shr .u64 (a.getD i 0 * 2 ^ k) 32) = a.getD i 0 / 2 ^ (32 - k) := by
      have : shr .u64 (a.getD i 0 * 2 ^ k) 32 = a.getD i 0 * 2 ^ k / 4294967296 := shr64 32 (by decide)
      rw [this, wu32, div_shift (by omega)]
      have h1 : 0 ≤ a.getD i 0 / 2 ^ (32 - k) := Int.ediv_nonneg g.1 (Int.le_of_lt hp2)
      have h2 : a.getD i 0 / 2 ^ (32 - k) ≤ a.getD i 0 := Int.ediv_le_self _ g.1
      omega
    have em : IntKind.u32.wrap (a.getD i 0 * 2 ^ k) = (a.getD i 0 % 2 ^ (32 - k)) * 2 ^ k := by rw [wu32, mod_shift (by omega)]
    have m0 : 0 ≤ a.getD i 0 % 2 ^ (32 - k) := Int.emod_nonneg _ (by omega)
    have m1 : a.getD i 0 % 2 ^ (32 - k) < 2 ^ (32 - k) := Int.emod_lt_of_pos _ hp2
    have mt : (a.getD i 0 % 2 ^ (32 - k)) * 2 ^ k + l.getD i 0 < 4294967296 := by
      have h1 := Int.mul_le_mul_of_nonneg_right (show a.getD i 0 % 2 ^ (32 - k) + 1 ≤ 2 ^ (32 - k) by omega) (Int.le_of_lt hp)
      rw [Int.add_mul, Int.one_mul] at h1
      omega
    have eo := or32_low' m0 gl.1 hc mt
    have d0 : 0 ≤ a.getD i 0 / 2 ^ (32 - k) := Int.ediv_nonneg g.1 (Int.le_of_lt hp2)
    have d1 : a.getD i 0 / 2 ^ (32 - k) < 2 ^ k := Int.ediv_lt_of_lt_mul hp2 (by rw [Int.mul_comm, ep]; exact g.2)
    have d2 : a.getD i 0 / 2 ^ (32 - k) < 4294967296 := by
      have : a.getD i 0 / 2 ^ (32 - k) ≤ a.getD i 0 := Int.ediv_le_self _ g.1
      omega
    have mm : 0 ≤ (a.getD i 0 % 2 ^ (32 - k)) * 2 ^ k := Int.mul_nonneg m0 (Int.le_of_lt hp)
    have hset : Ok ((l.set i ((a.getD i 0 % 2 ^ (32 - k)) * 2 ^ k + l.getD i 0)).set (i + 1) (a.getD i 0 / 2 ^ (32 - k))) := (hlo.set i (by omega) mt).set (i + 1) d0 d2
    obtain ⟨r, h2, h3⟩ := loop85 ha hl hk m (i + 1) _ (by omega) hset (by simpa using hll) (by rw [Limb.getD_set_self _ _ _ (by simp; omega)]; exact d1) (fun j hj => by
      rw [Limb.getD_set_other _ _ _ _ (by omega), Limb.getD_set_other _ _ _ _ (by omega)]; exact hz j (by omega)) (by
      rw [val_set _ _ _ (by simp; omega), val_set _ _ _ (by omega), Limb.getD_set_other _ _ _ _ (by omega), hz (i + 1) (by omega), hv, val_take_succ a i (by omega), P_succ]
      have ee := Int.mul_ediv_add_emod (a.getD i 0) (2 ^ (32 - k))
      generalize a.getD i 0 / 2 ^ (32 - k) = D at *
      generalize a.getD i 0 % 2 ^ (32 - k) = M at *
      generalize (2 : Int) ^ (32 - k) = B at *
      generalize (2 : Int) ^ k = K at *
      generalize l.getD i 0 = C at *
      generalize P i = Q at *
      generalize val (a.take i) = V at *
      rw [← ee]
      have : (B * D + M) * Q * K = (B * K) * (D * Q) + M * K * Q := by grind
      rw [Int.add_mul, this, ep]
      grind)
    refine ⟨r, h2.step fun f => ?_, h3⟩
    show b85_5 a (k : Int) (f85_5 a (k : Int) f) (i : Int) l = _
    unfold b85_5
    rw [t1, t2, e0, e1]
    simp only [Int.toNat_natCast, dflt99]
    simp only [ew, es, ed, em, eo, e1, Int.toNat_natCast, List.length_set]
    simp (disch := omega) only [cT]
theorem run85 {a : List Int} {v : Int} {k : Nat} (ha : Is a v) (hl : a.length ≤ 1073741000) (hk : k < 32) : ∃ r, S85 a (k : Int) = some r ∧ Is r (v * 2 ^ k) := by
  have t1 : Int.tdiv (k : Int) 32 = 0 := Int.tdiv_eq_zero_of_lt (by omega) (by omega)
  by_cases h : a.length = 0
  · have hn : a = [] := List.eq_nil_of_length_eq_zero h
    have h0 : v = 0 := ha.nil_iff.1 hn
    refine ⟨[], evv_eq (Evt.now fun f => ?_), by rw [h0, Int.zero_mul]; exact Is.nil⟩
    show b85 a (k : Int) (f85_5 a (k : Int) f) = _
    unfold b85
    simp (disch := omega) only [cE]
  · obtain ⟨r, h1, h2⟩ := loop85 ha.ok (by omega) hk a.length 0 (List.replicate (a.length + 1) 0) (by omega) (Ok.replicate _) (by simp) (by rw [getD_replicate]; exact Int.pow_pos (by decide)) (fun j _ => getD_replicate _ _) (by rw [val_replicate]; simp [val])
    rw [← ha.val]
    refine ⟨r, evv_eq (h1.same fun f => ?_), h2⟩
    show b85 a (k : Int) (f85_5 a (k : Int) f) = _
    unfold b85
    have e0 : IntKind.i64.wrap (IntKind.i64.wrap (IntKind.i64.wrap 0 + (a.length : Int)) + 1) = ((a.length + 1 : Nat) : Int) := by rw [wi64 (x := 0), wi64 (x := 0 + (a.length : Int)), wi64] <;> omega
    rw [t1, e0]
    simp (disch := omega) only [cT, cN, Int.toNat_natCast]
    rfl
end Go.Abs.Z
namespace Go.Abs.Z
open Go Go.Abs Limb
theorem getD_out {l : List Int} {i : Nat} (h : l.length ≤ i) : l.getD i 0 = 0 := by
  rw [List.getD_eq_getElem?_getD, List.getElem?_eq_none h]; rfl
def halfAt (a : List Int) (k i : Nat) : Int := a.getD i 0 / 2 ^ k + (a.getD (i + 1) 0 % 2 ^ k) * 2 ^ (32 - k)
theorem halfAt_ok {a : List Int} (ha : Ok a) {k : Nat} (hk : k < 32) (i : Nat) : 0 ≤ halfAt a k i ∧ halfAt a k i < 4294967296 ∧ a.getD i 0 / 2 ^ k < 2 ^ (32 - k) := by
  have g := getD_ok ha i
  have hp : (0 : Int) < 2 ^ k := Int.pow_pos (by decide)
  have hp2 : (0 : Int) < 2 ^ (32 - k) := Int.pow_pos (by decide)
  have ep := pow32 (k := k) (by omega)
  have d0 : 0 ≤ a.getD i 0 / 2 ^ k := Int.ediv_nonneg g.1 (Int.le_of_lt hp)
  have d1 : a.getD i 0 / 2 ^ k < 2 ^ (32 - k) := Int.ediv_lt_of_lt_mul hp (by rw [ep]; exact g.2)
  have m0 : 0 ≤ a.getD (i + 1) 0 % 2 ^ k := Int.emod_nonneg _ (by omega)
  have m1 : a.getD (i + 1) 0 % 2 ^ k < 2 ^ k := Int.emod_lt_of_pos _ hp
  have m2 := Int.mul_nonneg m0 (Int.le_of_lt hp2)
  have m3 := Int.mul_le_mul_of_nonneg_right (show a.getD (i + 1) 0 % 2 ^ k + 1 ≤ 2 ^ k by omega) (Int.le_of_lt hp2)
  rw [Int.add_mul, Int.one_mul, Int.mul_comm (2 ^ k), ep] at m3
  unfold halfAt
  exact ⟨by omega, by omega, d1⟩
theorem loop88 {a : List Int} {k : Nat} (ha : Ok a) (hl : a.length ≤ 1073741824) (hk : k < 32) : ∀ (m i : Nat) (l : List Int), i + m = a.length → Ok l → l.length = a.length → (∀ j, i ≤ j → l.getD j 0 = 0) → val (l.take i) * 2 ^ k + a.getD 0 0 % 2 ^ k = val (a.take i) + (a.getD i 0 % 2 ^ k) * P i →
    ∃ r, Evt (fun f => f88_3 a (k : Int) f (i : Int) l) r ∧ Is r (val a / 2 ^ k)
  | 0, i, l, hi, hlo, hll, hz, hv => by
    obtain ⟨r, h2, h3⟩ := trimmed hlo (by omega)
    have hp : (0 : Int) < 2 ^ k := Int.pow_pos (by decide)
    have ei : i = a.length := by omega
    subst ei
    rw [List.take_length, ← hll, List.take_length, hll, getD_out (Nat.le_refl _), Int.zero_emod, Int.zero_mul, Int.add_zero] at hv
    have hval : val a / 2 ^ k = val l := by
      rw [← hv, Int.add_comm, Int.add_mul_ediv_right _ _ (by omega), Int.ediv_eq_zero_of_lt (Int.emod_nonneg _ (by omega)) (Int.emod_lt_of_pos _ hp)]
      omega
    refine ⟨r, ?_, by rw [hval]; exact h3⟩
    refine Evt.last fun f => ?_
    show b88_3 a (k : Int) (f88_3 a (k : Int) f) (a.length : Int) l = _
    unfold b88_3
    simp (disch := omega) only [cF]
    rw [h2]; rfl
  | m + 1, i, l, hi, hlo, hll, hz, hv => by
    have g := getD_ok ha i
    have hp : (0 : Int) < 2 ^ k := Int.pow_pos (by decide)
    have hp2 : (0 : Int) < 2 ^ (32 - k) := Int.pow_pos (by decide)
    have ep := pow32 (k := k) (by omega)
    obtain ⟨o0, o1, o2⟩ := halfAt_ok ha hk i
    have e1 : IntKind.i64.wrap ((i : Int) + 1) = ((i + 1 : Nat) : Int) := by rw [wi64] <;> omega
    have hset : Ok (l.set i (halfAt a k i)) := hlo.set i o0 o1
    obtain ⟨r, h2, h3⟩ := loop88 ha hl hk m (i + 1) (l.set i (halfAt a k i)) (by omega) hset (by simpa using hll) (fun j hj => by rw [Limb.getD_set_other _ _ _ _ (by omega)]; exact hz j (by omega)) (by
      rw [val_take_succ _ i (by simp; omega), Limb.getD_set_self _ _ _ (by omega), List.take_set_of_le (Nat.le_refl i), val_take_succ a i (by omega), P_succ]
      have ee := Int.mul_ediv_add_emod (a.getD i 0) (2 ^ k)
      unfold halfAt
      have e4 : (val (l.take i) + (a.getD i 0 / 2 ^ k + a.getD (i + 1) 0 % 2 ^ k * 2 ^ (32 - k)) * P i) * 2 ^ k = val (l.take i) * 2 ^ k + 2 ^ k * (a.getD i 0 / 2 ^ k) * P i + (a.getD (i + 1) 0 % 2 ^ k) * P i * (2 ^ (32 - k) * 2 ^ k) := by
        generalize (2 : Int) ^ (32 - k) = B
        generalize a.getD i 0 / 2 ^ k = D
        generalize a.getD (i + 1) 0 % 2 ^ k = M
        generalize (2 : Int) ^ k = K
        grind
      rw [e4, ep]
      have e5 : val (a.take i) + a.getD i 0 * P i = val (a.take i) + 2 ^ k * (a.getD i 0 / 2 ^ k) * P i + (a.getD i 0 % 2 ^ k) * P i := by
        have : a.getD i 0 * P i = (2 ^ k * (a.getD i 0 / 2 ^ k) + a.getD i 0 % 2 ^ k) * P i := by rw [ee]
        rw [this, Int.add_mul]; omega
      rw [e5]
      generalize a.getD (i + 1) 0 % 2 ^ k = M at *
      generalize a.getD i 0 % 2 ^ k = M1 at *
      generalize a.getD i 0 / 2 ^ k = M2 at *
      grind)
    refine ⟨r, h2.step fun f => ?_, h3⟩
    show b88_3 a (k : Int) (f88_3 a (k : Int) f) (i : Int) l = _
    have es : shr .u32 (a.getD i 0) (k : Int) = a.getD i 0 / 2 ^ k := shr32 k (by omega)
    have eg : (l.set i (a.getD i 0 / 2 ^ k)).getD i 0 = a.getD i 0 / 2 ^ k := Limb.getD_set_self _ _ _ (by omega)
    have ess : ∀ x y : Int, (l.set i x).set i y = l.set i y := fun x y => List.set_set x
    unfold b88_3
    simp only [e1, Int.toNat_natCast, dflt99, es, eg, ess, List.length_set]
    by_cases hlast : i + 1 < a.length
    · by_cases hk0 : 0 < k
      · have ek : IntKind.i64.wrap (32 - (k : Int)) = ((32 - k : Nat) : Int) := by rw [wi64] <;> omega
        have el : shl .u32 (a.getD (i + 1) 0) ((32 - k : Nat) : Int) = a.getD (i + 1) 0 % 2 ^ k * 2 ^ (32 - k) := by
          rw [shl32 (32 - k) (by omega), mod_shift (by omega), show 32 - (32 - k) = k from by omega]
        have eo : bits .or .u32 (a.getD i 0 / 2 ^ k) (a.getD (i + 1) 0 % 2 ^ k * 2 ^ (32 - k)) = halfAt a k i := by
          have m0 : 0 ≤ a.getD (i + 1) 0 % 2 ^ k := Int.emod_nonneg _ (by omega)
          rw [or32_low' m0 (Int.ediv_nonneg g.1 (Int.le_of_lt hp)) o2 (by unfold halfAt at o1; omega)]
          unfold halfAt; omega
        simp only [ek, el, eo]
        simp (disch := omega) only [cT]
      · have hk1 : k = 0 := by omega
        have eh : halfAt a k i = a.getD i 0 / 2 ^ k := by
          unfold halfAt
          rw [hk1]; simp [Int.emod_one]
        rw [eh]
        simp (disch := omega) only [cT, cF]
    · have eh : halfAt a k i = a.getD i 0 / 2 ^ k := by
        unfold halfAt
        rw [getD_out (by omega : a.length ≤ i + 1)]; simp
      rw [eh]
      simp (disch := omega) only [cT, cF]
theorem run88 {a : List Int} {v : Int} {k : Nat} (ha : Is a v) (hl : a.length ≤ 1073741824) (hk : k < 32) : ∃ r, S88 a (k : Int) = some r ∧ Is r (v / 2 ^ k) := by
  obtain ⟨r, h1, h2⟩ := loop88 ha.ok hl hk a.length 0 (List.replicate a.length 0) (by omega) (Ok.replicate _) (by simp) (fun j _ => getD_replicate _ _) (by rw [List.take_zero, List.take_zero, P_zero]; simp [val])
  rw [← ha.val]
  refine ⟨r, evv_eq (h1.same fun f => ?_), h2⟩
  show b88 a (k : Int) (f88_3 a (k : Int) f) = _
  unfold b88
  simp (disch := omega) only [cT, Int.toNat_natCast]
  rfl
end Go.Abs.Z
namespace Limb
theorem val_take_any (l : List Int) (i : Nat) : val (l.take (i + 1)) = val (l.take i) + l.getD i 0 * P i := by
  by_cases h : i < l.length
  · exact val_take_succ l i h
  · rw [List.take_of_length_le (by omega), List.take_of_length_le (by omega), List.getD_eq_getElem?_getD, List.getElem?_eq_none (by omega)]
    simp
theorem mul_bound {p x M N : Int} (h0 : 0 ≤ p) (h1 : p ≤ M) (h2 : 0 ≤ x) (h3 : x ≤ N) : 0 ≤ p * x ∧ p * x ≤ M * N := by
  have e1 := Int.mul_le_mul_of_nonneg_right h1 h2
  have e2 := Int.mul_le_mul_of_nonneg_left h3 (show 0 ≤ M by omega)
  exact ⟨Int.mul_nonneg h0 h2, by omega⟩
end Limb
namespace Go.Abs.Z
open Go Go.Abs Limb
def Unlike (p q : Int) : Prop := (0 ≤ p ∧ p ≤ 2147483647 ∧ -2147483647 ≤ q ∧ q ≤ 0) ∨ (0 ≤ q ∧ q ≤ 2147483647 ∧ -2147483647 ≤ p ∧ p ≤ 0)
theorem Unlike.prods {p q x y : Int} (h : Unlike p q) (hx : 0 ≤ x ∧ x < 4294967296) (hy : 0 ≤ y ∧ y < 4294967296) :
    -9223372030412324865 ≤ p * x ∧ p * x ≤ 9223372030412324865 ∧ -9223372030412324865 ≤ q * y ∧ q * y ≤ 9223372030412324865 ∧ -9223372030412324865 ≤ p * x + q * y ∧ p * x + q * y ≤ 9223372030412324865 := by
  rcases h with ⟨h1, h2, h3, h4⟩ | ⟨h1, h2, h3, h4⟩
  · have a1 := mul_bound h1 h2 hx.1 (show x ≤ 4294967295 by omega)
    have a2 := mul_bound (p := -q) (M := 2147483647) (by omega) (by omega) hy.1 (show y ≤ 4294967295 by omega)
    rw [Int.neg_mul] at a2
    omega
  · have a1 := mul_bound h1 h2 hy.1 (show y ≤ 4294967295 by omega)
    have a2 := mul_bound (p := -p) (M := 2147483647) (by omega) (by omega) hx.1 (show x ≤ 4294967295 by omega)
    rw [Int.neg_mul] at a2
    omega
theorem shri64 {x : Int} : shr .i64 x 32 = x / 4294967296 := by
  show Int.fdiv x (2 ^ 32) = _
  rw [Int.fdiv_eq_ediv_of_nonneg _ (by decide)]; rfl
theorem loop65 {a b : List Int} {p q V : Int} (ha : Ok a) (hb : Ok b) (hl : a.length ≤ 1073741824) (hlb : b.length ≤ a.length + 1) (hu : Unlike p q) (hV : p * val a + q * val b = V) (h0 : 0 ≤ V) (h1 : V < P (a.length + 1)) :
    ∀ (m i : Nat) (c : Int) (l : List Int), i + m = a.length + 1 → Ok l → l.length = a.length + 1 → -2147483648 ≤ c → c ≤ 2147483648 → val (l.take i) + c * P i = p * val (a.take i) + q * val (b.take i) →
    ∃ r, Evt (fun f => f65_4 a b p q f c (i : Int) l) r ∧ Is r V
  | 0, i, c, l, hi, hlo, hll, c0, c1, hv => by
    obtain ⟨r, h2, h3⟩ := trimmed hlo (by omega)
    rw [show i = a.length + 1 from by omega, ← hll, List.take_length, hll, List.take_of_length_le (by omega : a.length ≤ a.length + 1), List.take_of_length_le hlb, hV] at hv
    have bd := val_bound hlo
    rw [hll] at bd
    have hc : c = 0 := by
      rcases Int.lt_trichotomy c 0 with h | h | h
      · have := Int.mul_le_mul_of_nonneg_right (show c ≤ -1 by omega) (Int.le_of_lt (P_pos (a.length + 1)))
        omega
      · exact h
      · have := Int.mul_le_mul_of_nonneg_right (show 1 ≤ c by omega) (Int.le_of_lt (P_pos (a.length + 1)))
        omega
    have hval : V = val l := by rw [hc] at hv; omega
    refine ⟨r, ?_, by rw [hval]; exact h3⟩
    refine Evt.last fun f => ?_
    show b65_4 a b p q (f65_4 a b p q f) c (i : Int) l = _
    unfold b65_4
    have e0 : ((List.replicate (IntKind.i64.wrap ((a.length : Int) + 1)).toNat (0 : Int)).length : Int) = (a.length : Int) + 1 := by
      rw [wi64 (by omega) (by omega), List.length_replicate]; omega
    rw [cF (by show ¬ (i : Int) < ((List.replicate (IntKind.i64.wrap ((a.length : Int) + 1)).toNat (0 : Int)).length : Int); rw [e0]; omega), h2]; rfl
  | m + 1, i, c, l, hi, hlo, hll, c0, c1, hv => by
    have gx := getD_ok ha i
    have gy := getD_ok hb i
    obtain ⟨u1, u2, u3, u4, u5, u6⟩ := hu.prods gx gy
    have e1 : IntKind.i64.wrap ((i : Int) + 1) = ((i + 1 : Nat) : Int) := by rw [wi64] <;> omega
    have m0 : 0 ≤ (c + (p * a.getD i 0 + q * b.getD i 0)) % 4294967296 := Int.emod_nonneg _ (by decide)
    have m1 : (c + (p * a.getD i 0 + q * b.getD i 0)) % 4294967296 < 4294967296 := Int.emod_lt_of_pos _ (by decide)
    obtain ⟨r, h2, h3⟩ := loop65 ha hb hl hlb hu hV h0 h1 m (i + 1) ((c + (p * a.getD i 0 + q * b.getD i 0)) / 4294967296) (l.set i ((c + (p * a.getD i 0 + q * b.getD i 0)) % 4294967296)) (by omega) (hlo.set i m0 m1) (by simpa using hll) (by omega) (by omega) (by
      rw [val_take_succ _ i (by simp; omega), Limb.getD_set_self _ _ _ (by omega), List.take_set_of_le (Nat.le_refl i), val_take_any a, val_take_any b, P_succ]
      have ee := Int.mul_ediv_add_emod (c + (p * a.getD i 0 + q * b.getD i 0)) 4294967296
      generalize (c + (p * a.getD i 0 + q * b.getD i 0)) / 4294967296 = D at *
      generalize (c + (p * a.getD i 0 + q * b.getD i 0)) % 4294967296 = M at *
      generalize a.getD i 0 = x at *
      generalize b.getD i 0 = y at *
      generalize P i = Q at *
      generalize val (l.take i) = V1 at *
      generalize val (a.take i) = V2 at *
      generalize val (b.take i) = V3 at *
      have h5 : (4294967296 * D + M) * Q = (c + (p * x + q * y)) * Q := by rw [ee]
      grind)
    refine ⟨r, h2.step fun f => ?_, h3⟩
    show b65_4 a b p q (f65_4 a b p q f) c (i : Int) l = _
    unfold b65_4
    have e0 : ((List.replicate (IntKind.i64.wrap ((a.length : Int) + 1)).toNat (0 : Int)).length : Int) = (a.length : Int) + 1 := by
      rw [wi64 (by omega) (by omega), List.length_replicate]; omega
    rw [cT (by show (i : Int) < ((List.replicate (IntKind.i64.wrap ((a.length : Int) + 1)).toNat (0 : Int)).length : Int); rw [e0]; omega)]
    have wx : IntKind.i64.wrap (a.getD i 0) = a.getD i 0 := by rw [wi64] <;> omega
    have wy : IntKind.i64.wrap (b.getD i 0) = b.getD i 0 := by rw [wi64] <;> omega
    have wpx : IntKind.i64.wrap (p * a.getD i 0) = p * a.getD i 0 := by rw [wi64] <;> omega
    have wqy : IntKind.i64.wrap (q * b.getD i 0) = q * b.getD i 0 := by rw [wi64] <;> omega
    have ws : IntKind.i64.wrap (p * a.getD i 0 + q * b.getD i 0) = p * a.getD i 0 + q * b.getD i 0 := by rw [wi64] <;> omega
    have wt : IntKind.i64.wrap (c + (p * a.getD i 0 + q * b.getD i 0)) = c + (p * a.getD i 0 + q * b.getD i 0) := by rw [wi64] <;> omega
    have w0 : IntKind.i64.wrap 0 = 0 := rfl
    by_cases hxa : i < a.length
    · by_cases hyb : i < b.length
      · simp only [Int.toNat_natCast, dflt99, wx, wy, wpx, wqy, ws, wt, e1, shri64, wu32]
        simp (disch := omega) only [cT]
      · have hy0 : b.getD i 0 = 0 := getD_out (by omega)
        simp only [hy0, Int.mul_zero, Int.add_zero] at *
        simp only [Int.toNat_natCast, dflt99, wx, wpx, wt, w0, Int.add_zero, e1, shri64, wu32]
        simp (disch := omega) only [cT, cF]
    · have hx0 : a.getD i 0 = 0 := getD_out (by omega)
      by_cases hyb : i < b.length
      · simp only [hx0, Int.mul_zero, Int.zero_add] at *
        simp only [Int.toNat_natCast, dflt99, wy, wqy, wt, w0, Int.zero_add, e1, shri64, wu32]
        simp (disch := omega) only [cT, cF]
      · have hy0 : b.getD i 0 = 0 := getD_out (by omega)
        simp only [hx0, hy0, Int.mul_zero, Int.add_zero] at *
        simp only [Int.toNat_natCast, dflt99, wt, w0, Int.add_zero, e1, shri64, wu32]
        simp (disch := omega) only [cT, cF]
theorem run65 {a b : List Int} {p q A B V : Int} (ha : Is a A) (hb : Is b B) (hl : a.length ≤ 1073741824) (hlb : b.length ≤ a.length + 1) (hu : Unlike p q) (hV : p * A + q * B = V) (h0 : 0 ≤ V) (h1 : V < P (a.length + 1)) : ∃ r, S65 a b p q = some r ∧ Is r V := by
  have e1 : IntKind.i64.wrap ((a.length : Int) + 1) = (a.length : Int) + 1 := by rw [wi64] <;> omega
  obtain ⟨r, h2, h3⟩ := loop65 ha.ok hb.ok hl hlb hu (by rw [ha.val, hb.val]; exact hV) h0 h1 (a.length + 1) 0 0 (List.replicate (a.length + 1) 0) (by omega) (Ok.replicate _) (by simp) (by omega) (by omega) (by simp [val])
  refine ⟨r, evv_eq (h2.same fun f => ?_), h3⟩
  show b65 a b p q (f65_4 a b p q f) = _
  unfold b65
  have e2 : ((a.length : Int) + 1).toNat = a.length + 1 := by omega
  simp only [e1, e2]
  simp (disch := omega) only [cT]
  rfl
end Go.Abs.Z
namespace Limb
theorem getD_mid (pre W post : List Int) (i : Nat) (h : i < W.length) : (pre ++ (W ++ post)).getD (pre.length + i) 0 = W.getD i 0 := by
  rw [List.getD_eq_getElem?_getD, List.getElem?_append_right (by omega), Nat.add_sub_cancel_left, List.getElem?_append_left h, ← List.getD_eq_getElem?_getD]
theorem set_mid (pre W post : List Int) (i : Nat) (x : Int) (h : i < W.length) : (pre ++ (W ++ post)).set (pre.length + i) x = pre ++ (W.set i x ++ post) := by
  rw [List.set_append_right _ _ (by omega), Nat.add_sub_cancel_left, List.set_append_left _ _ h]
theorem drop_getD {l l' : List Int} {i : Nat} (h : l.drop i = l'.drop i) (j : Nat) (hj : i ≤ j) : l.getD j 0 = l'.getD j 0 := by
  have e : j = i + (j - i) := by omega
  rw [List.getD_eq_getElem?_getD, List.getD_eq_getElem?_getD, e, ← List.getElem?_drop, ← List.getElem?_drop, h]
theorem drop_next {l l' : List Int} {i : Nat} {x : Int} (h : l.drop i = l'.drop i) : (l.set i x).drop (i + 1) = l'.drop (i + 1) := by
  rw [drop_set_lt _ _ _ _ (by omega), ← List.drop_drop, ← List.drop_drop, h]
end Limb
namespace Go.Abs.Z
open Go Go.Abs Limb
theorem loop86_23 {pre post v Y : List Int} {p2 : List Int} {g : Int} (hv : Ok v) (hl : v.length ≤ 1073741824) (hlp : pre.length ≤ 1073741824) (hY : Ok Y) (hYl : Y.length = v.length + 1) (hg : 0 ≤ g) (hg' : g < 4294967296) :
    ∀ (m i : Nat) (c : Int) (W : List Int), i + m = v.length → Ok W → W.length = v.length + 1 → 0 ≤ c → c ≤ 1 → W.drop i = Y.drop i → val (W.take i) + c * P i = val (Y.take i) + val (v.take i) →
    ∃ (Z : List Int) (o : Int), Evt (fun f => f86_23 pre.length (v.length + 1) p2 v f g c (i : Int) (pre ++ (W ++ post))) ((g - 1) % 4294967296, pre ++ (Z ++ post)) ∧ Ok Z ∧ Z.length = v.length + 1 ∧ val Z + o * P (v.length + 1) = val Y + val v
  | 0, i, c, W, hi, hW, hWl, c0, c1, hd, he => by
    have ei : i = v.length := by omega
    subst ei
    rw [List.take_length] at he
    have gy := getD_ok hY v.length
    have eY := drop_getD hd v.length (Nat.le_refl _)
    have m0 : 0 ≤ (Y.getD v.length 0 + c) % 4294967296 := Int.emod_nonneg _ (by decide)
    have m1 : (Y.getD v.length 0 + c) % 4294967296 < 4294967296 := Int.emod_lt_of_pos _ (by decide)
    refine ⟨W.set v.length ((Y.getD v.length 0 + c) % 4294967296), (Y.getD v.length 0 + c) / 4294967296, ?_, hW.set _ m0 m1, by simpa using hWl, ?_⟩
    · refine Evt.last fun f => ?_
      show b86_23 pre.length (v.length + 1) p2 v (f86_7 pre.length (v.length + 1) p2 v f) (f86_12 pre.length (v.length + 1) p2 v f) (f86_23 pre.length (v.length + 1) p2 v f) g c (v.length : Int) (pre ++ (W ++ post)) = _
      unfold b86_23
      have eg : (pre ++ (W ++ post)).getD (pre.length + v.length) 0 = Y.getD v.length 0 := by rw [getD_mid _ _ _ _ (by omega), eY]
      have eS : ∀ x, (pre ++ (W ++ post)).set (pre.length + v.length) x = pre ++ (W.set v.length x ++ post) := fun x => set_mid _ _ _ _ _ (by omega)
      have hlen : pre.length + v.length < (pre ++ (W ++ post)).length := by simp; omega
      simp only [Int.toNat_natCast, dflt99, eg, eS, wu32]
      have ew : (g % 4294967296 - 1) % 4294967296 = (g - 1) % 4294967296 := by omega
      rw [ew]
      simp (disch := omega) only [cT, cF]
    · have ee := Int.mul_ediv_add_emod (Y.getD v.length 0 + c) 4294967296
      have t1 : val (W.set v.length ((Y.getD v.length 0 + c) % 4294967296)) = val (W.take v.length) + ((Y.getD v.length 0 + c) % 4294967296) * P v.length := by
        have h1 := val_take_succ (W.set v.length ((Y.getD v.length 0 + c) % 4294967296)) v.length (by simp; omega)
        rw [List.take_of_length_le (by simp; omega), Limb.getD_set_self _ _ _ (by omega), List.take_set_of_le (Nat.le_refl _)] at h1
        exact h1
      have t2 : val Y = val (Y.take v.length) + Y.getD v.length 0 * P v.length := by
        have h1 := val_take_succ Y v.length (by omega)
        rwa [List.take_of_length_le (by omega)] at h1
      rw [t1, t2, P_succ]
      generalize (Y.getD v.length 0 + c) / 4294967296 = D at *
      generalize (Y.getD v.length 0 + c) % 4294967296 = M at *
      generalize Y.getD v.length 0 = y at *
      generalize P v.length = Q at *
      generalize val (W.take v.length) = V1 at *
      generalize val (Y.take v.length) = V2 at *
      have h5 : (4294967296 * D + M) * Q = (y + c) * Q := by rw [ee]
      grind
  | m + 1, i, c, W, hi, hW, hWl, c0, c1, hd, he => by
    have gy := getD_ok hY i
    have gv := getD_ok hv i
    have eY := drop_getD hd i (Nat.le_refl _)
    have e1 : IntKind.i64.wrap ((i : Int) + 1) = ((i + 1 : Nat) : Int) := by rw [wi64] <;> omega
    have m0 : 0 ≤ (Y.getD i 0 + v.getD i 0 + c) % 4294967296 := Int.emod_nonneg _ (by decide)
    have m1 : (Y.getD i 0 + v.getD i 0 + c) % 4294967296 < 4294967296 := Int.emod_lt_of_pos _ (by decide)
    obtain ⟨Z, o, h2, h3, h4, h5⟩ := loop86_23 (pre := pre) (post := post) (p2 := p2) hv hl hlp hY hYl hg hg' m (i + 1) ((Y.getD i 0 + v.getD i 0 + c) / 4294967296) (W.set i ((Y.getD i 0 + v.getD i 0 + c) % 4294967296)) (by omega) (hW.set i m0 m1) (by simpa using hWl) (by omega) (by omega) (drop_next hd) (by
      rw [val_take_succ _ i (by simp; omega), Limb.getD_set_self _ _ _ (by omega), List.take_set_of_le (Nat.le_refl i), val_take_any Y, val_take_any v, P_succ]
      have ee := Int.mul_ediv_add_emod (Y.getD i 0 + v.getD i 0 + c) 4294967296
      generalize (Y.getD i 0 + v.getD i 0 + c) / 4294967296 = D at *
      generalize (Y.getD i 0 + v.getD i 0 + c) % 4294967296 = M at *
      generalize Y.getD i 0 = x at *
      generalize v.getD i 0 = y at *
      generalize P i = Q at *
      generalize val (W.take i) = V1 at *
      generalize val (Y.take i) = V2 at *
      generalize val (v.take i) = V3 at *
      have h5 : (4294967296 * D + M) * Q = (x + y + c) * Q := by rw [ee]
      grind)
    refine ⟨Z, o, h2.step fun f => ?_, h3, h4, h5⟩
    show b86_23 pre.length (v.length + 1) p2 v (f86_7 pre.length (v.length + 1) p2 v f) (f86_12 pre.length (v.length + 1) p2 v f) (f86_23 pre.length (v.length + 1) p2 v f) g c (i : Int) (pre ++ (W ++ post)) = _
    unfold b86_23
    have eg : (pre ++ (W ++ post)).getD (pre.length + i) 0 = Y.getD i 0 := by rw [getD_mid _ _ _ _ (by omega), eY]
    have eS : ∀ x, (pre ++ (W ++ post)).set (pre.length + i) x = pre ++ (W.set i x ++ post) := fun x => set_mid _ _ _ _ _ (by omega)
    have hlen : pre.length + i < (pre ++ (W ++ post)).length := by simp; omega
    simp only [Int.toNat_natCast, dflt99, eg, eS, e1]
    rw [run97 gy.1 gy.2 gv.1 gv.2 c0 (by omega)]
    simp (disch := omega) only [cT, Option.bind_some]
theorem loop86_12 {pre post v Y : List Int} {p2 : List Int} {g U : Int} (hv : Ok v) (hl : v.length ≤ 1073741824) (hlp : pre.length ≤ 1073741824) (hY : Ok Y) (hYl : Y.length = v.length + 1) (hg : 0 ≤ g) (hg' : g < 4294967296)
    (hU : val Y = U) (b0 : -val v ≤ U - g * val v) (b1 : U - g * val v < val v) (hV : val v < P v.length) :
    ∀ (m i : Nat) (c w : Int) (W : List Int), i + m = v.length → Ok W → W.length = v.length + 1 → 0 ≤ c → c < 4294967296 → (w = 0 ∨ w = 1) → W.drop i = Y.drop i → val (W.take i) + g * val (v.take i) = val (Y.take i) + c * P i + w * P i →
    ∃ (Z : List Int), Evt (fun f => f86_12 pre.length (v.length + 1) p2 v f g c w (i : Int) (pre ++ (W ++ post))) (U / val v, pre ++ (Z ++ post)) ∧ Ok Z ∧ Z.length = v.length + 1 ∧ val Z = U % val v
  | 0, i, c, w, W, hi, hW, hWl, c0, c1, hw, hd, he => by
    have ei : i = v.length := by omega
    subst ei
    rw [List.take_length] at he
    have gy := getD_ok hY v.length
    have eY := drop_getD hd v.length (Nat.le_refl _)
    have m0 : 0 ≤ (Y.getD v.length 0 - c - w) % 4294967296 := Int.emod_nonneg _ (by decide)
    have m1 : (Y.getD v.length 0 - c - w) % 4294967296 < 4294967296 := Int.emod_lt_of_pos _ (by decide)
    have hset : Ok (W.set v.length ((Y.getD v.length 0 - c - w) % 4294967296)) := hW.set _ m0 m1
    have t1 : val (W.set v.length ((Y.getD v.length 0 - c - w) % 4294967296)) = val (W.take v.length) + ((Y.getD v.length 0 - c - w) % 4294967296) * P v.length := by
      have h1 := val_take_succ (W.set v.length ((Y.getD v.length 0 - c - w) % 4294967296)) v.length (by simp; omega)
      rw [List.take_of_length_le (by simp; omega), Limb.getD_set_self _ _ _ (by omega), List.take_set_of_le (Nat.le_refl _)] at h1
      exact h1
    have t2 : val Y = val (Y.take v.length) + Y.getD v.length 0 * P v.length := by
      have h1 := val_take_succ Y v.length (by omega)
      rwa [List.take_of_length_le (by omega)] at h1
    have hb := val_bound hset
    have hlen2 : (W.set v.length ((Y.getD v.length 0 - c - w) % 4294967296)).length = v.length + 1 := by simpa using hWl
    rw [hlen2] at hb
    have hvb := val_bound hv
    have key : val (W.set v.length ((Y.getD v.length 0 - c - w) % 4294967296)) = U - g * val v + (if Y.getD v.length 0 < c + w then 1 else 0) * P (v.length + 1) := by
      rw [t1, ← hU, t2, P_succ]
      have hm : (Y.getD v.length 0 - c - w) % 4294967296 = Y.getD v.length 0 - c - w + (if Y.getD v.length 0 < c + w then 1 else 0) * 4294967296 := by
        split <;> omega
      rw [hm]
      generalize (if Y.getD v.length 0 < c + w then (1 : Int) else 0) = o at *
      generalize Y.getD v.length 0 = y at *
      generalize P v.length = Q at *
      generalize val (W.take v.length) = V1 at *
      generalize val (Y.take v.length) = V2 at *
      generalize val v = V at *
      grind
    generalize hWW : W.set v.length ((Y.getD v.length 0 - c - w) % 4294967296) = WW at *
    have eg : (pre ++ (W ++ post)).getD (pre.length + v.length) 0 = Y.getD v.length 0 := by rw [getD_mid _ _ _ _ (by omega), eY]
    have eS : (pre ++ (W ++ post)).set (pre.length + v.length) ((Y.getD v.length 0 - c - w) % 4294967296) = pre ++ (WW ++ post) := by rw [← hWW]; exact set_mid _ _ _ _ _ (by omega)
    have hlen : pre.length + v.length < (pre ++ (W ++ post)).length := by simp; omega
    have ec : c % 4294967296 = c := by omega
    by_cases hlt : Y.getD v.length 0 < c + w
    · rw [if_pos hlt] at key
      have hneg : U - g * val v < 0 := by omega
      have hP1 := P_mono (show v.length ≤ v.length + 1 by omega)
      obtain ⟨Z, o, h2, h3, h4, h5⟩ := loop86_23 (pre := pre) (post := post) (p2 := p2) hv hl hlp hset hlen2 hg hg' v.length 0 0 WW (by omega) hset hlen2 (by omega) (by omega) rfl (by simp [val])
      have hz := val_bound h3
      rw [h4] at hz
      have ho : o = 1 := by
        rcases Int.lt_trichotomy o 1 with h | h | h
        · have := Int.mul_le_mul_of_nonneg_right (show o ≤ 0 by omega) (Int.le_of_lt (P_pos (v.length + 1)))
          omega
        · exact h
        · have := Int.mul_le_mul_of_nonneg_right (show 2 ≤ o by omega) (Int.le_of_lt (P_pos (v.length + 1)))
          omega
      rw [ho] at h5
      have hq : U = (g - 1) * val v + val Z := by rw [Int.sub_mul]; omega
      have hr0 : 0 ≤ val Z := hz.1
      have hr1 : val Z < val v := by omega
      have hgp : 1 ≤ g := by
        refine Classical.byContradiction fun hg0 => ?_
        have : g = 0 := by omega
        rw [this, Int.zero_mul] at hneg
        have := (val_bound hY).1
        omega
      have e1 : U / val v = g - 1 := by rw [hq, Int.add_comm, Int.add_mul_ediv_right _ _ (by omega), Int.ediv_eq_zero_of_lt hr0 hr1]; omega
      have e2 : U % val v = val Z := by rw [hq, Int.add_comm, Int.add_mul_emod_self_right, Int.emod_eq_of_lt hr0 hr1]
      have eg1 : (g - 1) % 4294967296 = g - 1 := by omega
      rw [eg1] at h2
      refine ⟨Z, ?_, h3, h4, e2.symm⟩
      rw [e1]
      refine h2.step fun f => ?_
      show b86_12 pre.length (v.length + 1) p2 v (f86_7 pre.length (v.length + 1) p2 v f) (f86_12 pre.length (v.length + 1) p2 v f) (f86_23 pre.length (v.length + 1) p2 v f) g c w (v.length : Int) (pre ++ (W ++ post)) = _
      unfold b86_12
      simp only [Int.toNat_natCast, dflt99, eg, wu32, ec]
      rw [run96 gy.1 gy.2 c0 c1 hw, if_pos hlt]
      simp only [Option.bind_some, eS]
      simp (disch := omega) only [cT, cF, cN]
      rfl
    · rw [if_neg hlt, Int.zero_mul, Int.add_zero] at key
      have hq : U = g * val v + val WW := by omega
      have hr0 : 0 ≤ val WW := hb.1
      have hr1 : val WW < val v := by omega
      have e1 : U / val v = g := by rw [hq, Int.add_comm, Int.add_mul_ediv_right _ _ (by omega), Int.ediv_eq_zero_of_lt hr0 hr1]; omega
      have e2 : U % val v = val WW := by rw [hq, Int.add_comm, Int.add_mul_emod_self_right, Int.emod_eq_of_lt hr0 hr1]
      refine ⟨WW, ?_, hset, hlen2, e2.symm⟩
      rw [e1]
      refine Evt.last fun f => ?_
      show b86_12 pre.length (v.length + 1) p2 v (f86_7 pre.length (v.length + 1) p2 v f) (f86_12 pre.length (v.length + 1) p2 v f) (f86_23 pre.length (v.length + 1) p2 v f) g c w (v.length : Int) (pre ++ (W ++ post)) = _
      unfold b86_12
      have eg1 : g % 4294967296 = g := by omega
      simp only [Int.toNat_natCast, dflt99, eg, wu32, ec, eg1]
      rw [run96 gy.1 gy.2 c0 c1 hw, if_neg hlt]
      simp only [Option.bind_some, eS]
      simp (disch := omega) only [cT, cF, cE]
  | m + 1, i, c, w, W, hi, hW, hWl, c0, c1, hw, hd, he => by
    have gy := getD_ok hY i
    have gv := getD_ok hv i
    have eY := drop_getD hd i (Nat.le_refl _)
    have e1 : IntKind.i64.wrap ((i : Int) + 1) = ((i + 1 : Nat) : Int) := by rw [wi64] <;> omega
    have pb := mul_bound hg (show g ≤ 4294967295 by omega) gv.1 (show v.getD i 0 ≤ 4294967295 by omega)
    have ewv : IntKind.u64.wrap (v.getD i 0) = v.getD i 0 := by rw [wu64]; omega
    have ewp : IntKind.u64.wrap (g * v.getD i 0) = g * v.getD i 0 := by rw [wu64]; omega
    have ewt : IntKind.u64.wrap (g * v.getD i 0 + c) = g * v.getD i 0 + c := by rw [wu64]; omega
    have es : shr .u64 (g * v.getD i 0 + c) 32 = (g * v.getD i 0 + c) / 4294967296 := shr64 32 (by decide)
    generalize hpv : g * v.getD i 0 = pv at *
    have y0 : 0 ≤ (pv + c) % 4294967296 := Int.emod_nonneg _ (by decide)
    have y1 : (pv + c) % 4294967296 < 4294967296 := Int.emod_lt_of_pos _ (by decide)
    have m0 : 0 ≤ (Y.getD i 0 - (pv + c) % 4294967296 - w) % 4294967296 := Int.emod_nonneg _ (by decide)
    have m1 : (Y.getD i 0 - (pv + c) % 4294967296 - w) % 4294967296 < 4294967296 := Int.emod_lt_of_pos _ (by decide)
    obtain ⟨Z, h2, h3, h4, h5⟩ := loop86_12 (pre := pre) (post := post) (p2 := p2) hv hl hlp hY hYl hg hg' hU b0 b1 hV m (i + 1) ((pv + c) / 4294967296) (if Y.getD i 0 < (pv + c) % 4294967296 + w then 1 else 0) (W.set i ((Y.getD i 0 - (pv + c) % 4294967296 - w) % 4294967296)) (by omega) (hW.set i m0 m1) (by simpa using hWl) (by omega) (by omega) (by split; exact .inr rfl; exact .inl rfl) (drop_next hd) (by
      rw [val_take_succ _ i (by simp; omega), Limb.getD_set_self _ _ _ (by omega), List.take_set_of_le (Nat.le_refl i), val_take_any Y, val_take_any v, P_succ]
      have hm : (Y.getD i 0 - (pv + c) % 4294967296 - w) % 4294967296 = Y.getD i 0 - (pv + c) % 4294967296 - w + (if Y.getD i 0 < (pv + c) % 4294967296 + w then 1 else 0) * 4294967296 := by
        rcases hw with hw | hw <;> split <;> omega
      rw [hm]
      have ee := Int.mul_ediv_add_emod (pv + c) 4294967296
      generalize (if Y.getD i 0 < (pv + c) % 4294967296 + w then (1 : Int) else 0) = o at *
      generalize (pv + c) / 4294967296 = D at *
      generalize (pv + c) % 4294967296 = M at *
      generalize Y.getD i 0 = x at *
      generalize v.getD i 0 = y at *
      generalize P i = Q at *
      generalize val (W.take i) = V1 at *
      generalize val (Y.take i) = V2 at *
      generalize val (v.take i) = V3 at *
      have h5 : (4294967296 * D + M) * Q = (pv + c) * Q := by rw [ee]
      have h6 : g * y * Q = pv * Q := by rw [hpv]
      grind)
    refine ⟨Z, h2.step fun f => ?_, h3, h4, h5⟩
    show b86_12 pre.length (v.length + 1) p2 v (f86_7 pre.length (v.length + 1) p2 v f) (f86_12 pre.length (v.length + 1) p2 v f) (f86_23 pre.length (v.length + 1) p2 v f) g c w (i : Int) (pre ++ (W ++ post)) = _
    unfold b86_12
    have eg : (pre ++ (W ++ post)).getD (pre.length + i) 0 = Y.getD i 0 := by rw [getD_mid _ _ _ _ (by omega), eY]
    have eS : ∀ x, (pre ++ (W ++ post)).set (pre.length + i) x = pre ++ (W.set i x ++ post) := fun x => set_mid _ _ _ _ _ (by omega)
    have hlen : pre.length + i < (pre ++ (W ++ post)).length := by simp; omega
    simp only [Int.toNat_natCast, dflt99, eg, eS, e1, ewv, hpv, ewp, ewt, es, wu32]
    rw [run96 gy.1 gy.2 y0 y1 hw]
    simp (disch := omega) only [cT, Option.bind_some]
end Go.Abs.Z
namespace Go.Abs.Z
open Go Go.Abs Limb
theorem loop86_7 {pre post v W : List Int} (hv : Ok v) (hW : Ok W) (hn : 2 ≤ v.length) (hl : v.length ≤ 1073741824) (hlp : pre.length ≤ 1073741824) (hWl : W.length = v.length + 1) {top : Int} (R : R86)
    (fin : ∀ g : Int, 0 ≤ g → g < 4294967296 → g * (v.getD (v.length - 1) 0 * 4294967296 + v.getD (v.length - 2) 0) ≤ top * 4294967296 + W.getD (v.length - 2) 0 → (g = 4294967295 ∨ top * 4294967296 + W.getD (v.length - 2) 0 < (g + 1) * (v.getD (v.length - 1) 0 * 4294967296 + v.getD (v.length - 2) 0)) →
      Evt (fun f => f86_12 pre.length (v.length + 1) (pre ++ (W ++ post)) v f g 0 0 0 (pre ++ (W ++ post))) R) :
    ∀ (G : Nat) (g rest : Int), g.toNat = G → 0 ≤ g → g < 4294967296 → 0 ≤ rest → rest < 8589934592 → g * v.getD (v.length - 1) 0 + rest = top → (g = 4294967295 ∨ top * 4294967296 + W.getD (v.length - 2) 0 < (g + 1) * (v.getD (v.length - 1) 0 * 4294967296 + v.getD (v.length - 2) 0)) →
      Evt (fun f => f86_7 pre.length (v.length + 1) (pre ++ (W ++ post)) v f g rest) R := by
  intro G
  induction G with
  | zero => ?_
  | succ G ih => ?_
  all_goals
    intro g rest hG g0 g1 r0 r1 ht hx
    have gv1 := getD_ok hv (v.length - 1)
    have gv2 := getD_ok hv (v.length - 2)
    have gu2 := getD_ok hW (v.length - 2)
    have en1 : IntKind.i64.wrap ((v.length : Int) - 1) = ((v.length - 1 : Nat) : Int) := by rw [wi64] <;> omega
    have en2 : IntKind.i64.wrap ((v.length : Int) - 2) = ((v.length - 2 : Nat) : Int) := by rw [wi64] <;> omega
    have eg : (pre ++ (W ++ post)).getD (pre.length + (v.length - 2)) 0 = W.getD (v.length - 2) 0 := getD_mid _ _ _ _ (by omega)
    have hlen : pre.length + (v.length - 2) < (pre ++ (W ++ post)).length := by simp; omega
    have pb := mul_bound g0 (show g ≤ 4294967295 by omega) gv2.1 (show v.getD (v.length - 2) 0 ≤ 4294967295 by omega)
    have ew2 : IntKind.u64.wrap (v.getD (v.length - 2) 0) = v.getD (v.length - 2) 0 := by rw [wu64]; omega
    have ew1 : IntKind.u64.wrap (v.getD (v.length - 1) 0) = v.getD (v.length - 1) 0 := by rw [wu64]; omega
    have ewu : IntKind.u64.wrap (W.getD (v.length - 2) 0) = W.getD (v.length - 2) 0 := by rw [wu64]; omega
    have ewp : IntKind.u64.wrap (g * v.getD (v.length - 2) 0) = g * v.getD (v.length - 2) 0 := by rw [wu64]; omega
    have split2 : g * (v.getD (v.length - 1) 0 * 4294967296 + v.getD (v.length - 2) 0) = (top - rest) * 4294967296 + g * v.getD (v.length - 2) 0 := by
      have : top - rest = g * v.getD (v.length - 1) 0 := by omega
      rw [this]; grind
    by_cases hr : rest < 4294967296
    · have eor : bits .or .u64 (shl .u64 rest 32) (W.getD (v.length - 2) 0) = rest * 4294967296 + W.getD (v.length - 2) 0 := by
        have es : shl .u64 rest 32 = rest * 2 ^ 32 := by
          refine (shl64 32 (by decide)).trans ?_
          omega
        rw [es]
        exact or_low r0 gu2.1 (by omega) (by omega)
      by_cases hc : rest * 4294967296 + W.getD (v.length - 2) 0 < g * v.getD (v.length - 2) 0
      · -- one less
        have hgp : 0 < g := by
          refine Classical.byContradiction fun hh => ?_
          have : g = 0 := by omega
          rw [this, Int.zero_mul] at hc
          omega
        first
        | (exfalso; omega)
        | (refine (ih (g - 1) (rest + v.getD (v.length - 1) 0) (by omega) (by omega) (by omega) (by omega) (by omega) (by rw [Int.sub_mul]; omega) (.inr (by rw [show g - 1 + 1 = g from by omega, split2]; omega))).step fun f => ?_
           show b86_7 pre.length (v.length + 1) (pre ++ (W ++ post)) v (f86_7 pre.length (v.length + 1) (pre ++ (W ++ post)) v f) (f86_12 pre.length (v.length + 1) (pre ++ (W ++ post)) v f) (f86_23 pre.length (v.length + 1) (pre ++ (W ++ post)) v f) g rest = _
           unfold b86_7
           have e1 : IntKind.u64.wrap (g - 1) = g - 1 := by rw [wu64]; omega
           have e2 : IntKind.u64.wrap (rest + v.getD (v.length - 1) 0) = rest + v.getD (v.length - 1) 0 := by rw [wu64]; omega
           simp only [en1, en2, Int.toNat_natCast, dflt99, eg, ew1, ew2, ewu, ewp, eor, e1, e2]
           simp (disch := omega) only [cT])
      · refine (fin g g0 g1 (by rw [split2]; omega) hx).step fun f => ?_
        show b86_7 pre.length (v.length + 1) (pre ++ (W ++ post)) v (f86_7 pre.length (v.length + 1) (pre ++ (W ++ post)) v f) (f86_12 pre.length (v.length + 1) (pre ++ (W ++ post)) v f) (f86_23 pre.length (v.length + 1) (pre ++ (W ++ post)) v f) g rest = _
        unfold b86_7
        simp only [en1, en2, Int.toNat_natCast, dflt99, eg, ew1, ew2, ewu, ewp, eor]
        simp (disch := omega) only [cT, cF]
    · refine (fin g g0 g1 (by rw [split2]; omega) hx).step fun f => ?_
      show b86_7 pre.length (v.length + 1) (pre ++ (W ++ post)) v (f86_7 pre.length (v.length + 1) (pre ++ (W ++ post)) v f) (f86_12 pre.length (v.length + 1) (pre ++ (W ++ post)) v f) (f86_23 pre.length (v.length + 1) (pre ++ (W ++ post)) v f) g rest = _
      unfold b86_7
      simp (disch := omega) only [cF]
theorem top2 {v : List Int} (hn : 2 ≤ v.length) : val v = (v.getD (v.length - 1) 0 * 4294967296 + v.getD (v.length - 2) 0) * P (v.length - 2) + val (v.take (v.length - 2)) := by
  have h1 := val_take_any v (v.length - 1)
  have h2 := val_take_any v (v.length - 2)
  rw [show v.length - 1 + 1 = v.length from by omega, List.take_length] at h1
  rw [show v.length - 2 + 1 = v.length - 1 from by omega] at h2
  have hp : P (v.length - 1) = 4294967296 * P (v.length - 2) := by rw [← P_succ, show v.length - 2 + 1 = v.length - 1 from by omega]
  rw [h1, h2, hp]
  grind
theorem top3 {v W : List Int} (hn : 2 ≤ v.length) (hWl : W.length = v.length + 1) : val W = ((W.getD v.length 0 * 4294967296 + W.getD (v.length - 1) 0) * 4294967296 + W.getD (v.length - 2) 0) * P (v.length - 2) + val (W.take (v.length - 2)) := by
  have h0 := val_take_any W v.length
  have h1 := val_take_any W (v.length - 1)
  have h2 := val_take_any W (v.length - 2)
  rw [List.take_of_length_le (by omega)] at h0
  rw [show v.length - 1 + 1 = v.length from by omega] at h1
  rw [show v.length - 2 + 1 = v.length - 1 from by omega] at h2
  have hp : P (v.length - 1) = 4294967296 * P (v.length - 2) := by rw [← P_succ, show v.length - 2 + 1 = v.length - 1 from by omega]
  have hp2 : P v.length = 4294967296 * P (v.length - 1) := by rw [← P_succ, show v.length - 1 + 1 = v.length from by omega]
  rw [h0, h1, h2, hp2, hp]
  grind
theorem run86 {pre post v W : List Int} (hv : Ok v) (hW : Ok W) (hn : 2 ≤ v.length) (hl : v.length ≤ 1073741824) (hlp : pre.length ≤ 1073741824) (hWl : W.length = v.length + 1) (htop : 2147483648 ≤ v.getD (v.length - 1) 0) (hU : val W < val v * 4294967296) :
    ∃ Z, S86 pre.length (v.length + 1) (pre ++ (W ++ post)) v = some (val W / val v, pre ++ (Z ++ post)) ∧ Ok Z ∧ Z.length = v.length + 1 ∧ val Z = val W % val v := by
  have gv1 := getD_ok hv (v.length - 1)
  have gv2 := getD_ok hv (v.length - 2)
  have gu0 := getD_ok hW v.length
  have gu1 := getD_ok hW (v.length - 1)
  have gu2 := getD_ok hW (v.length - 2)
  have hvb := val_bound hv
  have hM := P_pos (v.length - 2)
  have hul := val_bound (hW.take (v.length - 2))
  have hvl := val_bound (hv.take (v.length - 2))
  rw [show (W.take (v.length - 2)).length = v.length - 2 from by simp; omega] at hul
  rw [show (v.take (v.length - 2)).length = v.length - 2 from by simp] at hvl
  have eW := top3 hn hWl
  have eV := top2 hn
  have hle : W.getD v.length 0 ≤ v.getD (v.length - 1) 0 := by
    refine Classical.byContradiction fun hh => ?_
    have h1 : v.getD (v.length - 1) 0 + 1 ≤ W.getD v.length 0 := by omega
    have h2 : (v.getD (v.length - 1) 0 * 4294967296 + v.getD (v.length - 2) 0 + 1) * 4294967296 ≤ (W.getD v.length 0 * 4294967296 + W.getD (v.length - 1) 0) * 4294967296 + W.getD (v.length - 2) 0 := by omega
    have h3 := Int.mul_le_mul_of_nonneg_right h2 (Int.le_of_lt hM)
    have h4 : val v * 4294967296 ≤ (v.getD (v.length - 1) 0 * 4294967296 + v.getD (v.length - 2) 0 + 1) * 4294967296 * P (v.length - 2) := by
      rw [eV]
      generalize v.getD (v.length - 1) 0 * 4294967296 + v.getD (v.length - 2) 0 = x at *
      generalize P (v.length - 2) = Q at *
      have : (x + 1) * 4294967296 * Q = (x * Q + Q) * 4294967296 := by grind
      rw [this]; omega
    omega
  have fin : ∀ Wc, Wc = W → ∃ Z, (∀ g : Int, 0 ≤ g → g < 4294967296 → g * (v.getD (v.length - 1) 0 * 4294967296 + v.getD (v.length - 2) 0) ≤ (W.getD v.length 0 * 4294967296 + W.getD (v.length - 1) 0) * 4294967296 + W.getD (v.length - 2) 0 → (g = 4294967295 ∨ (W.getD v.length 0 * 4294967296 + W.getD (v.length - 1) 0) * 4294967296 + W.getD (v.length - 2) 0 < (g + 1) * (v.getD (v.length - 1) 0 * 4294967296 + v.getD (v.length - 2) 0)) →
      Evt (fun f => f86_12 pre.length (v.length + 1) (pre ++ (W ++ post)) v f g 0 0 0 (pre ++ (W ++ post))) (val W / val v, pre ++ (Z ++ post))) ∧ Ok Z ∧ Z.length = v.length + 1 ∧ val Z = val W % val v := by
    intro _ _
    have one : ∀ g : Int, 0 ≤ g → g < 4294967296 → g * (v.getD (v.length - 1) 0 * 4294967296 + v.getD (v.length - 2) 0) ≤ (W.getD v.length 0 * 4294967296 + W.getD (v.length - 1) 0) * 4294967296 + W.getD (v.length - 2) 0 → (g = 4294967295 ∨ (W.getD v.length 0 * 4294967296 + W.getD (v.length - 1) 0) * 4294967296 + W.getD (v.length - 2) 0 < (g + 1) * (v.getD (v.length - 1) 0 * 4294967296 + v.getD (v.length - 2) 0)) →
        ∃ Z, Evt (fun f => f86_12 pre.length (v.length + 1) (pre ++ (W ++ post)) v f g 0 0 0 (pre ++ (W ++ post))) (val W / val v, pre ++ (Z ++ post)) ∧ Ok Z ∧ Z.length = v.length + 1 ∧ val Z = val W % val v := by
      intro g g0 g1 h1 h2
      obtain ⟨b0, b1⟩ := Num.guess_ok (b := 4294967296) (M := P (v.length - 2)) (U := val W) (V := val v) (by decide) hM eW hul.1 hul.2 eV hvl.1 hvl.2 (by omega) hU g0 g1 h1 (h2.imp (fun h => by omega) id)
      exact loop86_12 (pre := pre) (post := post) (p2 := pre ++ (W ++ post)) hv hl hlp hW hWl g0 g1 rfl b0 b1 hvb.2 v.length 0 0 0 W (by omega) hW hWl (by omega) (by omega) (.inl rfl) rfl (by simp [val])
    have hmod0 : 0 ≤ val W % val v := Int.emod_nonneg _ (by
      have := Int.mul_le_mul_of_nonneg_right (show 1 ≤ v.getD (v.length - 1) 0 * 4294967296 + v.getD (v.length - 2) 0 by omega) (Int.le_of_lt hM)
      omega)
    by_cases hex : ∃ g : Int, 0 ≤ g ∧ g < 4294967296 ∧ g * (v.getD (v.length - 1) 0 * 4294967296 + v.getD (v.length - 2) 0) ≤ (W.getD v.length 0 * 4294967296 + W.getD (v.length - 1) 0) * 4294967296 + W.getD (v.length - 2) 0 ∧ (g = 4294967295 ∨ (W.getD v.length 0 * 4294967296 + W.getD (v.length - 1) 0) * 4294967296 + W.getD (v.length - 2) 0 < (g + 1) * (v.getD (v.length - 1) 0 * 4294967296 + v.getD (v.length - 2) 0))
    · obtain ⟨g, g0, g1, h1, h2⟩ := hex
      obtain ⟨Z, z1, z2, z3, z4⟩ := one g g0 g1 h1 h2
      refine ⟨Z, fun g' g0' g1' h1' h2' => ?_, z2, z3, z4⟩
      obtain ⟨Z', y1, y2, y3, y4⟩ := one g' g0' g1' h1' h2'
      have : Z' = Z := val_inj y2 z2 (y3.trans z3.symm) (y4.trans z4.symm)
      rw [this] at y1; exact y1
    · obtain ⟨Z, z1, z2, z3⟩ : ∃ Z : List Int, Ok Z ∧ Z.length = v.length + 1 ∧ val Z = val W % val v := by
        exfalso
        refine hex ?_
        have hvv : 0 < v.getD (v.length - 1) 0 * 4294967296 + v.getD (v.length - 2) 0 := by omega
        generalize v.getD (v.length - 1) 0 * 4294967296 + v.getD (v.length - 2) 0 = d at *
        generalize (W.getD v.length 0 * 4294967296 + W.getD (v.length - 1) 0) * 4294967296 + W.getD (v.length - 2) 0 = u at *
        have u0 : 0 ≤ u := by
          refine Classical.byContradiction fun hh => ?_
          have := Int.mul_le_mul_of_nonneg_right (show u ≤ -1 by omega) (Int.le_of_lt hM)
          have := (val_bound hW).1
          omega
        have q0 := Int.ediv_nonneg u0 (Int.le_of_lt hvv)
        have q1 := Int.ediv_mul_le u (b := d) (by omega)
        have q2 := Int.lt_ediv_add_one_mul_self u hvv
        by_cases hb : u / d < 4294967296
        · exact ⟨u / d, q0, hb, q1, .inr q2⟩
        · refine ⟨4294967295, by decide, by decide, ?_, .inl rfl⟩
          have := Int.mul_le_mul_of_nonneg_right (show 4294967295 ≤ u / d by omega) (Int.le_of_lt hvv)
          omega
      exact ⟨Z, fun g g0 g1 h1 h2 => absurd ⟨g, g0, g1, h1, h2⟩ hex, z1, z2, z3⟩
  obtain ⟨Z, f1, z1, z2, z3⟩ := fin W rfl
  refine ⟨Z, evv_eq ?_, z1, z2, z3⟩
  have l7 := loop86_7 (pre := pre) (post := post) hv hW hn hl hlp hWl (top := W.getD v.length 0 * 4294967296 + W.getD (v.length - 1) 0) _ f1
  have en1 : IntKind.i64.wrap ((v.length : Int) - 1) = ((v.length - 1 : Nat) : Int) := by rw [wi64] <;> omega
  have eg0 : (pre ++ (W ++ post)).getD (pre.length + v.length) 0 = W.getD v.length 0 := getD_mid _ _ _ _ (by omega)
  have eg1 : (pre ++ (W ++ post)).getD (pre.length + (v.length - 1)) 0 = W.getD (v.length - 1) 0 := getD_mid _ _ _ _ (by omega)
  have hlen : pre.length + v.length < (pre ++ (W ++ post)).length := by simp; omega
  have ew0 : IntKind.u64.wrap (W.getD v.length 0) = W.getD v.length 0 := by rw [wu64]; omega
  have ew1 : IntKind.u64.wrap (W.getD (v.length - 1) 0) = W.getD (v.length - 1) 0 := by rw [wu64]; omega
  have ewv : IntKind.u64.wrap (v.getD (v.length - 1) 0) = v.getD (v.length - 1) 0 := by rw [wu64]; omega
  have eor : bits .or .u64 (shl .u64 (W.getD v.length 0) 32) (W.getD (v.length - 1) 0) = W.getD v.length 0 * 4294967296 + W.getD (v.length - 1) 0 := by
    have es : shl .u64 (W.getD v.length 0) 32 = W.getD v.length 0 * 2 ^ 32 := by
      refine (shl64 32 (by decide)).trans ?_
      omega
    rw [es]
    exact or_low gu0.1 gu1.1 (by omega) (by omega)
  by_cases hlt : W.getD v.length 0 < v.getD (v.length - 1) 0
  · have t0 : 0 ≤ W.getD v.length 0 * 4294967296 + W.getD (v.length - 1) 0 := by omega
    have d0 := Int.ediv_nonneg t0 gv1.1
    have d1 : (W.getD v.length 0 * 4294967296 + W.getD (v.length - 1) 0) / v.getD (v.length - 1) 0 < 4294967296 := Int.ediv_lt_of_lt_mul (by omega) (by omega)
    have m0 : 0 ≤ (W.getD v.length 0 * 4294967296 + W.getD (v.length - 1) 0) % v.getD (v.length - 1) 0 := Int.emod_nonneg _ (by omega)
    have m1 : (W.getD v.length 0 * 4294967296 + W.getD (v.length - 1) 0) % v.getD (v.length - 1) 0 < v.getD (v.length - 1) 0 := Int.emod_lt_of_pos _ (by omega)
    have ee := Int.mul_ediv_add_emod (W.getD v.length 0 * 4294967296 + W.getD (v.length - 1) 0) (v.getD (v.length - 1) 0)
    refine (l7 _ ((W.getD v.length 0 * 4294967296 + W.getD (v.length - 1) 0) / v.getD (v.length - 1) 0) ((W.getD v.length 0 * 4294967296 + W.getD (v.length - 1) 0) % v.getD (v.length - 1) 0) rfl d0 d1 m0 (by omega) (by rw [Int.mul_comm]; exact ee) (.inr ?_)).same fun f => ?_
    · have h1 := Int.lt_ediv_add_one_mul_self (W.getD v.length 0 * 4294967296 + W.getD (v.length - 1) 0) (b := v.getD (v.length - 1) 0) (by omega)
      have h2 := mul_bound (p := (W.getD v.length 0 * 4294967296 + W.getD (v.length - 1) 0) / v.getD (v.length - 1) 0 + 1) (M := 4294967296) (by omega) (by omega) gv2.1 (show v.getD (v.length - 2) 0 ≤ 4294967295 by omega)
      generalize (W.getD v.length 0 * 4294967296 + W.getD (v.length - 1) 0) / v.getD (v.length - 1) 0 = D at *
      have h3 : (D + 1) * (v.getD (v.length - 1) 0 * 4294967296 + v.getD (v.length - 2) 0) = (D + 1) * v.getD (v.length - 1) 0 * 4294967296 + (D + 1) * v.getD (v.length - 2) 0 := by grind
      rw [h3]; omega
    · show b86 pre.length (v.length + 1) (pre ++ (W ++ post)) v _ _ _ = _
      unfold b86
      have et : (W.getD v.length 0 * 4294967296 + W.getD (v.length - 1) 0).tdiv (v.getD (v.length - 1) 0) = (W.getD v.length 0 * 4294967296 + W.getD (v.length - 1) 0) / v.getD (v.length - 1) 0 := Int.tdiv_eq_ediv_of_nonneg t0
      have em : (W.getD v.length 0 * 4294967296 + W.getD (v.length - 1) 0).tmod (v.getD (v.length - 1) 0) = (W.getD v.length 0 * 4294967296 + W.getD (v.length - 1) 0) % v.getD (v.length - 1) 0 := Int.tmod_eq_emod_of_nonneg t0
      have ewd : IntKind.u64.wrap ((W.getD v.length 0 * 4294967296 + W.getD (v.length - 1) 0) / v.getD (v.length - 1) 0) = (W.getD v.length 0 * 4294967296 + W.getD (v.length - 1) 0) / v.getD (v.length - 1) 0 := by rw [wu64]; omega
      simp only [en1, Int.toNat_natCast, dflt99, eg0, eg1, ew0, ew1, ewv, eor, et, em, ewd]
      simp (disch := omega) only [cT, cF]
  · have heq : W.getD v.length 0 = v.getD (v.length - 1) 0 := by omega
    refine (l7 _ 4294967295 (v.getD (v.length - 1) 0 + W.getD (v.length - 1) 0) rfl (by decide) (by decide) (by omega) (by omega) (by rw [heq]; omega) (.inl rfl)).same fun f => ?_
    show b86 pre.length (v.length + 1) (pre ++ (W ++ post)) v _ _ _ = _
    unfold b86
    have e1 : IntKind.u64.wrap (W.getD v.length 0 * 4294967296 + W.getD (v.length - 1) 0 - IntKind.u64.wrap (4294967295 * v.getD (v.length - 1) 0)) = v.getD (v.length - 1) 0 + W.getD (v.length - 1) 0 := by
      rw [wu64, wu64, heq]; omega
    simp only [en1, Int.toNat_natCast, dflt99, eg0, eg1, ew0, ew1, ewv, eor, e1]
    simp (disch := omega) only [cT, cF]
end Go.Abs.Z
namespace Go.Abs.Z
open Go Go.Abs Go.Proofs
noncomputable section
abbrev R63 : Type := Int × Int × Int × (Int)
noncomputable def body63 : Go.Code := (Tryd.f63.body).getD Go.Code.skip
def h63 (p0 p1 : TI) : List (AO U) := []
def k63 : AV U → List (AO U) → Option R63 := fun v h => match v, h with | AV.tup [AV.int IntKind.i64 x0, AV.int IntKind.i64 x1, AV.int IntKind.i64 x2, AV.int IntKind.i64 x3], [] => some (x0, x1, x2, x3) | _, _ => none
def out63 : R63 → AV U := fun (x0, x1, x2, x3) => AV.tup [AV.int IntKind.i64 x0, AV.int IntKind.i64 x1, AV.int IntKind.i64 x2, AV.int IntKind.i64 x3]
def outh63 : R63 → List (AO U) := fun (x0, x1, x2, x3) => []
def D63 : Nat → Dir := dirs [(4, ⟨[9, 10, 11, 12, 13, 14], [], [], []⟩)]
def b63 (p0 p1 : TI) (c4 : (Int) → Int → (Int) → Int → (Int) → Int → Option R63)  : Option R63 :=
  (S81 p0).bind fun r0 =>
  (S82 p0 (bif true then List.foldl imax 0 [IntKind.i64.wrap (r0 - 62)] else List.foldl imin 0 [IntKind.i64.wrap (r0 - 62)])).bind fun r1 =>
  (S82 p1 (bif true then List.foldl imax 0 [IntKind.i64.wrap (r0 - 62)] else List.foldl imin 0 [IntKind.i64.wrap (r0 - 62)])).bind fun r2 =>
  c4 (r1) (r2) (1) (0) (0) (1)
def m63_4 (p0 p1 : TI) (v0 v1 v2 v3 v4 v5 : Int) : S U := S.mk [AV.undef, AV.undef, AV.undef, AV.undef, AV.undef, AV.undef, AV.undef, AV.undef, AV.undef, AV.int IntKind.i64 v0, AV.int IntKind.i64 v1, AV.int IntKind.i64 v2, AV.int IntKind.i64 v3, AV.int IntKind.i64 v4, AV.int IntKind.i64 v5, AV.undef, AV.undef, AV.undef, AV.undef, AV.undef, AV.undef, AV.undef, AV.undef, AV.undef, AV.undef, AV.undef, AV.undef, AV.undef, AV.undef, AV.undef, AV.undef, AV.undef, AV.undef, AV.undef, AV.undef, AV.undef, AV.undef, AV.undef, AV.undef, AV.undef, AV.undef, AV.undef, AV.undef, AV.undef, AV.undef, AV.undef, AV.undef, AV.undef, AV.undef, AV.undef, AV.undef, AV.undef, AV.undef, AV.undef, AV.undef, AV.undef, AV.undef, AV.undef, AV.undef, AV.undef, AV.undef, AV.undef, AV.undef, AV.undef, AV.undef, AV.undef, AV.undef, AV.undef, AV.undef, AV.undef, AV.undef, AV.undef, AV.undef, AV.undef, AV.undef, AV.undef, AV.undef, AV.undef, AV.undef, AV.undef, AV.undef, AV.undef, AV.undef, AV.undef, AV.undef, AV.undef] []
def b63_4 (p0 p1 : TI) (c4 : (Int) → Int → (Int) → Int → (Int) → Int → Option R63) (v0 v1 v2 v3 v4 v5 : Int) : Option R63 :=
  cond (IntKind.i64.wrap (v1 + v4) != 0)
  (cond (IntKind.i64.wrap (v1 + v5) != 0)
  (cond (decide (IntKind.i64.wrap (v1 + v4) = 0))
  (none)
  (cond (decide (IntKind.i64.wrap (v1 + v5) = 0))
  (none)
  (cond (IntKind.i64.wrap ((IntKind.i64.wrap (v0 + v2)).tdiv (IntKind.i64.wrap (v1 + v4))) != IntKind.i64.wrap ((IntKind.i64.wrap (v0 + v3)).tdiv (IntKind.i64.wrap (v1 + v5))))
  (some ((v2, v3, v4, v5)))
  (cond (decide ((bif true then List.foldl imax (IntKind.i64.wrap (v2 - IntKind.i64.wrap (IntKind.i64.wrap ((IntKind.i64.wrap (v0 + v2)).tdiv (IntKind.i64.wrap (v1 + v4))) * v4))) [IntKind.i64.wrap (0 - IntKind.i64.wrap (v2 - IntKind.i64.wrap (IntKind.i64.wrap ((IntKind.i64.wrap (v0 + v2)).tdiv (IntKind.i64.wrap (v1 + v4))) * v4))), IntKind.i64.wrap (v3 - IntKind.i64.wrap (IntKind.i64.wrap ((IntKind.i64.wrap (v0 + v2)).tdiv (IntKind.i64.wrap (v1 + v4))) * v5)), IntKind.i64.wrap (0 - IntKind.i64.wrap (v3 - IntKind.i64.wrap (IntKind.i64.wrap ((IntKind.i64.wrap (v0 + v2)).tdiv (IntKind.i64.wrap (v1 + v4))) * v5)))] else List.foldl imin (IntKind.i64.wrap (v2 - IntKind.i64.wrap (IntKind.i64.wrap ((IntKind.i64.wrap (v0 + v2)).tdiv (IntKind.i64.wrap (v1 + v4))) * v4))) [IntKind.i64.wrap (0 - IntKind.i64.wrap (v2 - IntKind.i64.wrap (IntKind.i64.wrap ((IntKind.i64.wrap (v0 + v2)).tdiv (IntKind.i64.wrap (v1 + v4))) * v4))), IntKind.i64.wrap (v3 - IntKind.i64.wrap (IntKind.i64.wrap ((IntKind.i64.wrap (v0 + v2)).tdiv (IntKind.i64.wrap (v1 + v4))) * v5)), IntKind.i64.wrap (0 - IntKind.i64.wrap (v3 - IntKind.i64.wrap (IntKind.i64.wrap ((IntKind.i64.wrap (v0 + v2)).tdiv (IntKind.i64.wrap (v1 + v4))) * v5)))]) ≥ 2147483648))
  (some ((v2, v3, v4, v5)))
  (c4 (v1) (IntKind.i64.wrap (v0 - IntKind.i64.wrap (IntKind.i64.wrap ((IntKind.i64.wrap (v0 + v2)).tdiv (IntKind.i64.wrap (v1 + v4))) * v1))) (v4) (v5) (IntKind.i64.wrap (v2 - IntKind.i64.wrap (IntKind.i64.wrap ((IntKind.i64.wrap (v0 + v2)).tdiv (IntKind.i64.wrap (v1 + v4))) * v4))) (IntKind.i64.wrap (v3 - IntKind.i64.wrap (IntKind.i64.wrap ((IntKind.i64.wrap (v0 + v2)).tdiv (IntKind.i64.wrap (v1 + v4))) * v5))))))))
  (some ((v2, v3, v4, v5))))
  (some ((v2, v3, v4, v5)))
theorem hk63 : ∀ v h' r, k63 v h' = some r → v = out63 r ∧ h' = outh63 r := by
  intro v h' r h
  unfold k63 at h
  split at h
  · injection h with h; subst h; exact ⟨rfl, rfl⟩
  · cases h
abbrev q63 : Prim U R63 := prims X [⟨81, fun _ => true, [.lend], F81 S81⟩, ⟨82, fun _ => true, [.lend], F82 S82⟩]
theorem s63 (c : Nat → S U → Option R63) (p0 p1 : TI) : seg TP X q63 [4] (fun q st => c q (keepD D63 (h63 p0 p1).length q st)) body63 (finH TP Tryd.f63.results.toList (h63 p0 p1).length false k63) (start [.imm 99 p0, .imm 99 p1] Tryd.f63.ntmps (h63 p0 p1)) = b63 p0 p1 (fun v0 v1 v2 v3 v4 v5 => c 4 (m63_4 p0 p1 v0 v1 v2 v3 v4 v5)) := by kernel_rfl
theorem s63_4 (c : Nat → S U → Option R63) (p0 p1 : TI) (v0 v1 v2 v3 v4 v5 : Int) : res TP X q63 [4] (fun q st => c q (keepD D63 (h63 p0 p1).length q st)) 4 body63 (finH TP Tryd.f63.results.toList (h63 p0 p1).length false k63) (m63_4 p0 p1 v0 v1 v2 v3 v4 v5) = b63_4 p0 p1 (fun v0 v1 v2 v3 v4 v5 => c 4 (m63_4 p0 p1 v0 v1 v2 v3 v4 v5)) v0 v1 v2 v3 v4 v5 := by kernel_rfl
def f63_4 (p0 p1 : TI) : Nat → Int → (Int) → Int → (Int) → Int → (Int) → Option R63
  | 0 => fun _ _ _ _ _ _ => none
  | k + 1 => b63_4 p0 p1 (f63_4 p0 p1 k)
def f63 (k : Nat) (p0 p1 : TI) : Option R63 := b63 p0 p1 (f63_4 p0 p1 k)
theorem e63 (p0 p1 : TI) : ∀ k, ((fun v0 v1 v2 v3 v4 v5 => cutG TP X q63 [4] D63 (h63 p0 p1).length body63 (finH TP Tryd.f63.results.toList (h63 p0 p1).length false k63) k 4 (m63_4 p0 p1 v0 v1 v2 v3 v4 v5)) = f63_4 p0 p1 k)
  | 0 => rfl
  | k + 1 => by
    have ih := e63 p0 p1 k
    · funext v0 v1 v2 v3 v4 v5
      refine (if_pos (by kernel_rfl)).trans ?_
      rw [s63_4]
      simp only [ih]
      rfl
theorem pure63 (p0 p1 : TI) (pok : PrmOK TP X q63) (k : Nat) (r : R63) (h : f63 k p0 p1 = some r) : PureH TP X 63 [.imm 99 p0, .imm 99 p1] (h63 p0 p1) (out63 r) (outh63 r) :=
  pure_gen good k (fn := Tryd.f63) (body := body63) (prim := q63) (D := D63) (cuts := [4]) (h := h63 p0 p1) (own := false) (by kernel_rfl) (by kernel_rfl) (by decide +kernel) pok hk63 (by
    rw [s63]
    have ih := e63 p0 p1 k
    simp only [ih]
    exact h)
def F63 {R : Type} (spec : TI → TI → Option R63) : Fn U R := fun args h k => match args, h with | [.imm 99 p0, .imm 99 p1], [] => (spec p0 p1).bind fun r => k (out63 r) (outh63 r) | _, _ => none
theorem ok63 {R : Type} (spec : TI → TI → Option R63) (hp : ∀ (p0 : TI) (p1 : TI) (r : R63), spec p0 p1 = some r → PureH TP X 63 [.imm 99 p0, .imm 99 p1] (h63 p0 p1) (out63 r) (outh63 r)) : FnOK TP X 63 (F63 spec : Fn U R) := by
  intro args h k r hh
  unfold F63 at hh
  split at hh
  · obtain ⟨x, h1, h2⟩ := Option.bind_eq_some_iff.1 hh
    exact ⟨_, _, h2, hp _ _ _ h1⟩
  · cases hh
theorem pok63 : PrmOK TP X q63 := prims_cons good okS81 (prims_cons good okS82 (prims_nil TP X mixed))
noncomputable def S63 (p0 p1 : TI) : Option R63 := evv fun k => f63 k p0 p1
theorem okS63 {R : Type} : FnOK TP X 63 (F63 S63 : Fn U R) := ok63 S63 fun p0 p1 r h => by
  obtain ⟨k, hk⟩ := evv_fuel h
  exact pure63 p0 p1 pok63 k r hk
abbrev R64 : Type := TI × TI
noncomputable def body64 : Go.Code := (Tryd.f64.body).getD Go.Code.skip
def h64 (p0 p1 : TI) : List (AO U) := []
def k64 : AV U → List (AO U) → Option R64 := fun v h => match v, h with | AV.tup [AV.imm 99 x0, AV.imm 99 x1], [] => some (x0, x1) | _, _ => none
def out64 : R64 → AV U := fun (x0, x1) => AV.tup [AV.imm 99 x0, AV.imm 99 x1]
def outh64 : R64 → List (AO U) := fun (x0, x1) => []
def D64 : Nat → Dir := dirs [(14, ⟨[8, 9, 10, 11, 12, 13], [], [], []⟩)]
def b64 (p0 p1 : TI) (c14 : (Int) → Int → (Int) → TI → TI → TI → Option R64)  : Option R64 :=
  (S62 p0 p1).bind fun r0 =>
  cond (decide (r0 < 0))
  (cond (decide ((0 + p0.length) * 4 ≤ 140737488355328))
  (some (([], [] ++ p0)))
  (none))
  (cond ((↑p1.length : Int) == 1)
  (cond (decide (0 < (↑p1.length : Int)))
  (cond (decide (Int.toNat 0 < p1.length))
  ((S83 p0 (p1.getD (Int.toNat 0) (X.dflt 99))).bind fun r1 =>
  (S67 (IntKind.u64.wrap r1.snd)).bind fun r2 =>
  some ((r1.fst, r2)))
  (none))
  (none))
  (cond (decide (0 ≤ IntKind.i64.wrap ((↑p1.length : Int) - 1)))
  (cond (decide (IntKind.i64.wrap ((↑p1.length : Int) - 1) < (↑p1.length : Int)))
  (cond (decide ((IntKind.i64.wrap ((↑p1.length : Int) - 1)).toNat < p1.length))
  ((S84 (p1.getD (IntKind.i64.wrap ((↑p1.length : Int) - 1)).toNat (X.dflt 99))).bind fun r3 =>
  (S85 p1 r3).bind fun r4 =>
  (S85 p0 r3).bind fun r5 =>
  cond (decide ((List.length r5 + 1) * 4 ≤ 140737488355328))
  (cond ((↑(r5 ++ [0]).length : Int) == (↑p0.length : Int))
  (cond (decide (((r5 ++ [0]).length + 1) * 4 ≤ 140737488355328))
  (cond (decide (0 ≤ IntKind.i64.wrap ((↑(r5 ++ [0] ++ [0]).length : Int) - (↑(List.length r4) : Int))))
  (cond (decide (IntKind.i64.wrap ((↑(r5 ++ [0] ++ [0]).length : Int) - (↑(List.length r4) : Int)) ≤ IntKind.i64.wrap ((↑(r5 ++ [0] ++ [0]).length : Int) - (↑(List.length r4) : Int))))
  (cond (decide (IntKind.i64.wrap ((↑(r5 ++ [0] ++ [0]).length : Int) - (↑(List.length r4) : Int)) * (↑4 : Int) ≤ 140737488355328))
  (c14 (r3) ((↑(List.length r4) : Int)) (IntKind.i64.wrap (IntKind.i64.wrap ((↑(r5 ++ [0] ++ [0]).length : Int) - (↑(List.length r4) : Int)) - 1)) (r4) (r5 ++ [0] ++ [0]) (repI (IntKind.i64.wrap ((↑(r5 ++ [0] ++ [0]).length : Int) - (↑(List.length r4) : Int))).toNat 0))
  (none))
  (none))
  (none))
  (none))
  (cond (decide (0 ≤ IntKind.i64.wrap ((↑(r5 ++ [0]).length : Int) - (↑(List.length r4) : Int))))
  (cond (decide (IntKind.i64.wrap ((↑(r5 ++ [0]).length : Int) - (↑(List.length r4) : Int)) ≤ IntKind.i64.wrap ((↑(r5 ++ [0]).length : Int) - (↑(List.length r4) : Int))))
  (cond (decide (IntKind.i64.wrap ((↑(r5 ++ [0]).length : Int) - (↑(List.length r4) : Int)) * (↑4 : Int) ≤ 140737488355328))
  (c14 (r3) ((↑(List.length r4) : Int)) (IntKind.i64.wrap (IntKind.i64.wrap ((↑(r5 ++ [0]).length : Int) - (↑(List.length r4) : Int)) - 1)) (r4) (r5 ++ [0]) (repI (IntKind.i64.wrap ((↑(r5 ++ [0]).length : Int) - (↑(List.length r4) : Int))).toNat 0))
  (none))
  (none))
  (none)))
  (none))
  (none))
  (none))
  (none)))
def m64_14 (p0 p1 : TI) (v0 v1 v2 : Int) (v3 v4 v5 : TI) : S U := S.mk [AV.undef, AV.undef, AV.undef, AV.undef, AV.undef, AV.undef, AV.undef, AV.undef, AV.int IntKind.i64 v0, AV.row 0 99, AV.row 1 99, AV.int IntKind.i64 v1, AV.row 2 99, AV.int IntKind.i64 v2, AV.undef, AV.undef, AV.undef, AV.undef, AV.undef, AV.undef, AV.undef, AV.undef, AV.undef, AV.undef, AV.undef, AV.undef, AV.undef, AV.undef, AV.undef, AV.undef, AV.undef, AV.undef, AV.undef, AV.undef, AV.undef, AV.undef, AV.undef, AV.undef, AV.undef, AV.undef, AV.undef, AV.undef, AV.undef, AV.undef, AV.undef, AV.undef, AV.undef, AV.undef, AV.undef, AV.undef, AV.undef, AV.undef, AV.undef, AV.undef, AV.undef, AV.undef, AV.undef, AV.undef, AV.undef, AV.undef, AV.undef, AV.undef, AV.undef, AV.undef, AV.undef, AV.undef, AV.undef, AV.undef, AV.undef, AV.undef, AV.undef, AV.undef, AV.undef, AV.undef, AV.undef, AV.undef, AV.undef, AV.undef, AV.undef, AV.undef, AV.undef, AV.undef, AV.undef, AV.undef, AV.undef, AV.undef, AV.undef, AV.undef, AV.undef, AV.undef, AV.undef, AV.undef, AV.undef, AV.undef] [AO.row 99 v3, AO.row 99 v4, AO.row 99 v5]
def b64_14 (p0 p1 : TI) (c14 : (Int) → Int → (Int) → TI → TI → TI → Option R64) (v0 v1 v2 : Int) (v3 v4 v5 : TI) : Option R64 :=
  cond (decide (v2 ≥ 0))
  (cond (decide (0 ≤ v2))
  (cond (decide (v2 ≤ IntKind.i64.wrap (IntKind.i64.wrap (v2 + v1) + 1)))
  (cond (decide (IntKind.i64.wrap (IntKind.i64.wrap (v2 + v1) + 1) ≤ (↑v4.length : Int)))
  ((S86 v2.toNat ((IntKind.i64.wrap (IntKind.i64.wrap (v2 + v1) + 1)).toNat - v2.toNat) v4 v3).bind fun r0 =>
  cond (decide (0 ≤ v2))
  (cond (decide (v2 < (↑v5.length : Int)))
  (cond (decide (v2.toNat < v5.length))
  (c14 (v0) (v1) (IntKind.i64.wrap (v2 - 1)) (v3) (r0.snd) (v5.set v2.toNat r0.fst))
  (none))
  (none))
  (none))
  (none))
  (none))
  (none))
  ((S87 v5).bind fun r1 =>
  cond (decide (0 ≤ v1))
  (cond (decide (v1 ≤ (↑v4.length : Int)))
  ((S87 (List.take (v1.toNat - 0) (List.drop 0 v4))).bind fun r2 =>
  (S88 r2 v0).bind fun r3 =>
  some ((r1, r3)))
  (none))
  (none))
theorem hk64 : ∀ v h' r, k64 v h' = some r → v = out64 r ∧ h' = outh64 r := by
  intro v h' r h
  unfold k64 at h
  split at h
  · injection h with h; subst h; exact ⟨rfl, rfl⟩
  · cases h
abbrev q64 : Prim U R64 := prims X [⟨62, fun _ => true, [.lend, .lend], F62 S62⟩, ⟨67, fun _ => true, [], F67 S67⟩, ⟨83, fun _ => true, [.lend], F83 S83⟩, ⟨84, fun _ => true, [], F84 S84⟩, ⟨85, fun _ => true, [.lend], F85 S85⟩, ⟨86, fun _ => true, [.hand, .lend], F86 S86⟩, ⟨87, fun _ => true, [.frz], F87 S87⟩, ⟨88, fun _ => true, [.frz], F88 S88⟩]
theorem s64 (c : Nat → S U → Option R64) (p0 p1 : TI) : seg TP X q64 [14] (fun q st => c q (keepD D64 (h64 p0 p1).length q st)) body64 (finH TP Tryd.f64.results.toList (h64 p0 p1).length false k64) (start [.imm 99 p0, .imm 99 p1] Tryd.f64.ntmps (h64 p0 p1)) = b64 p0 p1 (fun v0 v1 v2 v3 v4 v5 => c 14 (m64_14 p0 p1 v0 v1 v2 v3 v4 v5)) := by kernel_rfl
theorem s64_14 (c : Nat → S U → Option R64) (p0 p1 : TI) (v0 v1 v2 : Int) (v3 v4 v5 : TI) : res TP X q64 [14] (fun q st => c q (keepD D64 (h64 p0 p1).length q st)) 14 body64 (finH TP Tryd.f64.results.toList (h64 p0 p1).length false k64) (m64_14 p0 p1 v0 v1 v2 v3 v4 v5) = b64_14 p0 p1 (fun v0 v1 v2 v3 v4 v5 => c 14 (m64_14 p0 p1 v0 v1 v2 v3 v4 v5)) v0 v1 v2 v3 v4 v5 := by kernel_rfl
def f64_14 (p0 p1 : TI) : Nat → Int → (Int) → Int → TI → TI → TI → Option R64
  | 0 => fun _ _ _ _ _ _ => none
  | k + 1 => b64_14 p0 p1 (f64_14 p0 p1 k)
def f64 (k : Nat) (p0 p1 : TI) : Option R64 := b64 p0 p1 (f64_14 p0 p1 k)
theorem e64 (p0 p1 : TI) : ∀ k, ((fun v0 v1 v2 v3 v4 v5 => cutG TP X q64 [14] D64 (h64 p0 p1).length body64 (finH TP Tryd.f64.results.toList (h64 p0 p1).length false k64) k 14 (m64_14 p0 p1 v0 v1 v2 v3 v4 v5)) = f64_14 p0 p1 k)
  | 0 => rfl
  | k + 1 => by
    have ih := e64 p0 p1 k
    · funext v0 v1 v2 v3 v4 v5
      refine (if_pos (by kernel_rfl)).trans ?_
      rw [s64_14]
      simp only [ih]
      rfl
theorem pure64 (p0 p1 : TI) (pok : PrmOK TP X q64) (k : Nat) (r : R64) (h : f64 k p0 p1 = some r) : PureH TP X 64 [.imm 99 p0, .imm 99 p1] (h64 p0 p1) (out64 r) (outh64 r) :=
  pure_gen good k (fn := Tryd.f64) (body := body64) (prim := q64) (D := D64) (cuts := [14]) (h := h64 p0 p1) (own := false) (by kernel_rfl) (by kernel_rfl) (by decide +kernel) pok hk64 (by
    rw [s64]
    have ih := e64 p0 p1 k
    simp only [ih]
    exact h)
def F64 {R : Type} (spec : TI → TI → Option R64) : Fn U R := fun args h k => match args, h with | [.imm 99 p0, .imm 99 p1], [] => (spec p0 p1).bind fun r => k (out64 r) (outh64 r) | _, _ => none
theorem ok64 {R : Type} (spec : TI → TI → Option R64) (hp : ∀ (p0 : TI) (p1 : TI) (r : R64), spec p0 p1 = some r → PureH TP X 64 [.imm 99 p0, .imm 99 p1] (h64 p0 p1) (out64 r) (outh64 r)) : FnOK TP X 64 (F64 spec : Fn U R) := by
  intro args h k r hh
  unfold F64 at hh
  split at hh
  · obtain ⟨x, h1, h2⟩ := Option.bind_eq_some_iff.1 hh
    exact ⟨_, _, h2, hp _ _ _ h1⟩
  · cases hh
theorem pok64 : PrmOK TP X q64 := prims_cons good okS62 (prims_cons good okS67 (prims_cons good okS83 (prims_cons good okS84 (prims_cons good okS85 (prims_cons good okS86 (prims_cons good okS87 (prims_cons good okS88 (prims_nil TP X mixed))))))))
noncomputable def S64 (p0 p1 : TI) : Option R64 := evv fun k => f64 k p0 p1
theorem okS64 {R : Type} : FnOK TP X 64 (F64 S64 : Fn U R) := ok64 S64 fun p0 p1 r h => by
  obtain ⟨k, hk⟩ := evv_fuel h
  exact pure64 p0 p1 pok64 k r hk
end
end Go.Abs.Z
namespace Limb
theorem val_lt_zero_top {l : List Int} (h : Ok l) {n : Nat} (hv : val l < P n) : val (l.take n) = val l ∧ val (l.drop n) = 0 := by
  by_cases hn : n ≤ l.length
  · have e := val_split l n hn
    have b1 := val_bound (h.take n)
    have b2 := val_bound (h.drop n)
    have h0 : val (l.drop n) = 0 := by
      refine Classical.byContradiction fun hh => ?_
      have := Int.mul_le_mul_of_nonneg_left (show 1 ≤ val (l.drop n) by omega) (Int.le_of_lt (P_pos n))
      omega
    rw [h0] at e
    exact ⟨by omega, h0⟩
  · rw [List.take_of_length_le (by omega), List.drop_eq_nil_of_le (by omega)]
    exact ⟨rfl, rfl⟩
theorem len_of_ge {a : List Int} (ha : Ok a) {n : Nat} (h : P n ≤ val a) : n < a.length := by
  refine Nat.lt_of_not_le fun hle => ?_
  have := (val_bound ha).2
  have := P_mono hle
  omega
end Limb
namespace Go.Abs.Z
open Go Go.Abs Limb
theorem loop64 {a b v : List Int} {k : Nat} {A B V X : Int} (hv : Ok v) (hvV : val v = V) (hn : 2 ≤ v.length) (hl : v.length ≤ 1073741824) (htop : 2147483648 ≤ v.getD (v.length - 1) 0) (hk : k < 32) {L : Nat} (hL : L ≤ 1073741824)
    (hV0 : 0 < V) (hVP : V < P v.length) (eX : X = A * 2 ^ k) (eV : V = B * 2 ^ k) (hA : 0 ≤ A) (hB : 0 < B) :
    ∀ (m : Nat) (u q : List Int), m + v.length ≤ L → u.length = L → q.length = L - v.length → Ok u → Ok q → val (u.drop m) < V → val (q.drop m) * P m * V + val u = X →
    ∃ r1 r2, Evt (fun f => f64_14 a b f (k : Int) (v.length : Int) ((m : Int) - 1) v u q) (r1, r2) ∧ Is r1 (A / B) ∧ Is r2 (A % B)
  | 0, u, q, hm, hul, hql, hu, hq, hd, he => by
    rw [List.drop_zero] at hd
    rw [List.drop_zero, P_zero, Int.mul_one] at he
    have hub := val_bound hu
    obtain ⟨z1, z2⟩ := val_lt_zero_top hu (show val u < P v.length by omega)
    obtain ⟨r1, g1, g2⟩ := trimmed hq (by omega)
    obtain ⟨r, g3, g4⟩ := trimmed (hu.take v.length) (by simp; omega)
    rw [z1] at g4
    have hrl : r.length ≤ 1073741824 := by
      have := len_of_val g4.ok g4.norm L (by rw [g4.val, ← hul]; exact hub.2)
      omega
    obtain ⟨r2, g5, g6⟩ := run88 g4 hrl hk
    have hp : (0 : Int) < 2 ^ k := Int.pow_pos (by decide)
    have e1 : val q = X / V := by rw [← he, Int.add_comm, Int.add_mul_ediv_right _ _ (by omega), Int.ediv_eq_zero_of_lt hub.1 hd]; omega
    have e2 : val u = X % V := by rw [← he, Int.add_comm, Int.add_mul_emod_self_right, Int.emod_eq_of_lt hub.1 hd]
    have e3 : X / V = A / B := by rw [eX, eV, Int.mul_comm A, Int.mul_comm B, Int.mul_ediv_mul_of_pos _ _ hp]
    have e4 : X % V = (A % B) * 2 ^ k := by rw [eX, eV, Int.mul_comm A, Int.mul_comm B, Int.mul_emod_mul_of_pos _ _ hp, Int.mul_comm]
    rw [e1, e3] at g2
    rw [e2, e4, Int.mul_ediv_cancel _ (by omega)] at g6
    refine ⟨r1, r2, ?_, g2, g6⟩
    refine Evt.last fun f => ?_
    show b64_14 a b (f64_14 a b f) (k : Int) (v.length : Int) (((0 : Nat) : Int) - 1) v u q = _
    unfold b64_14
    simp only [Int.toNat_natCast, Nat.sub_zero, List.drop_zero]
    rw [g1, g3]
    simp (disch := omega) only [cT, cF, Option.bind_some, g5]
  | m + 1, u, q, hm, hul, hql, hu, hq, hd, he => by
    have ei : (((m + 1 : Nat) : Int) - 1) = (m : Int) := by omega
    have e1 : IntKind.i64.wrap ((m : Int) - 1) = (m : Int) - 1 := by rw [wi64] <;> omega
    have e2 : IntKind.i64.wrap (IntKind.i64.wrap ((m : Int) + (v.length : Int)) + 1) = ((m + v.length + 1 : Nat) : Int) := by rw [wi64 (x := (m : Int) + (v.length : Int)), wi64] <;> omega
    have hsplit : u = u.take m ++ ((u.drop m).take (v.length + 1) ++ u.drop (m + (v.length + 1))) := by
      rw [← List.drop_drop, List.take_append_drop, List.take_append_drop]
    have hpl : (u.take m).length = m := by simp; omega
    have hWl : ((u.drop m).take (v.length + 1)).length = v.length + 1 := by simp; omega
    have hW : Ok ((u.drop m).take (v.length + 1)) := (hu.drop m).take _
    have gm := getD_ok hu m
    have edm := drop_val u m (by omega)
    have hdm0 := val_bound (hu.drop (m + 1))
    have hdm : val (u.drop m) < V * 4294967296 := by omega
    have hPn : P (v.length + 1) = 4294967296 * P v.length := P_succ _
    obtain ⟨z1, z2⟩ := val_lt_zero_top (hu.drop m) (n := v.length + 1) (by omega)
    rw [List.drop_drop] at z2
    obtain ⟨Z, s1, s2, s3, s4⟩ := run86 (pre := u.take m) (post := u.drop (m + (v.length + 1))) hv hW hn hl (by omega) hWl htop (by rw [z1, hvV]; exact hdm)
    rw [← hsplit, hpl] at s1
    rw [z1, hvV] at s1 s4
    have hr := Int.emod_nonneg (val (u.drop m)) (b := V) (by omega)
    have hr2 := Int.emod_lt_of_pos (val (u.drop m)) hV0
    have em := Int.mul_ediv_add_emod (val (u.drop m)) V
    have hd0 := (val_bound (hu.drop m)).1
    have q0 : 0 ≤ val (u.drop m) / V := Int.ediv_nonneg hd0 (by omega)
    have q1 : val (u.drop m) / V < 4294967296 := Int.ediv_lt_of_lt_mul hV0 (by omega)
    have hnew : Ok (u.take m ++ (Z ++ u.drop (m + (v.length + 1)))) := (hu.take m).append (s2.append (hu.drop _))
    have hnd : (u.take m ++ (Z ++ u.drop (m + (v.length + 1)))).drop m = Z ++ u.drop (m + (v.length + 1)) := by
      rw [List.drop_append_of_le_length (by omega), List.drop_eq_nil_of_le (by omega), List.nil_append]
    have hzv : val (Z ++ u.drop (m + (v.length + 1))) = val Z := by rw [val_append, z2]; simp
    obtain ⟨r1, r2, h2, h3, h4⟩ := loop64 (a := a) (b := b) hv hvV hn hl htop hk hL hV0 hVP eX eV hA hB m (u.take m ++ (Z ++ u.drop (m + (v.length + 1)))) (q.set m (val (u.drop m) / V)) (by omega) (by simp [s3]; omega) (by simpa using hql) hnew (hq.set m q0 q1) (by rw [hnd, hzv, s4]; exact hr2) (by
      rw [drop_val _ m (by simp; omega), Limb.getD_set_self _ _ _ (by omega), drop_set_lt _ _ _ _ (by omega), val_append, hzv, hpl, s4]
      rw [val_split u m (by omega)] at he
      rw [P_succ] at he
      generalize val (u.drop m) / V = D at *
      generalize val (u.drop m) % V = M at *
      generalize val (u.drop m) = W at *
      generalize val (q.drop (m + 1)) = Q at *
      generalize val (u.take m) = T at *
      generalize P m = p at *
      rw [← he, ← em]
      grind)
    refine ⟨r1, r2, h2.step fun f => ?_, h3, h4⟩
    show b64_14 a b (f64_14 a b f) (k : Int) (v.length : Int) (((m + 1 : Nat) : Int) - 1) v u q = _
    unfold b64_14
    rw [ei]
    have et : m + v.length + 1 - m = v.length + 1 := by omega
    simp only [e1, e2, Int.toNat_natCast, et]
    rw [s1]
    simp (disch := omega) only [cT, Option.bind_some]
theorem run64 {a b : List Int} {A B : Int} (ha : Is a A) (hb : Is b B) (hB : 0 < B) (hla : a.length ≤ 536870912) (hlb : b.length ≤ 536870912) : ∃ r1 r2, S64 a b = some (r1, r2) ∧ Is r1 (A / B) ∧ Is r2 (A % B) := by
  have hA := ha.nonneg
  have hc := run62 ha hb (by omega)
  by_cases hlt : A < B
  · refine ⟨[], a, evv_eq (Evt.now fun f => ?_), by rw [Int.ediv_eq_zero_of_lt hA hlt]; exact Is.nil, by rw [Int.emod_eq_of_lt hA hlt]; exact ha⟩
    show b64 a b (f64_14 a b f) = _
    unfold b64
    rw [hc]
    unfold cmpI
    rw [if_pos hlt]
    simp only [Option.bind_some, List.nil_append]
    refine (cT (show ((-1 : Int) < 0) by decide) _ _).trans ?_
    simp (disch := omega) only [cT]
  · have hcc : ¬ cmpI A B < 0 := by unfold cmpI; rw [if_neg hlt]; split <;> decide
    have hbn : b ≠ [] := fun h => by have := hb.nil_iff.1 h; omega
    have hbl : 0 < b.length := List.length_pos_iff.2 hbn
    by_cases h1 : b.length = 1
    · have hB2 : B = b.getD 0 0 := by
        rw [← hb.val]
        have := top_split hbn
        rw [h1] at this
        rw [this]; simp [val, P_zero]
      have gb := getD_ok hb.ok 0
      obtain ⟨r1, g1, g2⟩ := run83 (d := b.getD 0 0) ha.ok (by omega) (by omega) gb.2
      have m0 := Int.emod_nonneg A (b := B) (by omega)
      have m1 := Int.emod_lt_of_pos A hB
      rw [ha.val, ← hB2] at g1 g2
      obtain ⟨r2, g3, g4⟩ := run67 (x := A % B) m0 (by omega)
      refine ⟨r1, r2, evv_eq (Evt.now fun f => ?_), g2, g4⟩
      show b64 a b (f64_14 a b f) = _
      unfold b64
      rw [hc]
      simp only [Option.bind_some]
      have z : Int.toNat 0 = 0 := rfl
      have ew : IntKind.u64.wrap (A % B) = A % B := by rw [wu64]; omega
      simp only [z, dflt99, ← hB2]
      rw [g1]
      simp only [Option.bind_some, ew]
      rw [g3]
      simp (disch := omega) only [cT, cF, cE, Option.bind_some]
    · have hn : 2 ≤ b.length := by omega
      have gt := getD_ok hb.ok (b.length - 1)
      have ht0 : b.getD (b.length - 1) 0 ≠ 0 := hb.norm.elim (fun h => absurd h hbn) id
      obtain ⟨n, g1, n0, n1, hBL⟩ := run84 gt.1 gt.2
      obtain ⟨bl0, bl1, bl2⟩ := hBL
      have hn0 : n ≠ 0 := fun h => by
        rw [h] at bl1
        have e1 : (2 : Int) ^ (0 : Int).toNat = 1 := rfl
        rw [e1] at bl1; omega
      have bl2 := bl2.resolve_left hn0
      obtain ⟨k, hk⟩ : ∃ k : Nat, (k : Int) = 32 - n := ⟨(32 - n).toNat, by omega⟩
      have hk27 : k < 32 := by omega
      rw [← hk] at g1
      have en : n.toNat = 32 - k := by omega
      have hp : (0 : Int) < 2 ^ k := Int.pow_pos (by decide)
      have ep := pow32 (k := k) (by omega)
      obtain ⟨v, g2, g3⟩ := run85 hb (by omega) hk27
      obtain ⟨x, g4, g5⟩ := run85 ha (by omega) hk27
      have eB := top_split hbn
      rw [hb.val] at eB
      have hlow := val_bound (hb.ok.take (b.length - 1))
      rw [show (b.take (b.length - 1)).length = b.length - 1 from by simp] at hlow
      have hPp := P_pos (b.length - 1)
      rw [en] at bl1 bl2
      have tk1 : (b.getD (b.length - 1) 0 + 1) * 2 ^ k ≤ 4294967296 := by
        have := Int.mul_le_mul_of_nonneg_right (show b.getD (b.length - 1) 0 + 1 ≤ 2 ^ (32 - k) by omega) (Int.le_of_lt hp)
        omega
      have tk0 : 2147483648 ≤ b.getD (b.length - 1) 0 * 2 ^ k := by
        have h3 := Int.mul_le_mul_of_nonneg_right bl2 (Int.le_of_lt hp)
        rw [← Int.pow_add, show 32 - k - 1 + k = 31 from by omega] at h3
        exact h3
      have hVlo : 2147483648 * P (b.length - 1) ≤ B * 2 ^ k := by
        have h3 := Int.mul_le_mul_of_nonneg_right tk0 (Int.le_of_lt hPp)
        have h4 := Int.mul_nonneg hlow.1 (Int.le_of_lt hp)
        have h5 : B * 2 ^ k = val (b.take (b.length - 1)) * 2 ^ k + b.getD (b.length - 1) 0 * 2 ^ k * P (b.length - 1) := by rw [eB]; grind
        omega
      have hVhi : B * 2 ^ k < 4294967296 * P (b.length - 1) := by
        have h3 := Int.mul_le_mul_of_nonneg_right tk1 (Int.le_of_lt hPp)
        have h4 := Int.mul_lt_mul_of_pos_right hlow.2 hp
        have h5 : B * 2 ^ k = val (b.take (b.length - 1)) * 2 ^ k + b.getD (b.length - 1) 0 * 2 ^ k * P (b.length - 1) := by rw [eB]; grind
        have h6 : (b.getD (b.length - 1) 0 + 1) * 2 ^ k * P (b.length - 1) = b.getD (b.length - 1) 0 * 2 ^ k * P (b.length - 1) + P (b.length - 1) * 2 ^ k := by grind
        omega
      have hPn : P b.length = 4294967296 * P (b.length - 1) := by rw [← P_succ, show b.length - 1 + 1 = b.length from by omega]
      have hvl : v.length = b.length := by
        have h3 := len_of_val g3.ok g3.norm b.length (by rw [g3.val]; omega)
        have h4 := len_of_ge g3.ok (n := b.length - 1) (by rw [g3.val]; omega)
        omega
      have hvn : v ≠ [] := fun h => by rw [h] at hvl; simp at hvl; omega
      have htop : 2147483648 ≤ v.getD (v.length - 1) 0 := by
        rw [top_div g3.ok hvn, g3.val, hvl]
        exact Int.le_ediv_of_mul_le hPp hVlo
      have hAB : B * 2 ^ k ≤ A * 2 ^ k := Int.mul_le_mul_of_nonneg_right (by omega) (Int.le_of_lt hp)
      have hxl : b.length ≤ x.length := by
        have h4 := len_of_ge g5.ok (n := b.length - 1) (by rw [g5.val]; omega)
        omega
      have hxa : a.length ≤ x.length := by
        refine Nat.le_of_not_lt fun hh => ?_
        have h3 := len_lt_val g5.ok ha.ok ha.norm hh
        rw [g5.val, ha.val] at h3
        have h4 := Int.mul_le_mul_of_nonneg_left (show (1 : Int) ≤ 2 ^ k by omega) hA
        omega
      have hxa2 : x.length ≤ a.length + 1 := by
        refine len_of_val g5.ok g5.norm _ ?_
        rw [g5.val, P_succ]
        have h3 := (val_bound ha.ok).2
        rw [ha.val] at h3
        have h4 := Int.mul_lt_mul_of_pos_right h3 hp
        have h5 : (2 : Int) ^ k ≤ 4294967296 := by
          have h6 := Int.mul_le_mul_of_nonneg_right (show (1 : Int) ≤ 2 ^ (32 - k) by have : (0 : Int) < 2 ^ (32 - k) := Int.pow_pos (by decide); omega) (Int.le_of_lt hp)
          omega
        have h6 := Int.mul_le_mul_of_nonneg_left h5 (Int.le_of_lt (P_pos a.length))
        omega
      have hu0 : Ok (x ++ [0]) := g5.ok.append (Ok.mk (by decide) (by decide) Ok.nil)
      have hul : (x ++ [0]).length = x.length + 1 := by simp
      have huv : val (x ++ [0]) = A * 2 ^ k := by rw [val_append, g5.val]; simp [val]
      have hdrop : val ((x ++ [0]).drop (x.length + 1 - b.length)) < B * 2 ^ k := by
        rw [List.drop_append_of_le_length (by omega), val_append]
        have h3 := (val_bound (g5.ok.drop (x.length + 1 - b.length))).2
        have h4 : (x.drop (x.length + 1 - b.length)).length = b.length - 1 := by simp; omega
        rw [h4] at h3 ⊢
        simp only [val]
        omega
      obtain ⟨r1, r2, h2, h3, h4⟩ := loop64 (a := a) (b := b) (A := A) (B := B) g3.ok g3.val (by omega) (by omega) htop hk27 (L := x.length + 1) (by omega) (by omega) (by rw [hvl]; omega) rfl rfl hA hB (x.length + 1 - b.length) (x ++ [0]) (List.replicate (x.length + 1 - b.length) 0) (by omega) hul (by simp [hvl]) hu0 (Ok.replicate _) hdrop (by rw [List.drop_eq_nil_of_le (by simp)]; simp only [val, Int.zero_mul, Int.zero_add]; exact huv)
      refine ⟨r1, r2, evv_eq (h2.same fun f => ?_), h3, h4⟩
      show b64 a b (f64_14 a b f) = _
      unfold b64
      rw [hc]
      have en1 : IntKind.i64.wrap ((b.length : Int) - 1) = ((b.length - 1 : Nat) : Int) := by rw [wi64] <;> omega
      simp only [Option.bind_some, en1, Int.toNat_natCast, dflt99]
      rw [g1]
      simp only [Option.bind_some]
      rw [g2, g4]
      simp only [Option.bind_some]
      have e3 : IntKind.i64.wrap (((x ++ [0]).length : Int) - (v.length : Int)) = ((x.length + 1 - b.length : Nat) : Int) := by rw [wi64] <;> omega
      have e4 : IntKind.i64.wrap (((x.length + 1 - b.length : Nat) : Int) - 1) = ((x.length + 1 - b.length : Nat) : Int) - 1 := by rw [wi64] <;> omega
      have e5 : List.length x = x.length := rfl
      simp only [e3, e4, Int.toNat_natCast]
      simp (disch := omega) only [cT, cF, cN]
end Go.Abs.Z
namespace Go.Abs.Z
open Go Go.Abs Limb
theorem step82 {a : List Int} (ha : Ok a) {m s : Nat} (hm : m ≤ 1073741824) (hs : s < 32) (hl : a.length ≤ 1073741824) {R : Int} (i : Nat) (hi : i ≤ 2) {x x' : Int}
    (h1 : s ≤ 32 * i → bits .or .u64 x (shl .u64 (a.getD (m + i) 0) ((32 * i - s : Nat) : Int)) = x')
    (h2 : ¬ s ≤ 32 * i → bits .or .u64 x (shr .u64 (a.getD (m + i) 0) ((s - 32 * i : Nat) : Int)) = x')
    (h3 : a.length ≤ m + i → x = x')
    (h : Evt (fun f => f82_3 a ((32 * m + s : Nat) : Int) f x' ((i : Int) - 1)) R) : Evt (fun f => f82_3 a ((32 * m + s : Nat) : Int) f x (i : Int)) R := by
  refine h.step fun f => ?_
  show b82_3 a ((32 * m + s : Nat) : Int) (f82_3 a ((32 * m + s : Nat) : Int) f) x (i : Int) = _
  unfold b82_3
  have g := getD_ok ha (m + i)
  have t1 : Int.tdiv ((32 * m + s : Nat) : Int) 32 = (m : Int) := by rw [Int.tdiv_eq_ediv_of_nonneg (by omega)]; omega
  have t2 : Int.tmod ((32 * m + s : Nat) : Int) 32 = (s : Int) := by rw [Int.tmod_eq_emod_of_nonneg (by omega)]; omega
  have e1 : IntKind.i64.wrap (IntKind.i64.wrap (m : Int) + (i : Int)) = ((m + i : Nat) : Int) := by rw [wi64 (x := (m : Int)), wi64] <;> omega
  have e2 : IntKind.i64.wrap (32 * (i : Int)) = 32 * (i : Int) := by rw [wi64] <;> omega
  have e3 : IntKind.i64.wrap (32 * (i : Int) - (s : Int)) = 32 * (i : Int) - (s : Int) := by rw [wi64] <;> omega
  have e4 : IntKind.i64.wrap ((i : Int) - 1) = (i : Int) - 1 := by rw [wi64] <;> omega
  have e5 : IntKind.i64.wrap (0 - (32 * (i : Int) - (s : Int))) = 0 - (32 * (i : Int) - (s : Int)) := by rw [wi64] <;> omega
  have ew : IntKind.u64.wrap (a.getD (m + i) 0) = a.getD (m + i) 0 := by rw [wu64]; omega
  simp only [t1, t2, e1, e2, e3, e4, e5, Int.toNat_natCast, dflt99, ew]
  by_cases hk : m + i < a.length
  · by_cases hsh : s ≤ 32 * i
    · have e6 : 32 * (i : Int) - (s : Int) = ((32 * i - s : Nat) : Int) := by omega
      rw [e6, h1 hsh]
      simp (disch := omega) only [cT, cF]
    · have e6 : 0 - (32 * (i : Int) - (s : Int)) = ((s - 32 * i : Nat) : Int) := by omega
      rw [e6, h2 hsh]
      simp (disch := omega) only [cT, cF]
  · rw [h3 (by omega)]
    simp (disch := omega) only [cT, cF]
theorem bor_zero {x : Int} (h0 : 0 ≤ x) (h1 : x < 18446744073709551616) : bits .or .u64 0 x = x := by
  rw [bor64 (by decide) (by decide) h0 h1]
  show ((0 ||| x.toNat : Nat) : Int) = x
  rw [Nat.zero_or]; omega
theorem bor_zero' {x : Int} (h0 : 0 ≤ x) (h1 : x < 18446744073709551616) : bits .or .u64 x 0 = x := by
  rw [bor64 h0 h1 (by decide) (by decide)]
  show ((x.toNat ||| 0 : Nat) : Int) = x
  rw [Nat.or_zero]; omega
theorem run82 {a : List Int} {A : Int} {n : Nat} (ha : Ok a) (hA : val a = A) (hl : a.length ≤ 1073741824) (hn : n ≤ 34359738368) (hb : A < 2 ^ (n + 62)) : S82 a (n : Int) = some (A / 2 ^ n) := by
  obtain ⟨m, s, rfl, hs⟩ : ∃ m s, n = 32 * m + s ∧ s < 32 := ⟨n / 32, n % 32, by omega, by omega⟩
  have g0 := getD_ok ha m
  have g1 := getD_ok ha (m + 1)
  have g2 := getD_ok ha (m + 2)
  have hps : (0 : Int) < 2 ^ s := Int.pow_pos (by decide)
  have hp32 : (0 : Int) < 2 ^ (32 - s) := Int.pow_pos (by decide)
  have hp64 : (0 : Int) < 2 ^ (64 - s) := Int.pow_pos (by decide)
  have ep := pow32 (k := s) (by omega)
  have ep64 : (2 : Int) ^ (64 - s) = 4294967296 * 2 ^ (32 - s) := by rw [show 64 - s = 32 + (32 - s) from by omega, Int.pow_add]; rfl
  have hA0 := (val_bound ha).1
  have hval : A = val (a.take m) + P m * val (a.drop m) := by
    rw [← hA]
    by_cases h : m ≤ a.length
    · exact val_split a m h
    · rw [List.take_of_length_le (by omega), List.drop_eq_nil_of_le (by omega)]; simp [val]
  have hlow : 0 ≤ val (a.take m) ∧ val (a.take m) < P m := by
    have h1 := val_bound (ha.take m)
    have h2 := P_mono (show (a.take m).length ≤ m by simp; omega)
    omega
  have hD0 := (val_bound (ha.drop m)).1
  have hPm := P_pos m
  have hD1 : val (a.drop m) < 2 ^ (s + 62) := by
    refine Classical.byContradiction fun hh => ?_
    have h1 := Int.mul_le_mul_of_nonneg_left (show 2 ^ (s + 62) ≤ val (a.drop m) by omega) (Int.le_of_lt hPm)
    rw [P_two, ← Int.pow_add, show 32 * m + (s + 62) = 32 * m + s + 62 from by omega, ← P_two] at h1
    omega
  have dv : ∀ i, val (a.drop i) = a.getD i 0 + 4294967296 * val (a.drop (i + 1)) := fun i => by
    by_cases h : i < a.length
    · exact drop_val a i h
    · rw [List.drop_eq_nil_of_le (by omega), List.drop_eq_nil_of_le (by omega), getD_out (by omega)]; simp [val]
  have d0 := dv m
  have d1 : val (a.drop (m + 1)) = a.getD (m + 1) 0 + 4294967296 * val (a.drop (m + 2)) := dv (m + 1)
  have d2 : val (a.drop (m + 2)) = a.getD (m + 2) 0 + 4294967296 * val (a.drop (m + 3)) := dv (m + 2)
  have hs62 : (2 : Int) ^ (s + 62) = 2 ^ s * 4611686018427387904 := by rw [Int.pow_add]; rfl
  have hs31 : (2 : Int) ^ s ≤ 2147483648 := by
    have h1 := Int.mul_le_mul_of_nonneg_right (show (2 : Int) ≤ 2 ^ (32 - s) by
      rw [show 32 - s = (31 - s) + 1 from by omega, Int.pow_succ]
      have : (0 : Int) < 2 ^ (31 - s) := Int.pow_pos (by decide)
      omega) (Int.le_of_lt hps)
    omega
  have hrest : val (a.drop (m + 3)) = 0 := by
    have h3 := (val_bound (ha.drop (m + 3))).1
    refine Classical.byContradiction fun hh => ?_
    omega
  have hD : val (a.drop m) = (a.getD (m + 2) 0 * 4294967296 + a.getD (m + 1) 0) * 4294967296 + a.getD m 0 := by
    rw [d0, d1, d2, hrest]; omega
  have c2 : a.getD (m + 2) 0 * 2 ^ (64 - s) < 4611686018427387904 := by
    rw [ep64]
    refine Classical.byContradiction fun hh => ?_
    have h1 := Int.mul_le_mul_of_nonneg_right (show 4611686018427387904 ≤ a.getD (m + 2) 0 * (4294967296 * 2 ^ (32 - s)) by omega) (Int.le_of_lt hps)
    have h2 : a.getD (m + 2) 0 * (4294967296 * 2 ^ (32 - s)) * 2 ^ s = a.getD (m + 2) 0 * 4294967296 * (2 ^ (32 - s) * 2 ^ s) := by grind
    rw [h2, ep] at h1
    omega
  have c2n : 0 ≤ a.getD (m + 2) 0 * 2 ^ (64 - s) := Int.mul_nonneg g2.1 (Int.le_of_lt hp64)
  have c1n : 0 ≤ a.getD (m + 1) 0 * 2 ^ (32 - s) := Int.mul_nonneg g1.1 (Int.le_of_lt hp32)
  have c1 : a.getD (m + 1) 0 * 2 ^ (32 - s) < 2 ^ (64 - s) := by
    rw [ep64]
    exact Int.mul_lt_mul_of_pos_right g1.2 hp32
  have c0n : 0 ≤ a.getD m 0 / 2 ^ s := Int.ediv_nonneg g0.1 (Int.le_of_lt hps)
  have c0 : a.getD m 0 / 2 ^ s < 2 ^ (32 - s) := Int.ediv_lt_of_lt_mul hps (by rw [ep]; exact g0.2)
  have hx1 : a.getD (m + 2) 0 * 2 ^ (64 - s) + a.getD (m + 1) 0 * 2 ^ (32 - s) = (a.getD (m + 2) 0 * 4294967296 + a.getD (m + 1) 0) * 2 ^ (32 - s) := by
    rw [ep64]; grind
  have hT : val (a.drop m) / 2 ^ s = (a.getD (m + 2) 0 * 4294967296 + a.getD (m + 1) 0) * 2 ^ (32 - s) + a.getD m 0 / 2 ^ s := by
    rw [hD]
    have : (a.getD (m + 2) 0 * 4294967296 + a.getD (m + 1) 0) * 4294967296 = (a.getD (m + 2) 0 * 4294967296 + a.getD (m + 1) 0) * 2 ^ (32 - s) * 2 ^ s := by rw [← ep]; grind
    rw [this, Int.add_comm, Int.add_mul_ediv_right _ _ (by omega)]
    omega
  have hT1 : val (a.drop m) / 2 ^ s < 4611686018427387904 := Int.ediv_lt_of_lt_mul hps (by rw [Int.mul_comm]; omega)
  have hT0 : 0 ≤ val (a.drop m) / 2 ^ s := Int.ediv_nonneg hD0 (Int.le_of_lt hps)
  have hAT : A / 2 ^ (32 * m + s) = val (a.drop m) / 2 ^ s := by
    rw [Int.pow_add, ← P_two, ← Int.ediv_ediv_of_nonneg (Int.le_of_lt hPm), hval, Int.add_mul_ediv_left _ _ (by omega), Int.ediv_eq_zero_of_lt hlow.1 hlow.2, Int.zero_add]
  rw [hAT]
  refine evv_eq ?_
  have last : Evt (fun f => f82_3 a ((32 * m + s : Nat) : Int) f (val (a.drop m) / 2 ^ s) (((0 : Nat) : Int) - 1)) (val (a.drop m) / 2 ^ s) := Evt.last fun f => by
    show b82_3 a ((32 * m + s : Nat) : Int) (f82_3 a ((32 * m + s : Nat) : Int) f) (val (a.drop m) / 2 ^ s) (((0 : Nat) : Int) - 1) = _
    unfold b82_3
    have hand : bits .and .u64 (val (a.drop m) / 2 ^ s) 4611686018427387903 = val (a.drop m) / 2 ^ s := by
      rw [band64 hT0 (by omega) (by decide) (by decide)]
      have e1 : (4611686018427387903 : Int).toNat = 2 ^ 62 - 1 := by decide
      rw [e1, Nat.and_two_pow_sub_one_eq_mod, Nat.mod_eq_of_lt (by omega)]
      omega
    simp (disch := omega) only [cF]
    rw [hand, wi64 (by omega) (by omega)]
  have s0 := step82 ha (m := m) (s := s) (by omega) hs hl 0 (by omega) (x := (a.getD (m + 2) 0 * 4294967296 + a.getD (m + 1) 0) * 2 ^ (32 - s)) (x' := val (a.drop m) / 2 ^ s) (fun h => by
      have hs0 : s = 0 := by omega
      subst hs0
      have es : shl .u64 (a.getD (m + 0) 0) ((32 * 0 - 0 : Nat) : Int) = a.getD m 0 / 2 ^ 0 := by
        refine (shl64 0 (by decide)).trans ?_
        simp only [Nat.add_zero]
        omega
      rw [es, or_low (by omega) c0n c0 (by rw [← hT]; omega), hT]) (fun h => by
      have es : shr .u64 (a.getD (m + 0) 0) ((s - 32 * 0 : Nat) : Int) = a.getD m 0 / 2 ^ s := shr64 s (by omega)
      rw [es, or_low (by omega) c0n c0 (by rw [← hT]; omega), hT]) (fun h => by
      rw [hT, getD_out (by omega : a.length ≤ m)]; simp) last
  have s1 := step82 ha (m := m) (s := s) (by omega) hs hl 1 (by omega) (x := a.getD (m + 2) 0 * 2 ^ (64 - s)) (x' := (a.getD (m + 2) 0 * 4294967296 + a.getD (m + 1) 0) * 2 ^ (32 - s)) (fun h => by
      have es : shl .u64 (a.getD (m + 1) 0) ((32 * 1 - s : Nat) : Int) = a.getD (m + 1) 0 * 2 ^ (32 - s) := by
        refine (shl64 (32 - s) (by omega)).trans ?_
        have : (2 : Int) ^ (64 - s) ≤ 18446744073709551616 := by
          rw [ep64]
          have : (2 : Int) ^ (32 - s) ≤ 4294967296 := by
            have h1 := Int.mul_le_mul_of_nonneg_left (show (1 : Int) ≤ 2 ^ s by omega) (Int.le_of_lt hp32)
            omega
          omega
        exact Int.emod_eq_of_lt c1n (by omega)
      rw [es, or_low g2.1 c1n c1 (by rw [hx1]; omega), hx1]) (fun h => absurd (by omega) h) (fun h => by
      rw [← hx1, getD_out (by omega : a.length ≤ m + 1)]; simp) s0
  have s2 := step82 ha (m := m) (s := s) (by omega) hs hl 2 (by omega) (x := 0) (x' := a.getD (m + 2) 0 * 2 ^ (64 - s)) (fun h => by
      have es : shl .u64 (a.getD (m + 2) 0) ((32 * 2 - s : Nat) : Int) = a.getD (m + 2) 0 * 2 ^ (64 - s) := by
        refine (shl64 (64 - s) (by omega)).trans ?_
        exact Int.emod_eq_of_lt c2n (by omega)
      rw [es, bor_zero c2n (by omega)]) (fun h => absurd (by omega) h) (fun h => by
      rw [getD_out (by omega : a.length ≤ m + 2)]; simp) s1
  exact s2.same fun f => rfl
end Go.Abs.Z
namespace Num
def CD (a b A B : Int) : Prop := ∀ d : Int, (d ∣ a ∧ d ∣ b) ↔ (d ∣ A ∧ d ∣ B)
theorem CD.refl (a b : Int) : CD a b a b := fun _ => Iff.rfl
theorem CD.step {a b A B : Int} (h : CD a b A B) (t : Int) : CD b (a - t * b) A B := fun d => by
  rw [← h d]
  constructor
  · rintro ⟨h1, h2⟩
    refine ⟨?_, h1⟩
    have := Int.dvd_add h2 (Int.dvd_mul_of_dvd_right (b := t) h1)
    rwa [Int.sub_add_cancel] at this
  · rintro ⟨h1, h2⟩
    exact ⟨h2, Int.dvd_sub h1 (Int.dvd_mul_of_dvd_right (b := t) h2)⟩
theorem CD.trans {a b c d A B : Int} (h : CD a b c d) (h' : CD c d A B) : CD a b A B := fun x => (h x).trans (h' x)
theorem CD.swap (a b : Int) : CD b a a b := fun d => And.comm
def IsG (g A B : Int) : Prop := 0 ≤ g ∧ ∀ d : Int, d ∣ g ↔ (d ∣ A ∧ d ∣ B)
theorem IsG.of_zero {a A B : Int} (h0 : 0 ≤ a) (h : CD a 0 A B) : IsG a A B := ⟨h0, fun d => by rw [← h d]; exact ⟨fun h => ⟨h, Int.dvd_zero d⟩, fun h => h.1⟩⟩
theorem IsG.one {g g' A B : Int} (h : IsG g A B) (h' : IsG g' A B) : g = g' :=
  Int.dvd_antisymm h.1 h'.1 ((h'.2 g).2 ((h.2 g).1 (Int.dvd_refl g))) ((h.2 g').2 ((h'.2 g').1 (Int.dvd_refl g')))
theorem IsG.cd {g a b A B : Int} (h : IsG g a b) (h' : CD a b A B) : IsG g A B := ⟨h.1, fun d => (h.2 d).trans (h' d)⟩
theorem between {N A B x0 y0 al be p q : Int} (hN : 0 < N) (eA : A = N * x0 + al) (eB : B = N * y0 + be) (a0 : 0 ≤ al) (a1 : al < N) (b0 : 0 ≤ be) (b1 : be < N) (hp : 0 ≤ p) (hq : q ≤ 0) :
    N * (p * x0 + q * y0 + q) ≤ p * A + q * B ∧ p * A + q * B ≤ N * (p * x0 + q * y0 + p) := by
  have h1 := Int.mul_nonneg hp a0
  have h2 := Int.mul_le_mul_of_nonneg_left (Int.le_of_lt a1) hp
  have h3 := Int.mul_nonneg (show 0 ≤ -q by omega) b0
  have h4 := Int.mul_le_mul_of_nonneg_left (Int.le_of_lt b1) (show 0 ≤ -q by omega)
  rw [Int.neg_mul] at h3
  rw [Int.neg_mul, Int.neg_mul] at h4
  have e : p * A + q * B = N * (p * x0 + q * y0) + p * al + q * be := by rw [eA, eB]; grind
  have e2 : N * (p * x0 + q * y0 + q) = N * (p * x0 + q * y0) + q * N := by grind
  have e3 : N * (p * x0 + q * y0 + p) = N * (p * x0 + q * y0) + p * N := by grind
  omega
end Num
namespace Go.Abs.Z
open Go Go.Abs Limb Num
def Signs (p q r s : Int) : Prop := (0 ≤ p ∧ q ≤ 0 ∧ r ≤ 0 ∧ 0 ≤ s) ∨ (p ≤ 0 ∧ 0 ≤ q ∧ 0 ≤ r ∧ s ≤ 0)
def Small (p : Int) : Prop := -2147483647 ≤ p ∧ p ≤ 2147483647
structure Heads (N A B x0 y0 x y p q r s : Int) : Prop where
  sg : Signs p q r s
  sp : Small p
  sq : Small q
  sr : Small r
  ss : Small s
  ex : x = p * x0 + q * y0
  ey : y = r * x0 + s * y0
  xp : 0 ≤ x + p
  xq : 0 ≤ x + q
  yr : 0 ≤ y + r
  ys : 0 ≤ y + s
  xb : x < 4611686018427387904
  yb : y < 4611686018427387904
  b0 : 0 ≤ r * A + s * B
  bB : r * A + s * B ≤ B
  fl : q = 0 ∨ (p * A + q * B ≤ B ∧ r * A + s * B < p * A + q * B)
  cd : CD (p * A + q * B) (r * A + s * B) A B
def Told (A B p q r s : Int) : Prop := q = 0 ∨ (Unlike p q ∧ Unlike r s ∧ 0 ≤ r * A + s * B ∧ r * A + s * B < p * A + q * B ∧ p * A + q * B ≤ B ∧ CD (p * A + q * B) (r * A + s * B) A B)
theorem Heads.told {N A B x0 y0 x y p q r s : Int} (h : Heads N A B x0 y0 x y p q r s) : Told A B p q r s := by
  rcases h.fl with hq | ⟨h1, h2⟩
  · exact .inl hq
  · have sp := h.sp; have sq := h.sq; have sr := h.sr; have ss := h.ss
    unfold Small at sp sq sr ss
    refine .inr ⟨?_, ?_, h.b0, h2, h1, h.cd⟩
    · rcases h.sg with g | g
      · exact .inl ⟨by omega, by omega, by omega, by omega⟩
      · exact .inr ⟨by omega, by omega, by omega, by omega⟩
    · rcases h.sg with g | g
      · exact .inr ⟨by omega, by omega, by omega, by omega⟩
      · exact .inl ⟨by omega, by omega, by omega, by omega⟩
theorem Heads.sizes {N A B x0 y0 x y p q r s t : Int} (h : Heads N A B x0 y0 x y p q r s) (hr : 0 < y + r) (hs : 0 < y + s) (h1 : t = (x + p) / (y + r)) (h2 : t = (x + q) / (y + s)) :
    0 ≤ t ∧ t ≤ 4611686020574871552 ∧ 0 ≤ t * y ∧ t * y ≤ 4611686020574871552 ∧ -4611686020574871552 ≤ t * r ∧ t * r ≤ 4611686020574871552 ∧ -4611686020574871552 ≤ t * s ∧ t * s ≤ 4611686020574871552 ∧
      t * (y + r) ≤ x + p ∧ x + p < t * (y + r) + (y + r) ∧ t * (y + s) ≤ x + q ∧ x + q < t * (y + s) + (y + s) := by
  have sp := h.sp; have sq := h.sq
  unfold Small at sp sq
  have xp := h.xp; have xq := h.xq; have xb := h.xb
  have t0 : 0 ≤ t := by rw [h1]; exact Int.ediv_nonneg xp (by omega)
  have l1 : t * (y + r) ≤ x + p := by rw [h1]; exact Int.ediv_mul_le _ (by omega)
  have l2 : x + p < (t + 1) * (y + r) := by rw [h1]; exact Int.lt_ediv_add_one_mul_self _ hr
  have l3 : t * (y + s) ≤ x + q := by rw [h2]; exact Int.ediv_mul_le _ (by omega)
  have l4 : x + q < (t + 1) * (y + s) := by rw [h2]; exact Int.lt_ediv_add_one_mul_self _ hs
  have tle : t ≤ t * (y + r) := by
    have := Int.mul_le_mul_of_nonneg_left (show 1 ≤ y + r by omega) t0
    omega
  rw [Int.add_mul, Int.one_mul] at l2 l4
  have er : t * (y + r) = t * y + t * r := Int.mul_add ..
  have es : t * (y + s) = t * y + t * s := Int.mul_add ..
  have hy : 0 ≤ y := by rcases h.sg with g | g <;> omega
  have ty := Int.mul_nonneg t0 hy
  rcases h.sg with ⟨g1, g2, g3, g4⟩ | ⟨g1, g2, g3, g4⟩
  · have m1 := Int.mul_nonneg t0 g4
    have m2 := Int.mul_nonneg t0 (show 0 ≤ -r by omega)
    rw [Int.mul_neg] at m2
    have m3 := Int.mul_nonneg t0 (show 0 ≤ y + r by omega)
    refine ⟨t0, by omega, ty, by omega, by omega, by omega, by omega, by omega, l1, l2, l3, l4⟩
  · have m1 := Int.mul_nonneg t0 g3
    have m2 := Int.mul_nonneg t0 (show 0 ≤ -s by omega)
    rw [Int.mul_neg] at m2
    have m3 := Int.mul_nonneg t0 (show 0 ≤ y + s by omega)
    refine ⟨t0, by omega, ty, by omega, by omega, by omega, by omega, by omega, l1, l2, l3, l4⟩
theorem Heads.next {N A B x0 y0 x y p q r s t al be : Int} (hN : 0 < N) (eA : A = N * x0 + al) (eB : B = N * y0 + be) (a0 : 0 ≤ al) (a1 : al < N) (b0 : 0 ≤ be) (b1 : be < N)
    (h : Heads N A B x0 y0 x y p q r s) (hr : 0 < y + r) (hs : 0 < y + s) (h1 : t = (x + p) / (y + r)) (h2 : t = (x + q) / (y + s)) (su : Small (p - t * r)) (sv : Small (q - t * s)) :
    Heads N A B x0 y0 y (x - t * y) r s (p - t * r) (q - t * s) ∧ x - t * y + (q - t * s) < y + s := by
  obtain ⟨t0, _, ty, _, _, _, _, _, l1, l2, l3, l4⟩ := h.sizes hr hs h1 h2
  have er : t * (y + r) = t * y + t * r := Int.mul_add ..
  have es : t * (y + s) = t * y + t * s := Int.mul_add ..
  have eb : (p - t * r) * A + (q - t * s) * B = (p * A + q * B) - t * (r * A + s * B) := by grind
  have euc : 0 ≤ (p * A + q * B) - t * (r * A + s * B) ∧ (p * A + q * B) - t * (r * A + s * B) < r * A + s * B := by
    rcases h.sg with ⟨g1, g2, g3, g4⟩ | ⟨g1, g2, g3, g4⟩
    · obtain ⟨c1, c2⟩ := between hN eA eB a0 a1 b0 b1 g1 g2
      obtain ⟨c3, c4⟩ := between hN eB eA b0 b1 a0 a1 g4 g3
      rw [← h.ex] at c1 c2
      have e1 : s * y0 + r * x0 = y := by rw [h.ey]; omega
      have e2 : s * B + r * A = r * A + s * B := Int.add_comm ..
      rw [e1, e2] at c3 c4
      exact euclid_step hN c1 c2 c3 c4 t0 l3 (by rw [Int.add_mul, Int.one_mul]; exact l2)
    · obtain ⟨c1, c2⟩ := between hN eB eA b0 b1 a0 a1 g2 g1
      obtain ⟨c3, c4⟩ := between hN eA eB a0 a1 b0 b1 g3 g4
      have e1 : q * y0 + p * x0 = x := by rw [h.ex]; omega
      have e2 : q * B + p * A = p * A + q * B := Int.add_comm ..
      rw [e1, e2] at c1 c2
      rw [← h.ey] at c3 c4
      exact euclid_step hN c1 c2 c3 c4 t0 l1 (by rw [Int.add_mul, Int.one_mul]; exact l4)
  refine ⟨⟨?_, h.sr, h.ss, su, sv, h.ey, ?_, by omega, by omega, by omega, by omega, h.yb, by have := h.xb; omega, by rw [eb]; exact euc.1, ?_, .inr ⟨h.bB, by rw [eb]; exact euc.2⟩, ?_⟩, by omega⟩
  · rcases h.sg with ⟨g1, g2, g3, g4⟩ | ⟨g1, g2, g3, g4⟩
    · have m1 := Int.mul_nonneg t0 g4
      have m2 := Int.mul_nonneg t0 (show 0 ≤ -r by omega)
      rw [Int.mul_neg] at m2
      exact .inr ⟨g3, g4, by omega, by omega⟩
    · have m1 := Int.mul_nonneg t0 g3
      have m2 := Int.mul_nonneg t0 (show 0 ≤ -s by omega)
      rw [Int.mul_neg] at m2
      exact .inl ⟨g3, g4, by omega, by omega⟩
  · rw [h.ex, h.ey]; grind
  · rw [eb]; have := h.bB; omega
  · rw [eb]; exact h.cd.step t
end Go.Abs.Z
namespace Go.Abs.Z
open Go Go.Abs Limb Num
theorem bneT {a b : Int} (h : a ≠ b) {α : Type} (x y : α) : cond (a != b) x y = x := by
  have : (a != b) = true := by simpa using h
  rw [this]; rfl
theorem bneF {a b : Int} (h : a = b) {α : Type} (x y : α) : cond (a != b) x y = y := by
  subst h; simp
theorem max4 (u v : Int) : (bif true then List.foldl imax u [0 - u, v, 0 - v] else List.foldl imin u [0 - u, v, 0 - v]) < 2147483648 ↔ (Small u ∧ Small v) := by
  simp only [cond_true, List.foldl_cons, List.foldl_nil]
  unfold imax Small
  split <;> split <;> split <;> omega
theorem loop63 {a b : List Int} {N A B x0 y0 al be : Int} (hN : 0 < N) (eA : A = N * x0 + al) (eB : B = N * y0 + be) (a0 : 0 ≤ al) (a1 : al < N) (b0 : 0 ≤ be) (b1 : be < N) :
    ∀ (G : Nat) (x y p q r s : Int), (y + s).toNat ≤ G → Heads N A B x0 y0 x y p q r s →
    ∃ p' q' r' s' : Int, Evt (fun f => f63_4 a b f x y p q r s) (p', q', r', s') ∧ Told A B p' q' r' s' := by
  intro G
  induction G with
  | zero => ?_
  | succ G ih => ?_
  all_goals
    intro x y p q r s hG h
    have sp := h.sp; have sq := h.sq; have sr := h.sr; have ss := h.ss
    have xp := h.xp; have xq := h.xq; have yr := h.yr; have ys := h.ys; have xb := h.xb; have yb := h.yb
    unfold Small at sp sq sr ss
    have w1 : IntKind.i64.wrap (y + r) = y + r := by rw [wi64] <;> omega
    have w2 : IntKind.i64.wrap (y + s) = y + s := by rw [wi64] <;> omega
    have w3 : IntKind.i64.wrap (x + p) = x + p := by rw [wi64] <;> omega
    have w4 : IntKind.i64.wrap (x + q) = x + q := by rw [wi64] <;> omega
    by_cases hr : y + r = 0
    · refine ⟨p, q, r, s, Evt.last fun f => ?_, h.told⟩
      show b63_4 a b (f63_4 a b f) x y p q r s = _
      unfold b63_4
      rw [w1]
      exact bneF hr _ _
    by_cases hs : y + s = 0
    · refine ⟨p, q, r, s, Evt.last fun f => ?_, h.told⟩
      show b63_4 a b (f63_4 a b f) x y p q r s = _
      unfold b63_4
      rw [w1, w2]
      exact (bneT hr _ _).trans (bneF hs _ _)
    have hx : 0 ≤ x := by rcases h.sg with g | g <;> omega
    have q1 : 0 ≤ (x + p) / (y + r) := Int.ediv_nonneg xp (by omega)
    have q2 : 0 ≤ (x + q) / (y + s) := Int.ediv_nonneg xq (by omega)
    have q3 : (x + p) / (y + r) ≤ x + p := Int.ediv_le_self _ xp
    have q4 : (x + q) / (y + s) ≤ x + q := Int.ediv_le_self _ xq
    have t1 : IntKind.i64.wrap ((x + p).tdiv (y + r)) = (x + p) / (y + r) := by rw [Int.tdiv_eq_ediv_of_nonneg xp, wi64] <;> omega
    have t2 : IntKind.i64.wrap ((x + q).tdiv (y + s)) = (x + q) / (y + s) := by rw [Int.tdiv_eq_ediv_of_nonneg xq, wi64] <;> omega
    by_cases ht : (x + p) / (y + r) = (x + q) / (y + s)
    · obtain ⟨z0, z1, z2, z3, z4, z5, z6, z7, z8, z9, z10, z11⟩ := h.sizes (t := (x + p) / (y + r)) (by omega) (by omega) rfl ht
      generalize hT : (x + p) / (y + r) = t at *
      have v1 : IntKind.i64.wrap (t * r) = t * r := by rw [wi64] <;> omega
      have v2 : IntKind.i64.wrap (t * s) = t * s := by rw [wi64] <;> omega
      have v3 : IntKind.i64.wrap (t * y) = t * y := by rw [wi64] <;> omega
      have v4 : IntKind.i64.wrap (p - t * r) = p - t * r := by rw [wi64] <;> omega
      have v5 : IntKind.i64.wrap (q - t * s) = q - t * s := by rw [wi64] <;> omega
      have v6 : IntKind.i64.wrap (x - t * y) = x - t * y := by rw [wi64] <;> omega
      have v7 : IntKind.i64.wrap (0 - (p - t * r)) = 0 - (p - t * r) := by rw [wi64] <;> omega
      have v8 : IntKind.i64.wrap (0 - (q - t * s)) = 0 - (q - t * s) := by rw [wi64] <;> omega
      have m4 := max4 (p - t * r) (q - t * s)
      by_cases hm : Small (p - t * r) ∧ Small (q - t * s)
      · obtain ⟨hn, hd⟩ := h.next hN eA eB a0 a1 b0 b1 (t := t) (by omega) (by omega) hT.symm ht hm.1 hm.2
        have yn := hn.ys
        first
        | (exfalso; omega)
        | (obtain ⟨p', q', r', s', g1, g2⟩ := ih _ _ _ _ _ _ (by omega) hn
           refine ⟨p', q', r', s', g1.step fun f => ?_, g2⟩
           show b63_4 a b (f63_4 a b f) x y p q r s = _
           unfold b63_4
           simp only [w1, w2, w3, w4, t1, t2, hT, ← ht, v1, v2, v3, v4, v5, v6, v7, v8]
           rw [bneT hr, bneT hs, cF hr, cF hs, bneF rfl, cF (by rw [ge_iff_le, Int.not_le]; exact m4.2 hm)])
      · refine ⟨p, q, r, s, Evt.last fun f => ?_, h.told⟩
        show b63_4 a b (f63_4 a b f) x y p q r s = _
        unfold b63_4
        simp only [w1, w2, w3, w4, t1, t2, hT, ← ht, v1, v2, v3, v4, v5, v6, v7, v8]
        rw [bneT hr, bneT hs, cF hr, cF hs, bneF rfl, cT (by rw [ge_iff_le, ← Int.not_lt]; exact fun hh => hm (m4.1 hh))]
    · refine ⟨p, q, r, s, Evt.last fun f => ?_, h.told⟩
      show b63_4 a b (f63_4 a b f) x y p q r s = _
      unfold b63_4
      simp only [w1, w2, w3, w4, t1, t2]
      rw [bneT hr, bneT hs, cF hr, cF hs, bneT ht]
theorem run63 {a b : List Int} {A B : Int} (ha : Is a A) (hb : Is b B) (hla : a.length ≤ 1073741824) (hlb : b.length ≤ 1073741824) (hAB : B ≤ A) : ∃ p q r s : Int, S63 a b = some (p, q, r, s) ∧ Told A B p q r s := by
  have hB := hb.nonneg
  obtain ⟨n, g1, ⟨g2, g3, _⟩, g4⟩ := run81 ha hla
  obtain ⟨m, hm⟩ : ∃ m : Nat, (bif true then List.foldl imax 0 [IntKind.i64.wrap (n - 62)] else List.foldl imin 0 [IntKind.i64.wrap (n - 62)]) = (m : Int) ∧ n.toNat ≤ m + 62 ∧ m ≤ 34359738368 := by
    rw [wi64 (by omega) (by omega)]
    simp only [cond_true, List.foldl_cons, List.foldl_nil]
    unfold imax
    by_cases h : n - 62 > 0
    · rw [if_pos h]; exact ⟨(n - 62).toNat, by omega, by omega, by omega⟩
    · rw [if_neg h]; exact ⟨0, rfl, by omega, by omega⟩
  have hlt : A < 2 ^ (m + 62) := by
    have : (2 : Int) ^ n.toNat ≤ 2 ^ (m + 62) := by
      obtain ⟨k, hk⟩ := Nat.exists_eq_add_of_le hm.2.1
      rw [hk, Int.pow_add]
      have h1 : (0 : Int) < 2 ^ n.toNat := Int.pow_pos (by decide)
      have h2 : (0 : Int) < 2 ^ k := Int.pow_pos (by decide)
      have := Int.mul_le_mul_of_nonneg_left (show (1 : Int) ≤ 2 ^ k by omega) (Int.le_of_lt h1)
      omega
    omega
  have hp : (0 : Int) < 2 ^ m := Int.pow_pos (by decide)
  have e1 := run82 ha.ok ha.val hla hm.2.2 hlt
  have e2 := run82 hb.ok hb.val hlb hm.2.2 (show B < 2 ^ (m + 62) by omega)
  have d1 := Int.mul_ediv_add_emod A (2 ^ m)
  have d2 := Int.mul_ediv_add_emod B (2 ^ m)
  have hx1 : A / 2 ^ m < 4611686018427387904 := Int.ediv_lt_of_lt_mul hp (by
    rw [Int.pow_add] at hlt; rw [Int.mul_comm]; exact hlt)
  have hx0 : 0 ≤ A / 2 ^ m := Int.ediv_nonneg (by omega) (Int.le_of_lt hp)
  have hy0 : 0 ≤ B / 2 ^ m := Int.ediv_nonneg hB (Int.le_of_lt hp)
  have hy1 : B / 2 ^ m ≤ A / 2 ^ m := Int.ediv_le_ediv hp hAB
  have start : Heads (2 ^ m) A B (A / 2 ^ m) (B / 2 ^ m) (A / 2 ^ m) (B / 2 ^ m) 1 0 0 1 :=
    ⟨.inl ⟨by decide, by decide, by decide, by decide⟩, ⟨by decide, by decide⟩, ⟨by decide, by decide⟩, ⟨by decide, by decide⟩, ⟨by decide, by decide⟩, by omega, by omega, by omega, by omega, by omega, by omega, hx1, by omega, by omega, by omega, .inl rfl, by
      have h1 : 1 * A + 0 * B = A := by omega
      have h2 : 0 * A + 1 * B = B := by omega
      rw [h1, h2]; exact CD.refl A B⟩
  obtain ⟨p, q, r, s, k1, k2⟩ := loop63 (a := a) (b := b) hp d1.symm d2.symm (Int.emod_nonneg _ (by omega)) (Int.emod_lt_of_pos _ hp) (Int.emod_nonneg _ (by omega)) (Int.emod_lt_of_pos _ hp) _ _ _ _ _ _ _ (Nat.le_refl _) start
  refine ⟨p, q, r, s, evv_eq (k1.same fun f => ?_), k2⟩
  show b63 a b (f63_4 a b f) = _
  unfold b63
  rw [g1]
  simp only [Option.bind_some]
  rw [hm.1, e1, e2]
  rfl
end Go.Abs.Z
namespace Go.Abs.Z
open Go Go.Abs Go.Proofs
noncomputable section
abbrev R54 : Type := TI
noncomputable def body54 : Go.Code := (Tryd.f54.body).getD Go.Code.skip
def h54 (p0 p1 : TI) : List (AO U) := []
def k54 : AV U → List (AO U) → Option R54 := fun v h => match v, h with | AV.imm 99 x0, [] => some x0 | _, _ => none
def out54 : R54 → AV U := fun x0 => AV.imm 99 x0
def outh54 : R54 → List (AO U) := fun x0 => []
def D54 : Nat → Dir := dirs [(3, ⟨[0, 1], [], [], []⟩), (13, ⟨[13, 14], [], [], []⟩)]
def b54 (p0 p1 : TI) (c3 : TI → TI → Option R54) (c13 : (Int) → Int → Option R54)  : Option R54 :=
  (S62 p0 p1).bind fun r0 =>
  cond (decide (r0 < 0))
  (c3 (p1) (p0))
  (c3 (p0) (p1))
def m54_3 (p0 p1 v0 v1 : TI) : S U := S.mk [AV.imm 99 v0, AV.imm 99 v1, AV.undef, AV.undef, AV.undef, AV.undef, AV.undef, AV.undef, AV.undef, AV.undef, AV.undef, AV.undef, AV.undef, AV.undef, AV.undef, AV.undef, AV.undef, AV.undef, AV.undef, AV.undef, AV.undef, AV.undef, AV.undef, AV.undef, AV.undef, AV.undef, AV.undef, AV.undef, AV.undef, AV.undef, AV.undef, AV.undef, AV.undef, AV.undef, AV.undef, AV.undef, AV.undef, AV.undef, AV.undef, AV.undef, AV.undef, AV.undef, AV.undef, AV.undef, AV.undef, AV.undef, AV.undef, AV.undef, AV.undef, AV.undef, AV.undef, AV.undef, AV.undef, AV.undef, AV.undef, AV.undef, AV.undef, AV.undef, AV.undef, AV.undef, AV.undef, AV.undef, AV.undef, AV.undef, AV.undef, AV.undef, AV.undef, AV.undef, AV.undef, AV.undef, AV.undef, AV.undef, AV.undef, AV.undef, AV.undef] []
def b54_3 (p0 p1 : TI) (c3 : TI → TI → Option R54) (c13 : (Int) → Int → Option R54) (v0 v1 : TI) : Option R54 :=
  cond (decide ((↑v1.length : Int) > 2))
  ((S63 v0 v1).bind fun r0 =>
  cond (r0.snd.fst == 0)
  ((S64 v0 v1).bind fun r1 =>
  c3 (v1) (r1.snd))
  ((S65 v0 v1 r0.fst r0.snd.fst).bind fun r2 =>
  (S65 v0 v1 r0.snd.snd.fst r0.snd.snd.snd).bind fun r3 =>
  c3 (r2) (r3)))
  (cond ((↑v1.length : Int) == 0)
  (cond (decide ((0 + v0.length) * 4 ≤ 140737488355328))
  (some ([] ++ v0))
  (none))
  ((S64 v0 v1).bind fun r4 =>
  (S66 v1).bind fun r5 =>
  (S66 r4.snd).bind fun r6 =>
  c13 (r5) (r6)))
def m54_13 (p0 p1 : TI) (v0 v1 : Int) : S U := S.mk [AV.undef, AV.undef, AV.undef, AV.undef, AV.undef, AV.undef, AV.undef, AV.undef, AV.undef, AV.undef, AV.undef, AV.undef, AV.undef, AV.int IntKind.u64 v0, AV.int IntKind.u64 v1, AV.undef, AV.undef, AV.undef, AV.undef, AV.undef, AV.undef, AV.undef, AV.undef, AV.undef, AV.undef, AV.undef, AV.undef, AV.undef, AV.undef, AV.undef, AV.undef, AV.undef, AV.undef, AV.undef, AV.undef, AV.undef, AV.undef, AV.undef, AV.undef, AV.undef, AV.undef, AV.undef, AV.undef, AV.undef, AV.undef, AV.undef, AV.undef, AV.undef, AV.undef, AV.undef, AV.undef, AV.undef, AV.undef, AV.undef, AV.undef, AV.undef, AV.undef, AV.undef, AV.undef, AV.undef, AV.undef, AV.undef, AV.undef, AV.undef, AV.undef, AV.undef, AV.undef, AV.undef, AV.undef, AV.undef, AV.undef, AV.undef, AV.undef, AV.undef, AV.undef] []
def b54_13 (p0 p1 : TI) (c3 : TI → TI → Option R54) (c13 : (Int) → Int → Option R54) (v0 v1 : Int) : Option R54 :=
  cond (decide (v1 > 0))
  (cond (decide (v1 = 0))
  (none)
  (c13 (v1) (v0.tmod v1)))
  ((S67 v0).bind fun r0 =>
  some (r0))
theorem hk54 : ∀ v h' r, k54 v h' = some r → v = out54 r ∧ h' = outh54 r := by
  intro v h' r h
  unfold k54 at h
  split at h
  · injection h with h; subst h; exact ⟨rfl, rfl⟩
  · cases h
abbrev q54 : Prim U R54 := prims X [⟨62, fun _ => true, [.lend, .lend], F62 S62⟩, ⟨63, fun _ => true, [.lend, .lend], F63 S63⟩, ⟨64, fun _ => true, [.lend, .lend], F64 S64⟩, ⟨65, fun _ => true, [.lend, .lend], F65 S65⟩, ⟨66, fun _ => true, [.lend], F66 S66⟩, ⟨67, fun _ => true, [], F67 S67⟩]
theorem s54 (c : Nat → S U → Option R54) (p0 p1 : TI) : seg TP X q54 [3, 13] (fun q st => c q (keepD D54 (h54 p0 p1).length q st)) body54 (finH TP Tryd.f54.results.toList (h54 p0 p1).length false k54) (start [.imm 99 p0, .imm 99 p1] Tryd.f54.ntmps (h54 p0 p1)) = b54 p0 p1 (fun v0 v1 => c 3 (m54_3 p0 p1 v0 v1)) (fun v0 v1 => c 13 (m54_13 p0 p1 v0 v1)) := by kernel_rfl
theorem s54_3 (c : Nat → S U → Option R54) (p0 p1 v0 v1 : TI) : res TP X q54 [3, 13] (fun q st => c q (keepD D54 (h54 p0 p1).length q st)) 3 body54 (finH TP Tryd.f54.results.toList (h54 p0 p1).length false k54) (m54_3 p0 p1 v0 v1) = b54_3 p0 p1 (fun v0 v1 => c 3 (m54_3 p0 p1 v0 v1)) (fun v0 v1 => c 13 (m54_13 p0 p1 v0 v1)) v0 v1 := by kernel_rfl
theorem s54_13 (c : Nat → S U → Option R54) (p0 p1 : TI) (v0 v1 : Int) : res TP X q54 [3, 13] (fun q st => c q (keepD D54 (h54 p0 p1).length q st)) 13 body54 (finH TP Tryd.f54.results.toList (h54 p0 p1).length false k54) (m54_13 p0 p1 v0 v1) = b54_13 p0 p1 (fun v0 v1 => c 3 (m54_3 p0 p1 v0 v1)) (fun v0 v1 => c 13 (m54_13 p0 p1 v0 v1)) v0 v1 := by kernel_rfl
mutual
def f54_3 (p0 p1 : TI) : Nat → TI → TI → Option R54
  | 0 => fun _ _ => none
  | k + 1 => b54_3 p0 p1 (f54_3 p0 p1 k) (f54_13 p0 p1 k)
def f54_13 (p0 p1 : TI) : Nat → Int → (Int) → Option R54
  | 0 => fun _ _ => none
  | k + 1 => b54_13 p0 p1 (f54_3 p0 p1 k) (f54_13 p0 p1 k)
end
def f54 (k : Nat) (p0 p1 : TI) : Option R54 := b54 p0 p1 (f54_3 p0 p1 k) (f54_13 p0 p1 k)
theorem e54 (p0 p1 : TI) : ∀ k, ((fun v0 v1 => cutG TP X q54 [3, 13] D54 (h54 p0 p1).length body54 (finH TP Tryd.f54.results.toList (h54 p0 p1).length false k54) k 3 (m54_3 p0 p1 v0 v1)) = f54_3 p0 p1 k) ∧ ((fun v0 v1 => cutG TP X q54 [3, 13] D54 (h54 p0 p1).length body54 (finH TP Tryd.f54.results.toList (h54 p0 p1).length false k54) k 13 (m54_13 p0 p1 v0 v1)) = f54_13 p0 p1 k)
  | 0 => ⟨rfl, rfl⟩
  | k + 1 => by
    have ih := e54 p0 p1 k
    refine ⟨?_, ?_⟩
    · funext v0 v1
      refine (if_pos (by kernel_rfl)).trans ?_
      rw [s54_3]
      simp only [ih]
      rfl
    · funext v0 v1
      refine (if_pos (by kernel_rfl)).trans ?_
      rw [s54_13]
      simp only [ih]
      rfl
theorem pure54 (p0 p1 : TI) (pok : PrmOK TP X q54) (k : Nat) (r : R54) (h : f54 k p0 p1 = some r) : PureH TP X 54 [.imm 99 p0, .imm 99 p1] (h54 p0 p1) (out54 r) (outh54 r) :=
  pure_gen good k (fn := Tryd.f54) (body := body54) (prim := q54) (D := D54) (cuts := [3, 13]) (h := h54 p0 p1) (own := false) (by kernel_rfl) (by kernel_rfl) (by decide +kernel) pok hk54 (by
    rw [s54]
    have ih := e54 p0 p1 k
    simp only [ih]
    exact h)
def F54 {R : Type} (spec : TI → TI → Option R54) : Fn U R := fun args h k => match args, h with | [.imm 99 p0, .imm 99 p1], [] => (spec p0 p1).bind fun r => k (out54 r) (outh54 r) | _, _ => none
theorem ok54 {R : Type} (spec : TI → TI → Option R54) (hp : ∀ (p0 : TI) (p1 : TI) (r : R54), spec p0 p1 = some r → PureH TP X 54 [.imm 99 p0, .imm 99 p1] (h54 p0 p1) (out54 r) (outh54 r)) : FnOK TP X 54 (F54 spec : Fn U R) := by
  intro args h k r hh
  unfold F54 at hh
  split at hh
  · obtain ⟨x, h1, h2⟩ := Option.bind_eq_some_iff.1 hh
    exact ⟨_, _, h2, hp _ _ _ h1⟩
  · cases hh
theorem pok54 : PrmOK TP X q54 := prims_cons good okS62 (prims_cons good okS63 (prims_cons good okS64 (prims_cons good okS65 (prims_cons good okS66 (prims_cons good okS67 (prims_nil TP X mixed))))))
noncomputable def S54 (p0 p1 : TI) : Option R54 := evv fun k => f54 k p0 p1
theorem okS54 {R : Type} : FnOK TP X 54 (F54 S54 : Fn U R) := ok54 S54 fun p0 p1 r h => by
  obtain ⟨k, hk⟩ := evv_fuel h
  exact pure54 p0 p1 pok54 k r hk
end
end Go.Abs.Z
namespace Go.Abs.Z
open Go Go.Abs Limb Num
theorem loop54_13 {a b : List Int} {A B : Int} : ∀ (G : Nat) (x y : Int), y.toNat ≤ G → 0 ≤ x → x < 18446744073709551616 → 0 ≤ y → y < 18446744073709551616 → CD x y A B →
    ∃ r g, Evt (fun f => f54_13 a b f x y) r ∧ Is r g ∧ IsG g A B := by
  intro G
  induction G with
  | zero => ?_
  | succ G ih => ?_
  all_goals
    intro x y hG x0 x1 y0 y1 hcd
    by_cases hy : 0 < y
    · have m0 := Int.emod_nonneg x (b := y) (by omega)
      have m1 := Int.emod_lt_of_pos x hy
      first
      | (exfalso; omega)
      | (have e : x - x / y * y = x % y := by have := Int.mul_ediv_add_emod x y; rw [Int.mul_comm] at this; omega
         obtain ⟨r, g, h1, h2, h3⟩ := ih y (x % y) (by omega) y0 y1 m0 (by omega) (by have := hcd.step (x / y); rwa [e] at this)
         refine ⟨r, g, h1.step fun f => ?_, h2, h3⟩
         show b54_13 a b (f54_3 a b f) (f54_13 a b f) x y = _
         unfold b54_13
         rw [Int.tmod_eq_emod_of_nonneg x0]
         simp (disch := omega) only [cT, cF])
    · have h0 : y = 0 := by omega
      subst h0
      obtain ⟨r, h1, h2⟩ := run67 x0 x1
      refine ⟨r, x, Evt.last fun f => ?_, h2, .of_zero x0 hcd⟩
      show b54_13 a b (f54_3 a b f) (f54_13 a b f) x 0 = _
      unfold b54_13
      rw [h1]
      simp (disch := omega) only [cF, Option.bind_some]
theorem two_limbs {v : List Int} {V : Int} (h : Is v V) (hl : v.length ≤ 2) : V < 18446744073709551616 := by
  have h1 := (val_bound h.ok).2
  have h2 := P_mono hl
  have h3 : P 2 = 18446744073709551616 := by rfl
  rw [h.val] at h1
  omega
theorem loop54 {p0 p1 : List Int} {A B : Int} {L : Nat} (hL : L ≤ 536870912) : ∀ (G : Nat) (a b : List Int) (A' B' : Int), B'.toNat ≤ G → Is a A' → Is b B' → B' ≤ A' → A' < P L → CD A' B' A B →
    ∃ r g, Evt (fun f => f54_3 p0 p1 f a b) r ∧ Is r g ∧ IsG g A B := by
  intro G
  induction G with
  | zero => ?_
  | succ G ih => ?_
  all_goals
    intro a b A' B' hG ha hb hle hP hcd
    have hA0 := ha.nonneg
    have hB0 := hb.nonneg
    have hla := len_of_val ha.ok ha.norm L (by rw [ha.val]; exact hP)
    have hlb := len_of_val hb.ok hb.norm L (by rw [hb.val]; omega)
    have em := Int.mul_ediv_add_emod A' B'
    by_cases h2 : 2 < b.length
    · have hbn : b ≠ [] := fun h => by rw [h] at h2; simp at h2
      have hBp : 0 < B' := by
        have : B' ≠ 0 := fun h => hbn (hb.nil_iff.2 h)
        omega
      first
      | (exfalso; omega)
      | (obtain ⟨p, q, r, s, g1, g2⟩ := run63 ha hb (by omega) (by omega) hle
         by_cases hq : q = 0
         · obtain ⟨r1, r2, g3, g4, g5⟩ := run64 ha hb hBp (by omega) (by omega)
           have m0 := Int.emod_nonneg A' (b := B') (by omega)
           have m1 := Int.emod_lt_of_pos A' hBp
           have e : A' - A' / B' * B' = A' % B' := by rw [Int.mul_comm] at em; omega
           obtain ⟨z, g, k1, k2, k3⟩ := ih b r2 B' (A' % B') (by omega) hb g5 (by omega) (by omega) (by have := hcd.step (A' / B'); rwa [e] at this)
           refine ⟨z, g, k1.step fun f => ?_, k2, k3⟩
           show b54_3 p0 p1 (f54_3 p0 p1 f) (f54_13 p0 p1 f) a b = _
           unfold b54_3
           rw [g1, g3]
           simp only [Option.bind_some]
           rw [cE hq]
           simp (disch := omega) only [cT]
         · obtain ⟨u1, u2, t0, t1, t2, t3⟩ := g2.resolve_left hq
           have hval := (val_bound ha.ok).2
           rw [ha.val] at hval
           have hPa := P_mono (show a.length ≤ a.length + 1 by omega)
           have hlab : b.length ≤ a.length := len_le_of_val hb.ok hb.norm ha.ok (by rw [hb.val, ha.val]; exact hle)
           obtain ⟨x, g3, g4⟩ := run65 ha hb (by omega) (by omega) u1 rfl (by omega) (by omega)
           obtain ⟨y, g5, g6⟩ := run65 ha hb (by omega) (by omega) u2 rfl (by omega) (by omega)
           obtain ⟨z, g, k1, k2, k3⟩ := ih x y _ _ (by omega) g4 g6 (by omega) (by omega) (t3.trans hcd)
           refine ⟨z, g, k1.step fun f => ?_, k2, k3⟩
           show b54_3 p0 p1 (f54_3 p0 p1 f) (f54_13 p0 p1 f) a b = _
           unfold b54_3
           rw [g1]
           simp only [Option.bind_some]
           rw [cN hq, g3, g5]
           simp (disch := omega) only [cT, Option.bind_some])
    · by_cases h0 : b.length = 0
      · have hbz : B' = 0 := hb.nil_iff.1 (List.eq_nil_of_length_eq_zero h0)
        subst hbz
        refine ⟨a, A', Evt.last fun f => ?_, ha, .of_zero hA0 hcd⟩
        show b54_3 p0 p1 (f54_3 p0 p1 f) (f54_13 p0 p1 f) a b = _
        unfold b54_3
        rw [List.nil_append]
        simp (disch := omega) only [cT, cF, cE]
      · have hbn : b ≠ [] := fun h => by rw [h] at h0; simp at h0
        have hBp : 0 < B' := by
          have : B' ≠ 0 := fun h => hbn (hb.nil_iff.2 h)
          omega
        obtain ⟨r1, r2, g3, g4, g5⟩ := run64 ha hb hBp (by omega) (by omega)
        have m0 := Int.emod_nonneg A' (b := B') (by omega)
        have m1 := Int.emod_lt_of_pos A' hBp
        have e : A' - A' / B' * B' = A' % B' := by rw [Int.mul_comm] at em; omega
        have hl2 : r2.length ≤ b.length := len_le_of_val g5.ok g5.norm hb.ok (by rw [g5.val, hb.val]; omega)
        have l1 := run66 hb.ok (by omega)
        have l2 := run66 g5.ok (by omega)
        rw [hb.val] at l1
        rw [g5.val] at l2
        have hB2 := two_limbs hb (by omega)
        obtain ⟨z, g, k1, k2, k3⟩ := loop54_13 (a := p0) (b := p1) (A := A) (B := B) _ B' (A' % B') (Nat.le_refl _) hB0 hB2 m0 (by omega) (by have := hcd.step (A' / B'); rwa [e] at this)
        refine ⟨z, g, k1.step fun f => ?_, k2, k3⟩
        show b54_3 p0 p1 (f54_3 p0 p1 f) (f54_13 p0 p1 f) a b = _
        unfold b54_3
        rw [g3]
        simp only [Option.bind_some]
        rw [l1, l2]
        simp (disch := omega) only [cF, cN, Option.bind_some]
theorem run54 {a b : List Int} {A B : Int} (ha : Is a A) (hb : Is b B) (hla : a.length ≤ 536870912) (hlb : b.length ≤ 536870912) : ∃ r g, S54 a b = some r ∧ Is r g ∧ IsG g A B := by
  have hc := run62 ha hb (by omega)
  have hA := (val_bound ha.ok).2
  have hB := (val_bound hb.ok).2
  rw [ha.val] at hA
  rw [hb.val] at hB
  have pA := P_mono hla
  have pB := P_mono hlb
  by_cases h : A < B
  · obtain ⟨r, g, h1, h2, h3⟩ := loop54 (p0 := a) (p1 := b) (A := A) (B := B) (L := 536870912) (by omega) _ b a B A (Nat.le_refl _) hb ha (by omega) (by omega) (CD.swap A B)
    refine ⟨r, g, evv_eq (h1.same fun f => ?_), h2, h3⟩
    show b54 a b (f54_3 a b f) (f54_13 a b f) = _
    unfold b54
    rw [hc]
    simp only [Option.bind_some]
    exact cT (by unfold cmpI; rw [if_pos h]; decide) _ _
  · obtain ⟨r, g, h1, h2, h3⟩ := loop54 (p0 := a) (p1 := b) (A := A) (B := B) (L := 536870912) (by omega) _ a b A B (Nat.le_refl _) ha hb (by omega) (by omega) (CD.refl A B)
    refine ⟨r, g, evv_eq (h1.same fun f => ?_), h2, h3⟩
    show b54 a b (f54_3 a b f) (f54_13 a b f) = _
    unfold b54
    rw [hc]
    simp only [Option.bind_some]
    exact cF (by unfold cmpI; rw [if_neg h]; split <;> decide) _ _
end Go.Abs.Z
namespace Go.Abs.Z
open Go Go.Abs Go.Proofs
noncomputable section
abbrev R77 : Type := (Int)
noncomputable def body77 : Go.Code := (Tryd.f77.body).getD Go.Code.skip
def h77 (p0 p1 : Int) : List (AO U) := []
def k77 : AV U → List (AO U) → Option R77 := fun v h => match v, h with | AV.int IntKind.u64 x0, [] => some x0 | _, _ => none
def out77 : R77 → AV U := fun x0 => AV.int IntKind.u64 x0
def outh77 : R77 → List (AO U) := fun x0 => []
def D77 : Nat → Dir := dirs [(1, ⟨[0, 1], [], [], []⟩)]
def b77 (p0 p1 : Int) (c1 : (Int) → Int → Option R77)  : Option R77 :=
  c1 (p0) (p1)
def m77_1 (p0 p1 v0 v1 : Int) : S U := S.mk [AV.int IntKind.u64 v0, AV.int IntKind.u64 v1, AV.undef, AV.undef, AV.undef, AV.undef, AV.undef, AV.undef, AV.undef, AV.undef, AV.undef, AV.undef, AV.undef, AV.undef] []
def b77_1 (p0 p1 : Int) (c1 : (Int) → Int → Option R77) (v0 v1 : Int) : Option R77 :=
  cond (decide (v1 > 0))
  (cond (decide (v1 = 0))
  (none)
  (c1 (v1) (v0.tmod v1)))
  (some (v0))
theorem hk77 : ∀ v h' r, k77 v h' = some r → v = out77 r ∧ h' = outh77 r := by
  intro v h' r h
  unfold k77 at h
  split at h
  · injection h with h; subst h; exact ⟨rfl, rfl⟩
  · cases h
abbrev q77 : Prim U R77 := prims X []
theorem s77 (c : Nat → S U → Option R77) (p0 p1 : Int) : seg TP X q77 [1] (fun q st => c q (keepD D77 (h77 p0 p1).length q st)) body77 (finH TP Tryd.f77.results.toList (h77 p0 p1).length false k77) (start [.int .u64 p0, .int .u64 p1] Tryd.f77.ntmps (h77 p0 p1)) = b77 p0 p1 (fun v0 v1 => c 1 (m77_1 p0 p1 v0 v1)) := by kernel_rfl
theorem s77_1 (c : Nat → S U → Option R77) (p0 p1 v0 v1 : Int) : res TP X q77 [1] (fun q st => c q (keepD D77 (h77 p0 p1).length q st)) 1 body77 (finH TP Tryd.f77.results.toList (h77 p0 p1).length false k77) (m77_1 p0 p1 v0 v1) = b77_1 p0 p1 (fun v0 v1 => c 1 (m77_1 p0 p1 v0 v1)) v0 v1 := by kernel_rfl
def f77_1 (p0 p1 : Int) : Nat → Int → (Int) → Option R77
  | 0 => fun _ _ => none
  | k + 1 => b77_1 p0 p1 (f77_1 p0 p1 k)
def f77 (k : Nat) (p0 p1 : Int) : Option R77 := b77 p0 p1 (f77_1 p0 p1 k)
theorem e77 (p0 p1 : Int) : ∀ k, ((fun v0 v1 => cutG TP X q77 [1] D77 (h77 p0 p1).length body77 (finH TP Tryd.f77.results.toList (h77 p0 p1).length false k77) k 1 (m77_1 p0 p1 v0 v1)) = f77_1 p0 p1 k)
  | 0 => rfl
  | k + 1 => by
    have ih := e77 p0 p1 k
    · funext v0 v1
      refine (if_pos (by kernel_rfl)).trans ?_
      rw [s77_1]
      simp only [ih]
      rfl
theorem pure77 (p0 p1 : Int) (pok : PrmOK TP X q77) (k : Nat) (r : R77) (h : f77 k p0 p1 = some r) : PureH TP X 77 [.int .u64 p0, .int .u64 p1] (h77 p0 p1) (out77 r) (outh77 r) :=
  pure_gen good k (fn := Tryd.f77) (body := body77) (prim := q77) (D := D77) (cuts := [1]) (h := h77 p0 p1) (own := false) (by kernel_rfl) (by kernel_rfl) (by decide +kernel) pok hk77 (by
    rw [s77]
    have ih := e77 p0 p1 k
    simp only [ih]
    exact h)
def F77 {R : Type} (spec : (Int) → Int → Option R77) : Fn U R := fun args h k => match args, h with | [.int .u64 p0, .int .u64 p1], [] => (spec p0 p1).bind fun r => k (out77 r) (outh77 r) | _, _ => none
theorem ok77 {R : Type} (spec : (Int) → Int → Option R77) (hp : ∀ (p0 : Int) (p1 : Int) (r : R77), spec p0 p1 = some r → PureH TP X 77 [.int .u64 p0, .int .u64 p1] (h77 p0 p1) (out77 r) (outh77 r)) : FnOK TP X 77 (F77 spec : Fn U R) := by
  intro args h k r hh
  unfold F77 at hh
  split at hh
  · obtain ⟨x, h1, h2⟩ := Option.bind_eq_some_iff.1 hh
    exact ⟨_, _, h2, hp _ _ _ h1⟩
  · cases hh
theorem pok77 : PrmOK TP X q77 := prims_nil TP X mixed
noncomputable def S77 (p0 p1 : Int) : Option R77 := evv fun k => f77 k p0 p1
theorem okS77 {R : Type} : FnOK TP X 77 (F77 S77 : Fn U R) := ok77 S77 fun p0 p1 r h => by
  obtain ⟨k, hk⟩ := evv_fuel h
  exact pure77 p0 p1 pok77 k r hk
abbrev R78 : Type := (Int)
noncomputable def body78 : Go.Code := (Tryd.f78.body).getD Go.Code.skip
def h78 (p0 : TI) : List (AO U) := []
def k78 : AV U → List (AO U) → Option R78 := fun v h => match v, h with | AV.int IntKind.u64 x0, [] => some x0 | _, _ => none
def out78 : R78 → AV U := fun x0 => AV.int IntKind.u64 x0
def outh78 : R78 → List (AO U) := fun x0 => []
def D78 : Nat → Dir := dirs [(3, ⟨[0, 3, 4], [], [], []⟩)]
def b78 (p0 : TI) (c3 : (Int) → Int → Option R78)  : Option R78 :=
  c3 (0) (IntKind.i64.wrap ((↑p0.length : Int) - 1))
def m78_3 (p0 : TI) (v1 v2 : Int) : S U := S.mk [AV.imm 99 p0, AV.undef, AV.undef, AV.int IntKind.u64 v1, AV.int IntKind.i64 v2, AV.undef, AV.undef, AV.undef, AV.undef, AV.undef, AV.undef, AV.undef, AV.undef, AV.undef, AV.undef, AV.undef, AV.undef, AV.undef, AV.undef, AV.undef, AV.undef] []
def b78_3 (p0 : TI) (c3 : (Int) → Int → Option R78) (v1 v2 : Int) : Option R78 :=
  cond (decide (v2 ≥ 0))
  (cond (decide (0 ≤ v2))
  (cond (decide (v2 < (↑p0.length : Int)))
  (cond (decide (v2.toNat < p0.length))
  (c3 (Go.bits Go.BinOp.or IntKind.u64 (shl IntKind.u64 v1 32) (IntKind.u64.wrap (p0.getD v2.toNat (X.dflt 99)))) (IntKind.i64.wrap (v2 - 1)))
  (none))
  (none))
  (none))
  (some (v1))
theorem hk78 : ∀ v h' r, k78 v h' = some r → v = out78 r ∧ h' = outh78 r := by
  intro v h' r h
  unfold k78 at h
  split at h
  · injection h with h; subst h; exact ⟨rfl, rfl⟩
  · cases h
abbrev q78 : Prim U R78 := prims X []
theorem s78 (c : Nat → S U → Option R78) (p0 : TI) : seg TP X q78 [3] (fun q st => c q (keepD D78 (h78 p0).length q st)) body78 (finH TP Tryd.f78.results.toList (h78 p0).length false k78) (start [.imm 99 p0] Tryd.f78.ntmps (h78 p0)) = b78 p0 (fun v1 v2 => c 3 (m78_3 p0 v1 v2)) := by kernel_rfl
theorem s78_3 (c : Nat → S U → Option R78) (p0 : TI) (v1 v2 : Int) : res TP X q78 [3] (fun q st => c q (keepD D78 (h78 p0).length q st)) 3 body78 (finH TP Tryd.f78.results.toList (h78 p0).length false k78) (m78_3 p0 v1 v2) = b78_3 p0 (fun v1 v2 => c 3 (m78_3 p0 v1 v2)) v1 v2 := by kernel_rfl
def f78_3 (p0 : TI) : Nat → Int → (Int) → Option R78
  | 0 => fun _ _ => none
  | k + 1 => b78_3 p0 (f78_3 p0 k)
def f78 (k : Nat) (p0 : TI) : Option R78 := b78 p0 (f78_3 p0 k)
theorem e78 (p0 : TI) : ∀ k, ((fun v1 v2 => cutG TP X q78 [3] D78 (h78 p0).length body78 (finH TP Tryd.f78.results.toList (h78 p0).length false k78) k 3 (m78_3 p0 v1 v2)) = f78_3 p0 k)
  | 0 => rfl
  | k + 1 => by
    have ih := e78 p0 k
    · funext v1 v2
      refine (if_pos (by kernel_rfl)).trans ?_
      rw [s78_3]
      simp only [ih]
      rfl
theorem pure78 (p0 : TI) (pok : PrmOK TP X q78) (k : Nat) (r : R78) (h : f78 k p0 = some r) : PureH TP X 78 [.imm 99 p0] (h78 p0) (out78 r) (outh78 r) :=
  pure_gen good k (fn := Tryd.f78) (body := body78) (prim := q78) (D := D78) (cuts := [3]) (h := h78 p0) (own := false) (by kernel_rfl) (by kernel_rfl) (by decide +kernel) pok hk78 (by
    rw [s78]
    have ih := e78 p0 k
    simp only [ih]
    exact h)
def F78 {R : Type} (spec : TI → Option R78) : Fn U R := fun args h k => match args, h with | [.imm 99 p0], [] => (spec p0).bind fun r => k (out78 r) (outh78 r) | _, _ => none
theorem ok78 {R : Type} (spec : TI → Option R78) (hp : ∀ (p0 : TI) (r : R78), spec p0 = some r → PureH TP X 78 [.imm 99 p0] (h78 p0) (out78 r) (outh78 r)) : FnOK TP X 78 (F78 spec : Fn U R) := by
  intro args h k r hh
  unfold F78 at hh
  split at hh
  · obtain ⟨x, h1, h2⟩ := Option.bind_eq_some_iff.1 hh
    exact ⟨_, _, h2, hp _ _ h1⟩
  · cases hh
theorem pok78 : PrmOK TP X q78 := prims_nil TP X mixed
noncomputable def S78 (p0 : TI) : Option R78 := evv fun k => f78 k p0
theorem okS78 {R : Type} : FnOK TP X 78 (F78 S78 : Fn U R) := ok78 S78 fun p0 r h => by
  obtain ⟨k, hk⟩ := evv_fuel h
  exact pure78 p0 pok78 k r hk
abbrev R92 : Type := TI
noncomputable def body92 : Go.Code := (Tryd.f92.body).getD Go.Code.skip
def h92 (p0 : TI) : List (AO U) := []
def k92 : AV U → List (AO U) → Option R92 := fun v h => match v, h with | AV.imm 99 x0, [] => some x0 | _, _ => none
def out92 : R92 → AV U := fun x0 => AV.imm 99 x0
def outh92 : R92 → List (AO U) := fun x0 => []
def D92 : Nat → Dir := dirs [(2, ⟨[0, 3], [], [], []⟩)]
def b92 (p0 : TI) (c2 : (Int) → Option R92)  : Option R92 :=
  c2 ((↑p0.length : Int))
def m92_2 (p0 : TI) (v1 : Int) : S U := S.mk [AV.imm 99 p0, AV.undef, AV.undef, AV.int IntKind.i64 v1, AV.undef, AV.undef, AV.undef, AV.undef, AV.undef, AV.undef, AV.undef, AV.undef, AV.undef, AV.undef, AV.undef, AV.undef, AV.undef, AV.undef, AV.undef, AV.undef, AV.undef] []
def b92_2 (p0 : TI) (c2 : (Int) → Option R92) (v1 : Int) : Option R92 :=
  cond (decide (v1 > 0))
  (cond (decide (0 ≤ IntKind.i64.wrap (v1 - 1)))
  (cond (decide (IntKind.i64.wrap (v1 - 1) < (↑p0.length : Int)))
  (cond (decide ((IntKind.i64.wrap (v1 - 1)).toNat < p0.length))
  (cond (p0.getD (IntKind.i64.wrap (v1 - 1)).toNat (X.dflt 99) == 0)
  (c2 (IntKind.i64.wrap (v1 - 1)))
  (cond (decide (0 ≤ v1))
  (cond (decide (v1 ≤ (↑p0.length : Int)))
  (some (List.take v1.toNat p0))
  (none))
  (none)))
  (none))
  (none))
  (none))
  (cond (decide (0 ≤ v1))
  (cond (decide (v1 ≤ (↑p0.length : Int)))
  (some (List.take v1.toNat p0))
  (none))
  (none))
theorem hk92 : ∀ v h' r, k92 v h' = some r → v = out92 r ∧ h' = outh92 r := by
  intro v h' r h
  unfold k92 at h
  split at h
  · injection h with h; subst h; exact ⟨rfl, rfl⟩
  · cases h
abbrev q92 : Prim U R92 := prims X []
theorem s92 (c : Nat → S U → Option R92) (p0 : TI) : seg TP X q92 [2] (fun q st => c q (keepD D92 (h92 p0).length q st)) body92 (finH TP Tryd.f92.results.toList (h92 p0).length false k92) (start [.imm 99 p0] Tryd.f92.ntmps (h92 p0)) = b92 p0 (fun v1 => c 2 (m92_2 p0 v1)) := by kernel_rfl
theorem s92_2 (c : Nat → S U → Option R92) (p0 : TI) (v1 : Int) : res TP X q92 [2] (fun q st => c q (keepD D92 (h92 p0).length q st)) 2 body92 (finH TP Tryd.f92.results.toList (h92 p0).length false k92) (m92_2 p0 v1) = b92_2 p0 (fun v1 => c 2 (m92_2 p0 v1)) v1 := by kernel_rfl
def f92_2 (p0 : TI) : Nat → Int → Option R92
  | 0 => fun _ => none
  | k + 1 => b92_2 p0 (f92_2 p0 k)
def f92 (k : Nat) (p0 : TI) : Option R92 := b92 p0 (f92_2 p0 k)
theorem e92 (p0 : TI) : ∀ k, ((fun v1 => cutG TP X q92 [2] D92 (h92 p0).length body92 (finH TP Tryd.f92.results.toList (h92 p0).length false k92) k 2 (m92_2 p0 v1)) = f92_2 p0 k)
  | 0 => rfl
  | k + 1 => by
    have ih := e92 p0 k
    · funext v1
      refine (if_pos (by kernel_rfl)).trans ?_
      rw [s92_2]
      simp only [ih]
      rfl
theorem pure92 (p0 : TI) (pok : PrmOK TP X q92) (k : Nat) (r : R92) (h : f92 k p0 = some r) : PureH TP X 92 [.imm 99 p0] (h92 p0) (out92 r) (outh92 r) :=
  pure_gen good k (fn := Tryd.f92) (body := body92) (prim := q92) (D := D92) (cuts := [2]) (h := h92 p0) (own := false) (by kernel_rfl) (by kernel_rfl) (by decide +kernel) pok hk92 (by
    rw [s92]
    have ih := e92 p0 k
    simp only [ih]
    exact h)
def F92 {R : Type} (spec : TI → Option R92) : Fn U R := fun args h k => match args, h with | [.imm 99 p0], [] => (spec p0).bind fun r => k (out92 r) (outh92 r) | _, _ => none
theorem ok92 {R : Type} (spec : TI → Option R92) (hp : ∀ (p0 : TI) (r : R92), spec p0 = some r → PureH TP X 92 [.imm 99 p0] (h92 p0) (out92 r) (outh92 r)) : FnOK TP X 92 (F92 spec : Fn U R) := by
  intro args h k r hh
  unfold F92 at hh
  split at hh
  · obtain ⟨x, h1, h2⟩ := Option.bind_eq_some_iff.1 hh
    exact ⟨_, _, h2, hp _ _ h1⟩
  · cases hh
theorem pok92 : PrmOK TP X q92 := prims_nil TP X mixed
noncomputable def S92 (p0 : TI) : Option R92 := evv fun k => f92 k p0
theorem okS92 {R : Type} : FnOK TP X 92 (F92 S92 : Fn U R) := ok92 S92 fun p0 r h => by
  obtain ⟨k, hk⟩ := evv_fuel h
  exact pure92 p0 pok92 k r hk
abbrev R92h : Type := TI
noncomputable def body92h : Go.Code := (Tryd.f92.body).getD Go.Code.skip
def h92h (p0 : TI) : List (AO U) := [.row 99 p0]
def k92h : AV U → List (AO U) → Option R92h := fun v h => match v, h with | AV.row 1 99, [AO.dead, AO.row 99 x0] => some x0 | _, _ => none
def out92h : R92h → AV U := fun x0 => AV.row 1 99
def outh92h : R92h → List (AO U) := fun x0 => [AO.dead, AO.row 99 x0]
def D92h : Nat → Dir := dirs [(2, ⟨[0, 3], [], [], []⟩)]
def b92h (p0 : TI) (c2 : (Int) → Option R92h)  : Option R92h :=
  c2 ((↑p0.length : Int))
def m92h_2 (p0 : TI) (v0 : Int) : S U := S.mk [AV.row 0 99, AV.undef, AV.undef, AV.int IntKind.i64 v0, AV.undef, AV.undef, AV.undef, AV.undef, AV.undef, AV.undef, AV.undef, AV.undef, AV.undef, AV.undef, AV.undef, AV.undef, AV.undef, AV.undef, AV.undef, AV.undef, AV.undef] [AO.row 99 p0]
def b92h_2 (p0 : TI) (c2 : (Int) → Option R92h) (v0 : Int) : Option R92h :=
  cond (decide (v0 > 0))
  (cond (decide (0 ≤ IntKind.i64.wrap (v0 - 1)))
  (cond (decide (IntKind.i64.wrap (v0 - 1) < (↑p0.length : Int)))
  (cond (decide ((IntKind.i64.wrap (v0 - 1)).toNat < p0.length))
  (cond (p0.getD (IntKind.i64.wrap (v0 - 1)).toNat (X.dflt 99) == 0)
  (c2 (IntKind.i64.wrap (v0 - 1)))
  (cond (decide (0 ≤ v0))
  (cond (decide (v0 ≤ (↑p0.length : Int)))
  (some (List.take (v0.toNat - 0) p0))
  (none))
  (none)))
  (none))
  (none))
  (none))
  (cond (decide (0 ≤ v0))
  (cond (decide (v0 ≤ (↑p0.length : Int)))
  (some (List.take (v0.toNat - 0) p0))
  (none))
  (none))
theorem hk92h : ∀ v h' r, k92h v h' = some r → v = out92h r ∧ h' = outh92h r := by
  intro v h' r h
  unfold k92h at h
  split at h
  · injection h with h; subst h; exact ⟨rfl, rfl⟩
  · cases h
abbrev q92h : Prim U R92h := prims X []
theorem s92h (c : Nat → S U → Option R92h) (p0 : TI) : seg TP X q92h [2] (fun q st => c q (keepD D92h (h92h p0).length q st)) body92h (finH TP Tryd.f92.results.toList (h92h p0).length true k92h) (start [.row 0 99] Tryd.f92.ntmps (h92h p0)) = b92h p0 (fun v0 => c 2 (m92h_2 p0 v0)) := by kernel_rfl
theorem s92h_2 (c : Nat → S U → Option R92h) (p0 : TI) (v0 : Int) : res TP X q92h [2] (fun q st => c q (keepD D92h (h92h p0).length q st)) 2 body92h (finH TP Tryd.f92.results.toList (h92h p0).length true k92h) (m92h_2 p0 v0) = b92h_2 p0 (fun v0 => c 2 (m92h_2 p0 v0)) v0 := by kernel_rfl
def f92h_2 (p0 : TI) : Nat → Int → Option R92h
  | 0 => fun _ => none
  | k + 1 => b92h_2 p0 (f92h_2 p0 k)
def f92h (k : Nat) (p0 : TI) : Option R92h := b92h p0 (f92h_2 p0 k)
theorem e92h (p0 : TI) : ∀ k, ((fun v0 => cutG TP X q92h [2] D92h (h92h p0).length body92h (finH TP Tryd.f92.results.toList (h92h p0).length true k92h) k 2 (m92h_2 p0 v0)) = f92h_2 p0 k)
  | 0 => rfl
  | k + 1 => by
    have ih := e92h p0 k
    · funext v0
      refine (if_pos (by kernel_rfl)).trans ?_
      rw [s92h_2]
      simp only [ih]
      rfl
theorem pure92h (p0 : TI) (pok : PrmOK TP X q92h) (k : Nat) (r : R92h) (h : f92h k p0 = some r) : PureH TP X 92 [.row 0 99] (h92h p0) (out92h r) (outh92h r) :=
  pure_gen good k (fn := Tryd.f92) (body := body92h) (prim := q92h) (D := D92h) (cuts := [2]) (h := h92h p0) (own := true) (by kernel_rfl) (by kernel_rfl) (by decide +kernel) pok hk92h (by
    rw [s92h]
    have ih := e92h p0 k
    simp only [ih]
    exact h)
def F92h {R : Type} (spec : TI → Option R92h) : Fn U R := fun args h k => match args, h with | [.row 0 99], [.row 99 p0] => (spec p0).bind fun r => k (out92h r) (outh92h r) | _, _ => none
theorem ok92h {R : Type} (spec : TI → Option R92h) (hp : ∀ (p0 : TI) (r : R92h), spec p0 = some r → PureH TP X 92 [.row 0 99] (h92h p0) (out92h r) (outh92h r)) : FnOK TP X 92 (F92h spec : Fn U R) := by
  intro args h k r hh
  unfold F92h at hh
  split at hh
  · obtain ⟨x, h1, h2⟩ := Option.bind_eq_some_iff.1 hh
    exact ⟨_, _, h2, hp _ _ h1⟩
  · cases hh
theorem pok92h : PrmOK TP X q92h := prims_nil TP X mixed
noncomputable def S92h (p0 : TI) : Option R92h := evv fun k => f92h k p0
theorem okS92h {R : Type} : FnOK TP X 92 (F92h S92h : Fn U R) := ok92h S92h fun p0 r h => by
  obtain ⟨k, hk⟩ := evv_fuel h
  exact pure92h p0 pok92h k r hk
abbrev R73 : Type := TI
noncomputable def body73 : Go.Code := (Tryd.f73.body).getD Go.Code.skip
def h73 (p0 : TI) : List (AO U) := []
def k73 : AV U → List (AO U) → Option R73 := fun v h => match v, h with | AV.row 0 99, [AO.row 99 x0] => some x0 | _, _ => none
def out73 : R73 → AV U := fun x0 => AV.row 0 99
def outh73 : R73 → List (AO U) := fun x0 => [AO.row 99 x0]
def D73 : Nat → Dir := dirs []
def b73 (p0 : TI)   : Option R73 :=
  cond (decide ((0 + p0.length) * 4 ≤ 140737488355328))
  (some ([] ++ p0))
  (none)
theorem hk73 : ∀ v h' r, k73 v h' = some r → v = out73 r ∧ h' = outh73 r := by
  intro v h' r h
  unfold k73 at h
  split at h
  · injection h with h; subst h; exact ⟨rfl, rfl⟩
  · cases h
abbrev q73 : Prim U R73 := prims X []
theorem s73 (c : Nat → S U → Option R73) (p0 : TI) : seg TP X q73 [] (fun q st => c q (keepD D73 (h73 p0).length q st)) body73 (finH TP Tryd.f73.results.toList (h73 p0).length true k73) (start [.imm 99 p0] Tryd.f73.ntmps (h73 p0)) = b73 p0  := by kernel_rfl
def f73 (_ : Nat) (p0 : TI) : Option R73 := b73 p0
theorem pure73 (p0 : TI) (pok : PrmOK TP X q73) (k : Nat) (r : R73) (h : f73 k p0 = some r) : PureH TP X 73 [.imm 99 p0] (h73 p0) (out73 r) (outh73 r) :=
  pure_gen good 0 (fn := Tryd.f73) (body := body73) (prim := q73) (D := D73) (cuts := []) (h := h73 p0) (own := true) (by kernel_rfl) (by kernel_rfl) (by decide +kernel) pok hk73 (by
    rw [s73]
    exact h)
def F73 {R : Type} (spec : TI → Option R73) : Fn U R := fun args h k => match args, h with | [.imm 99 p0], [] => (spec p0).bind fun r => k (out73 r) (outh73 r) | _, _ => none
theorem ok73 {R : Type} (spec : TI → Option R73) (hp : ∀ (p0 : TI) (r : R73), spec p0 = some r → PureH TP X 73 [.imm 99 p0] (h73 p0) (out73 r) (outh73 r)) : FnOK TP X 73 (F73 spec : Fn U R) := by
  intro args h k r hh
  unfold F73 at hh
  split at hh
  · obtain ⟨x, h1, h2⟩ := Option.bind_eq_some_iff.1 hh
    exact ⟨_, _, h2, hp _ _ h1⟩
  · cases hh
theorem pok73 : PrmOK TP X q73 := prims_nil TP X mixed
noncomputable def S73 (p0 : TI) : Option R73 := evv fun k => f73 k p0
theorem okS73 {R : Type} : FnOK TP X 73 (F73 S73 : Fn U R) := ok73 S73 fun p0 r h => by
  obtain ⟨k, hk⟩ := evv_fuel h
  exact pure73 p0 pok73 k r hk
abbrev R42c : Type := Bool × (Int)
noncomputable def body42c : Go.Code := (Tryd.f42.body).getD Go.Code.skip
def h42c (p0 p1 : Int) : List (AO U) := [.box [.int .i64 p1]]
def k42c : AV U → List (AO U) → Option R42c := fun v h => match v, h with | AV.bool x0, [AO.box [AV.int IntKind.i64 x1]] => some (x0, x1) | _, _ => none
def out42c : R42c → AV U := fun (x0, x1) => AV.bool x0
def outh42c : R42c → List (AO U) := fun (x0, x1) => [AO.box [AV.int IntKind.i64 x1]]
def D42c : Nat → Dir := dirs []
def b42c (p0 p1 : Int)   : Option R42c :=
  cond (decide (p0 ≥ 0))
  (some ((decide (p0 < p1), p1)))
  (some ((false, p1)))
theorem hk42c : ∀ v h' r, k42c v h' = some r → v = out42c r ∧ h' = outh42c r := by
  intro v h' r h
  unfold k42c at h
  split at h
  · injection h with h; subst h; exact ⟨rfl, rfl⟩
  · cases h
abbrev q42c : Prim U R42c := prims X []
theorem s42c (c : Nat → S U → Option R42c) (p0 p1 : Int) : seg TP X q42c [] (fun q st => c q (keepD D42c (h42c p0 p1).length q st)) body42c (finH TP Tryd.f42.results.toList (h42c p0 p1).length false k42c) (start [.int .i64 p0, .ptr 0 0] Tryd.f42.ntmps (h42c p0 p1)) = b42c p0 p1  := by kernel_rfl
def f42c (_ : Nat) (p0 p1 : Int) : Option R42c := b42c p0 p1
theorem pure42c (p0 p1 : Int) (pok : PrmOK TP X q42c) (k : Nat) (r : R42c) (h : f42c k p0 p1 = some r) : PureH TP X 42 [.int .i64 p0, .ptr 0 0] (h42c p0 p1) (out42c r) (outh42c r) :=
  pure_gen good 0 (fn := Tryd.f42) (body := body42c) (prim := q42c) (D := D42c) (cuts := []) (h := h42c p0 p1) (own := false) (by kernel_rfl) (by kernel_rfl) (by decide +kernel) pok hk42c (by
    rw [s42c]
    exact h)
def F42c {R : Type} (spec : (Int) → Int → Option R42c) : Fn U R := fun args h k => match args, h with | [.int .i64 p0, .ptr 0 0], [.box [.int .i64 p1]] => (spec p0 p1).bind fun r => k (out42c r) (outh42c r) | _, _ => none
theorem ok42c {R : Type} (spec : (Int) → Int → Option R42c) (hp : ∀ (p0 : Int) (p1 : Int) (r : R42c), spec p0 p1 = some r → PureH TP X 42 [.int .i64 p0, .ptr 0 0] (h42c p0 p1) (out42c r) (outh42c r)) : FnOK TP X 42 (F42c spec : Fn U R) := by
  intro args h k r hh
  unfold F42c at hh
  split at hh
  · obtain ⟨x, h1, h2⟩ := Option.bind_eq_some_iff.1 hh
    exact ⟨_, _, h2, hp _ _ _ h1⟩
  · cases hh
theorem pok42c : PrmOK TP X q42c := prims_nil TP X mixed
noncomputable def S42c (p0 p1 : Int) : Option R42c := evv fun k => f42c k p0 p1
theorem okS42c {R : Type} : FnOK TP X 42 (F42c S42c : Fn U R) := ok42c S42c fun p0 p1 r h => by
  obtain ⟨k, hk⟩ := evv_fuel h
  exact pure42c p0 p1 pok42c k r hk
end
end Go.Abs.Z
namespace Go.Abs.Z
open Go Go.Abs Go.Proofs
noncomputable section
abbrev R91 : Type := Int × Bool × TI
noncomputable def body91 : Go.Code := (Tryd.f91.body).getD Go.Code.skip
def h91 (p0 : TI) : List (AO U) := [.row 99 p0]
def k91 : AV U → List (AO U) → Option R91 := fun v h => match v, h with | AV.tup [AV.row 1 99, AV.int IntKind.i64 x0, AV.bool x1], [AO.dead, AO.row 99 x2] => some (x0, x1, x2) | _, _ => none
def out91 : R91 → AV U := fun (x0, x1, x2) => AV.tup [AV.row 1 99, AV.int IntKind.i64 x0, AV.bool x1]
def outh91 : R91 → List (AO U) := fun (x0, x1, x2) => [AO.dead, AO.row 99 x2]
def D91 : Nat → Dir := dirs [(3, ⟨[0, 5], [], [], []⟩), (8, ⟨[0, 6], [], [], []⟩), (11, ⟨[0, 6, 7], [], [], []⟩)]
def b91 (p0 : TI) (c3 : (Int) → TI → Option R91) (c8 : (Int) → Option R91) (c11 : (Int) → Int → TI → Option R91)  : Option R91 :=
  cond (decide (0 < (↑p0.length : Int)))
  (cond (decide (Int.toNat 0 < p0.length))
  (cond (p0.getD (Int.toNat 0) (X.dflt 99) == 0)
  (c3 (0) (p0))
  (c8 (0)))
  (none))
  (none)
def m91_3 (p0 : TI) (v0 : Int) (v1 : TI) : S U := S.mk [AV.row 0 99, AV.undef, AV.undef, AV.undef, AV.undef, AV.int IntKind.i64 v0, AV.undef, AV.undef, AV.undef, AV.undef, AV.undef, AV.undef, AV.undef, AV.undef, AV.undef, AV.undef, AV.undef, AV.undef, AV.undef, AV.undef, AV.undef, AV.undef, AV.undef, AV.undef, AV.undef, AV.undef, AV.undef, AV.undef, AV.undef, AV.undef, AV.undef, AV.undef, AV.undef, AV.undef, AV.undef, AV.undef, AV.undef, AV.undef, AV.undef, AV.undef, AV.undef, AV.undef, AV.undef, AV.undef, AV.undef, AV.undef, AV.undef, AV.undef, AV.undef, AV.undef, AV.undef, AV.undef, AV.undef, AV.undef, AV.undef, AV.undef, AV.undef, AV.undef, AV.undef, AV.undef, AV.undef, AV.undef, AV.undef, AV.undef, AV.undef, AV.undef, AV.undef, AV.undef, AV.undef, AV.undef, AV.undef, AV.undef, AV.undef, AV.undef, AV.undef, AV.undef, AV.undef, AV.undef, AV.undef, AV.undef, AV.undef, AV.undef, AV.undef] [AO.row 99 v1]
def b91_3 (p0 : TI) (c3 : (Int) → TI → Option R91) (c8 : (Int) → Option R91) (c11 : (Int) → Int → TI → Option R91) (v0 : Int) (v1 : TI) : Option R91 :=
  cond (decide (IntKind.i64.wrap (v0 + 1) < (↑v1.length : Int)))
  (cond (decide (0 ≤ IntKind.i64.wrap (v0 + 1)))
  (cond (decide (IntKind.i64.wrap (v0 + 1) < (↑v1.length : Int)))
  (cond (decide ((IntKind.i64.wrap (v0 + 1)).toNat < v1.length))
  (cond (decide (0 ≤ v0))
  (cond (decide (v0 < (↑v1.length : Int)))
  (cond (decide (v0.toNat < v1.length))
  (c3 (IntKind.i64.wrap (v0 + 1)) (v1.set v0.toNat (v1.getD (IntKind.i64.wrap (v0 + 1)).toNat (X.dflt 99))))
  (none))
  (none))
  (none))
  (none))
  (none))
  (none))
  (cond (decide (0 ≤ IntKind.i64.wrap ((↑v1.length : Int) - 1)))
  (cond (decide (IntKind.i64.wrap ((↑v1.length : Int) - 1) ≤ (↑v1.length : Int)))
  (some ((32, false, List.take ((IntKind.i64.wrap ((↑v1.length : Int) - 1)).toNat - 0) v1)))
  (none))
  (none))
def m91_8 (p0 : TI) (v0 : Int) : S U := S.mk [AV.row 0 99, AV.undef, AV.undef, AV.undef, AV.undef, AV.undef, AV.int IntKind.i64 v0, AV.undef, AV.undef, AV.undef, AV.undef, AV.undef, AV.undef, AV.undef, AV.undef, AV.undef, AV.undef, AV.undef, AV.undef, AV.undef, AV.undef, AV.undef, AV.undef, AV.undef, AV.undef, AV.undef, AV.undef, AV.undef, AV.undef, AV.undef, AV.undef, AV.undef, AV.undef, AV.undef, AV.undef, AV.undef, AV.undef, AV.undef, AV.undef, AV.undef, AV.undef, AV.undef, AV.undef, AV.undef, AV.undef, AV.undef, AV.undef, AV.undef, AV.undef, AV.undef, AV.undef, AV.undef, AV.undef, AV.undef, AV.undef, AV.undef, AV.undef, AV.undef, AV.undef, AV.undef, AV.undef, AV.undef, AV.undef, AV.undef, AV.undef, AV.undef, AV.undef, AV.undef, AV.undef, AV.undef, AV.undef, AV.undef, AV.undef, AV.undef, AV.undef, AV.undef, AV.undef, AV.undef, AV.undef, AV.undef, AV.undef, AV.undef, AV.undef] [AO.row 99 p0]
def b91_8 (p0 : TI) (c3 : (Int) → TI → Option R91) (c8 : (Int) → Option R91) (c11 : (Int) → Int → TI → Option R91) (v0 : Int) : Option R91 :=
  cond (decide (0 < (↑p0.length : Int)))
  (cond (decide (Int.toNat 0 < p0.length))
  (cond (decide (0 ≤ IntKind.u64.wrap v0))
  (cond (Go.bits Go.BinOp.and IntKind.u32 (shr IntKind.u32 (p0.getD (Int.toNat 0) (X.dflt 99)) (IntKind.u64.wrap v0)) 1 == 0)
  (c8 (IntKind.i64.wrap (v0 + 1)))
  (c11 (v0) (0) (p0)))
  (none))
  (none))
  (none)
def m91_11 (p0 : TI) (v0 v1 : Int) (v2 : TI) : S U := S.mk [AV.row 0 99, AV.undef, AV.undef, AV.undef, AV.undef, AV.undef, AV.int IntKind.i64 v0, AV.int IntKind.i64 v1, AV.undef, AV.undef, AV.undef, AV.undef, AV.undef, AV.undef, AV.undef, AV.undef, AV.undef, AV.undef, AV.undef, AV.undef, AV.undef, AV.undef, AV.undef, AV.undef, AV.undef, AV.undef, AV.undef, AV.undef, AV.undef, AV.undef, AV.undef, AV.undef, AV.undef, AV.undef, AV.undef, AV.undef, AV.undef, AV.undef, AV.undef, AV.undef, AV.undef, AV.undef, AV.undef, AV.undef, AV.undef, AV.undef, AV.undef, AV.undef, AV.undef, AV.undef, AV.undef, AV.undef, AV.undef, AV.undef, AV.undef, AV.undef, AV.undef, AV.undef, AV.undef, AV.undef, AV.undef, AV.undef, AV.undef, AV.undef, AV.undef, AV.undef, AV.undef, AV.undef, AV.undef, AV.undef, AV.undef, AV.undef, AV.undef, AV.undef, AV.undef, AV.undef, AV.undef, AV.undef, AV.undef, AV.undef, AV.undef, AV.undef, AV.undef] [AO.row 99 v2]
def b91_11 (p0 : TI) (c3 : (Int) → TI → Option R91) (c8 : (Int) → Option R91) (c11 : (Int) → Int → TI → Option R91) (v0 v1 : Int) (v2 : TI) : Option R91 :=
  cond (decide (v1 < (↑v2.length : Int)))
  (cond (decide (v0 > 0))
  (cond (decide (0 ≤ v1))
  (cond (decide (v1 < (↑v2.length : Int)))
  (cond (decide (v1.toNat < v2.length))
  (cond (decide (IntKind.i64.wrap (v1 + 1) < (↑v2.length : Int)))
  (cond (decide (0 ≤ IntKind.i64.wrap (v1 + 1)))
  (cond (decide (IntKind.i64.wrap (v1 + 1) < (↑v2.length : Int)))
  (cond (decide ((IntKind.i64.wrap (v1 + 1)).toNat < v2.length))
  (cond (decide (0 ≤ IntKind.u64.wrap v0))
  (cond (decide (0 ≤ v1))
  (cond (decide (v1 < (↑v2.length : Int)))
  (cond (decide (v1.toNat < v2.length))
  (c11 (v0) (IntKind.i64.wrap (v1 + 1)) (v2.set v1.toNat (IntKind.u32.wrap (shr IntKind.u64 (Go.bits Go.BinOp.or IntKind.u64 (IntKind.u64.wrap (v2.getD v1.toNat (X.dflt 99))) (shl IntKind.u64 (IntKind.u64.wrap (v2.getD (IntKind.i64.wrap (v1 + 1)).toNat (X.dflt 99))) 32)) (IntKind.u64.wrap v0)))))
  (none))
  (none))
  (none))
  (none))
  (none))
  (none))
  (none))
  (cond (decide (0 ≤ IntKind.u64.wrap v0))
  (cond (decide (0 ≤ v1))
  (cond (decide (v1 < (↑v2.length : Int)))
  (cond (decide (v1.toNat < v2.length))
  (c11 (v0) (IntKind.i64.wrap (v1 + 1)) (v2.set v1.toNat (IntKind.u32.wrap (shr IntKind.u64 (IntKind.u64.wrap (v2.getD v1.toNat (X.dflt 99))) (IntKind.u64.wrap v0)))))
  (none))
  (none))
  (none))
  (none)))
  (none))
  (none))
  (none))
  ((S92h v2).bind fun r0 =>
  some ((v0, true, r0))))
  ((S92h v2).bind fun r1 =>
  some ((v0, true, r1)))
theorem hk91 : ∀ v h' r, k91 v h' = some r → v = out91 r ∧ h' = outh91 r := by
  intro v h' r h
  unfold k91 at h
  split at h
  · injection h with h; subst h; exact ⟨rfl, rfl⟩
  · cases h
abbrev q91 : Prim U R91 := prims X [⟨92, fun _ => true, [.hand], F92h S92h⟩]
theorem s91 (c : Nat → S U → Option R91) (p0 : TI) : seg TP X q91 [3, 8, 11] (fun q st => c q (keepD D91 (h91 p0).length q st)) body91 (finH TP Tryd.f91.results.toList (h91 p0).length true k91) (start [.row 0 99] Tryd.f91.ntmps (h91 p0)) = b91 p0 (fun v0 v1 => c 3 (m91_3 p0 v0 v1)) (fun v0 => c 8 (m91_8 p0 v0)) (fun v0 v1 v2 => c 11 (m91_11 p0 v0 v1 v2)) := by kernel_rfl
theorem s91_3 (c : Nat → S U → Option R91) (p0 : TI) (v0 : Int) (v1 : TI) : res TP X q91 [3, 8, 11] (fun q st => c q (keepD D91 (h91 p0).length q st)) 3 body91 (finH TP Tryd.f91.results.toList (h91 p0).length true k91) (m91_3 p0 v0 v1) = b91_3 p0 (fun v0 v1 => c 3 (m91_3 p0 v0 v1)) (fun v0 => c 8 (m91_8 p0 v0)) (fun v0 v1 v2 => c 11 (m91_11 p0 v0 v1 v2)) v0 v1 := by kernel_rfl
theorem s91_8 (c : Nat → S U → Option R91) (p0 : TI) (v0 : Int) : res TP X q91 [3, 8, 11] (fun q st => c q (keepD D91 (h91 p0).length q st)) 8 body91 (finH TP Tryd.f91.results.toList (h91 p0).length true k91) (m91_8 p0 v0) = b91_8 p0 (fun v0 v1 => c 3 (m91_3 p0 v0 v1)) (fun v0 => c 8 (m91_8 p0 v0)) (fun v0 v1 v2 => c 11 (m91_11 p0 v0 v1 v2)) v0 := by kernel_rfl
theorem s91_11 (c : Nat → S U → Option R91) (p0 : TI) (v0 v1 : Int) (v2 : TI) : res TP X q91 [3, 8, 11] (fun q st => c q (keepD D91 (h91 p0).length q st)) 11 body91 (finH TP Tryd.f91.results.toList (h91 p0).length true k91) (m91_11 p0 v0 v1 v2) = b91_11 p0 (fun v0 v1 => c 3 (m91_3 p0 v0 v1)) (fun v0 => c 8 (m91_8 p0 v0)) (fun v0 v1 v2 => c 11 (m91_11 p0 v0 v1 v2)) v0 v1 v2 := by kernel_rfl
mutual
def f91_3 (p0 : TI) : Nat → Int → TI → Option R91
  | 0 => fun _ _ => none
  | k + 1 => b91_3 p0 (f91_3 p0 k) (f91_8 p0 k) (f91_11 p0 k)
def f91_8 (p0 : TI) : Nat → Int → Option R91
  | 0 => fun _ => none
  | k + 1 => b91_8 p0 (f91_3 p0 k) (f91_8 p0 k) (f91_11 p0 k)
def f91_11 (p0 : TI) : Nat → Int → (Int) → TI → Option R91
  | 0 => fun _ _ _ => none
  | k + 1 => b91_11 p0 (f91_3 p0 k) (f91_8 p0 k) (f91_11 p0 k)
end
def f91 (k : Nat) (p0 : TI) : Option R91 := b91 p0 (f91_3 p0 k) (f91_8 p0 k) (f91_11 p0 k)
theorem e91 (p0 : TI) : ∀ k, ((fun v0 v1 => cutG TP X q91 [3, 8, 11] D91 (h91 p0).length body91 (finH TP Tryd.f91.results.toList (h91 p0).length true k91) k 3 (m91_3 p0 v0 v1)) = f91_3 p0 k) ∧ ((fun v0 => cutG TP X q91 [3, 8, 11] D91 (h91 p0).length body91 (finH TP Tryd.f91.results.toList (h91 p0).length true k91) k 8 (m91_8 p0 v0)) = f91_8 p0 k) ∧ ((fun v0 v1 v2 => cutG TP X q91 [3, 8, 11] D91 (h91 p0).length body91 (finH TP Tryd.f91.results.toList (h91 p0).length true k91) k 11 (m91_11 p0 v0 v1 v2)) = f91_11 p0 k)
  | 0 => ⟨rfl, rfl, rfl⟩
  | k + 1 => by
    have ih := e91 p0 k
    refine ⟨?_, ?_, ?_⟩
    · funext v0 v1
      refine (if_pos (by kernel_rfl)).trans ?_
      rw [s91_3]
      simp only [ih]
      rfl
    · funext v0
      refine (if_pos (by kernel_rfl)).trans ?_
      rw [s91_8]
      simp only [ih]
      rfl
    · funext v0 v1 v2
      refine (if_pos (by kernel_rfl)).trans ?_
      rw [s91_11]
      simp only [ih]
      rfl
theorem pure91 (p0 : TI) (pok : PrmOK TP X q91) (k : Nat) (r : R91) (h : f91 k p0 = some r) : PureH TP X 91 [.row 0 99] (h91 p0) (out91 r) (outh91 r) :=
  pure_gen good k (fn := Tryd.f91) (body := body91) (prim := q91) (D := D91) (cuts := [3, 8, 11]) (h := h91 p0) (own := true) (by kernel_rfl) (by kernel_rfl) (by decide +kernel) pok hk91 (by
    rw [s91]
    have ih := e91 p0 k
    simp only [ih]
    exact h)
def F91 {R : Type} (spec : TI → Option R91) : Fn U R := fun args h k => match args, h with | [.row 0 99], [.row 99 p0] => (spec p0).bind fun r => k (out91 r) (outh91 r) | _, _ => none
theorem ok91 {R : Type} (spec : TI → Option R91) (hp : ∀ (p0 : TI) (r : R91), spec p0 = some r → PureH TP X 91 [.row 0 99] (h91 p0) (out91 r) (outh91 r)) : FnOK TP X 91 (F91 spec : Fn U R) := by
  intro args h k r hh
  unfold F91 at hh
  split at hh
  · obtain ⟨x, h1, h2⟩ := Option.bind_eq_some_iff.1 hh
    exact ⟨_, _, h2, hp _ _ h1⟩
  · cases hh
theorem pok91 : PrmOK TP X q91 := prims_cons good okS92h (prims_nil TP X mixed)
noncomputable def S91 (p0 : TI) : Option R91 := evv fun k => f91 k p0
theorem okS91 {R : Type} : FnOK TP X 91 (F91 S91 : Fn U R) := ok91 S91 fun p0 r h => by
  obtain ⟨k, hk⟩ := evv_fuel h
  exact pure91 p0 pok91 k r hk
end
end Go.Abs.Z
namespace Go.Abs.Z
open Go Go.Abs Go.Proofs
noncomputable section
abbrev R74 : Type := Int × TI
noncomputable def body74 : Go.Code := (Tryd.f74.body).getD Go.Code.skip
def h74 (p0 : TI) : List (AO U) := [.row 99 p0]
def k74 : AV U → List (AO U) → Option R74 := fun v h => match v, h with | AV.tup [AV.row 1 99, AV.int IntKind.i64 x0], [AO.dead, AO.row 99 x1] => some (x0, x1) | _, _ => none
def out74 : R74 → AV U := fun (x0, x1) => AV.tup [AV.row 1 99, AV.int IntKind.i64 x0]
def outh74 : R74 → List (AO U) := fun (x0, x1) => [AO.dead, AO.row 99 x1]
def D74 : Nat → Dir := dirs [(2, ⟨[0, 4], [], [], [(0, none)]⟩)]
def b74 (p0 : TI) (c2 : (Int) → TI → Option R74)  : Option R74 :=
  c2 (0) (List.take p0.length p0)
def m74_2 (p0 : TI) (v0 : Int) (v1 : TI) : S U := S.mk [AV.row 1 99, AV.undef, AV.undef, AV.undef, AV.int IntKind.i64 v0, AV.undef, AV.undef, AV.undef, AV.undef, AV.undef, AV.undef, AV.undef, AV.undef, AV.undef, AV.undef, AV.undef, AV.undef, AV.undef, AV.undef, AV.undef, AV.undef] [AO.dead, AO.row 99 v1]
def b74_2 (p0 : TI) (c2 : (Int) → TI → Option R74) (v0 : Int) (v1 : TI) : Option R74 :=
  (S91 v1).bind fun r0 =>
  cond (r0.snd.fst)
  (some ((IntKind.i64.wrap (v0 + r0.fst), r0.snd.snd)))
  (c2 (IntKind.i64.wrap (v0 + r0.fst)) (List.take r0.snd.snd.length r0.snd.snd))
theorem hk74 : ∀ v h' r, k74 v h' = some r → v = out74 r ∧ h' = outh74 r := by
  intro v h' r h
  unfold k74 at h
  split at h
  · injection h with h; subst h; exact ⟨rfl, rfl⟩
  · cases h
abbrev q74 : Prim U R74 := prims X [⟨91, fun _ => true, [.hand], F91 S91⟩]
theorem s74 (c : Nat → S U → Option R74) (p0 : TI) : seg TP X q74 [2] (fun q st => c q (keepD D74 (h74 p0).length q st)) body74 (finH TP Tryd.f74.results.toList (h74 p0).length true k74) (start [.row 0 99] Tryd.f74.ntmps (h74 p0)) = b74 p0 (fun v0 v1 => c 2 (m74_2 p0 v0 v1)) := by kernel_rfl
theorem s74_2 (c : Nat → S U → Option R74) (p0 : TI) (v0 : Int) (v1 : TI) : res TP X q74 [2] (fun q st => c q (keepD D74 (h74 p0).length q st)) 2 body74 (finH TP Tryd.f74.results.toList (h74 p0).length true k74) (m74_2 p0 v0 v1) = b74_2 p0 (fun v0 v1 => c 2 (m74_2 p0 v0 v1)) v0 v1 := by kernel_rfl
def f74_2 (p0 : TI) : Nat → Int → TI → Option R74
  | 0 => fun _ _ => none
  | k + 1 => b74_2 p0 (f74_2 p0 k)
def f74 (k : Nat) (p0 : TI) : Option R74 := b74 p0 (f74_2 p0 k)
theorem e74 (p0 : TI) : ∀ k, ((fun v0 v1 => cutG TP X q74 [2] D74 (h74 p0).length body74 (finH TP Tryd.f74.results.toList (h74 p0).length true k74) k 2 (m74_2 p0 v0 v1)) = f74_2 p0 k)
  | 0 => rfl
  | k + 1 => by
    have ih := e74 p0 k
    · funext v0 v1
      refine (if_pos (by kernel_rfl)).trans ?_
      rw [s74_2]
      simp only [ih]
      rfl
theorem pure74 (p0 : TI) (pok : PrmOK TP X q74) (k : Nat) (r : R74) (h : f74 k p0 = some r) : PureH TP X 74 [.row 0 99] (h74 p0) (out74 r) (outh74 r) :=
  pure_gen good k (fn := Tryd.f74) (body := body74) (prim := q74) (D := D74) (cuts := [2]) (h := h74 p0) (own := true) (by kernel_rfl) (by kernel_rfl) (by decide +kernel) pok hk74 (by
    rw [s74]
    have ih := e74 p0 k
    simp only [ih]
    exact h)
def F74 {R : Type} (spec : TI → Option R74) : Fn U R := fun args h k => match args, h with | [.row 0 99], [.row 99 p0] => (spec p0).bind fun r => k (out74 r) (outh74 r) | _, _ => none
theorem ok74 {R : Type} (spec : TI → Option R74) (hp : ∀ (p0 : TI) (r : R74), spec p0 = some r → PureH TP X 74 [.row 0 99] (h74 p0) (out74 r) (outh74 r)) : FnOK TP X 74 (F74 spec : Fn U R) := by
  intro args h k r hh
  unfold F74 at hh
  split at hh
  · obtain ⟨x, h1, h2⟩ := Option.bind_eq_some_iff.1 hh
    exact ⟨_, _, h2, hp _ _ h1⟩
  · cases hh
theorem pok74 : PrmOK TP X q74 := prims_cons good okS91 (prims_nil TP X mixed)
noncomputable def S74 (p0 : TI) : Option R74 := evv fun k => f74 k p0
theorem okS74 {R : Type} : FnOK TP X 74 (F74 S74 : Fn U R) := ok74 S74 fun p0 r h => by
  obtain ⟨k, hk⟩ := evv_fuel h
  exact pure74 p0 pok74 k r hk
end
end Go.Abs.Z
namespace Go.Abs.Z
open Go Go.Abs Go.Proofs
noncomputable section
abbrev R75 : Type := TI
noncomputable def body75 : Go.Code := (Tryd.f75.body).getD Go.Code.skip
def h75 (p0 : TI) (p1 : Int) : List (AO U) := []
def k75 : AV U → List (AO U) → Option R75 := fun v h => match v, h with | AV.row 0 99, [AO.row 99 x0] => some x0 | _, _ => none
def out75 : R75 → AV U := fun x0 => AV.row 0 99
def outh75 : R75 → List (AO U) := fun x0 => [AO.row 99 x0]
def D75 : Nat → Dir := dirs [(7, ⟨[0, 5, 6, 7, 8], [], [], []⟩)]
def b75 (p0 : TI) (p1 : Int) (c7 : (Int) → Int → TI → Option R75)  : Option R75 :=
  cond ((↑p0.length : Int) == 0)
  (some ([]))
  (cond (decide (0 ≤ IntKind.i64.wrap (p1.tdiv 32)))
  (cond (decide (IntKind.i64.wrap (p1.tdiv 32) ≤ IntKind.i64.wrap (p1.tdiv 32)))
  (cond (decide (IntKind.i64.wrap (p1.tdiv 32) * (↑4 : Int) ≤ 140737488355328))
  (c7 (0) (0) (repI (IntKind.i64.wrap (p1.tdiv 32)).toNat 0))
  (none))
  (none))
  (none))
def m75_7 (p0 : TI) (p1 v2 v3 : Int) (v4 : TI) : S U := S.mk [AV.imm 99 p0, AV.undef, AV.undef, AV.undef, AV.undef, AV.row 0 99, AV.int IntKind.u64 (IntKind.u64.wrap (p1.tmod 32)), AV.int IntKind.u64 v2, AV.int IntKind.i64 v3, AV.undef, AV.undef, AV.undef, AV.undef, AV.undef, AV.undef, AV.undef, AV.undef, AV.undef, AV.undef, AV.undef, AV.undef, AV.undef, AV.undef, AV.undef, AV.undef, AV.undef, AV.undef, AV.undef, AV.undef, AV.undef, AV.undef, AV.undef, AV.undef, AV.undef, AV.undef, AV.undef, AV.undef, AV.undef, AV.undef, AV.undef, AV.undef, AV.undef, AV.undef, AV.undef, AV.undef, AV.undef, AV.undef] [AO.row 99 v4]
def b75_7 (p0 : TI) (p1 : Int) (c7 : (Int) → Int → TI → Option R75) (v2 v3 : Int) (v4 : TI) : Option R75 :=
  cond (decide (v3 < (↑p0.length : Int)))
  (cond (decide (0 ≤ v3))
  (cond (decide (v3 < (↑p0.length : Int)))
  (cond (decide (v3.toNat < p0.length))
  (cond (decide (0 ≤ IntKind.u64.wrap (p1.tmod 32)))
  (cond (decide ((v4.length + 1) * 4 ≤ 140737488355328))
  (c7 (shr IntKind.u64 (Go.bits Go.BinOp.or IntKind.u64 v2 (shl IntKind.u64 (IntKind.u64.wrap (p0.getD v3.toNat (X.dflt 99))) (IntKind.u64.wrap (p1.tmod 32)))) 32) (IntKind.i64.wrap (v3 + 1)) (v4 ++ [IntKind.u32.wrap (Go.bits Go.BinOp.or IntKind.u64 v2 (shl IntKind.u64 (IntKind.u64.wrap (p0.getD v3.toNat (X.dflt 99))) (IntKind.u64.wrap (p1.tmod 32))))]))
  (none))
  (none))
  (none))
  (none))
  (none))
  (cond (decide ((v4.length + 1) * 4 ≤ 140737488355328))
  ((S92h (v4 ++ [IntKind.u32.wrap v2])).bind fun r0 =>
  some (r0))
  (none))
theorem hk75 : ∀ v h' r, k75 v h' = some r → v = out75 r ∧ h' = outh75 r := by
  intro v h' r h
  unfold k75 at h
  split at h
  · injection h with h; subst h; exact ⟨rfl, rfl⟩
  · cases h
abbrev q75 : Prim U R75 := prims X [⟨92, fun _ => true, [.hand], F92h S92h⟩]
theorem s75 (c : Nat → S U → Option R75) (p0 : TI) (p1 : Int) : seg TP X q75 [7] (fun q st => c q (keepD D75 (h75 p0 p1).length q st)) body75 (finH TP Tryd.f75.results.toList (h75 p0 p1).length true k75) (start [.imm 99 p0, .int .i64 p1] Tryd.f75.ntmps (h75 p0 p1)) = b75 p0 p1 (fun v2 v3 v4 => c 7 (m75_7 p0 p1 v2 v3 v4)) := by kernel_rfl
theorem s75_7 (c : Nat → S U → Option R75) (p0 : TI) (p1 v2 v3 : Int) (v4 : TI) : res TP X q75 [7] (fun q st => c q (keepD D75 (h75 p0 p1).length q st)) 7 body75 (finH TP Tryd.f75.results.toList (h75 p0 p1).length true k75) (m75_7 p0 p1 v2 v3 v4) = b75_7 p0 p1 (fun v2 v3 v4 => c 7 (m75_7 p0 p1 v2 v3 v4)) v2 v3 v4 := by kernel_rfl
def f75_7 (p0 : TI) (p1 : Int) : Nat → Int → (Int) → TI → Option R75
  | 0 => fun _ _ _ => none
  | k + 1 => b75_7 p0 p1 (f75_7 p0 p1 k)
def f75 (k : Nat) (p0 : TI) (p1 : Int) : Option R75 := b75 p0 p1 (f75_7 p0 p1 k)
theorem e75 (p0 : TI) (p1 : Int) : ∀ k, ((fun v2 v3 v4 => cutG TP X q75 [7] D75 (h75 p0 p1).length body75 (finH TP Tryd.f75.results.toList (h75 p0 p1).length true k75) k 7 (m75_7 p0 p1 v2 v3 v4)) = f75_7 p0 p1 k)
  | 0 => rfl
  | k + 1 => by
    have ih := e75 p0 p1 k
    · funext v2 v3 v4
      refine (if_pos (by kernel_rfl)).trans ?_
      rw [s75_7]
      simp only [ih]
      rfl
theorem pure75 (p0 : TI) (p1 : Int) (pok : PrmOK TP X q75) (k : Nat) (r : R75) (h : f75 k p0 p1 = some r) : PureH TP X 75 [.imm 99 p0, .int .i64 p1] (h75 p0 p1) (out75 r) (outh75 r) :=
  pure_gen good k (fn := Tryd.f75) (body := body75) (prim := q75) (D := D75) (cuts := [7]) (h := h75 p0 p1) (own := true) (by kernel_rfl) (by kernel_rfl) (by decide +kernel) pok hk75 (by
    rw [s75]
    have ih := e75 p0 p1 k
    simp only [ih]
    exact h)
def F75 {R : Type} (spec : TI → Int → Option R75) : Fn U R := fun args h k => match args, h with | [.imm 99 p0, .int .i64 p1], [] => (spec p0 p1).bind fun r => k (out75 r) (outh75 r) | _, _ => none
theorem ok75 {R : Type} (spec : TI → Int → Option R75) (hp : ∀ (p0 : TI) (p1 : Int) (r : R75), spec p0 p1 = some r → PureH TP X 75 [.imm 99 p0, .int .i64 p1] (h75 p0 p1) (out75 r) (outh75 r)) : FnOK TP X 75 (F75 spec : Fn U R) := by
  intro args h k r hh
  unfold F75 at hh
  split at hh
  · obtain ⟨x, h1, h2⟩ := Option.bind_eq_some_iff.1 hh
    exact ⟨_, _, h2, hp _ _ _ h1⟩
  · cases hh
theorem pok75 : PrmOK TP X q75 := prims_cons good okS92h (prims_nil TP X mixed)
noncomputable def S75 (p0 : TI) (p1 : Int) : Option R75 := evv fun k => f75 k p0 p1
theorem okS75 {R : Type} : FnOK TP X 75 (F75 S75 : Fn U R) := ok75 S75 fun p0 p1 r h => by
  obtain ⟨k, hk⟩ := evv_fuel h
  exact pure75 p0 p1 pok75 k r hk
end
end Go.Abs.Z
namespace Go.Abs.Z
open Go Go.Abs Go.Proofs
noncomputable section
abbrev R76 : Type := TI
noncomputable def body76 : Go.Code := (Tryd.f76.body).getD Go.Code.skip
def h76 (p0 : Int) : List (AO U) := []
def k76 : AV U → List (AO U) → Option R76 := fun v h => match v, h with | AV.imm 99 x0, [] => some x0 | _, _ => none
def out76 : R76 → AV U := fun x0 => AV.imm 99 x0
def outh76 : R76 → List (AO U) := fun x0 => []
def D76 : Nat → Dir := dirs []
def b76 (p0 : Int)   : Option R76 :=
  (S92 [IntKind.u32.wrap p0, IntKind.u32.wrap (shr IntKind.u64 p0 32)]).bind fun r0 =>
  some (r0)
theorem hk76 : ∀ v h' r, k76 v h' = some r → v = out76 r ∧ h' = outh76 r := by
  intro v h' r h
  unfold k76 at h
  split at h
  · injection h with h; subst h; exact ⟨rfl, rfl⟩
  · cases h
abbrev q76 : Prim U R76 := prims X [⟨92, fun _ => true, [.frz], F92 S92⟩]
theorem s76 (c : Nat → S U → Option R76) (p0 : Int) : seg TP X q76 [] (fun q st => c q (keepD D76 (h76 p0).length q st)) body76 (finH TP Tryd.f76.results.toList (h76 p0).length false k76) (start [.int .u64 p0] Tryd.f76.ntmps (h76 p0)) = b76 p0  := by kernel_rfl
def f76 (_ : Nat) (p0 : Int) : Option R76 := b76 p0
theorem pure76 (p0 : Int) (pok : PrmOK TP X q76) (k : Nat) (r : R76) (h : f76 k p0 = some r) : PureH TP X 76 [.int .u64 p0] (h76 p0) (out76 r) (outh76 r) :=
  pure_gen good 0 (fn := Tryd.f76) (body := body76) (prim := q76) (D := D76) (cuts := []) (h := h76 p0) (own := false) (by kernel_rfl) (by kernel_rfl) (by decide +kernel) pok hk76 (by
    rw [s76]
    exact h)
def F76 {R : Type} (spec : (Int) → Option R76) : Fn U R := fun args h k => match args, h with | [.int .u64 p0], [] => (spec p0).bind fun r => k (out76 r) (outh76 r) | _, _ => none
theorem ok76 {R : Type} (spec : (Int) → Option R76) (hp : ∀ (p0 : Int) (r : R76), spec p0 = some r → PureH TP X 76 [.int .u64 p0] (h76 p0) (out76 r) (outh76 r)) : FnOK TP X 76 (F76 spec : Fn U R) := by
  intro args h k r hh
  unfold F76 at hh
  split at hh
  · obtain ⟨x, h1, h2⟩ := Option.bind_eq_some_iff.1 hh
    exact ⟨_, _, h2, hp _ _ h1⟩
  · cases hh
theorem pok76 : PrmOK TP X q76 := prims_cons good okS92 (prims_nil TP X mixed)
noncomputable def S76 (p0 : Int) : Option R76 := evv fun k => f76 k p0
theorem okS76 {R : Type} : FnOK TP X 76 (F76 S76 : Fn U R) := ok76 S76 fun p0 r h => by
  obtain ⟨k, hk⟩ := evv_fuel h
  exact pure76 p0 pok76 k r hk
end
end Go.Abs.Z
