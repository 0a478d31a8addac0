/- The functions that RecWays reaches, as pure functions, and what RecWays answers. -/
import Derived.Test.YtfaaiihgfdamnaaAbsB
import Derived.Test.YtfaaiihgfdamnaaProg
set_option linter.unusedVariables false
namespace Go.Abs.R1
open Go Go.Abs Go.Proofs

def U : Nat → Type
  | 25 => Bool × Bool × Bool
  | _ => Unit
def enc : ∀ e, U e → AV U
  | 25 => fun y => .agg [.bool y.1, .bool y.2.1, .bool y.2.2]
  | _ => fun _ => .bool false
def dec : ∀ e, AV U → Option (U e)
  | 25 => fun v => match v with | .agg [.bool a, .bool b, .bool c] => some (a, b, c) | _ => none
  | _ => fun _ => none
def dflt : ∀ e, U e
  | 25 => (false, false, false)
  | 0 => () | 1 => () | 2 => ()
  | e => by unfold U; split <;> exact default
def z : Nat → Nat
  | 25 => 3
  | _ => 1
def X : Univ U := ⟨enc, dec, dflt, z⟩

theorem law1 (e : Nat) (v : AV U) (y : U e) (h : dec e v = some y) : enc e y = v := by
  unfold dec at h
  split at h
  · dsimp only at h
    split at h
    · injection h with h; subst h; rfl
    · cases h
  · cases h
theorem law2 (e : Nat) (y : U e) : (cellsOf (enc e y)).length = z e := by
  unfold enc z
  split <;> rfl
theorem law3 (e : Nat) (y : U e) : (cellsOf (enc e y)).all okCell = true := by
  unfold enc
  split <;> rfl
theorem law4 (e : Nat) (y : U e) : (cellsOf (enc e y)).all (free 8) = true := by
  unfold enc
  split <;> rfl
theorem law5 (e : Nat) : 0 < z e := by
  unfold z
  split <;> decide
theorem good : Good X := ⟨⟨law1, law2⟩, law3, law4, law5⟩
end Go.Abs.R1

namespace Go.Abs.R1
open Go Go.Abs Go.Proofs
/-! f7: slope/slopelaw6.num -/
abbrev R7 : Type := Int
noncomputable def body7 : Go.Code := (Go.Proofs.Try.f7.body).getD Go.Code.skip
def k7 : AV U → Option R7 := fun v => match v with | .int .i64 x0 => some x0 | _ => none
def out7 : R7 → AV U := fun x0 => .int .i64 x0
def D7 : Nat → Dir := dirs []
def b7 (p0 : Int)   : Option R7 :=
  some (p0)
theorem hk7 : ∀ v r, k7 v = some r → v = out7 r := by
  intro v r h
  unfold k7 at h
  split at h
  · injection h with h; subst h; rfl
  · cases h
theorem s7 (c : Nat → S U → Option R7) (p0 : Int) : seg Go.Proofs.Try.prog X (prims [] : Prm U R7) [] (fun q st => c q (keepD D7 q st)) body7 (finP Go.Proofs.Try.prog Go.Proofs.Try.f7.results.toList k7) (start [.int .i64 p0] Go.Proofs.Try.f7.ntmps []) = b7 p0  := by kernel_rfl
theorem pure7 (p0 : Int) (pok : PrmOK Go.Proofs.Try.prog X (prims [] : Prm U R7)) (r : R7) (h : b7 p0 = some r) : Pure Go.Proofs.Try.prog X 7 [.int .i64 p0] (out7 r) :=
  pure_gen good 0 (fn := Go.Proofs.Try.f7) (body := body7) (prim := (prims [] : Prm U R7)) (D := D7) (cuts := []) (by kernel_rfl) (by kernel_rfl) (by decide +kernel) pok hk7 (by
    rw [s7]
    exact h)
def F7 {R : Type} (spec : (Int) → Option R7) : Fn U R := fun args k => match args with | [.int .i64 p0] => (spec p0).bind fun r => k (out7 r) | _ => none
theorem ok7 {R : Type} (spec : (Int) → Option R7) (hp : ∀ (p0 : Int) (r : R7), spec p0 = some r → Pure Go.Proofs.Try.prog X 7 [.int .i64 p0] (out7 r)) : FnOK Go.Proofs.Try.prog X 7 (F7 spec : Fn U R) := by
  intro args k r h
  unfold F7 at h
  split at h
  · obtain ⟨x, h1, h2⟩ := Option.bind_eq_some_iff.1 h
    exact ⟨_, h2, hp _ _ h1⟩
  · cases h

/-! f6: slope/record.WayOf -/
abbrev R6 : Type := (Bool) × (Bool) × (Bool) × Int
noncomputable def body6 : Go.Code := (Go.Proofs.Try.f6.body).getD Go.Code.skip
def k6 : AV U → Option R6 := fun v => match v with | .tup [.agg [.bool x0, .bool x1, .bool x2], .int .i64 x3] => some (x0, x1, x2, x3) | _ => none
def out6 : R6 → AV U := fun (x0, x1, x2, x3) => .tup [.agg [.bool x0, .bool x1, .bool x2], .int .i64 x3]
def D6 : Nat → Dir := dirs []
def b6 (p0 : Int)   : Option R6 :=
  cond (Decidable.decide (p0 < 0))
  (some ((Bool.false, Bool.false, Bool.false, 120)))
  (cond (Decidable.decide (p0 > 7))
  (some ((Bool.false, Bool.false, Bool.false, 120)))
  (some ((Go.bits Go.BinOp.and Go.IntKind.i64 p0 1 != 0, Go.bits Go.BinOp.and Go.IntKind.i64 p0 2 != 0, Go.bits Go.BinOp.and Go.IntKind.i64 p0 4 != 0, 0))))
theorem hk6 : ∀ v r, k6 v = some r → v = out6 r := by
  intro v r h
  unfold k6 at h
  split at h
  · injection h with h; subst h; rfl
  · cases h
theorem s6 (c : Nat → S U → Option R6) (p0 : Int) : seg Go.Proofs.Try.prog X (prims [] : Prm U R6) [] (fun q st => c q (keepD D6 q st)) body6 (finP Go.Proofs.Try.prog Go.Proofs.Try.f6.results.toList k6) (start [.int .i64 p0] Go.Proofs.Try.f6.ntmps []) = b6 p0  := by kernel_rfl
theorem pure6 (p0 : Int) (pok : PrmOK Go.Proofs.Try.prog X (prims [] : Prm U R6)) (r : R6) (h : b6 p0 = some r) : Pure Go.Proofs.Try.prog X 6 [.int .i64 p0] (out6 r) :=
  pure_gen good 0 (fn := Go.Proofs.Try.f6) (body := body6) (prim := (prims [] : Prm U R6)) (D := D6) (cuts := []) (by kernel_rfl) (by kernel_rfl) (by decide +kernel) pok hk6 (by
    rw [s6]
    exact h)
def F6 {R : Type} (spec : (Int) → Option R6) : Fn U R := fun args k => match args with | [.int .i64 p0] => (spec p0).bind fun r => k (out6 r) | _ => none
theorem ok6 {R : Type} (spec : (Int) → Option R6) (hp : ∀ (p0 : Int) (r : R6), spec p0 = some r → Pure Go.Proofs.Try.prog X 6 [.int .i64 p0] (out6 r)) : FnOK Go.Proofs.Try.prog X 6 (F6 spec : Fn U R) := by
  intro args k r h
  unfold F6 at h
  split at h
  · obtain ⟨x, h1, h2⟩ := Option.bind_eq_some_iff.1 h
    exact ⟨_, h2, hp _ _ h1⟩
  · cases h

/-! f5: slope/sloperef6.WayOf -/
abbrev R5 : Type := (Bool) × (Bool) × (Bool) × Int
noncomputable def body5 : Go.Code := (Go.Proofs.Try.f5.body).getD Go.Code.skip
def k5 : AV U → Option R5 := fun v => match v with | .tup [.agg [.bool x0, .bool x1, .bool x2], .int .i64 x3] => some (x0, x1, x2, x3) | _ => none
def out5 : R5 → AV U := fun (x0, x1, x2, x3) => .tup [.agg [.bool x0, .bool x1, .bool x2], .int .i64 x3]
def D5 : Nat → Dir := dirs []
def b5 (p0 : Int)   : Option R5 :=
  cond (Decidable.decide (p0 < 0))
  (some ((Bool.false, Bool.false, Bool.false, 120)))
  (cond (Decidable.decide (p0 > 7))
  (some ((Bool.false, Bool.false, Bool.false, 120)))
  (some ((p0.tmod 2 == 1, (Go.IntKind.i64.wrap (p0.tdiv 2)).tmod 2 == 1, Go.IntKind.i64.wrap (p0.tdiv 4) == 1, 0))))
theorem hk5 : ∀ v r, k5 v = some r → v = out5 r := by
  intro v r h
  unfold k5 at h
  split at h
  · injection h with h; subst h; rfl
  · cases h
theorem s5 (c : Nat → S U → Option R5) (p0 : Int) : seg Go.Proofs.Try.prog X (prims [] : Prm U R5) [] (fun q st => c q (keepD D5 q st)) body5 (finP Go.Proofs.Try.prog Go.Proofs.Try.f5.results.toList k5) (start [.int .i64 p0] Go.Proofs.Try.f5.ntmps []) = b5 p0  := by kernel_rfl
theorem pure5 (p0 : Int) (pok : PrmOK Go.Proofs.Try.prog X (prims [] : Prm U R5)) (r : R5) (h : b5 p0 = some r) : Pure Go.Proofs.Try.prog X 5 [.int .i64 p0] (out5 r) :=
  pure_gen good 0 (fn := Go.Proofs.Try.f5) (body := body5) (prim := (prims [] : Prm U R5)) (D := D5) (cuts := []) (by kernel_rfl) (by kernel_rfl) (by decide +kernel) pok hk5 (by
    rw [s5]
    exact h)
def F5 {R : Type} (spec : (Int) → Option R5) : Fn U R := fun args k => match args with | [.int .i64 p0] => (spec p0).bind fun r => k (out5 r) | _ => none
theorem ok5 {R : Type} (spec : (Int) → Option R5) (hp : ∀ (p0 : Int) (r : R5), spec p0 = some r → Pure Go.Proofs.Try.prog X 5 [.int .i64 p0] (out5 r)) : FnOK Go.Proofs.Try.prog X 5 (F5 spec : Fn U R) := by
  intro args k r h
  unfold F5 at h
  split at h
  · obtain ⟨x, h1, h2⟩ := Option.bind_eq_some_iff.1 h
    exact ⟨_, h2, hp _ _ h1⟩
  · cases h

end Go.Abs.R1

namespace Go.Abs.R1
open Go Go.Abs Go.Proofs
/-! f4: slope/record.Ways -/
abbrev R4 : Type := List ((Bool) × (Bool) × Bool)
noncomputable def body4 : Go.Code := (Go.Proofs.Try.f4.body).getD Go.Code.skip
def k4 : AV U → Option R4 := fun v => match v with | .imm 25 x0 => some x0 | _ => none
def out4 : R4 → AV U := fun x0 => .imm 25 x0
def D4 : Nat → Dir := dirs [(3, ⟨[1, 5], [(1, none)], []⟩)]
def b4  (c3 : (Int) → (List ((Bool) × (Bool) × Bool)) → Option R4)  : Option R4 :=
  c3 (0) ([])
def m4_3  (v0 : Int) (v1 : List ((Bool) × (Bool) × Bool)) : S U := { s := [Go.Abs.AV.undef, Go.Abs.AV.row 0 25, Go.Abs.AV.undef, Go.Abs.AV.undef, Go.Abs.AV.undef, Go.Abs.AV.int Go.IntKind.i64 v0, Go.Abs.AV.undef, Go.Abs.AV.undef, Go.Abs.AV.undef, Go.Abs.AV.undef, Go.Abs.AV.undef, Go.Abs.AV.undef, Go.Abs.AV.undef, Go.Abs.AV.undef, Go.Abs.AV.undef, Go.Abs.AV.undef, Go.Abs.AV.undef, Go.Abs.AV.undef, Go.Abs.AV.undef], h := [Go.Abs.AO.row 25 v1] }
def b4_3  (c3 : (Int) → (List ((Bool) × (Bool) × Bool)) → Option R4) (v0 : Int) (v1 : List ((Bool) × (Bool) × Bool)) : Option R4 :=
  cond (Decidable.decide (v0 < 8))
  ((Go.Abs.R1.b6 v0).bind fun r0 =>
  cond (Decidable.decide ((v1.length + [(r0.fst, r0.snd.fst, r0.snd.snd.fst)].length) * 3 ≤ 140737488355328))
  (c3 (Go.IntKind.i64.wrap (v0 + 1)) (v1 ++ [(r0.fst, r0.snd.fst, r0.snd.snd.fst)]))
  (none))
  (some (v1))
theorem hk4 : ∀ v r, k4 v = some r → v = out4 r := by
  intro v r h
  unfold k4 at h
  split at h
  · injection h with h; subst h; rfl
  · cases h
theorem s4 (c : Nat → S U → Option R4)  : seg Go.Proofs.Try.prog X (prims [(6, false, F6 b6)] : Prm U R4) [3] (fun q st => c q (keepD D4 q st)) body4 (finP Go.Proofs.Try.prog Go.Proofs.Try.f4.results.toList k4) (start [] Go.Proofs.Try.f4.ntmps []) = b4  (fun v0 v1 => c 3 (m4_3  v0 v1)) := by kernel_rfl
theorem s4_3 (c : Nat → S U → Option R4)  (v0 : Int) (v1 : List ((Bool) × (Bool) × Bool)) : res Go.Proofs.Try.prog X (prims [(6, false, F6 b6)] : Prm U R4) [3] (fun q st => c q (keepD D4 q st)) 3 body4 (finP Go.Proofs.Try.prog Go.Proofs.Try.f4.results.toList k4) (m4_3  v0 v1) = b4_3  (fun v0 v1 => c 3 (m4_3  v0 v1)) v0 v1 := by kernel_rfl
def f4_3  : Nat → (Int) → (List ((Bool) × (Bool) × Bool)) → Option R4
  | 0 => fun _ _ => none
  | k + 1 => b4_3  (f4_3  k)
def f4 (k : Nat)  : Option R4 := b4  (f4_3  k)
theorem e4  : ∀ k, ((fun v0 v1 => cutG Go.Proofs.Try.prog X (prims [(6, false, F6 b6)] : Prm U R4) [3] D4 body4 (finP Go.Proofs.Try.prog Go.Proofs.Try.f4.results.toList k4) k 3 (m4_3  v0 v1)) = f4_3  k)
  | 0 => rfl
  | k + 1 => by
    have ih := e4  k
    · funext v0 v1
      refine (if_pos (by kernel_rfl)).trans ?_
      rw [s4_3]
      simp only [ih]
      rfl
theorem pure4  (pok : PrmOK Go.Proofs.Try.prog X (prims [(6, false, F6 b6)] : Prm U R4)) (k : Nat) (r : R4) (h : f4 k  = some r) : Pure Go.Proofs.Try.prog X 4 [] (out4 r) :=
  pure_gen good k (fn := Go.Proofs.Try.f4) (body := body4) (prim := (prims [(6, false, F6 b6)] : Prm U R4)) (D := D4) (cuts := [3]) (by kernel_rfl) (by kernel_rfl) (by decide +kernel) pok hk4 (by
    rw [s4]
    have ih := e4  k
    simp only [ih]
    exact h)
def F4 {R : Type} (spec : Option R4) : Fn U R := fun args k => match args with | [] => (spec ).bind fun r => k (out4 r) | _ => none
theorem ok4 {R : Type} (spec : Option R4) (hp : ∀  (r : R4), spec  = some r → Pure Go.Proofs.Try.prog X 4 [] (out4 r)) : FnOK Go.Proofs.Try.prog X 4 (F4 spec : Fn U R) := by
  intro args k r h
  unfold F4 at h
  split at h
  · obtain ⟨x, h1, h2⟩ := Option.bind_eq_some_iff.1 h
    exact ⟨_, h2, hp  _ h1⟩
  · cases h

end Go.Abs.R1

namespace Go.Abs.R1
open Go Go.Abs Go.Proofs
/-- the eight ways -/
def ways : List (Bool × Bool × Bool) := [(false, false, false), (true, false, false), (false, true, false), (true, true, false), (false, false, true), (true, false, true), (false, true, true), (true, true, true)]
def spec4 : Option R4 := some ways
theorem run4 : f4 9 = some ways := by kernel_rfl
theorem mixed : Try.prog.follows .mixedOrders = true := by kernel_rfl
theorem fn6 {R : Type} : FnOK Try.prog X 6 (F6 b6 : Fn U R) := ok6 b6 fun p r h => pure6 p (prims_nil _ _ mixed) r h
theorem fn5 {R : Type} : FnOK Try.prog X 5 (F5 b5 : Fn U R) := ok5 b5 fun p r h => pure5 p (prims_nil _ _ mixed) r h
theorem fn7 {R : Type} : FnOK Try.prog X 7 (F7 b7 : Fn U R) := ok7 b7 fun p r h => pure7 p (prims_nil _ _ mixed) r h
theorem fn4 {R : Type} : FnOK Try.prog X 4 (F4 spec4 : Fn U R) := ok4 spec4 fun r h => by
  injection h with h
  subst h
  exact pure4 (prims_cons good fn6 (prims_nil _ _ mixed)) 9 _ run4
end Go.Abs.R1

namespace Go.Abs.R1
open Go Go.Abs Go.Proofs
/-! f3: slope/slopelaw6.RecWays -/
abbrev R3 : Type := Bool
noncomputable def body3 : Go.Code := (Go.Proofs.Try.f3.body).getD Go.Code.skip
def k3 : AV U → Option R3 := fun v => match v with | .bool x0 => some x0 | _ => none
def out3 : R3 → AV U := fun x0 => .bool x0
def D3 : Nat → Dir := dirs [(5, ⟨[0, 3, 4], [], []⟩)]
def b3 (p0 : Int) (c5 : (Int) → Option R3)  : Option R3 :=
  c5 (0)
def m3_5 (p0 : Int) (v2 : Int) : S U := { s := [Go.Abs.AV.int Go.IntKind.i64 p0, Go.Abs.AV.undef, Go.Abs.AV.undef, Go.Abs.AV.imm 25 Go.Abs.R1.ways, Go.Abs.AV.int Go.IntKind.i64 v2, Go.Abs.AV.undef, Go.Abs.AV.undef, Go.Abs.AV.undef, Go.Abs.AV.undef, Go.Abs.AV.undef, Go.Abs.AV.undef, Go.Abs.AV.undef, Go.Abs.AV.undef, Go.Abs.AV.undef, Go.Abs.AV.undef, Go.Abs.AV.undef, Go.Abs.AV.undef, Go.Abs.AV.undef, Go.Abs.AV.undef, Go.Abs.AV.undef, Go.Abs.AV.undef, Go.Abs.AV.undef, Go.Abs.AV.undef, Go.Abs.AV.undef, Go.Abs.AV.undef, Go.Abs.AV.undef, Go.Abs.AV.undef, Go.Abs.AV.undef, Go.Abs.AV.undef, Go.Abs.AV.undef, Go.Abs.AV.undef, Go.Abs.AV.undef, Go.Abs.AV.undef, Go.Abs.AV.undef, Go.Abs.AV.undef, Go.Abs.AV.undef, Go.Abs.AV.undef, Go.Abs.AV.undef, Go.Abs.AV.undef, Go.Abs.AV.undef, Go.Abs.AV.undef, Go.Abs.AV.undef, Go.Abs.AV.undef, Go.Abs.AV.undef, Go.Abs.AV.undef, Go.Abs.AV.undef, Go.Abs.AV.undef, Go.Abs.AV.undef, Go.Abs.AV.undef, Go.Abs.AV.undef, Go.Abs.AV.undef, Go.Abs.AV.undef, Go.Abs.AV.undef], h := [] }
def b3_5 (p0 : Int) (c5 : (Int) → Option R3) (v2 : Int) : Option R3 :=
  cond (Decidable.decide (v2 < 8))
  ((Go.Abs.R1.b5 v2).bind fun r0 =>
  cond (Decidable.decide (0 ≤ v2))
  (cond (Decidable.decide (v2 < ↑Go.Abs.R1.ways.length))
  (cond (Decidable.decide (v2.toNat < Go.Abs.R1.ways.length))
  (cond (if Bool.true = Bool.true then !((Go.Abs.R1.ways.getD v2.toNat (Go.Abs.R1.X.dflt 25)).fst == r0.fst && ((Go.Abs.R1.ways.getD v2.toNat (Go.Abs.R1.X.dflt 25)).snd.fst == r0.snd.fst && ((Go.Abs.R1.ways.getD v2.toNat (Go.Abs.R1.X.dflt 25)).snd.snd == r0.snd.snd.fst && Bool.true))) else (Go.Abs.R1.ways.getD v2.toNat (Go.Abs.R1.X.dflt 25)).fst == r0.fst && ((Go.Abs.R1.ways.getD v2.toNat (Go.Abs.R1.X.dflt 25)).snd.fst == r0.snd.fst && ((Go.Abs.R1.ways.getD v2.toNat (Go.Abs.R1.X.dflt 25)).snd.snd == r0.snd.snd.fst && Bool.true)))
  (some (Bool.false))
  (cond (r0.snd.snd.snd != 0)
  (some (Bool.false))
  (c5 (Go.IntKind.i64.wrap (v2 + 1)))))
  (none))
  (none))
  (none))
  ((Go.Abs.R1.b6 p0).bind fun r1 =>
  (Go.Abs.R1.b5 p0).bind fun r2 =>
  cond (if Bool.false = Bool.true then !(r1.fst == r2.fst && (r1.snd.fst == r2.snd.fst && (r1.snd.snd.fst == r2.snd.snd.fst && Bool.true))) else r1.fst == r2.fst && (r1.snd.fst == r2.snd.fst && (r1.snd.snd.fst == r2.snd.snd.fst && Bool.true)))
  (some (r1.snd.snd.snd == r2.snd.snd.snd))
  (some (Bool.false)))
theorem hk3 : ∀ v r, k3 v = some r → v = out3 r := by
  intro v r h
  unfold k3 at h
  split at h
  · injection h with h; subst h; rfl
  · cases h
theorem s3 (c : Nat → S U → Option R3) (p0 : Int) : seg Go.Proofs.Try.prog X (prims [(4, true, F4 spec4), (5, false, F5 b5), (6, false, F6 b6), (7, false, F7 b7)] : Prm U R3) [5] (fun q st => c q (keepD D3 q st)) body3 (finP Go.Proofs.Try.prog Go.Proofs.Try.f3.results.toList k3) (start [.int .i64 p0] Go.Proofs.Try.f3.ntmps []) = b3 p0 (fun v2 => c 5 (m3_5 p0 v2)) := by kernel_rfl
theorem s3_5 (c : Nat → S U → Option R3) (p0 : Int) (v2 : Int) : res Go.Proofs.Try.prog X (prims [(4, true, F4 spec4), (5, false, F5 b5), (6, false, F6 b6), (7, false, F7 b7)] : Prm U R3) [5] (fun q st => c q (keepD D3 q st)) 5 body3 (finP Go.Proofs.Try.prog Go.Proofs.Try.f3.results.toList k3) (m3_5 p0 v2) = b3_5 p0 (fun v2 => c 5 (m3_5 p0 v2)) v2 := by kernel_rfl
def f3_5 (p0 : Int) : Nat → (Int) → Option R3
  | 0 => fun _ => none
  | k + 1 => b3_5 p0 (f3_5 p0 k)
def f3 (k : Nat) (p0 : Int) : Option R3 := b3 p0 (f3_5 p0 k)
theorem e3 (p0 : Int) : ∀ k, ((fun v2 => cutG Go.Proofs.Try.prog X (prims [(4, true, F4 spec4), (5, false, F5 b5), (6, false, F6 b6), (7, false, F7 b7)] : Prm U R3) [5] D3 body3 (finP Go.Proofs.Try.prog Go.Proofs.Try.f3.results.toList k3) k 5 (m3_5 p0 v2)) = f3_5 p0 k)
  | 0 => rfl
  | k + 1 => by
    have ih := e3 p0 k
    · funext v2
      refine (if_pos (by kernel_rfl)).trans ?_
      rw [s3_5]
      simp only [ih]
      rfl
theorem pure3 (p0 : Int) (pok : PrmOK Go.Proofs.Try.prog X (prims [(4, true, F4 spec4), (5, false, F5 b5), (6, false, F6 b6), (7, false, F7 b7)] : Prm U R3)) (k : Nat) (r : R3) (h : f3 k p0 = some r) : Pure Go.Proofs.Try.prog X 3 [.int .i64 p0] (out3 r) :=
  pure_gen good k (fn := Go.Proofs.Try.f3) (body := body3) (prim := (prims [(4, true, F4 spec4), (5, false, F5 b5), (6, false, F6 b6), (7, false, F7 b7)] : Prm U R3)) (D := D3) (cuts := [5]) (by kernel_rfl) (by kernel_rfl) (by decide +kernel) pok hk3 (by
    rw [s3]
    have ih := e3 p0 k
    simp only [ih]
    exact h)
def F3 {R : Type} (spec : (Int) → Option R3) : Fn U R := fun args k => match args with | [.int .i64 p0] => (spec p0).bind fun r => k (out3 r) | _ => none
theorem ok3 {R : Type} (spec : (Int) → Option R3) (hp : ∀ (p0 : Int) (r : R3), spec p0 = some r → Pure Go.Proofs.Try.prog X 3 [.int .i64 p0] (out3 r)) : FnOK Go.Proofs.Try.prog X 3 (F3 spec : Fn U R) := by
  intro args k r h
  unfold F3 at h
  split at h
  · obtain ⟨x, h1, h2⟩ := Option.bind_eq_some_iff.1 h
    exact ⟨_, h2, hp _ _ h1⟩
  · cases h

end Go.Abs.R1

namespace Go.Abs.R1
open Go Go.Abs Go.Proofs
theorem run3 (p0 : Int) : f3 9 p0 = some true := by
  have h : f3 9 p0 = b3_5 p0 (f3_5 p0 0) 8 := by kernel_rfl
  rw [h]
  have e : b6 p0 = b5 p0 := by
    by_cases h1 : p0 < 0
    · simp [b6, b5, h1]
    · by_cases h2 : p0 > 7
      · simp [b6, b5, h1, h2]
      · have h3 : p0 = 0 ∨ p0 = 1 ∨ p0 = 2 ∨ p0 = 3 ∨ p0 = 4 ∨ p0 = 5 ∨ p0 = 6 ∨ p0 = 7 := by omega
        rcases h3 with h3 | h3 | h3 | h3 | h3 | h3 | h3 | h3 <;> subst h3 <;> decide +kernel
  have s : ∃ r, b5 p0 = some r := by
    unfold b5
    cases decide (p0 < 0)
    · cases decide (p0 > 7)
      · exact ⟨_, rfl⟩
      · exact ⟨_, rfl⟩
    · exact ⟨_, rfl⟩
  obtain ⟨r, hr⟩ := s
  have e2 : b3_5 p0 (f3_5 p0 0) 8 = ((b6 p0).bind fun r1 => (b5 p0).bind fun r2 => cond (r1.fst == r2.fst && (r1.snd.fst == r2.snd.fst && (r1.snd.snd.fst == r2.snd.snd.fst && true))) (some (r1.snd.snd.snd == r2.snd.snd.snd)) (some false)) := by kernel_rfl
  rw [e2, e, hr]
  simp

open Go.RowKit in
theorem walk (a0 : Int) (w : World) : Calls Try.prog 3 #[.int .i64 a0] w fun e w' => e = .returned (.bool true) ∧ Below w.heap.size w w' := by
  have hp : Pure Try.prog X 3 [.int .i64 a0] (out3 true) :=
    pure3 a0 (prims_cons good fn4 (prims_cons good fn5 (prims_cons good fn6 (prims_cons good fn7 (prims_nil _ _ mixed))))) 9 true (run3 a0)
  refine (hp w (fun _ => False) #[.int .i64 a0] (fun _ h => h.elim) rfl (fun j hj => ?_)).mono fun e w' hh => ?_
  · have : j = 0 := by simpa using hj
    subst this
    exact .int _ _
  · obtain ⟨u, rfl, hu, hb⟩ := hh
    cases hu
    exact ⟨rfl, hb⟩
end Go.Abs.R1
