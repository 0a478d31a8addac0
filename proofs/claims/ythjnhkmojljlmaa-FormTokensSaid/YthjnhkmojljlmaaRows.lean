/-
  No cell of these rows narrows 'for every input' (looked for: loops, veiled, ifaces, maps, wideKeys, modest, calm, conditions, laid).
  DERIVED. THE GIVEN ROWS OF THIS SEAT. 2 by the template 'for every input the law returns true; each argument reads behind the call as it read before'; 0 by the template 'total and deterministic' (their statements: YthjnhkmojljlmaaTotals.lean).
  GIVEN WITH THE SEED: the statements are not yours to turn. If you find one false, say at which input.
  Laid BY PROGRAM, IN A SANDBOX (cutbox-rows.mjs): the forced cells as the released guide's own fill.sh prints them over the translation 964cb687a443f89c… (all of the seat's roots in one cut). By AI agents, Wed Nov 11 2026. No macro, syntax, notation, axiom, sorry.
-/
import Derived.Test.YthjnhkmojljlmaaChecked
import GoSem.Claim
import GoSem.ClaimJoined
import GoSem.ClaimMapViews
import Derived.JoinedTies
import Derived.KernelRfl
namespace Go.Proofs.Ythjnhkmojljlmaa
/- THE CELL 'sum', in the pinned program and in every row, IS THE sha256 OF THE DUMP (.gsa) THAT YthjnhkmojljlmaaProg.lean LOADS. Nothing in Lean hashes anything: it is a label: what it is worth is what the hold of that sum in a sandbox is worth. -/
noncomputable def Try.pinned : Pinned := { name := "ythjnhkmojljlmaa", sum := "964cb687a443f89c8e17a7d629a20a1c3f48f223c31144d04d36f561be657845", checked := Try.checked }
namespace Rows
def none {H : Type} : Left H := { results := [], args := [] }

/-- 'slopelaw4.FormUses': WHATEVER THE INPUT: true; the input reads as it did. -/
def formUsesSpec : ChangeSpec := { name := "formUses", fn := fun _ => fun
  | [d] => { results := [.lit (.bool true)], args := [d] }
  | _ => none }
def formUsesRow : OpenClaim := { program := "ythjnhkmojljlmaa", sum := "964cb687a443f89c8e17a7d629a20a1c3f48f223c31144d04d36f561be657845", func := "slope/slopelaw4.FormUses", spec := "formUses", unfollowed := true, recurses := true, named := ["math/bits.overflowError"], apart := false }
def FormUsesSaid : Prop := formUsesRow.holds Try.pinned (OpenSpec.ofChange formUsesSpec)

/-- ITS FALSE NEIGHBOUR: 'it returns false'. Refute it at one input. -/
def formUsesWrong : ChangeSpec := { name := "formUses", fn := fun _ => fun
  | [d] => { results := [.lit (.bool false)], args := [d] }
  | _ => none }
def FormUsesWrongFalsely : Prop := formUsesRow.holds Try.pinned (OpenSpec.ofChange formUsesWrong)

/-- 'slopelaw4.FormTokens': WHATEVER THE INPUT: true; the input reads as it did. -/
def formTokensSpec : ChangeSpec := { name := "formTokens", fn := fun _ => fun
  | [d] => { results := [.lit (.bool true)], args := [d] }
  | _ => none }
def formTokensRow : OpenClaim := { program := "ythjnhkmojljlmaa", sum := "964cb687a443f89c8e17a7d629a20a1c3f48f223c31144d04d36f561be657845", func := "slope/slopelaw4.FormTokens", spec := "formTokens", inPlace := ["internal/abi.NoEscape", "internal/bytealg.MakeNoZero", "internal/bytealg.IndexByteString"], unfollowed := true, recurses := true, named := ["math/bits.overflowError"], apart := false }
def FormTokensSaid : Prop := formTokensRow.holds Try.pinned (OpenSpec.ofChange formTokensSpec)

/-- ITS FALSE NEIGHBOUR: 'it returns false'. Refute it at one input. -/
def formTokensWrong : ChangeSpec := { name := "formTokens", fn := fun _ => fun
  | [d] => { results := [.lit (.bool false)], args := [d] }
  | _ => none }
def FormTokensWrongFalsely : Prop := formTokensRow.holds Try.pinned (OpenSpec.ofChange formTokensWrong)

/- THE SECOND FORM. 'bulk': how many values and letters a reading holds, each counted each time it is reached (what is shared counts as often as it is met; a slice's spare places count too). A statement '..UptoSaid' is the law's where the arguments, and the package variables that the reading takes, are together of bulk at most 1048576: NARROWER than '..Said'. Prove '..Said' where nothing that the law and all that it calls make is longer than what came in: it says more and counts as full. Else prove '..UptoSaid'. A law counts once. -/
mutual
def uptoBulk {H : Type} : DataW H → Nat
  | .lit (.string bytes) => bytes.length + 1
  | .lit _ => 1
  | .nil => 1
  | .ptr d => uptoBulk d + 1
  | .slice elems spare => uptoBulkAll elems + uptoBulkAll spare + 1
  | .agg parts => uptoBulkAll parts + 1
  | .iface _ d => uptoBulk d + 1
  | .map entries => uptoBulkEntries entries + 1
  | .held _ => 1
def uptoBulkAll {H : Type} : List (DataW H) → Nat
  | [] => 0
  | d :: r => uptoBulk d + uptoBulkAll r
def uptoBulkEntries {H : Type} : List (Lit × DataW H) → Nat
  | [] => 0
  | x :: r => uptoBulkEntry x + uptoBulkEntries r
def uptoBulkEntry {H : Type} : Lit × DataW H → Nat
  | (.string bytes, d) => bytes.length + uptoBulk d + 1
  | (_, d) => uptoBulk d + 1
 end
def uptoSmall : (H : Type) → List (DataW H) → Bool := fun _ ds => decide (uptoBulkAll ds ≤ 1048576)
def OpenSpec.upto (s : _root_.Go.ChangeSpec) : _root_.Go.OpenSpec := { _root_.Go.OpenSpec.ofChange s with cond := some uptoSmall }

/-- 'slopelaw4.FormUses', WHERE WHAT IT READS IS OF BULK AT MOST 1048576: true; the input reads as it did. -/
def formUsesUptoRow : OpenClaim := { program := "ythjnhkmojljlmaa", sum := "964cb687a443f89c8e17a7d629a20a1c3f48f223c31144d04d36f561be657845", func := "slope/slopelaw4.FormUses", spec := "formUses", unfollowed := true, recurses := true, named := ["math/bits.overflowError"], apart := false, narrowed := true }
def FormUsesUptoSaid : Prop := formUsesUptoRow.holds Try.pinned (OpenSpec.upto formUsesSpec)

/-- 'slopelaw4.FormTokens', WHERE WHAT IT READS IS OF BULK AT MOST 1048576: true; the input reads as it did. -/
def formTokensUptoRow : OpenClaim := { program := "ythjnhkmojljlmaa", sum := "964cb687a443f89c8e17a7d629a20a1c3f48f223c31144d04d36f561be657845", func := "slope/slopelaw4.FormTokens", spec := "formTokens", inPlace := ["internal/abi.NoEscape", "internal/bytealg.MakeNoZero", "internal/bytealg.IndexByteString"], unfollowed := true, recurses := true, named := ["math/bits.overflowError"], apart := false, narrowed := true }
def FormTokensUptoSaid : Prop := formTokensUptoRow.holds Try.pinned (OpenSpec.upto formTokensSpec)

end Rows
end Go.Proofs.Ythjnhkmojljlmaa
