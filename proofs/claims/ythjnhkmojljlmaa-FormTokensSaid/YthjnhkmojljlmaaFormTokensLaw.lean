/- Proved: FormTokens answers true for every text (any bytes, any length), with no condition: the program's tokens and the document's are the same, or the same fault at the same place. -/
import Derived.Test.YthjnhkmojljlmaaK5
import Derived.Test.YthjnhkmojljlmaaRows
import Derived.ProofKit
import Derived.OpenShut
import Derived.ShutString
import Derived.ChangeOld
import Derived.ChangeMaps5
import Derived.SizedLaws
namespace Go.Abs.Z
open Go Go.Abs Go.Proofs Limb
theorem mem0 {W : World} : Mem X W (fun _ => False) noTh noTh [] W where
  objs := fun i h => by simp at h
  glob := fun g => .undef _
  gv := fun g a h => nomatch h
  out := fun i _ => rfl
  own := fun i b c h => by simp [noTh] at h
  inj := fun i j b c d h => by simp [noTh] at h
  n0 := fun b h => h.elim
  size := Nat.le_refl _
  os := rfl
  tape := rfl
  output := rfl
  pin := fun i => .inl rfl
  keep := fun k _ _ => rfl
theorem walk (s : ByteArray) (W : World) : Calls Try.prog 4 #[.string s] W fun e W' => e = .returned (.bool true) ∧ Go.RowKit.Below W.heap.size W W' := by
  obtain ⟨v, h', hk, pure⟩ := okS4 (R := AV U × List (AO U)) [.str s] [] (fun v h => some (v, h)) (.bool true, []) (by
    show (S4 s).bind _ = _
    rw [run4 s]; rfl)
  injection hk with hk
  injection hk with hk1 hk2
  subst hk1; subst hk2
  refine (pure W (fun _ => False) noTh #[.string s] mem0 rfl (fun j hj => ?_)).mono fun e W' ⟨u, th', he, hm, hu⟩ => ?_
  · obtain rfl : j = 0 := by simpa using hj
    exact .str _
  · cases hu
    exact ⟨he, ⟨hm.os, hm.tape, hm.output, hm.size, fun k hk => hm.keep k hk (by rintro ⟨i, c, h⟩; simp [noTh] at h)⟩⟩
end Go.Abs.Z
namespace Go.Proofs.Ythjnhkmojljlmaa.formTokens
open Go.ChangeShapes Go.WideShapes Go.ChangeAt Go.RowKit
open Go.ChangeMaps (open_string shut_string)
set_option linter.unusedVariables false
theorem own : ownKnob Try.prog.godebug = none := by kernel_rfl
set_option maxRecDepth 100000 in
theorem lifted (os : Os) (started : os.Started) (H : Type) (enc : TypeId × Value → H) :
    ReturnsInHanded {} Try.checked os 4 .any (Rows.formTokensSpec.pre6 enc Try.prog Try.f4 Rows.formTokensRow.domain false) (Rows.formTokensSpec.post enc Try.prog Try.f4 false true false false) := by
  refine returnsInHanded_of_change_sized (C := Try.checked) own started (by kernel_rfl) Try.func4
    (ChangeSpec.witness6 (enc := enc) (C := Try.checked) false ⟨#[], #[.string ⟨#[]⟩], []⟩ 8 (by kernel_rfl) (by kernel_rfl) (by kernel_rfl) (by kernel_rfl)) ?_
  intro W base args ds gs before hval0 hW hcnd hsz0 _
  have hsz : (DataW.weightsEach Try.prog (Try.f4.params.toList ++ Rows.formTokensSpec.plain.varTypes Try.prog) (ds ++ gs)).all (· ≤ reachBytes) = true := hsz0
  have hval : ∀ (j : Nat) t v, Try.f4.params[j]? = some t → args[j]? = some v → Value.okWide Try.prog W .any base t v := hval0
  have hW' := hW
  obtain ⟨p, q, hA0, hV, rfl, hfz, hnd⟩ := hW
  have hA : DataW.TrodAll enc Try.prog W 0 (fun _ => true) true Try.f4.params.toList args.toList ds p := hA0
  rw [Try.params4] at hA hval hsz
  obtain ⟨v0, vs0, d0, ds0, p0, q0, hargs, rfl, rfl, h0, r0⟩ := trodAll_cons hA
  obtain ⟨rfl, rfl, rfl⟩ := trodAll_nil r0
  obtain rfl : args = #[v0] := by cases args; simp_all
  obtain ⟨rfl, rfl⟩ := trodVars_none hV
  obtain ⟨s, rfl, rfl, rfl, w0⟩ := open_string Try.underlying9 (hval 0 9 v0 rfl rfl) h0
  clear hA0 hval0 hsz0 hsz
  refine (Go.Abs.Z.walk s W).mono fun e W' ⟨he, bel⟩ => ?_
  subst he
  exact ⟨_, rfl, _, _, _, [], _, [], hW', trodAll_mk1 (shut_bool Try.underlying4 _), (trodAll_cons_mk (shut_string Try.underlying9 w0) trodAll_mk0), rfl, bel.frame _, fun h => by cases h⟩
theorem over : Rows.formTokensRow.holds Try.pinned (OpenSpec.ofChange Rows.formTokensSpec) :=
  OpenClaim.holds_of_wide 4 Try.f4 rfl rfl rfl rfl rfl rfl rfl ⟨rfl, rfl, rfl, rfl, rfl⟩ rfl rfl rfl rfl rfl (by kernel_rfl) Try.func4 (by kernel_rfl)
    (of_decide_eq_true (by kernel_rfl)) (by unfold Func.isWrapper; first | (rw [if_pos (by decide +kernel)]; kernel_rfl) | (rw [if_neg (by decide +kernel)]; exact ⟨rfl, rfl⟩))
    (fun os started H enc _ => lifted os started H enc)
theorem proved : Rows.FormTokensSaid := over
#print axioms proved
end Go.Proofs.Ythjnhkmojljlmaa.formTokens
namespace Go.Proofs.Ythjnhkmojljlmaa
/-- The row, under a short name, for the claim. -/
theorem formTokens_holds : Rows.FormTokensSaid := formTokens.proved
end Go.Proofs.Ythjnhkmojljlmaa
