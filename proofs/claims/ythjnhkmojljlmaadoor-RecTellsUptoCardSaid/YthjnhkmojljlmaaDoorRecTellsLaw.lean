/- Proved: RecTells answers true for every input of bulk at most 1048576 (the second form's card), with no other condition. -/
import Derived.Test.YthjnhkmojljlmaaDoorK6
import Derived.Test.YthjnhkmojljlmaaDoorCards
import Derived.Test.YthjnhkmojljlmaaDoorTie
import Derived.ProofKit
import Derived.OpenShut
import Derived.ChangeOld
import Derived.Carry
import Derived.Deep.DeepHandedRow
namespace Go.Proofs.YthjnhkmojljlmaaDoor.recTells
open Go.ChangeShapes Go.WideShapes Go.ChangeAt Go.RowKit
set_option linter.unusedVariables false
theorem own : ownKnob Tryd.prog.godebug = none := by kernel_rfl
theorem laidOut : laidOutB Tryd.prog = true := by kernel_rfl
/-! what the bound gives -/
theorem one_le {H : Type} (d : DataW H) : 1 ≤ Rows.uptoBulk d := by
  cases d with
  | lit l => cases l <;> simp [Rows.uptoBulk]
  | nil => simp [Rows.uptoBulk]
  | ptr d => simp [Rows.uptoBulk]
  | slice elems spare => simp [Rows.uptoBulk]
  | agg parts => simp [Rows.uptoBulk]
  | iface t d => simp [Rows.uptoBulk]
  | map entries => simp [Rows.uptoBulk]
  | held h => simp [Rows.uptoBulk]
theorem part_le {H : Type} {d : DataW H} {l : List (DataW H)} (h : d ∈ l) : Rows.uptoBulk d ≤ Rows.uptoBulkAll l := by
  induction l with
  | nil => cases h
  | cons x r ih =>
    simp only [Rows.uptoBulkAll]
    cases List.mem_cons.1 h with
    | inl e => subst e; omega
    | inr e => have := ih e; omega
theorem length_le {H : Type} (l : List (DataW H)) : l.length ≤ Rows.uptoBulkAll l := by
  induction l with
  | nil => simp [Rows.uptoBulkAll]
  | cons x r ih => have := one_le x; simp only [Rows.uptoBulkAll, List.length_cons]; omega
theorem bd {H : Type} : Go.Abs.BdOK (fun d : DataW H => Rows.uptoBulk d ≤ 1048576) 1048576 where
  str := fun bs h => by
    simp [Rows.uptoBulk] at h; omega
  sl := fun es sp h => by
    have h1 := length_le es
    simp only [Rows.uptoBulk] at h
    exact ⟨by omega, fun e he => by have := part_le he; omega⟩
  ag := fun ps h p hp => by
    simp only [Rows.uptoBulk] at h
    have := part_le hp; omega
theorem bound {H : Type} {l : List (DataW H)} (hk : Rows.uptoSmall H l = true) : Rows.uptoBulkAll l ≤ 1048576 := by
  simpa [Rows.uptoSmall] using hk
/-! what the row's list gives -/
theorem gTold : Tryd.prog.globalNamed "slope/record.told" = some 0 := by kernel_rfl
theorem gToldType : (Tryd.prog.globals[0]?).map (·.type) = some 71 := by kernel_rfl
theorem gPow : Tryd.prog.globalNamed "internal/strconv.uint64pow10" = some 1 := by kernel_rfl
theorem gPowType : (Tryd.prog.globals[1]?).map (·.type) = some 137 := by kernel_rfl
theorem told {W : World} (h : laidMetH Tryd.prog Rows.recTellsUptoRow.laid W) : Lib.TabIs Tryd.prog W "slope/record.told" .i64 [0, 0, 0, 4, 5, 6, 7, 3, 8] :=
  Lib.tabIs_of_head (t := 71) (e := 70) (n := 9) (rest := []) gTold gToldType (by kernel_rfl) (by kernel_rfl) (by kernel_rfl) (by kernel_rfl) (h.filter fun x => x.1 == "slope/record.told")
theorem pow {W : World} (h : laidMetH Tryd.prog Rows.recTellsUptoRow.laid W) : Lib.TabIs Tryd.prog W "internal/strconv.uint64pow10" .u64 Lib.pow10Tab :=
  Lib.tabIs_of_head (t := 137) (e := 100) (n := 20) (rest := []) gPow gPowType (by kernel_rfl) (by kernel_rfl) (by kernel_rfl) (by kernel_rfl) (h.filter fun x => x.1 == "internal/strconv.uint64pow10")
theorem tab_heap {W : World} {name : String} {k : IntKind} {zs : List Int} {g : Nat} (h : Lib.TabIs Tryd.prog W name k zs) (hg : Tryd.prog.globalNamed name = some g) :
    ∃ T m, W.heap[g]? = some (.cells (zs.map fun z => Value.int k z).toArray T m) := by
  unfold Lib.TabIs World.var? at h
  rw [hg] at h
  simp only [Option.bind_some] at h
  split at h
  · rename_i cs T m hh
    injection h with h; subst h
    exact ⟨T, m, hh⟩
  · cases h
end Go.Proofs.YthjnhkmojljlmaaDoor.recTells
namespace Go.Abs.Z
open Go Go.Abs Go.Proofs Go.Proofs.YthjnhkmojljlmaaDoor Limb
theorem mem0 {W : World} (ht : Lib.TabIs Tryd.prog W "slope/record.told" .i64 [0, 0, 0, 4, 5, 6, 7, 3, 8]) (hp : Lib.TabIs Tryd.prog W "internal/strconv.uint64pow10" .u64 Lib.pow10Tab) :
    Mem X W (fun _ => False) noTh noTh [] W where
  objs := fun i h => by simp at h
  glob := fun g => by
    have g0 : ∀ (e : Nat) (k : IntKind) (zs : List Int) (g : Nat) (l : List (U e)) (hz : X.z e = 1) (hl : l.length = zs.length) (h0 : 0 < zs.length)
        (hc : ∀ i, i < zs.length → W.cell? ⟨g, i, none⟩ = some (.int k (zs.getD i 0)))
        (hv : ∀ j (h : j < l.length), (cellsOf (X.enc e l[j])).getD 0 .undef = .int k (zs.getD j 0)),
        VRel X W (NN (fun _ => False) noTh) noTh (.pimm e l 0 0) (.pointer (some ⟨g, 0, none⟩)) := by
      intro e k zs g l hz hl h0 hc hv
      suffices key : VRel X W (NN (fun _ => False) noTh) noTh (.pimm e l 0 0) (.pointer (some ⟨g, 0 + (0 * X.z e + 0), none⟩)) by rwa [Nat.zero_mul] at key
      refine .pimm e l 0 0 g 0 (fun i => .int k (zs.getD i 0)) (by rw [hz, hl]; omega) (fun h => ?_) (fun i hi => ?_) (fun j hj k' hk => ?_)
      · simp [NN, noTh, Own] at h
      · rw [hz, hl] at hi
        rw [Nat.zero_add]
        exact hc i (by omega)
      · rw [hz] at hk
        obtain rfl : k' = 0 := by omega
        rw [hv j hj, hz, Nat.mul_one]
        exact .int _ _
    match g with
    | 0 => exact g0 70 .i64 [0, 0, 0, 4, 5, 6, 7, 3, 8] 0 ([0, 0, 0, 4, 5, 6, 7, 3, 8] : List Int) rfl rfl (by decide) (fun i hi => ht.cell recTells.gTold i hi) (fun j hj => by
        rw [List.getD_eq_getElem?_getD (l := [0, 0, 0, 4, 5, 6, 7, 3, 8]), List.getElem?_eq_getElem (by exact hj)]; rfl)
    | 1 => exact g0 100 .u64 Lib.pow10Tab 1 (Lib.pow10Tab : List Int) rfl rfl (by decide) (fun i hi => hp.cell recTells.gPow i hi) (fun j hj => by
        rw [List.getD_eq_getElem?_getD (l := Lib.pow10Tab), List.getElem?_eq_getElem (by exact hj)]; rfl)
    | _ + 2 => exact .undef _
  gv := fun g a h => by
    have h : gvar g = some a := h
    unfold gvar at h
    split at h
    · injection h with h; subst h
      obtain ⟨T, m, hh⟩ := recTells.tab_heap hp recTells.gPow
      refine ⟨?_, ?_, T, m, hh⟩
      · rcases Nat.lt_or_ge 1 W.heap.size with h | h
        · exact h
        · rw [Array.getElem?_eq_none h] at hh; cases hh
      · rintro ⟨i, c, h⟩; simp [noTh] at h
    · cases h
  out := fun i _ => rfl
  own := fun i b c h => by simp [noTh] at h
  inj := fun i j b c d h => by simp [noTh] at h
  n0 := fun b h => h.elim
  size := Nat.le_refl _
  os := rfl
  tape := rfl
  output := rfl
  pin := fun i => .inl rfl
  keep := fun k _ _ => rfl
def E : Nat → Bool
  | 3 => true
  | 67 => true
  | 99 => true
  | _ => false
theorem cover : Cover Tryd.prog X E where
  z := fun e h => by
    unfold E at h
    split at h <;> first | (cases h; done) | kernel_rfl
  kd := fun e h => by
    unfold E at h
    split at h
    · refine ⟨1, [.i .i64], by kernel_rfl, rfl, fun e' h => by simp at h, fun ys f => ?_⟩
      cases f with
      | cons a r =>
        cases r
        obtain ⟨n, rfl⟩ := a
        exact ⟨n, rfl⟩
    · refine ⟨4, [.i .i64, .i .i64, .i .i64, .i .i64, .b, .l 99, .l 99], by kernel_rfl, rfl, fun e' h => by
        simp at h; subst h; rfl, fun ys f => ?_⟩
      cases f with
      | cons a r => cases r with
      | cons b r => cases r with
      | cons c r => cases r with
      | cons d r => cases r with
      | cons e r => cases r with
      | cons f r => cases r with
      | cons g r =>
        cases r
        obtain ⟨a, rfl⟩ := a
        obtain ⟨b, rfl⟩ := b
        obtain ⟨c, rfl⟩ := c
        obtain ⟨d, rfl⟩ := d
        obtain ⟨e, rfl⟩ := e
        obtain ⟨f, rfl⟩ := f
        obtain ⟨g, rfl⟩ := g
        exact ⟨(a, b, c, d, e, f, g), rfl⟩
    · refine ⟨1, [.i .u32], by kernel_rfl, rfl, fun e' h => by simp at h, fun ys f => ?_⟩
      cases f with
      | cons a r =>
        cases r
        obtain ⟨n, rfl⟩ := a
        exact ⟨n, rfl⟩
    · cases h
theorem wf_u32 {n : Int} (h : (Lit.int .u32 n).wf = true) : 0 ≤ n ∧ n < 4294967296 := by
  simp [Lit.wf, IntKind.min, IntKind.max, IntKind.signed, IntKind.bits] at h
  omega
theorem ok_of_wf {l : List Int} (h : Wf X 1048576 (.imm 99 l : AV U)) : Ok l ∧ l.length ≤ 1048576 := by
  cases h with
  | l _ _ h hv =>
    refine ⟨fun x hx => ?_, h⟩
    have := hv x hx (.int .u32 x) (by simp [X, enc, cellsOf])
    cases this with
    | i _ _ h => exact wf_u32 h
theorem walk {H : Type} {en : TypeId × Value → H} {W : World} (ht : Lib.TabIs Tryd.prog W "slope/record.told" .i64 [0, 0, 0, 4, 5, 6, 7, 3, 8]) (hp : Lib.TabIs Tryd.prog W "internal/strconv.uint64pow10" .u64 Lib.pow10Tab)
    {cs : Array Value} {d : DataW H} {ps : List MemPlace} (h : DataW.Trod en Tryd.prog W 0 (fun _ => true) true 25 (.agg cs) d ps) (hb : Rows.uptoBulk d ≤ 1048576) :
    Calls Tryd.prog 3 #[.agg cs] W fun e W' => e = .returned (.bool true) ∧ Go.RowKit.Below W.heap.size W W' := by
  obtain ⟨fuel, h⟩ := h
  obtain ⟨ys, f, hl, hv, hw⟩ := read (X := X) (N := NN (fun _ => False) noTh) (Bd := fun d : DataW H => Rows.uptoBulk d ≤ 1048576) good cover recTells.bd (fun b h => by simp [NN, noTh, Own] at h) fuel 25 cs.toList (d, ps) h hb 2 [.i .i64, .l 67, .l 3] (by kernel_rfl) (fun e h => by
    simp at h; rcases h with rfl | rfl <;> rfl)
  cases f with
  | cons a r => cases r with
  | cons b r => cases r with
  | cons c r =>
    cases r
    obtain ⟨p0, rfl⟩ := a
    obtain ⟨p1, rfl⟩ := b
    obtain ⟨p2, rfl⟩ := c
    have w1 := hw (.imm 67 p1) (by simp)
    have w2 := hw (.imm 3 p2) (by simp)
    have hs : ∀ o ∈ (p1 : List OpT), OkOp o ∧ o.2.2.2.2.2.1.length ≤ 1048576 ∧ o.2.2.2.2.2.2.length ≤ 1048576 := by
      cases w1 with
      | l _ _ h hv =>
        intro o ho
        have k := hv o ho
        have a1 := ok_of_wf (k (.imm 99 o.2.2.2.2.2.1) (by simp [X, enc, cellsOf]))
        have a2 := ok_of_wf (k (.imm 99 o.2.2.2.2.2.2) (by simp [X, enc, cellsOf]))
        exact ⟨⟨a1.1, a2.1, by have := a1.2; have := a2.2; omega⟩, a1.2, a2.2⟩
    have l1 : (p1 : List OpT).length ≤ 1048576 := by
      cases w1 with
      | l _ _ h _ => exact h
    have l2 : (p2 : List Int).length ≤ 1048576 := by
      cases w2 with
      | l _ _ h _ => exact h
    have r := run3 (ops := p1) (inputs := p0) (outs := p2) (fun o ho => (hs o ho).1) (fun o ho => ⟨by have := (hs o ho).2.1; omega, by have := (hs o ho).2.2; omega⟩) (Nat.le_trans l1 (by decide)) (Nat.le_trans l2 (by decide))
    obtain ⟨v, h', hk, pure⟩ := okS3 (R := AV U × List (AO U)) [.agg [.int .i64 p0, .imm 67 p1, .imm 3 p2]] [] (fun v h => some (v, h)) (.bool true, []) (by
      show (S3 p0 p1 p2).bind _ = _
      rw [r]; rfl)
    injection hk with hk
    injection hk with hk1 hk2
    subst hk1; subst hk2
    refine (pure W (fun _ => False) noTh #[.agg cs] (mem0 ht hp) rfl (fun j hj => ?_)).mono fun e W' ⟨u, th', he, hm, hu⟩ => ?_
    · obtain rfl : j = 0 := by simpa using hj
      refine .agg _ cs (by rw [← Array.length_toList, ← hl]) fun j hj => ?_
      have := hv j (by rw [← hl]; exact hj)
      rw [show cs.getD j undef = cs.toList.getD j undef by simp [Array.getD_eq_getD_getElem?, List.getD_eq_getElem?_getD]]
      exact this
    · cases hu
      exact ⟨he, ⟨hm.os, hm.tape, hm.output, hm.size, fun k hk => hm.keep k hk (by rintro ⟨i, c, h⟩; simp [noTh] at h)⟩⟩
end Go.Abs.Z
namespace Go.Proofs.YthjnhkmojljlmaaDoor.recTells
open Go.ChangeShapes Go.WideShapes Go.ChangeAt Go.RowKit
set_option linter.unusedVariables false
set_option maxRecDepth 100000 in
theorem contract (H : Type) (enc : TypeId × Value → H) (W : World) (base : Nat) (args : Array Value) (ds gs : List (DataW H)) (before : List MemPlace)
    (hval : ∀ (j : Nat) t v, Tryd.f3.params[j]? = some t → args[j]? = some v → Value.okWide Tryd.prog W .any base t v)
    (hW : DataW.Whole enc Tryd.prog Tryd.f3.params.toList Rows.recTellsSpec.vars false W args.toList ds gs before) (hk : Rows.uptoSmall H (ds ++ gs) = true) (hL : laidMetH Tryd.prog Rows.recTellsUptoRow.laid W) :
    Calls Tryd.prog 3 args W fun e W' => ∃ v, e = .returned v ∧ Rows.recTellsSpec.post enc Tryd.prog Tryd.f3 false true false false W args v W' := by
  have hW' := hW
  obtain ⟨p, q, hA0, hV, rfl, hfz, hnd⟩ := hW
  have hA : DataW.TrodAll enc Tryd.prog W 0 (fun _ => true) true Tryd.f3.params.toList args.toList ds p := hA0
  rw [Tryd.params3] at hA hval
  obtain ⟨v0, vs0, d0, ds0, p0, q0, hargs, rfl, rfl, h0, r0⟩ := trodAll_cons hA
  obtain ⟨rfl, rfl, rfl⟩ := trodAll_nil r0
  obtain rfl : args = #[v0] := by cases args; simp_all
  obtain ⟨rfl, rfl⟩ := trodVars_none hV
  have hv0 := hval 0 25 v0 rfl rfl
  obtain ⟨cs, rfl, hcs⟩ := okWide_struct (P := Tryd.prog) (r := .any) Tryd.underlying25 hv0
  have hb := bound hk
  simp only [List.append_nil, Rows.uptoBulkAll, Nat.add_zero] at hb
  have lt0 : ∀ x ∈ p0, x.block < W.heap.size := by
    obtain ⟨fuel, h⟩ := h0
    exact DataW.trod_lt _ _ _ _ h
  refine (Go.Abs.Z.walk (told hL) (pow hL) h0 hb).mono fun e W' ⟨he, bel⟩ => ?_
  subst he
  have k0 := h0
  exact ⟨_, rfl, _, _, _, [], _, [], hW', trodAll_mk1 (shut_bool Tryd.underlying4 _), trodAll_cons_mk (Below.trod laidOut (by kernel_rfl) (of_decide_eq_true (by kernel_rfl)) k0 bel lt0) trodAll_mk0, rfl, bel.frame _, fun h => by cases h⟩
/-- A WORLD FOR THE WITNESS: the settled one, the four tables holding what their initialisers lay. -/
def cellsD : DataW Unit → Array Value
  | .agg l => (l.map fun | .lit (.int k n) => Value.int k n | _ => undef).toArray
  | _ => #[]
noncomputable def laidWorld (os : Os) : World :=
  let put (g : Nat) (d : DataW Unit) (h : Array Obj) : Array Obj := h.modify g fun
      | .cells _ t frozen => .cells (cellsD d) t frozen
      | o => o
  let w := World.holding Tryd.prog os ⟨#[], #[], []⟩
  { w with heap := put 0 Rows.laid_slope_record_told (put 1 Rows.laid_internal_strconv_uint64pow10 (put 2 Rows.laid_math_bits_deBruijn32tab (put 3 Rows.laid_math_bits_deBruijn64tab w.heap))) }
abbrev arg : Value := .agg #[.int .i64 0, .slice none 0 0, .slice none 0 0]
theorem laid_met (os : Os) : laidMet Tryd.prog Rows.recTellsUptoRow.laid ((laidWorld os).forCall (fun _ _ => 0) ⟨#[], #[arg], []⟩).memory :=
  laidMet_of_run' 80 (by kernel_rfl) (by kernel_rfl)
theorem reads (os : Os) {H : Type} (enc : TypeId × Value → H) : ∃ places, DataW.whole enc Tryd.prog ((laidWorld os).forCall (fun _ _ => 0) ⟨#[], #[arg], []⟩).memory Tryd.f3.params.toList Rows.recTellsSpec.vars false #[arg].toList 8 = some ([.agg [.lit (.int .i64 0), .nil, .nil]], [], places) :=
  ⟨[], by kernel_rfl⟩
set_option maxRecDepth 100000 in
theorem liftedUpto (os : Os) (started : os.Started) (H : Type) (enc : TypeId × Value → H) (F : Stop.Interp) :
    ReturnsInHanded {} Tryd.checked os 3 .any ((Rows.OpenSpec.upto Rows.recTellsSpec).preRow enc Tryd.prog Tryd.f3 Rows.recTellsUptoRow.domain false Rows.recTellsUptoRow.laid) (((Rows.OpenSpec.upto Rows.recTellsSpec).at F).post enc Tryd.prog Tryd.f3 false true false false) := by
  obtain ⟨places, hx⟩ := reads os enc
  refine returnsInHanded_of_row (C := Tryd.checked) (s := Rows.OpenSpec.upto Rows.recTellsSpec) own started (by kernel_rfl) Tryd.func3
    (witness_row_at (enc := enc) (C := Tryd.checked) false (laidWorld os) #[arg] rfl (by kernel_rfl) (by kernel_rfl) (by kernel_rfl)
      (OpenSpec.preRow_of_cond 8 hx (by kernel_rfl) (fun k hk => by cases hk; kernel_rfl) (by kernel_rfl) (laid_met os))) ?_
  intro W base args ds gs before hval hW _ hk _ hL _ _
  exact contract H enc W base args ds gs before hval hW (hk _ rfl) hL
theorem saidUpto : Rows.RecTellsUptoSaid :=
  OpenClaim.holds_of_cond 3 Tryd.f3 rfl rfl rfl rfl rfl rfl rfl ⟨rfl, rfl, rfl, rfl, rfl⟩ rfl rfl rfl rfl rfl (by kernel_rfl) Tryd.func3 (by kernel_rfl)
    (of_decide_eq_true (by kernel_rfl)) (by unfold Func.isWrapper; first | (rw [if_pos (by decide +kernel)]; kernel_rfl) | (rw [if_neg (by decide +kernel)]; exact ⟨rfl, rfl⟩))
    (fun os started H enc _ F => by rw [OpenClaim.pre_eq_preRow]; exact liftedUpto os started H enc F)
theorem plain (f : FuncId) (fn : Func) (hf : Tryd.pinned.checked.prog.funcNamed "slope/slopelaw6.RecTells" = some f) (hfn : Tryd.pinned.checked.prog.funcs[f]? = some fn) :
    false = Tryd.pinned.checked.prog.looks [] ∧ ∀ (j : Nat) t, fn.params[j]? = some t → Tryd.pinned.checked.prog.wantsStandIn t = false := by
  obtain rfl : f = 3 := Option.some.inj ((show Tryd.prog.funcNamed "slope/slopelaw6.RecTells" = some 3 by kernel_rfl).symm.trans hf) |>.symm
  obtain rfl : fn = Tryd.f3 := (Option.some.inj (Tryd.func3.symm.trans hfn)).symm
  refine ⟨by kernel_rfl, fun j t ht => ?_⟩
  rw [Tryd.params3] at ht
  obtain rfl : t = 25 := by simpa using Array.mem_of_getElem? ht
  exact (show Tryd.prog.wantsStandIn 25 = false by kernel_rfl)
theorem cardUpto : Rows.RecTellsUptoCardSaid :=
  Claim7.holds_tied_plain_at .later [] _ _ _ _ saidUpto (fun _ h => by cases h) (by kernel_rfl) (fun _ h => by cases h) recTellsUpto_row_tie rfl ⟨rfl, rfl⟩ (by kernel_rfl) rfl plain (by kernel_rfl)
#print axioms cardUpto
end Go.Proofs.YthjnhkmojljlmaaDoor.recTells
namespace Go.Proofs.YthjnhkmojljlmaaDoor
/-- The card, under a short name, for the claim. -/
theorem recTells_card : Rows.RecTellsUptoCardSaid := recTells.cardUpto
end Go.Proofs.YthjnhkmojljlmaaDoor
