/- Parts of the proof: AbsCall, AbsCall2, AbsNat, AbsLoc, AbsLoc2, AbsDraw, AbsDraw2, AbsDraw3, AbsSem, AbsFn, AbsKeep, AbsGen, LimbMath, NumMath, MB, UZ, PM0, MT. -/
import Derived.Test.YthjnhkmojljlmaaK1
import Derived.Orders
import Derived.Test.YthjnhkmojljlmaaProg
set_option linter.unusedVariables false
namespace Go.Abs
open Go Go.RowKit
variable {U : Nat → Type} {R : Type}
def PureH (P : Program) (X : Univ U) (n : Nat) (args : List (AV U)) (h : List (AO U)) (out : AV U) (h' : List (AO U)) : Prop :=
  ∀ (w : World) (N : Nat → Prop) (th : Nat → Th) (vs : Array Value), Mem X w N th th h w → vs.size = args.length → ArgsRel X w (NN N th) th args vs →
    Calls P n vs w (fun e w' => ∃ u th', e = .returned u ∧ Mem X w N th th' h' w' ∧ VRel X w' (NN N th') th' out u)
abbrev Fn (U : Nat → Type) (R : Type) := List (AV U) → List (AO U) → (AV U → List (AO U) → Option R) → Option R
def FnOK (P : Program) (X : Univ U) (n : Nat) (f : Fn U R) : Prop := ∀ args h k r, f args h k = some r → ∃ v h', k v h' = some r ∧ PureH P X n args h v h'
inductive Md where
  | lend | frz | hand | ro
  deriving DecidableEq
def mdOf : List Md → Md
  | [] => .hand
  | m :: _ => m
def mRefs (m : Md) : List Md → List (AV U) → List Nat
  | _, [] => []
  | ms, x :: xs => (if mdOf ms = m then refsA 8 x else []) ++ mRefs m ms.tail xs
def nilArgs : List Md → Nat → List (AV U) → List Nat
  | _, _, [] => []
  | ms, j, x :: xs => (match mdOf ms, x with | .hand, .nils _ => [j] | _, _ => []) ++ nilArgs ms.tail (j + 1) xs
def upAt (j : Nat) (p : S U × List (AV U)) : S U × List (AV U) :=
  match p.2.getD j .undef with
  | .nils e => (⟨p.1.s, p.1.h ++ [.row e []]⟩, p.2.set j (.row p.1.h.length e))
  | _ => p
def rowBox (ic : Nat × Nat) (st : S U) : S U :=
  match st.h.getD ic.1 .dead with
  | .box cs => (match cs.getD ic.2 .undef with | .nils e => ⟨st.s, (st.h ++ [AO.row e []]).set ic.1 (.box (cs.set ic.2 (.row st.h.length e)))⟩ | _ => st)
  | _ => st
def nilCells : Nat → List (AV U) → List Nat
  | _, [] => []
  | c, x :: xs => (match x with | .nils _ => [c] | _ => []) ++ nilCells (c + 1) xs
def upBoxes (o : List Nat) (st : S U) : S U :=
  (o.flatMap fun i => match st.h.getD i .dead with | .box cs => (nilCells 0 cs).map fun c => (i, c) | _ => []).foldl (fun st ic => rowBox ic st) st
def closeR (h : List (AO U)) (l : List Nat) : List Nat := close h 3 (insAll h.length [] l)
def up1 (ms : List Md) (p : S U × List (AV U)) : S U × List (AV U) := (nilArgs ms 0 p.2).foldl (fun p j => upAt j p) p
def up2 (ms : List Md) (p : S U × List (AV U)) : S U × List (AV U) := (upBoxes (closeR p.1.h (mRefs .hand ms p.2)) p.1, p.2)
def upAll (ms : List Md) (p : S U × List (AV U)) : S U × List (AV U) := up2 ms (up1 ms p)
def isRow (h : List (AO U)) (i : Nat) : Bool := match h.getD i .dead with | .row _ _ => true | _ => false
def gIdx (o : List Nat) (i : Nat) : Sb U := idxG i 0 o
def gLend (h : List (AO U)) (lr : List Nat) (i : Nat) : Sb U := if lr.contains i then gRow h i else .drop
def argC (h : List (AO U)) (o lr : List Nat) (m : Md) (x : AV U) : AV U :=
  match m with
  | .lend => nrm 8 (sub 8 (gLend h lr) x)
  | .frz => nrm 8 (sub 8 (fun _ => .drop) x)
  | _ => nrm 8 (sub 8 (gIdx o) x)
def argsC (h : List (AO U)) (o lr : List Nat) : List Md → List (AV U) → List (AV U)
  | _, [] => []
  | ms, x :: xs => argC h o lr (mdOf ms) x :: argsC h o lr ms.tail xs
def noImm : Nat → AV U → Bool
  | _, .imm _ _ => false
  | _, .pimm _ _ _ _ => false
  | d + 1, .agg cs => cs.all (noImm d)
  | d + 1, .tup cs => cs.all (noImm d)
  | d + 1, .ifc _ v => noImm d v
  | d + 1, .fn _ cs => cs.all (noImm d)
  | 0, .agg _ => false
  | 0, .tup _ => false
  | 0, .ifc _ _ => false
  | 0, .fn _ _ => false
  | _, _ => true
def noImmO (X : Univ U) : AO U → Bool
  | .box cs => cs.all (noImm 8)
  | .row e _ => X.flat e
  | .mp _ e _ => X.flat e
  | _ => true
def backG (o : List Nat) (p len j : Nat) : Sb U := if j < o.length then .num (o.getD j 0) else if j < len then .num (p + (j - o.length)) else .drop
def posIn : List Nat → Nat → Nat → Option Nat
  | [], _, _ => none
  | x :: r, k, i => if x == i then some k else posIn r (k + 1) i
def mergeAt (o : List Nat) (p : Nat) (h h' : List (AO U)) (i : Nat) : AO U :=
  match posIn o 0 i with
  | some j => subO (backG o p h'.length) (h'.getD j .dead)
  | none => if p ≤ i ∧ i < p + (h'.length - o.length) then subO (backG o p h'.length) (h'.getD (i - p + o.length) .dead) else h.getD i .dead
def mergeH (o : List Nat) (p : Nat) (h h' : List (AO U)) : List (AO U) := (List.range (max h.length (p + (h'.length - o.length)))).map (mergeAt o p h h')
def callN (X : Univ U) (ms : List Md) (f : Fn U R) (st : S U) (args : List (AV U)) (K : AV U → S U → Option R) : Option R :=
  let o := closeR st.h (mRefs .hand ms args)
  let lr := (mRefs .lend ms args).filter (isRow st.h)
  cond (lr.all fun i => !o.contains i) (f (argsC st.h o lr ms args) (o.map fun i => subO (gIdx o) (st.h.getD i .dead)) fun v h' =>
    cond (decide (o.length ≤ h'.length) && (lr.isEmpty || (noImm 8 v && h'.all (noImmO X)))) (K (sub 8 (backG o st.h.length h'.length) v) ⟨st.s, mergeH o st.h.length st.h h'⟩) none) none
def deRo : Md → Md
  | .ro => .hand
  | m => m
def roRefs (h : List (AO U)) (ms : List Md) (args : List (AV U)) : List Nat :=
  (mRefs .ro ms args).flatMap fun i => match h.getD i .dead with | .box cs => (cs.flatMap (refsA 8)).filter (isRow h) | _ => []
def callM (X : Univ U) (ms : List Md) (f : Fn U R) (args : List (AV U)) (st : S U) (K : AV U → S U → Option R) : Option R :=
  let p := upAll (ms.map deRo) (frzAll (mRefs .frz ms args ++ roRefs st.h ms args) (st, args))
  callN X (ms.map deRo) f p.1 p.2 K
section
variable {P : Program} {X : Univ U} {w0 w w' : World} {N0 N N' : Nat → Prop} {B0 : Nat → Th} {th th' : Nat → Th} {st : S U} {a : Act} {h : List (AO U)} {r : R}
theorem argsRel_mono {args : List (AV U)} {vs : Array Value} (hf : ∀ x v, VRel X w N th x v → VRel X w' N' th' x v) (ha : ArgsRel X w N th args vs) : ArgsRel X w' N' th' args vs := fun j hj => hf _ _ (ha j hj)
theorem newNil_relT (rel : RelT X w0 N0 B0 th st a w) (e : Nat) : RelT X w0 N0 B0 (thNew th st.h.length .nil) ⟨st.s, st.h ++ [.row e []]⟩ a w ∧ Carries X N0 w w th (thNew th st.h.length .nil) := by
  obtain ⟨h1, h2⟩ := rel.mem.newNil e
  exact ⟨⟨rel.len, fun i => h2 _ _ (rel.slots i), h1, rel.defers⟩, h2⟩
theorem upAt_ok {args : List (AV U)} {vs : Array Value} (j : Nat) (rel : RelT X w0 N0 B0 th st a w) (ha : ArgsRel X w (NN N0 th) th args vs) :
    ∃ th', RelT X w0 N0 B0 th' (upAt j (st, args)).1 a w ∧ ArgsRel X w (NN N0 th') th' (upAt j (st, args)).2 vs ∧ (upAt j (st, args)).2.length = args.length := by
  unfold upAt
  split
  · rename_i e he
    obtain ⟨r1, c1⟩ := newNil_relT rel e
    refine ⟨_, r1, fun k hk => ?_, by simp⟩
    have hk' : k < args.length := by simpa using hk
    show VRel _ _ _ _ ((args.set j (.row st.h.length e)).getD k .undef) _
    rw [getD_set]
    split
    · rename_i hjk
      have := ha j hjk.2
      have he' : args.getD j .undef = .nils e := he
      rw [he'] at this
      rw [← hjk.1]
      generalize hu : vs.getD j undef = u at this
      cases this
      exact .rowNil _ _ (thNew_same _ _ _)
    · exact c1 _ _ (ha k hk')
  · exact ⟨th, rel, ha, rfl⟩
theorem upAts_ok {vs : Array Value} : ∀ (l : List Nat) (p : S U × List (AV U)) (th : Nat → Th), RelT X w0 N0 B0 th p.1 a w → ArgsRel X w (NN N0 th) th p.2 vs →
    ∃ th', RelT X w0 N0 B0 th' (l.foldl (fun p j => upAt j p) p).1 a w ∧ ArgsRel X w (NN N0 th') th' (l.foldl (fun p j => upAt j p) p).2 vs ∧ (l.foldl (fun p j => upAt j p) p).2.length = p.2.length
  | [], p, th, h1, h2 => ⟨th, h1, h2, rfl⟩
  | j :: l, p, th, h1, h2 => by
    obtain ⟨th1, g1, g2, g3⟩ := upAt_ok j h1 h2
    obtain ⟨th2, k1, k2, k3⟩ := upAts_ok l (upAt j p) th1 g1 g2
    exact ⟨th2, k1, k2, k3.trans g3⟩
theorem box_retagC (m : Mem X w0 N0 B0 th h w) {i c : Nat} {cs : List (AV U)} {v : AV U} (ho : h.getD i .dead = .box cs) (hv : ∀ u, VRel X w (NN N0 th) th (cs.getD c .undef) u → VRel X w (NN N0 th) th v u) : Mem X w0 N0 B0 th (h.set i (.box (cs.set c v))) w where
  objs := fun j hj => by
    have hj' : j < h.length := by simpa using hj
    by_cases e : j = i
    · subst e
      rw [getD_set_same _ _ _ hj']
      obtain ⟨b, T, cur, h1, h2, h3, h4⟩ := m.box_at ho
      refine ⟨b, T, cur, h1, h2, by simpa using h3, fun k hk => ?_⟩
      have hk' : k < cs.length := by simpa using hk
      rw [getD_set]
      split
      · rename_i hc; rw [← hc.1]; exact hv _ (h4 c hc.2)
      · exact h4 k hk'
    · rw [getD_set_other _ _ _ _ e]; exact m.objs j hj'
  glob := m.glob
  gv := m.gv
  out := fun j hj => m.out j (by simpa using hj)
  own := m.own
  inj := m.inj
  n0 := m.n0
  size := m.size
  os := m.os
  tape := m.tape
  output := m.output
  pin := m.pin
  keep := m.keep
theorem rowBox_ok (ic : Nat × Nat) (rel : RelT X w0 N0 B0 th st a w) : ∃ th', RelT X w0 N0 B0 th' (rowBox ic st) a w ∧ (∀ x v, VRel X w (NN N0 th) th x v → VRel X w (NN N0 th') th' x v) := by
  unfold rowBox
  split
  · rename_i cs ho
    split
    · rename_i e he
      obtain ⟨r1, c1⟩ := newNil_relT rel e
      have ho' : (st.h ++ [AO.row e []]).getD ic.1 .dead = .box cs := by rw [getD_snoc_lt _ _ (getD_alive ho (by simp))]; exact ho
      refine ⟨_, ⟨r1.len, r1.slots, box_retagC r1.mem ho' fun u hu => ?_, r1.defers⟩, c1.rel⟩
      rw [he] at hu
      cases hu
      exact .rowNil _ _ (thNew_same _ _ _)
    · exact ⟨th, rel, fun _ _ h => h⟩
  · exact ⟨th, rel, fun _ _ h => h⟩
theorem rowBoxes_ok : ∀ (l : List (Nat × Nat)) (st : S U) (th : Nat → Th), RelT X w0 N0 B0 th st a w → ∃ th', RelT X w0 N0 B0 th' (l.foldl (fun st ic => rowBox ic st) st) a w ∧ (∀ x v, VRel X w (NN N0 th) th x v → VRel X w (NN N0 th') th' x v)
  | [], st, th, h => ⟨th, h, fun _ _ h => h⟩
  | ic :: l, st, th, h => by
    obtain ⟨th1, g1, g2⟩ := rowBox_ok ic h
    obtain ⟨th2, k1, k2⟩ := rowBoxes_ok l _ th1 g1
    exact ⟨th2, k1, fun x v hx => k2 x v (g2 x v hx)⟩
theorem upBoxes_ok (o : List Nat) (rel : RelT X w0 N0 B0 th st a w) : ∃ th', RelT X w0 N0 B0 th' (upBoxes o st) a w ∧ (∀ x v, VRel X w (NN N0 th) th x v → VRel X w (NN N0 th') th' x v) := rowBoxes_ok _ _ _ rel
theorem up2_ok {vs : Array Value} (ms : List Md) {p : S U × List (AV U)} (rel : RelT X w0 N0 B0 th p.1 a w) (ha : ArgsRel X w (NN N0 th) th p.2 vs) :
    ∃ th', RelT X w0 N0 B0 th' (up2 ms p).1 a w ∧ ArgsRel X w (NN N0 th') th' (up2 ms p).2 vs ∧ (up2 ms p).2.length = p.2.length := by
  obtain ⟨th2, k1, k2⟩ := upBoxes_ok (closeR p.1.h (mRefs .hand ms p.2)) rel
  exact ⟨th2, k1, argsRel_mono k2 ha, rfl⟩
theorem upAll_ok {vs : Array Value} (ms : List Md) {p : S U × List (AV U)} (rel : RelT X w0 N0 B0 th p.1 a w) (ha : ArgsRel X w (NN N0 th) th p.2 vs) :
    ∃ th', RelT X w0 N0 B0 th' (upAll ms p).1 a w ∧ ArgsRel X w (NN N0 th') th' (upAll ms p).2 vs ∧ (upAll ms p).2.length = p.2.length := by
  have h1 := upAts_ok (nilArgs ms 0 p.2) p th rel ha
  unfold upAll
  change ∃ th', RelT X w0 N0 B0 th' (up1 ms p).1 a w ∧ ArgsRel X w (NN N0 th') th' (up1 ms p).2 vs ∧ (up1 ms p).2.length = p.2.length at h1
  generalize up1 ms p = q at h1 ⊢
  obtain ⟨th1, g1, g2, g3⟩ := h1
  obtain ⟨th2, k1, k2, k3⟩ := up2_ok ms g1 g2
  exact ⟨th2, k1, k2, k3.trans g3⟩
theorem noImm_ind {x : AV U} {v : Value} (hx : VRel X w N th x v) : ∀ d, noImm d x = true → VRel X w N' th x v := by
  induction hx with
  | undef v => intro d _; exact .undef v
  | bool b => intro d _; exact .bool b
  | int k n => intro d _; exact .int k n
  | str s => intro d _; exact .str s
  | val v ho => intro d _; exact .val v ho
  | nils e => intro d _; exact .nils e
  | imm0 e a c => intro d hd; cases d <;> simp [noImm] at hd
  | imm e l b off c vs hlc hl hn hc hv ih => intro d hd; cases d <;> simp [noImm] at hd
  | pimm e l j c b off vs hl hn hc hv ih => intro d hd; cases d <;> simp [noImm] at hd
  | row i e b cap n h hn => intro d _; exact .row i e b cap n h hn
  | rowNil i e h => intro d _; exact .rowNil i e h
  | rowDead i e v ho h => intro d _; exact .rowDead i e v ho h
  | view i e off n b cap len c h hn hl h0 hc hcc => intro d _; exact .view i e off n b cap len c h hn hl h0 hc hcc
  | view0 i e off a c ho => intro d _; exact .view0 i e off a c ho
  | viewNil i e h => intro d _; exact .viewNil i e h
  | viewDead i e off n v ho h => intro d _; exact .viewDead i e off n v ho h
  | prow i e j c b cap h => intro d _; exact .prow i e j c b cap h
  | prowDead i e j c v ho h => intro d _; exact .prowDead i e j c v ho h
  | ptr i c b cap h => intro d _; exact .ptr i c b cap h
  | ptrDead i c v ho h => intro d _; exact .ptrDead i c v ho h
  | mp i b cap h => intro d _; exact .mp i b cap h
  | mpDead i v ho h => intro d _; exact .mpDead i v ho h
  | gl g => intro d _; exact .gl g
  | agg cs vs hs h ih =>
    intro d hd
    cases d with
    | zero => simp [noImm] at hd
    | succ d =>
      refine .agg cs vs hs fun j hj => ih j hj d (List.all_eq_true.1 hd _ ?_)
      rw [List.getD_eq_getElem?_getD, List.getElem?_eq_getElem hj]; exact List.getElem_mem hj
  | tup cs vs hs h ih =>
    intro d hd
    cases d with
    | zero => simp [noImm] at hd
    | succ d =>
      refine .tup cs vs hs fun j hj => ih j hj d (List.all_eq_true.1 hd _ ?_)
      rw [List.getD_eq_getElem?_getD, List.getElem?_eq_getElem hj]; exact List.getElem_mem hj
  | ifc t x v h ih =>
    intro d hd
    cases d with
    | zero => simp [noImm] at hd
    | succ d => exact .ifc t x v (ih d hd)
  | fn f cs vs hs h ih =>
    intro d hd
    cases d with
    | zero => simp [noImm] at hd
    | succ d =>
      refine .fn f cs vs hs fun j hj => ih j hj d (List.all_eq_true.1 hd _ ?_)
      rw [List.getD_eq_getElem?_getD, List.getElem?_eq_getElem hj]; exact List.getElem_mem hj
theorem noImm_rel (d : Nat) {x : AV U} {v : Value} (hp : noImm d x = true) (hx : VRel X w N th x v) : VRel X w N' th x v := noImm_ind hx d hp
theorem flat_rel {x : AV U} {v : Value} (hf : okFlat x = true) (hx : VRel X w N th x v) : VRel X w' N' th' x v := by
  cases x <;> simp [okFlat] at hf <;> cases hx
  · exact .bool _
  · exact .int _ _
  · exact .str _
theorem noImmO_rel (g : Good X) {i : Nat} {o : AO U} (hn : noImmO X o = true) (h : ORel X w N th i o) : ORel X w N' th i o := by
  cases o with
  | dead => exact h
  | hole => exact h
  | box cs =>
    obtain ⟨b, T, cur, h1, h2, h3, h4⟩ := h
    refine ⟨b, T, cur, h1, h2, h3, fun j hj => noImm_rel 8 (List.all_eq_true.1 hn _ ?_) (h4 j hj)⟩
    rw [List.getD_eq_getElem?_getD, List.getElem?_eq_getElem hj]
    exact List.getElem_mem hj
  | row e l =>
    rcases h with h1 | ⟨b, cap, cur, h1, h2, h3, h4, h5, h6⟩
    · exact .inl h1
    · refine .inr ⟨b, cap, cur, h1, h2, h3, h4, h5, fun j hj k hk => flat_rel (List.all_eq_true.1 (g.flat e hn l[j]) _ ?_) (h6 j hj k hk)⟩
      have hk' : k < (cellsOf (X.enc e l[j])).length := by rw [g.law.size]; exact hk
      rw [List.getD_eq_getElem?_getD, List.getElem?_eq_getElem hk']
      exact List.getElem_mem hk'
  | mp kt e l =>
    obtain ⟨b, mes, clock, h1, h2, h3, h4⟩ := h
    refine ⟨b, mes, clock, h1, h2, h3, fun j hj => ?_⟩
    obtain ⟨m, m1, m2, m3⟩ := h4 j hj
    refine ⟨m, m1, m2, ?_⟩
    have hfl := g.flat e hn l[j].2
    revert hfl m3
    generalize X.enc e l[j].2 = x
    generalize m.val = mv
    intro m3 hfl
    cases x with
    | agg cs =>
      cases m3 with
      | agg _ vs hs hj' =>
        refine .agg _ vs hs fun q hq => flat_rel (List.all_eq_true.1 hfl _ ?_) (hj' q hq)
        simp only [cellsOf]
        rw [List.getD_eq_getElem?_getD, List.getElem?_eq_getElem hq]
        exact List.getElem_mem hq
    | _ => exact flat_rel (by simpa [cellsOf] using hfl) m3
end
end Go.Abs
namespace Go.Abs
open Go Go.RowKit
variable {U : Nat → Type} {R : Type}
section
variable {P : Program} {X : Univ U} {w0 w w' : World} {N0 N N' : Nat → Prop} {B0 : Nat → Th} {th th' : Nat → Th} {st : S U} {a : Act} {h h' : List (AO U)} {r : R} {o : List Nat}
theorem posIn_some {i : Nat} : ∀ {o : List Nat} {k j : Nat}, posIn o k i = some j → k ≤ j ∧ o[j - k]? = some i
  | [], _, _, h => by cases h
  | x :: r, k, j, h => by
    unfold posIn at h
    split at h
    · rename_i hx
      injection h with h; subst h
      simp only [beq_iff_eq] at hx
      subst hx
      exact ⟨Nat.le_refl _, by simp⟩
    · obtain ⟨h1, h2⟩ := posIn_some h
      refine ⟨by omega, ?_⟩
      have : j - k = (j - (k + 1)) + 1 := by omega
      rw [this]; simpa using h2
theorem posIn_none {i : Nat} : ∀ {o : List Nat} {k : Nat}, posIn o k i = none → i ∉ o
  | [], _, _ => by simp
  | x :: r, k, h => by
    unfold posIn at h
    split at h
    · cases h
    · rename_i hx
      have := posIn_none h
      simp only [beq_iff_eq] at hx
      intro hm
      rcases List.mem_cons.1 hm with e | e
      · exact hx e.symm
      · exact this e
theorem posIn_at {o : List Nat} (hn : o.Nodup) {i j : Nat} (h : o[j]? = some i) : posIn o 0 i = some j := by
  cases hp : posIn o 0 i with
  | none =>
    obtain ⟨h1, h2⟩ := List.getElem?_eq_some_iff.1 h
    exact absurd (h2 ▸ List.getElem_mem h1) (posIn_none hp)
  | some q =>
    obtain ⟨_, h2⟩ := posIn_some hp
    simp only [Nat.sub_zero] at h2
    obtain ⟨a1, a2⟩ := List.getElem?_eq_some_iff.1 h
    obtain ⟨b1, b2⟩ := List.getElem?_eq_some_iff.1 h2
    rw [nodup_inj hn b1 a1 (b2.trans a2.symm)]
def Nc (N0 : Nat → Prop) (th : Nat → Th) (o lr : List Nat) (b : Nat) : Prop := N0 b ∨ ∃ i c, th i = .blk b c ∧ i ∉ o ∧ i ∉ lr
theorem nc_sub {lr : List Nat} {b : Nat} (h : NN (Nc N0 th o lr) (thAt th o) b) : NN N0 th b := by
  rcases h with (h | ⟨i, c, h, _⟩) | ⟨j, c, h⟩
  · exact .inl h
  · exact .inr ⟨i, c, h⟩
  · unfold thAt at h
    split at h
    · exact .inr ⟨_, c, h⟩
    · cases h
theorem sb_gIdx (o lr : List Nat) : SbOK X w (NN (Nc N0 th o lr) (thAt th o)) th (thAt th o) (gIdx o) := by
  intro i
  cases hg : (gIdx o i : Sb U) with
  | drop => trivial
  | num j =>
    obtain ⟨_, h2⟩ := idxG_num hg
    simp only [Nat.sub_zero] at h2
    show thAt th o j = th i
    unfold thAt; rw [h2]
  | lst e l => exact absurd hg idxG_lst
theorem mem_handed (g : Good X) (m : Mem X w0 N0 B0 th h w) (ho : o.Nodup ∧ ∀ j ∈ o, j < h.length) (lr : List Nat) :
    Mem X w (Nc N0 th o lr) (thAt th o) (thAt th o) (o.map fun i => subO (gIdx o) (h.getD i .dead)) w where
  objs := fun j hj => by
    have hj' : j < o.length := by simpa using hj
    have e1 : (o.map fun i => subO (gIdx o) (h.getD i .dead)).getD j .dead = subO (gIdx o) (h.getD o[j] .dead) := by
      rw [List.getD_eq_getElem?_getD, List.getElem?_map, List.getElem?_eq_getElem hj']; rfl
    rw [e1]
    refine subO_rel g.closed g.pos (fun b => nc_sub) (i := o[j]) ?_ (by unfold thAt; rw [List.getElem?_eq_getElem hj']) (m.objs o[j] (ho.2 _ (List.getElem_mem hj')))
    exact sb_gIdx o lr
  glob := fun g' => free_rel g.closed g.pos (fun b => nc_sub) (g.closed.gl g') (m.glob g')
  gv := fun g' a ha => by
    obtain ⟨g1, g2, T, mm, g3⟩ := m.gv g' a ha
    refine ⟨Nat.lt_of_lt_of_le g1 m.size, ?_, T, mm, (m.keep g' g1 g2).trans g3⟩
    rintro ⟨i, c, hi⟩
    unfold thAt at hi
    split at hi
    · rename_i i' _
      obtain ⟨q, _, _⟩ := m.own i' g' c hi
      rcases q with q | q
      · exact g2 q
      · omega
    · cases hi
  out := fun j hj => by
    have hj' : o.length ≤ j := by simpa using hj
    unfold thAt; rw [List.getElem?_eq_none hj']
  own := fun j b c hj => by
    refine ⟨.inl ⟨j, c, hj⟩, ?_⟩
    unfold thAt at hj
    split at hj
    · rename_i i hi
      obtain ⟨_, h2, h3⟩ := m.own i b c hj
      refine ⟨h2, fun hn => ?_⟩
      rcases hn with hn | ⟨i', c', g1, g2, _⟩
      · exact h3 hn
      · have := m.inj i i' b c c' hj g1
        subst this
        obtain ⟨q1, q2⟩ := List.getElem?_eq_some_iff.1 hi
        exact g2 (q2 ▸ List.getElem_mem q1)
    · cases hj
  inj := fun i j b c d hi hj => by
    unfold thAt at hi hj
    split at hi
    · rename_i i' hi'
      split at hj
      · rename_i j' hj'
        have e := m.inj i' j' b c d hi hj
        subst e
        obtain ⟨a1, a2⟩ := List.getElem?_eq_some_iff.1 hi'
        obtain ⟨b1, b2⟩ := List.getElem?_eq_some_iff.1 hj'
        exact nodup_inj ho.1 a1 b1 (a2.trans b2.symm)
      · cases hj
    · cases hi
  n0 := fun b hb => by
    rcases hb with hb | ⟨i, c, hi, _⟩
    · exact Nat.lt_of_lt_of_le (m.n0 b hb) m.size
    · exact (m.own i b c hi).2.1
  size := Nat.le_refl _
  os := rfl
  tape := rfl
  output := rfl
  pin := fun _ => .inr (.inl rfl)
  keep := fun _ _ _ => rfl
def thBack (th th' : Nat → Th) (o : List Nat) (p new i : Nat) : Th :=
  match posIn o 0 i with
  | some j => th' j
  | none => if p ≤ i ∧ i < p + new then th' (i - p + o.length) else th i
theorem posIn_out {o : List Nat} {i : Nat} (h : i ∉ o) : posIn o 0 i = none := by
  cases hp : posIn o 0 i with
  | none => rfl
  | some q =>
    obtain ⟨_, h2⟩ := posIn_some hp
    obtain ⟨b1, b2⟩ := List.getElem?_eq_some_iff.1 h2
    exact absurd (b2 ▸ List.getElem_mem b1) h
theorem thBack_in (hn : o.Nodup) {p new i j : Nat} (h : o[j]? = some i) : thBack th th' o p new i = th' j := by
  unfold thBack; rw [posIn_at hn h]
theorem thBack_other {p new i : Nat} (h : i ∉ o) (hi : ¬ (p ≤ i ∧ i < p + new)) : thBack th th' o p new i = th i := by
  unfold thBack; rw [posIn_out h]; simp only [if_neg hi]
theorem thBack_new {p new i : Nat} (h : i ∉ o) (hi : p ≤ i ∧ i < p + new) : thBack th th' o p new i = th' (i - p + o.length) := by
  unfold thBack; rw [posIn_out h]; simp only [if_pos hi]
inductive At (o : List Nat) (p new i : Nat) : Prop where
  | inn (j : Nat) (h : o[j]? = some i) (hj : j < o.length)
  | other (h : i ∉ o) (hi : ¬ (p ≤ i ∧ i < p + new))
  | new (h : i ∉ o) (hi : p ≤ i ∧ i < p + new)
theorem at_any (o : List Nat) (p new i : Nat) : At o p new i := by
  by_cases h : i ∈ o
  · obtain ⟨j, h1, h2⟩ := List.mem_iff_getElem.1 h
    exact .inn j (by rw [List.getElem?_eq_getElem h1, h2]) h1
  · by_cases hi : p ≤ i ∧ i < p + new
    · exact .new h hi
    · exact .other h hi
theorem merge_len (o : List Nat) (p : Nat) (h h' : List (AO U)) : (mergeH o p h h').length = max h.length (p + (h'.length - o.length)) := by simp [mergeH]
theorem merge_get (o : List Nat) (p : Nat) (h h' : List (AO U)) {i : Nat} (hi : i < max h.length (p + (h'.length - o.length))) : (mergeH o p h h').getD i .dead = mergeAt o p h h' i := by
  unfold mergeH
  rw [List.getD_eq_getElem?_getD, List.getElem?_map, List.getElem?_range hi]; rfl
theorem mem_back (g : Good X) (m : Mem X w0 N0 B0 th h w) {p : Nat} (ho : o.Nodup ∧ ∀ j ∈ o, j < h.length) {lr : List Nat} (m' : Mem X w (Nc N0 th o lr) (thAt th o) th' h' w') (hlen : o.length ≤ h'.length)
    (hop : ∀ j ∈ o, ¬ (p ≤ j ∧ j < p + (h'.length - o.length))) (hole : ∀ i, p ≤ i ∧ i < p + (h'.length - o.length) → th i = .none) (N1 : Nat → Prop)
    (hN1 : ∀ b, NN N0 (thBack th th' o p (h'.length - o.length)) b → N1 b) (hobj : ∀ j, j < h'.length → ORel X w' N1 th' j (h'.getD j .dead)) (hph : p ≤ h.length) :
    Mem X w0 N0 B0 (thBack th th' o p (h'.length - o.length)) (mergeH o p h h') w' ∧ Carries X N0 w w' th (thBack th th' o p (h'.length - o.length)) ∧
      (∀ x v, VRel X w' N1 th' x v → VRel X w' (NN N0 (thBack th th' o p (h'.length - o.length))) (thBack th th' o p (h'.length - o.length)) (sub 8 (backG o p h'.length) x) v) := by
  have hpos := ho.1
  have sb : SbOK X w' (NN N0 (thBack th th' o p (h'.length - o.length))) th' (thBack th th' o p (h'.length - o.length)) (backG o p h'.length : Nat → Sb U) := by
    intro j
    unfold backG
    by_cases hj : j < o.length
    · rw [if_pos hj]
      show thBack th th' o p _ (o.getD j 0) = th' j
      exact thBack_in hpos (by rw [List.getD_eq_getElem?_getD, List.getElem?_eq_getElem hj]; rfl)
    · rw [if_neg hj]
      by_cases hjh : j < h'.length
      · rw [if_pos hjh]
        show thBack th th' o p _ (p + (j - o.length)) = th' j
        rw [thBack_new (fun hm => hop _ hm ⟨by omega, by omega⟩) ⟨by omega, by omega⟩]
        congr 1; omega
      · rw [if_neg hjh]; trivial
  have conv : ∀ x v, VRel X w' N1 th' x v → VRel X w' (NN N0 (thBack th th' o p (h'.length - o.length))) (thBack th th' o p (h'.length - o.length)) (sub 8 (backG o p h'.length) x) v := fun x v hx => sub_rel g.closed g.pos hN1 sb hx 8
  have pinT : ∀ i, th i = .none ∨ thBack th th' o p (h'.length - o.length) i = th i ∨ thBack th th' o p (h'.length - o.length) i = .dead := by
    intro i
    rcases at_any o p (h'.length - o.length) i with ⟨j, hj, _⟩ | ⟨hi, hlt⟩ | ⟨hi, hge⟩
    · rw [thBack_in hpos hj]
      have e : thAt th o j = th i := by unfold thAt; rw [hj]
      rcases m'.pin j with q | q | q
      · rw [e] at q; exact .inl q
      · rw [e] at q; exact .inr (.inl q)
      · exact .inr (.inr q)
    · exact .inr (.inl (thBack_other hi hlt))
    · exact .inl (hole i hge)
  have newT : ∀ b, Own (thBack th th' o p (h'.length - o.length)) b → Own th b ∨ w.heap.size ≤ b := by
    rintro b ⟨i, c, hi⟩
    have key : ∀ j, th' j = .blk b c → Own th b ∨ w.heap.size ≤ b := fun j hj => by
      rcases (m'.own j b c hj).1 with ⟨q, d, hq⟩ | hq
      · unfold thAt at hq
        split at hq
        · exact .inl ⟨_, d, hq⟩
        · cases hq
      · exact .inr hq
    rcases at_any o p (h'.length - o.length) i with ⟨j, hj, _⟩ | ⟨hi', hlt⟩ | ⟨hi', hge⟩
    · rw [thBack_in hpos hj] at hi; exact key j hi
    · rw [thBack_other hi' hlt] at hi; exact .inl ⟨i, c, hi⟩
    · rw [thBack_new hi' hge] at hi; exact key _ hi
  have same : ∀ b, b < w.heap.size → ¬ Own (thAt th o) b → w'.heap[b]? = w.heap[b]? := m'.keep
  have sub_own : ∀ b, Own (thAt th o) b → Own th b := by
    rintro b ⟨j, c, hj⟩
    unfold thAt at hj
    split at hj
    · exact ⟨_, c, hj⟩
    · cases hj
  have car : Carries X N0 w w' th (thBack th th' o p (h'.length - o.length)) := ⟨m'.size, fun b hb hn => same b hb fun ho => hn (sub_own b ho), pinT, newT⟩
  have len := merge_len o p h h'
  refine ⟨?_, car, conv⟩
  exact {
    objs := fun i hi => by
      rw [len] at hi
      rw [merge_get o p h h' hi]
      unfold mergeAt
      rcases at_any o p (h'.length - o.length) i with ⟨j, hj, hjl⟩ | ⟨hi2, hlt⟩ | ⟨hi2, hge⟩
      · rw [posIn_at hpos hj]
        simp only
        exact subO_rel g.closed g.pos hN1 sb (thBack_in hpos hj) (hobj j (by omega))
      · rw [posIn_out hi2]
        simp only [if_neg hlt]
        by_cases hih : i < h.length
        · refine (m.objs i hih).mono (thBack_other hi2 hlt) (fun b c hb => same b (m.own i b c hb).2.1 ?_) car.rel
          rintro ⟨j, d, hj⟩
          unfold thAt at hj
          split at hj
          · rename_i i' hq'
            obtain ⟨q1, q2⟩ := List.getElem?_eq_some_iff.1 hq'
            have := m.inj i' i b d c hj hb
            exact hi2 (this ▸ q2 ▸ List.getElem_mem q1)
          · cases hj
        · omega
      · rw [posIn_out hi2]
        simp only [if_pos hge]
        exact subO_rel g.closed g.pos hN1 sb (thBack_new hi2 hge) (hobj _ (by omega))
    glob := fun g' => car.rel _ _ (m.glob g')
    gv := m.gv
    out := fun i hi => by
      rw [len] at hi
      rw [thBack_other (fun hm => by have := ho.2 i hm; omega) (by omega)]
      exact m.out i (by omega)
    own := fun i b c hi => by
      have key : ∀ j, th' j = .blk b c → (Own B0 b ∨ w0.heap.size ≤ b) ∧ b < w'.heap.size ∧ ¬ N0 b := fun j hj => by
        obtain ⟨q1, q2, q3⟩ := m'.own j b c hj
        refine ⟨?_, q2, fun hn => q3 (.inl hn)⟩
        rcases q1 with ⟨q, d, hq⟩ | hq
        · obtain ⟨q', d', hq'⟩ := sub_own b ⟨q, d, hq⟩
          exact (m.own q' b d' hq').1
        · have := m.size; exact .inr (by omega)
      rcases at_any o p (h'.length - o.length) i with ⟨j, hj, _⟩ | ⟨hi', hlt⟩ | ⟨hi', hge⟩
      · rw [thBack_in hpos hj] at hi; exact key j hi
      · rw [thBack_other hi' hlt] at hi
        obtain ⟨q1, q2, q3⟩ := m.own i b c hi
        exact ⟨q1, Nat.lt_of_lt_of_le q2 m'.size, q3⟩
      · rw [thBack_new hi' hge] at hi; exact key _ hi
    inj := fun i k b c d hi hk => by
      have cross : ∀ i q c d, i ∉ o → th i = .blk b c → th' q = .blk b d → False := fun i q c d h1 h2 h3 => by
        rcases (m'.own q b d h3).1 with ⟨j, e, hj⟩ | hge
        · unfold thAt at hj
          split at hj
          · rename_i i' hi'
            have := m.inj i' i b e c hj h2
            subst this
            obtain ⟨q1, q2⟩ := List.getElem?_eq_some_iff.1 hi'
            exact h1 (q2 ▸ List.getElem_mem q1)
          · cases hj
        · have := (m.own i b c h2).2.1; omega
      rcases at_any o p (h'.length - o.length) i with ⟨j, hj, hjl⟩ | ⟨hi', hlt⟩ | ⟨hi', hge⟩
      · rw [thBack_in hpos hj] at hi
        rcases at_any o p (h'.length - o.length) k with ⟨j2, hj2, hjl2⟩ | ⟨hk', hlt2⟩ | ⟨hk', hge2⟩
        · rw [thBack_in hpos hj2] at hk
          have := m'.inj j j2 b c d hi hk
          subst this
          rw [hj] at hj2; injection hj2
        · rw [thBack_other hk' hlt2] at hk; exact (cross k j d c hk' hk hi).elim
        · rw [thBack_new hk' hge2] at hk
          have := m'.inj _ _ b c d hi hk
          omega
      · rw [thBack_other hi' hlt] at hi
        rcases at_any o p (h'.length - o.length) k with ⟨j2, hj2, hjl2⟩ | ⟨hk', hlt2⟩ | ⟨hk', hge2⟩
        · rw [thBack_in hpos hj2] at hk; exact (cross i j2 c d hi' hi hk).elim
        · rw [thBack_other hk' hlt2] at hk; exact m.inj i k b c d hi hk
        · rw [thBack_new hk' hge2] at hk; exact (cross i _ c d hi' hi hk).elim
      · rw [thBack_new hi' hge] at hi
        rcases at_any o p (h'.length - o.length) k with ⟨j2, hj2, hjl2⟩ | ⟨hk', hlt2⟩ | ⟨hk', hge2⟩
        · rw [thBack_in hpos hj2] at hk
          have := m'.inj _ _ b c d hi hk
          omega
        · rw [thBack_other hk' hlt2] at hk; exact (cross k _ d c hk' hk hi).elim
        · rw [thBack_new hk' hge2] at hk
          have := m'.inj _ _ b c d hi hk
          omega
    n0 := m.n0
    size := Nat.le_trans m.size m'.size
    os := m'.os.trans m.os
    tape := m'.tape.trans m.tape
    output := m'.output.trans m.output
    pin := pin_step m.pin pinT
    keep := fun k hk hB => by
      have hk' : k < w.heap.size := Nat.lt_of_lt_of_le hk m.size
      refine (same k hk' fun hown => ?_).trans (m.keep k hk hB)
      obtain ⟨i, c, hi⟩ := sub_own k hown
      rcases (m.own i k c hi).1 with q | q
      · exact hB q
      · omega }
theorem nn_back {p new : Nat} (hpos : o.Nodup) {b : Nat} (hb : NN N0 (thBack th th' o p new) b) : NN (Nc N0 th o []) th' b := by
  rcases hb with hb | ⟨i, c, hi⟩
  · exact .inl (.inl hb)
  · rcases at_any o p new i with ⟨j, hj, _⟩ | ⟨hi', hlt⟩ | ⟨hi', hge⟩
    · rw [thBack_in hpos hj] at hi; exact .inr ⟨j, c, hi⟩
    · rw [thBack_other hi' hlt] at hi; exact .inl (.inr ⟨i, c, hi, hi', by simp⟩)
    · rw [thBack_new hi' hge] at hi; exact .inr ⟨_, c, hi⟩
theorem sb_gLend (g : Good X) (m : Mem X w0 N0 B0 th h w) {o lr : List Nat} (hlr : ∀ i ∈ lr, i ∉ o) : SbOK X w (NN (Nc N0 th o lr) (thAt th o)) th (thAt th o) (gLend h lr) := by
  intro i
  unfold gLend
  split
  · trivial
  · rename_i j hj
    split at hj
    · unfold gRow at hj
      split at hj <;> cases hj
    · cases hj
  · rename_i e l hj
    split at hj
    · rename_i hc
      have hil : i ∈ lr := by simpa using hc
      unfold gRow at hj
      split at hj
      · rename_i e' l' hrow
        injection hj with h1 h2; subst h1; cases h2
        refine row_lst g.closed g.pos m (fun b => nc_sub) hrow fun b c hb hn => ?_
        rcases hn with (hn | ⟨i', c', q1, q2, q3⟩) | ⟨j, c', hj⟩
        · exact (m.own i b c hb).2.2 hn
        · have := m.inj i i' b c c' hb q1
          subst this; exact q3 hil
        · unfold thAt at hj
          split at hj
          · rename_i i' hi'
            have := m.inj i' i b c' c hj hb
            subst this
            obtain ⟨q1, q2⟩ := List.getElem?_eq_some_iff.1 hi'
            exact hlr _ hil (q2 ▸ List.getElem_mem q1)
          · cases hj
      · cases hj
    · cases hj
theorem argC_ok (g : Good X) (m : Mem X w0 N0 B0 th h w) {o lr : List Nat} (hlr : ∀ i ∈ lr, i ∉ o) (md : Md) {x : AV U} {v : Value} (hx : VRel X w (NN N0 th) th x v) :
    VRel X w (NN (Nc N0 th o lr) (thAt th o)) (thAt th o) (argC h o lr md x) v := by
  unfold argC
  split
  · exact nrm_rel (sub_rel g.closed g.pos (fun b => nc_sub) (sb_gLend g m hlr) hx 8) 8
  · exact nrm_rel (sub_rel g.closed g.pos (fun b => nc_sub) (fun _ => trivial) hx 8) 8
  · exact nrm_rel (sub_rel g.closed g.pos (fun b => nc_sub) (sb_gIdx o lr) hx 8) 8
theorem argsC_ok (g : Good X) (m : Mem X w0 N0 B0 th h w) {o lr : List Nat} (hlr : ∀ i ∈ lr, i ∉ o) :
    ∀ (ms : List Md) (args : List (AV U)), (argsC h o lr ms args).length = args.length ∧ ∀ (vs : Nat → Value), (∀ j, j < args.length → VRel X w (NN N0 th) th (args.getD j .undef) (vs j)) →
      ∀ j, j < args.length → VRel X w (NN (Nc N0 th o lr) (thAt th o)) (thAt th o) ((argsC h o lr ms args).getD j .undef) (vs j)
  | _, [] => ⟨rfl, fun vs _ j hj => by simp at hj⟩
  | ms, x :: xs => by
    obtain ⟨h1, h2⟩ := argsC_ok g m hlr ms.tail xs
    refine ⟨by simp [argsC, h1], fun vs hr j hj => ?_⟩
    cases j with
    | zero => exact argC_ok g m hlr _ (hr 0 (by simp))
    | succ j =>
      have := h2 (fun j => vs (j + 1)) (fun j hj => hr (j + 1) (by simpa using hj)) j (by simpa using hj)
      simpa only [argsC, List.getD_cons_succ] using this
theorem closeR_ok (h : List (AO U)) (l : List Nat) : (closeR h l).Nodup ∧ ∀ j ∈ closeR h l, j < h.length := close_ok _ _ (insAll_ok _ _ ⟨List.nodup_nil, fun j h => by cases h⟩)
theorem callN_ok (g : Good X) {n : Nat} {ms : List Md} {f : Fn U R} (hf : FnOK P X n f) {args : List (AV U)} {K : AV U → S U → Option R} (hr : callN X ms f st args K = some r) :
    ∃ v st', K v st' = some r ∧ ∀ w0 N0 B0 th a w (vs : Array Value), RelT X w0 N0 B0 th st a w → vs.size = args.length → ArgsRel X w (NN N0 th) th args vs →
      Calls P n vs w (fun e w' => ∃ u th', e = .returned u ∧ RelT X w0 N0 B0 th' st' a w' ∧ VRel X w' (NN N0 th') th' v u) := by
  unfold callN at hr
  generalize ho : closeR st.h (mRefs .hand ms args) = o at hr
  generalize hlr : (mRefs .lend ms args).filter (isRow st.h) = lr at hr
  simp only at hr
  have hok : o.Nodup ∧ ∀ j ∈ o, j < st.h.length := by rw [← ho]; exact closeR_ok _ _
  obtain ⟨hc, hr⟩ := cond_none hr
  have hlo : ∀ i ∈ lr, i ∉ o := fun i hi => by
    have := List.all_eq_true.1 hc i hi
    simpa using this
  obtain ⟨v, h', hk, hp⟩ := hf _ _ _ _ hr
  obtain ⟨hc2, hk⟩ := cond_none hk
  rw [Bool.and_eq_true, decide_eq_true_eq, Bool.or_eq_true] at hc2
  obtain ⟨hlen, himm⟩ := hc2
  refine ⟨_, _, hk, fun w0 N0 B0 th a w vs rel hs ha => ?_⟩
  obtain ⟨e1, e2⟩ := argsC_ok g rel.mem hlo ms args
  have m1 := mem_handed g rel.mem hok lr
  refine (hp w _ _ vs m1 (by rw [e1]; exact hs) (fun j hj => by rw [e1] at hj; exact e2 (fun j => vs.getD j undef) ha j hj)).mono fun e w' hh => ?_
  obtain ⟨u, th', rfl, m', hv⟩ := hh
  have hop : ∀ j ∈ o, ¬ (st.h.length ≤ j ∧ j < st.h.length + (h'.length - o.length)) := fun j hj hh => by have := hok.2 j hj; omega
  have hole : ∀ i, st.h.length ≤ i ∧ i < st.h.length + (h'.length - o.length) → th i = .none := fun i hi => rel.mem.out i hi.1
  have hex : ∃ N1 : Nat → Prop, (∀ b, NN N0 (thBack th th' o st.h.length (h'.length - o.length)) b → N1 b) ∧ VRel X w' N1 th' v u ∧ ∀ j, j < h'.length → ORel X w' N1 th' j (h'.getD j .dead) := by
    rcases himm with hl | hl
    · have hnil : lr = [] := by simpa using hl
      subst hnil
      exact ⟨NN (Nc N0 th o []) th', fun b hb => nn_back hok.1 hb, hv, fun j hj => m'.objs j hj⟩
    · rw [Bool.and_eq_true] at hl
      refine ⟨NN N0 (thBack th th' o st.h.length (h'.length - o.length)), fun b hb => hb, noImm_rel 8 hl.1 hv, fun j hj => noImmO_rel g (List.all_eq_true.1 hl.2 _ ?_) (m'.objs j hj)⟩
      rw [List.getD_eq_getElem?_getD, List.getElem?_eq_getElem hj]; exact List.getElem_mem hj
  obtain ⟨N1, h1, h2, h3⟩ := hex
  obtain ⟨mb, car, conv⟩ := mem_back g rel.mem hok m' hlen hop hole N1 h1 h3 (Nat.le_refl _)
  exact ⟨u, _, rfl, ⟨rel.len, fun i => car _ _ (rel.slots i), mb, rel.defers⟩, conv _ _ h2⟩
theorem callM_ok (g : Good X) {n : Nat} {ms : List Md} {f : Fn U R} (hf : FnOK P X n f) {args : List (AV U)} {K : AV U → S U → Option R} (hr : callM X ms f args st K = some r) :
    ∃ v st', K v st' = some r ∧ ∀ w0 N0 B0 th a w (vs : Array Value), RelT X w0 N0 B0 th st a w → vs.size = args.length → ArgsRel X w (NN N0 th) th args vs →
      Calls P n vs w (fun e w' => ∃ u th', e = .returned u ∧ RelT X w0 N0 B0 th' st' a w' ∧ VRel X w' (NN N0 th') th' v u) := by
  unfold callM at hr
  simp only at hr
  obtain ⟨v, st', hk, hp⟩ := callN_ok g hf hr
  refine ⟨v, st', hk, fun w0 N0 B0 th a w vs rel hs ha => ?_⟩
  obtain ⟨th1, r1, a1, l1⟩ := frzAll_ok g.closed g.pos (vs := vs) (mRefs .frz ms args ++ roRefs st.h ms args) th (st, args) rel ha
  obtain ⟨th2, r2, a2, l2⟩ := upAll_ok (ms.map deRo) r1 a1
  exact hp w0 N0 B0 th2 a w vs r2 (by rw [l2, l1]; exact hs) a2
end
end Go.Abs
namespace Go.Abs
open Go Go.RowKit
variable {U : Nat → Type} {R : Type}
def pairK : AV U → List (AO U) → Option (AV U × List (AO U)) := fun v h => some (v, h)
def Nat1 (F : ∀ R : Type, (AV U → List (AO U) → Option R) → Option R) : Prop := ∀ (R : Type) K (r : R), F R K = some r → ∃ v h, K v h = some r ∧ F _ pairK = some (v, h)
section
variable {P : Program} {X : Univ U} {st : S U}
theorem nat_int {op : BinOp} {k : IntKind} {x y : Int} {K : AV U → Option R} {r : R} (h : intOp op k x y K = some r) : ∃ v, K v = some r ∧ ∀ (T : Type) (K' : AV U → Option T), intOp op k x y K' = K' v := by
  cases op <;> simp only [intOp] at h ⊢ <;> first
    | exact ⟨_, h, fun _ _ => rfl⟩
    | (cases h; done)
    | (by_cases hy : y = 0
       · simp [hy] at h
       · simp only [hy, decide_false, cond_false] at h ⊢
         exact ⟨_, h, fun _ _ => rfl⟩)
theorem nat_bin {t : TypeId} {op : BinOp} {x y : AV U} {K : AV U → Option R} {r : R} (h : binA P t op x y K = some r) : ∃ v, K v = some r ∧ ∀ (T : Type) (K' : AV U → Option T), binA P t op x y K' = K' v := by
  unfold binA at h ⊢
  split at h
  · rename_i k a k' b
    by_cases hb : 0 ≤ b
    · simp only [hb, decide_true, cond_true] at h ⊢; exact ⟨_, h, fun _ _ => rfl⟩
    · simp [hb] at h
  · rename_i k a k' b
    by_cases hb : 0 ≤ b
    · simp only [hb, decide_true, cond_true] at h ⊢; exact ⟨_, h, fun _ _ => rfl⟩
    · simp [hb] at h
  · split at h
    · rename_i hk
      obtain ⟨v, h1, h2⟩ := nat_int h
      exact ⟨v, h1, fun T K' => by simp only [hk, if_true]; simpa [hk] using h2 T K'⟩
    · cases h
  · split at h
    · rename_i hd; exact ⟨_, h, fun _ _ => rfl⟩
    · cases h
  · split at h
    · rename_i hd; exact ⟨_, h, fun _ _ => rfl⟩
    · cases h
  · exact ⟨_, h, fun _ _ => rfl⟩
  · exact ⟨_, h, fun _ _ => rfl⟩
  · rename_i s1 s2
    by_cases hs : s1.size + s2.size ≤ 4611686018427387904
    · simp only [hs, decide_true, cond_true] at h ⊢; exact ⟨_, h, fun _ _ => rfl⟩
    · simp [hs] at h
  · cases h
variable {K : AV U → List (AO U) → Option R} {r : R}
theorem nat_pick {c a b : Operand} (h : stPick st K c a b = some r) : ∃ v h', K v h' = some r ∧ stPick st pairK c a b = some (v, h') := by
  unfold stPick at h ⊢
  try simp only [cond_eq_ite] at h ⊢
  repeat' (first | (cases h; done) | split at h)
  all_goals exact ⟨_, _, h, by simp_all [pairK]⟩
theorem nat_nil {x : Operand} (h : stNil st K x = some r) : ∃ v h', K v h' = some r ∧ stNil st pairK x = some (v, h') := by
  unfold stNil at h ⊢
  try simp only [cond_eq_ite] at h ⊢
  repeat' (first | (cases h; done) | split at h)
  all_goals exact ⟨_, _, h, by simp_all [pairK]⟩
theorem nat_un {op : UnOp} {x : Operand} (h : stUn st K op x = some r) : ∃ v h', K v h' = some r ∧ stUn st pairK op x = some (v, h') := by
  unfold stUn at h ⊢
  try simp only [cond_eq_ite] at h ⊢
  repeat' (first | (cases h; done) | split at h)
  all_goals exact ⟨_, _, h, by simp_all [pairK]⟩
theorem nat_conv {s d : TypeId} {x : Operand} (h : stConv P st K s d x = some r) : ∃ v h', K v h' = some r ∧ stConv P st pairK s d x = some (v, h') := by
  unfold stConv at h ⊢
  try simp only [cond_eq_ite] at h ⊢
  repeat' (first | (cases h; done) | split at h)
  all_goals exact ⟨_, _, h, by simp_all [pairK]⟩
theorem nat_load {t : TypeId} {a : Operand} (h : stLoad P X st K t a = some r) : ∃ v h', K v h' = some r ∧ stLoad P X st pairK t a = some (v, h') := by
  unfold stLoad at h ⊢
  try simp only [cond_eq_ite] at h ⊢
  repeat' (first | (cases h; done) | split at h)
  all_goals exact ⟨_, _, h, by simp_all [pairK]⟩
theorem nat_loadG {t : TypeId} {g : Nat} (h : stLoadG P X st K t g = some r) : ∃ v h', K v h' = some r ∧ stLoadG P X st pairK t g = some (v, h') := by
  unfold stLoadG at h ⊢
  try simp only [cond_eq_ite] at h ⊢
  repeat' (first | (cases h; done) | split at h)
  all_goals exact ⟨_, _, h, by simp_all [pairK]⟩
theorem nat_indexG {t : TypeId} {g : Nat} {ix : Operand} (h : stIndexG P X st K t g ix = some r) : ∃ v h', K v h' = some r ∧ stIndexG P X st pairK t g ix = some (v, h') := by
  unfold stIndexG at h ⊢
  try simp only [cond_eq_ite] at h ⊢
  repeat' (first | (cases h; done) | split at h)
  all_goals exact ⟨_, _, h, by simp_all [pairK]⟩
theorem nat_fieldAddr {t : TypeId} {x : Operand} {f : Nat} (h : stFieldAddr P st K t x f = some r) : ∃ v h', K v h' = some r ∧ stFieldAddr P st pairK t x f = some (v, h') := by
  unfold stFieldAddr at h ⊢
  try simp only [cond_eq_ite] at h ⊢
  repeat' (first | (cases h; done) | split at h)
  all_goals exact ⟨_, _, h, by simp_all [pairK]⟩
theorem nat_field {t : TypeId} {x : Operand} {f : Nat} (h : stField P st K t x f = some r) : ∃ v h', K v h' = some r ∧ stField P st pairK t x f = some (v, h') := by
  unfold stField at h ⊢
  try simp only [cond_eq_ite] at h ⊢
  repeat' (first | (cases h; done) | split at h)
  all_goals exact ⟨_, _, h, by simp_all [pairK]⟩
theorem nat_indexAddr {t : TypeId} {x ix : Operand} (h : stIndexAddr P X st K t x ix = some r) : ∃ v h', K v h' = some r ∧ stIndexAddr P X st pairK t x ix = some (v, h') := by
  unfold stIndexAddr at h ⊢
  try simp only [cond_eq_ite] at h ⊢
  repeat' (first | (cases h; done) | split at h)
  all_goals exact ⟨_, _, h, by simp_all [pairK]⟩
theorem nat_index {t : TypeId} {x ix : Operand} (h : stIndex P st K t x ix = some r) : ∃ v h', K v h' = some r ∧ stIndex P st pairK t x ix = some (v, h') := by
  unfold stIndex at h ⊢
  try simp only [cond_eq_ite] at h ⊢
  repeat' (first | (cases h; done) | split at h)
  all_goals exact ⟨_, _, h, by simp_all [pairK]⟩
theorem nat_extract {x : Operand} {i : Nat} (h : stExtract st K x i = some r) : ∃ v h', K v h' = some r ∧ stExtract st pairK x i = some (v, h') := by
  unfold stExtract at h ⊢
  try simp only [cond_eq_ite] at h ⊢
  repeat' (first | (cases h; done) | split at h)
  all_goals exact ⟨_, _, h, by simp_all [pairK]⟩
theorem nat_len {t : TypeId} {x : Operand} (h : stLen P st K t x = some r) : ∃ v h', K v h' = some r ∧ stLen P st pairK t x = some (v, h') := by
  unfold stLen at h ⊢
  try simp only [cond_eq_ite] at h ⊢
  repeat' (first | (cases h; done) | split at h)
  all_goals exact ⟨_, _, h, by simp_all [pairK]⟩
theorem nat_eqS {t : TypeId} {neg : Bool} {x y : AV U} (h : stEqS P st K t neg x y = some r) : ∃ v h', K v h' = some r ∧ stEqS P st pairK t neg x y = some (v, h') := by
  unfold stEqS at h ⊢
  try simp only [cond_eq_ite] at h ⊢
  repeat' (first | (cases h; done) | split at h)
  all_goals exact ⟨_, _, h, by simp_all [pairK]⟩
theorem nat_build {t : TypeId} {parts : List (Nat × Operand)} (h : stBuild P st K t parts = some r) : ∃ v h', K v h' = some r ∧ stBuild P st pairK t parts = some (v, h') := by
  unfold stBuild at h ⊢
  try simp only [cond_eq_ite] at h ⊢
  repeat' (first | (cases h; done) | split at h)
  all_goals exact ⟨_, _, h, by simp_all [pairK]⟩
theorem nat_alloc {t : TypeId} (h : stAlloc P st K t = some r) : ∃ v h', K v h' = some r ∧ stAlloc P st pairK t = some (v, h') := by
  unfold stAlloc at h ⊢
  try simp only [cond_eq_ite] at h ⊢
  repeat' (first | (cases h; done) | split at h)
  all_goals exact ⟨_, _, h, by simp_all [pairK]⟩
theorem nat_box {t : TypeId} {x : Operand} (h : stBox P st K t x = some r) : ∃ v h', K v h' = some r ∧ stBox P st pairK t x = some (v, h') := by
  unfold stBox at h ⊢
  try simp only [cond_eq_ite] at h ⊢
  repeat' (first | (cases h; done) | split at h)
  all_goals exact ⟨_, _, h, by simp_all [pairK]⟩
theorem nat_store {t : TypeId} {a x : Operand} (h : stStore P X st K t a x = some r) : ∃ v h', K v h' = some r ∧ stStore P X st pairK t a x = some (v, h') := by
  unfold stStore at h ⊢
  try simp only [cond_eq_ite] at h ⊢
  repeat' (first | (cases h; done) | split at h)
  all_goals exact ⟨_, _, h, by simp_all [pairK]⟩
theorem nat_storeF {t : TypeId} {a x : Operand} (h : stStoreF P X st K t a x = some r) : ∃ v h', K v h' = some r ∧ stStoreF P X st pairK t a x = some (v, h') := by
  unfold stStoreF at h ⊢
  try simp only [cond_eq_ite] at h ⊢
  repeat' (first | (cases h; done) | split at h)
  all_goals exact ⟨_, _, h, by simp_all [pairK]⟩
theorem nat_buildSlice {t : TypeId} {len : Nat} {parts : List (Nat × Operand)} (h : stBuildSlice P X st K t len parts = some r) : ∃ v h', K v h' = some r ∧ stBuildSlice P X st pairK t len parts = some (v, h') := by
  unfold stBuildSlice at h ⊢
  try simp only [cond_eq_ite] at h ⊢
  repeat' (first | (cases h; done) | split at h)
  all_goals exact ⟨_, _, h, by simp_all [pairK]⟩
theorem nat_make {t : TypeId} {l c : Operand} (h : stMake P X st K t l c = some r) : ∃ v h', K v h' = some r ∧ stMake P X st pairK t l c = some (v, h') := by
  unfold stMake at h ⊢
  try simp only [cond_eq_ite] at h ⊢
  repeat' (first | (cases h; done) | split at h)
  all_goals exact ⟨_, _, h, by simp_all [pairK]⟩
theorem nat_makeFunc {fn : Go.Fn} {first cap : List Operand} (h : stMakeFunc st K fn first cap = some r) : ∃ v h', K v h' = some r ∧ stMakeFunc st pairK fn first cap = some (v, h') := by
  unfold stMakeFunc at h ⊢
  try simp only [cond_eq_ite] at h ⊢
  repeat' (first | (cases h; done) | split at h)
  all_goals exact ⟨_, _, h, by simp_all [pairK]⟩
theorem nat_iface {t : TypeId} {x : Operand} (h : stIface P st K t x = some r) : ∃ v h', K v h' = some r ∧ stIface P st pairK t x = some (v, h') := by
  unfold stIface at h ⊢
  try simp only [cond_eq_ite] at h ⊢
  repeat' (first | (cases h; done) | split at h)
  all_goals exact ⟨_, _, h, by simp_all [pairK]⟩
theorem nat_makeMap {t : TypeId} {rs : Option Operand} (h : stMakeMap P st K t rs = some r) : ∃ v h', K v h' = some r ∧ stMakeMap P st pairK t rs = some (v, h') := by
  unfold stMakeMap at h ⊢
  try simp only [cond_eq_ite] at h ⊢
  repeat' (first | (cases h; done) | split at h)
  all_goals exact ⟨_, _, h, by simp_all [pairK]⟩
theorem nat_lookup {t : TypeId} {x ix : Operand} {ok : Bool} (h : stLookup P X st K t x ix ok = some r) : ∃ v h', K v h' = some r ∧ stLookup P X st pairK t x ix ok = some (v, h') := by
  unfold stLookup at h ⊢
  split at h
  · rename_i k e i hu ex
    split at h
    · rename_i kt e' l ho
      split at h
      · rename_i hc
        split at h
        · rename_i key hkey
          exact ⟨_, _, h, by simp only [hu, ex, ho, if_pos hc, hkey, pairK]⟩
        · cases h
      · cases h
    · cases h
  · cases h
theorem nat_mapUpdate {t : TypeId} {x ix y : Operand} (h : stMapUpdate P X st K t x ix y = some r) : ∃ v h', K v h' = some r ∧ stMapUpdate P X st pairK t x ix y = some (v, h') := by
  unfold stMapUpdate at h ⊢
  try simp only [cond_eq_ite] at h ⊢
  repeat' (first | (cases h; done) | split at h)
  all_goals exact ⟨_, _, h, by simp_all [pairK]⟩
theorem nat_min {mx : Bool} {args : List Operand} (h : stMin st K mx args = some r) : ∃ v h', K v h' = some r ∧ stMin st pairK mx args = some (v, h') := by
  unfold stMin at h ⊢
  try simp only [cond_eq_ite] at h ⊢
  repeat' (first | (cases h; done) | split at h)
  all_goals exact ⟨_, _, h, by simp_all [pairK]⟩
theorem nat_bytes {s d : TypeId} {x : Operand} (h : stBytes P X st K s d x = some r) : ∃ v h', K v h' = some r ∧ stBytes P X st pairK s d x = some (v, h') := by
  unfold stBytes at h ⊢
  try simp only [cond_eq_ite] at h ⊢
  repeat' (first | (cases h; done) | split at h)
  all_goals exact ⟨_, _, h, by simp_all [pairK]⟩
theorem nat_withB {len : Nat} {lo hi : Option Operand} {K : Nat → Nat → Option R} (h : withB st len lo hi K = some r) : ∃ a b, K a b = some r ∧ ∀ (T : Type) (K' : Nat → Nat → Option T), withB st len lo hi K' = K' a b := by
  unfold withB at h ⊢
  try simp only [cond_eq_ite] at h ⊢
  repeat' (first | (cases h; done) | split at h)
  all_goals exact ⟨_, _, h, fun T K' => by simp_all⟩
theorem nat_withB3 {len : Nat} {lo hi mx : Option Operand} {K : Nat → Nat → Option R} (h : withB3 st len lo hi mx K = some r) : ∃ a b, K a b = some r ∧ ∀ (T : Type) (K' : Nat → Nat → Option T), withB3 st len lo hi mx K' = K' a b := by
  unfold withB3 at h ⊢
  split at h
  · exact nat_withB h
  · split at h
    · cases h
    · simp only [cond_eq_ite] at h ⊢
      repeat' (first | (cases h; done) | split at h)
      all_goals exact ⟨_, _, h, fun T K' => by simp_all⟩
theorem nat_slice {t : TypeId} {x : Operand} {lo hi mx : Option Operand} (h : stSlice P X st K t x lo hi mx = some r) : ∃ v h', K v h' = some r ∧ stSlice P X st pairK t x lo hi mx = some (v, h') := by
  unfold stSlice at h ⊢
  split at h
  · rename_i d e l h1 h2
    split at h
    · rename_i hc
      obtain ⟨a, b, h3, h4⟩ := nat_withB3 h
      exact ⟨_, _, h3, by simp only [h1, h2, if_pos hc, h4, pairK]⟩
    · cases h
  · rename_i d i e h1 h2
    split at h
    · rename_i e' l ho
      split at h
      · rename_i he
        split at h
        · rename_i hc
          obtain ⟨a, b, h3, h4⟩ := nat_withB3 h
          exact ⟨_, _, h3, by simp only [h1, h2, ho, if_pos he, if_pos hc, h4, pairK]⟩
        · cases h
      · cases h
    · cases h
  · rename_i d i e off n h1 h2
    split at h
    · rename_i e' l ho
      split at h
      · rename_i he
        split at h
        · rename_i hc
          obtain ⟨a, b, h3, h4⟩ := nat_withB3 h
          exact ⟨_, _, h3, by simp only [h1, h2, ho, if_pos he, if_pos hc, h4, pairK]⟩
        · cases h
      · cases h
    · cases h
  · rename_i s h1 h2
    split at h
    · obtain ⟨a, b, h3, h4⟩ := nat_withB h
      exact ⟨_, _, h3, by simp only [h1, h2, h4, pairK]⟩
    · cases h
  · cases h
theorem nat_appendTo {hp : List (AO U)} {e : Nat} {s x : AV U} {l m : List (U e)} (h : stAppendTo P K hp e s x l m = some r) : ∃ v h', K v h' = some r ∧ stAppendTo P pairK hp e s x l m = some (v, h') := by
  unfold stAppendTo at h ⊢
  simp only [cond_eq_ite] at h ⊢
  repeat' (first | (cases h; done) | split at h)
  all_goals exact ⟨_, _, h, by simp_all [pairK]⟩
theorem nat_appendA {hp : List (AO U)} {t tx : TypeId} {s x : AV U} (h : stAppendA P X K hp t tx s x = some r) : ∃ v h', K v h' = some r ∧ stAppendA P X pairK hp t tx s x = some (v, h') := by
  unfold stAppendA at h ⊢
  split at h
  · rename_i d d' e l e' m h1 h2 h3 h4
    split at h
    · rename_i hee
      split at h
      · rename_i hok
        obtain ⟨v, h', g1, g2⟩ := nat_appendTo h
        exact ⟨v, h', g1, by simp only [h1, h2, h3, h4, dif_pos hee, if_pos hok, g2]⟩
      · cases h
    · cases h
  · cases h
theorem nat_append {t tx : TypeId} {s x : Operand} (h : stAppend P X st K t tx s x = some r) : ∃ v h', K v h' = some r ∧ stAppend P X st pairK t tx s x = some (v, h') := by
  unfold stAppend at h ⊢
  split at h
  · exact nat_appendA h
  · exact nat_appendA h
theorem nat_step {o : Oper} (h : step P X o st K = some r) : ∃ v h', K v h' = some r ∧ step P X o st pairK = some (v, h') := by
  obtain ⟨dst, op, ty, pos, after, guard⟩ := o
  cases op <;> simp only [step] at h ⊢ <;> first
    | (cases h; done)
    | exact ⟨_, _, h, rfl⟩
    | exact nat_pick h
    | exact nat_nil h
    | exact nat_un h
    | exact nat_conv h
    | exact nat_alloc h
    | exact nat_box h
    | exact nat_load h
    | exact nat_store h
    | exact nat_fieldAddr h
    | exact nat_field h
    | exact nat_indexAddr h
    | exact nat_index h
    | exact nat_extract h
    | skip
  · obtain ⟨v, h1, h2⟩ := nat_bin h
    exact ⟨v, _, h1, h2 _ _⟩
  · split at h
    · rename_i b hb
      unfold stBuiltin at h ⊢
      split at h
      · exact nat_len h
      · cases h
    · cases h
theorem nat_stepM {o : Oper} (h : stepM P X o st K = some r) : ∃ v h', K v h' = some r ∧ stepM P X o st pairK = some (v, h') := by
  have base : ∀ {o : Oper}, step P X o st K = some r → ∃ v h', K v h' = some r ∧ step P X o st pairK = some (v, h') := fun h => nat_step h
  obtain ⟨dst, op, ty, pos, after, guard⟩ := o
  cases op <;> simp only [stepM] at h ⊢ <;> first
    | exact nat_build h
    | exact nat_buildSlice h
    | exact nat_make h
    | exact nat_slice h
    | exact nat_makeFunc h
    | exact nat_iface h
    | exact nat_makeMap h
    | exact nat_lookup h
    | exact nat_mapUpdate h
    | exact base h
    | skip
  · split at h
    · exact nat_loadG h
    · exact base h
  · split at h
    · split at h
      · rename_i hc; rw [if_pos hc]; exact base h
      · rename_i hc; rw [if_neg hc]; exact nat_storeF h
    · exact base h
  · split at h
    · split at h
      · rename_i hc; simp only [if_pos hc]; exact nat_eqS h
      · rename_i hc; simp only [if_neg hc]; exact base h
    · split at h
      · rename_i hc; simp only [if_pos hc]; exact nat_eqS h
      · rename_i hc; simp only [if_neg hc]; exact base h
    · exact base h
  · split at h
    · exact nat_bytes h
    · exact base h
  · split at h
    · exact nat_indexG h
    · exact base h
  · split at h
    · exact nat_append h
    · exact nat_min h
    · exact nat_min h
    · exact base h
end
end Go.Abs
namespace Go.Abs
open Go Go.RowKit
variable {U : Nat → Type} {R : Type}
def isRO : Op → Bool
  | .move _ | .assign _ | .pick .. | .nilCheck _ | .binOp .. | .unOp .. | .convert .. | .load .. | .fieldAddr .. | .field .. | .indexAddr .. | .index .. | .extract .. | .build .. | .lookup .. | .slice .. | .makeFunc .. | .makeInterface .. => true
  | .call c => (match c.callee, c.args.toList, c.argTypes.toList with | .builtin .len, [_], [_] => true | .builtin .min, _, _ => true | .builtin .max, _, _ => true | _, _, _ => false)
  | _ => false
def looks : Op → Bool
  | .nilCheck _ | .load .. | .fieldAddr .. | .indexAddr .. | .lookup .. | .slice .. | .convert .. => true
  | .call _ => true
  | _ => false
def refsOf (o : Oper) (st : S U) : List Nat := o.op.operands.toList.flatMap fun x => refsA 8 (ev st x)
structure Same (st st' : S U) (o : Oper) : Prop where
  e : ∀ x ∈ o.op.operands.toList, ev st' x = ev st x
  h : looks o.op = true → ∀ i ∈ refsOf o st, st'.h.getD i .dead = st.h.getD i .dead
section
variable {P : Program} {X : Univ U} {st st' : S U} {v : AV U} {h' : List (AO U)}
theorem evT_same {t : TypeId} {x : Operand} (h : ev st' x = ev st x) : evT P st' t x = evT P st t x := by
  unfold evT
  split
  · rfl
  · exact h
def Loc (st st' : S U) (F : S U → Option (AV U × List (AO U))) : Prop := ∀ v h', F st = some (v, h') → h' = st.h ∧ F st' = some (v, st'.h)
theorem loc_of {F : S U → Option (AV U × List (AO U))} {o : Option (AV U)} (h1 : F st = o.map fun v => (v, st.h)) (h2 : F st' = o.map fun v => (v, st'.h)) : Loc st st' F := by
  intro v h' h
  rw [h1] at h
  cases o with
  | none => cases h
  | some x =>
    injection h with h; injection h with e1 e2
    subst e1
    exact ⟨e2.symm, h2⟩
theorem loc_pick {c a b : Operand} (hc : ev st' c = ev st c) (ha : ev st' a = ev st a) (hb : ev st' b = ev st b) : Loc st st' (fun st => stPick st pairK c a b) := by
  intro v h' h
  dsimp only at h ⊢
  unfold stPick at h ⊢
  simp only [hc, ha, hb]
  split at h <;> first | (cases h; done) | (injection h with h; injection h with e1 e2; subst e1; exact ⟨e2.symm, rfl⟩)
theorem loc_un {op : UnOp} {x : Operand} (hx : ev st' x = ev st x) : Loc st st' (fun st => stUn st pairK op x) := by
  intro v h' h
  dsimp only at h ⊢
  unfold stUn at h ⊢
  simp only [hx]
  split at h <;> first | (cases h; done) | (injection h with h; injection h with e1 e2; subst e1; exact ⟨e2.symm, rfl⟩)
theorem loc_conv {s d : TypeId} {x : Operand} (hx : ev st' x = ev st x) : Loc st st' (fun st => stConv P st pairK s d x) := by
  intro v h' h
  dsimp only at h ⊢
  unfold stConv at h ⊢
  simp only [hx]
  split at h <;> first | (cases h; done) | (injection h with h; injection h with e1 e2; subst e1; exact ⟨e2.symm, rfl⟩)
theorem loc_field {t : TypeId} {x : Operand} {f : Nat} (hx : ev st' x = ev st x) : Loc st st' (fun st => stField P st pairK t x f) := by
  intro v h' h
  dsimp only at h ⊢
  unfold stField at h ⊢
  simp only [hx]
  repeat' (first | (cases h; done) | split at h)
  all_goals (injection h with h; injection h with e1 e2; subst e1; exact ⟨e2.symm, by simp_all [pairK]⟩)
theorem loc_index {t : TypeId} {x ix : Operand} (hx : ev st' x = ev st x) (hi : ev st' ix = ev st ix) : Loc st st' (fun st => stIndex P st pairK t x ix) := by
  intro v h' h
  dsimp only at h ⊢
  unfold stIndex at h ⊢
  simp only [hx, hi]
  split at h
  · obtain ⟨h1, h⟩ := cond_none h
    obtain ⟨h2, h⟩ := cond_none h
    injection h with h; injection h with e1 e2; subst e1; exact ⟨e2.symm, by simp_all [pairK]⟩
  · cases h
theorem loc_extract {x : Operand} {i : Nat} (hx : ev st' x = ev st x) : Loc st st' (fun st => stExtract st pairK x i) := by
  intro v h' h
  dsimp only at h ⊢
  unfold stExtract at h ⊢
  simp only [hx]
  repeat' (first | (cases h; done) | split at h)
  all_goals (injection h with h; injection h with e1 e2; subst e1; exact ⟨e2.symm, by simp_all [pairK]⟩)
theorem loc_makeFunc {fn : Go.Fn} {first cap : List Operand} (hx : ∀ x ∈ cap, ev st' x = ev st x) : Loc st st' (fun st => stMakeFunc st pairK fn first cap) := by
  intro v h' h
  dsimp only at h ⊢
  unfold stMakeFunc at h ⊢
  have e1 : cap.map (ev st') = cap.map (ev st) := List.map_congr_left fun x hx' => hx x hx'
  simp only [e1]
  split at h
  · injection h with h; injection h with e1 e2; subst e1; exact ⟨e2.symm, rfl⟩
  · cases h
theorem loc_iface {t : TypeId} {x : Operand} (hx : ev st' x = ev st x) : Loc st st' (fun st => stIface P st pairK t x) := by
  intro v h' h
  dsimp only at h ⊢
  unfold stIface at h ⊢
  simp only [evT_same (P := P) hx]
  split at h
  · cases h
  · injection h with h; injection h with e1 e2; subst e1
    exact ⟨e2.symm, rfl⟩
  · cases h
theorem loc_min {mx : Bool} {args : List Operand} (hx : ∀ x ∈ args, ev st' x = ev st x) : Loc st st' (fun st => stMin st pairK mx args) := by
  intro v h' h
  dsimp only at h ⊢
  unfold stMin at h ⊢
  cases args with
  | nil => cases h
  | cons x r =>
    have e1 : r.map (ev st') = r.map (ev st) := List.map_congr_left fun y hy => hx y (by simp [hy])
    have e0 := hx x (by simp)
    simp only [e0, e1] at h ⊢
    split at h
    · split at h
      · rename_i hl
        injection h with h; injection h with e1 e2; subst e1; exact ⟨e2.symm, rfl⟩
      · cases h
    · cases h
theorem loc_eqS {t : TypeId} {neg : Bool} {x y : AV U} : Loc st st' (fun st => stEqS P st pairK t neg x y) := by
  intro v h' h
  dsimp only at h ⊢
  unfold stEqS at h ⊢
  repeat' (first | (cases h; done) | split at h)
  all_goals (injection h with h; injection h with e1 e2; subst e1; exact ⟨e2.symm, by simp_all [pairK]⟩)
theorem loc_build {t : TypeId} {parts : List (Nat × Operand)} (hx : ∀ p ∈ parts, ev st' p.2 = ev st p.2) : Loc st st' (fun st => stBuild P st pairK t parts) := by
  intro v h' h
  dsimp only at h ⊢
  unfold stBuild at h ⊢
  have e1 : ∀ ft : Nat → TypeId, (parts.map fun p => (p.1, evT P st' (ft p.1) p.2)) = parts.map fun p => (p.1, evT P st (ft p.1) p.2) := fun ft =>
    List.map_congr_left fun p hp => by rw [evT_same (hx p hp)]
  simp only [e1]
  repeat' (first | (cases h; done) | split at h)
  all_goals (injection h with h; injection h with e1 e2; subst e1; exact ⟨e2.symm, by simp_all [pairK]⟩)
theorem loc_bin {t : TypeId} {op : BinOp} {x y : Operand} (hx : ev st' x = ev st x) (hy : ev st' y = ev st y) : Loc st st' (fun st => binA P t op (ev st x) (ev st y) fun v => pairK v st.h) := by
  intro v h' h
  dsimp only at h ⊢
  obtain ⟨u, h1, h2⟩ := nat_bin h
  injection h1 with h1; injection h1 with e1 e2; subst e1
  exact ⟨e2.symm, by rw [hx, hy]; exact h2 _ _⟩
theorem loc_loadG {t : TypeId} {g : Nat} : Loc st st' (fun st => stLoadG P X st pairK t g) := by
  intro v h' h
  dsimp only at h ⊢
  unfold stLoadG at h ⊢
  simp only [cond_eq_ite] at h ⊢
  repeat' (first | (cases h; done) | split at h)
  all_goals (injection h with h; injection h with e1 e2; subst e1; exact ⟨e2.symm, by simp_all [pairK]⟩)
theorem loc_indexG {t : TypeId} {g : Nat} {ix : Operand} (hi : ev st' ix = ev st ix) : Loc st st' (fun st => stIndexG P X st pairK t g ix) := by
  intro v h' h
  dsimp only at h ⊢
  unfold stIndexG at h ⊢
  simp only [hi, cond_eq_ite] at h ⊢
  repeat' (first | (cases h; done) | split at h)
  all_goals (injection h with h; injection h with e1 e2; subst e1; exact ⟨e2.symm, by simp_all [pairK]⟩)
theorem alive_same {i : Nat} (h : st'.h.getD i .dead = st.h.getD i .dead) : alive st'.h i = alive st.h i := by unfold alive; rw [h]
theorem loc_nil {x : Operand} (hx : ev st' x = ev st x) (hh : ∀ i ∈ refsA 8 (ev st x), st'.h.getD i .dead = st.h.getD i .dead) : Loc st st' (fun st => stNil st pairK x) := by
  intro v h' h
  dsimp only at h ⊢
  unfold stNil at h ⊢
  simp only [hx]
  split at h <;> rename_i ex <;> try rw [ex] at hh
  · rw [alive_same (hh _ (by simp [refsA]))]
    split at h
    · rename_i ha; rw [if_pos ha]; injection h with h; injection h with e1 e2; subst e1; exact ⟨e2.symm, rfl⟩
    · cases h
  · rw [alive_same (hh _ (by simp [refsA]))]
    split at h
    · rename_i ha; rw [if_pos ha]; injection h with h; injection h with e1 e2; subst e1; exact ⟨e2.symm, rfl⟩
    · cases h
  · injection h with h; injection h with e1 e2; subst e1; exact ⟨e2.symm, rfl⟩
  · injection h with h; injection h with e1 e2; subst e1; exact ⟨e2.symm, rfl⟩
  · cases h
theorem loc_load {t : TypeId} {x : Operand} (hx : ev st' x = ev st x) (hh : ∀ i ∈ refsA 8 (ev st x), st'.h.getD i .dead = st.h.getD i .dead) : Loc st st' (fun st => stLoad P X st pairK t x) := by
  intro v h' h
  dsimp only at h ⊢
  unfold stLoad at h ⊢
  simp only [hx]
  split at h <;> rename_i ex <;> try rw [ex] at hh
  · rw [hh _ (by simp [refsA])]
    split at h
    · rename_i ho
      split at h
      · rename_i hl; simp only [if_pos hl]; injection h with h; injection h with e1 e2; subst e1; exact ⟨e2.symm, rfl⟩
      · cases h
    · cases h
  · split at h
    · rename_i hl
      obtain ⟨hj, h⟩ := cond_none h
      simp only [if_pos hl, hj, cond_true]; injection h with h; injection h with e1 e2; subst e1; exact ⟨e2.symm, rfl⟩
    · cases h
  · rw [hh _ (by simp [refsA])]
    split at h
    · rename_i ho
      split at h
      · rename_i he
        split at h
        · rename_i hl
          obtain ⟨hj, h⟩ := cond_none h
          simp only [dif_pos he, if_pos hl, hj, cond_true]; injection h with h; injection h with e1 e2; subst e1; exact ⟨e2.symm, rfl⟩
        · cases h
      · cases h
    · cases h
  · cases h
theorem loc_fieldAddr {t : TypeId} {x : Operand} {f : Nat} (hx : ev st' x = ev st x) (hh : ∀ i ∈ refsA 8 (ev st x), st'.h.getD i .dead = st.h.getD i .dead) : Loc st st' (fun st => stFieldAddr P st pairK t x f) := by
  intro v h' h
  dsimp only at h ⊢
  unfold stFieldAddr at h ⊢
  simp only [hx]
  split at h
  · split at h
    · split at h
      · rename_i hf hz
        simp only [if_pos hz]
        split at h <;> rename_i ex <;> try rw [ex] at hh
        · rw [alive_same (hh _ (by simp [refsA]))]
          split at h
          · rename_i ha; simp only [if_pos ha]; injection h with h; injection h with e1 e2; subst e1; exact ⟨e2.symm, rfl⟩
          · cases h
        · injection h with h; injection h with e1 e2; subst e1; exact ⟨e2.symm, rfl⟩
        · rw [alive_same (hh _ (by simp [refsA]))]
          split at h
          · rename_i ha; simp only [if_pos ha]; injection h with h; injection h with e1 e2; subst e1; exact ⟨e2.symm, rfl⟩
          · cases h
        · cases h
      · cases h
    · cases h
  · cases h
theorem loc_indexAddr {t : TypeId} {x ix : Operand} (hx : ev st' x = ev st x) (hi : ev st' ix = ev st ix) (hh : ∀ i ∈ refsA 8 (ev st x), st'.h.getD i .dead = st.h.getD i .dead) : Loc st st' (fun st => stIndexAddr P X st pairK t x ix) := by
  intro v h' h
  dsimp only at h ⊢
  unfold stIndexAddr at h ⊢
  simp only [hx, hi]
  split at h
  · rename_i e1 e2 e3
    split at h
    · rename_i hz
      obtain ⟨h0, h⟩ := cond_none h
      obtain ⟨h1, h⟩ := cond_none h
      injection h with h; injection h with q1 q2; subst q1
      exact ⟨q2.symm, by simp only [if_pos hz, h0, h1, cond_true, pairK]⟩
    · cases h
  · rename_i e1 e2 e3
    rw [e2] at hh
    rw [hh _ (by simp [refsA])]
    split at h
    · rename_i ho
      split at h
      · rename_i he
        split at h
        · rename_i hz
          obtain ⟨h0, h⟩ := cond_none h
          obtain ⟨h1, h⟩ := cond_none h
          injection h with h; injection h with q1 q2; subst q1
          exact ⟨q2.symm, by simp only [if_pos he, if_pos hz, h0, h1, cond_true, pairK]⟩
        · cases h
      · cases h
    · cases h
  · rename_i e1 e2 e3
    rw [e2] at hh
    rw [hh _ (by simp [refsA])]
    split at h
    · rename_i ho
      split at h
      · rename_i he
        split at h
        · rename_i hz
          obtain ⟨h0, h⟩ := cond_none h
          obtain ⟨h1, h⟩ := cond_none h
          injection h with h; injection h with q1 q2; subst q1
          exact ⟨q2.symm, by simp only [if_pos he, if_pos hz, h0, h1, cond_true, pairK]⟩
        · cases h
      · cases h
    · cases h
  · cases h
theorem loc_len {t : TypeId} {x : Operand} (hx : ev st' x = ev st x) (hh : ∀ i ∈ refsA 8 (ev st x), st'.h.getD i .dead = st.h.getD i .dead) : Loc st st' (fun st => stLen P st pairK t x) := by
  intro v h' h
  dsimp only at h ⊢
  unfold stLen at h ⊢
  simp only [hx]
  split at h <;> first
    | (cases h; done)
    | (injection h with h; injection h with q1 q2; subst q1; exact ⟨q2.symm, rfl⟩)
    | (rename_i e1 e2
       rw [e2] at hh
       rw [hh _ (by simp [refsA])]
       split at h
       · injection h with h; injection h with q1 q2; subst q1; exact ⟨q2.symm, rfl⟩
       · cases h)
theorem loc_lookup {t : TypeId} {x ix : Operand} {ok : Bool} (hx : ev st' x = ev st x) (hi : ev st' ix = ev st ix) (hh : ∀ i ∈ refsA 8 (ev st x), st'.h.getD i .dead = st.h.getD i .dead) : Loc st st' (fun st => stLookup P X st pairK t x ix ok) := by
  intro v h' h
  dsimp only at h ⊢
  unfold stLookup at h ⊢
  simp only [hx, hi]
  split at h
  · rename_i e1 e2
    rw [e2] at hh
    rw [hh _ (by simp [refsA])]
    split at h
    · rename_i ho
      split at h
      · rename_i hc
        split at h
        · injection h with h; injection h with q1 q2; subst q1; exact ⟨q2.symm, by simp only [if_pos hc, pairK]⟩
        · cases h
      · cases h
    · cases h
  · cases h
theorem withB_same {R : Type} {len : Nat} {lo hi : Option Operand} {K : Nat → Nat → Option R} (hl : ∀ x ∈ lo, ev st' x = ev st x) (hh : ∀ x ∈ hi, ev st' x = ev st x) : withB st' len lo hi K = withB st len lo hi K := by
  unfold withB
  cases lo <;> cases hi <;> simp_all
theorem withB3_same {R : Type} {len : Nat} {lo hi mx : Option Operand} {K : Nat → Nat → Option R} (hl : ∀ x ∈ lo, ev st' x = ev st x) (hh : ∀ x ∈ hi, ev st' x = ev st x) (hm : ∀ x ∈ mx, ev st' x = ev st x) : withB3 st' len lo hi mx K = withB3 st len lo hi mx K := by
  unfold withB3
  rw [withB_same hl hh]
  cases mx <;> cases hi <;> cases lo <;> simp_all
theorem loc_slice {t : TypeId} {x : Operand} {lo hi mx : Option Operand} (hx : ev st' x = ev st x) (hl : ∀ x ∈ lo, ev st' x = ev st x) (hhi : ∀ x ∈ hi, ev st' x = ev st x) (hm : ∀ x ∈ mx, ev st' x = ev st x) (hh : ∀ i ∈ refsA 8 (ev st x), st'.h.getD i .dead = st.h.getD i .dead) : Loc st st' (fun st => stSlice P X st pairK t x lo hi mx) := by
  intro v h' h
  dsimp only at h ⊢
  unfold stSlice at h ⊢
  simp only [hx]
  split at h
  · rename_i e1 e2
    split at h
    · rename_i hz
      obtain ⟨a, b, h3, h4⟩ := nat_withB3 h
      injection h3 with h3; injection h3 with q1 q2; subst q1
      exact ⟨q2.symm, by simp only [if_pos hz]; rw [withB3_same hl hhi hm, h4]; rfl⟩
    · cases h
  · rename_i e1 e2
    rw [e2] at hh
    rw [hh _ (by simp [refsA])]
    split at h
    · split at h
      · rename_i he
        split at h
        · rename_i hz
          obtain ⟨a, b, h3, h4⟩ := nat_withB3 h
          injection h3 with h3; injection h3 with q1 q2; subst q1
          exact ⟨q2.symm, by simp only [if_pos he, if_pos hz]; rw [withB3_same hl hhi hm, h4]; rfl⟩
        · cases h
      · cases h
    · cases h
  · rename_i e1 e2
    rw [e2] at hh
    rw [hh _ (by simp [refsA])]
    split at h
    · split at h
      · rename_i he
        split at h
        · rename_i hz
          obtain ⟨a, b, h3, h4⟩ := nat_withB3 h
          injection h3 with h3; injection h3 with q1 q2; subst q1
          exact ⟨q2.symm, by simp only [if_pos he, if_pos hz]; rw [withB3_same hl hhi hm, h4]; rfl⟩
        · cases h
      · cases h
    · cases h
  · split at h
    · obtain ⟨a, b, h3, h4⟩ := nat_withB h
      injection h3 with h3; injection h3 with q1 q2; subst q1
      refine ⟨q2.symm, ?_⟩
      show withB st' _ lo hi _ = _
      rw [withB_same hl hhi, h4]; rfl
    · cases h
  · cases h
theorem listOf_same {x : AV U} (hh : ∀ i ∈ refsA 8 x, st'.h.getD i .dead = st.h.getD i .dead) : listOf st'.h x = listOf st.h x := by
  unfold listOf
  split <;> first | rfl | (rw [hh _ (by simp [refsA])])
theorem loc_bytes {s d : TypeId} {x : Operand} (hx : ev st' x = ev st x) (hh : ∀ i ∈ refsA 8 (ev st x), st'.h.getD i .dead = st.h.getD i .dead) : Loc st st' (fun st => stBytes P X st pairK s d x) := by
  intro v h' h
  dsimp only at h ⊢
  unfold stBytes at h ⊢
  have e1 : listOf st'.h (evT P st' s x) = listOf st.h (evT P st s x) := by
    rw [evT_same hx]
    unfold evT
    split
    · rfl
    · exact listOf_same hh
  simp only [e1]
  split at h
  · rename_i q1 q2 q3
    split at h
    · split at h
      · rename_i hc
        injection h with h; injection h with p1 p2; subst p1; exact ⟨p2.symm, by simp only [if_pos hc, pairK]⟩
      · cases h
    · cases h
  · cases h
end
end Go.Abs
namespace Go.Abs
open Go Go.RowKit
variable {U : Nat → Type} {R : Type}
section
variable {P : Program} {X : Univ U} {st st' : S U} {K : AV U → List (AO U) → Option R} {r : R}
theorem mem_refs {o : Oper} {x : Operand} (hx : x ∈ o.op.operands.toList) {i : Nat} (hi : i ∈ refsA 8 (ev st x)) : i ∈ refsOf o st := List.mem_flatMap.2 ⟨x, hx, hi⟩
theorem loc_stepM {o : Oper} (hro : isRO o.op = true) (hs : Same st st' o) : Loc st st' (fun st => stepM P X o st pairK) := by
  obtain ⟨he, hh⟩ := hs
  have hr : looks o.op = true → ∀ x ∈ o.op.operands.toList, ∀ i ∈ refsA 8 (ev st x), st'.h.getD i .dead = st.h.getD i .dead := fun hl x hx i hi => hh hl i (mem_refs hx hi)
  obtain ⟨dst, op, ty, pos, after, guard⟩ := o
  cases op <;> simp only [isRO] at hro <;> first | (cases hro; done) | skip
  all_goals simp only [Op.operands] at he hr
  case move x =>
    have e := he x (by simp)
    intro v h' h
    dsimp only at h ⊢
    simp only [stepM, step] at h ⊢
    rw [evT_same e]
    injection h with h; injection h with q1 q2; subst q1; exact ⟨q2.symm, rfl⟩
  case assign x =>
    have e := he x (by simp)
    intro v h' h
    dsimp only at h ⊢
    simp only [stepM, step] at h ⊢
    rw [evT_same e]
    injection h with h; injection h with q1 q2; subst q1; exact ⟨q2.symm, rfl⟩
  case pick c a b => exact loc_pick (he c (by simp)) (he a (by simp)) (he b (by simp))
  case load t x =>
    have e := he x (by simp)
    intro v h' h
    dsimp only at h ⊢
    simp only [stepM] at h ⊢
    rw [e]
    split at h
    · exact loc_loadG v h' h
    · exact loc_load (P := P) (X := X) e (hr rfl x (by simp)) v h' h
  case nilCheck x => exact loc_nil (he x (by simp)) (hr rfl x (by simp))
  case binOp op t x y s =>
    have e1 := he x (by simp)
    have e2 := he y (by simp)
    intro v h' h
    dsimp only at h ⊢
    have fin : ∀ op, step P X ⟨dst, .binOp op t x y s, ty, pos, after, guard⟩ st pairK = some (v, h') → h' = st.h ∧ step P X ⟨dst, .binOp op t x y s, ty, pos, after, guard⟩ st' pairK = some (v, st'.h) := fun op h => loc_bin (P := P) e1 e2 v h' h
    cases op <;> first
      | exact fin _ h
      | (simp only [stepM] at h ⊢
         rw [e1, e2]
         split at h
         · rename_i hc; rw [if_pos hc]; exact loc_eqS (st' := st') v h' h
         · rename_i hc; rw [if_neg hc]; exact fin _ h)
  case unOp op t x => exact loc_un (he x (by simp))
  case convert s d x =>
    have e := he x (by simp)
    intro v h' h
    dsimp only at h ⊢
    simp only [stepM] at h ⊢
    split at h
    · exact loc_bytes (P := P) (X := X) e (hr rfl x (by simp)) v h' h
    · exact loc_conv (P := P) e v h' h
  case fieldAddr t x f => exact loc_fieldAddr (he x (by simp)) (hr rfl x (by simp))
  case field t x f => exact loc_field (he x (by simp))
  case indexAddr t x ix =>
    have e := he x (by simp)
    have e2 := he ix (by simp)
    intro v h' h
    dsimp only at h ⊢
    simp only [stepM] at h ⊢
    rw [e]
    split at h
    · exact loc_indexG e2 v h' h
    · exact loc_indexAddr (P := P) (X := X) e e2 (hr rfl x (by simp)) v h' h
  case index t x ix => exact loc_index (he x (by simp)) (he ix (by simp))
  case extract x i => exact loc_extract (he x (by simp))
  case build t parts => exact loc_build fun p hp => he p.2 (by simp; exact ⟨p.1, by simpa using hp⟩)
  case lookup t x ix ok => exact loc_lookup (he x (by simp)) (he ix (by simp)) (hr rfl x (by simp))
  case slice t x lo hi mx =>
    refine loc_slice (he x (by simp)) (fun y hy => he y ?_) (fun y hy => he y ?_) (fun y hy => he y ?_) (hr rfl x (by simp))
    all_goals simp at hy; subst hy; simp
  case makeFunc fn first cap => exact loc_makeFunc fun x hx => he x (by simp at hx ⊢; exact .inr hx)
  case makeInterface t x => exact loc_iface (he x (by simp))
  case call c =>
    have hargs : ∀ b, c.callee = .builtin b → ∀ x ∈ c.args.toList, ev st' x = ev st x := fun b hb x hx => he x (by simp [Call.operands, hb] at hx ⊢; exact hx)
    intro v h' h
    dsimp only at h ⊢
    simp only [stepM] at h ⊢
    split at hro
    · rename_i x t e1 e2 e3
      simp only [e1, e2, e3, step, stBuiltin] at h ⊢
      have hx : x ∈ c.args.toList := by rw [e2]; simp
      exact loc_len (hargs _ e1 x hx) (hr rfl x (by simp [Call.operands, e1]; simpa using hx)) v h' h
    · rename_i e1
      simp only [e1] at h ⊢
      exact loc_min (hargs _ e1) v h' h
    · rename_i e1
      simp only [e1] at h ⊢
      exact loc_min (hargs _ e1) v h' h
    · cases hro
end
section
variable {P : Program} {X : Univ U} {prim : Prim U R} {st st' : S U} {r : R}
def Sem1 (P : Program) (X : Univ U) (o : Oper) (st : S U) (v : AV U) (st' : S U) : Prop :=
  ∀ (w0 : World) (N0 : Nat → Prop) (B0 th : Nat → Th) (a : Act) (w : World), RelT X w0 N0 B0 th st a w → ∀ (K' : Act → World → Prop) (Q : Exit → Act → World → Prop),
    (∀ u w' th', RelT X w0 N0 B0 th' st' a w' → VRel X w' (NN N0 th') th' v u → K' (a.put o.dst u) w') → o.wp P a w K' Q
theorem sem_of_stepM (g : Good X) {o : Oper} {v : AV U} {h' : List (AO U)} (h : stepM P X o st pairK = some (v, h')) : Sem1 P X o st v ⟨st.s, h'⟩ := by
  intro w0 N0 B0 th a w rel K' Q hK
  obtain ⟨v', h'', hk, ⟨u, w', th', hrun, m, hc, hv⟩⟩ := stepM_ok g h rel
  injection hk with hk; injection hk with q1 q2; subst q1; subst q2
  have := hK u w' th' ⟨rel.len, fun i => hc _ _ (rel.slots i), m, rel.defers⟩ hv
  rcases hrun with hr | ⟨hr, e⟩
  · exact wp_value hr this
  · subst e; exact wp_skip_ hr this
theorem exec1_sem (g : Good X) (pok : PrimOK P X prim) {o : Oper} {K : AV U → S U → Option R} (h : exec1 P X prim o st K = some r) : ∃ v st', K v st' = some r ∧ Sem1 P X o st v st' := by
  have base : stepM P X o st (fun v h => K v ⟨st.s, h⟩) = some r → ∃ v st', K v st' = some r ∧ Sem1 P X o st v st' := fun h => by
    obtain ⟨v, h', hk, hp⟩ := nat_stepM h
    exact ⟨v, _, hk, sem_of_stepM g hp⟩
  have base2 : stepM P X o (pre st o) (fun v h => K v ⟨(pre st o).s, h⟩) = some r → ∃ v st', K v st' = some r ∧ Sem1 P X o st v st' := fun h => by
    obtain ⟨v, h', hk, hp⟩ := nat_stepM h
    refine ⟨v, _, hk, fun w0 N0 B0 th a w rel K' Q hK => ?_⟩
    obtain ⟨th1, rel1, _, _⟩ := frzAll_ok g.closed g.pos (vs := #[]) (preL st o) th (st, []) rel (fun j hj => by simp at hj)
    exact sem_of_stepM g hp w0 N0 B0 th1 a w rel1 K' Q hK
  unfold exec1 at h
  split at h
  · rename_i c hop
    split at h
    · rename_i f hf
      split at h
      · rename_i n cap ef
        split at h
        · rename_i hb
          obtain ⟨v, st', hk, hcalls'⟩ := pok n _ _ _ _ h
          refine ⟨v, st', hk, fun w0 N0 B0 th a w rel K' Q hK => ?_⟩
          have hfv := rel.ev f
          rw [ef] at hfv
          generalize hu : a.eval f = u at hfv
          cases hfv with
          | fn _ _ vs hs hj =>
            obtain ⟨e1, e2⟩ := evArgs_ok (P := P) rel c.args.toList c.argTypes.toList
            have hcalls := hcalls' w0 N0 B0 th a w (c.args.map a.eval ++ vs) rel (by simp [e1, hs]) (by
              intro j hj'
              rw [List.length_append, e1] at hj'
              by_cases hlt : j < c.args.toList.length
              · have := e2 j hlt
                have l1 : (evArgs P st c.args.toList c.argTypes.toList ++ cap).getD j .undef = (evArgs P st c.args.toList c.argTypes.toList).getD j .undef := by
                  rw [List.getD_eq_getElem?_getD, List.getD_eq_getElem?_getD, List.getElem?_append_left (by omega)]
                have l2 : (c.args.map a.eval ++ vs).getD j undef = (c.args.toList.map a.eval).getD j undef := by
                  rw [Array.getD_eq_getD_getElem?, List.getD_eq_getElem?_getD, Array.getElem?_append_left (by simpa using hlt)]
                  simp
                rw [l1, l2]; exact this
              · have := hj (j - c.args.toList.length) (by omega)
                have l1 : (evArgs P st c.args.toList c.argTypes.toList ++ cap).getD j .undef = cap.getD (j - c.args.toList.length) .undef := by
                  rw [List.getD_eq_getElem?_getD, List.getD_eq_getElem?_getD, List.getElem?_append_right (by omega), e1]
                have l2 : (c.args.map a.eval ++ vs).getD j undef = vs.getD (j - c.args.toList.length) undef := by
                  rw [Array.getD_eq_getD_getElem?, Array.getD_eq_getD_getElem?, Array.getElem?_append_right (by simpa using hlt)]
                  simp
                rw [l1, l2]; exact this)
            have hx : (execOp a.eval o).run P w = .ok (.enter n (c.args.map a.eval ++ vs)) w := by
              obtain ⟨dst, op, ty, pos, after, guard⟩ := o
              simp only at hop
              subst hop
              simp only [execOp, resolve, hf, hu, Deferred.ofValue, pure_bind, invoke]
              rw [show (#[] ++ c.args.map a.eval : Array Value) = c.args.map a.eval by simp, run_callFunc hb]
            unfold Oper.wp
            rw [hx, Oper.upon_enter]
            refine hcalls.mono fun e w' hh => ?_
            obtain ⟨u', th', rfl, rel', hv⟩ := hh
            exact hK u' w' th' rel' hv
        · cases h
      · cases h
    · exact base h
  · exact base2 h
end
end Go.Abs
namespace Go.Abs
open Go Go.RowKit
variable {U : Nat → Type} {R : Type}
abbrev Post := Exit → Act → World → Prop
def dstOf (ops : Array Oper) (i : Nat) : Option Nat := (ops[i]?).bind (·.dst)
def bindsTo (o : Oper) (j : Nat) : Bool := o.after.toList.any fun e => Region.binds .any e && e.on == j
def readsOf (ops : Array Oper) (o : Oper) : List Nat :=
  (o.op.operands.toList.filterMap fun | .tmp t => some t | _ => none) ++ (match o.guard with | some (j, _) => (dstOf ops j).toList | none => [])
def drawOK (ops : Array Oper) : Bool :=
  (List.range ops.size).all fun i =>
    match ops[i]? with
    | none => false
    | some o =>
      ((List.range ops.size).all fun j => i == j || (match o.dst with | some d => dstOf ops j != some d | none => true)) &&
      ((readsOf ops o).all fun d => (List.range ops.size).all fun j => dstOf ops j != some d || (decide (j < i) && bindsTo o j) || (decide (i < j) && (match ops[j]? with | some o' => bindsTo o' i | none => false))) &&
      (o.after.toList.all fun e => !(Region.binds .any e) || decide (e.on < i))
structure DrawOK (ops : Array Oper) : Prop where
  one : ∀ i o, ops[i]? = some o → ∀ d, o.dst = some d → ∀ j, j < ops.size → j ≠ i → dstOf ops j ≠ some d
  reads : ∀ i o, ops[i]? = some o → ∀ d ∈ readsOf ops o, ∀ j, j < ops.size → dstOf ops j = some d → (j < i ∧ ∃ e ∈ o.after, Region.binds .any e = true ∧ e.on = j) ∨ (i < j ∧ ∃ o', ops[j]? = some o' ∧ ∃ e ∈ o'.after, Region.binds .any e = true ∧ e.on = i)
  ahead : ∀ i o, ops[i]? = some o → ∀ e ∈ o.after, Region.binds .any e = true → e.on < i
theorem bindsTo_spec {o : Oper} {j : Nat} (h : bindsTo o j = true) : ∃ e ∈ o.after, Region.binds .any e = true ∧ e.on = j := by
  obtain ⟨e, he1, he2⟩ := List.any_eq_true.1 h
  simp only [Bool.and_eq_true, beq_iff_eq] at he2
  exact ⟨e, by simpa using he1, he2.1, he2.2⟩
theorem drawOK_spec {ops : Array Oper} (h : drawOK ops = true) : DrawOK ops := by
  have key : ∀ i o, ops[i]? = some o → _ := fun i o ho => by
    have hi : i < ops.size := (Array.getElem?_eq_some_iff.1 ho).1
    have := List.all_eq_true.1 h i (List.mem_range.2 hi)
    rw [ho] at this
    simp only [Bool.and_eq_true] at this
    exact this
  refine ⟨fun i o ho d hd j hj hne he => ?_, fun i o ho d hd j hj he => ?_, fun i o ho e he hb => ?_⟩
  · have := List.all_eq_true.1 (key i o ho).1.1 j (List.mem_range.2 hj)
    rw [hd] at this
    simp only [Bool.or_eq_true, beq_iff_eq, bne_iff_ne] at this
    rcases this with h1 | h1
    · exact hne h1.symm
    · exact h1 he
  · have := List.all_eq_true.1 (List.all_eq_true.1 (key i o ho).1.2 d hd) j (List.mem_range.2 hj)
    simp only [Bool.or_eq_true, bne_iff_ne, Bool.and_eq_true, decide_eq_true_eq] at this
    rcases this with (h1 | ⟨h1, h2⟩) | ⟨h1, h2⟩
    · exact absurd he h1
    · exact .inl ⟨h1, bindsTo_spec h2⟩
    · split at h2
      · rename_i o' ho'
        exact .inr ⟨h1, o', ho', bindsTo_spec h2⟩
      · cases h2
  · have := List.all_eq_true.1 (key i o ho).2 e (by simpa using he)
    simp only [Bool.or_eq_true, Bool.not_eq_true', decide_eq_true_eq] at this
    rcases this with h1 | h1
    · rw [hb] at h1; cases h1
    · exact h1
def tmpsOf (o : Oper) : List Nat := o.op.operands.toList.filterMap fun | .tmp t => some t | _ => none
def mini (o : Oper) (fp : List Nat) (st : S U) : S U := ⟨(dropL (tmpsOf o) 0 st.s).map (sub 8 (gIdx fp)), fp.map fun i => subO (gIdx fp) (st.h.getD i .dead)⟩
abbrev RW := List Nat × List Nat
def disj (a b : List Nat) : Bool := a.all fun x => !b.contains x
def anc1 (acc : List Nat) (l : List Edge) : Nat := l.foldr (fun e m => cond (Region.binds .any e) (m ||| (2 ^ e.on) ||| acc.getD e.on 0) m) 0
def ancs : List Oper → List Nat → List Nat
  | [], acc => acc
  | o :: r, acc => ancs r (acc ++ [anc1 acc o.after.toList])
def sameRef : AV U → AV U → Bool
  | .row i e, .row i' e' => decide (i = i') && decide (e = e')
  | .nils e, .nils e' => decide (e = e')
  | .ptr i c, .ptr i' c' => decide (i = i') && decide (c = c')
  | .mp i, .mp i' => decide (i = i')
  | _, _ => false
theorem sameRef_eq {x y : AV U} (h : sameRef x y = true) : x = y := by
  unfold sameRef at h
  split at h <;> simp_all
def ben (P : Program) (X : Univ U) (o : Oper) (sj sj' sk : S U) : Bool :=
  isRO o.op && (match refsOf o sj, o.dst with
    | [q], some d => (match stepM P X o ⟨sj.s, sj.h.set q (sk.h.getD q .dead)⟩ pairK with | some (v, _) => sameRef v (sj'.s.getD d .undef) | none => false)
    | _, _ => false)
abbrev Acc (U : Nat → Type) := RW × S U × S U
def meetA (P : Program) (X : Univ U) (an : List Nat) (ops : Array Oper) (acc : List (Acc U)) : Bool :=
  (List.range acc.length).all fun k => (List.range k).all fun j =>
    match acc[k]?, acc[j]?, ops[k]?, ops[j]? with
    | some ((rk, wk), _, sk), some ((rj, wj), sj, sj'), some o, some oj => (disj wj rk && disj wj wk && disj rj wk) || bindsTo o j || (an.getD k 0).testBit j || (disj wj rk && disj wj wk && ben P X oj sj sj' sk)
    | _, _, _, _ => false
def meetOK (P : Program) (X : Univ U) (ops : Array Oper) (acc : List (Acc U)) : Bool := meetA P X (ancs ops.toList []) ops acc
def goD (P : Program) (X : Univ U) (prim : Prim U R) (o : Oper) (st : S U) (K : S U → RW → Option R) : Option R :=
  cond (isRO o.op)
    (cond ((refsOf o st).all fun i => decide (i < st.h.length)) (stepM P X o st fun v _ => K (put st o.dst v st.h) (cond (looks o.op) (refsOf o st) [], [])) none)
    (exec1 P X prim o (mini o (closeR st.h (refsOf o st)) st) fun v st' =>
      cond (decide ((closeR st.h (refsOf o st)).length ≤ st'.h.length))
        (K (put st o.dst (sub 8 (backG (closeR st.h (refsOf o st)) st.h.length st'.h.length) v) (mergeH (closeR st.h (refsOf o st)) st.h.length st.h st'.h))
          (closeR st.h (refsOf o st), closeR st.h (refsOf o st) ++ List.range' st.h.length (st'.h.length - (closeR st.h (refsOf o st)).length))) none)
def opsD (P : Program) (X : Univ U) (prim : Prim U R) (all : List Oper) : List Oper → S U → List (Acc U) → (S U → List (Acc U) → Option R) → Option R
  | [], st, acc, K => K st acc
  | o :: rest, st, acc, K =>
    match o.guard with
    | none => goD P X prim o st fun st' rw => opsD P X prim all rest st' (acc ++ [(rw, st, st')]) K
    | some (j, want) =>
      match (all[j]?).bind (·.dst) with
      | none => none
      | some d =>
        match st.s.getD d .undef with
        | .bool t =>
          cond t
            (if want then goD P X prim o (put st (some d) (.bool true) st.h) fun st' rw => opsD P X prim all rest st' (acc ++ [(rw, put st (some d) (.bool true) st.h, st')]) K
             else opsD P X prim all rest (put (put st (some d) (.bool true) st.h) o.dst .undef st.h) (acc ++ [(([], []), put st (some d) (.bool true) st.h, put (put st (some d) (.bool true) st.h) o.dst .undef st.h)]) K)
            (if want then opsD P X prim all rest (put (put st (some d) (.bool false) st.h) o.dst .undef st.h) (acc ++ [(([], []), put st (some d) (.bool false) st.h, put (put st (some d) (.bool false) st.h) o.dst .undef st.h)]) K
             else goD P X prim o (put st (some d) (.bool false) st.h) fun st' rw => opsD P X prim all rest st' (acc ++ [(rw, put st (some d) (.bool false) st.h, st')]) K)
        | _ => none
def drawC (P : Program) (X : Univ U) (prim : Prim U R) (ops : Array Oper) (st : S U) (K : S U → Option R) : Option R :=
  opsD P X prim ops.toList ops.toList st [] fun st acc => cond (meetOK P X ops acc) (K st) none
inductive Ev (P : Program) (X : Univ U) (st : S U) (o : Oper) : AV U → List (AO U) → RW → Prop where
  | ro (v : AV U) (h : isRO o.op = true) (hs : stepM P X o st pairK = some (v, st.h)) (hl : ∀ i ∈ refsOf o st, i < st.h.length) : Ev P X st o v st.h (cond (looks o.op) (refsOf o st) [], [])
  | eff (fp : List Nat) (v : AV U) (st' : S U) (hf : fp.Nodup ∧ ∀ j ∈ fp, j < st.h.length) (hs : Sem1 P X o (mini o fp st) v st') (hl : fp.length ≤ st'.h.length) :
      Ev P X st o (sub 8 (backG fp st.h.length st'.h.length) v) (mergeH fp st.h.length st.h st'.h) (fp, fp ++ List.range' st.h.length (st'.h.length - fp.length))
def Got (P : Program) (X : Univ U) (ops : Array Oper) (st : S U) (o : Oper) (v : AV U) (h' : List (AO U)) (rw : RW) : Prop :=
  match o.guard with
  | none => Ev P X st o v h' rw
  | some (j, want) => ∃ d t, dstOf ops j = some d ∧ st.s.getD d .undef = .bool t ∧ (if t = want then Ev P X st o v h' rw else v = .undef ∧ h' = st.h ∧ rw = ([], []))
section
variable {P : Program} {X : Univ U} {prim : Prim U R} {w0 w : World} {N0 : Nat → Prop} {B0 : Nat → Th} {th : Nat → Th} {st st' : S U} {a : Act} {r : R}
theorem goD_ok (g : Good X) (pok : PrimOK P X prim) {o : Oper} {K : S U → RW → Option R} (h : goD P X prim o st K = some r) : ∃ v h' rw, K (put st o.dst v h') rw = some r ∧ Ev P X st o v h' rw := by
  unfold goD at h
  cases hro : isRO o.op with
  | true =>
    rw [hro] at h
    simp only [cond_true] at h
    obtain ⟨hl, h⟩ := cond_none h
    obtain ⟨v, h', hk, hp⟩ := nat_stepM h
    have := loc_stepM (st' := st) hro ⟨fun _ _ => rfl, fun _ _ _ => rfl⟩ v h' hp
    rw [this.1] at hp
    exact ⟨v, st.h, _, hk, .ro v hro hp fun i hi => of_decide_eq_true (List.all_eq_true.1 hl i hi)⟩
  | false =>
    rw [hro] at h
    simp only [cond_false] at h
    obtain ⟨v, st1, hk, hp⟩ := exec1_sem g pok h
    obtain ⟨hl, hk⟩ := cond_none hk
    exact ⟨_, _, _, hk, .eff _ v st1 (closeR_ok _ _) hp (of_decide_eq_true hl)⟩
theorem set_getD (l : List (AV U)) (d : Nat) (v : AV U) (h : l.getD d .undef = v) : l.set d v = l := by
  apply List.ext_getElem?
  intro i
  rw [List.getElem?_set]
  split
  · rename_i e; subst e
    split
    · rename_i hlt
      rw [List.getD_eq_getElem?_getD, List.getElem?_eq_getElem hlt] at h
      rw [List.getElem?_eq_getElem hlt, ← h]; rfl
    · rename_i hlt; rw [List.getElem?_eq_none (by omega)]
  · rfl
theorem trace (g : Good X) (pok : PrimOK P X prim) {ops : Array Oper} {K : S U → List (Acc U) → Option R} : ∀ (l : List Oper) (i : Nat) (st : S U) (acc : List (Acc U)), l = ops.toList.drop i → acc.length = i → opsD P X prim ops.toList l st acc K = some r →
    ∃ (vs : Nat → AV U) (T : Nat → S U) (rws : Nat → RW), T i = st ∧ K (T (i + l.length)) (acc ++ (List.range' i l.length).map fun k => (rws k, T k, T (k + 1))) = some r ∧
      ∀ k o, i ≤ k → ops[k]? = some o → ∃ h', Got P X ops (T k) o (vs k) h' (rws k) ∧ T (k + 1) = Abs.put (T k) o.dst (vs k) h' := by
  intro l
  induction l with
  | nil =>
    intro i st acc hl ha h
    refine ⟨fun _ => .undef, fun _ => st, fun _ => ([], []), rfl, by simpa [opsD] using h, fun k o hk ho => ?_⟩
    have h1 : ops.size ≤ i := by
      have := congrArg List.length hl
      simp at this; omega
    have := (Array.getElem?_eq_some_iff.1 ho).1
    omega
  | cons o l ih =>
    intro i st acc hl ha h
    have hi : ops[i]? = some o := by
      have := congrArg (·[0]?) hl
      simpa using this.symm
    have hl' : l = ops.toList.drop (i + 1) := by
      have := congrArg List.tail hl
      simpa using this
    have step : ∃ v h' rw, Got P X ops st o v h' rw ∧ opsD P X prim ops.toList l (Abs.put st o.dst v h') (acc ++ [(rw, st, Abs.put st o.dst v h')]) K = some r := by
      unfold opsD at h
      unfold Got
      split at h
      · rename_i hg
        obtain ⟨v, h', rw', h1, h2⟩ := goD_ok g pok h
        try rw [hg]
        exact ⟨v, h', rw', h2, h1⟩
      · rename_i j want hg
        try rw [hg]
        split at h
        · cases h
        · rename_i d hd
          have hd' : dstOf ops j = some d := by simpa [dstOf] using hd
          split at h
          · rename_i t ht
            have hput : Abs.put st (some d) (.bool t) st.h = st := by
              show (⟨st.s.set d (.bool t), st.h⟩ : S U) = st
              rw [set_getD _ _ _ ht]
            cases t <;> cases want <;> simp only [cond_true, cond_false, if_true, Bool.false_eq_true, if_false] at h
            · rw [hput] at h
              obtain ⟨v, h', rw', h1, h2⟩ := goD_ok g pok h
              exact ⟨v, h', rw', ⟨d, false, hd', ht, by simpa using h2⟩, h1⟩
            · rw [hput] at h
              exact ⟨.undef, st.h, ([], []), ⟨d, false, hd', ht, by simp⟩, h⟩
            · rw [hput] at h
              exact ⟨.undef, st.h, ([], []), ⟨d, true, hd', ht, by simp⟩, h⟩
            · rw [hput] at h
              obtain ⟨v, h', rw', h1, h2⟩ := goD_ok g pok h
              exact ⟨v, h', rw', ⟨d, true, hd', ht, by simpa using h2⟩, h1⟩
          · cases h
    obtain ⟨v, h', rw', g1, g2⟩ := step
    obtain ⟨vs, T, rws, t1, t2, t3⟩ := ih (i + 1) _ _ hl' (by simp [ha]) g2
    refine ⟨fun k => if k = i then v else vs k, fun k => if k = i then st else T k, fun k => if k = i then rw' else rws k, if_pos rfl, ?_, fun k o' hk ho => ?_⟩
    · show K (if i + (o :: l).length = i then st else T (i + (o :: l).length)) _ = some r
      rw [if_neg (by simp)]
      rw [show i + (o :: l).length = i + 1 + l.length by simp; omega]
      have e1 : ((List.range' i (o :: l).length).map fun k => ((if k = i then rw' else rws k), (if k = i then st else T k), (if k + 1 = i then st else T (k + 1)))) = (rw', st, Abs.put st o.dst v h') :: (List.range' (i + 1) l.length).map fun k => (rws k, T k, T (k + 1)) := by
        rw [List.length_cons, List.range'_succ]
        simp only [List.map_cons, if_true]
        rw [if_neg (by omega), t1]
        congr 1
        refine List.map_congr_left fun k hk => ?_
        have := (List.mem_range'_1.1 hk).1
        rw [if_neg (by omega), if_neg (by omega), if_neg (by omega)]
      show K _ (acc ++ (List.range' i (o :: l).length).map fun k => ((if k = i then rw' else rws k), (if k = i then st else T k), (if k + 1 = i then st else T (k + 1)))) = some r
      rw [e1]
      simpa using t2
    · by_cases e : k = i
      · subst e
        rw [hi] at ho; injection ho with ho; subst ho
        simp only [if_true]
        rw [if_neg (by omega)]
        exact ⟨h', g1, t1⟩
      · have := t3 k o' (by omega) ho
        simp only [if_neg e, if_neg (show ¬ k + 1 = i by omega)]
        exact this
end
end Go.Abs
namespace Go.Abs
open Go Go.RowKit
variable {U : Nat → Type} {R : Type}
def sl (ops : Array Oper) (vs : Nat → AV U) (st0 : S U) (L : Nat → Bool) (d : Nat) : AV U :=
  match (List.range ops.size).find? (fun i => L i && dstOf ops i == some d) with
  | some i => vs i
  | none => st0.s.getD d .undef
def lastN (rws : Nat → RW) (L : Nat → Bool) (i : Nat) : Nat → Option Nat
  | 0 => none
  | k + 1 => if L k && (rws k).2.contains i then some k else lastN rws L i k
def conH (n : Nat) (T : Nat → S U) (rws : Nat → RW) (st0 : S U) (L : Nat → Bool) (i : Nat) : AO U :=
  match lastN rws L i n with
  | some k => (T (k + 1)).h.getD i .dead
  | none => if i < st0.h.length then st0.h.getD i .dead else .hole
def stB (ops : Array Oper) (vs : Nat → AV U) (T : Nat → S U) (rws : Nat → RW) (st0 : S U) (L : Nat → Bool) : S U :=
  ⟨(List.range st0.s.length).map (sl ops vs st0 L), (List.range (T ops.size).h.length).map (conH ops.size T rws st0 L)⟩
section
variable {P : Program} {X : Univ U} {w0 w : World} {N0 : Nat → Prop} {B0 : Nat → Th} {th : Nat → Th} {st st0 : S U} {a : Act} {r : R} {ops : Array Oper} {vs : Nat → AV U} {L L' : Nat → Bool} {T : Nat → S U} {rws : Nat → RW}
theorem RelT.ext (rel : RelT X w0 N0 B0 th st a w) {st' : S U} (hl : st'.s.length = st.s.length) (hg : ∀ d, st'.s.getD d .undef = st.s.getD d .undef) (hh : st'.h = st.h) : RelT X w0 N0 B0 th st' a w :=
  ⟨by rw [hl]; exact rel.len, fun i => by rw [hg]; exact rel.slots i, by rw [hh]; exact rel.mem, rel.defers⟩
theorem heap_ext {h h' : List (AO U)} (hl : h.length = h'.length) (hg : ∀ i, i < h.length → h.getD i .dead = h'.getD i .dead) : h = h' := by
  apply List.ext_getElem? 
  intro i
  by_cases hi : i < h.length
  · have := hg i hi
    rw [List.getD_eq_getElem?_getD, List.getD_eq_getElem?_getD, List.getElem?_eq_getElem hi, List.getElem?_eq_getElem (by omega)] at this
    rw [List.getElem?_eq_getElem hi, List.getElem?_eq_getElem (by omega)]
    simpa using this
  · rw [List.getElem?_eq_none (by omega), List.getElem?_eq_none (by omega)]
theorem dst_lt {i d : Nat} (h : dstOf ops i = some d) : i < ops.size := by
  unfold dstOf at h
  cases ho : ops[i]? with
  | none => rw [ho] at h; cases h
  | some o => exact (Array.getElem?_eq_some_iff.1 ho).1
theorem one_dst (ok : DrawOK ops) {i j d : Nat} (hi : dstOf ops i = some d) (hj : dstOf ops j = some d) : i = j := by
  refine Classical.byContradiction fun hne => ?_
  obtain ⟨o, ho, hd⟩ := Option.bind_eq_some_iff.1 hi
  exact ok.one i o ho d hd j (dst_lt hj) (fun e => hne e.symm) hj
theorem sl_hit (ok : DrawOK ops) {i d : Nat} (hi : dstOf ops i = some d) (hL : L i = true) : sl ops vs st0 L d = vs i := by
  unfold sl
  cases hf : (List.range ops.size).find? (fun i => L i && dstOf ops i == some d) with
  | none =>
    have := List.find?_eq_none.1 hf i (List.mem_range.2 (dst_lt hi))
    simp [hL, hi] at this
  | some j =>
    have := List.find?_some hf
    simp only [Bool.and_eq_true, beq_iff_eq] at this
    rw [one_dst ok this.2 hi]
theorem sl_miss {d : Nat} (h : ∀ i, dstOf ops i = some d → L i = false) : sl ops vs st0 L d = st0.s.getD d .undef := by
  unfold sl
  cases hf : (List.range ops.size).find? (fun i => L i && dstOf ops i == some d) with
  | none => rfl
  | some j =>
    have := List.find?_some hf
    simp only [Bool.and_eq_true, beq_iff_eq] at this
    rw [h j this.2] at this
    cases this.1
theorem stB_getD (d : Nat) : (stB ops vs T rws st0 L).s.getD d .undef = if d < st0.s.length then sl ops vs st0 L d else .undef := by
  show ((List.range st0.s.length).map (sl ops vs st0 L)).getD d .undef = _
  rw [List.getD_eq_getElem?_getD, List.getElem?_map]
  split
  · rename_i h; rw [List.getElem?_range h]; rfl
  · rename_i h; rw [List.getElem?_eq_none (by simp; omega)]; rfl
theorem stB_len : (stB ops vs T rws st0 L).s.length = st0.s.length := by simp [stB]
theorem stB_hlen : (stB ops vs T rws st0 L).h.length = (T ops.size).h.length := by simp [stB]
theorem stB_hget {i : Nat} (hi : i < (T ops.size).h.length) : (stB ops vs T rws st0 L).h.getD i .dead = conH ops.size T rws st0 L i := by
  show ((List.range (T ops.size).h.length).map (conH ops.size T rws st0 L)).getD i .dead = _
  rw [List.getD_eq_getElem?_getD, List.getElem?_map, List.getElem?_range hi]; rfl
theorem stB_put (ok : DrawOK ops) {i : Nat} {o : Oper} (ho : ops[i]? = some o) (hL : L i = false) (hL' : ∀ j, L' j = (L j || j == i)) (h : List (AO U)) (d : Nat) :
    (Abs.put (stB ops vs T rws st0 L) o.dst (vs i) h).s.getD d .undef = (stB ops vs T rws st0 L').s.getD d .undef := by
  have hdst : dstOf ops i = o.dst := by simp [dstOf, ho]
  rw [stB_getD]
  cases hd : o.dst with
  | none =>
    show (stB ops vs T rws st0 L).s.getD d .undef = _
    rw [stB_getD]
    split
    · by_cases hx : ∃ j, dstOf ops j = some d ∧ L j = true
      · obtain ⟨j, h1, h2⟩ := hx
        rw [sl_hit ok h1 h2, sl_hit ok h1 (by rw [hL', h2]; rfl)]
      · have hx' : ∀ j, dstOf ops j = some d → L j = false := fun j h1 => by
          cases hl : L j with
          | false => rfl
          | true => exact absurd ⟨j, h1, hl⟩ hx
        rw [sl_miss hx', sl_miss fun j h1 => by
          rw [hL', hx' j h1]
          have : j ≠ i := fun e => by subst e; rw [hdst, hd] at h1; cases h1
          simpa using this]
    · rfl
  | some dd =>
    rw [hd] at hdst
    show ((stB ops vs T rws st0 L).s.set dd (vs i)).getD d .undef = _
    rw [getD_set, stB_len, stB_getD]
    by_cases hdd : dd = d
    · subst hdd
      split
      · rename_i h; rw [if_pos h.2, sl_hit ok hdst (by rw [hL']; simp)]
      · rename_i h
        have : ¬ dd < st0.s.length := fun hlt => h ⟨rfl, hlt⟩
        rw [if_neg this, if_neg this]
    · rw [if_neg (fun h => hdd h.1)]
      split
      · by_cases hx : ∃ j, dstOf ops j = some d ∧ L j = true
        · obtain ⟨j, h1, h2⟩ := hx
          rw [sl_hit ok h1 h2, sl_hit ok h1 (by rw [hL', h2]; rfl)]
        · have hx' : ∀ j, dstOf ops j = some d → L j = false := fun j h1 => by
            cases hl : L j with
            | false => rfl
            | true => exact absurd ⟨j, h1, hl⟩ hx
          rw [sl_miss hx', sl_miss fun j h1 => by
            rw [hL', hx' j h1]
            have : j ≠ i := fun e => by subst e; rw [hdst] at h1; injection h1 with h1; exact hdd h1
            simpa using this]
      · rfl
theorem last_congr {i : Nat} : ∀ n, (∀ k, k < n → i ∈ (rws k).2 → L k = L' k) → lastN rws L i n = lastN rws L' i n
  | 0, _ => rfl
  | n + 1, h => by
    unfold lastN
    rw [last_congr n fun k hk => h k (by omega)]
    by_cases hm : i ∈ (rws n).2
    · rw [h n (by omega) hm]
    · have : (rws n).2.contains i = false := by simpa using hm
      rw [this]; simp
theorem last_hit {i k0 : Nat} : ∀ n, k0 < n → L k0 = true → i ∈ (rws k0).2 → (∀ k, k0 < k → k < n → i ∈ (rws k).2 → L k = false) → lastN rws L i n = some k0
  | 0, h, _, _, _ => by omega
  | n + 1, h, hL, hi, hn => by
    unfold lastN
    by_cases e : k0 = n
    · subst e
      have : (rws k0).2.contains i = true := by simpa using hi
      rw [if_pos (by rw [hL, this]; rfl)]
    · have hlt : k0 < n := by omega
      have : ¬ (L n && (rws n).2.contains i) = true := fun hc => by
        rw [Bool.and_eq_true] at hc
        have hm : i ∈ (rws n).2 := by simpa using hc.2
        have := hn n hlt (by omega) hm
        rw [this] at hc; cases hc.1
      rw [if_neg this]
      exact last_hit n hlt hL hi fun k h1 h2 => hn k h1 (by omega)
theorem last_none {i : Nat} : ∀ n, (∀ k, k < n → i ∈ (rws k).2 → L k = false) → lastN rws L i n = none
  | 0, _ => rfl
  | n + 1, h => by
    unfold lastN
    have : ¬ (L n && (rws n).2.contains i) = true := fun hc => by
      rw [Bool.and_eq_true] at hc
      have hm : i ∈ (rws n).2 := by simpa using hc.2
      have := h n (by omega) hm
      rw [this] at hc; cases hc.1
    rw [if_neg this]
    exact last_none n fun k hk => h k (by omega)
structure StepH (h h' : List (AO U)) (rw : RW) : Prop where
  len : h.length ≤ h'.length
  same : ∀ i, i < h.length → i ∉ rw.2 → h'.getD i .dead = h.getD i .dead
  new : ∀ i, h.length ≤ i → i < h'.length → i ∈ rw.2
  wlt : ∀ i ∈ rw.2, i < h'.length
  rlt : ∀ i ∈ rw.1, i < h.length
theorem Ev.stepH {o : Oper} {v : AV U} {h' : List (AO U)} {rw : RW} (h : Ev P X st o v h' rw) : StepH st.h h' rw := by
  cases h with
  | ro v hro hs hl =>
    refine ⟨Nat.le_refl _, fun _ _ _ => rfl, fun i h1 h2 => by omega, fun i hi => by simp at hi, fun i hi => ?_⟩
    cases hlk : looks o.op with
    | true => rw [hlk] at hi; exact hl i hi
    | false => rw [hlk] at hi; simp at hi
  | eff fp v st' hf hs hl =>
    have hlen := merge_len fp st.h.length st.h st'.h
    have hmax : max st.h.length (st.h.length + (st'.h.length - fp.length)) = st.h.length + (st'.h.length - fp.length) := by omega
    rw [hmax] at hlen
    refine ⟨by omega, fun i hi hn => ?_, fun i h1 h2 => ?_, fun i hi => ?_, fun i hi => hf.2 i hi⟩
    · simp only [List.mem_append, List.mem_range'_1, not_or] at hn
      rw [merge_get fp _ _ _ (by omega)]
      unfold mergeAt
      rw [posIn_out hn.1]
      simp only [if_neg hn.2]
    · simp only [List.mem_append, List.mem_range'_1]
      right; omega
    · simp only [List.mem_append, List.mem_range'_1] at hi
      rcases hi with hi | hi
      · have := hf.2 i hi; omega
      · omega
theorem Got.stepH {o : Oper} {v : AV U} {h' : List (AO U)} {rw : RW} (h : Got P X ops st o v h' rw) : StepH st.h h' rw := by
  unfold Got at h
  split at h
  · exact h.stepH
  · obtain ⟨d, t, _, _, hv⟩ := h
    split at hv
    · exact hv.stepH
    · obtain ⟨_, rfl, rfl⟩ := hv
      exact ⟨Nat.le_refl _, fun _ _ _ => rfl, fun i h1 h2 => by omega, fun i hi => by simp at hi, fun i hi => by simp at hi⟩
structure Run (P : Program) (X : Univ U) (ops : Array Oper) (st0 : S U) (vs : Nat → AV U) (T : Nat → S U) (rws : Nat → RW) : Prop where
  zero : T 0 = st0
  step : ∀ k o, ops[k]? = some o → ∃ h', Got P X ops (T k) o (vs k) h' (rws k) ∧ T (k + 1) = Abs.put (T k) o.dst (vs k) h'
theorem Run.stepH (R : Run P X ops st0 vs T rws) {k : Nat} (hk : k < ops.size) : StepH (T k).h (T (k + 1)).h (rws k) := by
  obtain ⟨h', h1, h2⟩ := R.step k _ (Array.getElem?_eq_getElem hk)
  have : (T (k + 1)).h = h' := by rw [h2]; cases (ops[k]).dst <;> rfl
  rw [this]; exact h1.stepH
theorem Run.mono (R : Run P X ops st0 vs T rws) : ∀ {j k : Nat}, j ≤ k → k ≤ ops.size → (T j).h.length ≤ (T k).h.length := by
  intro j k hjk hk
  induction k with
  | zero => have : j = 0 := by omega
            subst this; exact Nat.le_refl _
  | succ k ih =>
    by_cases e : j = k + 1
    · subst e; exact Nat.le_refl _
    · exact Nat.le_trans (ih (by omega) (by omega)) (R.stepH (by omega)).len
theorem Run.text (R : Run P X ops st0 vs T rws) (ok : DrawOK ops) : ∀ k, k ≤ ops.size →
    (T k).s.length = st0.s.length ∧ (∀ d, (T k).s.getD d .undef = (stB ops vs T rws st0 (fun j => decide (j < k))).s.getD d .undef) ∧
      ∀ i, i < (T k).h.length → (T k).h.getD i .dead = conH ops.size T rws st0 (fun j => decide (j < k)) i
  | 0, _ => by
    rw [R.zero]
    refine ⟨rfl, fun d => ?_, fun i hi => ?_⟩
    · rw [stB_getD]
      split
      · rw [sl_miss fun i _ => by simp]
      · rename_i h; rw [List.getD_eq_getElem?_getD, List.getElem?_eq_none (by omega)]; rfl
    · unfold conH
      rw [last_none _ fun k _ _ => by simp]
      simp only [if_pos hi]
  | k + 1, hk => by
    obtain ⟨h2, h3, h4⟩ := R.text ok k (by omega)
    have ho : ops[k]? = some ops[k] := Array.getElem?_eq_getElem (by omega)
    obtain ⟨h', g1, g2⟩ := R.step k _ ho
    have hdec : ∀ j, decide (j < k + 1) = (decide (j < k) || j == k) := fun j => by
      by_cases e : j = k
      · subst e; simp
      · by_cases hlt : j < k
        · have h1 : j < k + 1 := by omega
          simp [hlt, h1]
        · have h1 : ¬ j < k + 1 := by omega
          simp [hlt, e, h1]
    have hst := R.stepH (k := k) (by omega)
    have hhe : (T (k + 1)).h = h' := by rw [g2]; cases (ops[k]).dst <;> rfl
    refine ⟨by rw [g2]; cases (ops[k]).dst <;> simp [Abs.put, h2], fun d => ?_, fun i hi => ?_⟩
    · rw [g2, ← stB_put (T := T) (rws := rws) ok ho (L := fun j => decide (j < k)) (by simp) hdec (h := h')]
      cases hd : (ops[k]).dst with
      | none => exact h3 d
      | some dd =>
        show ((T k).s.set dd (vs k)).getD d .undef = ((stB ops vs T rws st0 fun j => decide (j < k)).s.set dd (vs k)).getD d .undef
        rw [getD_set, getD_set, h2, stB_len, h3 d]
    · by_cases hw : i ∈ (rws k).2
      · unfold conH
        rw [last_hit (k0 := k) _ (by omega) (by simp) hw fun k' h1 _ _ => by simp; omega]
      · have hlt : i < (T k).h.length := Nat.lt_of_not_le fun hle => hw (hst.new i hle hi)
        rw [hst.same i hlt hw, h4 i hlt]
        unfold conH
        rw [last_congr (L := fun j => decide (j < k)) (L' := fun j => decide (j < k + 1)) _ fun k' hk' hm => ?_]
        have : k' ≠ k := fun e => hw (e ▸ hm)
        by_cases hlt : k' < k
        · simp [hlt]; omega
        · have : ¬ k' < k + 1 := by omega
          simp [hlt, this]
def Closed1 (ops : Array Oper) (L : Nat → Bool) : Prop := ∀ k o, ops[k]? = some o → L k = true → ∀ e ∈ o.after, Region.binds .any e = true → L e.on = true
theorem read_same (ok : DrawOK ops) {i : Nat} {o : Oper} (ho : ops[i]? = some o) (hL : L i = false) (hc : Closed1 ops L) (hready : ∀ e ∈ o.after, Region.binds .any e = true → L e.on = true) {d : Nat} (hd : d ∈ readsOf ops o) :
    (stB ops vs T rws st0 L).s.getD d .undef = (stB ops vs T rws st0 (fun j => decide (j < i))).s.getD d .undef := by
  rw [stB_getD, stB_getD]
  split
  · by_cases hx : ∃ j, dstOf ops j = some d
    · obtain ⟨j, hj⟩ := hx
      rcases ok.reads i o ho d hd j (dst_lt hj) hj with ⟨h1, e, he, hb, hon⟩ | ⟨h1, o', ho', e, he, hb, hon⟩
      · rw [sl_hit ok hj (by rw [← hon]; exact hready e he hb), sl_hit ok hj (by simpa using h1)]
      · have hLj : L j = false := by
          cases hx : L j with
          | false => rfl
          | true =>
            have := hc j o' ho' hx e he hb
            rw [hon, hL] at this; cases this
        rw [sl_miss fun k hk => by rw [one_dst ok hk hj]; exact hLj, sl_miss fun k hk => by rw [one_dst ok hk hj]; simp; omega]
    · rw [sl_miss fun j hj => absurd ⟨j, hj⟩ hx, sl_miss fun j hj => absurd ⟨j, hj⟩ hx]
  · rfl
def Waits (ops : Array Oper) (o : Oper) (j : Nat) : Prop := ∀ L : Nat → Bool, Closed1 ops L → (∀ e ∈ o.after, Region.binds .any e = true → L e.on = true) → L j = true
theorem anc1_spec {acc : List Nat} {j : Nat} : ∀ l : List Edge, (anc1 acc l).testBit j = true → ∃ e ∈ l, Region.binds .any e = true ∧ (e.on = j ∨ (acc.getD e.on 0).testBit j = true)
  | [], h => by simp [anc1] at h
  | e :: l, h => by
    have hh : (anc1 acc (e :: l)) = cond (Region.binds .any e) (anc1 acc l ||| (2 ^ e.on) ||| acc.getD e.on 0) (anc1 acc l) := rfl
    rw [hh] at h
    have ih : (anc1 acc l).testBit j = true → ∃ e' ∈ e :: l, Region.binds .any e' = true ∧ (e'.on = j ∨ (acc.getD e'.on 0).testBit j = true) := fun h => by
      obtain ⟨e', h1, h2⟩ := anc1_spec l h
      exact ⟨e', List.mem_cons_of_mem _ h1, h2⟩
    cases hb : Region.binds .any e with
    | false => rw [hb] at h; exact ih h
    | true =>
      rw [hb] at h
      simp only [cond_true, Nat.testBit_or, Bool.or_eq_true, Nat.testBit_two_pow, decide_eq_true_eq] at h
      rcases h with (h | h) | h
      · exact ih h
      · exact ⟨e, List.mem_cons_self, hb, .inl h⟩
      · exact ⟨e, List.mem_cons_self, hb, .inr h⟩
theorem ancs_spec : ∀ (l : List Oper) (i : Nat) (acc : List Nat), l = ops.toList.drop i → acc.length = i → (∀ k, k < i → ∀ o j, ops[k]? = some o → (acc.getD k 0).testBit j = true → Waits ops o j) →
    ∀ k o j, ops[k]? = some o → ((ancs l acc).getD k 0).testBit j = true → Waits ops o j
  | [], i, acc, hl, ha, hk => fun k o j ho hb => by
    have h1 : ops.size ≤ i := by
      have := congrArg List.length hl
      simp at this; omega
    have := (Array.getElem?_eq_some_iff.1 ho).1
    exact hk k (by omega) o j ho hb
  | o :: l, i, acc, hl, ha, hk => by
    have hi : ops[i]? = some o := by
      have := congrArg (·[0]?) hl
      simpa using this.symm
    have hl' : l = ops.toList.drop (i + 1) := by
      have := congrArg List.tail hl
      simpa using this
    refine ancs_spec l (i + 1) (acc ++ [anc1 acc o.after.toList]) hl' (by simp [ha]) fun k hlt o' j ho hb => ?_
    by_cases e : k = i
    · subst e
      rw [hi] at ho; injection ho with ho; subst ho
      rw [List.getD_eq_getElem?_getD, List.getElem?_append_right (by omega), ha, Nat.sub_self] at hb
      obtain ⟨e, he, hbd, hj⟩ := anc1_spec _ hb
      intro L hc hr
      have hon := hr e (by simpa using he) hbd
      rcases hj with hj | hj
      · rw [← hj]; exact hon
      · have hlt' : e.on < k := by
          refine Nat.lt_of_not_le fun hle => ?_
          rw [List.getD_eq_getElem?_getD, List.getElem?_eq_none (by omega)] at hj
          simp at hj
        have hos : e.on < ops.size := by have := (Array.getElem?_eq_some_iff.1 hi).1; omega
        have ho' : ops[e.on]? = some ops[e.on] := Array.getElem?_eq_getElem hos
        exact hk e.on hlt' _ j ho' hj L hc (hc e.on _ ho' hon)
    · have hlt' : k < i := by omega
      rw [List.getD_eq_getElem?_getD, List.getElem?_append_left (by omega), ← List.getD_eq_getElem?_getD] at hb
      exact hk k hlt' o' j ho hb
def BenP (P : Program) (X : Univ U) (ops : Array Oper) (T : Nat → S U) (vs : Nat → AV U) (j k : Nat) : Prop :=
  ∃ o q h', ops[j]? = some o ∧ isRO o.op = true ∧ refsOf o (T j) = [q] ∧ stepM P X o ⟨(T j).s, (T j).h.set q ((T (k + 1)).h.getD q .dead)⟩ pairK = some (vs j, h')
structure Meet (P : Program) (X : Univ U) (ops : Array Oper) (T : Nat → S U) (vs : Nat → AV U) (rws : Nat → RW) : Prop where
  w : ∀ j k o q, j < k → ops[k]? = some o → (q ∈ (rws j).2 ∧ q ∈ (rws k).1 ∨ q ∈ (rws j).2 ∧ q ∈ (rws k).2) → Waits ops o j
  r : ∀ j k o q, j < k → ops[k]? = some o → q ∈ (rws j).1 → q ∈ (rws k).2 → Waits ops o j ∨ BenP P X ops T vs j k
theorem disj_no {a b : List Nat} (h : disj a b = true) {q : Nat} (ha : q ∈ a) (hb : q ∈ b) : False := by
  have := List.all_eq_true.1 h q ha
  simp [hb] at this
theorem meet_spec (R : Run P X ops st0 vs T rws) {acc : List (Acc U)} (h : meetOK P X ops acc = true) (ha : ∀ k, k < ops.size → acc[k]? = some (rws k, T k, T (k + 1))) : Meet P X ops T vs rws := by
  have key : ∀ j k o oj, j < k → ops[k]? = some o → ops[j]? = some oj → ((disj (rws j).2 (rws k).1 = true ∧ disj (rws j).2 (rws k).2 = true) ∧ (disj (rws j).1 (rws k).2 = true ∨ ben P X oj (T j) (T (j + 1)) (T (k + 1)) = true)) ∨ Waits ops o j := by
    intro j k o oj hjk ho hoj
    have hk : k < ops.size := (Array.getElem?_eq_some_iff.1 ho).1
    have hka := ha k hk
    have hlt : k < acc.length := (List.getElem?_eq_some_iff.1 hka).1
    have := List.all_eq_true.1 (List.all_eq_true.1 h k (List.mem_range.2 hlt)) j (List.mem_range.2 hjk)
    rw [hka, ha j (by omega), ho, hoj] at this
    simp only [Bool.or_eq_true, Bool.and_eq_true] at this
    rcases this with ((⟨h1, h2⟩ | h1) | h1) | ⟨h1, h2⟩
    · exact .inl ⟨h1, .inl h2⟩
    · obtain ⟨e, he, hb, hon⟩ := bindsTo_spec h1
      exact .inr fun L _ hr => hon ▸ hr e he hb
    rotate_left
    · exact .inl ⟨h1, .inr h2⟩
    · exact .inr (ancs_spec ops.toList 0 [] rfl rfl (fun k hk => absurd hk (Nat.not_lt_zero _)) k o j ho h1)
  refine ⟨fun j k o q hjk ho hq => ?_, fun j k o q hjk ho hq1 hq2 => ?_⟩
  · have hk : k < ops.size := (Array.getElem?_eq_some_iff.1 ho).1
    rcases key j k o ops[j] hjk ho (Array.getElem?_eq_getElem (by omega)) with ⟨⟨h1, h2⟩, _⟩ | h1
    · rcases hq with ⟨a, b⟩ | ⟨a, b⟩
      · exact (disj_no h1 a b).elim
      · exact (disj_no h2 a b).elim
    · exact h1
  · have hk : k < ops.size := (Array.getElem?_eq_some_iff.1 ho).1
    have hoj : ops[j]? = some ops[j] := Array.getElem?_eq_getElem (by omega)
    rcases key j k o ops[j] hjk ho hoj with ⟨_, h3 | h3⟩ | h1
    · exact (disj_no h3 hq1 hq2).elim
    · refine .inr ?_
      unfold ben at h3
      rw [Bool.and_eq_true] at h3
      obtain ⟨hro, h3⟩ := h3
      split at h3
      · rename_i q' d hr hd
        split at h3
        · rename_i v h' hs
          refine ⟨ops[j], q', h', hoj, hro, hr, ?_⟩
          rw [hs]
          have hv := sameRef_eq h3
          obtain ⟨h2, _, g2⟩ := R.step j _ hoj
          rw [g2, hd] at hv
          have : v = vs j := by
            have e : (Abs.put (T j) (some d) (vs j) h2).s.getD d .undef = if d = d ∧ d < (T j).s.length then vs j else (T j).s.getD d .undef := getD_set _ _ _ _
            rw [e] at hv
            by_cases hlt : d < (T j).s.length
            · rw [if_pos ⟨rfl, hlt⟩] at hv; exact hv
            · have hu : (T j).s.getD d .undef = .undef := by
                rw [List.getD_eq_getElem?_getD, List.getElem?_eq_none (Nat.le_of_not_lt hlt)]; rfl
              rw [g2, hd, e, if_neg (fun h => hlt h.2), hu] at h3
              unfold sameRef at h3
              split at h3 <;> simp_all
          rw [this]
        · cases h3
      · cases h3
    · exact .inl h1
theorem last_ge {q k0 : Nat} : ∀ n, k0 < n → L k0 = true → q ∈ (rws k0).2 → ∃ k, lastN rws L q n = some k ∧ k0 ≤ k ∧ k < n ∧ L k = true ∧ q ∈ (rws k).2
  | 0, h, _, _ => by omega
  | n + 1, h, hL, hi => by
    unfold lastN
    by_cases hc : (L n && (rws n).2.contains q) = true
    · rw [if_pos hc]
      rw [Bool.and_eq_true] at hc
      exact ⟨n, rfl, by omega, by omega, hc.1, by simpa using hc.2⟩
    · rw [if_neg hc]
      have hlt : k0 < n := by
        refine Nat.lt_of_le_of_ne (by omega) fun e => hc ?_
        subst e
        have : (rws k0).2.contains q = true := by simpa using hi
        rw [hL, this]; rfl
      obtain ⟨k, k1, k2, k3, k4⟩ := last_ge n hlt hL hi
      exact ⟨k, k1, k2, by omega, k4⟩
theorem con_same (R : Run P X ops st0 vs T rws) (ok : DrawOK ops) (hm : Meet P X ops T vs rws) {i : Nat} {o : Oper} (ho : ops[i]? = some o) (hL : L i = false) (hc : Closed1 ops L) (hready : ∀ e ∈ o.after, Region.binds .any e = true → L e.on = true)
    {q : Nat} (hq : q ∈ (rws i).2) (hlt : q < (T i).h.length) : conH ops.size T rws st0 L q = (T i).h.getD q .dead := by
  have hi : i < ops.size := (Array.getElem?_eq_some_iff.1 ho).1
  obtain ⟨_, _, h4⟩ := R.text ok i (by omega)
  rw [h4 q hlt]
  unfold conH
  rw [last_congr (L := L) (L' := fun j => decide (j < i)) _ fun k hk hmk => ?_]
  rcases Nat.lt_trichotomy k i with h | h | h
  · have hw := hm.w k i o q h ho (.inr ⟨hmk, hq⟩)
    rw [hw L hc hready]
    simp [h]
  · subst h; rw [hL]; simp
  · have hok : ops[k]? = some ops[k] := Array.getElem?_eq_getElem hk
    have hw := hm.w i k _ q h hok (.inr ⟨hq, hmk⟩)
    have : L k = false := by
      cases hl : L k with
      | false => rfl
      | true =>
        have := hw L hc (hc k _ hok hl)
        rw [hL] at this; cases this
    rw [this]
    have : ¬ k < i := by omega
    simp [this]
theorem con_look (R : Run P X ops st0 vs T rws) (ok : DrawOK ops) (hm : Meet P X ops T vs rws) {i : Nat} {o : Oper} (ho : ops[i]? = some o) (hL : L i = false) (hc : Closed1 ops L) (hready : ∀ e ∈ o.after, Region.binds .any e = true → L e.on = true)
    {q : Nat} (hq : q ∈ (rws i).1) (hlt : q < (T i).h.length) : conH ops.size T rws st0 L q = (T i).h.getD q .dead ∨ ∃ k, BenP P X ops T vs i k ∧ conH ops.size T rws st0 L q = (T (k + 1)).h.getD q .dead := by
  have hi : i < ops.size := (Array.getElem?_eq_some_iff.1 ho).1
  by_cases hx : ∃ k, i < k ∧ k < ops.size ∧ L k = true ∧ q ∈ (rws k).2
  · obtain ⟨k0, h1, h2, h3, h4⟩ := hx
    obtain ⟨k, k1, k2, k3, k4, k5⟩ := last_ge ops.size h2 h3 h4
    have hok : ops[k]? = some ops[k] := Array.getElem?_eq_getElem k3
    rcases hm.r i k _ q (by omega) hok hq k5 with hw | hb
    · have := hw L hc (hc k _ hok k4)
      rw [hL] at this; cases this
    · refine .inr ⟨k, hb, ?_⟩
      unfold conH
      rw [k1]
  · left
    obtain ⟨_, _, h4⟩ := R.text ok i (by omega)
    rw [h4 q hlt]
    unfold conH
    rw [last_congr (L := L) (L' := fun j => decide (j < i)) _ fun k hk hmk => ?_]
    rcases Nat.lt_trichotomy k i with h | h | h
    · have hw := hm.w k i o q h ho (.inl ⟨hmk, hq⟩)
      rw [hw L hc hready]
      simp [h]
    · subst h; rw [hL]; simp
    · have : L k = false := by
        cases hl : L k with
        | false => rfl
        | true => exact absurd ⟨k, h, hk, hl, hmk⟩ hx
      rw [this]
      have : ¬ k < i := by omega
      simp [this]
theorem con_hole (R : Run P X ops st0 vs T rws) (hm : Meet P X ops T vs rws) {i : Nat} (hi : i < ops.size) (hL : L i = false) (hc : Closed1 ops L)
    {q : Nat} (hq : q ∈ (rws i).2) (hge : (T i).h.length ≤ q) : conH ops.size T rws st0 L q = .hole := by
  unfold conH
  rw [last_none _ fun k hk hmk => ?_]
  · have : (T 0).h.length ≤ (T i).h.length := R.mono (by omega) (by omega)
    rw [R.zero] at this
    simp only [if_neg (show ¬ q < st0.h.length by omega)]
  · rcases Nat.lt_trichotomy k i with h | h | h
    · have h1 := (R.stepH hk).wlt q hmk
      have h2 : (T (k + 1)).h.length ≤ (T i).h.length := R.mono (by omega) (by omega)
      omega
    · subst h; exact hL
    · have hok : ops[k]? = some ops[k] := Array.getElem?_eq_getElem hk
      have hw := hm.w i k _ q h hok (.inr ⟨hq, hmk⟩)
      cases hl : L k with
      | false => rfl
      | true =>
        have := hw L hc (hc k _ hok hl)
        rw [hL] at this; cases this
theorem con_more (hm : Meet P X ops T vs rws) {i : Nat} (hi : i < ops.size) (hL : L i = false) (hc : Closed1 ops L) (hL' : ∀ j, L' j = (L j || j == i)) {q : Nat} :
    conH ops.size T rws st0 L' q = if q ∈ (rws i).2 then (T (i + 1)).h.getD q .dead else conH ops.size T rws st0 L q := by
  split
  · rename_i hq
    unfold conH
    rw [last_hit (k0 := i) _ hi (by rw [hL']; simp) hq fun k h1 hk hmk => ?_]
    rw [hL']
    have hne : (k == i) = false := by simp; omega
    rw [hne, Bool.or_false]
    have hok : ops[k]? = some ops[k] := Array.getElem?_eq_getElem hk
    have hw := hm.w i k _ q h1 hok (.inr ⟨hq, hmk⟩)
    cases hl : L k with
    | false => rfl
    | true =>
      have := hw L hc (hc k _ hok hl)
      rw [hL] at this; cases this
  · rename_i hq
    unfold conH
    rw [last_congr (L := L') (L' := L) _ fun k hk hmk => ?_]
    rw [hL']
    have : k ≠ i := fun e => hq (e ▸ hmk)
    have : (k == i) = false := by simpa using this
    rw [this, Bool.or_false]
end
end Go.Abs
namespace Go.Abs
open Go Go.RowKit
variable {U : Nat → Type} {R : Type}
section
variable {P : Program} {X : Univ U} {w0 w : World} {N0 : Nat → Prop} {B0 : Nat → Th} {th : Nat → Th} {st st0 : S U} {a : Act} {r : R} {ops : Array Oper} {vs : Nat → AV U} {L L' : Nat → Bool} {T : Nat → S U} {rws : Nat → RW}
theorem dropL_same {ks : List Nat} : ∀ (l l' : List (AV U)) (k : Nat), l.length = l'.length → (∀ i, k ≤ i → i ∈ ks → l.getD (i - k) .undef = l'.getD (i - k) .undef) → dropL ks k l = dropL ks k l'
  | [], [], _, _, _ => rfl
  | [], _ :: _, _, h, _ => by simp at h
  | _ :: _, [], _, h, _ => by simp at h
  | x :: xs, y :: ys, k, hl, hg => by
    unfold dropL
    have h0 : (if ks.contains k then x else AV.undef) = (if ks.contains k then y else AV.undef) := by
      by_cases hk : k ∈ ks
      · have := hg k (Nat.le_refl _) hk
        rw [Nat.sub_self] at this
        have this : x = y := this
        rw [this]
      · have : ks.contains k = false := by simpa using hk
        rw [this]; rfl
    rw [h0]
    congr 1
    refine dropL_same xs ys (k + 1) (by simpa using hl) fun i hi hm => ?_
    have := hg i (by omega) hm
    have e : i - k = (i - (k + 1)) + 1 := by omega
    rw [e] at this
    simpa only [List.getD_cons_succ] using this
theorem mini_same {o : Oper} {fp : List Nat} {st st' : S U} (hl : st.s.length = st'.s.length) (hs : ∀ d ∈ tmpsOf o, st.s.getD d .undef = st'.s.getD d .undef) (hh : ∀ i ∈ fp, st.h.getD i .dead = st'.h.getD i .dead) : mini o fp st = mini o fp st' := by
  unfold mini
  rw [dropL_same st.s st'.s 0 hl fun i _ hm => by simpa using hs i hm]
  congr 1
  exact List.map_congr_left fun i hi => by rw [hh i hi]
theorem mini_rel (g : Good X) {o : Oper} {fp : List Nat} (rel : RelT X w0 N0 B0 th st a w) (hf : fp.Nodup ∧ ∀ j ∈ fp, j < st.h.length) :
    RelT X w (Nc N0 th fp []) (thAt th fp) (thAt th fp) (mini o fp st) a w where
  len := by
    have := rel.len
    simpa [mini, dropL_len] using this
  slots := fun i => by
    have h1 := (drop_ok (tmpsOf o) rel).slots i
    by_cases hi : i < (dropL (tmpsOf o) 0 st.s).length
    · have e : (mini o fp st).s.getD i .undef = sub 8 (gIdx fp) ((dropL (tmpsOf o) 0 st.s).getD i .undef) := map_getD _ _ _ hi
      rw [e]
      exact sub_rel g.closed g.pos (fun b => nc_sub) (sb_gIdx fp []) h1 8
    · have e : (mini o fp st).s.getD i .undef = .undef := by
        rw [List.getD_eq_getElem?_getD, List.getElem?_eq_none (by simp [mini]; omega)]; rfl
      rw [e]; exact .undef _
  mem := mem_handed g rel.mem hf []
  defers := rel.defers
theorem getD_true {listed : Array Bool} {i : Nat} (h : i < listed.size) (b : Bool) : listed.getD i b = listed[i] := by
  rw [Array.getD_eq_getD_getElem?, Array.getElem?_eq_getElem h]; rfl
theorem one_ok (g : Good X) (run : Run P X ops st0 vs T rws) (ok : DrawOK ops) (hm : Meet P X ops T vs rws) {i : Nat} {o : Oper} (ho : ops[i]? = some o) (hL : L i = false) (hc : Closed1 ops L)
    (hready : ∀ e ∈ o.after, Region.binds .any e = true → L e.on = true) (hL' : ∀ j, L' j = (L j || j == i)) (rel : RelT X w0 N0 B0 th (stB ops vs T rws st0 L) a w)
    {K' : Act → World → Prop} {Q : Post} (hK : ∀ u w' th', RelT X w0 N0 B0 th' (stB ops vs T rws st0 L') (a.put o.dst u) w' → K' (a.put o.dst u) w')
    {v : AV U} {h' : List (AO U)} (hv : v = vs i) (hT : T (i + 1) = Abs.put (T i) o.dst (vs i) h') (hev : Ev P X (T i) o v h' (rws i)) : o.wp P a w K' Q := by
  have hi : i < ops.size := (Array.getElem?_eq_some_iff.1 ho).1
  obtain ⟨t2, t3, t4⟩ := run.text ok i (by omega)
  have hTn : (T (i + 1)).h.length ≤ (T ops.size).h.length := run.mono (by omega) (Nat.le_refl _)
  have hTi : (T i).h.length ≤ (T ops.size).h.length := run.mono (by omega) (Nat.le_refl _)
  have hTh : (T (i + 1)).h = h' := by rw [hT]; cases o.dst <;> rfl
  have hslot : ∀ d ∈ readsOf ops o, (stB ops vs T rws st0 L).s.getD d .undef = (T i).s.getD d .undef := fun d hd => by
    rw [t3 d]; exact read_same ok ho hL hc hready hd
  have hev' : ∀ x ∈ o.op.operands.toList, ev (stB ops vs T rws st0 L) x = ev (T i) x := fun x hx => by
    cases x with
    | tmp d => exact hslot d (List.mem_append.2 (.inl (List.mem_filterMap.2 ⟨_, hx, rfl⟩)))
    | _ => rfl
  have hcon : ∀ q, q ∈ (rws i).2 → q < (T i).h.length → (stB ops vs T rws st0 L).h.getD q .dead = (T i).h.getD q .dead := fun q hq hlt => by
    rw [stB_hget (by omega)]
    exact con_same run ok hm ho hL hc hready hq hlt
  have hlook : ∀ q, q ∈ (rws i).1 → q < (T i).h.length → (stB ops vs T rws st0 L).h.getD q .dead = (T i).h.getD q .dead ∨ ∃ k, BenP P X ops T vs i k ∧ (stB ops vs T rws st0 L).h.getD q .dead = (T (k + 1)).h.getD q .dead := fun q hq hlt => by
    rw [stB_hget (by omega)]
    exact con_look run ok hm ho hL hc hready hq hlt
  generalize hrw : rws i = rw at hev
  cases hev with
  | ro v hro hs hl =>
    have : stepM P X o (stB ops vs T rws st0 L) pairK = some (v, (stB ops vs T rws st0 L).h) := by
      by_cases hall : ∀ q ∈ refsOf o (T i), looks o.op = true → (stB ops vs T rws st0 L).h.getD q .dead = (T i).h.getD q .dead
      · have hsame : Same (T i) (stB ops vs T rws st0 L) o := ⟨hev', fun hlk q hq => hall q hq hlk⟩
        exact (loc_stepM (P := P) (X := X) hro hsame v _ hs).2
      · have hex : ∃ q, q ∈ refsOf o (T i) ∧ looks o.op = true ∧ ¬ (stB ops vs T rws st0 L).h.getD q .dead = (T i).h.getD q .dead := by
          refine Classical.byContradiction fun hn => hall fun q hq hlk => Classical.byContradiction fun hne => hn ⟨q, hq, hlk, hne⟩
        obtain ⟨q, hq, hlk, hne⟩ := hex
        rcases hlook q (by rw [hrw, hlk]; exact hq) (hl q hq) with h1 | ⟨k, ⟨o', q', h', k1, k2, k3, k4⟩, h2⟩
        · exact absurd h1 hne
        · rw [ho] at k1; injection k1 with k1; subst k1
          rw [k3] at hq
          have hqq : q = q' := by simpa using hq
          subst hqq
          have hqlt : q < (T i).h.length := hl q (by rw [k3]; simp)
          have hsame : Same ⟨(T i).s, (T i).h.set q ((T (k + 1)).h.getD q .dead)⟩ (stB ops vs T rws st0 L) o := ⟨fun x hx => hev' x hx, fun _ q2 hq2 => by
            have hq2' : q2 ∈ refsOf o (T i) := hq2
            rw [k3] at hq2'
            have : q2 = q := by simpa using hq2'
            subst this
            rw [h2]
            show _ = ((T i).h.set q2 _).getD q2 .dead
            rw [getD_set_same _ _ _ hqlt]⟩
          rw [hv]
          exact (loc_stepM (P := P) (X := X) k2 hsame _ _ k4).2
    refine sem_of_stepM g this w0 N0 B0 th a w rel K' Q fun u w' th' rel' hu => ?_
    refine hK u w' th' ((rel'.put o.dst hu).ext ?_ (fun d => ?_) ?_)
    · cases o.dst <;> simp [Abs.put, stB_len]
    · rw [hv]; exact (stB_put ok ho hL hL' _ d).symm
    · refine heap_ext ?_ fun q hq => ?_
      · rw [stB_hlen]
        have : (Abs.put (⟨(stB ops vs T rws st0 L).s, (stB ops vs T rws st0 L).h⟩ : S U) o.dst v (stB ops vs T rws st0 L).h).h = (stB ops vs T rws st0 L).h := by cases o.dst <;> rfl
        rw [this, stB_hlen]
      · rw [stB_hlen] at hq
        have : (Abs.put (⟨(stB ops vs T rws st0 L).s, (stB ops vs T rws st0 L).h⟩ : S U) o.dst v (stB ops vs T rws st0 L).h).h = (stB ops vs T rws st0 L).h := by cases o.dst <;> rfl
        rw [this, stB_hget hq, stB_hget hq, con_more hm hi hL hc hL', if_neg (by rw [hrw]; simp)]
  | eff fp v0 st' hf hs hl =>
    have hp : (T (i + 1)).h.length = (T i).h.length + (st'.h.length - fp.length) := by
      rw [hTh, merge_len]; omega
    have hfr : ∀ q ∈ fp, q ∈ (rws i).1 := fun q hq => by rw [hrw]; exact hq
    have hwr : ∀ q, q ∈ (rws i).2 ↔ q ∈ fp ∨ ((T i).h.length ≤ q ∧ q < (T i).h.length + (st'.h.length - fp.length)) := fun q => by
      rw [hrw]; simp only [List.mem_append, List.mem_range'_1]
    have hmini : mini o fp (T i) = mini o fp (stB ops vs T rws st0 L) := by
      refine mini_same (by rw [t2, stB_len]) (fun d hd => ?_) fun q hq => (hcon q ((hwr q).2 (.inl hq)) (hf.2 q hq)).symm
      refine (hslot d (List.mem_append.2 (.inl ?_))).symm
      exact hd
    rw [hmini] at hs
    have hf' : fp.Nodup ∧ ∀ j ∈ fp, j < (stB ops vs T rws st0 L).h.length := ⟨hf.1, fun j hj => by rw [stB_hlen]; have := hf.2 j hj; omega⟩
    refine hs w _ _ _ a w (mini_rel g rel hf') K' Q fun u w' th' rel' hu => ?_
    have hop : ∀ j ∈ fp, ¬ ((T i).h.length ≤ j ∧ j < (T i).h.length + (st'.h.length - fp.length)) := fun j hj hh => by have := hf.2 j hj; omega
    have hole : ∀ q, (T i).h.length ≤ q ∧ q < (T i).h.length + (st'.h.length - fp.length) → th q = .none := fun q hq => by
      have h1 := rel.mem.objs q (by rw [stB_hlen]; omega)
      rw [stB_hget (by omega), con_hole run hm hi hL hc ((hwr q).2 (.inr hq)) hq.1] at h1
      exact h1
    obtain ⟨mb, car, conv⟩ := mem_back g rel.mem hf' rel'.mem hl hop hole _ (fun b hb => nn_back hf.1 hb) (fun j hj => rel'.mem.objs j hj) (by rw [stB_hlen]; exact hTi)
    have rel1 : RelT X w0 N0 B0 (thBack th th' fp (T i).h.length (st'.h.length - fp.length)) ⟨(stB ops vs T rws st0 L).s, mergeH fp (T i).h.length (stB ops vs T rws st0 L).h st'.h⟩ a w' :=
      ⟨rel.len, fun j => car _ _ (rel.slots j), mb, rel.defers⟩
    refine hK u w' _ ((rel1.put o.dst (conv _ _ hu)).ext ?_ (fun d => ?_) ?_)
    · cases o.dst <;> simp [Abs.put, stB_len]
    · have e : ∀ h, (Abs.put (⟨(stB ops vs T rws st0 L).s, h⟩ : S U) o.dst (sub 8 (backG fp (T i).h.length st'.h.length) v0) h).s = (Abs.put (stB ops vs T rws st0 L) o.dst (vs i) h).s := fun h => by
        rw [← hv]; cases o.dst <;> rfl
      rw [e]; exact (stB_put ok ho hL hL' _ d).symm
    · have e : ∀ h, (Abs.put (⟨(stB ops vs T rws st0 L).s, h⟩ : S U) o.dst (sub 8 (backG fp (T i).h.length st'.h.length) v0) h).h = h := fun h => by cases o.dst <;> rfl
      rw [e]
      have hlen : (mergeH fp (T i).h.length (stB ops vs T rws st0 L).h st'.h).length = (T ops.size).h.length := by
        rw [merge_len, stB_hlen]; omega
      refine heap_ext (by rw [hlen, stB_hlen]) fun q hq => ?_
      rw [stB_hlen] at hq
      rw [stB_hget hq, con_more hm hi hL hc hL', merge_get _ _ _ _ (by rw [merge_len] at hlen; omega)]
      split
      · rename_i hqw
        rw [hTh]
        have hlt : q < (T (i + 1)).h.length := (run.stepH hi).wlt q hqw
        rw [merge_get _ _ _ _ (by rw [hTh, merge_len] at hlt; exact hlt)]
        unfold mergeAt
        rcases at_any fp (T i).h.length (st'.h.length - fp.length) q with ⟨j, hj, _⟩ | ⟨h1, h2⟩ | ⟨h1, h2⟩
        · rw [posIn_at hf.1 hj]
        · exact absurd ((hwr q).1 hqw) (fun hh => hh.elim h1 h2)
        · rw [posIn_out h1]; simp only [if_pos h2]
      · rename_i hqw
        have h1 : q ∉ fp := fun h => hqw ((hwr q).2 (.inl h))
        have h2 : ¬ ((T i).h.length ≤ q ∧ q < (T i).h.length + (st'.h.length - fp.length)) := fun h => hqw ((hwr q).2 (.inr h))
        unfold mergeAt
        rw [posIn_out h1]
        simp only [if_neg h2]
        exact (stB_hget hq).symm
theorem any_ok (g : Good X) (run : Run P X ops st0 vs T rws) (ok : DrawOK ops) (hm : Meet P X ops T vs rws) {K : S U → Option R} {Q : Post} (hK : ∀ th st a w, K st = some r → RelT X w0 N0 B0 th st a w → Q .normal a w) (hfin : K (T ops.size) = some r) :
    ∀ (fuel : Nat) (listed : Array Bool) (l : List Nat) (th : Nat → Th) (a : Act) (w : World), l.length ≤ fuel → (∀ i, i < ops.size → listed.getD i false = false → i ∈ l) → listed.size = ops.size → Closed1 ops (fun i => listed.getD i false) →
      RelT X w0 N0 B0 th (stB ops vs T rws st0 (fun i => listed.getD i false)) a w → wpAny P .any ops Q fuel listed a w := by
  have last : ∀ (listed : Array Bool) (th : Nat → Th) (a : Act) (w : World), (∀ i, i < ops.size → listed.getD i false = true) → RelT X w0 N0 B0 th (stB ops vs T rws st0 (fun i => listed.getD i false)) a w → Q .normal a w := by
    intro listed th a w hall rel
    obtain ⟨t2, t3, t4⟩ := run.text ok ops.size (Nat.le_refl _)
    refine hK th _ a w hfin (rel.ext (by rw [t2, stB_len]) (fun d => ?_) ?_)
    · rw [t3 d, stB_getD, stB_getD]
      split
      · by_cases hx : ∃ j, dstOf ops j = some d
        · obtain ⟨j, hj⟩ := hx
          rw [sl_hit ok hj (by simpa using dst_lt hj), sl_hit ok hj (hall j (dst_lt hj))]
        · rw [sl_miss fun j hj => absurd ⟨j, hj⟩ hx, sl_miss fun j hj => absurd ⟨j, hj⟩ hx]
      · rfl
    · refine heap_ext (by rw [stB_hlen]) fun q hq => ?_
      rw [t4 q hq, stB_hget hq]
      unfold conH
      rw [last_congr (L := fun j => decide (j < ops.size)) (L' := fun i => listed.getD i false) _ fun k hk _ => by rw [hall k hk]; simpa using hk]
  intro fuel
  induction fuel with
  | zero =>
    intro listed l th a w hl hun hs hc rel
    have hall : ∀ i, i < ops.size → listed.getD i false = true := fun i hi => by
      cases hx : listed.getD i false with
      | true => rfl
      | false =>
        have := hun i hi hx
        have : l = [] := List.eq_nil_of_length_eq_zero (by omega)
        subst this
        contradiction
    refine ⟨?_, last listed th a w hall rel⟩
    refine List.eq_nil_iff_forall_not_mem.2 fun j hj => ?_
    obtain ⟨h1, o, ho, _⟩ := mem_ready.1 hj
    have hlt : j < ops.size := (Array.getElem?_eq_some_iff.1 ho).1
    have := hall j hlt
    rw [getD_true (by omega)] at h1 this
    rw [h1] at this; cases this
  | succ fuel ih =>
    intro listed l th a w hl hun hs hc rel
    refine ⟨fun hready => last listed th a w (fun i => ?_) rel, fun i hi => ?_⟩
    · -- nothing is ready: all are done
      induction i using Nat.strongRecOn with
      | _ i ihi =>
        intro hi
        cases hx : listed.getD i false with
        | true => rfl
        | false =>
          have : i ∈ Region.ready .any ops listed := mem_ready.2 ⟨by rw [getD_true (by omega)] at hx ⊢; exact hx, ops[i], Array.getElem?_eq_getElem hi, fun e he hb => by
            have hlt := ok.ahead i _ (Array.getElem?_eq_getElem hi) e he hb
            exact ihi e.on hlt (by omega)⟩
          rw [hready] at this; cases this
    · obtain ⟨h1, o, ho, hdeps⟩ := mem_ready.1 hi
      have hlt : i < ops.size := (Array.getElem?_eq_some_iff.1 ho).1
      have hLi : listed.getD i false = false := by rw [getD_true (by omega)] at h1 ⊢; exact h1
      obtain ⟨h', hgot, hT⟩ := run.step i o ho
      obtain ⟨t2, t3, t4⟩ := run.text ok i (by omega)
      have hset : ∀ j, (listed.setIfInBounds i true).getD j false = (listed.getD j false || j == i) := fun j => by
        by_cases e : i = j
        · subst e
          rw [getD_true (by simp; omega)]; simp
        · rw [getD_set_ne false e]
          have : (j == i) = false := by simpa using fun h => e h.symm
          rw [this, Bool.or_false]
      have hc' : Closed1 ops (fun j => (listed.setIfInBounds i true).getD j false) := fun k ok' hk hLk e he hb => by
        dsimp only at hLk ⊢
        rw [hset] at hLk ⊢
        rw [Bool.or_eq_true] at hLk ⊢
        rcases hLk with hLk | hLk
        · exact .inl (hc k ok' hk hLk e he hb)
        · have : k = i := by simpa using hLk
          subst this
          rw [ho] at hk; injection hk with hk; subst hk
          exact .inl (hdeps e he hb)
      have next : ∀ (u : Value) (w' : World) (th' : Nat → Th), RelT X w0 N0 B0 th' (stB ops vs T rws st0 fun j => (listed.setIfInBounds i true).getD j false) (a.put o.dst u) w' → wpAny P .any ops Q fuel (listed.setIfInBounds i true) (a.put o.dst u) w' := by
        intro u w' th' rel'
        refine ih _ (l.erase i) th' _ w' ?_ (fun j hj hx => ?_) (by simpa using hs) hc' rel'
        · rw [List.length_erase_of_mem (hun i hlt hLi)]; omega
        · rw [hset] at hx
          simp only [Bool.or_eq_false_iff, beq_eq_false_iff_ne] at hx
          exact (List.mem_erase_of_ne hx.2).2 (hun j hj hx.1)
      have hslot : ∀ d ∈ readsOf ops o, (stB ops vs T rws st0 fun i => listed.getD i false).s.getD d .undef = (T i).s.getD d .undef := fun d hd => by
        rw [t3 d]; exact read_same ok ho hLi hc hdeps hd
      unfold wpOp
      simp only [ho]
      unfold Got at hgot
      split at hgot
      · rename_i hg
        rw [if_pos (by simp [Region.wanted, hg])]
        exact .inl (one_ok g run ok hm ho hLi hc hdeps hset rel next rfl hT hgot)
      · rename_i j want hg
        obtain ⟨d, t, hd, ht, hv⟩ := hgot
        have ht' : (stB ops vs T rws st0 fun i => listed.getD i false).s.getD d .undef = .bool t := by
          rw [hslot d (List.mem_append.2 (.inr (by rw [hg]; simp [hd])))]; exact ht
        have hb := bool_of rel ht'
        have hy : yielded ops a.tmps j = some t := by
          unfold yielded
          unfold dstOf at hd
          rw [hd]
          simp [hb]
        have hw : Region.wanted o (yielded ops a.tmps) = (t == want) := by
          simp only [Region.wanted, hg, hy]
          cases t <;> cases want <;> rfl
        rw [hw]
        by_cases htw : t = want
        · rw [if_pos htw] at hv
          rw [if_pos (by simpa using htw)]
          exact .inl (one_ok g run ok hm ho hLi hc hdeps hset rel next rfl hT hv)
        · rw [if_neg htw] at hv
          rw [if_neg (by simpa using htw)]
          obtain ⟨hv1, hv2, hv3⟩ := hv
          refine next undef w th ((rel.put o.dst (v := vs i) (by rw [hv1]; exact .undef _)).ext ?_ (fun d => ?_) ?_)
          · cases o.dst <;> simp [Abs.put, stB_len]
          · exact (stB_put ok ho hLi hset _ d).symm
          · have e : ∀ h, (Abs.put (stB ops vs T rws st0 fun i => listed.getD i false) o.dst (vs i) h).h = h := fun h => by cases o.dst <;> rfl
            rw [e]
            refine heap_ext (by rw [stB_hlen, stB_hlen]) fun q hq => ?_
            rw [stB_hlen] at hq
            rw [stB_hget hq, stB_hget hq, con_more hm hlt hLi hc hset, if_neg (by rw [hv3]; simp)]
theorem draw_ok (g : Good X) (hm : P.follows .mixedOrders = true) {prim : Prim U R} (pok : PrimOK P X prim) (hok : drawOK ops = true) {K : S U → Option R} {Q : Post} {id : Nat} (hK : ∀ th st a w, K st = some r → RelT X w0 N0 B0 th st a w → Q .normal a w)
    (h : drawC P X prim ops st K = some r) (rel : RelT X w0 N0 B0 th st a w) : (Code.region id ops true).wp P Q a w := by
  refine wp_region_any hm ?_
  unfold drawC at h
  obtain ⟨vs, T, rws, t1, t2, t3⟩ := trace g pok (K := fun st acc => cond (meetOK P X ops acc) (K st) none) ops.toList 0 st [] (by simp) rfl h
  obtain ⟨hmeet, t2⟩ := cond_none t2
  have run : Run P X ops st vs T rws := ⟨t1, fun k o ho => t3 k o (Nat.zero_le _) ho⟩
  have hM : Meet P X ops T vs rws := meet_spec run hmeet fun k hk => by simp [hk]
  have rel' : RelT X w0 N0 B0 th st a w.drew := ⟨rel.len, fun i => carries_drew _ _ (rel.slots i), rel.mem.drew, rel.defers⟩
  have hle : st.h.length ≤ (T ops.size).h.length := by have := run.mono (j := 0) (Nat.zero_le _) (Nat.le_refl ops.size); rwa [t1] at this
  refine any_ok (st0 := st) g run (drawOK_spec hok) hM hK (by simpa using t2) ops.size _ (List.range ops.size) th a _ (by simp) (fun i hi _ => List.mem_range.2 hi) (by simp) (fun k o ho hL => ?_) ?_
  · have hk : k < ops.size := (Array.getElem?_eq_some_iff.1 ho).1
    dsimp only at hL
    rw [getD_true (by simpa using hk)] at hL; simp at hL
  · have hno : ∀ q, conH ops.size T rws st (fun i => (Array.replicate ops.size false).getD i false) q = if q < st.h.length then st.h.getD q .dead else .hole := fun q => by
      unfold conH
      rw [last_none _ fun k hk _ => by rw [getD_true (by simpa using hk)]; simp]
    refine ⟨?_, fun d => ?_, ?_, rel'.defers⟩
    · rw [stB_len]; exact rel'.len
    · rw [stB_getD]
      split
      · rw [sl_miss fun i hi => by rw [getD_true (by simpa using dst_lt hi)]; simp]
        exact rel'.slots d
      · exact .undef _
    · have m := rel'.mem
      exact {
        objs := fun q hq => by
          rw [stB_hlen] at hq
          rw [stB_hget hq, hno]
          split
          · rename_i hlt; exact m.objs q hlt
          · rename_i hlt; exact m.out q (by omega)
        glob := m.glob
        gv := m.gv
        out := fun q hq => m.out q (by rw [stB_hlen] at hq; omega)
        own := m.own, inj := m.inj, n0 := m.n0, size := m.size, os := m.os, tape := m.tape, output := m.output, pin := m.pin, keep := m.keep }
end
end Go.Abs
namespace Go.Abs
open Go Go.RowKit
variable {U : Nat → Type} {R : Type}
structure PrmOK (P : Program) (X : Univ U) (p : Prim U R) : Prop where
  all : PrimOK P X p
  mixed : P.follows .mixedOrders = true
def regC (P : Program) (X : Univ U) (prim : Prim U R) (ops : Array Oper) (draw : Bool) (st : S U) (K : S U → Option R) : Option R :=
  match draw with
  | false => opsC P X prim ops.toList [] ops.toList st K
  | true => if drawOK ops then drawC P X prim ops st K else none
inductive Ex where
  | normal | exit (id : Nat) | ret
def Ex.toExit : Ex → Exit
  | .normal => .normal
  | .exit id => .exit id
  | .ret => .ret
def first : Code → Option Nat
  | .region id _ _ => some id
  | .seq x _ => first x
  | .block _ c => first c
  | .loop c => first c
  | _ => none
def has (r : Nat) : Code → Bool
  | .region id _ _ => id == r
  | .seq x y => has r x || has r y
  | .cond _ x y => has r x || has r y
  | .block _ c => has r c
  | .loop c => has r c
  | _ => false
def ids : Code → List Nat
  | .region id _ _ => [id]
  | .seq x y => ids x ++ ids y
  | .cond _ x y => ids x ++ ids y
  | .block _ c => ids c
  | .loop c => ids c
  | _ => []
def Ex.thenK (n : S U → Option R) (K : Ex → S U → Option R) : Ex → S U → Option R
  | .normal => n
  | e => K e
def Ex.blockK (id : Nat) (K : Ex → S U → Option R) : Ex → S U → Option R
  | .exit i => if i = id then K .normal else K (.exit i)
  | e => K e
def seg (P : Program) (X : Univ U) (prim : Prim U R) (cuts : List Nat) (cut : Nat → S U → Option R) : Code → (Ex → S U → Option R) → S U → Option R
  | .skip, K, st => K .normal st
  | .region id ops d, K, st => if cuts.contains id then cut id st else regC P X prim ops d st (K .normal)
  | .seq x y, K, st => seg P X prim cuts cut x (Ex.thenK (seg P X prim cuts cut y K) K) st
  | .cond c x y, K, st =>
    match ev st c with
    | .bool b => cond b (seg P X prim cuts cut x K st) (seg P X prim cuts cut y K st)
    | _ => none
  | .block id c, K, st => seg P X prim cuts cut c (Ex.blockK id K) st
  | .loop c, _, st => match first c with | some r => cut r st | none => none
  | .exit id, K, st => K (.exit id) st
  | .ret, K, st => K .ret st
  | _, _, _ => none
def res (P : Program) (X : Univ U) (prim : Prim U R) (cuts : List Nat) (cut : Nat → S U → Option R) (r : Nat) : Code → (Ex → S U → Option R) → S U → Option R
  | .region _ ops d, K, st => regC P X prim ops d st (K .normal)
  | .seq x y, K, st => if has r x then res P X prim cuts cut r x (Ex.thenK (seg P X prim cuts cut y K) K) st else res P X prim cuts cut r y K st
  | .cond _ x y, K, st => if has r x then res P X prim cuts cut r x K st else res P X prim cuts cut r y K st
  | .block id c, K, st => res P X prim cuts cut r c (Ex.blockK id K) st
  | .loop c, K, st => res P X prim cuts cut r c (Ex.thenK (fun st => match first c with | some q => cut q st | none => none) K) st
  | _, _, _ => none
def cutF (P : Program) (X : Univ U) (prim : Prim U R) (cuts : List Nat) (keep : Nat → S U → S U) (body : Code) (fin : Ex → S U → Option R) : Nat → Nat → S U → Option R
  | 0, _, _ => none
  | k + 1, q, st => if has q body then res P X prim cuts (cutF P X prim cuts keep body fin k) q body fin (keep q st) else none
def IL (P : Program) (c : Code) (Q : Post) (a : Act) (w : World) : Prop :=
  ∀ (b : Frame) (k : List Item) (cs : List Frame), ∃ e a' w', Q e a' w' ∧ Arrives P (lone (b.at a (.code c :: .inLoop c :: k)) cs w) b k cs e a' w'
theorem IL.loop {P : Program} {c : Code} {Q : Post} {a : Act} {w : World} (h : IL P c Q a w) : (Code.loop c).wp P Q a w := fun b k cs =>
  let ⟨e, a', w', hq, harr⟩ := h b k cs
  ⟨e, a', w', hq, .of_steps (.one step_loop) harr⟩
theorem IL.round {P : Program} {c : Code} {Q : Post} {a : Act} {w : World} (h : c.wp P (Exit.then (IL P c Q) Q) a w) : IL P c Q a w := by
  intro b k cs
  obtain ⟨e, a₁, w₁, hq, harr⟩ := h b (.inLoop c :: k) cs
  cases e with
  | normal =>
    obtain ⟨e₂, a₂, w₂, hq₂, harr₂⟩ := hq b k cs
    exact ⟨e₂, a₂, w₂, hq₂, .of_steps (Steps.trans harr (.one step_inLoop)) harr₂⟩
  | exit id => exact ⟨_, a₁, w₁, hq, .pass (x := .inLoop c) rfl (fun _ _ => .inl (by simp)) harr⟩
  | goto l => exact ⟨_, a₁, w₁, hq, .pass (x := .inLoop c) rfl (fun _ _ => .inl (by simp)) harr⟩
  | ret => exact ⟨_, a₁, w₁, hq, .pass (x := .inLoop c) rfl (fun _ _ => .inl (by simp)) harr⟩
  | panic ch => exact ⟨_, a₁, w₁, hq, .pass (x := .inLoop c) rfl (fun _ _ => .inl (by simp)) harr⟩
  | outgrown => exact ⟨_, a₁, w₁, hq, .pass (x := .inLoop c) rfl (fun _ _ => .inl (by simp)) harr⟩
def wpAt (P : Program) (q : Nat) : Code → Post → Act → World → Prop
  | .region id ops d, Q, a, w => (Code.region id ops d).wp P Q a w
  | .seq x y, Q, a, w => if has q x then wpAt P q x (Exit.then (y.wp P Q) Q) a w else wpAt P q y Q a w
  | .cond _ x y, Q, a, w => if has q x then wpAt P q x Q a w else wpAt P q y Q a w
  | .block id c, Q, a, w => wpAt P q c (Exit.inBlock id Q) a w
  | .loop c, Q, a, w => wpAt P q c (Exit.then (IL P c Q) Q) a w
  | _, _, _, _ => False
theorem has_ids {q : Nat} : ∀ {c : Code}, has q c = true ↔ q ∈ ids c := by
  intro c
  induction c <;> simp_all [has, ids]
  exact eq_comm
theorem first_has {q : Nat} : ∀ {c : Code}, first c = some q → has q c = true := by
  intro c h
  induction c <;> simp_all [has, first]
theorem wpAt_first {P : Program} {q : Nat} : ∀ {c : Code} {Q : Post} {a : Act} {w : World}, first c = some q → wpAt P q c Q a w → c.wp P Q a w := by
  intro c
  induction c with
  | region id ops d => intro Q a w _ h; exact h
  | seq x y ihx ihy =>
    intro Q a w hf h
    have hx : has q x = true := first_has hf
    unfold wpAt at h
    rw [if_pos hx] at h
    exact wp_seq (ihx hf h)
  | block id c ih => intro Q a w hf h; exact wp_block (ih hf h)
  | loop c ih => intro Q a w hf h; exact (IL.round (ih hf h)).loop
  | _ => intro Q a w hf h; first | (exact absurd hf (by simp [first])) | exact h.elim
def Ctx (P : Program) (body : Code) (Qf : Post) (c : Code) (Q : Post) : Prop := ∀ q a w, has q c = true → wpAt P q body Qf a w → wpAt P q c Q a w
section
variable {P : Program} {X : Univ U} {prim : Prim U R} {w0 : World} {N0 : Nat → Prop} {B0 : Nat → Th} {r : R} {cuts : List Nat} {cut : Nat → S U → Option R} {body : Code} {Qf : Post}
def KOK (X : Univ U) (w0 : World) (N0 : Nat → Prop) (B0 : Nat → Th) (r : R) (K : Ex → S U → Option R) (Q : Post) : Prop := ∀ e th st a w, K e st = some r → RelT X w0 N0 B0 th st a w → Q e.toExit a w
def CutOK (P : Program) (X : Univ U) (w0 : World) (N0 : Nat → Prop) (B0 : Nat → Th) (r : R) (cut : Nat → S U → Option R) (body : Code) (Qf : Post) : Prop := ∀ q th st a w, cut q st = some r → RelT X w0 N0 B0 th st a w → has q body = true ∧ wpAt P q body Qf a w
theorem regC_ok (law : Good X) (pok : PrmOK P X prim) {id : Nat} {ops : Array Oper} {d : Bool} {Q : Post} {K : S U → Option R} (hK : ∀ th st a w, K st = some r → RelT X w0 N0 B0 th st a w → Q .normal a w)
    {th : Nat → Th} {st : S U} {a : Act} {w : World} (h : regC P X prim ops d st K = some r) (rel : RelT X w0 N0 B0 th st a w) : (Code.region id ops d).wp P Q a w := by
  unfold regC at h
  split at h
  · exact wp_region_list (opsC_ok law pok.all hK _ [] th st a w (fun d hd => absurd hd List.not_mem_nil) h rel)
  · split at h
    · rename_i hd; exact draw_ok law pok.mixed pok.all hd hK h rel
    · cases h
theorem KOK.block {K : Ex → S U → Option R} {Q : Post} {id : Nat} (h : KOK X w0 N0 B0 r K Q) : KOK X w0 N0 B0 r (Ex.blockK id K) (Exit.inBlock id Q) := by
  intro e th st a w hk rel
  cases e with
  | normal => exact h .normal th st a w hk rel
  | ret => exact h .ret th st a w hk rel
  | exit i =>
    simp only [Ex.blockK] at hk
    simp only [Ex.toExit, Exit.inBlock]
    by_cases hi : i = id
    · rw [if_pos hi] at hk ⊢; exact h .normal th st a w hk rel
    · rw [if_neg hi] at hk ⊢; exact h (.exit i) th st a w hk rel
theorem KOK.then {K : Ex → S U → Option R} {n : S U → Option R} {next : Act → World → Prop} {Q : Post} (h : KOK X w0 N0 B0 r K Q) (hn : ∀ th st a w, n st = some r → RelT X w0 N0 B0 th st a w → next a w) : KOK X w0 N0 B0 r (Ex.thenK n K) (Exit.then next Q) := by
  intro e th st a w hk rel
  cases e with
  | normal => exact hn th st a w hk rel
  | ret => exact h .ret th st a w hk rel
  | exit i => exact h (.exit i) th st a w hk rel
theorem Ctx.left {x y : Code} {Q : Post} (h : Ctx P body Qf (.seq x y) Q) : Ctx P body Qf x (Exit.then (y.wp P Q) Q) := fun q a w hq hb => by
  have := h q a w (by simp [has, hq]) hb
  unfold wpAt at this
  rw [if_pos hq] at this; exact this
theorem Ctx.right {x y : Code} {Q : Post} (hn : (ids (.seq x y)).Nodup) (h : Ctx P body Qf (.seq x y) Q) : Ctx P body Qf y Q := fun q a w hq hb => by
  have := h q a w (by simp [has, hq]) hb
  unfold wpAt at this
  have hx : ¬ has q x = true := fun hx => by
    simp only [ids] at hn
    exact (List.nodup_append.1 hn).2.2 q (has_ids.1 hx) q (has_ids.1 hq) rfl
  rw [if_neg hx] at this; exact this
theorem Ctx.yes {c : Operand} {x y : Code} {Q : Post} (h : Ctx P body Qf (.cond c x y) Q) : Ctx P body Qf x Q := fun q a w hq hb => by
  have := h q a w (by simp [has, hq]) hb
  unfold wpAt at this
  rw [if_pos hq] at this; exact this
theorem Ctx.no {c : Operand} {x y : Code} {Q : Post} (hn : (ids (.cond c x y)).Nodup) (h : Ctx P body Qf (.cond c x y) Q) : Ctx P body Qf y Q := fun q a w hq hb => by
  have := h q a w (by simp [has, hq]) hb
  unfold wpAt at this
  have hx : ¬ has q x = true := fun hx => by
    simp only [ids] at hn
    exact (List.nodup_append.1 hn).2.2 q (has_ids.1 hx) q (has_ids.1 hq) rfl
  rw [if_neg hx] at this; exact this
theorem Ctx.inBlock {id : Nat} {c : Code} {Q : Post} (h : Ctx P body Qf (.block id c) Q) : Ctx P body Qf c (Exit.inBlock id Q) := fun q a w hq hb => h q a w hq hb
theorem Ctx.inLoop {c : Code} {Q : Post} (h : Ctx P body Qf (.loop c) Q) : Ctx P body Qf c (Exit.then (IL P c Q) Q) := fun q a w hq hb => h q a w hq hb
theorem loop_ok (hc : CutOK P X w0 N0 B0 r cut body Qf) {c : Code} {Q : Post} (hctx : Ctx P body Qf (.loop c) Q) {th : Nat → Th} {st : S U} {a : Act} {w : World} (h : (match first c with | some q => cut q st | none => none) = some r) (rel : RelT X w0 N0 B0 th st a w) : IL P c Q a w := by
  split at h
  · rename_i q hq
    obtain ⟨_, h2⟩ := hc q th st a w h rel
    exact IL.round (wpAt_first hq (hctx q a w (first_has (c := .loop c) hq) h2))
  · cases h
theorem seg_ok (law : Good X) (pok : PrmOK P X prim) (hc : CutOK P X w0 N0 B0 r cut body Qf) : ∀ (c : Code) (K : Ex → S U → Option R) (Q : Post) (th : Nat → Th) (st : S U) (a : Act) (w : World), (ids c).Nodup → Ctx P body Qf c Q → KOK X w0 N0 B0 r K Q →
    seg P X prim cuts cut c K st = some r → RelT X w0 N0 B0 th st a w → c.wp P Q a w := by
  intro c
  induction c with
  | skip => intro K Q th st a w _ _ hK h rel; exact wp_skip (hK .normal th st a w h rel)
  | region id ops d =>
    intro K Q th st a w _ hctx hK h rel
    unfold seg at h
    split at h
    · exact hctx id a w (by simp [has]) (hc id th st a w h rel).2
    · exact regC_ok law pok (fun th st a w hk rel => hK .normal th st a w hk rel) h rel
  | seq x y ihx ihy =>
    intro K Q th st a w hn hctx hK h rel
    have hn' := hn
    simp only [ids] at hn'
    have nx := (List.nodup_append.1 hn').1
    have ny := (List.nodup_append.1 hn').2.1
    exact wp_seq (ihx _ _ th st a w nx hctx.left (hK.then fun th st a w hk rel => ihy _ _ th st a w ny (hctx.right hn) hK hk rel) h rel)
  | cond c x y ihx ihy =>
    intro K Q th st a w hn hctx hK h rel
    have hn' := hn
    simp only [ids] at hn'
    have nx := (List.nodup_append.1 hn').1
    have ny := (List.nodup_append.1 hn').2.1
    unfold seg at h
    split at h
    · rename_i b eb
      have hv := rel.ev c
      rw [eb] at hv
      generalize hu : a.eval c = u at hv
      cases hv
      cases b with
      | true => exact wp_cond_true hu (ihx _ _ th st a w nx hctx.yes hK h rel)
      | false => exact wp_cond_false hu (ihy _ _ th st a w ny (hctx.no hn) hK h rel)
    · cases h
  | block id c ih => intro K Q th st a w hn hctx hK h rel; exact wp_block (ih _ _ th st a w hn hctx.inBlock hK.block h rel)
  | loop c ih => intro K Q th st a w hn hctx hK h rel; exact (loop_ok hc hctx h rel).loop
  | exit id => intro K Q th st a w _ _ hK h rel; exact wp_exit (hK (.exit id) th st a w h rel)
  | ret => intro K Q th st a w _ _ hK h rel; exact wp_ret (hK .ret th st a w h rel)
  | _ => intro K Q th st a w _ _ _ h _; simp [seg] at h
theorem res_ok (law : Good X) (pok : PrmOK P X prim) (hc : CutOK P X w0 N0 B0 r cut body Qf) {q : Nat} : ∀ (c : Code) (K : Ex → S U → Option R) (Q : Post) (th : Nat → Th) (st : S U) (a : Act) (w : World), (ids c).Nodup → Ctx P body Qf c Q → KOK X w0 N0 B0 r K Q →
    res P X prim cuts cut q c K st = some r → RelT X w0 N0 B0 th st a w → wpAt P q c Q a w := by
  intro c
  induction c with
  | region id ops d =>
    intro K Q th st a w _ hctx hK h rel
    exact regC_ok law pok (fun th st a w hk rel => hK .normal th st a w hk rel) h rel
  | seq x y ihx ihy =>
    intro K Q th st a w hn hctx hK h rel
    have hn' := hn
    simp only [ids] at hn'
    have nx := (List.nodup_append.1 hn').1
    have ny := (List.nodup_append.1 hn').2.1
    unfold res at h
    unfold wpAt
    split at h
    · rename_i hx
      rw [if_pos hx]
      exact ihx _ _ th st a w nx hctx.left (hK.then fun th st a w hk rel => seg_ok law pok hc y _ _ th st a w ny (hctx.right hn) hK hk rel) h rel
    · rename_i hx
      rw [if_neg hx]
      exact ihy _ _ th st a w ny (hctx.right hn) hK h rel
  | cond c x y ihx ihy =>
    intro K Q th st a w hn hctx hK h rel
    have hn' := hn
    simp only [ids] at hn'
    have nx := (List.nodup_append.1 hn').1
    have ny := (List.nodup_append.1 hn').2.1
    unfold res at h
    unfold wpAt
    split at h
    · rename_i hx
      rw [if_pos hx]
      exact ihx _ _ th st a w nx hctx.yes hK h rel
    · rename_i hx
      rw [if_neg hx]
      exact ihy _ _ th st a w ny (hctx.no hn) hK h rel
  | block id c ih => intro K Q th st a w hn hctx hK h rel; exact ih _ _ th st a w hn hctx.inBlock hK.block h rel
  | loop c ih =>
    intro K Q th st a w hn hctx hK h rel
    exact ih _ _ th st a w hn hctx.inLoop (hK.then fun th st a w hk rel => loop_ok hc hctx hk rel) h rel
  | _ => intro K Q th st a w _ _ _ h _; simp [res] at h
def KeepOK (X : Univ U) (w0 : World) (N0 : Nat → Prop) (B0 : Nat → Th) (keep : Nat → S U → S U) : Prop := ∀ q th st a w, RelT X w0 N0 B0 th st a w → ∃ th', RelT X w0 N0 B0 th' (keep q st) a w
theorem cutF_ok (law : Good X) (pok : PrmOK P X prim) {keep : Nat → S U → S U} (kok : KeepOK X w0 N0 B0 keep) {fin : Ex → S U → Option R} (hn : (ids body).Nodup) (hK : KOK X w0 N0 B0 r fin Qf) :
    ∀ k, CutOK P X w0 N0 B0 r (cutF P X prim cuts keep body fin k) body Qf := by
  intro k
  induction k with
  | zero => intro q th st a w h _; cases h
  | succ k ih =>
    intro q th st a w h rel
    unfold cutF at h
    split at h
    · rename_i hq
      obtain ⟨th', rel'⟩ := kok q th st a w rel
      exact ⟨hq, res_ok law pok ih body fin Qf th' _ a w hn (fun _ _ _ _ h => h) hK h rel'⟩
    · cases h
theorem body_ok (law : Good X) (pok : PrmOK P X prim) {keep : Nat → S U → S U} (kok : KeepOK X w0 N0 B0 keep) {fin : Ex → S U → Option R} (hn : (ids body).Nodup) (hK : KOK X w0 N0 B0 r fin Qf)
    {k : Nat} {th : Nat → Th} {st : S U} {a : Act} {w : World} (h : seg P X prim cuts (cutF P X prim cuts keep body fin k) body fin st = some r) (rel : RelT X w0 N0 B0 th st a w) : body.wp P Qf a w :=
  seg_ok law pok (cutF_ok law pok kok hn hK k) body fin Qf th st a w hn (fun _ _ _ _ h => h) hK h rel
end
end Go.Abs
namespace Go.Abs
open Go Go.RowKit
variable {U : Nat → Type} {R : Type}
def start (args : List (AV U)) (n : Nat) (h : List (AO U)) : S U := ⟨args ++ List.replicate (n - args.length) .undef, h⟩
def res1 (P : Program) (st : S U) : ResultVar → Option (AV U)
  | .tmp t => some (st.s.getD t .undef)
  | .cell a t =>
    match st.s.getD a .undef with
    | .ptr i c => (match st.h.getD i .dead with | .box cs => if loadOK P t cs.length c then some (loadC P t cs c) else none | _ => none)
    | _ => none
def resL (P : Program) (st : S U) : List ResultVar → Option (List (AV U))
  | [] => some []
  | r :: rs => match res1 P st r, resL P st rs with | some v, some l => some (v :: l) | _, _ => none
def resV (P : Program) (st : S U) (rs : List ResultVar) : Option (AV U) :=
  match resL P st rs with
  | some [v] => some v
  | some l => some (.tup l)
  | none => none
def viewV (i e off n : Nat) (h : List (AO U)) : AV U × List (AO U) :=
  match off, h.getD i .dead with
  | 0, .row e' _ => if e' = e then (.row h.length e, retakeH h i e n) else (.view i e 0 n, h)
  | off, _ => (.view i e off n, h)
def nilV : Nat → AV U → List (AO U) → AV U × List (AO U)
  | _, .nils e, h => (.row h.length e, h ++ [.row e []])
  | _, .view i e off n, h => viewV i e off n h
  | d + 1, .agg cs, h => let p := cs.foldl (fun (p : List (AV U) × List (AO U)) x => let q := nilV d x p.2; (p.1 ++ [q.1], q.2)) ([], h); (.agg p.1, p.2)
  | d + 1, .tup cs, h => let p := cs.foldl (fun (p : List (AV U) × List (AO U)) x => let q := nilV d x p.2; (p.1 ++ [q.1], q.2)) ([], h); (.tup p.1, p.2)
  | _, v, h => (v, h)
def ownV (v : AV U) (h : List (AO U)) : S U := let p := nilV 3 v h; ⟨[p.1], p.2⟩
def frzV (v : AV U) (h : List (AO U)) : S U := let p := (frzAll (refsA 8 v) (⟨[v], h⟩, [])).1; ⟨p.s.map (nrm 8), p.h⟩
def outS (k : Nat) (own : Bool) (v : AV U) (h : List (AO U)) : S U := canonK k (upBoxes (List.range k) (cond own (ownV v h) (frzV v h)))
def finH (P : Program) (rs : List ResultVar) (k : Nat) (own : Bool) (kk : AV U → List (AO U) → Option R) : Ex → S U → Option R
  | .exit _, _ => none
  | _, st => match resV P st rs with | some v => (let p := outS k own v st.h; kk (p.s.getD 0 .undef) p.h) | none => none
section
variable {P : Program} {X : Univ U} {w0 w : World} {N0 N : Nat → Prop} {B0 : Nat → Th} {th : Nat → Th} {st : S U} {a : Act} {h : List (AO U)} {r : R}
theorem start_ok {args : List (AV U)} {vs : Array Value} {n : Nat} (m : Mem X w0 N0 B0 th h w) (hs : vs.size = args.length) (ha : ArgsRel X w (NN N0 th) th args vs) :
    RelT X w0 N0 B0 th (start args n h) { tmps := vs ++ Array.replicate (n - vs.size) undef, defers := [] } w where
  len := by simp [start, hs]
  slots := fun i => by
    by_cases hi : i < args.length
    · have e1 : (start args n h).s.getD i .undef = args.getD i .undef := by
        show (args ++ List.replicate (n - args.length) AV.undef).getD i .undef = _
        rw [List.getD_eq_getElem?_getD, List.getElem?_append_left hi, ← List.getD_eq_getElem?_getD]
      have e2 : (vs ++ Array.replicate (n - vs.size) undef).getD i undef = vs.getD i undef := by
        rw [Array.getD_eq_getD_getElem?, Array.getElem?_append_left (by omega), ← Array.getD_eq_getD_getElem?]
      rw [e1, e2]; exact ha i hi
    · have e1 : (start args n h).s.getD i .undef = .undef := by
        show (args ++ List.replicate (n - args.length) AV.undef).getD i .undef = _
        rw [List.getD_eq_getElem?_getD, List.getElem?_append_right (by omega), List.getElem?_replicate]
        split <;> rfl
      rw [e1]; exact .undef _
  mem := m
  defers := rfl
def rvS (tmps : Array Value) : ResultVar → Sem Value
  | .tmp t => pure (tmps.getD t undef)
  | .cell a t => do loadVar t (← asAddr (tmps.getD a undef))
theorem results_eq (fn : Func) (tmps : Array Value) : results fn tmps = (do
    let vs ← fn.results.mapM (rvS tmps)
    pure (if h : vs.size = 1 then vs[0] else .tuple vs)) := by
  unfold results
  congr 1
theorem res1_ok (rel : RelT X w0 N0 B0 th st a w) {rv : ResultVar} {v : AV U} (h : res1 P st rv = some v) :
    ∃ u, (rvS a.tmps rv).run P w = .ok u w ∧ VRel X w (NN N0 th) th v u := by
  unfold res1 at h
  split at h
  · injection h with h; subst h
    exact ⟨_, rfl, rel.slots _⟩
  · rename_i ad t
    split at h
    · rename_i i c es
      split at h
      · rename_i cs ho
        split at h
        · rename_i hok
          injection h with h; subst h
          have hx := rel.slots ad
          rw [es] at hx
          obtain ⟨b, v, h1, h2, h3⟩ := rel.mem.load_box ho hok
          generalize hu : a.tmps.getD ad undef = u at hx
          cases hx with
          | ptr _ _ b' cap h' =>
            rw [h1] at h'; injection h' with e1 e2; subst e1
            refine ⟨v, ?_, h3⟩
            have h2' : (loadVar t ⟨b, c, none⟩).run P w = .ok v w := by
              simpa [Instr.loadAt, Instr.sureAddr] using h2
            simp only [rvS, hu, asAddr, Sem.run_bind, Sem.run_pure, Result.andThen_ok, h2']
          | ptrDead _ _ _ _ h' => rw [h1] at h'; cases h'
        · cases h
      · cases h
    · cases h
theorem resL_ok (rel : RelT X w0 N0 B0 th st a w) : ∀ (rs : List ResultVar) (l : List (AV U)), resL P st rs = some l →
    ∃ us : List Value, (rs.mapM (rvS a.tmps)).run P w = .ok us w ∧ us.length = l.length ∧ ∀ j, j < l.length → VRel X w (NN N0 th) th (l.getD j .undef) (us.getD j undef)
  | [], l, h => by
    injection h with h; subst h
    exact ⟨[], rfl, rfl, fun j hj => by simp at hj⟩
  | rv :: rs, l, h => by
    unfold resL at h
    split at h
    · rename_i v l' h1 h2
      injection h with h; subst h
      obtain ⟨u, g1, g2⟩ := res1_ok rel h1
      obtain ⟨us, k1, k2, k3⟩ := resL_ok rel rs l' h2
      refine ⟨u :: us, ?_, by simp [k2], fun j hj => ?_⟩
      · simp only [List.mapM_cons, Sem.run_bind, g1, k1, Result.andThen_ok, Sem.run_pure]
      · cases j with
        | zero => exact g2
        | succ j => simpa only [List.getD_cons_succ] using k3 j (by simpa using hj)
    · cases h
theorem resV_ok (rel : RelT X w0 N0 B0 th st a w) {fn : Func} {v : AV U} (h : resV P st fn.results.toList = some v) : ∃ u, (results fn a.tmps).run P w = .ok u w ∧ VRel X w (NN N0 th) th v u := by
  have key : ∀ l, resL P st fn.results.toList = some l → ∃ us : Array Value, (results fn a.tmps).run P w = .ok (if h : us.size = 1 then us[0] else .tuple us) w ∧ us.size = l.length ∧ ∀ j, j < l.length → VRel X w (NN N0 th) th (l.getD j .undef) (us.getD j undef) := by
    intro l hl
    obtain ⟨us, k1, k2, k3⟩ := resL_ok rel _ l hl
    refine ⟨us.toArray, ?_, by simpa using k2, fun j hj => by simpa [Array.getD_eq_getD_getElem?, List.getD_eq_getElem?_getD] using k3 j hj⟩
    rw [results_eq, Array.mapM_eq_mapM_toList]
    simp only [Sem.run_bind, Sem.run_map]
    rw [k1]
    rfl
  unfold resV at h
  split at h
  · rename_i v' hl
    injection h with h; subst h
    obtain ⟨us, g1, g2, g3⟩ := key _ hl
    have hs : us.size = 1 := by simpa using g2
    rw [dif_pos hs] at g1
    refine ⟨_, g1, ?_⟩
    have := g3 0 (by simp)
    simpa [Array.getD_eq_getD_getElem?, hs] using this
  · rename_i l hne hl
    injection h with h; subst h
    obtain ⟨us, g1, g2, g3⟩ := key _ hl
    have hs : ¬ us.size = 1 := fun hs => by
      cases l with
      | nil => simp [hs] at g2
      | cons x l =>
        cases l with
        | nil => exact hne x rfl
        | cons y l => simp [hs] at g2
    rw [dif_neg hs] at g1
    exact ⟨_, g1, .tup _ us g2 g3⟩
  · cases h
theorem nilV_ok : ∀ (d : Nat) {x : AV U} {v : Value} {h : List (AO U)} {th : Nat → Th}, Mem X w0 N0 B0 th h w → VRel X w (NN N0 th) th x v →
    ∃ th', Mem X w0 N0 B0 th' (nilV d x h).2 w ∧ Carries X N0 w w th th' ∧ VRel X w (NN N0 th') th' (nilV d x h).1 v := by
  have nil : ∀ {e : Nat} {v : Value} {h : List (AO U)} {th : Nat → Th}, Mem X w0 N0 B0 th h w → VRel X w (NN N0 th) th (.nils e) v → ∃ th', Mem X w0 N0 B0 th' (h ++ [.row e []]) w ∧ Carries X N0 w w th th' ∧ VRel X w (NN N0 th') th' (.row h.length e) v := fun {e v h th} m hx => by
    obtain ⟨k1, k2⟩ := m.newNil e
    cases hx
    exact ⟨_, k1, k2, .rowNil _ _ (thNew_same _ _ _)⟩
  have view : ∀ {i e off n : Nat} {v : Value} {h : List (AO U)} {th : Nat → Th}, Mem X w0 N0 B0 th h w → VRel X w (NN N0 th) th (.view i e off n) v → ∃ th', Mem X w0 N0 B0 th' (viewV (U := U) i e off n h).2 w ∧ Carries X N0 w w th th' ∧ VRel X w (NN N0 th') th' (viewV (U := U) i e off n h).1 v := fun {i e off n v h th} m hx => by
    unfold viewV
    split
    · rename_i e' l ho
      split
      · rename_i he; subst he
        exact m.retake ho hx
      · exact ⟨th, m, carries_refl, hx⟩
    · exact ⟨th, m, carries_refl, hx⟩
  intro d
  induction d with
  | zero =>
    intro x v h th m hx
    cases x <;> first | exact nil m hx | exact view m hx | exact ⟨th, m, carries_refl, hx⟩
  | succ d ih =>
    have fold : ∀ (cs : List (AV U)) (vs : Nat → Value) (acc : List (AV U)) (h : List (AO U)) (th : Nat → Th), Mem X w0 N0 B0 th h w →
        (∀ j, j < acc.length → VRel X w (NN N0 th) th (acc.getD j .undef) (vs j)) → (∀ j, j < cs.length → VRel X w (NN N0 th) th (cs.getD j .undef) (vs (acc.length + j))) →
        ∃ th', Mem X w0 N0 B0 th' (cs.foldl (fun (p : List (AV U) × List (AO U)) x => let q := nilV d x p.2; (p.1 ++ [q.1], q.2)) (acc, h)).2 w ∧ Carries X N0 w w th th' ∧
          (cs.foldl (fun (p : List (AV U) × List (AO U)) x => let q := nilV d x p.2; (p.1 ++ [q.1], q.2)) (acc, h)).1.length = acc.length + cs.length ∧
          ∀ j, j < acc.length + cs.length → VRel X w (NN N0 th') th' ((cs.foldl (fun (p : List (AV U) × List (AO U)) x => let q := nilV d x p.2; (p.1 ++ [q.1], q.2)) (acc, h)).1.getD j .undef) (vs j) := by
      intro cs
      induction cs with
      | nil => intro vs acc h th m ha _; exact ⟨th, m, carries_refl, rfl, ha⟩
      | cons x cs ihc =>
        intro vs acc h th m ha hc
        have h0 := hc 0 (by simp)
        simp only [List.getD_cons_zero, Nat.add_zero] at h0
        obtain ⟨th1, m1, c1, v1⟩ := ih m h0
        obtain ⟨th2, m2, c2, l2, v2⟩ := ihc vs (acc ++ [(nilV d x h).1]) (nilV d x h).2 th1 m1 (fun j hj => by
          by_cases hlt : j < acc.length
          · rw [List.getD_eq_getElem?_getD, List.getElem?_append_left hlt, ← List.getD_eq_getElem?_getD]; exact c1 _ _ (ha j hlt)
          · have e : j = acc.length := by simp at hj; omega
            subst e
            rw [List.getD_eq_getElem?_getD, List.getElem?_append_right (Nat.le_refl _)]
            simpa using v1) (fun j hj => by
          have := hc (j + 1) (by simpa using hj)
          simp only [List.getD_cons_succ] at this
          have e : (acc ++ [(nilV d x h).1]).length + j = acc.length + (j + 1) := by simp; omega
          rw [e]; exact c1 _ _ this)
        refine ⟨th2, m2, c1.trans c2, ?_, fun j hj => v2 j (by simp at hj ⊢; omega)⟩
        show (List.foldl _ (acc ++ [(nilV d x h).1], (nilV d x h).2) cs).1.length = _
        rw [l2]; simp; omega
    intro x v h th m hx
    cases x with
    | nils e => exact nil m hx
    | view i e off n => exact view m hx
    | agg cs =>
      cases hx with
      | agg _ vs hs hj =>
        obtain ⟨th1, m1, c1, l1, v1⟩ := fold cs (fun j => vs.getD j undef) [] h th m (fun j hj => by simp at hj) (fun j hj' => by simpa using hj j hj')
        simp only [List.length_nil, Nat.zero_add] at l1 v1
        exact ⟨th1, m1, c1, .agg _ vs (by rw [l1]; exact hs) fun j hj => v1 j (by rw [l1] at hj; exact hj)⟩
    | tup cs =>
      cases hx with
      | tup _ vs hs hj =>
        obtain ⟨th1, m1, c1, l1, v1⟩ := fold cs (fun j => vs.getD j undef) [] h th m (fun j hj => by simp at hj) (fun j hj' => by simpa using hj j hj')
        simp only [List.length_nil, Nat.zero_add] at l1 v1
        exact ⟨th1, m1, c1, .tup _ vs (by rw [l1]; exact hs) fun j hj => v1 j (by rw [l1] at hj; exact hj)⟩
    | _ => exact ⟨th, m, carries_refl, hx⟩
theorem one_relT {v : AV U} {u : Value} (m : Mem X w0 N0 B0 th h w) (hv : VRel X w (NN N0 th) th v u) : RelT X w0 N0 B0 th ⟨[v], h⟩ { tmps := #[u], defers := [] } w where
  len := Nat.le_refl _
  slots := fun i => by
    cases i with
    | zero => exact hv
    | succ i => exact .undef _
  mem := m
  defers := rfl
theorem outS_ok (g : Good X) (k : Nat) (own : Bool) {v : AV U} {u : Value} (hk : ∀ j, k ≤ j → B0 j = .none) (m : Mem X w0 N0 B0 th h w) (hv : VRel X w (NN N0 th) th v u) :
    ∃ th', Mem X w0 N0 B0 th' (outS k own v h).h w ∧ VRel X w (NN N0 th') th' ((outS k own v h).s.getD 0 .undef) u := by
  have h1 : ∃ th1, RelT X w0 N0 B0 th1 (cond own (ownV v h) (frzV v h)) { tmps := #[u], defers := [] } w := by
    cases own with
    | true =>
      obtain ⟨th1, m1, _, v1⟩ := nilV_ok 3 m hv
      exact ⟨th1, one_relT m1 v1⟩
    | false =>
      obtain ⟨th1, r1, _, _⟩ := frzAll_ok g.closed g.pos (vs := #[]) (refsA 8 v) th (⟨[v], h⟩, []) (one_relT m hv) (fun j hj => by simp at hj)
      refine ⟨th1, ?_, fun i => ?_, r1.mem, rfl⟩
      · have := r1.len
        simpa [frzV] using this
      · show VRel X w _ _ (((frzAll (refsA 8 v) (⟨[v], h⟩, [])).1.s.map (nrm 8)).getD i .undef) _
        by_cases hi : i < (frzAll (refsA 8 v) ((⟨[v], h⟩ : S U), [])).1.s.length
        · rw [map_getD _ _ _ hi]; exact nrm_rel (r1.slots i) 8
        · rw [List.getD_eq_getElem?_getD, List.getElem?_eq_none (by simp; omega)]; exact .undef _
  obtain ⟨th1, r1⟩ := h1
  obtain ⟨th2, r2, _⟩ := upBoxes_ok (List.range k) r1
  obtain ⟨th3, r3⟩ := canonK_ok g.closed g.pos r2 k hk
  exact ⟨th3, r3.mem, r3.slots 0⟩
theorem pureH_of (g : Good X) {n : Nat} {fn : Func} {body : Code} {prim : Prim U R} {keep : Nat → S U → S U} {cuts : List Nat} {args : List (AV U)} {k : AV U → List (AO U) → Option R} {own : Bool} {back : R → AV U} {backh : R → List (AO U)} {F : Nat}
    (hf : P.funcs[n]? = some fn) (hb : fn.body = some body) (hn : (ids body).Nodup) (pok : PrmOK P X prim) (kok : ∀ w0 N0 B0, (∀ j, h.length ≤ j → B0 j = .none) → KeepOK X w0 N0 B0 keep) (hk : ∀ v h' r, k v h' = some r → v = back r ∧ h' = backh r)
    (hseg : seg P X prim cuts (cutF P X prim cuts keep body (finH P fn.results.toList h.length own k) F) body (finH P fn.results.toList h.length own k) (start args fn.ntmps h) = some r) : PureH P X n args h (back r) (backh r) := by
  intro w N th vs m hs ha
  refine calls_of_wp hf hb ?_
  have rel := start_ok (n := fn.ntmps) m hs ha
  have hB : ∀ j, h.length ≤ j → th j = .none := m.out
  refine body_ok g pok (kok w N th hB) hn ?_ hseg rel
  have last : ∀ (th' : Nat → Th) (st : S U) (a : Act) (w' : World), (match resV P st fn.results.toList with | some v => (let p := outS h.length own v st.h; k (p.s.getD 0 .undef) p.h) | none => none) = some r → RelT X w N th th' st a w' →
      a.defers = [] ∧ ∃ v, (results fn a.tmps).run P w' = .ok v w' ∧ ∃ u th'', Ending.returned v = .returned u ∧ Mem X w N th th'' (backh r) w' ∧ VRel X w' (NN N th'') th'' (back r) u := by
    intro th' st a w' hh rel
    split at hh
    · rename_i v hv
      obtain ⟨u, g1, g2⟩ := resV_ok rel hv
      obtain ⟨th3, m3, v3⟩ := outS_ok g h.length own hB rel.mem g2
      obtain ⟨e1, e2⟩ := hk _ _ _ hh
      rw [e1] at v3; rw [e2] at m3
      exact ⟨rel.defers, u, g1, u, th3, rfl, m3, v3⟩
    · cases hh
  intro e th' st a w' hh rel
  cases e with
  | normal => exact last th' st a w' hh rel
  | ret => exact last th' st a w' hh rel
  | exit i => cases hh
end
end Go.Abs
namespace Go.Abs
open Go Go.RowKit
variable {U : Nat → Type} {R : Type}
structure Dir where
  keep : List Nat
  rows : List (Nat × Option Nat) := []
  imms : List (Nat × Option Nat) := []
  pres : List (Nat × Option Nat) := []
def rowAt (st : S U) (p : Nat × Option Nat) : S U :=
  match p.2 with
  | none => (match st.s.getD p.1 .undef with | .nils e => ⟨st.s.set p.1 (.row st.h.length e), st.h ++ [AO.row e []]⟩ | _ => st)
  | some c =>
    match st.s.getD p.1 .undef with
    | .ptr i 0 => (match st.h.getD i .dead with
      | .box cs => (match cs.getD c .undef with | .nils e => ⟨st.s, (st.h ++ [AO.row e []]).set i (.box (cs.set c (.row st.h.length e)))⟩ | _ => st)
      | _ => st)
    | _ => st
def nrmAt (k : Nat) (st : S U) : S U := ⟨st.s.set k (nrm 8 (st.s.getD k .undef)), st.h⟩
def immAt (st : S U) (p : Nat × Option Nat) : S U :=
  match p.2 with
  | none => nrmAt p.1 (frzAll (refsA 8 (st.s.getD p.1 .undef)) (st, [])).1
  | some c =>
    match st.s.getD p.1 .undef with
    | .ptr i 0 => (match st.h.getD i .dead with
      | .box cs => (match cs.getD c .undef with | .nils e => ⟨st.s, st.h.set i (.box (cs.set c (.imm e [])))⟩ | .row j _ => (frz1 j (st, [])).1 | _ => st)
      | _ => st)
    | _ => st
def preAt (st : S U) (p : Nat × Option Nat) : S U :=
  match p.2 with
  | none => (match st.s.getD p.1 .undef with
    | .view i e 0 n => (match st.h.getD i .dead with | .row e' _ => if e' = e then ⟨st.s.set p.1 (.row st.h.length e), retakeH st.h i e n⟩ else st | _ => st)
    | .row i e => (match st.h.getD i .dead with | .row e' l => if e' = e then ⟨st.s.set p.1 (.row st.h.length e), retakeH st.h i e l.length⟩ else st | _ => st)
    | _ => st)
  | some c =>
    match st.s.getD p.1 .undef with
    | .ptr i 0 => (match st.h.getD i .dead with
      | .box cs => (match cs.getD c .undef with
        | .view j e 0 n => (match st.h.getD j .dead with | .row e' _ => if e' = e then ⟨st.s, (retakeH st.h j e n).set i (.box (cs.set c (.row st.h.length e)))⟩ else st | _ => st)
        | .row j e => (match st.h.getD j .dead with | .row e' l => if e' = e then ⟨st.s, (retakeH st.h j e l.length).set i (.box (cs.set c (.row st.h.length e)))⟩ else st | _ => st)
        | _ => st)
      | _ => st)
    | _ => st
def keepD (D : Nat → Dir) (k : Nat) (q : Nat) (st : S U) : S U :=
  let d := D q
  let st := d.imms.foldl immAt (d.rows.foldl rowAt (d.pres.foldl preAt st))
  canonK k ⟨dropL d.keep 0 st.s, st.h⟩
section
variable {P : Program} {X : Univ U} {w0 w : World} {N0 N : Nat → Prop} {B0 : Nat → Th} {th : Nat → Th} {st : S U} {a : Act} {h : List (AO U)} {r : R}
theorem slot_set (rel : RelT X w0 N0 B0 th st a w) {k : Nat} {v : AV U} (hv : VRel X w (NN N0 th) th v (a.tmps.getD k undef)) : RelT X w0 N0 B0 th ⟨st.s.set k v, st.h⟩ a w where
  len := by simpa using rel.len
  slots := fun i => by
    show VRel _ _ _ _ ((st.s.set k v).getD i .undef) _
    rw [getD_set]
    split
    · rename_i hk; rw [← hk.1]; exact hv
    · exact rel.slots i
  mem := rel.mem
  defers := rel.defers
theorem box_retag (m : Mem X w0 N0 B0 th h w) {i c : Nat} {cs : List (AV U)} {v : AV U} (ho : h.getD i .dead = .box cs) (hv : ∀ u, VRel X w (NN N0 th) th (cs.getD c .undef) u → VRel X w (NN N0 th) th v u) : Mem X w0 N0 B0 th (h.set i (.box (cs.set c v))) w where
  glob := m.glob
  gv := m.gv
  pin := m.pin
  objs := fun j hj => by
    have hj' : j < h.length := by simpa using hj
    by_cases e : j = i
    · subst e
      rw [getD_set_same _ _ _ hj']
      obtain ⟨b, T, cur, h1, h2, h3, h4⟩ := m.box_at ho
      refine ⟨b, T, cur, h1, h2, by simpa using h3, fun k hk => ?_⟩
      have hk' : k < cs.length := by simpa using hk
      rw [getD_set]
      split
      · rename_i hc; rw [← hc.1]; exact hv _ (h4 c hc.2)
      · exact h4 k hk'
    · rw [getD_set_other _ _ _ _ e]; exact m.objs j hj'
  out := fun j hj => m.out j (by simpa using hj)
  own := m.own
  inj := m.inj
  n0 := m.n0
  size := m.size
  os := m.os
  tape := m.tape
  output := m.output
  keep := m.keep
theorem newNil_rel (rel : RelT X w0 N0 B0 th st a w) (e : Nat) : RelT X w0 N0 B0 (thNew th st.h.length .nil) ⟨st.s, st.h ++ [.row e []]⟩ a w := by
  obtain ⟨h1, h2⟩ := rel.mem.newNil e
  exact ⟨rel.len, fun i => h2 _ _ (rel.slots i), h1, rel.defers⟩
theorem rowAt_ok (rel : RelT X w0 N0 B0 th st a w) (p : Nat × Option Nat) : ∃ th', RelT X w0 N0 B0 th' (rowAt st p) a w := by
  unfold rowAt
  split
  · split
    · rename_i e he
      have r1 := newNil_rel rel e
      have hs := rel.slots p.1
      rw [he] at hs
      generalize hu : a.tmps.getD p.1 undef = u at hs
      cases hs
      exact ⟨_, slot_set (st := ⟨st.s, st.h ++ [.row e []]⟩) r1 (by rw [hu]; exact .rowNil _ _ (thNew_same _ _ _))⟩
    · exact ⟨th, rel⟩
  · rename_i c hc
    split
    · rename_i i hi
      split
      · rename_i cs ho
        split
        · rename_i e he
          have r1 := newNil_rel rel e
          have ho' : (st.h ++ [AO.row e []]).getD i .dead = .box cs := by rw [getD_snoc_lt _ _ (getD_alive ho (by simp))]; exact ho
          refine ⟨_, ⟨r1.len, r1.slots, box_retag r1.mem ho' fun u hu => ?_, r1.defers⟩⟩
          rw [he] at hu
          cases hu
          exact .rowNil _ _ (thNew_same _ _ _)
        · exact ⟨th, rel⟩
      · exact ⟨th, rel⟩
    · exact ⟨th, rel⟩
theorem frz1_ok (g : Good X) (rel : RelT X w0 N0 B0 th st a w) (i : Nat) : ∃ th', RelT X w0 N0 B0 th' (frz1 i (st, [])).1 a w := by
  unfold frz1
  split
  · rename_i e l ho; exact ⟨_, frzRow_ok g.closed g.pos rel ho⟩
  · exact ⟨th, rel⟩
theorem nrmAt_ok (rel : RelT X w0 N0 B0 th st a w) (k : Nat) : RelT X w0 N0 B0 th (nrmAt k st) a w := slot_set rel (nrm_rel (rel.slots k) 8)
theorem immAt_ok (g : Good X) (rel : RelT X w0 N0 B0 th st a w) (p : Nat × Option Nat) : ∃ th', RelT X w0 N0 B0 th' (immAt st p) a w := by
  unfold immAt
  split
  · obtain ⟨th1, r1, _, _⟩ := frzAll_ok g.closed g.pos (vs := #[]) (refsA 8 (st.s.getD p.1 .undef)) th (st, []) rel (fun j hj => by simp at hj)
    exact ⟨th1, nrmAt_ok r1 _⟩
  · rename_i c hc
    split
    · rename_i i hi
      split
      · rename_i cs ho
        split
        · rename_i e he
          refine ⟨_, ⟨rel.len, rel.slots, box_retag rel.mem ho fun u hu => ?_, rel.defers⟩⟩
          rw [he] at hu
          cases hu
          exact .imm0 _ none 0
        · exact frz1_ok g rel _
        · exact ⟨th, rel⟩
      · exact ⟨th, rel⟩
    · exact ⟨th, rel⟩
theorem row_view (m : Mem X w0 N0 B0 th h w) {j e : Nat} {l : List (U e)} {v : Value} (ho : h.getD j .dead = .row e l) (hv : VRel X w (NN N0 th) th (.row j e) v) : VRel X w (NN N0 th) th (.view j e 0 l.length) v := by
  rcases m.row_at ho with ⟨g1, g2⟩ | ⟨b, cap, cur, g1, g2, g3, g4, g5, g6⟩
  · subst g2
    cases hv with
    | row _ _ _ _ _ h' _ => rw [g1] at h'; cases h'
    | rowNil _ _ h' => exact .viewNil _ _ h'
    | rowDead _ _ _ ho' h' => rw [g1] at h'; cases h'
  · cases hv with
    | row _ _ b' cap' n h' hn =>
      rw [g1] at h'
      injection h' with e1 e2; injection e2 with e2 e3
      subst e1; subst e2; subst e3
      have := VRel.view (X := X) (w := w) (N := NN N0 th) (th := th) j e 0 l.length b cap l.length cap g1 (by omega) g5 (.inr rfl) g5 (by omega)
      rw [Nat.zero_mul] at this
      exact this
    | rowNil _ _ h' => rw [g1] at h'; cases h'
    | rowDead _ _ _ ho' h' => rw [g1] at h'; cases h'
theorem preCell_ok (rel : RelT X w0 N0 B0 th st a w) {i c j n e' : Nat} {cs : List (AV U)} {l : List (U e')} (ho : st.h.getD i .dead = .box cs) (hlt : c < cs.length) (hoj : st.h.getD j .dead = .row e' l)
    (hv0 : ∀ v, VRel X w (NN N0 th) th (cs.getD c .undef) v → VRel X w (NN N0 th) th (.view j e' 0 n) v) : ∃ th', RelT X w0 N0 B0 th' ⟨st.s, (retakeH st.h j e' n).set i (.box (cs.set c (.row st.h.length e')))⟩ a w := by
  obtain ⟨b, T, cur, h1, h2, h3, h4⟩ := rel.mem.box_at ho
  have hv := hv0 _ (h4 c hlt)
  obtain ⟨th1, m1, c1, v1⟩ := rel.mem.retake hoj hv
  have hij : i ≠ j := fun e => by subst e; rw [ho] at hoj; cases hoj
  have hil := getD_alive ho (by simp)
  have ho' : (retakeH st.h j e' n).getD i .dead = .box cs := by
    unfold retakeH
    rw [hoj]
    simp only [if_true]
    rw [getD_set_other _ _ _ _ hij, getD_snoc_lt _ _ hil]; exact ho
  have r1 : RelT X w0 N0 B0 th1 ⟨st.s, retakeH st.h j e' n⟩ a w := ⟨rel.len, fun i => c1 _ _ (rel.slots i), m1, rel.defers⟩
  refine ⟨th1, r1.len, r1.slots, ?_, r1.defers⟩
  obtain ⟨b', T', cur', k1, k2, k3, k4⟩ := m1.box_at ho'
  have eb : b' = b := by
    have := c1.pin i
    rw [h1, k1] at this
    rcases this with q | q | q
    · cases q
    · injection q
    · cases q
  subst eb
  rw [h2] at k2
  injection k2 with k2; injection k2 with k2 _ _
  subst k2
  exact {
    glob := m1.glob
    gv := m1.gv
    pin := m1.pin
    objs := fun q hq => by
      have hq' : q < (retakeH st.h j e' n).length := by simpa using hq
      by_cases e : q = i
      · subst e
        rw [getD_set_same _ _ _ hq']
        refine ⟨b', T, cur, k1, h2, by simpa using k3, fun m hm => ?_⟩
        have hm' : m < cs.length := by simpa using hm
        rw [getD_set]
        split
        · rename_i hcm; rw [← hcm.1]; exact v1
        · exact k4 m hm'
      · rw [getD_set_other _ _ _ _ e]; exact m1.objs q hq'
    out := fun q hq => m1.out q (by simpa using hq)
    own := m1.own, inj := m1.inj, n0 := m1.n0, size := m1.size, os := m1.os, tape := m1.tape, output := m1.output, keep := m1.keep }
theorem preAt_ok (rel : RelT X w0 N0 B0 th st a w) (p : Nat × Option Nat) : ∃ th', RelT X w0 N0 B0 th' (preAt st p) a w := by
  unfold preAt
  split
  · split
    · rename_i i e n hs
      split
      · rename_i e' l ho
        split
        · rename_i he; subst he
          have h1 := rel.slots p.1
          rw [hs] at h1
          obtain ⟨th1, m1, c1, v1⟩ := rel.mem.retake ho h1
          exact ⟨th1, slot_set (st := ⟨st.s, retakeH st.h i e' n⟩) ⟨rel.len, fun i => c1 _ _ (rel.slots i), m1, rel.defers⟩ v1⟩
        · exact ⟨th, rel⟩
      · exact ⟨th, rel⟩
    · rename_i i e hs
      split
      · rename_i e' l ho
        split
        · rename_i he; subst he
          have h1 := rel.slots p.1
          rw [hs] at h1
          obtain ⟨th1, m1, c1, v1⟩ := rel.mem.retake ho (row_view rel.mem ho h1)
          exact ⟨th1, slot_set (st := ⟨st.s, retakeH st.h i e' l.length⟩) ⟨rel.len, fun i => c1 _ _ (rel.slots i), m1, rel.defers⟩ v1⟩
        · exact ⟨th, rel⟩
      · exact ⟨th, rel⟩
    · exact ⟨th, rel⟩
  · rename_i c hc
    split
    · rename_i i hi
      split
      · rename_i cs ho
        have hlt : cs.getD c .undef ≠ .undef → c < cs.length := fun hne => Nat.lt_of_not_le fun hle => by
          rw [List.getD_eq_getElem?_getD, List.getElem?_eq_none hle] at hne; exact hne rfl
        split
        · rename_i j e n hcs
          split
          · rename_i e' l hoj
            split
            · rename_i he; subst he
              exact preCell_ok rel ho (hlt (by rw [hcs]; simp)) hoj fun v hv => by rw [hcs] at hv; exact hv
            · exact ⟨th, rel⟩
          · exact ⟨th, rel⟩
        · rename_i j e hcs
          split
          · rename_i e' l hoj
            split
            · rename_i he; subst he
              exact preCell_ok rel ho (hlt (by rw [hcs]; simp)) hoj fun v hv => by rw [hcs] at hv; exact row_view rel.mem hoj hv
            · exact ⟨th, rel⟩
          · exact ⟨th, rel⟩
        · exact ⟨th, rel⟩
      · exact ⟨th, rel⟩
    · exact ⟨th, rel⟩
theorem fold_ok {α : Type} {f : S U → α → S U} (hf : ∀ (th : Nat → Th) (st : S U) (p : α), RelT X w0 N0 B0 th st a w → ∃ th', RelT X w0 N0 B0 th' (f st p) a w) : ∀ (l : List α) (th : Nat → Th) (st : S U), RelT X w0 N0 B0 th st a w → ∃ th', RelT X w0 N0 B0 th' (l.foldl f st) a w
  | [], th, _, h => ⟨th, h⟩
  | p :: l, th, st, h => by
    obtain ⟨th1, h1⟩ := hf th st p h
    exact fold_ok hf l th1 _ h1
theorem keepD_ok (g : Good X) (D : Nat → Dir) (k : Nat) (w0 : World) (N0 : Nat → Prop) (B0 : Nat → Th) (hB : ∀ j, k ≤ j → B0 j = .none) : KeepOK X w0 N0 B0 (keepD D k : Nat → S U → S U) := by
  intro q th st a w rel
  obtain ⟨th0, r0⟩ := fold_ok (fun th st p rel => preAt_ok rel p) (D q).pres th st rel
  obtain ⟨th1, r1⟩ := fold_ok (fun th st p rel => rowAt_ok rel p) (D q).rows th0 _ r0
  obtain ⟨th2, r2⟩ := fold_ok (fun th st p rel => immAt_ok g rel p) (D q).imms th1 _ r1
  exact canonK_ok g.closed g.pos (drop_ok (D q).keep r2) k hB
end
end Go.Abs
namespace Go.Abs
open Go Go.RowKit
variable {U : Nat → Type} {R : Type}
def cutG (P : Program) (X : Univ U) (prim : Prim U R) (cuts : List Nat) (D : Nat → Dir) (kp : Nat) (body : Code) (fin : Ex → S U → Option R) : Nat → Nat → S U → Option R
  | 0, _, _ => none
  | k + 1, q, st => if has q body then res P X prim cuts (fun q st => cutG P X prim cuts D kp body fin k q (keepD D kp q st)) q body fin st else none
theorem cutF_eq (P : Program) (X : Univ U) (prim : Prim U R) (cuts : List Nat) (D : Nat → Dir) (kp : Nat) (body : Code) (fin : Ex → S U → Option R) : ∀ k, cutF P X prim cuts (keepD D kp) body fin k = fun q st => cutG P X prim cuts D kp body fin k q (keepD D kp q st)
  | 0 => by funext q st; rfl
  | k + 1 => by
    funext q st
    simp only [cutF, cutG]
    rw [cutF_eq P X prim cuts D kp body fin k]
def dirs (l : List (Nat × Dir)) (q : Nat) : Dir := ((l.find? (·.1 == q)).map (·.2)).getD { keep := [] }
structure Pr (U : Nat → Type) (R : Type) where
  n : Nat
  sel : List (AV U) → Bool := fun _ => true
  ms : List Md
  f : Fn U R
def isFn (j n : Nat) (args : List (AV U)) : Bool := match args.getD j .undef with | .fn m _ => m == n | _ => false
def prims (X : Univ U) : List (Pr U R) → Prim U R
  | [], _, _, _, _ => none
  | p :: l, n, args, st, K => cond (n == p.n && p.sel args) (callM X p.ms p.f args st K) (prims X l n args st K)
theorem prims_nil (P : Program) (X : Univ U) (hm : P.follows .mixedOrders = true) : PrmOK P X (prims X ([] : List (Pr U R))) :=
  ⟨(by intro n args st K r h; cases h), hm⟩
theorem prims_cons {P : Program} {X : Univ U} (g : Good X) {p : Pr U R} {l : List (Pr U R)} (hf : FnOK P X p.n p.f) (hl : PrmOK P X (prims X l)) : PrmOK P X (prims X (p :: l)) := by
  refine ⟨?_, hl.mixed⟩
  intro n args st K r h
  replace h : cond (n == p.n && p.sel args) (callM X p.ms p.f args st K) (prims X l n args st K) = some r := h
  cases hn : (n == p.n && p.sel args) with
  | true =>
    rw [hn] at h
    rw [Bool.and_eq_true] at hn
    have : n = p.n := by simpa using hn.1
    subst this
    exact callM_ok g hf h
  | false =>
    rw [hn] at h
    exact hl.all n args st K r h
theorem pure_gen {P : Program} {X : Univ U} (g : Good X) {n : Nat} {fn : Func} {body : Code} {prim : Prim U R} {D : Nat → Dir} {cuts : List Nat} {args : List (AV U)} {h : List (AO U)} {own : Bool} {k : AV U → List (AO U) → Option R} {back : R → AV U} {backh : R → List (AO U)} {r : R} (F : Nat) (hf : P.funcs[n]? = some fn) (hb : fn.body = some body) (hn : (ids body).Nodup)
    (pok : PrmOK P X prim) (hk : ∀ v h' r, k v h' = some r → v = back r ∧ h' = backh r)
    (hs : seg P X prim cuts (fun q st => cutG P X prim cuts D h.length body (finH P fn.results.toList h.length own k) F q (keepD D h.length q st)) body (finH P fn.results.toList h.length own k) (start args fn.ntmps h) = some r) : PureH P X n args h (back r) (backh r) :=
  pureH_of g (keep := keepD D h.length) (F := F) hf hb hn pok (fun w0 N0 B0 hB => keepD_ok g D h.length w0 N0 B0 hB) hk (by rw [cutF_eq]; exact hs)
abbrev repI (n : Nat) (x : Int) : List Int := List.replicate n x
def Evt {R : Type} (f : Nat → Option R) (r : R) : Prop := ∃ K, ∀ k, K ≤ k → f k = some r
theorem Evt.one {R : Type} {f : Nat → Option R} {r r' : R} (h : Evt f r) (h' : Evt f r') : r = r' := by
  obtain ⟨K, hK⟩ := h
  obtain ⟨K', hK'⟩ := h'
  have h1 := hK (max K K') (Nat.le_max_left _ _)
  rw [hK' _ (Nat.le_max_right _ _)] at h1
  exact (Option.some.inj h1).symm
theorem Evt.now {R : Type} {f : Nat → Option R} {r : R} (h : ∀ k, f k = some r) : Evt f r := ⟨0, fun k _ => h k⟩
theorem Evt.step {R : Type} {f g : Nat → Option R} {r : R} (h : Evt g r) (e : ∀ k, f (k + 1) = g k) : Evt f r := by
  obtain ⟨K, hK⟩ := h
  refine ⟨K + 1, fun k hk => ?_⟩
  have : k = (k - 1) + 1 := by omega
  rw [this, e]
  exact hK _ (by omega)
theorem Evt.same {R : Type} {f g : Nat → Option R} {r : R} (h : Evt g r) (e : ∀ k, f k = g k) : Evt f r := by
  obtain ⟨K, hK⟩ := h
  exact ⟨K, fun k hk => by rw [e]; exact hK k hk⟩
theorem Evt.last {R : Type} {f : Nat → Option R} {r : R} (e : ∀ k, f (k + 1) = some r) : Evt f r := Evt.step (g := fun _ => some r) (Evt.now fun _ => rfl) e
open Classical in
noncomputable def evv {R : Type} (f : Nat → Option R) : Option R := if h : ∃ r, Evt f r then some (Classical.choose h) else none
theorem evv_eq {R : Type} {f : Nat → Option R} {r : R} (h : Evt f r) : evv f = some r := by
  unfold evv
  rw [dif_pos ⟨r, h⟩]
  exact congrArg some ((Classical.choose_spec (⟨r, h⟩ : ∃ r, Evt f r)).one h)
theorem evv_ev {R : Type} {f : Nat → Option R} {r : R} (h : evv f = some r) : Evt f r := by
  unfold evv at h
  split at h
  · rename_i hx
    injection h with h
    rw [← h]; exact Classical.choose_spec hx
  · cases h
theorem evv_fuel {R : Type} {f : Nat → Option R} {r : R} (h : evv f = some r) : ∃ k, f k = some r := by
  obtain ⟨K, hK⟩ := evv_ev h
  exact ⟨K, hK K (Nat.le_refl _)⟩
end Go.Abs
namespace Limb
def val : List Int → Int
  | [] => 0
  | x :: xs => x + 4294967296 * val xs
def Ok (l : List Int) : Prop := ∀ x, x ∈ l → 0 ≤ x ∧ x < 4294967296
def P (n : Nat) : Int := (4294967296 : Int) ^ n
def rd (xs : List Int) (i : Int) : Int := xs.getD i.toNat 0
theorem P_zero : P 0 = 1 := rfl
theorem P_succ (n : Nat) : P (n + 1) = 4294967296 * P n := by unfold P; rw [Int.pow_succ, Int.mul_comm]
theorem P_pos (n : Nat) : 0 < P n := by unfold P; exact Int.pow_pos (by decide)
theorem P_add (m n : Nat) : P (m + n) = P m * P n := by unfold P; rw [Int.pow_add]
theorem val_append (a b : List Int) : val (a ++ b) = val a + P a.length * val b := by
  induction a with
  | nil => simp [val, P]
  | cons x xs ih =>
    simp only [List.cons_append, val, ih, List.length_cons, P_succ]
    rw [Int.mul_add, ← Int.mul_assoc]; omega
theorem Ok.cons {x : Int} {l : List Int} (h : Ok (x :: l)) : (0 ≤ x ∧ x < 4294967296) ∧ Ok l :=
  ⟨h x (by simp), fun y hy => h y (by simp [hy])⟩
theorem Ok.nil : Ok [] := fun x h => by simp at h
theorem Ok.mk {x : Int} {l : List Int} (h0 : 0 ≤ x) (h1 : x < 4294967296) (h : Ok l) : Ok (x :: l) := fun y hy => by
  rcases List.mem_cons.1 hy with rfl | hy
  · exact ⟨h0, h1⟩
  · exact h y hy
theorem Ok.append {a b : List Int} (ha : Ok a) (hb : Ok b) : Ok (a ++ b) := fun y hy => by
  rcases List.mem_append.1 hy with h | h
  · exact ha y h
  · exact hb y h
theorem Ok.left {a b : List Int} (h : Ok (a ++ b)) : Ok a := fun y hy => h y (by simp [hy])
theorem Ok.right {a b : List Int} (h : Ok (a ++ b)) : Ok b := fun y hy => h y (by simp [hy])
theorem Ok.take {a : List Int} (h : Ok a) (n : Nat) : Ok (a.take n) := fun y hy => h y (List.mem_of_mem_take hy)
theorem Ok.drop {a : List Int} (h : Ok a) (n : Nat) : Ok (a.drop n) := fun y hy => h y (List.mem_of_mem_drop hy)
theorem Ok.set {a : List Int} (h : Ok a) (n : Nat) {x : Int} (h0 : 0 ≤ x) (h1 : x < 4294967296) : Ok (a.set n x) := fun y hy => by
  rcases List.mem_or_eq_of_mem_set hy with h' | rfl
  · exact h y h'
  · exact ⟨h0, h1⟩
theorem Ok.replicate (n : Nat) : Ok (List.replicate n 0) := fun y hy => by
  rw [List.eq_of_mem_replicate hy]; decide
theorem Ok.rd {a : List Int} (h : Ok a) (i : Int) : 0 ≤ rd a i ∧ rd a i < 4294967296 := by
  unfold Limb.rd
  by_cases hi : i.toNat < a.length
  · rw [List.getD_eq_getElem?_getD, List.getElem?_eq_getElem hi]; exact h _ (List.getElem_mem hi)
  · rw [List.getD_eq_getElem?_getD, List.getElem?_eq_none (by omega)]; decide
theorem val_bound {l : List Int} (h : Ok l) : 0 ≤ val l ∧ val l < P l.length := by
  induction l with
  | nil => simp [val, P]
  | cons x xs ih =>
    obtain ⟨h1, h2⟩ := h.cons
    obtain ⟨h3, h4⟩ := ih h2
    simp only [val, List.length_cons, P_succ]
    constructor <;> omega
theorem val_replicate (n : Nat) : val (List.replicate n 0) = 0 := by
  induction n with
  | zero => rfl
  | succ n ih => simp [List.replicate_succ, val, ih]
theorem val_set (l : List Int) (i : Nat) (x : Int) (h : i < l.length) : val (l.set i x) = val l + (x - l.getD i 0) * P i := by
  induction l generalizing i with
  | nil => simp at h
  | cons y ys ih =>
    cases i with
    | zero => simp [val, P]; omega
    | succ i =>
      have := ih i (by simpa using h)
      simp only [List.set_cons_succ, val, this, List.getD_cons_succ, P_succ]
      rw [Int.mul_add, ← Int.mul_assoc, ← Int.mul_assoc, Int.mul_comm 4294967296 (x - _)]; omega
theorem val_take_succ (l : List Int) (i : Nat) (h : i < l.length) : val (l.take (i + 1)) = val (l.take i) + l.getD i 0 * P i := by
  rw [List.take_succ_eq_append_getElem h, val_append]
  have e : (l.take i).length = i := by simp; omega
  rw [e, List.getD_eq_getElem?_getD, List.getElem?_eq_getElem h]
  simp [val, Int.mul_comm]
theorem val_split (l : List Int) (i : Nat) (h : i ≤ l.length) : val l = val (l.take i) + P i * val (l.drop i) := by
  have := val_append (l.take i) (l.drop i)
  rw [List.take_append_drop] at this
  have e : (l.take i).length = i := by simp; omega
  rw [e] at this; exact this
theorem val_zero_tail (l : List Int) (i : Nat) (h : i ≤ l.length) (hz : ∀ j, i ≤ j → j < l.length → l.getD j 0 = 0) : val l = val (l.take i) := by
  rw [val_split l i h]
  have : val (l.drop i) = 0 := by
    have e : l.drop i = List.replicate (l.length - i) 0 := by
      apply List.ext_getElem
      · simp
      · intro j h1 h2
        simp only [List.getElem_drop, List.getElem_replicate]
        have h3 := hz (i + j) (by omega) (by simp at h1; omega)
        rw [List.getD_eq_getElem?_getD, List.getElem?_eq_getElem (by simp at h1; omega)] at h3
        simpa using h3
    rw [e, val_replicate]
  rw [this]; omega
def Norm (l : List Int) : Prop := l = [] ∨ l.getD (l.length - 1) 0 ≠ 0
theorem Norm.low {l : List Int} (h : Ok l) (hn : Norm l) (h0 : l ≠ []) : P (l.length - 1) ≤ val l := by
  have hl : 0 < l.length := List.length_pos_iff.2 h0
  rcases hn with rfl | hn
  · exact absurd rfl h0
  · have e := val_take_succ l (l.length - 1) (by omega)
    rw [show l.length - 1 + 1 = l.length from by omega, List.take_length] at e
    have b := (val_bound (h.take (l.length - 1))).1
    have r := (h.rd ((l.length - 1 : Nat) : Int)).1
    unfold Limb.rd at r
    simp only [Int.toNat_natCast] at r
    have p := P_pos (l.length - 1)
    rw [e]
    have h1 : 1 ≤ l.getD (l.length - 1) 0 := by omega
    have := Int.mul_le_mul_of_nonneg_right h1 (Int.le_of_lt p)
    omega
theorem P_mono {m n : Nat} (h : m ≤ n) : P m ≤ P n := by
  obtain ⟨k, rfl⟩ := Nat.exists_eq_add_of_le h
  rw [P_add]
  have := Int.mul_le_mul_of_nonneg_left (show 1 ≤ P k from by have := P_pos k; omega) (Int.le_of_lt (P_pos m))
  omega
theorem len_le_of_val {a b : List Int} (ha : Ok a) (na : Norm a) (hb : Ok b) (h : val a ≤ val b) : a.length ≤ b.length := by
  by_cases e : a = []
  · simp [e]
  · have l := na.low ha e
    have u := (val_bound hb).2
    refine Nat.le_of_not_lt fun hlt => ?_
    have := P_mono (show b.length ≤ a.length - 1 from by omega)
    omega
theorem val_inj {a b : List Int} (ha : Ok a) (hb : Ok b) (hl : a.length = b.length) (h : val a = val b) : a = b := by
  induction a generalizing b with
  | nil => cases b with
    | nil => rfl
    | cons _ _ => simp at hl
  | cons x xs ih => cases b with
    | nil => simp at hl
    | cons y ys =>
      obtain ⟨hx, hxs⟩ := ha.cons
      obtain ⟨hy, hys⟩ := hb.cons
      simp only [val] at h
      have e : x = y := by omega
      subst e
      rw [ih hxs hys (by simpa using hl) (by omega)]
theorem norm_inj {a b : List Int} (ha : Ok a) (na : Norm a) (hb : Ok b) (nb : Norm b) (h : val a = val b) : a = b :=
  val_inj ha hb (Nat.le_antisymm (len_le_of_val ha na hb (by omega)) (len_le_of_val hb nb ha (by omega))) h
theorem len_of_val {a : List Int} (ha : Ok a) (na : Norm a) (n : Nat) (h : val a < P n) : a.length ≤ n := by
  by_cases e : a = []
  · simp [e]
  · have l := na.low ha e
    refine Nat.le_of_not_lt fun hlt => ?_
    have := P_mono (show n ≤ a.length - 1 from by omega)
    omega
end Limb
namespace Num
theorem mul_le_mul_l {a b c : Int} (h : a ≤ b) (hc : 0 ≤ c) : c * a ≤ c * b := Int.mul_le_mul_of_nonneg_left h hc
theorem mul_le_mul_r {a b c : Int} (h : a ≤ b) (hc : 0 ≤ c) : a * c ≤ b * c := Int.mul_le_mul_of_nonneg_right h hc
theorem euclid_step {A B N xl xh yl yh t : Int} (hN : 0 < N) (a1 : N * xl ≤ A) (a2 : A ≤ N * xh) (b1 : N * yl ≤ B) (b2 : B ≤ N * yh)
    (ht : 0 ≤ t) (h1 : t * yh ≤ xl) (h2 : xh < (t + 1) * yl) : 0 ≤ A - t * B ∧ A - t * B < B := by
  have e1 := mul_le_mul_l b2 ht
  have e2 := mul_le_mul_l h1 (Int.le_of_lt hN)
  have e3 := mul_le_mul_l b1 (show 0 ≤ t + 1 by omega)
  have e4 := Int.mul_lt_mul_of_pos_left h2 hN
  have r1 : N * (t * yh) = t * (N * yh) := by grind
  have r2 : N * ((t + 1) * yl) = (t + 1) * (N * yl) := by grind
  have r3 : (t + 1) * B = t * B + B := by grind
  constructor <;> omega
theorem guess_ok {b M U V uu ul vv vl g : Int} (hb : 0 < b) (hM : 0 < M) (eU : U = uu * M + ul) (hu0 : 0 ≤ ul) (hu1 : ul < M) (eV : V = vv * M + vl) (hv0 : 0 ≤ vl) (hv1 : vl < M)
    (hvv : b ≤ vv) (hlt : U < V * b) (g0 : 0 ≤ g) (g1 : g < b) (h1 : g * vv ≤ uu) (h2 : g = b - 1 ∨ uu < (g + 1) * vv) : -V ≤ U - g * V ∧ U - g * V < V := by
  constructor
  · have e1 := mul_le_mul_r h1 (Int.le_of_lt hM)
    have e2 := Int.mul_le_mul_of_nonneg_left (Int.le_of_lt hv1) g0
    have e3 := mul_le_mul_r (Int.le_of_lt g1) (Int.le_of_lt hM)
    have e4 := mul_le_mul_r hvv (Int.le_of_lt hM)
    have r1 : g * V = g * vv * M + g * vl := by rw [eV]; grind
    omega
  · rcases h2 with h2 | h2
    · have : g * V = V * b - V := by rw [h2]; grind
      omega
    · have e1 := mul_le_mul_r (show uu + 1 ≤ (g + 1) * vv by omega) (Int.le_of_lt hM)
      have e2 := mul_le_mul_l hv0 (show 0 ≤ g + 1 by omega)
      have r1 : (g + 1) * V = (g + 1) * vv * M + (g + 1) * vl := by rw [eV]; grind
      have r2 : (g + 1) * V = g * V + V := by grind
      have r3 : (uu + 1) * M = uu * M + M := by grind
      omega
end Num
namespace Go.Abs
open Go
theorem cT {p : Prop} [Decidable p] (h : p) {α : Type} (a b : α) : cond (decide p) a b = a := by rw [decide_eq_true h]; rfl
theorem cF {p : Prop} [Decidable p] (h : ¬ p) {α : Type} (a b : α) : cond (decide p) a b = b := by rw [decide_eq_false h]; rfl
theorem cBT {b : Bool} (h : b = true) {α : Type} (x y : α) : cond b x y = x := by rw [h]; rfl
theorem cBF {b : Bool} (h : b = false) {α : Type} (x y : α) : cond b x y = y := by rw [h]; rfl
theorem cNT {b : Bool} (h : b = false) {α : Type} (x y : α) : cond (!b) x y = x := by rw [h]; rfl
theorem cNF {b : Bool} (h : b = true) {α : Type} (x y : α) : cond (!b) x y = y := by rw [h]; rfl
theorem cE {a b : Int} (h : a = b) {α : Type} (x y : α) : cond (a == b) x y = x := by subst h; simp
theorem cN {a b : Int} (h : a ≠ b) {α : Type} (x y : α) : cond (a == b) x y = y := by
  have : (a == b) = false := by simpa using h
  rw [this]; rfl
theorem wi64 {x : Int} (h0 : -9223372036854775808 ≤ x) (h1 : x ≤ 9223372036854775807) : IntKind.i64.wrap x = x := by
  show (if (true && decide (x % 18446744073709551616 ≥ 9223372036854775808)) = true then x % 18446744073709551616 - 18446744073709551616 else x % 18446744073709551616) = x
  simp only [Bool.true_and, decide_eq_true_eq]
  split <;> omega
theorem wu32 (x : Int) : IntKind.u32.wrap x = x % 4294967296 := by
  unfold IntKind.wrap
  simp only [IntKind.bits, IntKind.signed, Bool.false_and, Bool.false_eq_true, if_false]
  rfl
theorem wu64 (x : Int) : IntKind.u64.wrap x = x % 18446744073709551616 := by
  unfold IntKind.wrap
  simp only [IntKind.bits, IntKind.signed, Bool.false_and, Bool.false_eq_true, if_false]
  rfl
theorem wu8 (x : Int) : IntKind.u8.wrap x = x % 256 := by
  unfold IntKind.wrap
  simp only [IntKind.bits, IntKind.signed, Bool.false_and, Bool.false_eq_true, if_false]
  rfl
end Go.Abs
namespace Limb
def tn (l : List Int) : Nat → Nat
  | 0 => 0
  | n + 1 => if l.getD n 0 = 0 then tn l n else n + 1
def trimL (l : List Int) : List Int := l.take (tn l l.length)
theorem tn_le (l : List Int) : ∀ n, tn l n ≤ n
  | 0 => Nat.le_refl _
  | n + 1 => by unfold tn; split; exact Nat.le_succ_of_le (tn_le l n); exact Nat.le_refl _
theorem tn_zero (l : List Int) : ∀ n j, tn l n ≤ j → j < n → l.getD j 0 = 0
  | 0, j, _, h => absurd h (Nat.not_lt_zero _)
  | n + 1, j, h, hj => by
    unfold tn at h
    split at h
    · rename_i h0
      by_cases e : j = n
      · subst e; exact h0
      · exact tn_zero l n j h (by omega)
    · omega
theorem tn_top (l : List Int) : ∀ n, tn l n = 0 ∨ l.getD (tn l n - 1) 0 ≠ 0
  | 0 => .inl rfl
  | n + 1 => by
    unfold tn
    split
    · exact tn_top l n
    · rename_i h; exact .inr (by simpa using h)
structure Is (l : List Int) (v : Int) : Prop where
  ok : Ok l
  norm : Norm l
  val : val l = v
theorem trim_is {l : List Int} (h : Ok l) : Is (trimL l) (val l) := by
  have hle := tn_le l l.length
  have hlen : (l.take (tn l l.length)).length = tn l l.length := by simp; omega
  refine ⟨h.take _, ?_, (val_zero_tail l _ hle fun j h1 h2 => tn_zero l l.length j h1 h2).symm⟩
  unfold trimL Norm
  rw [hlen]
  rcases tn_top l l.length with h0 | h0
  · left; rw [h0]; rfl
  · by_cases hz : tn l l.length = 0
    · left; rw [hz]; rfl
    · right
      rw [List.getD_eq_getElem?_getD, List.getElem?_take, if_pos (by omega), ← List.getD_eq_getElem?_getD]; exact h0
theorem Is.inj {a b : List Int} {v : Int} (ha : Is a v) (hb : Is b v) : a = b := norm_inj ha.ok ha.norm hb.ok hb.norm (ha.val.trans hb.val.symm)
theorem Is.nonneg {a : List Int} {v : Int} (ha : Is a v) : 0 ≤ v := by rw [← ha.val]; exact (val_bound ha.ok).1
theorem Is.nil_iff {a : List Int} {v : Int} (ha : Is a v) : a = [] ↔ v = 0 := by
  constructor
  · intro h; rw [← ha.val, h]; rfl
  · intro h
    refine Classical.byContradiction fun hne => ?_
    have := ha.norm.low ha.ok hne
    have := P_pos (a.length - 1)
    rw [ha.val] at *
    omega
theorem Is.nil : Is [] 0 := ⟨Ok.nil, .inl rfl, rfl⟩
end Limb
namespace Go.Abs.Z
open Go Go.Abs Go.Proofs
noncomputable abbrev TP : Program := Try.prog
abbrev TI : Type := List Int
abbrev TTk : Type := Int × ByteArray × Int × Bool × (List Int) × List Int
abbrev TRt : Type := Bool × (List Int) × List Int
abbrev TOp : Type := Int × Int × Int × Int × Bool × (List Int) × List Int
abbrev TNd : Type := Int × ByteArray × Bool × (List Int) × (List Int) × Int × List Int
abbrev TFn : Type := ByteArray × (List ByteArray) × Int
abbrev TLt : Type := ByteArray × Int
abbrev TIo : Type := Int × Int × (List Int) × List Int
abbrev TIx : Type := Int × List Int
abbrev TMd : Type := (List ByteArray) × (List TFn) × (List TLt) × (List Int) × List TNd
def U : Nat → Type
  | 3 => Int
  | 4 => Bool
  | 5 => Int
  | 9 => ByteArray
  | 22 => List (ByteArray)
  | 25 => List (Int)
  | 28 => (List (ByteArray)) × (List ((ByteArray) × (List (ByteArray)) × Int)) × (List ((ByteArray) × Int)) × (List (Int)) × List ((Int) × (ByteArray) × (Bool) × (List (Int)) × (List (Int)) × (Int) × List (Int))
  | 33 => List (List ((Bool) × (List (Int)) × List (Int)))
  | 61 => (ByteArray) × (List (ByteArray)) × Int
  | 63 => (ByteArray) × Int
  | 66 => List (Int)
  | 69 => (Bool) × (List (Int)) × List (Int)
  | 71 => (Int) × (ByteArray) × (Bool) × (List (Int)) × (List (Int)) × (Int) × List (Int)
  | 80 => List (Int)
  | 82 => List ((Bool) × (List (Int)) × List (Int))
  | 90 => (Int) × (ByteArray) × (Int) × (Bool) × (List (Int)) × List (Int)
  | 95 => (Int) × (ByteArray) × (Int) × (Bool) × (List (Int)) × List (Int)
  | 105 => Int
  | 106 => Int
  | 109 => List ((Int) × List (Int))
  | 113 => List ((Int) × (Int) × (Int) × (Int) × (Bool) × (List (Int)) × List (Int))
  | 116 => List ((Int) × (Int) × (List (Int)) × List (Int))
  | 119 => (Int) × (Int) × (List (Int)) × List (Int)
  | 142 => (Int) × List (Int)
  | 146 => (Int) × (Int) × (Int) × (Int) × (Bool) × (List (Int)) × List (Int)
  | _ => Unit
def enc : ∀ e, U e → AV U
  | 3 => fun y => .int .i64 y
  | 4 => fun y => .bool y
  | 5 => fun y => .int .u8 y
  | 9 => fun y => .str y
  | 22 => fun y => .imm 9 y
  | 25 => fun y => .imm 3 y
  | 28 => fun y => .agg [.imm 9 y.1, .imm 61 y.2.1, .imm 63 y.2.2.1, .imm 3 y.2.2.2.1, .imm 71 y.2.2.2.2]
  | 33 => fun y => .imm 82 y
  | 61 => fun y => .agg [.str y.1, .imm 9 y.2.1, .int .i64 y.2.2]
  | 63 => fun y => .agg [.str y.1, .int .i64 y.2]
  | 66 => fun y => .imm 105 y
  | 69 => fun y => .agg [.bool y.1, .imm 105 y.2.1, .imm 105 y.2.2]
  | 71 => fun y => .agg [.int .i64 y.1, .str y.2.1, .bool y.2.2.1, .imm 105 y.2.2.2.1, .imm 105 y.2.2.2.2.1, .int .i64 y.2.2.2.2.2.1, .imm 3 y.2.2.2.2.2.2]
  | 80 => fun y => .imm 106 y
  | 82 => fun y => .imm 69 y
  | 90 => fun y => .agg [.int .i64 y.1, .str y.2.1, .int .i64 y.2.2.1, .bool y.2.2.2.1, .imm 105 y.2.2.2.2.1, .imm 105 y.2.2.2.2.2]
  | 95 => fun y => .agg [.int .i64 y.1, .str y.2.1, .int .i64 y.2.2.1, .bool y.2.2.2.1, .imm 105 y.2.2.2.2.1, .imm 105 y.2.2.2.2.2]
  | 105 => fun y => .int .u32 y
  | 106 => fun y => .int .u64 y
  | 109 => fun y => .imm 142 y
  | 113 => fun y => .imm 146 y
  | 116 => fun y => .imm 119 y
  | 119 => fun y => .agg [.int .i64 y.1, .int .i64 y.2.1, .imm 3 y.2.2.1, .imm 3 y.2.2.2]
  | 142 => fun y => .agg [.int .i64 y.1, .imm 106 y.2]
  | 146 => fun y => .agg [.int .i64 y.1, .int .i64 y.2.1, .int .i64 y.2.2.1, .int .i64 y.2.2.2.1, .bool y.2.2.2.2.1, .imm 105 y.2.2.2.2.2.1, .imm 105 y.2.2.2.2.2.2]
  | _ => fun _ => .bool false
def dec : ∀ e, AV U → Option (U e)
  | 3 => fun v => match v with | .int .i64 x0 => some x0 | _ => none
  | 4 => fun v => match v with | .bool x0 => some x0 | _ => none
  | 5 => fun v => match v with | .int .u8 x0 => some x0 | _ => none
  | 9 => fun v => match v with | .str x0 => some x0 | _ => none
  | 22 => fun v => match v with | .imm 9 x0 => some x0 | _ => none
  | 25 => fun v => match v with | .imm 3 x0 => some x0 | _ => none
  | 28 => fun v => match v with | .agg [.imm 9 x0, .imm 61 x1, .imm 63 x2, .imm 3 x3, .imm 71 x4] => some (x0, x1, x2, x3, x4) | _ => none
  | 33 => fun v => match v with | .imm 82 x0 => some x0 | _ => none
  | 61 => fun v => match v with | .agg [.str x0, .imm 9 x1, .int .i64 x2] => some (x0, x1, x2) | _ => none
  | 63 => fun v => match v with | .agg [.str x0, .int .i64 x1] => some (x0, x1) | _ => none
  | 66 => fun v => match v with | .imm 105 x0 => some x0 | _ => none
  | 69 => fun v => match v with | .agg [.bool x0, .imm 105 x1, .imm 105 x2] => some (x0, x1, x2) | _ => none
  | 71 => fun v => match v with | .agg [.int .i64 x0, .str x1, .bool x2, .imm 105 x3, .imm 105 x4, .int .i64 x5, .imm 3 x6] => some (x0, x1, x2, x3, x4, x5, x6) | _ => none
  | 80 => fun v => match v with | .imm 106 x0 => some x0 | _ => none
  | 82 => fun v => match v with | .imm 69 x0 => some x0 | _ => none
  | 90 => fun v => match v with | .agg [.int .i64 x0, .str x1, .int .i64 x2, .bool x3, .imm 105 x4, .imm 105 x5] => some (x0, x1, x2, x3, x4, x5) | _ => none
  | 95 => fun v => match v with | .agg [.int .i64 x0, .str x1, .int .i64 x2, .bool x3, .imm 105 x4, .imm 105 x5] => some (x0, x1, x2, x3, x4, x5) | _ => none
  | 105 => fun v => match v with | .int .u32 x0 => some x0 | _ => none
  | 106 => fun v => match v with | .int .u64 x0 => some x0 | _ => none
  | 109 => fun v => match v with | .imm 142 x0 => some x0 | _ => none
  | 113 => fun v => match v with | .imm 146 x0 => some x0 | _ => none
  | 116 => fun v => match v with | .imm 119 x0 => some x0 | _ => none
  | 119 => fun v => match v with | .agg [.int .i64 x0, .int .i64 x1, .imm 3 x2, .imm 3 x3] => some (x0, x1, x2, x3) | _ => none
  | 142 => fun v => match v with | .agg [.int .i64 x0, .imm 106 x1] => some (x0, x1) | _ => none
  | 146 => fun v => match v with | .agg [.int .i64 x0, .int .i64 x1, .int .i64 x2, .int .i64 x3, .bool x4, .imm 105 x5, .imm 105 x6] => some (x0, x1, x2, x3, x4, x5, x6) | _ => none
  | _ => fun _ => none
def dflt : ∀ e, U e
  | 3 => (0 : Int)
  | 4 => (false : Bool)
  | 5 => (0 : Int)
  | 9 => ByteArray.empty
  | 22 => []
  | 25 => []
  | 28 => ([], [], [], [], [])
  | 33 => []
  | 61 => (ByteArray.empty, [], (0 : Int))
  | 63 => (ByteArray.empty, (0 : Int))
  | 66 => []
  | 69 => ((false : Bool), [], [])
  | 71 => ((0 : Int), ByteArray.empty, (false : Bool), [], [], (0 : Int), [])
  | 80 => []
  | 82 => []
  | 90 => ((0 : Int), ByteArray.empty, (0 : Int), (false : Bool), [], [])
  | 95 => ((0 : Int), ByteArray.empty, (0 : Int), (false : Bool), [], [])
  | 105 => (0 : Int)
  | 106 => (0 : Int)
  | 109 => []
  | 113 => []
  | 116 => []
  | 119 => ((0 : Int), (0 : Int), [], [])
  | 142 => ((0 : Int), [])
  | 146 => ((0 : Int), (0 : Int), (0 : Int), (0 : Int), (false : Bool), [], [])
  | e => by unfold U; split <;> exact default
def z : Nat → Nat
  | 3 => 1
  | 4 => 1
  | 5 => 1
  | 9 => 1
  | 22 => 1
  | 25 => 1
  | 28 => 5
  | 33 => 1
  | 61 => 3
  | 63 => 2
  | 66 => 1
  | 69 => 3
  | 71 => 7
  | 80 => 1
  | 82 => 1
  | 90 => 6
  | 95 => 6
  | 105 => 1
  | 106 => 1
  | 109 => 1
  | 113 => 1
  | 116 => 1
  | 119 => 4
  | 142 => 2
  | 146 => 7
  | _ => 1
def flat : Nat → Bool
  | 3 => true
  | 4 => true
  | 5 => true
  | 9 => true
  | 63 => true
  | 105 => true
  | 106 => true
  | _ => false
def glob : Nat → AV U
  | _ => .undef
def X : Univ U := ⟨enc, dec, dflt, z, flat, glob, fun _ => none⟩
theorem law1 (e : Nat) (v : AV U) (y : U e) (h : dec e v = some y) : enc e y = v := by
  unfold dec at h
  split at h
  all_goals first
    | (dsimp only at h; split at h; (injection h with h; subst h; rfl); (cases h; done))
    | (cases h; done)
theorem law2 (e : Nat) (y : U e) : (cellsOf (enc e y)).length = z e := by
  unfold enc z
  split <;> rfl
theorem law3 (e : Nat) (y : U e) : (cellsOf (enc e y)).all okCell = true := by
  unfold enc
  split <;> rfl
theorem law4 (e : Nat) (y : U e) : (cellsOf (enc e y)).all (free 8) = true := by
  unfold enc
  split <;> rfl
theorem law5 (e : Nat) : 0 < z e := by
  unfold z
  split <;> decide
theorem law6 (e : Nat) (h : flat e = true) (y : U e) : (cellsOf (enc e y)).all okFlat = true := by
  unfold flat at h
  split at h <;> first
    | (cases h; done)
    | rfl
theorem law7 (g : Nat) : free 8 (glob g) = true := by
  unfold glob
  split <;> rfl
theorem good : Good X := ⟨⟨law1, law2⟩, law3, ⟨law4, law7⟩, law5, law6⟩
theorem mixed : Go.Proofs.Try.prog.follows .mixedOrders = true := by kernel_rfl
end Go.Abs.Z
namespace Go.Abs.Z
open Go Go.Abs Go.Proofs
noncomputable section
abbrev R113 : Type := TI
noncomputable def body113 : Go.Code := (Try.f113.body).getD Go.Code.skip
def h113 (p0 : TI) : List (AO U) := []
def k113 : AV U → List (AO U) → Option R113 := fun v h => match v, h with | AV.imm 105 x0, [] => some x0 | _, _ => none
def out113 : R113 → AV U := fun x0 => AV.imm 105 x0
def outh113 : R113 → List (AO U) := fun x0 => []
def D113 : Nat → Dir := dirs [(2, ⟨[0, 3], [], [], []⟩)]
def b113 (p0 : TI) (c2 : (Int) → Option R113)  : Option R113 :=
  c2 ((↑p0.length : Int))
def m113_2 (p0 : TI) (v1 : Int) : S U := S.mk [AV.imm 105 p0, AV.undef, AV.undef, AV.int IntKind.i64 v1, AV.undef, AV.undef, AV.undef, AV.undef, AV.undef, AV.undef, AV.undef, AV.undef, AV.undef, AV.undef, AV.undef, AV.undef, AV.undef, AV.undef, AV.undef, AV.undef, AV.undef] []
def b113_2 (p0 : TI) (c2 : (Int) → Option R113) (v1 : Int) : Option R113 :=
  cond (decide (v1 > 0))
  (cond (decide (0 ≤ IntKind.i64.wrap (v1 - 1)))
  (cond (decide (IntKind.i64.wrap (v1 - 1) < (↑p0.length : Int)))
  (cond (decide ((IntKind.i64.wrap (v1 - 1)).toNat < p0.length))
  (cond (p0.getD (IntKind.i64.wrap (v1 - 1)).toNat (X.dflt 105) == 0)
  (c2 (IntKind.i64.wrap (v1 - 1)))
  (cond (decide (0 ≤ v1))
  (cond (decide (v1 ≤ (↑p0.length : Int)))
  (some (List.take v1.toNat p0))
  (none))
  (none)))
  (none))
  (none))
  (none))
  (cond (decide (0 ≤ v1))
  (cond (decide (v1 ≤ (↑p0.length : Int)))
  (some (List.take v1.toNat p0))
  (none))
  (none))
theorem hk113 : ∀ v h' r, k113 v h' = some r → v = out113 r ∧ h' = outh113 r := by
  intro v h' r h
  unfold k113 at h
  split at h
  · injection h with h; subst h; exact ⟨rfl, rfl⟩
  · cases h
abbrev q113 : Prim U R113 := prims X []
theorem s113 (c : Nat → S U → Option R113) (p0 : TI) : seg TP X q113 [2] (fun q st => c q (keepD D113 (h113 p0).length q st)) body113 (finH TP Try.f113.results.toList (h113 p0).length false k113) (start [.imm 105 p0] Try.f113.ntmps (h113 p0)) = b113 p0 (fun v1 => c 2 (m113_2 p0 v1)) := by kernel_rfl
theorem s113_2 (c : Nat → S U → Option R113) (p0 : TI) (v1 : Int) : res TP X q113 [2] (fun q st => c q (keepD D113 (h113 p0).length q st)) 2 body113 (finH TP Try.f113.results.toList (h113 p0).length false k113) (m113_2 p0 v1) = b113_2 p0 (fun v1 => c 2 (m113_2 p0 v1)) v1 := by kernel_rfl
def f113_2 (p0 : TI) : Nat → Int → Option R113
  | 0 => fun _ => none
  | k + 1 => b113_2 p0 (f113_2 p0 k)
def f113 (k : Nat) (p0 : TI) : Option R113 := b113 p0 (f113_2 p0 k)
theorem e113 (p0 : TI) : ∀ k, ((fun v1 => cutG TP X q113 [2] D113 (h113 p0).length body113 (finH TP Try.f113.results.toList (h113 p0).length false k113) k 2 (m113_2 p0 v1)) = f113_2 p0 k)
  | 0 => rfl
  | k + 1 => by
    have ih := e113 p0 k
    · funext v1
      refine (if_pos (by kernel_rfl)).trans ?_
      rw [s113_2]
      simp only [ih]
      rfl
theorem pure113 (p0 : TI) (pok : PrmOK TP X q113) (k : Nat) (r : R113) (h : f113 k p0 = some r) : PureH TP X 113 [.imm 105 p0] (h113 p0) (out113 r) (outh113 r) :=
  pure_gen good k (fn := Try.f113) (body := body113) (prim := q113) (D := D113) (cuts := [2]) (h := h113 p0) (own := false) (by kernel_rfl) (by kernel_rfl) (by decide +kernel) pok hk113 (by
    rw [s113]
    have ih := e113 p0 k
    simp only [ih]
    exact h)
def F113 {R : Type} (spec : TI → Option R113) : Fn U R := fun args h k => match args, h with | [.imm 105 p0], [] => (spec p0).bind fun r => k (out113 r) (outh113 r) | _, _ => none
theorem ok113 {R : Type} (spec : TI → Option R113) (hp : ∀ (p0 : TI) (r : R113), spec p0 = some r → PureH TP X 113 [.imm 105 p0] (h113 p0) (out113 r) (outh113 r)) : FnOK TP X 113 (F113 spec : Fn U R) := by
  intro args h k r hh
  unfold F113 at hh
  split at hh
  · obtain ⟨x, h1, h2⟩ := Option.bind_eq_some_iff.1 hh
    exact ⟨_, _, h2, hp _ _ h1⟩
  · cases hh
theorem pok113 : PrmOK TP X q113 := prims_nil TP X mixed
noncomputable def S113 (p0 : TI) : Option R113 := evv fun k => f113 k p0
theorem okS113 {R : Type} : FnOK TP X 113 (F113 S113 : Fn U R) := ok113 S113 fun p0 r h => by
  obtain ⟨k, hk⟩ := evv_fuel h
  exact pure113 p0 pok113 k r hk
abbrev R113h : Type := TI
noncomputable def body113h : Go.Code := (Try.f113.body).getD Go.Code.skip
def h113h (p0 : TI) : List (AO U) := [.row 105 p0]
def k113h : AV U → List (AO U) → Option R113h := fun v h => match v, h with | AV.row 1 105, [AO.dead, AO.row 105 x0] => some x0 | _, _ => none
def out113h : R113h → AV U := fun x0 => AV.row 1 105
def outh113h : R113h → List (AO U) := fun x0 => [AO.dead, AO.row 105 x0]
def D113h : Nat → Dir := dirs [(2, ⟨[0, 3], [], [], []⟩)]
def b113h (p0 : TI) (c2 : (Int) → Option R113h)  : Option R113h :=
  c2 ((↑p0.length : Int))
def m113h_2 (p0 : TI) (v0 : Int) : S U := S.mk [AV.row 0 105, AV.undef, AV.undef, AV.int IntKind.i64 v0, AV.undef, AV.undef, AV.undef, AV.undef, AV.undef, AV.undef, AV.undef, AV.undef, AV.undef, AV.undef, AV.undef, AV.undef, AV.undef, AV.undef, AV.undef, AV.undef, AV.undef] [AO.row 105 p0]
def b113h_2 (p0 : TI) (c2 : (Int) → Option R113h) (v0 : Int) : Option R113h :=
  cond (decide (v0 > 0))
  (cond (decide (0 ≤ IntKind.i64.wrap (v0 - 1)))
  (cond (decide (IntKind.i64.wrap (v0 - 1) < (↑p0.length : Int)))
  (cond (decide ((IntKind.i64.wrap (v0 - 1)).toNat < p0.length))
  (cond (p0.getD (IntKind.i64.wrap (v0 - 1)).toNat (X.dflt 105) == 0)
  (c2 (IntKind.i64.wrap (v0 - 1)))
  (cond (decide (0 ≤ v0))
  (cond (decide (v0 ≤ (↑p0.length : Int)))
  (some (List.take (v0.toNat - 0) p0))
  (none))
  (none)))
  (none))
  (none))
  (none))
  (cond (decide (0 ≤ v0))
  (cond (decide (v0 ≤ (↑p0.length : Int)))
  (some (List.take (v0.toNat - 0) p0))
  (none))
  (none))
theorem hk113h : ∀ v h' r, k113h v h' = some r → v = out113h r ∧ h' = outh113h r := by
  intro v h' r h
  unfold k113h at h
  split at h
  · injection h with h; subst h; exact ⟨rfl, rfl⟩
  · cases h
abbrev q113h : Prim U R113h := prims X []
theorem s113h (c : Nat → S U → Option R113h) (p0 : TI) : seg TP X q113h [2] (fun q st => c q (keepD D113h (h113h p0).length q st)) body113h (finH TP Try.f113.results.toList (h113h p0).length true k113h) (start [.row 0 105] Try.f113.ntmps (h113h p0)) = b113h p0 (fun v0 => c 2 (m113h_2 p0 v0)) := by kernel_rfl
theorem s113h_2 (c : Nat → S U → Option R113h) (p0 : TI) (v0 : Int) : res TP X q113h [2] (fun q st => c q (keepD D113h (h113h p0).length q st)) 2 body113h (finH TP Try.f113.results.toList (h113h p0).length true k113h) (m113h_2 p0 v0) = b113h_2 p0 (fun v0 => c 2 (m113h_2 p0 v0)) v0 := by kernel_rfl
def f113h_2 (p0 : TI) : Nat → Int → Option R113h
  | 0 => fun _ => none
  | k + 1 => b113h_2 p0 (f113h_2 p0 k)
def f113h (k : Nat) (p0 : TI) : Option R113h := b113h p0 (f113h_2 p0 k)
theorem e113h (p0 : TI) : ∀ k, ((fun v0 => cutG TP X q113h [2] D113h (h113h p0).length body113h (finH TP Try.f113.results.toList (h113h p0).length true k113h) k 2 (m113h_2 p0 v0)) = f113h_2 p0 k)
  | 0 => rfl
  | k + 1 => by
    have ih := e113h p0 k
    · funext v0
      refine (if_pos (by kernel_rfl)).trans ?_
      rw [s113h_2]
      simp only [ih]
      rfl
theorem pure113h (p0 : TI) (pok : PrmOK TP X q113h) (k : Nat) (r : R113h) (h : f113h k p0 = some r) : PureH TP X 113 [.row 0 105] (h113h p0) (out113h r) (outh113h r) :=
  pure_gen good k (fn := Try.f113) (body := body113h) (prim := q113h) (D := D113h) (cuts := [2]) (h := h113h p0) (own := true) (by kernel_rfl) (by kernel_rfl) (by decide +kernel) pok hk113h (by
    rw [s113h]
    have ih := e113h p0 k
    simp only [ih]
    exact h)
def F113h {R : Type} (spec : TI → Option R113h) : Fn U R := fun args h k => match args, h with | [.row 0 105], [.row 105 p0] => (spec p0).bind fun r => k (out113h r) (outh113h r) | _, _ => none
theorem ok113h {R : Type} (spec : TI → Option R113h) (hp : ∀ (p0 : TI) (r : R113h), spec p0 = some r → PureH TP X 113 [.row 0 105] (h113h p0) (out113h r) (outh113h r)) : FnOK TP X 113 (F113h spec : Fn U R) := by
  intro args h k r hh
  unfold F113h at hh
  split at hh
  · obtain ⟨x, h1, h2⟩ := Option.bind_eq_some_iff.1 hh
    exact ⟨_, _, h2, hp _ _ h1⟩
  · cases hh
theorem pok113h : PrmOK TP X q113h := prims_nil TP X mixed
noncomputable def S113h (p0 : TI) : Option R113h := evv fun k => f113h k p0
theorem okS113h {R : Type} : FnOK TP X 113 (F113h S113h : Fn U R) := ok113h S113h fun p0 r h => by
  obtain ⟨k, hk⟩ := evv_fuel h
  exact pure113h p0 pok113h k r hk
abbrev R90 : Type := (Int)
noncomputable def body90 : Go.Code := (Try.f90.body).getD Go.Code.skip
def h90 (p0 p1 : TI) : List (AO U) := []
def k90 : AV U → List (AO U) → Option R90 := fun v h => match v, h with | AV.int IntKind.i64 x0, [] => some x0 | _, _ => none
def out90 : R90 → AV U := fun x0 => AV.int IntKind.i64 x0
def outh90 : R90 → List (AO U) := fun x0 => []
def D90 : Nat → Dir := dirs [(6, ⟨[0, 1, 5], [], [], []⟩)]
def b90 (p0 p1 : TI) (c6 : (Int) → Option R90)  : Option R90 :=
  cond (decide ((↑p0.length : Int) < (↑p1.length : Int)))
  (some (-1))
  (cond (decide ((↑p0.length : Int) > (↑p1.length : Int)))
  (some (1))
  (c6 (IntKind.i64.wrap ((↑p0.length : Int) - 1))))
def m90_6 (p0 p1 : TI) (v2 : Int) : S U := S.mk [AV.imm 105 p0, AV.imm 105 p1, AV.undef, AV.undef, AV.undef, AV.int IntKind.i64 v2, AV.undef, AV.undef, AV.undef, AV.undef, AV.undef, AV.undef, AV.undef, AV.undef, AV.undef, AV.undef, AV.undef, AV.undef, AV.undef, AV.undef, AV.undef, AV.undef, AV.undef, AV.undef, AV.undef, AV.undef, AV.undef, AV.undef, AV.undef, AV.undef, AV.undef, AV.undef, AV.undef, AV.undef, AV.undef, AV.undef, AV.undef, AV.undef, AV.undef, AV.undef, AV.undef, AV.undef, AV.undef, AV.undef, AV.undef] []
def b90_6 (p0 p1 : TI) (c6 : (Int) → Option R90) (v2 : Int) : Option R90 :=
  cond (decide (v2 ≥ 0))
  (cond (decide (0 ≤ v2))
  (cond (decide (v2 < (↑p0.length : Int)))
  (cond (decide (v2.toNat < p0.length))
  (cond (decide (0 ≤ v2))
  (cond (decide (v2 < (↑p1.length : Int)))
  (cond (decide (v2.toNat < p1.length))
  (cond (decide (p0.getD v2.toNat (X.dflt 105) < p1.getD v2.toNat (X.dflt 105)))
  (some (-1))
  (cond (decide (0 ≤ v2))
  (cond (decide (v2 < (↑p0.length : Int)))
  (cond (decide (v2.toNat < p0.length))
  (cond (decide (0 ≤ v2))
  (cond (decide (v2 < (↑p1.length : Int)))
  (cond (decide (v2.toNat < p1.length))
  (cond (decide (p0.getD v2.toNat (X.dflt 105) > p1.getD v2.toNat (X.dflt 105)))
  (some (1))
  (c6 (IntKind.i64.wrap (v2 - 1))))
  (none))
  (none))
  (none))
  (none))
  (none))
  (none)))
  (none))
  (none))
  (none))
  (none))
  (none))
  (none))
  (some (0))
theorem hk90 : ∀ v h' r, k90 v h' = some r → v = out90 r ∧ h' = outh90 r := by
  intro v h' r h
  unfold k90 at h
  split at h
  · injection h with h; subst h; exact ⟨rfl, rfl⟩
  · cases h
abbrev q90 : Prim U R90 := prims X []
theorem s90 (c : Nat → S U → Option R90) (p0 p1 : TI) : seg TP X q90 [6] (fun q st => c q (keepD D90 (h90 p0 p1).length q st)) body90 (finH TP Try.f90.results.toList (h90 p0 p1).length false k90) (start [.imm 105 p0, .imm 105 p1] Try.f90.ntmps (h90 p0 p1)) = b90 p0 p1 (fun v2 => c 6 (m90_6 p0 p1 v2)) := by kernel_rfl
theorem s90_6 (c : Nat → S U → Option R90) (p0 p1 : TI) (v2 : Int) : res TP X q90 [6] (fun q st => c q (keepD D90 (h90 p0 p1).length q st)) 6 body90 (finH TP Try.f90.results.toList (h90 p0 p1).length false k90) (m90_6 p0 p1 v2) = b90_6 p0 p1 (fun v2 => c 6 (m90_6 p0 p1 v2)) v2 := by kernel_rfl
def f90_6 (p0 p1 : TI) : Nat → Int → Option R90
  | 0 => fun _ => none
  | k + 1 => b90_6 p0 p1 (f90_6 p0 p1 k)
def f90 (k : Nat) (p0 p1 : TI) : Option R90 := b90 p0 p1 (f90_6 p0 p1 k)
theorem e90 (p0 p1 : TI) : ∀ k, ((fun v2 => cutG TP X q90 [6] D90 (h90 p0 p1).length body90 (finH TP Try.f90.results.toList (h90 p0 p1).length false k90) k 6 (m90_6 p0 p1 v2)) = f90_6 p0 p1 k)
  | 0 => rfl
  | k + 1 => by
    have ih := e90 p0 p1 k
    · funext v2
      refine (if_pos (by kernel_rfl)).trans ?_
      rw [s90_6]
      simp only [ih]
      rfl
theorem pure90 (p0 p1 : TI) (pok : PrmOK TP X q90) (k : Nat) (r : R90) (h : f90 k p0 p1 = some r) : PureH TP X 90 [.imm 105 p0, .imm 105 p1] (h90 p0 p1) (out90 r) (outh90 r) :=
  pure_gen good k (fn := Try.f90) (body := body90) (prim := q90) (D := D90) (cuts := [6]) (h := h90 p0 p1) (own := false) (by kernel_rfl) (by kernel_rfl) (by decide +kernel) pok hk90 (by
    rw [s90]
    have ih := e90 p0 p1 k
    simp only [ih]
    exact h)
def F90 {R : Type} (spec : TI → TI → Option R90) : Fn U R := fun args h k => match args, h with | [.imm 105 p0, .imm 105 p1], [] => (spec p0 p1).bind fun r => k (out90 r) (outh90 r) | _, _ => none
theorem ok90 {R : Type} (spec : TI → TI → Option R90) (hp : ∀ (p0 : TI) (p1 : TI) (r : R90), spec p0 p1 = some r → PureH TP X 90 [.imm 105 p0, .imm 105 p1] (h90 p0 p1) (out90 r) (outh90 r)) : FnOK TP X 90 (F90 spec : Fn U R) := by
  intro args h k r hh
  unfold F90 at hh
  split at hh
  · obtain ⟨x, h1, h2⟩ := Option.bind_eq_some_iff.1 hh
    exact ⟨_, _, h2, hp _ _ _ h1⟩
  · cases hh
theorem pok90 : PrmOK TP X q90 := prims_nil TP X mixed
noncomputable def S90 (p0 p1 : TI) : Option R90 := evv fun k => f90 k p0 p1
theorem okS90 {R : Type} : FnOK TP X 90 (F90 S90 : Fn U R) := ok90 S90 fun p0 p1 r h => by
  obtain ⟨k, hk⟩ := evv_fuel h
  exact pure90 p0 p1 pok90 k r hk
abbrev R94 : Type := (Int)
noncomputable def body94 : Go.Code := (Try.f94.body).getD Go.Code.skip
def h94 (p0 : TI) : List (AO U) := []
def k94 : AV U → List (AO U) → Option R94 := fun v h => match v, h with | AV.int IntKind.u64 x0, [] => some x0 | _, _ => none
def out94 : R94 → AV U := fun x0 => AV.int IntKind.u64 x0
def outh94 : R94 → List (AO U) := fun x0 => []
def D94 : Nat → Dir := dirs [(3, ⟨[0, 3, 4], [], [], []⟩)]
def b94 (p0 : TI) (c3 : (Int) → Int → Option R94)  : Option R94 :=
  c3 (0) (IntKind.i64.wrap ((↑p0.length : Int) - 1))
def m94_3 (p0 : TI) (v1 v2 : Int) : S U := S.mk [AV.imm 105 p0, AV.undef, AV.undef, AV.int IntKind.u64 v1, AV.int IntKind.i64 v2, AV.undef, AV.undef, AV.undef, AV.undef, AV.undef, AV.undef, AV.undef, AV.undef, AV.undef, AV.undef, AV.undef, AV.undef, AV.undef, AV.undef, AV.undef, AV.undef] []
def b94_3 (p0 : TI) (c3 : (Int) → Int → Option R94) (v1 v2 : Int) : Option R94 :=
  cond (decide (v2 ≥ 0))
  (cond (decide (0 ≤ v2))
  (cond (decide (v2 < (↑p0.length : Int)))
  (cond (decide (v2.toNat < p0.length))
  (c3 (Go.bits Go.BinOp.or IntKind.u64 (shl IntKind.u64 v1 32) (IntKind.u64.wrap (p0.getD v2.toNat (X.dflt 105)))) (IntKind.i64.wrap (v2 - 1)))
  (none))
  (none))
  (none))
  (some (v1))
theorem hk94 : ∀ v h' r, k94 v h' = some r → v = out94 r ∧ h' = outh94 r := by
  intro v h' r h
  unfold k94 at h
  split at h
  · injection h with h; subst h; exact ⟨rfl, rfl⟩
  · cases h
abbrev q94 : Prim U R94 := prims X []
theorem s94 (c : Nat → S U → Option R94) (p0 : TI) : seg TP X q94 [3] (fun q st => c q (keepD D94 (h94 p0).length q st)) body94 (finH TP Try.f94.results.toList (h94 p0).length false k94) (start [.imm 105 p0] Try.f94.ntmps (h94 p0)) = b94 p0 (fun v1 v2 => c 3 (m94_3 p0 v1 v2)) := by kernel_rfl
theorem s94_3 (c : Nat → S U → Option R94) (p0 : TI) (v1 v2 : Int) : res TP X q94 [3] (fun q st => c q (keepD D94 (h94 p0).length q st)) 3 body94 (finH TP Try.f94.results.toList (h94 p0).length false k94) (m94_3 p0 v1 v2) = b94_3 p0 (fun v1 v2 => c 3 (m94_3 p0 v1 v2)) v1 v2 := by kernel_rfl
def f94_3 (p0 : TI) : Nat → Int → (Int) → Option R94
  | 0 => fun _ _ => none
  | k + 1 => b94_3 p0 (f94_3 p0 k)
def f94 (k : Nat) (p0 : TI) : Option R94 := b94 p0 (f94_3 p0 k)
theorem e94 (p0 : TI) : ∀ k, ((fun v1 v2 => cutG TP X q94 [3] D94 (h94 p0).length body94 (finH TP Try.f94.results.toList (h94 p0).length false k94) k 3 (m94_3 p0 v1 v2)) = f94_3 p0 k)
  | 0 => rfl
  | k + 1 => by
    have ih := e94 p0 k
    · funext v1 v2
      refine (if_pos (by kernel_rfl)).trans ?_
      rw [s94_3]
      simp only [ih]
      rfl
theorem pure94 (p0 : TI) (pok : PrmOK TP X q94) (k : Nat) (r : R94) (h : f94 k p0 = some r) : PureH TP X 94 [.imm 105 p0] (h94 p0) (out94 r) (outh94 r) :=
  pure_gen good k (fn := Try.f94) (body := body94) (prim := q94) (D := D94) (cuts := [3]) (h := h94 p0) (own := false) (by kernel_rfl) (by kernel_rfl) (by decide +kernel) pok hk94 (by
    rw [s94]
    have ih := e94 p0 k
    simp only [ih]
    exact h)
def F94 {R : Type} (spec : TI → Option R94) : Fn U R := fun args h k => match args, h with | [.imm 105 p0], [] => (spec p0).bind fun r => k (out94 r) (outh94 r) | _, _ => none
theorem ok94 {R : Type} (spec : TI → Option R94) (hp : ∀ (p0 : TI) (r : R94), spec p0 = some r → PureH TP X 94 [.imm 105 p0] (h94 p0) (out94 r) (outh94 r)) : FnOK TP X 94 (F94 spec : Fn U R) := by
  intro args h k r hh
  unfold F94 at hh
  split at hh
  · obtain ⟨x, h1, h2⟩ := Option.bind_eq_some_iff.1 hh
    exact ⟨_, _, h2, hp _ _ h1⟩
  · cases hh
theorem pok94 : PrmOK TP X q94 := prims_nil TP X mixed
noncomputable def S94 (p0 : TI) : Option R94 := evv fun k => f94 k p0
theorem okS94 {R : Type} : FnOK TP X 94 (F94 S94 : Fn U R) := ok94 S94 fun p0 r h => by
  obtain ⟨k, hk⟩ := evv_fuel h
  exact pure94 p0 pok94 k r hk
abbrev R108 : Type := (Int)
noncomputable def body108 : Go.Code := (Try.f108.body).getD Go.Code.skip
def h108 (p0 : TI) (p1 : Int) : List (AO U) := []
def k108 : AV U → List (AO U) → Option R108 := fun v h => match v, h with | AV.int IntKind.i64 x0, [] => some x0 | _, _ => none
def out108 : R108 → AV U := fun x0 => AV.int IntKind.i64 x0
def outh108 : R108 → List (AO U) := fun x0 => []
def D108 : Nat → Dir := dirs [(3, ⟨[0, 1, 5, 6], [], [], []⟩)]
def b108 (p0 : TI) (p1 : Int) (c3 : (Int) → Int → Option R108)  : Option R108 :=
  c3 (0) (2)
def m108_3 (p0 : TI) (p1 v2 v3 : Int) : S U := S.mk [AV.imm 105 p0, AV.int IntKind.i64 p1, AV.undef, AV.undef, AV.undef, AV.int IntKind.u64 v2, AV.int IntKind.i64 v3, AV.undef, AV.undef, AV.undef, AV.undef, AV.undef, AV.undef, AV.undef, AV.undef, AV.undef, AV.undef, AV.undef, AV.undef, AV.undef, AV.undef, AV.undef, AV.undef, AV.undef, AV.undef, AV.undef, AV.undef, AV.undef, AV.undef, AV.undef, AV.undef, AV.undef, AV.undef, AV.undef, AV.undef, AV.undef, AV.undef, AV.undef, AV.undef, AV.undef, AV.undef, AV.undef, AV.undef, AV.undef, AV.undef, AV.undef, AV.undef, AV.undef, AV.undef, AV.undef, AV.undef] []
def b108_3 (p0 : TI) (p1 : Int) (c3 : (Int) → Int → Option R108) (v2 v3 : Int) : Option R108 :=
  cond (decide (v3 ≥ 0))
  (cond (decide (IntKind.i64.wrap (IntKind.i64.wrap (p1.tdiv 32) + v3) < (↑p0.length : Int)))
  (cond (decide (IntKind.i64.wrap (IntKind.i64.wrap (32 * v3) - p1.tmod 32) ≥ 0))
  (cond (decide (0 ≤ IntKind.i64.wrap (IntKind.i64.wrap (p1.tdiv 32) + v3)))
  (cond (decide (IntKind.i64.wrap (IntKind.i64.wrap (p1.tdiv 32) + v3) < (↑p0.length : Int)))
  (cond (decide ((IntKind.i64.wrap (IntKind.i64.wrap (p1.tdiv 32) + v3)).toNat < p0.length))
  (cond (decide (0 ≤ IntKind.i64.wrap (IntKind.i64.wrap (32 * v3) - p1.tmod 32)))
  (c3 (Go.bits Go.BinOp.or IntKind.u64 v2 (shl IntKind.u64 (IntKind.u64.wrap (p0.getD (IntKind.i64.wrap (IntKind.i64.wrap (p1.tdiv 32) + v3)).toNat (X.dflt 105))) (IntKind.i64.wrap (IntKind.i64.wrap (32 * v3) - p1.tmod 32)))) (IntKind.i64.wrap (v3 - 1)))
  (none))
  (none))
  (none))
  (none))
  (cond (decide (0 ≤ IntKind.i64.wrap (IntKind.i64.wrap (p1.tdiv 32) + v3)))
  (cond (decide (IntKind.i64.wrap (IntKind.i64.wrap (p1.tdiv 32) + v3) < (↑p0.length : Int)))
  (cond (decide ((IntKind.i64.wrap (IntKind.i64.wrap (p1.tdiv 32) + v3)).toNat < p0.length))
  (cond (decide (0 ≤ IntKind.i64.wrap (0 - IntKind.i64.wrap (IntKind.i64.wrap (32 * v3) - p1.tmod 32))))
  (c3 (Go.bits Go.BinOp.or IntKind.u64 v2 (shr IntKind.u64 (IntKind.u64.wrap (p0.getD (IntKind.i64.wrap (IntKind.i64.wrap (p1.tdiv 32) + v3)).toNat (X.dflt 105))) (IntKind.i64.wrap (0 - IntKind.i64.wrap (IntKind.i64.wrap (32 * v3) - p1.tmod 32))))) (IntKind.i64.wrap (v3 - 1)))
  (none))
  (none))
  (none))
  (none)))
  (c3 (v2) (IntKind.i64.wrap (v3 - 1))))
  (some (IntKind.i64.wrap (Go.bits Go.BinOp.and IntKind.u64 v2 4611686018427387903)))
theorem hk108 : ∀ v h' r, k108 v h' = some r → v = out108 r ∧ h' = outh108 r := by
  intro v h' r h
  unfold k108 at h
  split at h
  · injection h with h; subst h; exact ⟨rfl, rfl⟩
  · cases h
abbrev q108 : Prim U R108 := prims X []
theorem s108 (c : Nat → S U → Option R108) (p0 : TI) (p1 : Int) : seg TP X q108 [3] (fun q st => c q (keepD D108 (h108 p0 p1).length q st)) body108 (finH TP Try.f108.results.toList (h108 p0 p1).length false k108) (start [.imm 105 p0, .int .i64 p1] Try.f108.ntmps (h108 p0 p1)) = b108 p0 p1 (fun v2 v3 => c 3 (m108_3 p0 p1 v2 v3)) := by kernel_rfl
theorem s108_3 (c : Nat → S U → Option R108) (p0 : TI) (p1 v2 v3 : Int) : res TP X q108 [3] (fun q st => c q (keepD D108 (h108 p0 p1).length q st)) 3 body108 (finH TP Try.f108.results.toList (h108 p0 p1).length false k108) (m108_3 p0 p1 v2 v3) = b108_3 p0 p1 (fun v2 v3 => c 3 (m108_3 p0 p1 v2 v3)) v2 v3 := by kernel_rfl
def f108_3 (p0 : TI) (p1 : Int) : Nat → Int → (Int) → Option R108
  | 0 => fun _ _ => none
  | k + 1 => b108_3 p0 p1 (f108_3 p0 p1 k)
def f108 (k : Nat) (p0 : TI) (p1 : Int) : Option R108 := b108 p0 p1 (f108_3 p0 p1 k)
theorem e108 (p0 : TI) (p1 : Int) : ∀ k, ((fun v2 v3 => cutG TP X q108 [3] D108 (h108 p0 p1).length body108 (finH TP Try.f108.results.toList (h108 p0 p1).length false k108) k 3 (m108_3 p0 p1 v2 v3)) = f108_3 p0 p1 k)
  | 0 => rfl
  | k + 1 => by
    have ih := e108 p0 p1 k
    · funext v2 v3
      refine (if_pos (by kernel_rfl)).trans ?_
      rw [s108_3]
      simp only [ih]
      rfl
theorem pure108 (p0 : TI) (p1 : Int) (pok : PrmOK TP X q108) (k : Nat) (r : R108) (h : f108 k p0 p1 = some r) : PureH TP X 108 [.imm 105 p0, .int .i64 p1] (h108 p0 p1) (out108 r) (outh108 r) :=
  pure_gen good k (fn := Try.f108) (body := body108) (prim := q108) (D := D108) (cuts := [3]) (h := h108 p0 p1) (own := false) (by kernel_rfl) (by kernel_rfl) (by decide +kernel) pok hk108 (by
    rw [s108]
    have ih := e108 p0 p1 k
    simp only [ih]
    exact h)
def F108 {R : Type} (spec : TI → Int → Option R108) : Fn U R := fun args h k => match args, h with | [.imm 105 p0, .int .i64 p1], [] => (spec p0 p1).bind fun r => k (out108 r) (outh108 r) | _, _ => none
theorem ok108 {R : Type} (spec : TI → Int → Option R108) (hp : ∀ (p0 : TI) (p1 : Int) (r : R108), spec p0 p1 = some r → PureH TP X 108 [.imm 105 p0, .int .i64 p1] (h108 p0 p1) (out108 r) (outh108 r)) : FnOK TP X 108 (F108 spec : Fn U R) := by
  intro args h k r hh
  unfold F108 at hh
  split at hh
  · obtain ⟨x, h1, h2⟩ := Option.bind_eq_some_iff.1 hh
    exact ⟨_, _, h2, hp _ _ _ h1⟩
  · cases hh
theorem pok108 : PrmOK TP X q108 := prims_nil TP X mixed
noncomputable def S108 (p0 : TI) (p1 : Int) : Option R108 := evv fun k => f108 k p0 p1
theorem okS108 {R : Type} : FnOK TP X 108 (F108 S108 : Fn U R) := ok108 S108 fun p0 p1 r h => by
  obtain ⟨k, hk⟩ := evv_fuel h
  exact pure108 p0 p1 pok108 k r hk
abbrev R125 : Type := (Int)
noncomputable def body125 : Go.Code := (Try.f125.body).getD Go.Code.skip
def h125 (p0 : Int) : List (AO U) := []
def k125 : AV U → List (AO U) → Option R125 := fun v h => match v, h with | AV.int IntKind.i64 x0, [] => some x0 | _, _ => none
def out125 : R125 → AV U := fun x0 => AV.int IntKind.i64 x0
def outh125 : R125 → List (AO U) := fun x0 => []
def D125 : Nat → Dir := dirs []
def b125 (p0 : Int)   : Option R125 :=
  cond (decide (p0 ≥ 65536))
  (cond (decide (shr IntKind.u32 p0 16 ≥ 256))
  (cond (decide (0 ≤ IntKind.u8.wrap (shr IntKind.u32 (shr IntKind.u32 p0 16) 8)))
  (cond (decide (IntKind.u8.wrap (shr IntKind.u32 (shr IntKind.u32 p0 16) 8) < (↑(ByteArray.mk (([0, 1, 2, 2, 3, 3, 3, 3, 4, 4, 4, 4, 4, 4, 4, 4, 5, 5, 5, 5, 5, 5, 5, 5, 5, 5, 5, 5, 5, 5, 5, 5, 6, 6, 6, 6, 6, 6, 6, 6, 6, 6, 6, 6, 6, 6, 6, 6, 6, 6, 6, 6, 6, 6, 6, 6, 6, 6, 6, 6, 6, 6, 6, 6].append [7, 7, 7, 7, 7, 7, 7, 7, 7, 7, 7, 7, 7, 7, 7, 7, 7, 7, 7, 7, 7, 7, 7, 7, 7, 7, 7, 7, 7, 7, 7, 7, 7, 7, 7, 7, 7, 7, 7, 7, 7, 7, 7, 7, 7, 7, 7, 7, 7, 7, 7, 7, 7, 7, 7, 7, 7, 7, 7, 7, 7, 7, 7, 7]).append ([8, 8, 8, 8, 8, 8, 8, 8, 8, 8, 8, 8, 8, 8, 8, 8, 8, 8, 8, 8, 8, 8, 8, 8, 8, 8, 8, 8, 8, 8, 8, 8, 8, 8, 8, 8, 8, 8, 8, 8, 8, 8, 8, 8, 8, 8, 8, 8, 8, 8, 8, 8, 8, 8, 8, 8, 8, 8, 8, 8, 8, 8, 8, 8].append [8, 8, 8, 8, 8, 8, 8, 8, 8, 8, 8, 8, 8, 8, 8, 8, 8, 8, 8, 8, 8, 8, 8, 8, 8, 8, 8, 8, 8, 8, 8, 8, 8, 8, 8, 8, 8, 8, 8, 8, 8, 8, 8, 8, 8, 8, 8, 8, 8, 8, 8, 8, 8, 8, 8, 8, 8, 8, 8, 8, 8, 8, 8, 8])).toArray).size : Int)))
  (some (IntKind.i64.wrap (IntKind.i64.wrap (16 + 8) + IntKind.i64.wrap (bt (ByteArray.mk (([0, 1, 2, 2, 3, 3, 3, 3, 4, 4, 4, 4, 4, 4, 4, 4, 5, 5, 5, 5, 5, 5, 5, 5, 5, 5, 5, 5, 5, 5, 5, 5, 6, 6, 6, 6, 6, 6, 6, 6, 6, 6, 6, 6, 6, 6, 6, 6, 6, 6, 6, 6, 6, 6, 6, 6, 6, 6, 6, 6, 6, 6, 6, 6].append [7, 7, 7, 7, 7, 7, 7, 7, 7, 7, 7, 7, 7, 7, 7, 7, 7, 7, 7, 7, 7, 7, 7, 7, 7, 7, 7, 7, 7, 7, 7, 7, 7, 7, 7, 7, 7, 7, 7, 7, 7, 7, 7, 7, 7, 7, 7, 7, 7, 7, 7, 7, 7, 7, 7, 7, 7, 7, 7, 7, 7, 7, 7, 7]).append ([8, 8, 8, 8, 8, 8, 8, 8, 8, 8, 8, 8, 8, 8, 8, 8, 8, 8, 8, 8, 8, 8, 8, 8, 8, 8, 8, 8, 8, 8, 8, 8, 8, 8, 8, 8, 8, 8, 8, 8, 8, 8, 8, 8, 8, 8, 8, 8, 8, 8, 8, 8, 8, 8, 8, 8, 8, 8, 8, 8, 8, 8, 8, 8].append [8, 8, 8, 8, 8, 8, 8, 8, 8, 8, 8, 8, 8, 8, 8, 8, 8, 8, 8, 8, 8, 8, 8, 8, 8, 8, 8, 8, 8, 8, 8, 8, 8, 8, 8, 8, 8, 8, 8, 8, 8, 8, 8, 8, 8, 8, 8, 8, 8, 8, 8, 8, 8, 8, 8, 8, 8, 8, 8, 8, 8, 8, 8, 8])).toArray) (IntKind.u8.wrap (shr IntKind.u32 (shr IntKind.u32 p0 16) 8))))))
  (none))
  (none))
  (cond (decide (0 ≤ IntKind.u8.wrap (shr IntKind.u32 p0 16)))
  (cond (decide (IntKind.u8.wrap (shr IntKind.u32 p0 16) < (↑(ByteArray.mk (([0, 1, 2, 2, 3, 3, 3, 3, 4, 4, 4, 4, 4, 4, 4, 4, 5, 5, 5, 5, 5, 5, 5, 5, 5, 5, 5, 5, 5, 5, 5, 5, 6, 6, 6, 6, 6, 6, 6, 6, 6, 6, 6, 6, 6, 6, 6, 6, 6, 6, 6, 6, 6, 6, 6, 6, 6, 6, 6, 6, 6, 6, 6, 6].append [7, 7, 7, 7, 7, 7, 7, 7, 7, 7, 7, 7, 7, 7, 7, 7, 7, 7, 7, 7, 7, 7, 7, 7, 7, 7, 7, 7, 7, 7, 7, 7, 7, 7, 7, 7, 7, 7, 7, 7, 7, 7, 7, 7, 7, 7, 7, 7, 7, 7, 7, 7, 7, 7, 7, 7, 7, 7, 7, 7, 7, 7, 7, 7]).append ([8, 8, 8, 8, 8, 8, 8, 8, 8, 8, 8, 8, 8, 8, 8, 8, 8, 8, 8, 8, 8, 8, 8, 8, 8, 8, 8, 8, 8, 8, 8, 8, 8, 8, 8, 8, 8, 8, 8, 8, 8, 8, 8, 8, 8, 8, 8, 8, 8, 8, 8, 8, 8, 8, 8, 8, 8, 8, 8, 8, 8, 8, 8, 8].append [8, 8, 8, 8, 8, 8, 8, 8, 8, 8, 8, 8, 8, 8, 8, 8, 8, 8, 8, 8, 8, 8, 8, 8, 8, 8, 8, 8, 8, 8, 8, 8, 8, 8, 8, 8, 8, 8, 8, 8, 8, 8, 8, 8, 8, 8, 8, 8, 8, 8, 8, 8, 8, 8, 8, 8, 8, 8, 8, 8, 8, 8, 8, 8])).toArray).size : Int)))
  (some (IntKind.i64.wrap (16 + IntKind.i64.wrap (bt (ByteArray.mk (([0, 1, 2, 2, 3, 3, 3, 3, 4, 4, 4, 4, 4, 4, 4, 4, 5, 5, 5, 5, 5, 5, 5, 5, 5, 5, 5, 5, 5, 5, 5, 5, 6, 6, 6, 6, 6, 6, 6, 6, 6, 6, 6, 6, 6, 6, 6, 6, 6, 6, 6, 6, 6, 6, 6, 6, 6, 6, 6, 6, 6, 6, 6, 6].append [7, 7, 7, 7, 7, 7, 7, 7, 7, 7, 7, 7, 7, 7, 7, 7, 7, 7, 7, 7, 7, 7, 7, 7, 7, 7, 7, 7, 7, 7, 7, 7, 7, 7, 7, 7, 7, 7, 7, 7, 7, 7, 7, 7, 7, 7, 7, 7, 7, 7, 7, 7, 7, 7, 7, 7, 7, 7, 7, 7, 7, 7, 7, 7]).append ([8, 8, 8, 8, 8, 8, 8, 8, 8, 8, 8, 8, 8, 8, 8, 8, 8, 8, 8, 8, 8, 8, 8, 8, 8, 8, 8, 8, 8, 8, 8, 8, 8, 8, 8, 8, 8, 8, 8, 8, 8, 8, 8, 8, 8, 8, 8, 8, 8, 8, 8, 8, 8, 8, 8, 8, 8, 8, 8, 8, 8, 8, 8, 8].append [8, 8, 8, 8, 8, 8, 8, 8, 8, 8, 8, 8, 8, 8, 8, 8, 8, 8, 8, 8, 8, 8, 8, 8, 8, 8, 8, 8, 8, 8, 8, 8, 8, 8, 8, 8, 8, 8, 8, 8, 8, 8, 8, 8, 8, 8, 8, 8, 8, 8, 8, 8, 8, 8, 8, 8, 8, 8, 8, 8, 8, 8, 8, 8])).toArray) (IntKind.u8.wrap (shr IntKind.u32 p0 16))))))
  (none))
  (none)))
  (cond (decide (p0 ≥ 256))
  (cond (decide (0 ≤ IntKind.u8.wrap (shr IntKind.u32 p0 8)))
  (cond (decide (IntKind.u8.wrap (shr IntKind.u32 p0 8) < (↑(ByteArray.mk (([0, 1, 2, 2, 3, 3, 3, 3, 4, 4, 4, 4, 4, 4, 4, 4, 5, 5, 5, 5, 5, 5, 5, 5, 5, 5, 5, 5, 5, 5, 5, 5, 6, 6, 6, 6, 6, 6, 6, 6, 6, 6, 6, 6, 6, 6, 6, 6, 6, 6, 6, 6, 6, 6, 6, 6, 6, 6, 6, 6, 6, 6, 6, 6].append [7, 7, 7, 7, 7, 7, 7, 7, 7, 7, 7, 7, 7, 7, 7, 7, 7, 7, 7, 7, 7, 7, 7, 7, 7, 7, 7, 7, 7, 7, 7, 7, 7, 7, 7, 7, 7, 7, 7, 7, 7, 7, 7, 7, 7, 7, 7, 7, 7, 7, 7, 7, 7, 7, 7, 7, 7, 7, 7, 7, 7, 7, 7, 7]).append ([8, 8, 8, 8, 8, 8, 8, 8, 8, 8, 8, 8, 8, 8, 8, 8, 8, 8, 8, 8, 8, 8, 8, 8, 8, 8, 8, 8, 8, 8, 8, 8, 8, 8, 8, 8, 8, 8, 8, 8, 8, 8, 8, 8, 8, 8, 8, 8, 8, 8, 8, 8, 8, 8, 8, 8, 8, 8, 8, 8, 8, 8, 8, 8].append [8, 8, 8, 8, 8, 8, 8, 8, 8, 8, 8, 8, 8, 8, 8, 8, 8, 8, 8, 8, 8, 8, 8, 8, 8, 8, 8, 8, 8, 8, 8, 8, 8, 8, 8, 8, 8, 8, 8, 8, 8, 8, 8, 8, 8, 8, 8, 8, 8, 8, 8, 8, 8, 8, 8, 8, 8, 8, 8, 8, 8, 8, 8, 8])).toArray).size : Int)))
  (some (IntKind.i64.wrap (IntKind.i64.wrap (0 + 8) + IntKind.i64.wrap (bt (ByteArray.mk (([0, 1, 2, 2, 3, 3, 3, 3, 4, 4, 4, 4, 4, 4, 4, 4, 5, 5, 5, 5, 5, 5, 5, 5, 5, 5, 5, 5, 5, 5, 5, 5, 6, 6, 6, 6, 6, 6, 6, 6, 6, 6, 6, 6, 6, 6, 6, 6, 6, 6, 6, 6, 6, 6, 6, 6, 6, 6, 6, 6, 6, 6, 6, 6].append [7, 7, 7, 7, 7, 7, 7, 7, 7, 7, 7, 7, 7, 7, 7, 7, 7, 7, 7, 7, 7, 7, 7, 7, 7, 7, 7, 7, 7, 7, 7, 7, 7, 7, 7, 7, 7, 7, 7, 7, 7, 7, 7, 7, 7, 7, 7, 7, 7, 7, 7, 7, 7, 7, 7, 7, 7, 7, 7, 7, 7, 7, 7, 7]).append ([8, 8, 8, 8, 8, 8, 8, 8, 8, 8, 8, 8, 8, 8, 8, 8, 8, 8, 8, 8, 8, 8, 8, 8, 8, 8, 8, 8, 8, 8, 8, 8, 8, 8, 8, 8, 8, 8, 8, 8, 8, 8, 8, 8, 8, 8, 8, 8, 8, 8, 8, 8, 8, 8, 8, 8, 8, 8, 8, 8, 8, 8, 8, 8].append [8, 8, 8, 8, 8, 8, 8, 8, 8, 8, 8, 8, 8, 8, 8, 8, 8, 8, 8, 8, 8, 8, 8, 8, 8, 8, 8, 8, 8, 8, 8, 8, 8, 8, 8, 8, 8, 8, 8, 8, 8, 8, 8, 8, 8, 8, 8, 8, 8, 8, 8, 8, 8, 8, 8, 8, 8, 8, 8, 8, 8, 8, 8, 8])).toArray) (IntKind.u8.wrap (shr IntKind.u32 p0 8))))))
  (none))
  (none))
  (cond (decide (0 ≤ IntKind.u8.wrap p0))
  (cond (decide (IntKind.u8.wrap p0 < (↑(ByteArray.mk (([0, 1, 2, 2, 3, 3, 3, 3, 4, 4, 4, 4, 4, 4, 4, 4, 5, 5, 5, 5, 5, 5, 5, 5, 5, 5, 5, 5, 5, 5, 5, 5, 6, 6, 6, 6, 6, 6, 6, 6, 6, 6, 6, 6, 6, 6, 6, 6, 6, 6, 6, 6, 6, 6, 6, 6, 6, 6, 6, 6, 6, 6, 6, 6].append [7, 7, 7, 7, 7, 7, 7, 7, 7, 7, 7, 7, 7, 7, 7, 7, 7, 7, 7, 7, 7, 7, 7, 7, 7, 7, 7, 7, 7, 7, 7, 7, 7, 7, 7, 7, 7, 7, 7, 7, 7, 7, 7, 7, 7, 7, 7, 7, 7, 7, 7, 7, 7, 7, 7, 7, 7, 7, 7, 7, 7, 7, 7, 7]).append ([8, 8, 8, 8, 8, 8, 8, 8, 8, 8, 8, 8, 8, 8, 8, 8, 8, 8, 8, 8, 8, 8, 8, 8, 8, 8, 8, 8, 8, 8, 8, 8, 8, 8, 8, 8, 8, 8, 8, 8, 8, 8, 8, 8, 8, 8, 8, 8, 8, 8, 8, 8, 8, 8, 8, 8, 8, 8, 8, 8, 8, 8, 8, 8].append [8, 8, 8, 8, 8, 8, 8, 8, 8, 8, 8, 8, 8, 8, 8, 8, 8, 8, 8, 8, 8, 8, 8, 8, 8, 8, 8, 8, 8, 8, 8, 8, 8, 8, 8, 8, 8, 8, 8, 8, 8, 8, 8, 8, 8, 8, 8, 8, 8, 8, 8, 8, 8, 8, 8, 8, 8, 8, 8, 8, 8, 8, 8, 8])).toArray).size : Int)))
  (some (IntKind.i64.wrap (0 + IntKind.i64.wrap (bt (ByteArray.mk (([0, 1, 2, 2, 3, 3, 3, 3, 4, 4, 4, 4, 4, 4, 4, 4, 5, 5, 5, 5, 5, 5, 5, 5, 5, 5, 5, 5, 5, 5, 5, 5, 6, 6, 6, 6, 6, 6, 6, 6, 6, 6, 6, 6, 6, 6, 6, 6, 6, 6, 6, 6, 6, 6, 6, 6, 6, 6, 6, 6, 6, 6, 6, 6].append [7, 7, 7, 7, 7, 7, 7, 7, 7, 7, 7, 7, 7, 7, 7, 7, 7, 7, 7, 7, 7, 7, 7, 7, 7, 7, 7, 7, 7, 7, 7, 7, 7, 7, 7, 7, 7, 7, 7, 7, 7, 7, 7, 7, 7, 7, 7, 7, 7, 7, 7, 7, 7, 7, 7, 7, 7, 7, 7, 7, 7, 7, 7, 7]).append ([8, 8, 8, 8, 8, 8, 8, 8, 8, 8, 8, 8, 8, 8, 8, 8, 8, 8, 8, 8, 8, 8, 8, 8, 8, 8, 8, 8, 8, 8, 8, 8, 8, 8, 8, 8, 8, 8, 8, 8, 8, 8, 8, 8, 8, 8, 8, 8, 8, 8, 8, 8, 8, 8, 8, 8, 8, 8, 8, 8, 8, 8, 8, 8].append [8, 8, 8, 8, 8, 8, 8, 8, 8, 8, 8, 8, 8, 8, 8, 8, 8, 8, 8, 8, 8, 8, 8, 8, 8, 8, 8, 8, 8, 8, 8, 8, 8, 8, 8, 8, 8, 8, 8, 8, 8, 8, 8, 8, 8, 8, 8, 8, 8, 8, 8, 8, 8, 8, 8, 8, 8, 8, 8, 8, 8, 8, 8, 8])).toArray) (IntKind.u8.wrap p0)))))
  (none))
  (none)))
theorem hk125 : ∀ v h' r, k125 v h' = some r → v = out125 r ∧ h' = outh125 r := by
  intro v h' r h
  unfold k125 at h
  split at h
  · injection h with h; subst h; exact ⟨rfl, rfl⟩
  · cases h
abbrev q125 : Prim U R125 := prims X []
theorem s125 (c : Nat → S U → Option R125) (p0 : Int) : seg TP X q125 [] (fun q st => c q (keepD D125 (h125 p0).length q st)) body125 (finH TP Try.f125.results.toList (h125 p0).length false k125) (start [.int .u32 p0] Try.f125.ntmps (h125 p0)) = b125 p0  := by kernel_rfl
def f125 (_ : Nat) (p0 : Int) : Option R125 := b125 p0
theorem pure125 (p0 : Int) (pok : PrmOK TP X q125) (k : Nat) (r : R125) (h : f125 k p0 = some r) : PureH TP X 125 [.int .u32 p0] (h125 p0) (out125 r) (outh125 r) :=
  pure_gen good 0 (fn := Try.f125) (body := body125) (prim := q125) (D := D125) (cuts := []) (h := h125 p0) (own := false) (by kernel_rfl) (by kernel_rfl) (by decide +kernel) pok hk125 (by
    rw [s125]
    exact h)
def F125 {R : Type} (spec : (Int) → Option R125) : Fn U R := fun args h k => match args, h with | [.int .u32 p0], [] => (spec p0).bind fun r => k (out125 r) (outh125 r) | _, _ => none
theorem ok125 {R : Type} (spec : (Int) → Option R125) (hp : ∀ (p0 : Int) (r : R125), spec p0 = some r → PureH TP X 125 [.int .u32 p0] (h125 p0) (out125 r) (outh125 r)) : FnOK TP X 125 (F125 spec : Fn U R) := by
  intro args h k r hh
  unfold F125 at hh
  split at hh
  · obtain ⟨x, h1, h2⟩ := Option.bind_eq_some_iff.1 hh
    exact ⟨_, _, h2, hp _ _ h1⟩
  · cases hh
theorem pok125 : PrmOK TP X q125 := prims_nil TP X mixed
noncomputable def S125 (p0 : Int) : Option R125 := evv fun k => f125 k p0
theorem okS125 {R : Type} : FnOK TP X 125 (F125 S125 : Fn U R) := ok125 S125 fun p0 r h => by
  obtain ⟨k, hk⟩ := evv_fuel h
  exact pure125 p0 pok125 k r hk
abbrev R126 : Type := Int × (Int)
noncomputable def body126 : Go.Code := (Try.f126.body).getD Go.Code.skip
def h126 (p0 p1 p2 : Int) : List (AO U) := []
def k126 : AV U → List (AO U) → Option R126 := fun v h => match v, h with | AV.tup [AV.int IntKind.u32 x0, AV.int IntKind.u32 x1], [] => some (x0, x1) | _, _ => none
def out126 : R126 → AV U := fun (x0, x1) => AV.tup [AV.int IntKind.u32 x0, AV.int IntKind.u32 x1]
def outh126 : R126 → List (AO U) := fun (x0, x1) => []
def D126 : Nat → Dir := dirs []
def b126 (p0 p1 p2 : Int)   : Option R126 :=
  cond (p2 != 0)
  (cond (decide (p2 ≤ p0))
  (none)
  (cond (decide (IntKind.u64.wrap p2 = 0))
  (none)
  (cond (decide (IntKind.u64.wrap p2 = 0))
  (none)
  (some ((IntKind.u32.wrap (IntKind.u64.wrap ((Go.bits Go.BinOp.or IntKind.u64 (shl IntKind.u64 (IntKind.u64.wrap p0) 32) (IntKind.u64.wrap p1)).tdiv (IntKind.u64.wrap p2))), IntKind.u32.wrap ((Go.bits Go.BinOp.or IntKind.u64 (shl IntKind.u64 (IntKind.u64.wrap p0) 32) (IntKind.u64.wrap p1)).tmod (IntKind.u64.wrap p2))))))))
  (cond (decide (IntKind.u64.wrap p2 = 0))
  (none)
  (cond (decide (IntKind.u64.wrap p2 = 0))
  (none)
  (some ((IntKind.u32.wrap (IntKind.u64.wrap ((Go.bits Go.BinOp.or IntKind.u64 (shl IntKind.u64 (IntKind.u64.wrap p0) 32) (IntKind.u64.wrap p1)).tdiv (IntKind.u64.wrap p2))), IntKind.u32.wrap ((Go.bits Go.BinOp.or IntKind.u64 (shl IntKind.u64 (IntKind.u64.wrap p0) 32) (IntKind.u64.wrap p1)).tmod (IntKind.u64.wrap p2)))))))
theorem hk126 : ∀ v h' r, k126 v h' = some r → v = out126 r ∧ h' = outh126 r := by
  intro v h' r h
  unfold k126 at h
  split at h
  · injection h with h; subst h; exact ⟨rfl, rfl⟩
  · cases h
abbrev q126 : Prim U R126 := prims X []
theorem s126 (c : Nat → S U → Option R126) (p0 p1 p2 : Int) : seg TP X q126 [] (fun q st => c q (keepD D126 (h126 p0 p1 p2).length q st)) body126 (finH TP Try.f126.results.toList (h126 p0 p1 p2).length false k126) (start [.int .u32 p0, .int .u32 p1, .int .u32 p2] Try.f126.ntmps (h126 p0 p1 p2)) = b126 p0 p1 p2  := by kernel_rfl
def f126 (_ : Nat) (p0 p1 p2 : Int) : Option R126 := b126 p0 p1 p2
theorem pure126 (p0 p1 p2 : Int) (pok : PrmOK TP X q126) (k : Nat) (r : R126) (h : f126 k p0 p1 p2 = some r) : PureH TP X 126 [.int .u32 p0, .int .u32 p1, .int .u32 p2] (h126 p0 p1 p2) (out126 r) (outh126 r) :=
  pure_gen good 0 (fn := Try.f126) (body := body126) (prim := q126) (D := D126) (cuts := []) (h := h126 p0 p1 p2) (own := false) (by kernel_rfl) (by kernel_rfl) (by decide +kernel) pok hk126 (by
    rw [s126]
    exact h)
def F126 {R : Type} (spec : (Int) → Int → (Int) → Option R126) : Fn U R := fun args h k => match args, h with | [.int .u32 p0, .int .u32 p1, .int .u32 p2], [] => (spec p0 p1 p2).bind fun r => k (out126 r) (outh126 r) | _, _ => none
theorem ok126 {R : Type} (spec : (Int) → Int → (Int) → Option R126) (hp : ∀ (p0 : Int) (p1 : Int) (p2 : Int) (r : R126), spec p0 p1 p2 = some r → PureH TP X 126 [.int .u32 p0, .int .u32 p1, .int .u32 p2] (h126 p0 p1 p2) (out126 r) (outh126 r)) : FnOK TP X 126 (F126 spec : Fn U R) := by
  intro args h k r hh
  unfold F126 at hh
  split at hh
  · obtain ⟨x, h1, h2⟩ := Option.bind_eq_some_iff.1 hh
    exact ⟨_, _, h2, hp _ _ _ _ h1⟩
  · cases hh
theorem pok126 : PrmOK TP X q126 := prims_nil TP X mixed
noncomputable def S126 (p0 p1 p2 : Int) : Option R126 := evv fun k => f126 k p0 p1 p2
theorem okS126 {R : Type} : FnOK TP X 126 (F126 S126 : Fn U R) := ok126 S126 fun p0 p1 p2 r h => by
  obtain ⟨k, hk⟩ := evv_fuel h
  exact pure126 p0 p1 p2 pok126 k r hk
abbrev R127 : Type := Int × (Int)
noncomputable def body127 : Go.Code := (Try.f127.body).getD Go.Code.skip
def h127 (p0 p1 p2 : Int) : List (AO U) := []
def k127 : AV U → List (AO U) → Option R127 := fun v h => match v, h with | AV.tup [AV.int IntKind.u32 x0, AV.int IntKind.u32 x1], [] => some (x0, x1) | _, _ => none
def out127 : R127 → AV U := fun (x0, x1) => AV.tup [AV.int IntKind.u32 x0, AV.int IntKind.u32 x1]
def outh127 : R127 → List (AO U) := fun (x0, x1) => []
def D127 : Nat → Dir := dirs []
def b127 (p0 p1 p2 : Int)   : Option R127 :=
  some ((IntKind.u32.wrap (IntKind.u32.wrap (p0 - p1) - p2), shr IntKind.u32 (Go.bits Go.BinOp.or IntKind.u32 (Go.bits Go.BinOp.and IntKind.u32 (Go.bits Go.BinOp.xor IntKind.u32 (if IntKind.u32.signed = true then -1 else IntKind.u32.max) p0) p1) (Go.bits Go.BinOp.and IntKind.u32 (Go.bits Go.BinOp.xor IntKind.u32 (if IntKind.u32.signed = true then -1 else IntKind.u32.max) (Go.bits Go.BinOp.xor IntKind.u32 p0 p1)) (IntKind.u32.wrap (IntKind.u32.wrap (p0 - p1) - p2)))) 31))
theorem hk127 : ∀ v h' r, k127 v h' = some r → v = out127 r ∧ h' = outh127 r := by
  intro v h' r h
  unfold k127 at h
  split at h
  · injection h with h; subst h; exact ⟨rfl, rfl⟩
  · cases h
abbrev q127 : Prim U R127 := prims X []
theorem s127 (c : Nat → S U → Option R127) (p0 p1 p2 : Int) : seg TP X q127 [] (fun q st => c q (keepD D127 (h127 p0 p1 p2).length q st)) body127 (finH TP Try.f127.results.toList (h127 p0 p1 p2).length false k127) (start [.int .u32 p0, .int .u32 p1, .int .u32 p2] Try.f127.ntmps (h127 p0 p1 p2)) = b127 p0 p1 p2  := by kernel_rfl
def f127 (_ : Nat) (p0 p1 p2 : Int) : Option R127 := b127 p0 p1 p2
theorem pure127 (p0 p1 p2 : Int) (pok : PrmOK TP X q127) (k : Nat) (r : R127) (h : f127 k p0 p1 p2 = some r) : PureH TP X 127 [.int .u32 p0, .int .u32 p1, .int .u32 p2] (h127 p0 p1 p2) (out127 r) (outh127 r) :=
  pure_gen good 0 (fn := Try.f127) (body := body127) (prim := q127) (D := D127) (cuts := []) (h := h127 p0 p1 p2) (own := false) (by kernel_rfl) (by kernel_rfl) (by decide +kernel) pok hk127 (by
    rw [s127]
    exact h)
def F127 {R : Type} (spec : (Int) → Int → (Int) → Option R127) : Fn U R := fun args h k => match args, h with | [.int .u32 p0, .int .u32 p1, .int .u32 p2], [] => (spec p0 p1 p2).bind fun r => k (out127 r) (outh127 r) | _, _ => none
theorem ok127 {R : Type} (spec : (Int) → Int → (Int) → Option R127) (hp : ∀ (p0 : Int) (p1 : Int) (p2 : Int) (r : R127), spec p0 p1 p2 = some r → PureH TP X 127 [.int .u32 p0, .int .u32 p1, .int .u32 p2] (h127 p0 p1 p2) (out127 r) (outh127 r)) : FnOK TP X 127 (F127 spec : Fn U R) := by
  intro args h k r hh
  unfold F127 at hh
  split at hh
  · obtain ⟨x, h1, h2⟩ := Option.bind_eq_some_iff.1 hh
    exact ⟨_, _, h2, hp _ _ _ _ h1⟩
  · cases hh
theorem pok127 : PrmOK TP X q127 := prims_nil TP X mixed
noncomputable def S127 (p0 p1 p2 : Int) : Option R127 := evv fun k => f127 k p0 p1 p2
theorem okS127 {R : Type} : FnOK TP X 127 (F127 S127 : Fn U R) := ok127 S127 fun p0 p1 p2 r h => by
  obtain ⟨k, hk⟩ := evv_fuel h
  exact pure127 p0 p1 p2 pok127 k r hk
abbrev R128 : Type := Int × (Int)
noncomputable def body128 : Go.Code := (Try.f128.body).getD Go.Code.skip
def h128 (p0 p1 p2 : Int) : List (AO U) := []
def k128 : AV U → List (AO U) → Option R128 := fun v h => match v, h with | AV.tup [AV.int IntKind.u32 x0, AV.int IntKind.u32 x1], [] => some (x0, x1) | _, _ => none
def out128 : R128 → AV U := fun (x0, x1) => AV.tup [AV.int IntKind.u32 x0, AV.int IntKind.u32 x1]
def outh128 : R128 → List (AO U) := fun (x0, x1) => []
def D128 : Nat → Dir := dirs []
def b128 (p0 p1 p2 : Int)   : Option R128 :=
  some ((IntKind.u32.wrap (IntKind.u64.wrap (IntKind.u64.wrap (IntKind.u64.wrap p0 + IntKind.u64.wrap p1) + IntKind.u64.wrap p2)), IntKind.u32.wrap (shr IntKind.u64 (IntKind.u64.wrap (IntKind.u64.wrap (IntKind.u64.wrap p0 + IntKind.u64.wrap p1) + IntKind.u64.wrap p2)) 32)))
theorem hk128 : ∀ v h' r, k128 v h' = some r → v = out128 r ∧ h' = outh128 r := by
  intro v h' r h
  unfold k128 at h
  split at h
  · injection h with h; subst h; exact ⟨rfl, rfl⟩
  · cases h
abbrev q128 : Prim U R128 := prims X []
theorem s128 (c : Nat → S U → Option R128) (p0 p1 p2 : Int) : seg TP X q128 [] (fun q st => c q (keepD D128 (h128 p0 p1 p2).length q st)) body128 (finH TP Try.f128.results.toList (h128 p0 p1 p2).length false k128) (start [.int .u32 p0, .int .u32 p1, .int .u32 p2] Try.f128.ntmps (h128 p0 p1 p2)) = b128 p0 p1 p2  := by kernel_rfl
def f128 (_ : Nat) (p0 p1 p2 : Int) : Option R128 := b128 p0 p1 p2
theorem pure128 (p0 p1 p2 : Int) (pok : PrmOK TP X q128) (k : Nat) (r : R128) (h : f128 k p0 p1 p2 = some r) : PureH TP X 128 [.int .u32 p0, .int .u32 p1, .int .u32 p2] (h128 p0 p1 p2) (out128 r) (outh128 r) :=
  pure_gen good 0 (fn := Try.f128) (body := body128) (prim := q128) (D := D128) (cuts := []) (h := h128 p0 p1 p2) (own := false) (by kernel_rfl) (by kernel_rfl) (by decide +kernel) pok hk128 (by
    rw [s128]
    exact h)
def F128 {R : Type} (spec : (Int) → Int → (Int) → Option R128) : Fn U R := fun args h k => match args, h with | [.int .u32 p0, .int .u32 p1, .int .u32 p2], [] => (spec p0 p1 p2).bind fun r => k (out128 r) (outh128 r) | _, _ => none
theorem ok128 {R : Type} (spec : (Int) → Int → (Int) → Option R128) (hp : ∀ (p0 : Int) (p1 : Int) (p2 : Int) (r : R128), spec p0 p1 p2 = some r → PureH TP X 128 [.int .u32 p0, .int .u32 p1, .int .u32 p2] (h128 p0 p1 p2) (out128 r) (outh128 r)) : FnOK TP X 128 (F128 spec : Fn U R) := by
  intro args h k r hh
  unfold F128 at hh
  split at hh
  · obtain ⟨x, h1, h2⟩ := Option.bind_eq_some_iff.1 hh
    exact ⟨_, _, h2, hp _ _ _ _ h1⟩
  · cases hh
theorem pok128 : PrmOK TP X q128 := prims_nil TP X mixed
noncomputable def S128 (p0 p1 p2 : Int) : Option R128 := evv fun k => f128 k p0 p1 p2
theorem okS128 {R : Type} : FnOK TP X 128 (F128 S128 : Fn U R) := ok128 S128 fun p0 p1 p2 r h => by
  obtain ⟨k, hk⟩ := evv_fuel h
  exact pure128 p0 p1 p2 pok128 k r hk
abbrev R77 : Type := (Bool)
noncomputable def body77 : Go.Code := (Try.f77.body).getD Go.Code.skip
def h77 (p0 : TI) : List (AO U) := []
def k77 : AV U → List (AO U) → Option R77 := fun v h => match v, h with | AV.bool x0, [] => some x0 | _, _ => none
def out77 : R77 → AV U := fun x0 => AV.bool x0
def outh77 : R77 → List (AO U) := fun x0 => []
def D77 : Nat → Dir := dirs []
def b77 (p0 : TI)   : Option R77 :=
  cond (decide ((↑p0.length : Int) ≤ 2048))
  (cond ((↑p0.length : Int) == 0)
  (some (true))
  (cond (decide (0 ≤ IntKind.i64.wrap ((↑p0.length : Int) - 1)))
  (cond (decide (IntKind.i64.wrap ((↑p0.length : Int) - 1) < (↑p0.length : Int)))
  (cond (decide ((IntKind.i64.wrap ((↑p0.length : Int) - 1)).toNat < p0.length))
  (some (p0.getD (IntKind.i64.wrap ((↑p0.length : Int) - 1)).toNat (X.dflt 105) != 0))
  (none))
  (none))
  (none)))
  (some (false))
theorem hk77 : ∀ v h' r, k77 v h' = some r → v = out77 r ∧ h' = outh77 r := by
  intro v h' r h
  unfold k77 at h
  split at h
  · injection h with h; subst h; exact ⟨rfl, rfl⟩
  · cases h
abbrev q77 : Prim U R77 := prims X []
theorem s77 (c : Nat → S U → Option R77) (p0 : TI) : seg TP X q77 [] (fun q st => c q (keepD D77 (h77 p0).length q st)) body77 (finH TP Try.f77.results.toList (h77 p0).length false k77) (start [.imm 105 p0] Try.f77.ntmps (h77 p0)) = b77 p0  := by kernel_rfl
def f77 (_ : Nat) (p0 : TI) : Option R77 := b77 p0
theorem pure77 (p0 : TI) (pok : PrmOK TP X q77) (k : Nat) (r : R77) (h : f77 k p0 = some r) : PureH TP X 77 [.imm 105 p0] (h77 p0) (out77 r) (outh77 r) :=
  pure_gen good 0 (fn := Try.f77) (body := body77) (prim := q77) (D := D77) (cuts := []) (h := h77 p0) (own := false) (by kernel_rfl) (by kernel_rfl) (by decide +kernel) pok hk77 (by
    rw [s77]
    exact h)
def F77 {R : Type} (spec : TI → Option R77) : Fn U R := fun args h k => match args, h with | [.imm 105 p0], [] => (spec p0).bind fun r => k (out77 r) (outh77 r) | _, _ => none
theorem ok77 {R : Type} (spec : TI → Option R77) (hp : ∀ (p0 : TI) (r : R77), spec p0 = some r → PureH TP X 77 [.imm 105 p0] (h77 p0) (out77 r) (outh77 r)) : FnOK TP X 77 (F77 spec : Fn U R) := by
  intro args h k r hh
  unfold F77 at hh
  split at hh
  · obtain ⟨x, h1, h2⟩ := Option.bind_eq_some_iff.1 hh
    exact ⟨_, _, h2, hp _ _ h1⟩
  · cases hh
theorem pok77 : PrmOK TP X q77 := prims_nil TP X mixed
noncomputable def S77 (p0 : TI) : Option R77 := evv fun k => f77 k p0
theorem okS77 {R : Type} : FnOK TP X 77 (F77 S77 : Fn U R) := ok77 S77 fun p0 r h => by
  obtain ⟨k, hk⟩ := evv_fuel h
  exact pure77 p0 pok77 k r hk
abbrev R78 : Type := (Bool)
noncomputable def body78 : Go.Code := (Try.f78.body).getD Go.Code.skip
def h78 (p0 : TI) : List (AO U) := []
def k78 : AV U → List (AO U) → Option R78 := fun v h => match v, h with | AV.bool x0, [] => some x0 | _, _ => none
def out78 : R78 → AV U := fun x0 => AV.bool x0
def outh78 : R78 → List (AO U) := fun x0 => []
def D78 : Nat → Dir := dirs []
def b78 (p0 : TI)   : Option R78 :=
  cond ((↑p0.length : Int) == 1)
  (cond (decide (0 < (↑p0.length : Int)))
  (cond (decide (Int.toNat 0 < p0.length))
  (some (p0.getD (Int.toNat 0) (X.dflt 105) == 1))
  (none))
  (none))
  (some (false))
theorem hk78 : ∀ v h' r, k78 v h' = some r → v = out78 r ∧ h' = outh78 r := by
  intro v h' r h
  unfold k78 at h
  split at h
  · injection h with h; subst h; exact ⟨rfl, rfl⟩
  · cases h
abbrev q78 : Prim U R78 := prims X []
theorem s78 (c : Nat → S U → Option R78) (p0 : TI) : seg TP X q78 [] (fun q st => c q (keepD D78 (h78 p0).length q st)) body78 (finH TP Try.f78.results.toList (h78 p0).length false k78) (start [.imm 105 p0] Try.f78.ntmps (h78 p0)) = b78 p0  := by kernel_rfl
def f78 (_ : Nat) (p0 : TI) : Option R78 := b78 p0
theorem pure78 (p0 : TI) (pok : PrmOK TP X q78) (k : Nat) (r : R78) (h : f78 k p0 = some r) : PureH TP X 78 [.imm 105 p0] (h78 p0) (out78 r) (outh78 r) :=
  pure_gen good 0 (fn := Try.f78) (body := body78) (prim := q78) (D := D78) (cuts := []) (h := h78 p0) (own := false) (by kernel_rfl) (by kernel_rfl) (by decide +kernel) pok hk78 (by
    rw [s78]
    exact h)
def F78 {R : Type} (spec : TI → Option R78) : Fn U R := fun args h k => match args, h with | [.imm 105 p0], [] => (spec p0).bind fun r => k (out78 r) (outh78 r) | _, _ => none
theorem ok78 {R : Type} (spec : TI → Option R78) (hp : ∀ (p0 : TI) (r : R78), spec p0 = some r → PureH TP X 78 [.imm 105 p0] (h78 p0) (out78 r) (outh78 r)) : FnOK TP X 78 (F78 spec : Fn U R) := by
  intro args h k r hh
  unfold F78 at hh
  split at hh
  · obtain ⟨x, h1, h2⟩ := Option.bind_eq_some_iff.1 hh
    exact ⟨_, _, h2, hp _ _ h1⟩
  · cases hh
theorem pok78 : PrmOK TP X q78 := prims_nil TP X mixed
noncomputable def S78 (p0 : TI) : Option R78 := evv fun k => f78 k p0
theorem okS78 {R : Type} : FnOK TP X 78 (F78 S78 : Fn U R) := ok78 S78 fun p0 r h => by
  obtain ⟨k, hk⟩ := evv_fuel h
  exact pure78 p0 pok78 k r hk
abbrev R61 : Type := (Bool)
noncomputable def body61 : Go.Code := (Try.f61.body).getD Go.Code.skip
def h61 (p0 : TI) : List (AO U) := []
def k61 : AV U → List (AO U) → Option R61 := fun v h => match v, h with | AV.bool x0, [] => some x0 | _, _ => none
def out61 : R61 → AV U := fun x0 => AV.bool x0
def outh61 : R61 → List (AO U) := fun x0 => []
def D61 : Nat → Dir := dirs []
def b61 (p0 : TI)   : Option R61 :=
  cond (decide ((↑p0.length : Int) > 2048))
  (some (false))
  (cond ((↑p0.length : Int) == 0)
  (some (true))
  (cond (decide (0 ≤ IntKind.i64.wrap ((↑p0.length : Int) - 1)))
  (cond (decide (IntKind.i64.wrap ((↑p0.length : Int) - 1) < (↑p0.length : Int)))
  (cond (decide ((IntKind.i64.wrap ((↑p0.length : Int) - 1)).toNat < p0.length))
  (some (p0.getD (IntKind.i64.wrap ((↑p0.length : Int) - 1)).toNat (X.dflt 105) != 0))
  (none))
  (none))
  (none)))
theorem hk61 : ∀ v h' r, k61 v h' = some r → v = out61 r ∧ h' = outh61 r := by
  intro v h' r h
  unfold k61 at h
  split at h
  · injection h with h; subst h; exact ⟨rfl, rfl⟩
  · cases h
abbrev q61 : Prim U R61 := prims X []
theorem s61 (c : Nat → S U → Option R61) (p0 : TI) : seg TP X q61 [] (fun q st => c q (keepD D61 (h61 p0).length q st)) body61 (finH TP Try.f61.results.toList (h61 p0).length false k61) (start [.imm 105 p0] Try.f61.ntmps (h61 p0)) = b61 p0  := by kernel_rfl
def f61 (_ : Nat) (p0 : TI) : Option R61 := b61 p0
theorem pure61 (p0 : TI) (pok : PrmOK TP X q61) (k : Nat) (r : R61) (h : f61 k p0 = some r) : PureH TP X 61 [.imm 105 p0] (h61 p0) (out61 r) (outh61 r) :=
  pure_gen good 0 (fn := Try.f61) (body := body61) (prim := q61) (D := D61) (cuts := []) (h := h61 p0) (own := false) (by kernel_rfl) (by kernel_rfl) (by decide +kernel) pok hk61 (by
    rw [s61]
    exact h)
def F61 {R : Type} (spec : TI → Option R61) : Fn U R := fun args h k => match args, h with | [.imm 105 p0], [] => (spec p0).bind fun r => k (out61 r) (outh61 r) | _, _ => none
theorem ok61 {R : Type} (spec : TI → Option R61) (hp : ∀ (p0 : TI) (r : R61), spec p0 = some r → PureH TP X 61 [.imm 105 p0] (h61 p0) (out61 r) (outh61 r)) : FnOK TP X 61 (F61 spec : Fn U R) := by
  intro args h k r hh
  unfold F61 at hh
  split at hh
  · obtain ⟨x, h1, h2⟩ := Option.bind_eq_some_iff.1 hh
    exact ⟨_, _, h2, hp _ _ h1⟩
  · cases hh
theorem pok61 : PrmOK TP X q61 := prims_nil TP X mixed
noncomputable def S61 (p0 : TI) : Option R61 := evv fun k => f61 k p0
theorem okS61 {R : Type} : FnOK TP X 61 (F61 S61 : Fn U R) := ok61 S61 fun p0 r h => by
  obtain ⟨k, hk⟩ := evv_fuel h
  exact pure61 p0 pok61 k r hk
abbrev R98 : Type := TI
noncomputable def body98 : Go.Code := (Try.f98.body).getD Go.Code.skip
def h98 (p0 : Int) (p1 : TI) : List (AO U) := [.row 105 p1]
def k98 : AV U → List (AO U) → Option R98 := fun v h => match v, h with | AV.tup [], [AO.row 105 x0] => some x0 | _, _ => none
def out98 : R98 → AV U := fun x0 => AV.tup []
def outh98 : R98 → List (AO U) := fun x0 => [AO.row 105 x0]
def D98 : Nat → Dir := dirs [(2, ⟨[0, 4, 5], [], [], []⟩)]
def b98 (p0 : Int) (p1 : TI) (c2 : (Int) → Int → TI → Option R98)  : Option R98 :=
  c2 (IntKind.u32.wrap p0) (0) (p1)
def m98_2 (p0 : Int) (p1 : TI) (v0 v1 : Int) (v2 : TI) : S U := S.mk [AV.row 0 105, AV.undef, AV.undef, AV.undef, AV.int IntKind.u32 v0, AV.int IntKind.i64 v1, AV.undef, AV.undef, AV.undef, AV.undef, AV.undef, AV.undef, AV.undef, AV.undef, AV.undef, AV.undef, AV.undef, AV.undef, AV.undef, AV.undef, AV.undef, AV.undef, AV.undef, AV.undef, AV.undef, AV.undef, AV.undef, AV.undef, AV.undef, AV.undef, AV.undef] [AO.row 105 v2]
def b98_2 (p0 : Int) (p1 : TI) (c2 : (Int) → Int → TI → Option R98) (v0 v1 : Int) (v2 : TI) : Option R98 :=
  cond (decide (v1 < (↑v2.length : Int)))
  (cond (decide (0 ≤ v1))
  (cond (decide (v1 < (↑v2.length : Int)))
  (cond (decide (v1.toNat < v2.length))
  (cond (decide (0 ≤ v1))
  (cond (decide (v1 < (↑v2.length : Int)))
  (cond (decide (v1.toNat < v2.length))
  (cond (decide (0 ≤ v1))
  (cond (decide (v1 < (↑v2.length : Int)))
  (cond (decide (v1.toNat < v2.length))
  (c2 (shr IntKind.u32 (v2.getD v1.toNat (X.dflt 105)) 31) (IntKind.i64.wrap (v1 + 1)) (v2.set v1.toNat (Go.bits Go.BinOp.or IntKind.u32 (shl IntKind.u32 (v2.getD v1.toNat (X.dflt 105)) 1) v0)))
  (none))
  (none))
  (none))
  (none))
  (none))
  (none))
  (none))
  (none))
  (none))
  (some (v2))
theorem hk98 : ∀ v h' r, k98 v h' = some r → v = out98 r ∧ h' = outh98 r := by
  intro v h' r h
  unfold k98 at h
  split at h
  · injection h with h; subst h; exact ⟨rfl, rfl⟩
  · cases h
abbrev q98 : Prim U R98 := prims X []
theorem s98 (c : Nat → S U → Option R98) (p0 : Int) (p1 : TI) : seg TP X q98 [2] (fun q st => c q (keepD D98 (h98 p0 p1).length q st)) body98 (finH TP Try.f98.results.toList (h98 p0 p1).length false k98) (start [.row 0 105, .int .i64 p0] Try.f98.ntmps (h98 p0 p1)) = b98 p0 p1 (fun v0 v1 v2 => c 2 (m98_2 p0 p1 v0 v1 v2)) := by kernel_rfl
theorem s98_2 (c : Nat → S U → Option R98) (p0 : Int) (p1 : TI) (v0 v1 : Int) (v2 : TI) : res TP X q98 [2] (fun q st => c q (keepD D98 (h98 p0 p1).length q st)) 2 body98 (finH TP Try.f98.results.toList (h98 p0 p1).length false k98) (m98_2 p0 p1 v0 v1 v2) = b98_2 p0 p1 (fun v0 v1 v2 => c 2 (m98_2 p0 p1 v0 v1 v2)) v0 v1 v2 := by kernel_rfl
def f98_2 (p0 : Int) (p1 : TI) : Nat → Int → (Int) → TI → Option R98
  | 0 => fun _ _ _ => none
  | k + 1 => b98_2 p0 p1 (f98_2 p0 p1 k)
def f98 (k : Nat) (p0 : Int) (p1 : TI) : Option R98 := b98 p0 p1 (f98_2 p0 p1 k)
theorem e98 (p0 : Int) (p1 : TI) : ∀ k, ((fun v0 v1 v2 => cutG TP X q98 [2] D98 (h98 p0 p1).length body98 (finH TP Try.f98.results.toList (h98 p0 p1).length false k98) k 2 (m98_2 p0 p1 v0 v1 v2)) = f98_2 p0 p1 k)
  | 0 => rfl
  | k + 1 => by
    have ih := e98 p0 p1 k
    · funext v0 v1 v2
      refine (if_pos (by kernel_rfl)).trans ?_
      rw [s98_2]
      simp only [ih]
      rfl
theorem pure98 (p0 : Int) (p1 : TI) (pok : PrmOK TP X q98) (k : Nat) (r : R98) (h : f98 k p0 p1 = some r) : PureH TP X 98 [.row 0 105, .int .i64 p0] (h98 p0 p1) (out98 r) (outh98 r) :=
  pure_gen good k (fn := Try.f98) (body := body98) (prim := q98) (D := D98) (cuts := [2]) (h := h98 p0 p1) (own := false) (by kernel_rfl) (by kernel_rfl) (by decide +kernel) pok hk98 (by
    rw [s98]
    have ih := e98 p0 p1 k
    simp only [ih]
    exact h)
def F98 {R : Type} (spec : (Int) → TI → Option R98) : Fn U R := fun args h k => match args, h with | [.row 0 105, .int .i64 p0], [.row 105 p1] => (spec p0 p1).bind fun r => k (out98 r) (outh98 r) | _, _ => none
theorem ok98 {R : Type} (spec : (Int) → TI → Option R98) (hp : ∀ (p0 : Int) (p1 : TI) (r : R98), spec p0 p1 = some r → PureH TP X 98 [.row 0 105, .int .i64 p0] (h98 p0 p1) (out98 r) (outh98 r)) : FnOK TP X 98 (F98 spec : Fn U R) := by
  intro args h k r hh
  unfold F98 at hh
  split at hh
  · obtain ⟨x, h1, h2⟩ := Option.bind_eq_some_iff.1 hh
    exact ⟨_, _, h2, hp _ _ _ h1⟩
  · cases hh
theorem pok98 : PrmOK TP X q98 := prims_nil TP X mixed
noncomputable def S98 (p0 : Int) (p1 : TI) : Option R98 := evv fun k => f98 k p0 p1
theorem okS98 {R : Type} : FnOK TP X 98 (F98 S98 : Fn U R) := ok98 S98 fun p0 p1 r h => by
  obtain ⟨k, hk⟩ := evv_fuel h
  exact pure98 p0 p1 pok98 k r hk
abbrev R115 : Type := (Int)
noncomputable def body115 : Go.Code := (Try.f115.body).getD Go.Code.skip
def h115 (p0 : TI) (p1 : Int) : List (AO U) := []
def k115 : AV U → List (AO U) → Option R115 := fun v h => match v, h with | AV.int IntKind.u64 x0, [] => some x0 | _, _ => none
def out115 : R115 → AV U := fun x0 => AV.int IntKind.u64 x0
def outh115 : R115 → List (AO U) := fun x0 => []
def D115 : Nat → Dir := dirs []
def b115 (p0 : TI) (p1 : Int)   : Option R115 :=
  cond (decide (p1 < (↑p0.length : Int)))
  (cond (decide (0 ≤ p1))
  (cond (decide (p1 < (↑p0.length : Int)))
  (cond (decide (p1.toNat < p0.length))
  (some (IntKind.u64.wrap (p0.getD p1.toNat (X.dflt 105))))
  (none))
  (none))
  (none))
  (some (0))
theorem hk115 : ∀ v h' r, k115 v h' = some r → v = out115 r ∧ h' = outh115 r := by
  intro v h' r h
  unfold k115 at h
  split at h
  · injection h with h; subst h; exact ⟨rfl, rfl⟩
  · cases h
abbrev q115 : Prim U R115 := prims X []
theorem s115 (c : Nat → S U → Option R115) (p0 : TI) (p1 : Int) : seg TP X q115 [] (fun q st => c q (keepD D115 (h115 p0 p1).length q st)) body115 (finH TP Try.f115.results.toList (h115 p0 p1).length false k115) (start [.imm 105 p0, .int .i64 p1] Try.f115.ntmps (h115 p0 p1)) = b115 p0 p1  := by kernel_rfl
def f115 (_ : Nat) (p0 : TI) (p1 : Int) : Option R115 := b115 p0 p1
theorem pure115 (p0 : TI) (p1 : Int) (pok : PrmOK TP X q115) (k : Nat) (r : R115) (h : f115 k p0 p1 = some r) : PureH TP X 115 [.imm 105 p0, .int .i64 p1] (h115 p0 p1) (out115 r) (outh115 r) :=
  pure_gen good 0 (fn := Try.f115) (body := body115) (prim := q115) (D := D115) (cuts := []) (h := h115 p0 p1) (own := false) (by kernel_rfl) (by kernel_rfl) (by decide +kernel) pok hk115 (by
    rw [s115]
    exact h)
def F115 {R : Type} (spec : TI → Int → Option R115) : Fn U R := fun args h k => match args, h with | [.imm 105 p0, .int .i64 p1], [] => (spec p0 p1).bind fun r => k (out115 r) (outh115 r) | _, _ => none
theorem ok115 {R : Type} (spec : TI → Int → Option R115) (hp : ∀ (p0 : TI) (p1 : Int) (r : R115), spec p0 p1 = some r → PureH TP X 115 [.imm 105 p0, .int .i64 p1] (h115 p0 p1) (out115 r) (outh115 r)) : FnOK TP X 115 (F115 spec : Fn U R) := by
  intro args h k r hh
  unfold F115 at hh
  split at hh
  · obtain ⟨x, h1, h2⟩ := Option.bind_eq_some_iff.1 hh
    exact ⟨_, _, h2, hp _ _ _ h1⟩
  · cases hh
theorem pok115 : PrmOK TP X q115 := prims_nil TP X mixed
noncomputable def S115 (p0 : TI) (p1 : Int) : Option R115 := evv fun k => f115 k p0 p1
theorem okS115 {R : Type} : FnOK TP X 115 (F115 S115 : Fn U R) := ok115 S115 fun p0 p1 r h => by
  obtain ⟨k, hk⟩ := evv_fuel h
  exact pure115 p0 p1 pok115 k r hk
abbrev R81 : Type := TI
noncomputable def body81 : Go.Code := (Try.f81.body).getD Go.Code.skip
def h81 (p0 : TI) : List (AO U) := []
def k81 : AV U → List (AO U) → Option R81 := fun v h => match v, h with | AV.imm 105 x0, [] => some x0 | _, _ => none
def out81 : R81 → AV U := fun x0 => AV.imm 105 x0
def outh81 : R81 → List (AO U) := fun x0 => []
def D81 : Nat → Dir := dirs [(2, ⟨[0, 3], [], [], []⟩), (6, ⟨[0, 3, 4, 5], [], [], []⟩)]
def b81 (p0 : TI) (c2 : (Int) → Option R81) (c6 : (Int) → Int → TI → Option R81)  : Option R81 :=
  c2 ((↑p0.length : Int))
def m81_2 (p0 : TI) (v1 : Int) : S U := S.mk [AV.imm 105 p0, AV.undef, AV.undef, AV.int IntKind.i64 v1, AV.undef, AV.undef, AV.undef, AV.undef, AV.undef, AV.undef, AV.undef, AV.undef, AV.undef, AV.undef, AV.undef, AV.undef, AV.undef, AV.undef, AV.undef, AV.undef, AV.undef, AV.undef, AV.undef, AV.undef, AV.undef, AV.undef, AV.undef, AV.undef, AV.undef, AV.undef, AV.undef, AV.undef, AV.undef, AV.undef, AV.undef] []
def b81_2 (p0 : TI) (c2 : (Int) → Option R81) (c6 : (Int) → Int → TI → Option R81) (v1 : Int) : Option R81 :=
  cond (decide (v1 > 0))
  (cond (decide (0 ≤ IntKind.i64.wrap (v1 - 1)))
  (cond (decide (IntKind.i64.wrap (v1 - 1) < (↑p0.length : Int)))
  (cond (decide ((IntKind.i64.wrap (v1 - 1)).toNat < p0.length))
  (cond (p0.getD (IntKind.i64.wrap (v1 - 1)).toNat (X.dflt 105) == 0)
  (c2 (IntKind.i64.wrap (v1 - 1)))
  (cond (decide (0 ≤ v1))
  (cond (decide (v1 ≤ v1))
  (cond (decide (v1 * (↑4 : Int) ≤ 140737488355328))
  (c6 (v1) (0) (repI v1.toNat 0))
  (none))
  (none))
  (none)))
  (none))
  (none))
  (none))
  (cond (decide (0 ≤ v1))
  (cond (decide (v1 ≤ v1))
  (cond (decide (v1 * (↑4 : Int) ≤ 140737488355328))
  (c6 (v1) (0) (repI v1.toNat 0))
  (none))
  (none))
  (none))
def m81_6 (p0 : TI) (v1 v2 : Int) (v3 : TI) : S U := S.mk [AV.imm 105 p0, AV.undef, AV.undef, AV.int IntKind.i64 v1, AV.row 0 105, AV.int IntKind.i64 v2, AV.undef, AV.undef, AV.undef, AV.undef, AV.undef, AV.undef, AV.undef, AV.undef, AV.undef, AV.undef, AV.undef, AV.undef, AV.undef, AV.undef, AV.undef, AV.undef, AV.undef, AV.undef, AV.undef, AV.undef, AV.undef, AV.undef, AV.undef, AV.undef, AV.undef, AV.undef, AV.undef, AV.undef, AV.undef] [AO.row 105 v3]
def b81_6 (p0 : TI) (c2 : (Int) → Option R81) (c6 : (Int) → Int → TI → Option R81) (v1 v2 : Int) (v3 : TI) : Option R81 :=
  cond (decide (v2 < v1))
  (cond (decide (0 ≤ v2))
  (cond (decide (v2 < (↑p0.length : Int)))
  (cond (decide (v2.toNat < p0.length))
  (cond (decide (0 ≤ v2))
  (cond (decide (v2 < (↑v3.length : Int)))
  (cond (decide (v2.toNat < v3.length))
  (c6 (v1) (IntKind.i64.wrap (v2 + 1)) (v3.set v2.toNat (p0.getD v2.toNat (X.dflt 105))))
  (none))
  (none))
  (none))
  (none))
  (none))
  (none))
  (some (v3))
theorem hk81 : ∀ v h' r, k81 v h' = some r → v = out81 r ∧ h' = outh81 r := by
  intro v h' r h
  unfold k81 at h
  split at h
  · injection h with h; subst h; exact ⟨rfl, rfl⟩
  · cases h
abbrev q81 : Prim U R81 := prims X []
theorem s81 (c : Nat → S U → Option R81) (p0 : TI) : seg TP X q81 [2, 6] (fun q st => c q (keepD D81 (h81 p0).length q st)) body81 (finH TP Try.f81.results.toList (h81 p0).length false k81) (start [.imm 105 p0] Try.f81.ntmps (h81 p0)) = b81 p0 (fun v1 => c 2 (m81_2 p0 v1)) (fun v1 v2 v3 => c 6 (m81_6 p0 v1 v2 v3)) := by kernel_rfl
theorem s81_2 (c : Nat → S U → Option R81) (p0 : TI) (v1 : Int) : res TP X q81 [2, 6] (fun q st => c q (keepD D81 (h81 p0).length q st)) 2 body81 (finH TP Try.f81.results.toList (h81 p0).length false k81) (m81_2 p0 v1) = b81_2 p0 (fun v1 => c 2 (m81_2 p0 v1)) (fun v1 v2 v3 => c 6 (m81_6 p0 v1 v2 v3)) v1 := by kernel_rfl
theorem s81_6 (c : Nat → S U → Option R81) (p0 : TI) (v1 v2 : Int) (v3 : TI) : res TP X q81 [2, 6] (fun q st => c q (keepD D81 (h81 p0).length q st)) 6 body81 (finH TP Try.f81.results.toList (h81 p0).length false k81) (m81_6 p0 v1 v2 v3) = b81_6 p0 (fun v1 => c 2 (m81_2 p0 v1)) (fun v1 v2 v3 => c 6 (m81_6 p0 v1 v2 v3)) v1 v2 v3 := by kernel_rfl
mutual
def f81_2 (p0 : TI) : Nat → Int → Option R81
  | 0 => fun _ => none
  | k + 1 => b81_2 p0 (f81_2 p0 k) (f81_6 p0 k)
def f81_6 (p0 : TI) : Nat → Int → (Int) → TI → Option R81
  | 0 => fun _ _ _ => none
  | k + 1 => b81_6 p0 (f81_2 p0 k) (f81_6 p0 k)
end
def f81 (k : Nat) (p0 : TI) : Option R81 := b81 p0 (f81_2 p0 k) (f81_6 p0 k)
theorem e81 (p0 : TI) : ∀ k, ((fun v1 => cutG TP X q81 [2, 6] D81 (h81 p0).length body81 (finH TP Try.f81.results.toList (h81 p0).length false k81) k 2 (m81_2 p0 v1)) = f81_2 p0 k) ∧ ((fun v1 v2 v3 => cutG TP X q81 [2, 6] D81 (h81 p0).length body81 (finH TP Try.f81.results.toList (h81 p0).length false k81) k 6 (m81_6 p0 v1 v2 v3)) = f81_6 p0 k)
  | 0 => ⟨rfl, rfl⟩
  | k + 1 => by
    have ih := e81 p0 k
    refine ⟨?_, ?_⟩
    · funext v1
      refine (if_pos (by kernel_rfl)).trans ?_
      rw [s81_2]
      simp only [ih]
      rfl
    · funext v1 v2 v3
      refine (if_pos (by kernel_rfl)).trans ?_
      rw [s81_6]
      simp only [ih]
      rfl
theorem pure81 (p0 : TI) (pok : PrmOK TP X q81) (k : Nat) (r : R81) (h : f81 k p0 = some r) : PureH TP X 81 [.imm 105 p0] (h81 p0) (out81 r) (outh81 r) :=
  pure_gen good k (fn := Try.f81) (body := body81) (prim := q81) (D := D81) (cuts := [2, 6]) (h := h81 p0) (own := false) (by kernel_rfl) (by kernel_rfl) (by decide +kernel) pok hk81 (by
    rw [s81]
    have ih := e81 p0 k
    simp only [ih]
    exact h)
def F81 {R : Type} (spec : TI → Option R81) : Fn U R := fun args h k => match args, h with | [.imm 105 p0], [] => (spec p0).bind fun r => k (out81 r) (outh81 r) | _, _ => none
theorem ok81 {R : Type} (spec : TI → Option R81) (hp : ∀ (p0 : TI) (r : R81), spec p0 = some r → PureH TP X 81 [.imm 105 p0] (h81 p0) (out81 r) (outh81 r)) : FnOK TP X 81 (F81 spec : Fn U R) := by
  intro args h k r hh
  unfold F81 at hh
  split at hh
  · obtain ⟨x, h1, h2⟩ := Option.bind_eq_some_iff.1 hh
    exact ⟨_, _, h2, hp _ _ h1⟩
  · cases hh
theorem pok81 : PrmOK TP X q81 := prims_nil TP X mixed
noncomputable def S81 (p0 : TI) : Option R81 := evv fun k => f81 k p0
theorem okS81 {R : Type} : FnOK TP X 81 (F81 S81 : Fn U R) := ok81 S81 fun p0 r h => by
  obtain ⟨k, hk⟩ := evv_fuel h
  exact pure81 p0 pok81 k r hk
end
end Go.Abs.Z
namespace Go.Abs.Z
open Go Go.Abs Limb
theorem dflt105 : @Eq Int (X.dflt 105) 0 := rfl
theorem loop113 (p0 : List Int) (h : p0.length < 4611686018427387904) : ∀ n : Nat, n ≤ p0.length → Evt (fun k => f113_2 p0 k (n : Int)) (p0.take (tn p0 n))
  | 0, _ => Evt.last fun k => by
    show b113_2 p0 (f113_2 p0 k) ((0 : Nat) : Int) = _
    unfold b113_2
    simp (disch := omega) only [cT, cF]
    rfl
  | n + 1, hn => by
    have e0 : IntKind.i64.wrap (((n + 1 : Nat) : Int) - 1) = (n : Int) := by rw [wi64] <;> omega
    by_cases hz : p0.getD n 0 = 0
    · have et : tn p0 (n + 1) = tn p0 n := by show (if _ then _ else _) = _; rw [if_pos hz]
      rw [et]
      refine Evt.step (loop113 p0 h n (by omega)) fun k => ?_
      show b113_2 p0 (f113_2 p0 k) ((n + 1 : Nat) : Int) = _
      unfold b113_2
      rw [e0]
      simp only [Int.toNat_natCast, dflt105]
      simp (disch := omega) only [cT, cF, cE]
    · have et : tn p0 (n + 1) = n + 1 := by show (if _ then _ else _) = _; rw [if_neg hz]
      rw [et]
      refine Evt.last fun k => ?_
      show b113_2 p0 (f113_2 p0 k) ((n + 1 : Nat) : Int) = _
      unfold b113_2
      rw [e0]
      simp only [Int.toNat_natCast, dflt105]
      simp (disch := omega) only [cT, cF, cN]
theorem run113 {p0 : List Int} (h : p0.length < 4611686018427387904) : S113 p0 = some (trimL p0) := evv_eq (loop113 p0 h p0.length (Nat.le_refl _))
end Go.Abs.Z
