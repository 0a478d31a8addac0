/- The abstract interpreter, second part: control, calls, cuts. -/
import Derived.Test.YtfaaiihgfdamnaaAbsA
import Derived.Below
import Derived.Orders
namespace Go.Abs
open Go
variable {U : Nat → Type} {R : Type}

abbrev Prim (U : Nat → Type) (R : Type) := Nat → List (AV U) → S U → (AV U → S U → Option R) → Option R

def evArgs (P : Program) (st : S U) : List Operand → List TypeId → List (AV U)
  | [], _ => []
  | x :: xs, t :: ts => evT P st t x :: evArgs P st xs ts
  | x :: xs, [] => ev st x :: evArgs P st xs []

def hasBody (P : Program) (n : Nat) : Bool :=
  match P.funcs[n]? with
  | some fn => !(fn.name == "runtime.NumGoroutine") && !fn.body.isNone
  | none => false

/-- one operation -/
def exec1 (P : Program) (X : Univ U) (prim : Prim U R) (o : Oper) (st : S U) (K : AV U → S U → Option R) : Option R :=
  match o.op with
  | .call c =>
    match c.callee with
    | .value f => (match ev st f with | .fn n cap => if hasBody P n then prim n (evArgs P st c.args.toList c.argTypes.toList ++ cap) st K else none | _ => none)
    | _ => stepM P X o st fun v h => K v ⟨st.s, h⟩
  | _ => stepM P X o st fun v h => K v ⟨st.s, h⟩

def opsC (P : Program) (X : Univ U) (prim : Prim U R) (all : List Oper) : List Oper → S U → (S U → Option R) → Option R
  | [], st, K => K st
  | o :: rest, st, K =>
    match o.guard with
    | none => exec1 P X prim o st fun v st' => opsC P X prim all rest (put st' o.dst v st'.h) K
    | some (j, want) =>
      match (all[j]?).bind (·.dst) with
      | none => none
      | some d =>
        match st.s.getD d .undef with
        | .bool t =>
          cond t
            (if want then exec1 P X prim o (put st (some d) (.bool true) st.h) fun v st' => opsC P X prim all rest (put st' o.dst v st'.h) K
             else opsC P X prim all rest (put (put st (some d) (.bool true) st.h) o.dst .undef st.h) K)
            (if want then opsC P X prim all rest (put (put st (some d) (.bool false) st.h) o.dst .undef st.h) K
             else exec1 P X prim o (put st (some d) (.bool false) st.h) fun v st' => opsC P X prim all rest (put st' o.dst v st'.h) K)
        | _ => none

def PrimOK (P : Program) (X : Univ U) (prim : Prim U R) : Prop :=
  ∀ n args (st : S U) K r w0 N0 B0 th a w (vs : Array Value), prim n args st K = some r → RelT X w0 N0 B0 th st a w → vs.size = args.length →
    (∀ j, j < args.length → VRel X w (NN N0 th) th (args.getD j .undef) (vs.getD j undef)) →
    ∃ v st', K v st' = some r ∧ Calls P n vs w (fun e w' => ∃ u th', e = .returned u ∧ RelT X w0 N0 B0 th' st' a w' ∧ VRel X w' (NN N0 th') th' v u)

section
variable {P : Program} {X : Univ U} {prim : Prim U R} {w0 w : World} {N0 B0 : Nat → Prop} {th : Nat → Th} {st : S U} {a : Act} {r : R}

theorem RelT.after (rel : RelT X w0 N0 B0 th st a w) (d : Option Tmp) {v : AV U} {u : Value} {h' : List (AO U)} {w' : World} {th' : Nat → Th} (m : Mem X w0 N0 B0 th' h' w') (hc : Carries X N0 w w' th th') (hv : VRel X w' (NN N0 th') th' v u) :
    RelT X w0 N0 B0 th' (Abs.put st d v h') (a.put d u) w' := by
  have r1 : RelT X w0 N0 B0 th' ⟨st.s, h'⟩ a w' := ⟨rel.len, fun i => hc _ _ (rel.slots i), m, rel.defers⟩
  have := r1.put d hv
  cases d <;> exact this

end
end Go.Abs

namespace Go.Abs
open Go
variable {U : Nat → Type} {R : Type}
section
variable {P : Program} {X : Univ U} {prim : Prim U R} {w0 w : World} {N0 B0 : Nat → Prop} {th : Nat → Th} {st : S U} {a : Act} {r : R}

theorem evArgs_ok (rel : RelT X w0 N0 B0 th st a w) : ∀ (xs : List Operand) (ts : List TypeId), (evArgs P st xs ts).length = xs.length ∧
    ∀ j, j < xs.length → VRel X w (NN N0 th) th ((evArgs P st xs ts).getD j .undef) ((xs.map a.eval).getD j undef)
  | [], _ => ⟨rfl, fun j h => by simp at h⟩
  | x :: xs, t :: ts => by
    obtain ⟨h1, h2⟩ := evArgs_ok rel xs ts
    refine ⟨by simp [evArgs, h1], fun j hj => ?_⟩
    cases j with
    | zero => exact evT_rel rel t x
    | succ j => exact h2 j (by simpa using hj)
  | x :: xs, [] => by
    obtain ⟨h1, h2⟩ := evArgs_ok rel xs []
    refine ⟨by simp [evArgs, h1], fun j hj => ?_⟩
    cases j with
    | zero => exact rel.ev x
    | succ j => exact h2 j (by simpa using hj)

theorem run_callFunc {n : Nat} (h : hasBody P n = true) (args : Array Value) : (callFunc n args).run P w = .ok (.enter n args) w := by
  unfold hasBody at h
  cases hf : P.funcs[n]? with
  | none => rw [hf] at h; cases h
  | some fn =>
    rw [hf] at h
    simp only [Bool.and_eq_true, Bool.not_eq_true'] at h
    simp only [callFunc, Sem.run_bind, run_program, Result.andThen_ok, hf, h.1, h.2]
    simp

theorem put_st (rel : RelT X w0 N0 B0 th st a w) (d : Option Tmp) {v : AV U} {u : Value} (hv : VRel X w (NN N0 th) th v u) : RelT X w0 N0 B0 th (Abs.put st d v st.h) (a.put d u) w := rel.put d hv

theorem exec1_ok (law : Good X) (pok : PrimOK P X prim) {o : Oper} {K : AV U → S U → Option R} (h : exec1 P X prim o st K = some r) (rel : RelT X w0 N0 B0 th st a w)
    {K' : Act → World → Prop} {Q : Exit → Act → World → Prop} (hK : ∀ v st' u w' th', K v st' = some r → RelT X w0 N0 B0 th' (Abs.put st' o.dst v st'.h) (a.put o.dst u) w' → K' (a.put o.dst u) w') : o.wp P a w K' Q := by
  have base : stepM P X o st (fun v h => K v ⟨st.s, h⟩) = some r → o.wp P a w K' Q := fun h => by
    obtain ⟨v, h', hk, ⟨u, w', th', hrun, m, hc, hv⟩⟩ := stepM_ok law h rel
    have := hK v ⟨st.s, h'⟩ u w' th' hk (rel.after o.dst m hc hv)
    rcases hrun with hr | ⟨hr, e⟩
    · exact wp_value hr this
    · subst e; exact wp_skip_ hr this
  unfold exec1 at h
  split at h
  · rename_i c hop
    split at h
    · rename_i f hf
      split at h
      · rename_i n cap ef
        split at h
        · rename_i hb
          have hfv := rel.ev f
          rw [ef] at hfv
          generalize hu : a.eval f = u at hfv
          cases hfv with
          | fn _ _ vs hs hj =>
            obtain ⟨e1, e2⟩ := evArgs_ok (P := P) rel c.args.toList c.argTypes.toList
            obtain ⟨v, st', hk, hcalls⟩ := pok n _ _ _ _ w0 N0 B0 th a w (c.args.map a.eval ++ vs) h rel (by simp [e1, hs]) (by
              intro j hj'
              rw [List.length_append, e1] at hj'
              by_cases hlt : j < c.args.toList.length
              · have := e2 j hlt
                have l1 : (evArgs P st c.args.toList c.argTypes.toList ++ cap).getD j .undef = (evArgs P st c.args.toList c.argTypes.toList).getD j .undef := by
                  rw [List.getD_eq_getElem?_getD, List.getD_eq_getElem?_getD, List.getElem?_append_left (by omega)]
                have l2 : (c.args.map a.eval ++ vs).getD j undef = (c.args.toList.map a.eval).getD j undef := by
                  rw [Array.getD_eq_getD_getElem?, List.getD_eq_getElem?_getD, Array.getElem?_append_left (by simpa using hlt)]
                  simp
                rw [l1, l2]; exact this
              · have := hj (j - c.args.toList.length) (by omega)
                have l1 : (evArgs P st c.args.toList c.argTypes.toList ++ cap).getD j .undef = cap.getD (j - c.args.toList.length) .undef := by
                  rw [List.getD_eq_getElem?_getD, List.getD_eq_getElem?_getD, List.getElem?_append_right (by omega), e1]
                have l2 : (c.args.map a.eval ++ vs).getD j undef = vs.getD (j - c.args.toList.length) undef := by
                  rw [Array.getD_eq_getD_getElem?, Array.getD_eq_getD_getElem?, Array.getElem?_append_right (by simpa using hlt)]
                  simp
                rw [l1, l2]; exact this)
            have hx : (execOp a.eval o).run P w = .ok (.enter n (c.args.map a.eval ++ vs)) w := by
              obtain ⟨dst, op, ty, pos, after, guard⟩ := o
              simp only at hop
              subst hop
              simp only [execOp, resolve, hf, hu, Deferred.ofValue, pure_bind, invoke]
              rw [show (#[] ++ c.args.map a.eval : Array Value) = c.args.map a.eval by simp, run_callFunc hb]
            unfold Oper.wp
            rw [hx, Oper.upon_enter]
            refine hcalls.mono fun e w' hh => ?_
            obtain ⟨u', th', rfl, rel', hv⟩ := hh
            exact hK v st' u' w' th' hk (put_st rel' o.dst hv)
        · cases h
      · cases h
    · exact base h
  · exact base h

theorem bool_of (rel : RelT X w0 N0 B0 th st a w) {d : Nat} {t : Bool} (h : st.s.getD d .undef = .bool t) : a.tmps[d]? = some (.bool t) := by
  have := rel.slots d
  rw [h] at this
  rw [Array.getD_eq_getD_getElem?] at this
  cases hx : a.tmps[d]? with
  | none => rw [hx] at this; cases this
  | some v => rw [hx] at this; cases this; rfl

theorem put_same (rel : RelT X w0 N0 B0 th st a w) {d : Nat} {t : Bool} (h : st.s.getD d .undef = .bool t) : RelT X w0 N0 B0 th (Abs.put st (some d) (.bool t) st.h) a w := by
  have := rel.put (some d) (VRel.bool t)
  have e : a.put (some d) (.bool t) = a := by
    have hb := bool_of rel h
    unfold Act.put
    simp only
    congr 1
    apply Array.ext_getElem?
    intro i
    rw [Array.getElem?_setIfInBounds]
    split
    · rename_i e; subst e
      split
      · exact hb.symm
      · rename_i hn; rw [Array.getElem?_eq_none (by omega)]
    · rfl
  rw [e] at this; exact this

theorem opsC_ok (law : Good X) (pok : PrimOK P X prim) {ops : Array Oper} {Q : Exit → Act → World → Prop} {K : S U → Option R} (hK : ∀ th st a w, K st = some r → RelT X w0 N0 B0 th st a w → Q .normal a w) :
    ∀ (l : List Oper) (th : Nat → Th) (st : S U) (a : Act) (w : World), opsC P X prim ops.toList l st K = some r → RelT X w0 N0 B0 th st a w → wpList P ops Q l a w := by
  intro l
  induction l with
  | nil => intro th st a w h rel; exact wpList_nil (hK th st a w h rel)
  | cons o rest ih =>
    intro th st a w h rel
    refine wpList_step fun K' hK' => ?_
    unfold opsC at h
    split at h
    · rename_i hg
      rw [if_pos (by simp [Region.wanted, hg])]
      exact exec1_ok law pok h rel fun v st' u w' th' hk rel' => hK' _ _ (ih th' _ _ _ hk rel')
    · rename_i j want hg
      split at h
      · cases h
      · rename_i d hd
        split at h
        · rename_i t ht
          have hb := bool_of rel ht
          have hy : yielded ops a.tmps j = some t := by
            have : (ops[j]?).bind (·.dst) = some d := by simpa using hd
            unfold yielded
            rw [this]
            simp [hb]
          have hw : Region.wanted o (yielded ops a.tmps) = (t == want) := by
            simp only [Region.wanted, hg, hy]
            cases t <;> cases want <;> rfl
          have rel1 := put_same rel ht
          cases t <;> cases want <;> simp only [cond_true, cond_false, if_true, Bool.false_eq_true, if_false] at h <;> rw [hw] <;> first | rw [if_pos (by decide)] | rw [if_neg (by decide)]
          · exact exec1_ok law pok h rel1 fun v st' u w' th' hk rel' => hK' _ _ (ih th' _ _ _ hk rel')
          · exact hK' _ _ (ih th _ _ _ h (rel1.put o.dst (.undef _)))
          · exact hK' _ _ (ih th _ _ _ h (rel1.put o.dst (.undef _)))
          · exact exec1_ok law pok h rel1 fun v st' u w' th' hk rel' => hK' _ _ (ih th' _ _ _ hk rel')
        · cases h
end
end Go.Abs

namespace Go.Abs
open Go
variable {U : Nat → Type} {R : Type}

inductive Sb (U : Nat → Type) where
  | drop
  | num (j : Nat)
  | lst (e : Nat) (l : List (U e))

/-- objects under other numbers; rows as what they hold -/
def sub : Nat → (Nat → Sb U) → AV U → AV U
  | _, g, .ptr i c => match g i with | .num j => .ptr j c | _ => .undef
  | _, g, .row i e => match g i with | .num j => .row j e | .lst e' l => .imm e' l | .drop => .undef
  | _, g, .prow i e k c => match g i with | .num j => .prow j e k c | _ => .undef
  | _, g, .mp i => match g i with | .num j => .mp j | _ => .undef
  | 0, _, .agg _ => .undef
  | 0, _, .tup _ => .undef
  | 0, _, .ifc _ _ => .undef
  | 0, _, .fn _ _ => .undef
  | d + 1, g, .agg cs => .agg (cs.map (sub d g))
  | d + 1, g, .tup cs => .tup (cs.map (sub d g))
  | d + 1, g, .ifc t v => .ifc t (sub d g v)
  | d + 1, g, .fn f cs => .fn f (cs.map (sub d g))
  | _, _, .undef => .undef
  | _, _, .bool b => .bool b
  | _, _, .int k n => .int k n
  | _, _, .str s => .str s
  | _, _, .val v => .val v
  | _, _, .nils e => .nils e
  | _, _, .imm e l => .imm e l
  | _, _, .pimm e l j c => .pimm e l j c

theorem sub_free (g : Nat → Sb U) : ∀ (d : Nat) (x : AV U), free d x = true → sub d g x = x := by
  intro d
  induction d with
  | zero => intro x h; cases x <;> first | rfl | (simp [free] at h)
  | succ d ih =>
    have hl : ∀ cs : List (AV U), cs.all (free d) = true → cs.map (sub d g) = cs := fun cs h => by
      have := List.map_congr_left (l := cs) (f := sub d g) (g := id) (fun x hx => ih x (List.all_eq_true.1 h x hx))
      rw [this, List.map_id]
    intro x h
    cases x <;> first | rfl | (simp [free] at h; done) | skip
    · rename_i cs; simp only [sub, hl cs h]
    · rename_i cs; simp only [sub, hl cs h]
    · rename_i t v; simp only [sub, ih v h]
    · rename_i f cs; simp only [sub, hl cs h]

/-- an element names no object -/
def Closed (X : Univ U) : Prop := ∀ e y, (cellsOf (X.enc e y)).all (free 8) = true

theorem Closed.cell {X : Univ U} (h : Closed X) (e : Nat) (y : U e) (k : Nat) : free 8 ((cellsOf (X.enc e y)).getD k .undef) = true := by
  rw [List.getD_eq_getElem?_getD]
  cases hk : (cellsOf (X.enc e y))[k]? with
  | none => rfl
  | some v =>
    obtain ⟨hlt, he⟩ := List.getElem?_eq_some_iff.1 hk
    exact List.all_eq_true.1 (h e y) v (he ▸ List.getElem_mem hlt)

def SbOK (X : Univ U) (w : World) (N' : Nat → Prop) (th th' : Nat → Th) (g : Nat → Sb U) : Prop :=
  ∀ i, match g i with
  | .drop => True
  | .num j => th' j = th i
  | .lst e l => th i = .nil ∧ l = [] ∨ ∃ b cap, ∃ vs : Nat → Value, th i = .blk b (cap, l.length) ∧ ¬ N' b ∧ (∀ k, k < l.length * X.z e → w.cell? ⟨b, 0 + k, none⟩ = some (vs k)) ∧
      ∀ j (_ : j < l.length) k, k < X.z e → VRel X w N' th' ((cellsOf (X.enc e l[j])).getD k .undef) (vs (j * X.z e + k))

theorem map_getD (f : AV U → AV U) (cs : List (AV U)) (j : Nat) (hj : j < cs.length) : (cs.map f).getD j .undef = f (cs.getD j .undef) := by
  simp [List.getD_eq_getElem?_getD, List.getElem?_eq_getElem hj]

theorem sub_rel {X : Univ U} (cl : Closed X) (ps : ∀ e, 0 < X.z e) {w : World} {N N' : Nat → Prop} {th th' : Nat → Th} {g : Nat → Sb U} (hN : ∀ b, N' b → N b)
    (hg : SbOK X w N' th th' g) {x : AV U} {v : Value} (h : VRel X w N th x v) : ∀ d, VRel X w N' th' (sub d g x) v := by
  induction h with
  | undef v => intro d; cases d <;> exact .undef v
  | bool b => intro d; cases d <;> exact .bool b
  | int k n => intro d; cases d <;> exact .int k n
  | str s => intro d; cases d <;> exact .str s
  | val v ho => intro d; cases d <;> exact .val v ho
  | nils e => intro d; cases d <;> exact .nils e
  | imm0 e a c => intro d; cases d <;> exact .imm0 e a c
  | imm e l b off c vs hl hn hc hv ih =>
    have hv' : ∀ j (h : j < l.length) k, k < X.z e → VRel X w N' th' ((cellsOf (X.enc e l[j])).getD k .undef) (vs (j * X.z e + k)) := fun j hj k hk => by
      have := ih j hj k hk 8
      rw [sub_free g 8 _ (cl.cell e _ k)] at this; exact this
    intro d; cases d <;> exact .imm e l b off c vs hl (fun h => hn (hN b h)) hc hv'
  | pimm e l j c b off vs hl hn hc hv ih =>
    have hv' : ∀ j (h : j < l.length) k, k < X.z e → VRel X w N' th' ((cellsOf (X.enc e l[j])).getD k .undef) (vs (j * X.z e + k)) := fun j hj k hk => by
      have := ih j hj k hk 8
      rw [sub_free g 8 _ (cl.cell e _ k)] at this; exact this
    intro d; cases d <;> exact .pimm e l j c b off vs hl (fun h => hn (hN b h)) hc hv'
  | row i e b cap n h hn =>
    have hi := hg i
    intro d
    have e1 : sub d g (.row i e) = (match g i with | .num j => .row j e | .lst e' l => .imm e' l | .drop => .undef) := by cases d <;> rfl
    rw [e1]
    cases hgi : g i with
    | drop => exact .undef _
    | num j => rw [hgi] at hi; exact .row j e b cap n (hi.trans h) hn
    | lst e' l =>
      rw [hgi] at hi
      rcases hi with ⟨h1, _⟩ | ⟨b', cap', vs, h1, h2, h3, h4⟩
      · rw [h] at h1; cases h1
      · rw [h] at h1; injection h1 with q1 q2; injection q2 with q3 q4; subst q1; subst q3; subst q4
        by_cases h0 : 0 < l.length * X.z e'
        · exact .imm e' l b 0 cap vs h0 h2 h3 h4
        · by_cases hll : l = []
          · subst hll; exact .imm0 e' _ cap
          · exact absurd (Nat.mul_pos (List.length_pos_iff.2 hll) (ps e')) h0
  | rowNil i e h =>
    have hi := hg i
    intro d
    have e1 : sub d g (.row i e) = (match g i with | .num j => .row j e | .lst e' l => .imm e' l | .drop => .undef) := by cases d <;> rfl
    rw [e1]
    cases hgi : g i with
    | drop => exact .undef _
    | num j => rw [hgi] at hi; exact .rowNil j e (hi.trans h)
    | lst e' l =>
      rw [hgi] at hi
      rcases hi with ⟨_, h1⟩ | ⟨b', cap', vs, h1, _⟩
      · subst h1; exact .imm0 e' none 0
      · rw [h] at h1; cases h1
  | rowDead i e v ho h =>
    have hi := hg i
    intro d
    have e1 : sub d g (.row i e) = (match g i with | .num j => .row j e | .lst e' l => .imm e' l | .drop => .undef) := by cases d <;> rfl
    rw [e1]
    cases hgi : g i with
    | drop => exact .undef _
    | num j => rw [hgi] at hi; exact .rowDead j e v ho (hi.trans h)
    | lst e' l =>
      rw [hgi] at hi
      rcases hi with ⟨h1, _⟩ | ⟨b', cap', vs, h1, _⟩ <;> rw [h] at h1 <;> cases h1
  | prow i e k c b cap h =>
    have hi := hg i
    intro d
    have e1 : sub d g (.prow i e k c) = (match g i with | .num j => .prow j e k c | _ => .undef) := by cases d <;> rfl
    rw [e1]
    cases hgi : g i with
    | num j => rw [hgi] at hi; exact .prow j e k c b cap (hi.trans h)
    | _ => exact .undef _
  | prowDead i e k c v ho h =>
    have hi := hg i
    intro d
    have e1 : sub d g (.prow i e k c) = (match g i with | .num j => .prow j e k c | _ => .undef) := by cases d <;> rfl
    rw [e1]
    cases hgi : g i with
    | num j => rw [hgi] at hi; exact .prowDead j e k c v ho (hi.trans h)
    | _ => exact .undef _
  | ptr i c b cap h =>
    have hi := hg i
    intro d
    have e1 : sub d g (.ptr i c) = (match g i with | .num j => .ptr j c | _ => .undef) := by cases d <;> rfl
    rw [e1]
    cases hgi : g i with
    | num j => rw [hgi] at hi; exact .ptr j c b cap (hi.trans h)
    | _ => exact .undef _
  | ptrDead i c v ho h =>
    have hi := hg i
    intro d
    have e1 : sub d g (.ptr i c) = (match g i with | .num j => .ptr j c | _ => .undef) := by cases d <;> rfl
    rw [e1]
    cases hgi : g i with
    | num j => rw [hgi] at hi; exact .ptrDead j c v ho (hi.trans h)
    | _ => exact .undef _
  | mp i b cap h =>
    have hi := hg i
    intro d
    have e1 : sub d g (.mp i : AV U) = (match g i with | .num j => .mp j | _ => .undef) := by cases d <;> rfl
    rw [e1]
    cases hgi : g i with
    | num j => rw [hgi] at hi; exact .mp j b cap (hi.trans h)
    | _ => exact .undef _
  | mpDead i v ho h =>
    have hi := hg i
    intro d
    have e1 : sub d g (.mp i : AV U) = (match g i with | .num j => .mp j | _ => .undef) := by cases d <;> rfl
    rw [e1]
    cases hgi : g i with
    | num j => rw [hgi] at hi; exact .mpDead j v ho (hi.trans h)
    | _ => exact .undef _
  | agg cs vs hs h ih =>
    intro d
    cases d with
    | zero => exact .undef _
    | succ d => exact .agg _ vs (by simp [hs]) (fun j hj => by rw [map_getD _ _ _ (by simpa using hj)]; exact ih j (by simpa using hj) d)
  | tup cs vs hs h ih =>
    intro d
    cases d with
    | zero => exact .undef _
    | succ d => exact .tup _ vs (by simp [hs]) (fun j hj => by rw [map_getD _ _ _ (by simpa using hj)]; exact ih j (by simpa using hj) d)
  | ifc t x v h ih =>
    intro d
    cases d with
    | zero => exact .undef _
    | succ d => exact .ifc t _ v (ih d)
  | fn f cs vs hs h ih =>
    intro d
    cases d with
    | zero => exact .undef _
    | succ d => exact .fn f _ vs (by simp [hs]) (fun j hj => by rw [map_getD _ _ _ (by simpa using hj)]; exact ih j (by simpa using hj) d)
end Go.Abs

namespace Go.Abs
open Go
variable {U : Nat → Type} {R : Type}

def refsA : Nat → AV U → List Nat
  | _, .ptr i _ => [i]
  | _, .row i _ => [i]
  | _, .prow i _ _ _ => [i]
  | _, .mp i => [i]
  | d + 1, .agg cs => cs.flatMap (refsA d)
  | d + 1, .tup cs => cs.flatMap (refsA d)
  | d + 1, .ifc _ v => refsA d v
  | d + 1, .fn _ cs => cs.flatMap (refsA d)
  | _, _ => []
def refsO : AO U → List Nat
  | .box cs => cs.flatMap (refsA 8)
  | .mp es => es.flatMap fun p => refsA 8 p.2
  | _ => []
def ins (n : Nat) (o : List Nat) (i : Nat) : List Nat := if o.contains i || !(decide (i < n)) then o else o ++ [i]
def insAll (n : Nat) (o l : List Nat) : List Nat := l.foldl (ins n) o
def close (h : List (AO U)) : Nat → List Nat → List Nat
  | 0, o => o
  | k + 1, o => close h k (insAll h.length o (o.flatMap fun i => refsO (h.getD i .dead)))

def idxG (i : Nat) : Nat → List Nat → Sb U
  | _, [] => .drop
  | k, x :: r => if x == i then .num k else idxG i (k + 1) r

def subO (g : Nat → Sb U) : AO U → AO U
  | .dead => .dead
  | .box cs => .box (cs.map (sub 8 g))
  | .row e l => .row e l
  | .mp es => .mp (es.map fun p => (p.1, sub 8 g p.2))

def renum (o : List Nat) (st : S U) : S U := ⟨st.s.map (sub 8 fun i => idxG i 0 o), o.map fun i => subO (fun i => idxG i 0 o) (st.h.getD i .dead)⟩
def canon (st : S U) : S U := renum (close st.h 3 (insAll st.h.length [] (st.s.flatMap (refsA 8)))) st

def dropL (ks : List Nat) : Nat → List (AV U) → List (AV U)
  | _, [] => []
  | i, v :: r => (if ks.contains i then v else .undef) :: dropL ks (i + 1) r

theorem ins_ok {n : Nat} {o : List Nat} (i : Nat) (h : o.Nodup ∧ ∀ j ∈ o, j < n) : (ins n o i).Nodup ∧ ∀ j ∈ ins n o i, j < n := by
  unfold ins
  split
  · exact h
  · rename_i hc
    simp only [Bool.or_eq_true, List.contains_eq_mem, decide_eq_true_eq, Bool.not_eq_true', decide_eq_false_iff_not, not_or, Classical.not_not] at hc
    refine ⟨?_, fun j hj => ?_⟩
    · rw [List.nodup_append]
      refine ⟨h.1, by simp, fun a ha b hb => ?_⟩
      have : b = i := by simpa using hb
      subst this
      exact fun e => hc.1 (e ▸ ha)
    · rcases List.mem_append.1 hj with hj | hj
      · exact h.2 j hj
      · have : j = i := by simpa using hj
        subst this; exact hc.2

theorem insAll_ok {n : Nat} : ∀ (l o : List Nat), (o.Nodup ∧ ∀ j ∈ o, j < n) → (insAll n o l).Nodup ∧ ∀ j ∈ insAll n o l, j < n
  | [], _, h => h
  | i :: l, o, h => insAll_ok l (ins n o i) (ins_ok i h)

theorem close_ok {h : List (AO U)} : ∀ (k : Nat) (o : List Nat), (o.Nodup ∧ ∀ j ∈ o, j < h.length) → (close h k o).Nodup ∧ ∀ j ∈ close h k o, j < h.length
  | 0, _, hh => hh
  | k + 1, _, hh => close_ok k _ (insAll_ok _ _ hh)

theorem idxG_num {i : Nat} : ∀ {o : List Nat} {k j : Nat}, (idxG i k o : Sb U) = .num j → k ≤ j ∧ o[j - k]? = some i
  | [], _, _, h => by cases h
  | x :: r, k, j, h => by
    unfold idxG at h
    split at h
    · rename_i hx
      injection h with h; subst h
      simp only [beq_iff_eq] at hx
      subst hx
      exact ⟨Nat.le_refl _, by simp⟩
    · obtain ⟨h1, h2⟩ := idxG_num h
      refine ⟨by omega, ?_⟩
      have : j - k = (j - (k + 1)) + 1 := by omega
      rw [this]; simpa using h2
theorem idxG_lst {i : Nat} : ∀ {o : List Nat} {k e : Nat} {l : List (U e)}, (idxG i k o : Sb U) ≠ .lst e l
  | [], _, _, _ => by intro h; cases h
  | x :: r, k, e, l => by
    unfold idxG
    split
    · intro h; cases h
    · exact idxG_lst

theorem nodup_inj {o : List Nat} (h : o.Nodup) {i j : Nat} (hi : i < o.length) (hj : j < o.length) (e : o[i] = o[j]) : i = j := by
  have hp := List.pairwise_iff_getElem.1 h
  rcases Nat.lt_trichotomy i j with hlt | he | hlt
  · exact absurd e (hp i j hi hj hlt)
  · exact he
  · exact absurd e.symm (hp j i hj hi hlt)

section
variable {X : Univ U} {w0 w : World} {N0 B0 : Nat → Prop} {th : Nat → Th} {st : S U} {a : Act}

def thAt (th : Nat → Th) (o : List Nat) (j : Nat) : Th := match o[j]? with | some i => th i | none => .none

theorem nn_at {o : List Nat} {b : Nat} (h : NN N0 (thAt th o) b) : NN N0 th b := by
  rcases h with h | ⟨j, c, h⟩
  · exact .inl h
  · unfold thAt at h
    split at h
    · exact .inr ⟨_, c, h⟩
    · cases h

theorem sbOK_idx (o : List Nat) : SbOK X w (NN N0 (thAt th o)) th (thAt th o) (fun i => idxG i 0 o) := by
  intro i
  cases hg : (idxG i 0 o : Sb U) with
  | drop => simp only [hg]
  | num j =>
    obtain ⟨_, h2⟩ := idxG_num hg
    simp only [Nat.sub_zero] at h2
    simp only [hg]
    unfold thAt; rw [h2]
  | lst e l => exact absurd hg idxG_lst

theorem subO_rel (cl : Closed X) (ps : ∀ e, 0 < X.z e) {N N' : Nat → Prop} {th' : Nat → Th} {g : Nat → Sb U} (hN : ∀ b, N' b → N b) (hg : SbOK X w N' th th' g) {i j : Nat} {x : AO U} (hij : th' j = th i) (h : ORel X w N th i x) : ORel X w N' th' j (subO g x) := by
  have hv : ∀ {x : AV U} {v : Value}, VRel X w N th x v → VRel X w N' th' (sub 8 g x) v := fun h => sub_rel cl ps hN hg h 8
  cases x with
  | dead => exact hij.trans h
  | box cs =>
    obtain ⟨b, T, cur, h1, h2, h3, h4⟩ := h
    exact ⟨b, T, cur, hij.trans h1, h2, by simpa using h3, fun k hk => by rw [map_getD _ _ _ (by simpa using hk)]; exact hv (h4 k (by simpa using hk))⟩
  | row e l =>
    rcases h with ⟨h1, h2⟩ | ⟨b, cap, cur, h1, h2, h3, h4, h5, h6⟩
    · exact .inl ⟨hij.trans h1, h2⟩
    · refine .inr ⟨b, cap, cur, hij.trans h1, h2, h3, h4, h5, fun q hq k hk => ?_⟩
      have := hv (h6 q hq k hk)
      rw [sub_free g 8 _ (Closed.cell cl e _ k)] at this; exact this
  | mp es =>
    obtain ⟨b, mes, clock, h1, h2, h3, h4⟩ := h
    refine ⟨b, mes, clock, hij.trans h1, h2, by simpa using h3, fun k hk => ?_⟩
    have hk' : k < es.length := by simpa using hk
    obtain ⟨m, m1, m2, m3⟩ := h4 k hk'
    refine ⟨m, m1, ?_, ?_⟩
    · rw [m2]; simp [List.getD_eq_getElem?_getD, List.getElem?_eq_getElem hk']
    · have e1 : ((es.map fun p => (p.1, sub 8 g p.2)).getD k (undef, .undef)).2 = sub 8 g (es.getD k (undef, .undef)).2 := by simp [List.getD_eq_getElem?_getD, List.getElem?_eq_getElem hk']
      rw [e1]; exact hv m3

theorem renum_mem (cl : Closed X) (ps : ∀ e, 0 < X.z e) {h : List (AO U)} (m : Mem X w0 N0 B0 th h w) {o : List Nat} (ho : o.Nodup ∧ ∀ j ∈ o, j < h.length) :
    Mem X w0 N0 B0 (thAt th o) (o.map fun i => subO (fun i => idxG i 0 o) (h.getD i .dead)) w where
  objs := fun j hj => by
    have hj' : j < o.length := by simpa using hj
    have e1 : (o.map fun i => subO (fun i => idxG i 0 o) (h.getD i .dead)).getD j .dead = subO (fun i => idxG i 0 o) (h.getD o[j] .dead) := by
      rw [List.getD_eq_getElem?_getD, List.getElem?_map, List.getElem?_eq_getElem hj']; rfl
    rw [e1]
    exact subO_rel cl ps (fun b => nn_at) (sbOK_idx o) (i := o[j]) (by unfold thAt; rw [List.getElem?_eq_getElem hj']) (m.objs o[j] (ho.2 _ (List.getElem_mem hj')))
  out := fun j hj => by
    have hj' : o.length ≤ j := by simpa using hj
    unfold thAt; rw [List.getElem?_eq_none hj']
  own := fun j b c hj => by
    unfold thAt at hj
    split at hj
    · exact m.own _ b c hj
    · cases hj
  inj := fun i j b c d hi hj => by
    unfold thAt at hi hj
    split at hi
    · rename_i i' hi'
      split at hj
      · rename_i j' hj'
        have e := m.inj i' j' b c d hi hj
        subst e
        obtain ⟨a1, a2⟩ := List.getElem?_eq_some_iff.1 hi'
        obtain ⟨b1, b2⟩ := List.getElem?_eq_some_iff.1 hj'
        exact nodup_inj ho.1 a1 b1 (a2.trans b2.symm)
      · cases hj
    · cases hi
  n0 := m.n0
  size := m.size
  os := m.os
  tape := m.tape
  output := m.output
  keep := m.keep

theorem renum_ok (cl : Closed X) (ps : ∀ e, 0 < X.z e) (rel : RelT X w0 N0 B0 th st a w) {o : List Nat} (ho : o.Nodup ∧ ∀ j ∈ o, j < st.h.length) : RelT X w0 N0 B0 (thAt th o) (renum o st) a w where
  len := by simpa [renum] using rel.len
  slots := fun i => by
    by_cases hi : i < st.s.length
    · have : (renum o st).s.getD i .undef = sub 8 (fun i => idxG i 0 o) (st.s.getD i .undef) := map_getD _ _ _ hi
      rw [this]
      exact sub_rel cl ps (fun b => nn_at) (sbOK_idx o) (rel.slots i) 8
    · have : (renum o st).s.getD i .undef = .undef := by
        rw [List.getD_eq_getElem?_getD, List.getElem?_eq_none (by simp [renum]; omega)]; rfl
      rw [this]; exact .undef _
  mem := renum_mem cl ps rel.mem ho
  defers := rel.defers

theorem canon_ok (cl : Closed X) (ps : ∀ e, 0 < X.z e) (rel : RelT X w0 N0 B0 th st a w) : ∃ th', RelT X w0 N0 B0 th' (canon st) a w :=
  ⟨_, renum_ok cl ps rel (close_ok _ _ (insAll_ok _ _ ⟨List.nodup_nil, fun j h => by cases h⟩))⟩

theorem dropL_getD (ks : List Nat) : ∀ (l : List (AV U)) (k i : Nat), (dropL ks k l).getD i .undef = .undef ∨ (dropL ks k l).getD i .undef = l.getD i .undef
  | [], _, _ => .inr rfl
  | v :: r, k, 0 => by
    unfold dropL
    split
    · exact .inr rfl
    · exact .inl rfl
  | v :: r, k, i + 1 => by
    unfold dropL
    simpa only [List.getD_cons_succ] using dropL_getD ks r (k + 1) i
theorem dropL_len (ks : List Nat) : ∀ (l : List (AV U)) (k : Nat), (dropL ks k l).length = l.length
  | [], _ => rfl
  | v :: r, k => by simp [dropL, dropL_len ks r (k + 1)]

theorem drop_ok (ks : List Nat) (rel : RelT X w0 N0 B0 th st a w) : RelT X w0 N0 B0 th ⟨dropL ks 0 st.s, st.h⟩ a w where
  len := by simpa [dropL_len] using rel.len
  slots := fun i => by
    rcases dropL_getD ks st.s 0 i with h | h
    · rw [h]; exact .undef _
    · rw [h]; exact rel.slots i
  mem := rel.mem
  defers := rel.defers
end
end Go.Abs

namespace Go.Abs
open Go Go.RowKit
variable {U : Nat → Type} {R : Type}

/-- row i is frozen -/
def frzG (i e : Nat) (l : List (U e)) (j : Nat) : Sb U := if j == i then .lst e l else .num j
def frzRow (i e : Nat) (l : List (U e)) (st : S U) : S U := ⟨st.s.map (sub 8 (frzG i e l)), (st.h.map (subO (frzG i e l))).set i .dead⟩
def frz1 (i : Nat) (p : S U × List (AV U)) : S U × List (AV U) :=
  match p.1.h.getD i .dead with
  | .row e l => (frzRow i e l p.1, p.2.map (sub 8 (frzG i e l)))
  | _ => p
def frzAll (l : List Nat) (p : S U × List (AV U)) : S U × List (AV U) := l.foldl (fun p i => frz1 i p) p

/-- a nil slice is an empty list -/
def nrm : Nat → AV U → AV U
  | _, .nils e => .imm e []
  | d + 1, .agg cs => .agg (cs.map (nrm d))
  | d + 1, .tup cs => .tup (cs.map (nrm d))
  | _, x => x

def gRow (h : List (AO U)) (i : Nat) : Sb U := match h.getD i .dead with | .row e l => .lst e l | _ => .drop
def lend (h : List (AO U)) (x : AV U) : AV U := nrm 8 (sub 8 (gRow h) x)
def lend2 (x : AV U) : AV U := nrm 8 (sub 8 (fun _ => .drop) x)

/-- nothing but numbers, texts and the like -/
def plainV : Nat → AV U → Bool
  | _, .bool _ => true
  | _, .int _ _ => true
  | _, .str _ => true
  | _, .val _ => true
  | d + 1, .agg cs => cs.all (plainV d)
  | d + 1, .tup cs => cs.all (plainV d)
  | d + 1, .ifc _ v => plainV d v
  | d + 1, .fn _ cs => cs.all (plainV d)
  | _, _ => false

def noTh : Nat → Th := fun _ => Th.none

section
variable {X : Univ U} {w0 w w' : World} {N0 B0 N N' : Nat → Prop} {th th' : Nat → Th} {st : S U} {a : Act} {h : List (AO U)}

theorem nrm_rel {x : AV U} {v : Value} (hx : VRel X w N th x v) : ∀ d, VRel X w N th (nrm d x) v := by
  induction hx with
  | nils e => intro d; cases d <;> exact .imm0 e none 0
  | agg cs vs hs h ih =>
    intro d
    cases d with
    | zero => exact .agg cs vs hs h
    | succ d => exact .agg _ vs (by simp [hs]) (fun j hj => by rw [map_getD _ _ _ (by simpa using hj)]; exact ih j (by simpa using hj) d)
  | tup cs vs hs h ih =>
    intro d
    cases d with
    | zero => exact .tup cs vs hs h
    | succ d => exact .tup _ vs (by simp [hs]) (fun j hj => by rw [map_getD _ _ _ (by simpa using hj)]; exact ih j (by simpa using hj) d)
  | undef v => intro d; cases d <;> exact .undef v
  | bool b => intro d; cases d <;> exact .bool b
  | int k n => intro d; cases d <;> exact .int k n
  | str s => intro d; cases d <;> exact .str s
  | val v ho => intro d; cases d <;> exact .val v ho
  | imm0 e a c => intro d; cases d <;> exact .imm0 e a c
  | imm e l b off c vs hl hn hc hv _ => intro d; cases d <;> exact .imm e l b off c vs hl hn hc hv
  | pimm e l j c b off vs hl hn hc hv _ => intro d; cases d <;> exact .pimm e l j c b off vs hl hn hc hv
  | row i e b cap n h hn => intro d; cases d <;> exact .row i e b cap n h hn
  | rowNil i e h => intro d; cases d <;> exact .rowNil i e h
  | rowDead i e v ho h => intro d; cases d <;> exact .rowDead i e v ho h
  | prow i e k c b cap h => intro d; cases d <;> exact .prow i e k c b cap h
  | prowDead i e k c v ho h => intro d; cases d <;> exact .prowDead i e k c v ho h
  | ptr i c b cap h => intro d; cases d <;> exact .ptr i c b cap h
  | ptrDead i c v ho h => intro d; cases d <;> exact .ptrDead i c v ho h
  | mp i b cap h => intro d; cases d <;> exact .mp i b cap h
  | mpDead i v ho h => intro d; cases d <;> exact .mpDead i v ho h
  | ifc t x v h _ => intro d; cases d <;> exact .ifc t x v h
  | fn f cs vs hs h _ => intro d; cases d <;> exact .fn f cs vs hs h

theorem plain_any : ∀ (d : Nat) {x : AV U} {v : Value}, plainV d x = true → VRel X w N th x v → VRel X w' N' th' x v := by
  intro d
  induction d with
  | zero => intro x v hp hx; cases hx <;> first | exact .bool _ | exact .int _ _ | exact .str _ | (rename_i h; exact .val _ h) | (simp [plainV] at hp)
  | succ d ih =>
    have hl : ∀ {cs : List (AV U)} {vs : Array Value}, cs.all (plainV d) = true → (∀ j, j < cs.length → VRel X w N th (cs.getD j .undef) (vs.getD j undef)) → ∀ j, j < cs.length → VRel X w' N' th' (cs.getD j .undef) (vs.getD j undef) := fun {cs vs} ha hr j hj => by
      refine ih (List.all_eq_true.1 ha _ ?_) (hr j hj)
      rw [List.getD_eq_getElem?_getD, List.getElem?_eq_getElem hj]
      exact List.getElem_mem hj
    intro x v hp hx
    cases hx with
    | bool b => exact .bool b
    | int k n => exact .int k n
    | str s => exact .str s
    | val v h => exact .val v h
    | agg cs vs hs h => exact .agg cs vs hs (hl hp h)
    | tup cs vs hs h => exact .tup cs vs hs (hl hp h)
    | ifc t x v h => exact .ifc t x v (ih hp h)
    | fn f cs vs hs h => exact .fn f cs vs hs (hl hp h)
    | _ => simp [plainV] at hp

/-- no object of a closed value: any numbering serves -/
theorem closed_rel (cl : Closed X) (ps : ∀ e, 0 < X.z e) (hN : ∀ b, N' b → N b) {e : Nat} {y : U e} {k : Nat} {v : Value} (h : VRel X w N th ((cellsOf (X.enc e y)).getD k .undef) v) : VRel X w N' th' ((cellsOf (X.enc e y)).getD k .undef) v := by
  have := sub_rel (N' := N') (th' := th') (g := fun _ => .drop) cl ps hN (fun _ => trivial) h 8
  rw [sub_free _ 8 _ (Closed.cell cl e _ k)] at this; exact this

theorem row_lst (cl : Closed X) (ps : ∀ e, 0 < X.z e) (m : Mem X w0 N0 B0 th h w) (hN : ∀ b, N' b → NN N0 th b) {i e : Nat} {l : List (U e)} (ho : h.getD i .dead = .row e l) (hni : ∀ b c, th i = .blk b c → ¬ N' b) :
    th i = .nil ∧ l = [] ∨ ∃ b cap, ∃ vs : Nat → Value, th i = .blk b (cap, l.length) ∧ ¬ N' b ∧ (∀ k, k < l.length * X.z e → w.cell? ⟨b, 0 + k, none⟩ = some (vs k)) ∧
      ∀ j (_ : j < l.length) k, k < X.z e → VRel X w N' th' ((cellsOf (X.enc e l[j])).getD k .undef) (vs (j * X.z e + k)) := by
  rcases m.row_at ho with h1 | ⟨b, cap, cur, h1, h2, h3, h4, h5, h6⟩
  · exact .inl h1
  · refine .inr ⟨b, cap, fun k => cur.getD k undef, h1, hni b _ h1, fun k hk => ?_, fun j hj k hk => closed_rel cl ps hN (h6 j hj k hk)⟩
    have hlt : k < cur.size := by
      rw [h4]; exact Nat.lt_of_lt_of_le hk (Nat.mul_le_mul_right _ h5)
    simp [World.cell?, h2, hlt]

theorem nn_kill {i b : Nat} (h : NN N0 (thNew th i .dead) b) : NN N0 th b := by
  rcases h with h | ⟨j, c, h⟩
  · exact .inl h
  · by_cases e : j = i
    · subst e; rw [thNew_same] at h; cases h
    · rw [thNew_other _ _ e] at h; exact .inr ⟨j, c, h⟩

theorem frz_sb (cl : Closed X) (ps : ∀ e, 0 < X.z e) (m : Mem X w0 N0 B0 th h w) {i e : Nat} {l : List (U e)} (ho : h.getD i .dead = .row e l) : SbOK X w (NN N0 (thNew th i .dead)) th (thNew th i .dead) (frzG i e l) := by
  intro j
  unfold frzG
  by_cases hj : j = i
  · subst hj
    simp only [beq_self_eq_true, if_true]
    refine row_lst cl ps m (fun b => nn_kill) ho fun b c hb hn => ?_
    rcases hn with hn | ⟨k, d, hk⟩
    · exact (m.own j b c hb).2.2 hn
    · by_cases e : k = j
      · subst e; rw [thNew_same] at hk; cases hk
      · rw [thNew_other _ _ e] at hk; exact e (m.inj k j b d c hk hb)
  · have : (j == i) = false := by simpa using hj
    simp only [this, Bool.false_eq_true, if_false]
    exact thNew_other _ _ hj

theorem frzRow_ok (cl : Closed X) (ps : ∀ e, 0 < X.z e) (rel : RelT X w0 N0 B0 th st a w) {i e : Nat} {l : List (U e)} (ho : st.h.getD i .dead = .row e l) : RelT X w0 N0 B0 (thNew th i .dead) (frzRow i e l st) a w := by
  have m := rel.mem
  have hs := frz_sb cl ps m ho
  have hil := getD_alive ho (by simp)
  have hlen : ((st.h.map (subO (frzG i e l))).set i .dead).length = st.h.length := by simp
  refine ⟨by simpa [frzRow] using rel.len, fun j => ?_, ?_, rel.defers⟩
  · by_cases hj : j < st.s.length
    · have : (frzRow i e l st).s.getD j .undef = sub 8 (frzG i e l) (st.s.getD j .undef) := map_getD _ _ _ hj
      rw [this]; exact sub_rel cl ps (fun b => nn_kill) hs (rel.slots j) 8
    · have : (frzRow i e l st).s.getD j .undef = .undef := by
        rw [List.getD_eq_getElem?_getD, List.getElem?_eq_none (by simp [frzRow]; omega)]; rfl
      rw [this]; exact .undef _
  · exact {
      objs := fun j hj => by
        have hj' : j < st.h.length := by simpa [frzRow] using hj
        by_cases e1 : j = i
        · subst e1
          have : (frzRow j e l st).h.getD j .dead = .dead := getD_set_same _ _ _ (by simpa using hil)
          rw [this]; exact thNew_same _ _ _
        · have : (frzRow i e l st).h.getD j .dead = subO (frzG i e l) (st.h.getD j .dead) := by
            show ((st.h.map (subO (frzG i e l))).set i .dead).getD j .dead = _
            rw [getD_set_other _ _ _ _ e1, List.getD_eq_getElem?_getD, List.getElem?_map, List.getD_eq_getElem?_getD, List.getElem?_eq_getElem hj']; rfl
          rw [this]
          exact subO_rel cl ps (fun b => nn_kill) hs (thNew_other _ _ e1) (m.objs j hj')
      out := fun j hj => by
        have hj' : st.h.length ≤ j := by simpa [frzRow] using hj
        rw [thNew_other _ _ (by omega)]; exact m.out j hj'
      own := fun j b c hj => by
        by_cases e1 : j = i
        · subst e1; rw [thNew_same] at hj; cases hj
        · rw [thNew_other _ _ e1] at hj; exact m.own j b c hj
      inj := fun j k b c d hj hk => by
        by_cases e1 : j = i
        · subst e1; rw [thNew_same] at hj; cases hj
        · by_cases e2 : k = i
          · subst e2; rw [thNew_same] at hk; cases hk
          · rw [thNew_other _ _ e1] at hj; rw [thNew_other _ _ e2] at hk; exact m.inj j k b c d hj hk
      n0 := m.n0, size := m.size, os := m.os, tape := m.tape, output := m.output, keep := m.keep }

def ArgsRel (X : Univ U) (w : World) (N : Nat → Prop) (th : Nat → Th) (args : List (AV U)) (vs : Array Value) : Prop := ∀ j, j < args.length → VRel X w N th (args.getD j .undef) (vs.getD j undef)

theorem frzAll_ok (cl : Closed X) (ps : ∀ e, 0 < X.z e) {vs : Array Value} : ∀ (l : List Nat) (th : Nat → Th) (p : S U × List (AV U)), RelT X w0 N0 B0 th p.1 a w → ArgsRel X w (NN N0 th) th p.2 vs →
    ∃ th', RelT X w0 N0 B0 th' (frzAll l p).1 a w ∧ ArgsRel X w (NN N0 th') th' (frzAll l p).2 vs ∧ (frzAll l p).2.length = p.2.length
  | [], th, p, h1, h2 => ⟨th, h1, h2, rfl⟩
  | i :: l, th, p, h1, h2 => by
    have step : ∃ th', RelT X w0 N0 B0 th' (frz1 i p).1 a w ∧ ArgsRel X w (NN N0 th') th' (frz1 i p).2 vs ∧ (frz1 i p).2.length = p.2.length := by
      unfold frz1
      split
      · rename_i e l ho
        refine ⟨_, frzRow_ok cl ps h1 ho, fun j hj => ?_, by simp⟩
        have hj' : j < p.2.length := by simpa using hj
        show VRel _ _ _ _ ((p.2.map (sub 8 (frzG i e l))).getD j .undef) _
        rw [map_getD _ _ _ hj']
        exact sub_rel cl ps (fun b => nn_kill) (frz_sb cl ps h1.mem ho) (h2 j hj') 8
      · exact ⟨th, h1, h2, rfl⟩
    obtain ⟨th1, g1, g2, g3⟩ := step
    obtain ⟨th2, k1, k2, k3⟩ := frzAll_ok cl ps l th1 (frz1 i p) g1 g2
    exact ⟨th2, k1, k2, k3.trans g3⟩

theorem lend_rel (cl : Closed X) (ps : ∀ e, 0 < X.z e) (m : Mem X w0 N0 B0 th h w) {x : AV U} {v : Value} (hx : VRel X w (NN N0 th) th x v) : VRel X w N0 noTh (lend h x) v := by
  refine nrm_rel (sub_rel cl ps (fun b hb => .inl hb) (fun i => ?_) hx 8) 8
  unfold gRow
  split
  · trivial
  · rename_i j hj
    split at hj <;> cases hj
  · rename_i e l hj
    split at hj
    · rename_i e' l' ho
      injection hj with h1 h2; subst h1; cases h2
      exact row_lst cl ps m (fun b hb => .inl hb) ho fun b c hb => (m.own i b c hb).2.2
    · cases hj

theorem lend2_rel (cl : Closed X) (ps : ∀ e, 0 < X.z e) {x : AV U} {v : Value} (hx : VRel X w (NN N0 th) th x v) : VRel X w (NN N0 th) noTh (lend2 x) v :=
  nrm_rel (sub_rel cl ps (fun _ h => h) (fun _ => trivial) hx 8) 8

theorem below_ok (rel : RelT X w0 N0 B0 th st a w) (hb : Below w.heap.size w w') : RelT X w0 N0 B0 th st a w' ∧ Carries X N0 w w' th th := by
  have hc : Carries X N0 w w' th th := carries2 (fun b hlt _ => hb.block b hlt) (fun _ => .inr (.inl rfl)) (fun _ h => .inl h)
  refine ⟨⟨rel.len, fun i => hc _ _ (rel.slots i), ?_, rel.defers⟩, hc⟩
  have m := rel.mem
  exact m.step2 hb.size hb.os hb.tape hb.output (fun b hlt _ => hb.block b hlt) (fun _ h => .inl h) (fun i hi => (m.objs i hi).mono rfl (fun b c hbc => hb.block b (m.own i b c hbc).2.1) hc) m.out m.inj
end
end Go.Abs

namespace Go.Abs
open Go Go.RowKit
variable {U : Nat → Type} {R : Type}

/-- what a function with no objects of the caller's answers -/
def Pure (P : Program) (X : Univ U) (n : Nat) (args : List (AV U)) (out : AV U) : Prop :=
  ∀ (w : World) (N : Nat → Prop) (vs : Array Value), (∀ b, N b → b < w.heap.size) → vs.size = args.length → ArgsRel X w N noTh args vs →
    Calls P n vs w (fun e w' => ∃ u, e = .returned u ∧ VRel X w' N noTh out u ∧ Below w.heap.size w w')

/-- a callee's answer, for the interpreter -/
abbrev Fn (U : Nat → Type) (R : Type) := List (AV U) → (AV U → Option R) → Option R
def FnOK (P : Program) (X : Univ U) (n : Nat) (f : Fn U R) : Prop := ∀ args k r, f args k = some r → ∃ v, k v = some r ∧ Pure P X n args v

/-- its result leads to no slice -/
def callA (f : Fn U R) (args : List (AV U)) (st : S U) (K : AV U → S U → Option R) : Option R :=
  f (args.map (lend st.h)) fun v => if plainV 8 v then K v st else none
/-- its result may lead into what it was handed -/
def callB (f : Fn U R) (args : List (AV U)) (st : S U) (K : AV U → S U → Option R) : Option R :=
  f ((frzAll (args.flatMap (refsA 8)) (st, args)).2.map lend2) fun v => K v (frzAll (args.flatMap (refsA 8)) (st, args)).1

def start (args : List (AV U)) (n : Nat) (h : List (AO U)) : S U := ⟨args ++ List.replicate (n - args.length) .undef, h⟩

def res1 (P : Program) (st : S U) : ResultVar → Option (AV U)
  | .tmp t => some (st.s.getD t .undef)
  | .cell a t =>
    match st.s.getD a .undef with
    | .ptr i c => (match st.h.getD i .dead with | .box cs => if loadOK P t cs.length c then some (loadC P t cs c) else none | _ => none)
    | _ => none
def resL (P : Program) (st : S U) : List ResultVar → Option (List (AV U))
  | [] => some []
  | r :: rs => match res1 P st r, resL P st rs with | some v, some l => some (v :: l) | _, _ => none
def resV (P : Program) (st : S U) (rs : List ResultVar) : Option (AV U) :=
  match resL P st rs with
  | some [v] => some v
  | some l => some (.tup l)
  | none => none

section
variable {P : Program} {X : Univ U} {w0 w : World} {N0 B0 N : Nat → Prop} {th : Nat → Th} {st : S U} {a : Act} {h : List (AO U)} {r : R}

theorem argsRel_map {f : AV U → AV U} {N' : Nat → Prop} {th' : Nat → Th} {args : List (AV U)} {vs : Array Value} (hf : ∀ x v, VRel X w N th x v → VRel X w N' th' (f x) v) (ha : ArgsRel X w N th args vs) : ArgsRel X w N' th' (args.map f) vs := fun j hj => by
  have hj' : j < args.length := by simpa using hj
  rw [map_getD _ _ _ hj']; exact hf _ _ (ha j hj')

theorem th_of_no {v : AV U} {u : Value} (hv : VRel X w N noTh v u) : VRel X w N th v u := hv.mono (fun _ _ _ => rfl) (fun _ hb => .inl hb) (fun _ => .inl rfl)

theorem callA_ok (g : Good X) {n : Nat} {f : Fn U R} (hf : FnOK P X n f) {args : List (AV U)} {K : AV U → S U → Option R} {vs : Array Value} (hr : callA f args st K = some r) (rel : RelT X w0 N0 B0 th st a w) (hs : vs.size = args.length) (ha : ArgsRel X w (NN N0 th) th args vs) :
    ∃ v st', K v st' = some r ∧ Calls P n vs w (fun e w' => ∃ u th', e = .returned u ∧ RelT X w0 N0 B0 th' st' a w' ∧ VRel X w' (NN N0 th') th' v u) := by
  obtain ⟨v, hk, hp⟩ := hf _ _ _ hr
  split at hk
  · rename_i hpl
    refine ⟨v, st, hk, (hp w N0 vs (fun b hb => Nat.lt_of_lt_of_le (rel.mem.n0 b hb) rel.mem.size) (by simpa using hs) (argsRel_map (fun x v hx => lend_rel g.closed g.pos rel.mem hx) ha)).mono fun e w' hh => ?_⟩
    obtain ⟨u, rfl, hu, hb⟩ := hh
    exact ⟨u, th, rfl, (below_ok rel hb).1, plain_any 8 hpl hu⟩
  · cases hk

theorem callB_ok (g : Good X) {n : Nat} {f : Fn U R} (hf : FnOK P X n f) {args : List (AV U)} {K : AV U → S U → Option R} {vs : Array Value} (hr : callB f args st K = some r) (rel : RelT X w0 N0 B0 th st a w) (hs : vs.size = args.length) (ha : ArgsRel X w (NN N0 th) th args vs) :
    ∃ v st', K v st' = some r ∧ Calls P n vs w (fun e w' => ∃ u th', e = .returned u ∧ RelT X w0 N0 B0 th' st' a w' ∧ VRel X w' (NN N0 th') th' v u) := by
  obtain ⟨v, hk, hp⟩ := hf _ _ _ hr
  obtain ⟨th', rel', ha', hl⟩ := frzAll_ok g.closed g.pos (vs := vs) (args.flatMap (refsA 8)) th (st, args) rel ha
  refine ⟨v, _, hk, (hp w (NN N0 th') vs (fun b hb => ?_) (by rw [List.length_map, hl]; exact hs) (argsRel_map (fun x v hx => lend2_rel g.closed g.pos hx) ha')).mono fun e w' hh => ?_⟩
  · rcases hb with hb | ⟨i, c, hb⟩
    · exact Nat.lt_of_lt_of_le (rel.mem.n0 b hb) rel.mem.size
    · exact (rel'.mem.own i b c hb).2.1
  · obtain ⟨u, rfl, hu, hb⟩ := hh
    exact ⟨u, th', rfl, (below_ok rel' hb).1, th_of_no hu⟩

theorem start_ok {args : List (AV U)} {vs : Array Value} {n : Nat} (m : Mem X w0 N0 B0 th h w) (hs : vs.size = args.length) (ha : ArgsRel X w (NN N0 th) th args vs) :
    RelT X w0 N0 B0 th (start args n h) { tmps := vs ++ Array.replicate (n - vs.size) undef, defers := [] } w where
  len := by simp [start, hs]
  slots := fun i => by
    by_cases hi : i < args.length
    · have e1 : (start args n h).s.getD i .undef = args.getD i .undef := by
        show (args ++ List.replicate (n - args.length) AV.undef).getD i .undef = _
        rw [List.getD_eq_getElem?_getD, List.getElem?_append_left hi, ← List.getD_eq_getElem?_getD]
      have e2 : (vs ++ Array.replicate (n - vs.size) undef).getD i undef = vs.getD i undef := by
        rw [Array.getD_eq_getD_getElem?, Array.getElem?_append_left (by omega), ← Array.getD_eq_getD_getElem?]
      rw [e1, e2]; exact ha i hi
    · have e1 : (start args n h).s.getD i .undef = .undef := by
        show (args ++ List.replicate (n - args.length) AV.undef).getD i .undef = _
        rw [List.getD_eq_getElem?_getD, List.getElem?_append_right (by omega), List.getElem?_replicate]
        split <;> rfl
      rw [e1]; exact .undef _
  mem := m
  defers := rfl

theorem mem_empty (X : Univ U) (w : World) (N : Nat → Prop) (hN : ∀ b, N b → b < w.heap.size) : Mem X w N (fun _ => False) noTh ([] : List (AO U)) w where
  objs := fun i hi => by simp at hi
  out := fun _ _ => rfl
  own := fun i b c hi => by cases hi
  inj := fun i j b c d hi _ => by cases hi
  n0 := hN
  size := Nat.le_refl _
  os := rfl
  tape := rfl
  output := rfl
  keep := fun _ _ _ => rfl

def rvS (tmps : Array Value) : ResultVar → Sem Value
  | .tmp t => pure (tmps.getD t undef)
  | .cell a t => do loadVar t (← asAddr (tmps.getD a undef))

theorem results_eq (fn : Func) (tmps : Array Value) : results fn tmps = (do
    let vs ← fn.results.mapM (rvS tmps)
    pure (if h : vs.size = 1 then vs[0] else .tuple vs)) := by
  unfold results
  congr 1

theorem res1_ok (rel : RelT X w0 N0 B0 th st a w) {rv : ResultVar} {v : AV U} (h : res1 P st rv = some v) :
    ∃ u, (rvS a.tmps rv).run P w = .ok u w ∧ VRel X w (NN N0 th) th v u := by
  unfold res1 at h
  split at h
  · injection h with h; subst h
    exact ⟨_, rfl, rel.slots _⟩
  · rename_i ad t
    split at h
    · rename_i i c es
      split at h
      · rename_i cs ho
        split at h
        · rename_i hok
          injection h with h; subst h
          have hx := rel.slots ad
          rw [es] at hx
          obtain ⟨b, v, h1, h2, h3⟩ := rel.mem.load_box ho hok
          generalize hu : a.tmps.getD ad undef = u at hx
          cases hx with
          | ptr _ _ b' cap h' =>
            rw [h1] at h'; injection h' with e1 e2; subst e1
            refine ⟨v, ?_, h3⟩
            have h2' : (loadVar t ⟨b, c, none⟩).run P w = .ok v w := by
              simpa [Instr.loadAt, Instr.sureAddr] using h2
            simp only [rvS, hu, asAddr, Sem.run_bind, Sem.run_pure, Result.andThen_ok, h2']
          | ptrDead _ _ _ _ h' => rw [h1] at h'; cases h'
        · cases h
      · cases h
    · cases h

theorem resL_ok (rel : RelT X w0 N0 B0 th st a w) : ∀ (rs : List ResultVar) (l : List (AV U)), resL P st rs = some l →
    ∃ us : List Value, (rs.mapM (rvS a.tmps)).run P w = .ok us w ∧ us.length = l.length ∧ ∀ j, j < l.length → VRel X w (NN N0 th) th (l.getD j .undef) (us.getD j undef)
  | [], l, h => by
    injection h with h; subst h
    exact ⟨[], rfl, rfl, fun j hj => by simp at hj⟩
  | rv :: rs, l, h => by
    unfold resL at h
    split at h
    · rename_i v l' h1 h2
      injection h with h; subst h
      obtain ⟨u, g1, g2⟩ := res1_ok rel h1
      obtain ⟨us, k1, k2, k3⟩ := resL_ok rel rs l' h2
      refine ⟨u :: us, ?_, by simp [k2], fun j hj => ?_⟩
      · simp only [List.mapM_cons, Sem.run_bind, g1, k1, Result.andThen_ok, Sem.run_pure]
      · cases j with
        | zero => exact g2
        | succ j => simpa only [List.getD_cons_succ] using k3 j (by simpa using hj)
    · cases h

theorem resV_ok (rel : RelT X w0 N0 B0 th st a w) {fn : Func} {v : AV U} (h : resV P st fn.results.toList = some v) : ∃ u, (results fn a.tmps).run P w = .ok u w ∧ VRel X w (NN N0 th) th v u := by
  have key : ∀ l, resL P st fn.results.toList = some l → ∃ us : Array Value, (results fn a.tmps).run P w = .ok (if h : us.size = 1 then us[0] else .tuple us) w ∧ us.size = l.length ∧ ∀ j, j < l.length → VRel X w (NN N0 th) th (l.getD j .undef) (us.getD j undef) := by
    intro l hl
    obtain ⟨us, k1, k2, k3⟩ := resL_ok rel _ l hl
    refine ⟨us.toArray, ?_, by simpa using k2, fun j hj => by simpa [Array.getD_eq_getD_getElem?, List.getD_eq_getElem?_getD] using k3 j hj⟩
    rw [results_eq, Array.mapM_eq_mapM_toList]
    simp only [Sem.run_bind, Sem.run_map]
    rw [k1]
    rfl
  unfold resV at h
  split at h
  · rename_i v' hl
    injection h with h; subst h
    obtain ⟨us, g1, g2, g3⟩ := key _ hl
    have hs : us.size = 1 := by simpa using g2
    rw [dif_pos hs] at g1
    refine ⟨_, g1, ?_⟩
    have := g3 0 (by simp)
    simpa [Array.getD_eq_getD_getElem?, hs] using this
  · rename_i l hne hl
    injection h with h; subst h
    obtain ⟨us, g1, g2, g3⟩ := key _ hl
    have hs : ¬ us.size = 1 := fun hs => by
      cases l with
      | nil => simp [hs] at g2
      | cons x l =>
        cases l with
        | nil => exact hne x rfl
        | cons y l => simp [hs] at g2
    rw [dif_neg hs] at g1
    exact ⟨_, g1, .tup _ us g2 g3⟩
  · cases h

end
end Go.Abs

namespace Go.Abs
open Go Go.RowKit
variable {U : Nat → Type} {R : Type}

def pairK : AV U → List (AO U) → Option (AV U × List (AO U)) := fun v h => some (v, h)

section
variable {P : Program} {X : Univ U} {st : S U} {K : AV U → List (AO U) → Option R} {r : R}

theorem ro_int {op : BinOp} {k : IntKind} {x y : Int} {K : AV U → Option R} (h : intOp op k x y K = some r) : ∃ v, K v = some r ∧ ∀ (T : Type) (K' : AV U → Option T), intOp op k x y K' = K' v := by
  cases op <;> simp only [intOp] at h ⊢ <;> first
    | exact ⟨_, h, fun _ _ => rfl⟩
    | (cases h; done)
    | (by_cases hy : y = 0
       · simp [hy] at h
       · simp only [hy, decide_false, cond_false] at h ⊢
         exact ⟨_, h, fun _ _ => rfl⟩)

theorem ro_bin {t : TypeId} {op : BinOp} {x y : AV U} {K : AV U → Option R} (h : binA P t op x y K = some r) : ∃ v, K v = some r ∧ ∀ (T : Type) (K' : AV U → Option T), binA P t op x y K' = K' v := by
  unfold binA at h ⊢
  split at h
  · rename_i k a k' b
    by_cases hb : 0 ≤ b
    · simp only [hb, decide_true, cond_true] at h ⊢; exact ⟨_, h, fun _ _ => rfl⟩
    · simp [hb] at h
  · rename_i k a k' b
    by_cases hb : 0 ≤ b
    · simp only [hb, decide_true, cond_true] at h ⊢; exact ⟨_, h, fun _ _ => rfl⟩
    · simp [hb] at h
  · split at h
    · rename_i hk
      obtain ⟨v, h1, h2⟩ := ro_int h
      exact ⟨v, h1, fun T K' => by simp only [hk, if_true]; simpa [hk] using h2 T K'⟩
    · cases h
  · split at h
    · rename_i hd; exact ⟨_, h, fun _ _ => rfl⟩
    · cases h
  · split at h
    · rename_i hd; exact ⟨_, h, fun _ _ => rfl⟩
    · cases h
  · exact ⟨_, h, fun _ _ => rfl⟩
  · exact ⟨_, h, fun _ _ => rfl⟩
  · rename_i s1 s2
    by_cases hs : s1.size + s2.size ≤ 4611686018427387904
    · simp only [hs, decide_true, cond_true] at h ⊢; exact ⟨_, h, fun _ _ => rfl⟩
    · simp [hs] at h
  · cases h

theorem ro_pick {c a b : Operand} (h : stPick st K c a b = some r) : ∃ v, K v st.h = some r ∧ stPick st pairK c a b = some (v, st.h) := by
  unfold stPick at h ⊢
  try simp only [cond_eq_ite] at h ⊢
  repeat' (first | (cases h; done) | split at h)
  all_goals exact ⟨_, h, by simp_all [pairK]⟩

theorem ro_nil {x : Operand} (h : stNil st K x = some r) : ∃ v, K v st.h = some r ∧ stNil st pairK x = some (v, st.h) := by
  unfold stNil at h ⊢
  try simp only [cond_eq_ite] at h ⊢
  repeat' (first | (cases h; done) | split at h)
  all_goals exact ⟨_, h, by simp_all [pairK]⟩

theorem ro_un {op : UnOp} {x : Operand} (h : stUn st K op x = some r) : ∃ v, K v st.h = some r ∧ stUn st pairK op x = some (v, st.h) := by
  unfold stUn at h ⊢
  try simp only [cond_eq_ite] at h ⊢
  repeat' (first | (cases h; done) | split at h)
  all_goals exact ⟨_, h, by simp_all [pairK]⟩

theorem ro_conv {s d : TypeId} {x : Operand} (h : stConv P st K s d x = some r) : ∃ v, K v st.h = some r ∧ stConv P st pairK s d x = some (v, st.h) := by
  unfold stConv at h ⊢
  try simp only [cond_eq_ite] at h ⊢
  repeat' (first | (cases h; done) | split at h)
  all_goals exact ⟨_, h, by simp_all [pairK]⟩

theorem ro_load {t : TypeId} {a : Operand} (h : stLoad P X st K t a = some r) : ∃ v, K v st.h = some r ∧ stLoad P X st pairK t a = some (v, st.h) := by
  unfold stLoad at h ⊢
  try simp only [cond_eq_ite] at h ⊢
  repeat' (first | (cases h; done) | split at h)
  all_goals exact ⟨_, h, by simp_all [pairK]⟩

theorem ro_fieldAddr {t : TypeId} {x : Operand} {f : Nat} (h : stFieldAddr P st K t x f = some r) : ∃ v, K v st.h = some r ∧ stFieldAddr P st pairK t x f = some (v, st.h) := by
  unfold stFieldAddr at h ⊢
  try simp only [cond_eq_ite] at h ⊢
  repeat' (first | (cases h; done) | split at h)
  all_goals exact ⟨_, h, by simp_all [pairK]⟩

theorem ro_field {t : TypeId} {x : Operand} {f : Nat} (h : stField P st K t x f = some r) : ∃ v, K v st.h = some r ∧ stField P st pairK t x f = some (v, st.h) := by
  unfold stField at h ⊢
  try simp only [cond_eq_ite] at h ⊢
  repeat' (first | (cases h; done) | split at h)
  all_goals exact ⟨_, h, by simp_all [pairK]⟩

theorem ro_indexAddr {t : TypeId} {x ix : Operand} (h : stIndexAddr P X st K t x ix = some r) : ∃ v, K v st.h = some r ∧ stIndexAddr P X st pairK t x ix = some (v, st.h) := by
  unfold stIndexAddr at h ⊢
  try simp only [cond_eq_ite] at h ⊢
  repeat' (first | (cases h; done) | split at h)
  all_goals exact ⟨_, h, by simp_all [pairK]⟩

theorem ro_index {t : TypeId} {x ix : Operand} (h : stIndex P st K t x ix = some r) : ∃ v, K v st.h = some r ∧ stIndex P st pairK t x ix = some (v, st.h) := by
  unfold stIndex at h ⊢
  try simp only [cond_eq_ite] at h ⊢
  repeat' (first | (cases h; done) | split at h)
  all_goals exact ⟨_, h, by simp_all [pairK]⟩

theorem ro_extract {x : Operand} {i : Nat} (h : stExtract st K x i = some r) : ∃ v, K v st.h = some r ∧ stExtract st pairK x i = some (v, st.h) := by
  unfold stExtract at h ⊢
  try simp only [cond_eq_ite] at h ⊢
  repeat' (first | (cases h; done) | split at h)
  all_goals exact ⟨_, h, by simp_all [pairK]⟩

theorem ro_len {t : TypeId} {x : Operand} (h : stLen P st K t x = some r) : ∃ v, K v st.h = some r ∧ stLen P st pairK t x = some (v, st.h) := by
  unfold stLen at h ⊢
  try simp only [cond_eq_ite] at h ⊢
  repeat' (first | (cases h; done) | split at h)
  all_goals exact ⟨_, h, by simp_all [pairK]⟩

theorem ro_eqS {t : TypeId} {neg : Bool} {x y : AV U} (h : stEqS P st K t neg x y = some r) : ∃ v, K v st.h = some r ∧ stEqS P st pairK t neg x y = some (v, st.h) := by
  unfold stEqS at h ⊢
  try simp only [cond_eq_ite] at h ⊢
  repeat' (first | (cases h; done) | split at h)
  all_goals exact ⟨_, h, by simp_all [pairK]⟩

theorem ro_build {t : TypeId} {parts : List (Nat × Operand)} (h : stBuild P st K t parts = some r) : ∃ v, K v st.h = some r ∧ stBuild P st pairK t parts = some (v, st.h) := by
  unfold stBuild at h ⊢
  try simp only [cond_eq_ite] at h ⊢
  repeat' (first | (cases h; done) | split at h)
  all_goals exact ⟨_, h, by simp_all [pairK]⟩

end
end Go.Abs

namespace Go.Abs
open Go Go.RowKit
variable {U : Nat → Type} {R : Type}

def roOp : Op → Bool
  | .move _ | .assign _ | .pick .. | .nilCheck _ | .binOp .. | .unOp .. | .convert .. | .load .. | .fieldAddr .. | .field .. | .indexAddr .. | .index .. | .extract .. | .build .. => true
  | .call c => (match c.callee, c.args.toList, c.argTypes.toList with | .builtin .len, [_], [_] => true | _, _, _ => false)
  | _ => false

abbrev Quiet (U : Nat → Type) (R : Type) := Nat → List (AV U) → List (AO U) → (AV U → Option R) → Option R

def execQ (P : Program) (X : Univ U) (quiet : Quiet U R) (o : Oper) (st : S U) (K : AV U → Option R) : Option R :=
  if roOp o.op then stepM P X o st fun v _ => K v
  else match o.op with
    | .call c =>
      (match c.callee with
      | .value f => (match ev st f with | .fn n cap => if hasBody P n then quiet n (evArgs P st c.args.toList c.argTypes.toList ++ cap) st.h K else none | _ => none)
      | _ => none)
    | _ => none

def opsQ (P : Program) (X : Univ U) (quiet : Quiet U R) (all : List Oper) : List Oper → S U → (S U → Option R) → Option R
  | [], st, K => K st
  | o :: rest, st, K =>
    match o.guard with
    | none => execQ P X quiet o st fun v => opsQ P X quiet all rest (put st o.dst v st.h) K
    | some (j, want) =>
      match (all[j]?).bind (·.dst) with
      | none => none
      | some d =>
        match st.s.getD d .undef with
        | .bool t =>
          cond t
            (if want then execQ P X quiet o (put st (some d) (.bool true) st.h) fun v => opsQ P X quiet all rest (put (put st (some d) (.bool true) st.h) o.dst v st.h) K
             else opsQ P X quiet all rest (put (put st (some d) (.bool true) st.h) o.dst .undef st.h) K)
            (if want then opsQ P X quiet all rest (put (put st (some d) (.bool false) st.h) o.dst .undef st.h) K
             else execQ P X quiet o (put st (some d) (.bool false) st.h) fun v => opsQ P X quiet all rest (put (put st (some d) (.bool false) st.h) o.dst v st.h) K)
        | _ => none

def QuietOK (P : Program) (X : Univ U) (quiet : Quiet U R) : Prop :=
  ∀ n args h K r, quiet n args h K = some r → ∃ v, K v = some r ∧ plainV 8 v = true ∧ Pure P X n (args.map (lend h)) v

/-- o, at these slots and objects, yields v -/
def Val (P : Program) (X : Univ U) (st : S U) (o : Oper) (v : AV U) : Prop :=
  (roOp o.op = true ∧ stepM P X o st pairK = some (v, st.h)) ∨
  (∃ c f n cap, o.op = .call c ∧ c.callee = .value f ∧ ev st f = .fn n cap ∧ hasBody P n = true ∧ plainV 8 v = true ∧ Pure P X n ((evArgs P st c.args.toList c.argTypes.toList ++ cap).map (lend st.h)) v)

section
variable {P : Program} {X : Univ U} {w0 w : World} {N0 B0 : Nat → Prop} {th : Nat → Th} {st st' : S U} {a : Act} {r : R}

theorem ro_step {o : Oper} {K : AV U → List (AO U) → Option R} (hro : roOp o.op = true) (h : stepM P X o st K = some r) : ∃ v, K v st.h = some r ∧ stepM P X o st pairK = some (v, st.h) := by
  obtain ⟨dst, op, ty, pos, after, guard⟩ := o
  have bin : ∀ {op t x y}, (binA P t op (ev st x) (ev st y) fun v => K v st.h) = some r → ∃ v, K v st.h = some r ∧ (binA P t op (ev st x) (ev st y) fun v => pairK v st.h) = some (v, st.h) := fun {op t x y} h => by
    obtain ⟨v, h1, h2⟩ := ro_bin h
    exact ⟨v, h1, h2 _ (fun v => pairK v st.h)⟩
  cases op <;> simp only [roOp] at hro <;> first | (cases hro; done) | skip
  all_goals first
    | (simp only [stepM, step] at h ⊢; first | exact ⟨_, h, rfl⟩ | exact ro_pick h | exact ro_build h | exact ro_load h | exact ro_nil h | exact ro_un h | exact ro_conv h | exact ro_fieldAddr h | exact ro_field h | exact ro_indexAddr h | exact ro_index h | exact ro_extract h; done)
    | skip
  · rename_i op t x y s
    have fin : ∀ op, step P X ⟨dst, .binOp op t x y s, ty, pos, after, guard⟩ st K = some r → ∃ v, K v st.h = some r ∧ step P X ⟨dst, .binOp op t x y s, ty, pos, after, guard⟩ st pairK = some (v, st.h) := fun op h => bin h
    cases op <;> first
      | exact fin _ h
      | (simp only [stepM] at h ⊢
         split at h
         · rename_i hc; simp only [hc, if_true]; exact ro_eqS h
         · rename_i hc; simp only [hc]; exact fin _ h)
  · rename_i c
    simp only [stepM] at h ⊢
    split at hro
    · rename_i x t e1 e2 e3
      rw [e1, e2, e3] at h ⊢
      simp only [step, e1, e2, e3, stBuiltin] at h ⊢
      exact ro_len h
    · cases hro

structure Same (st st' : S U) (o : Oper) : Prop where
  h : st'.h = st.h
  e : ∀ x ∈ o.op.operands.toList, ev st' x = ev st x

theorem evT_same {t : TypeId} {x : Operand} (h : ev st' x = ev st x) : evT P st' t x = evT P st t x := by
  unfold evT
  split
  · rfl
  · exact h

theorem ro_same {o : Oper} {K : AV U → List (AO U) → Option R} (hro : roOp o.op = true) (hs : Same st st' o) : stepM P X o st' K = stepM P X o st K := by
  obtain ⟨hh, he⟩ := hs
  obtain ⟨dst, op, ty, pos, after, guard⟩ := o
  cases op <;> simp only [roOp] at hro <;> first | (cases hro; done) | skip
  all_goals simp only [Op.operands] at he
  all_goals first
    | (simp only [stepM, step]; rw [hh, evT_same (he _ (by simp))]; done)
    | skip
  all_goals first
    | (simp only [List.mem_cons, List.not_mem_nil, or_false, forall_eq_or_imp, forall_eq] at he
       simp only [stepM, step, stPick, stNil, stUn, stConv, stLoad, stFieldAddr, stField, stIndexAddr, stIndex, stExtract, hh, he]; done)
    | skip
  · rename_i t parts
    simp only [stepM, stBuild]
    have e1 : ∀ ft : Nat → TypeId, (parts.toList.map fun p => (p.1, evT P st' (ft p.1) p.2)) = parts.toList.map fun p => (p.1, evT P st (ft p.1) p.2) := fun ft =>
      List.map_congr_left fun p hp => by rw [evT_same (he _ (List.mem_map.2 ⟨p, hp, rfl⟩))]
    rw [hh]
    simp only [e1]
  · rename_i op t x y s
    simp only [List.mem_cons, List.not_mem_nil, or_false, forall_eq_or_imp, forall_eq] at he
    cases op <;> simp only [stepM, step, stEqS, hh, he]
  · rename_i c
    split at hro
    · rename_i x t e1 e2 e3
      have e4 : c.args = #[x] := by rw [← Array.toArray_toList (xs := c.args), e2]
      have hx : ev st' x = ev st x := he x (by simp [Call.operands, e1, e4])
      simp only [stepM, step, e1, e2, e3, stBuiltin, stLen, hh, hx]
    · cases hro
end
end Go.Abs

namespace Go.Abs
open Go Go.RowKit
variable {U : Nat → Type} {R : Type}

abbrev Post := Exit → Act → World → Prop

def dstOf (ops : Array Oper) (i : Nat) : Option Nat := (ops[i]?).bind (·.dst)
def bindsTo (o : Oper) (j : Nat) : Bool := o.after.toList.any fun e => Region.binds .any e && e.on == j
def readsOf (ops : Array Oper) (o : Oper) : List Nat :=
  (o.op.operands.toList.filterMap fun | .tmp t => some t | _ => none) ++ (match o.guard with | some (j, _) => (dstOf ops j).toList | none => [])
/-- each slot has one writer, which comes ahead of its readers; what must come ahead stands ahead -/
def drawOK (ops : Array Oper) : Bool :=
  (List.range ops.size).all fun i =>
    match ops[i]? with
    | none => false
    | some o =>
      ((List.range ops.size).all fun j => i == j || (match o.dst with | some d => dstOf ops j != some d | none => true)) &&
      ((readsOf ops o).all fun d => (List.range ops.size).all fun j => dstOf ops j != some d || (decide (j < i) && bindsTo o j)) &&
      (o.after.toList.all fun e => !(Region.binds .any e) || decide (e.on < i))

structure DrawOK (ops : Array Oper) : Prop where
  one : ∀ i o, ops[i]? = some o → ∀ d, o.dst = some d → ∀ j, j < ops.size → j ≠ i → dstOf ops j ≠ some d
  reads : ∀ i o, ops[i]? = some o → ∀ d ∈ readsOf ops o, ∀ j, j < ops.size → dstOf ops j = some d → j < i ∧ ∃ e ∈ o.after, Region.binds .any e = true ∧ e.on = j
  ahead : ∀ i o, ops[i]? = some o → ∀ e ∈ o.after, Region.binds .any e = true → e.on < i

theorem drawOK_spec {ops : Array Oper} (h : drawOK ops = true) : DrawOK ops := by
  have key : ∀ i o, ops[i]? = some o → _ := fun i o ho => by
    have hi : i < ops.size := (Array.getElem?_eq_some_iff.1 ho).1
    have := List.all_eq_true.1 h i (List.mem_range.2 hi)
    rw [ho] at this
    simp only [Bool.and_eq_true] at this
    exact this
  refine ⟨fun i o ho d hd j hj hne he => ?_, fun i o ho d hd j hj he => ?_, fun i o ho e he hb => ?_⟩
  · have := List.all_eq_true.1 (key i o ho).1.1 j (List.mem_range.2 hj)
    rw [hd] at this
    simp only [Bool.or_eq_true, beq_iff_eq, bne_iff_ne] at this
    rcases this with h1 | h1
    · exact hne h1.symm
    · exact h1 he
  · have := List.all_eq_true.1 (List.all_eq_true.1 (key i o ho).1.2 d hd) j (List.mem_range.2 hj)
    simp only [Bool.or_eq_true, bne_iff_ne, Bool.and_eq_true, decide_eq_true_eq] at this
    rcases this with h1 | ⟨h1, h2⟩
    · exact absurd he h1
    · refine ⟨h1, ?_⟩
      obtain ⟨e, he1, he2⟩ := List.any_eq_true.1 h2
      simp only [Bool.and_eq_true, beq_iff_eq] at he2
      exact ⟨e, by simpa using he1, he2.1, he2.2⟩
  · have := List.all_eq_true.1 (key i o ho).2 e (by simpa using he)
    simp only [Bool.or_eq_true, Bool.not_eq_true', decide_eq_true_eq] at this
    rcases this with h1 | h1
    · rw [hb] at h1; cases h1
    · exact h1

section
variable {P : Program} {X : Univ U} {w0 w : World} {N0 B0 : Nat → Prop} {th : Nat → Th} {st st' : S U} {a : Act} {r : R}

theorem RelT.ext (rel : RelT X w0 N0 B0 th st a w) (hl : st'.s.length = st.s.length) (hg : ∀ d, st'.s.getD d .undef = st.s.getD d .undef) (hh : st'.h = st.h) : RelT X w0 N0 B0 th st' a w :=
  ⟨by rw [hl]; exact rel.len, fun i => by rw [hg]; exact rel.slots i, by rw [hh]; exact rel.mem, rel.defers⟩

theorem evArgs_same : ∀ (xs : List Operand) (ts : List TypeId), (∀ x ∈ xs, ev st' x = ev st x) → evArgs P st' xs ts = evArgs P st xs ts
  | [], _, _ => rfl
  | x :: xs, t :: ts, h => by simp only [evArgs]; rw [evT_same (h x (by simp)), evArgs_same xs ts fun y hy => h y (by simp [hy])]
  | x :: xs, [], h => by simp only [evArgs]; rw [h x (by simp), evArgs_same xs [] fun y hy => h y (by simp [hy])]

theorem Val.congr {o : Oper} {v : AV U} (h : Val P X st o v) (hs : Same st st' o) : Val P X st' o v := by
  rcases h with ⟨h1, h2⟩ | ⟨c, f, n, cap, h1, h2, h3, h4, h5, h6⟩
  · exact .inl ⟨h1, by rw [ro_same h1 hs, h2, hs.h]⟩
  · have hops : o.op.operands = #[f] ++ c.args := by rw [h1]; simp [Op.operands, Call.operands, h2]
    refine .inr ⟨c, f, n, cap, h1, h2, ?_, h4, h5, ?_⟩
    · rw [hs.e f (by rw [hops]; simp)]; exact h3
    · rw [hs.h, evArgs_same _ _ fun x hx => hs.e x (by rw [hops]; simp at hx ⊢; exact .inr hx)]; exact h6

theorem args_ok (rel : RelT X w0 N0 B0 th st a w) (args : Array Operand) (ts : List TypeId) {cap : List (AV U)} {vs : Array Value} (hs : vs.size = cap.length) (hj : ∀ j, j < cap.length → VRel X w (NN N0 th) th (cap.getD j .undef) (vs.getD j undef)) :
    (args.map a.eval ++ vs).size = (evArgs P st args.toList ts ++ cap).length ∧ ArgsRel X w (NN N0 th) th (evArgs P st args.toList ts ++ cap) (args.map a.eval ++ vs) := by
  obtain ⟨e1, e2⟩ := evArgs_ok (P := P) rel args.toList ts
  refine ⟨by simp [e1, hs], fun j hj' => ?_⟩
  rw [List.length_append, e1] at hj'
  by_cases hlt : j < args.toList.length
  · have := e2 j hlt
    have l1 : (evArgs P st args.toList ts ++ cap).getD j .undef = (evArgs P st args.toList ts).getD j .undef := by
      rw [List.getD_eq_getElem?_getD, List.getD_eq_getElem?_getD, List.getElem?_append_left (by omega)]
    have l2 : (args.map a.eval ++ vs).getD j undef = (args.toList.map a.eval).getD j undef := by
      rw [Array.getD_eq_getD_getElem?, List.getD_eq_getElem?_getD, Array.getElem?_append_left (by simpa using hlt)]
      simp
    rw [l1, l2]; exact this
  · have := hj (j - args.toList.length) (by omega)
    have l1 : (evArgs P st args.toList ts ++ cap).getD j .undef = cap.getD (j - args.toList.length) .undef := by
      rw [List.getD_eq_getElem?_getD, List.getD_eq_getElem?_getD, List.getElem?_append_right (by omega), e1]
    have l2 : (args.map a.eval ++ vs).getD j undef = vs.getD (j - args.toList.length) undef := by
      rw [Array.getD_eq_getD_getElem?, Array.getD_eq_getD_getElem?, Array.getElem?_append_right (by simpa using hlt)]
      simp
    rw [l1, l2]; exact this

theorem Val.wp (g : Good X) {o : Oper} {v : AV U} (h : Val P X st o v) (rel : RelT X w0 N0 B0 th st a w) {K' : Act → World → Prop} {Q : Post}
    (hK : ∀ u w' th', RelT X w0 N0 B0 th' (Abs.put st o.dst v st.h) (a.put o.dst u) w' → K' (a.put o.dst u) w') : o.wp P a w K' Q := by
  rcases h with ⟨h1, h2⟩ | ⟨c, f, n, cap, h1, h2, h3, h4, h5, h6⟩
  · obtain ⟨v', h', hk, ⟨u, w', th', hrun, m, hc, hv⟩⟩ := stepM_ok g h2 rel
    injection hk with hk
    injection hk with e1 e2
    subst e1; subst e2
    have := hK u w' th' (rel.after o.dst m hc hv)
    rcases hrun with hr | ⟨hr, e⟩
    · exact wp_value hr this
    · subst e; exact wp_skip_ hr this
  · have hfv := rel.ev f
    rw [h3] at hfv
    generalize hu : a.eval f = u at hfv
    cases hfv with
    | fn _ _ vs hs hj =>
      have ha := args_ok (P := P) rel c.args c.argTypes.toList hs hj
      have hx : (execOp a.eval o).run P w = .ok (.enter n (c.args.map a.eval ++ vs)) w := by
        obtain ⟨dst, op, ty, pos, after, guard⟩ := o
        simp only at h1
        subst h1
        simp only [execOp, resolve, h2, hu, Deferred.ofValue, pure_bind, invoke]
        rw [show (#[] ++ c.args.map a.eval : Array Value) = c.args.map a.eval by simp, run_callFunc h4]
      unfold Oper.wp
      rw [hx, Oper.upon_enter]
      refine (h6 w N0 _ (fun b hb => Nat.lt_of_lt_of_le (rel.mem.n0 b hb) rel.mem.size) (by simpa using ha.1) (argsRel_map (fun x v hx => lend_rel g.closed g.pos rel.mem hx) ha.2)).mono fun e w' hh => ?_
      obtain ⟨u', rfl, hu', hb⟩ := hh
      exact hK u' w' th ((below_ok rel hb).1.put o.dst (plain_any 8 h5 hu'))

/-! ### in the text's order -/
def Got (P : Program) (X : Univ U) (ops : Array Oper) (st : S U) (o : Oper) (v : AV U) : Prop :=
  match o.guard with
  | none => Val P X st o v
  | some (j, want) => ∃ d t, dstOf ops j = some d ∧ st.s.getD d .undef = .bool t ∧ (if t = want then Val P X st o v else v = .undef)

theorem execQ_ok {quiet : Quiet U R} (hq : QuietOK P X quiet) {o : Oper} {K : AV U → Option R} (h : execQ P X quiet o st K = some r) : ∃ v, K v = some r ∧ Val P X st o v := by
  unfold execQ at h
  split at h
  · rename_i hro
    obtain ⟨v, h1, h2⟩ := ro_step hro h
    exact ⟨v, h1, .inl ⟨hro, h2⟩⟩
  · split at h
    · rename_i c hop
      split at h
      · rename_i f hf
        split at h
        · rename_i n cap ef
          split at h
          · rename_i hb
            obtain ⟨v, h1, h2, h3⟩ := hq _ _ _ _ _ h
            exact ⟨v, h1, .inr ⟨c, f, n, cap, hop, hf, ef, hb, h2, h3⟩⟩
          · cases h
        · cases h
      · cases h
    · cases h

theorem set_getD (l : List (AV U)) (d : Nat) (v : AV U) (h : l.getD d .undef = v) : l.set d v = l := by
  apply List.ext_getElem?
  intro i
  rw [List.getElem?_set]
  split
  · rename_i e; subst e
    split
    · rename_i hlt
      rw [List.getD_eq_getElem?_getD, List.getElem?_eq_getElem hlt] at h
      rw [List.getElem?_eq_getElem hlt, ← h]; rfl
    · rename_i hlt; rw [List.getElem?_eq_none (by omega)]
  · rfl

theorem trace {quiet : Quiet U R} (hq : QuietOK P X quiet) {ops : Array Oper} {K : S U → Option R} : ∀ (l : List Oper) (i : Nat) (st : S U), l = ops.toList.drop i → opsQ P X quiet ops.toList l st K = some r →
    ∃ (vs : Nat → AV U) (T : Nat → S U), T i = st ∧ K (T (i + l.length)) = some r ∧ ∀ k o, i ≤ k → ops[k]? = some o → Got P X ops (T k) o (vs k) ∧ T (k + 1) = Abs.put (T k) o.dst (vs k) (T k).h := by
  intro l
  induction l with
  | nil =>
    intro i st hl h
    refine ⟨fun _ => .undef, fun _ => st, rfl, h, fun k o hk ho => ?_⟩
    have h1 : ops.size ≤ i := by
      have := congrArg List.length hl
      simp at this; omega
    have := (Array.getElem?_eq_some_iff.1 ho).1
    omega
  | cons o l ih =>
    intro i st hl h
    have hi : ops[i]? = some o := by
      have := congrArg (·[0]?) hl
      simpa using this.symm
    have hl' : l = ops.toList.drop (i + 1) := by
      have := congrArg List.tail hl
      simpa using this
    have step : ∃ v, Got P X ops st o v ∧ opsQ P X quiet ops.toList l (Abs.put st o.dst v st.h) K = some r := by
      unfold opsQ at h
      unfold Got
      split at h
      · rename_i hg
        obtain ⟨v, h1, h2⟩ := execQ_ok hq h
        try rw [hg]
        exact ⟨v, h2, h1⟩
      · rename_i j want hg
        try rw [hg]
        split at h
        · cases h
        · rename_i d hd
          have hd' : dstOf ops j = some d := by simpa [dstOf] using hd
          split at h
          · rename_i t ht
            have hput : Abs.put st (some d) (.bool t) st.h = st := by
              show (⟨st.s.set d (.bool t), st.h⟩ : S U) = st
              rw [set_getD _ _ _ ht]
            cases t <;> cases want <;> simp only [cond_true, cond_false, if_true, Bool.false_eq_true, if_false] at h
            · rw [hput] at h
              obtain ⟨v, h1, h2⟩ := execQ_ok hq h
              exact ⟨v, ⟨d, false, hd', ht, by simpa using h2⟩, h1⟩
            · rw [hput] at h
              exact ⟨.undef, ⟨d, false, hd', ht, by simp⟩, h⟩
            · rw [hput] at h
              exact ⟨.undef, ⟨d, true, hd', ht, by simp⟩, h⟩
            · rw [hput] at h
              obtain ⟨v, h1, h2⟩ := execQ_ok hq h
              exact ⟨v, ⟨d, true, hd', ht, by simpa using h2⟩, h1⟩
          · cases h
    obtain ⟨v, g1, g2⟩ := step
    obtain ⟨vs, T, t1, t2, t3⟩ := ih (i + 1) _ hl' g2
    refine ⟨fun k => if k = i then v else vs k, fun k => if k = i then st else T k, if_pos rfl, ?_, fun k o' hk ho => ?_⟩
    · show K (if i + (o :: l).length = i then st else T (i + (o :: l).length)) = some r
      rw [if_neg (by simp)]
      rw [show i + (o :: l).length = i + 1 + l.length by simp; omega]; exact t2
    · by_cases e : k = i
      · subst e
        rw [hi] at ho; injection ho with ho; subst ho
        simp only [if_true]
        rw [if_neg (by omega)]
        exact ⟨g1, t1⟩
      · have := t3 k o' (by omega) ho
        simp only [if_neg e, if_neg (show ¬ k + 1 = i by omega)]
        exact this
end
end Go.Abs

namespace Go.Abs
open Go Go.RowKit
variable {U : Nat → Type} {R : Type}

/-- slot d once the operations of L are done -/
def sl (ops : Array Oper) (vs : Nat → AV U) (st0 : S U) (L : Nat → Bool) (d : Nat) : AV U :=
  match (List.range ops.size).find? (fun i => L i && dstOf ops i == some d) with
  | some i => vs i
  | none => st0.s.getD d .undef
def stB (ops : Array Oper) (vs : Nat → AV U) (st0 : S U) (L : Nat → Bool) : S U := ⟨(List.range st0.s.length).map (sl ops vs st0 L), st0.h⟩

section
variable {P : Program} {X : Univ U} {w0 w : World} {N0 B0 : Nat → Prop} {th : Nat → Th} {st st0 : S U} {a : Act} {r : R} {ops : Array Oper} {vs : Nat → AV U} {L : Nat → Bool}

theorem dst_lt {i d : Nat} (h : dstOf ops i = some d) : i < ops.size := by
  unfold dstOf at h
  cases ho : ops[i]? with
  | none => rw [ho] at h; cases h
  | some o => exact (Array.getElem?_eq_some_iff.1 ho).1

theorem one_dst (ok : DrawOK ops) {i j d : Nat} (hi : dstOf ops i = some d) (hj : dstOf ops j = some d) : i = j := by
  refine Classical.byContradiction fun hne => ?_
  obtain ⟨o, ho, hd⟩ := Option.bind_eq_some_iff.1 hi
  exact ok.one i o ho d hd j (dst_lt hj) (fun e => hne e.symm) hj

theorem sl_hit (ok : DrawOK ops) {i d : Nat} (hi : dstOf ops i = some d) (hL : L i = true) : sl ops vs st0 L d = vs i := by
  unfold sl
  cases hf : (List.range ops.size).find? (fun i => L i && dstOf ops i == some d) with
  | none =>
    have := List.find?_eq_none.1 hf i (List.mem_range.2 (dst_lt hi))
    simp [hL, hi] at this
  | some j =>
    have := List.find?_some hf
    simp only [Bool.and_eq_true, beq_iff_eq] at this
    rw [one_dst ok this.2 hi]

theorem sl_miss {d : Nat} (h : ∀ i, dstOf ops i = some d → L i = false) : sl ops vs st0 L d = st0.s.getD d .undef := by
  unfold sl
  cases hf : (List.range ops.size).find? (fun i => L i && dstOf ops i == some d) with
  | none => rfl
  | some j =>
    have := List.find?_some hf
    simp only [Bool.and_eq_true, beq_iff_eq] at this
    rw [h j this.2] at this
    cases this.1

theorem stB_getD (d : Nat) : (stB ops vs st0 L).s.getD d .undef = if d < st0.s.length then sl ops vs st0 L d else .undef := by
  show ((List.range st0.s.length).map (sl ops vs st0 L)).getD d .undef = _
  rw [List.getD_eq_getElem?_getD, List.getElem?_map]
  split
  · rename_i h; rw [List.getElem?_range h]; rfl
  · rename_i h; rw [List.getElem?_eq_none (by simp; omega)]; rfl

theorem stB_len : (stB ops vs st0 L).s.length = st0.s.length := by simp [stB]

/-- one more -/
theorem stB_put (ok : DrawOK ops) {i : Nat} {o : Oper} (ho : ops[i]? = some o) {L' : Nat → Bool} (hL : L i = false) (hL' : ∀ j, L' j = (L j || j == i)) (d : Nat) :
    (Abs.put (stB ops vs st0 L) o.dst (vs i) st0.h).s.getD d .undef = (stB ops vs st0 L').s.getD d .undef := by
  have hdst : dstOf ops i = o.dst := by simp [dstOf, ho]
  rw [stB_getD]
  cases hd : o.dst with
  | none =>
    show (stB ops vs st0 L).s.getD d .undef = _
    rw [stB_getD]
    split
    · by_cases hx : ∃ j, dstOf ops j = some d ∧ L j = true
      · obtain ⟨j, h1, h2⟩ := hx
        rw [sl_hit ok h1 h2, sl_hit ok h1 (by rw [hL', h2]; rfl)]
      · have hx' : ∀ j, dstOf ops j = some d → L j = false := fun j h1 => by
          cases hl : L j with
          | false => rfl
          | true => exact absurd ⟨j, h1, hl⟩ hx
        rw [sl_miss hx', sl_miss fun j h1 => by
          rw [hL', hx' j h1]
          have : j ≠ i := fun e => by subst e; rw [hdst, hd] at h1; cases h1
          simpa using this]
    · rfl
  | some dd =>
    rw [hd] at hdst
    show ((stB ops vs st0 L).s.set dd (vs i)).getD d .undef = _
    rw [getD_set, stB_len, stB_getD]
    by_cases hdd : dd = d
    · subst hdd
      split
      · rename_i h; rw [if_pos h.2, sl_hit ok hdst (by rw [hL']; simp)]
      · rename_i h
        have : ¬ dd < st0.s.length := fun hlt => h ⟨rfl, hlt⟩
        rw [if_neg this, if_neg this]
    · rw [if_neg (fun h => hdd h.1)]
      split
      · by_cases hx : ∃ j, dstOf ops j = some d ∧ L j = true
        · obtain ⟨j, h1, h2⟩ := hx
          rw [sl_hit ok h1 h2, sl_hit ok h1 (by rw [hL', h2]; rfl)]
        · have hx' : ∀ j, dstOf ops j = some d → L j = false := fun j h1 => by
            cases hl : L j with
            | false => rfl
            | true => exact absurd ⟨j, h1, hl⟩ hx
          rw [sl_miss hx', sl_miss fun j h1 => by
            rw [hL', hx' j h1]
            have : j ≠ i := fun e => by subst e; rw [hdst] at h1; injection h1 with h1; exact hdd h1
            simpa using this]
      · rfl

/-- the text's order, told the same way -/
theorem text_state (ok : DrawOK ops) {T : Nat → S U} (h0 : T 0 = st0) (hT : ∀ k o, ops[k]? = some o → T (k + 1) = Abs.put (T k) o.dst (vs k) (T k).h) : ∀ k, k ≤ ops.size →
    (T k).h = st0.h ∧ (T k).s.length = st0.s.length ∧ ∀ d, (T k).s.getD d .undef = (stB ops vs st0 (fun j => decide (j < k))).s.getD d .undef
  | 0, _ => by
    rw [h0]
    refine ⟨rfl, rfl, fun d => ?_⟩
    rw [stB_getD]
    split
    · rw [sl_miss fun i _ => by simp]
    · rename_i h; rw [List.getD_eq_getElem?_getD, List.getElem?_eq_none (by omega)]; rfl
  | k + 1, hk => by
    obtain ⟨h1, h2, h3⟩ := text_state ok h0 hT k (by omega)
    have ho : ops[k]? = some ops[k] := Array.getElem?_eq_getElem (by omega)
    rw [hT k _ ho]
    refine ⟨by cases (ops[k]).dst <;> exact h1, by cases (ops[k]).dst <;> simp [Abs.put, h2], fun d => ?_⟩
    rw [← stB_put ok ho (L := fun j => decide (j < k)) (by simp) (fun j => by
      by_cases e : j = k
      · subst e; simp
      · have : decide (j < k + 1) = decide (j < k) := by
          by_cases hlt : j < k
          · simp [hlt]; omega
          · simp [hlt]; omega
        simp [this, e])]
    cases hd : (ops[k]).dst with
    | none => exact h3 d
    | some dd =>
      show ((T k).s.set dd (vs k)).getD d .undef = ((stB ops vs st0 fun j => decide (j < k)).s.set dd (vs k)).getD d .undef
      rw [getD_set, getD_set, h2, stB_len, h3 d]

/-- a slot that an operation reads is as it is in the text's order -/
theorem read_same (ok : DrawOK ops) {i : Nat} {o : Oper} (ho : ops[i]? = some o) (hready : ∀ e ∈ o.after, Region.binds .any e = true → L e.on = true) {d : Nat} (hd : d ∈ readsOf ops o) :
    (stB ops vs st0 L).s.getD d .undef = (stB ops vs st0 (fun j => decide (j < i))).s.getD d .undef := by
  rw [stB_getD, stB_getD]
  split
  · by_cases hx : ∃ j, dstOf ops j = some d
    · obtain ⟨j, hj⟩ := hx
      obtain ⟨h1, e, he, hb, hon⟩ := ok.reads i o ho d hd j (dst_lt hj) hj
      rw [sl_hit ok hj (by rw [← hon]; exact hready e he hb), sl_hit ok hj (by simpa using h1)]
    · rw [sl_miss fun j hj => absurd ⟨j, hj⟩ hx, sl_miss fun j hj => absurd ⟨j, hj⟩ hx]
  · rfl

theorem getD_true {listed : Array Bool} {i : Nat} (h : i < listed.size) (b : Bool) : listed.getD i b = listed[i] := by
  rw [Array.getD_eq_getD_getElem?, Array.getElem?_eq_getElem h]; rfl

theorem any_ok (g : Good X) (ok : DrawOK ops) {K : S U → Option R} {Q : Post} (hK : ∀ th st a w, K st = some r → RelT X w0 N0 B0 th st a w → Q .normal a w) {T : Nat → S U} (h0 : T 0 = st0) (hfin : K (T ops.size) = some r)
    (hT : ∀ k o, ops[k]? = some o → Got P X ops (T k) o (vs k) ∧ T (k + 1) = Abs.put (T k) o.dst (vs k) (T k).h) :
    ∀ (fuel : Nat) (listed : Array Bool) (l : List Nat) (th : Nat → Th) (a : Act) (w : World), l.length ≤ fuel → (∀ i, i < ops.size → listed.getD i false = false → i ∈ l) → listed.size = ops.size →
      RelT X w0 N0 B0 th (stB ops vs st0 (fun i => listed.getD i false)) a w → wpAny P .any ops Q fuel listed a w := by
  have text := text_state (vs := vs) ok h0 (fun k o ho => (hT k o ho).2)
  have last : ∀ (listed : Array Bool) (th : Nat → Th) (a : Act) (w : World), (∀ i, i < ops.size → listed.getD i false = true) → RelT X w0 N0 B0 th (stB ops vs st0 (fun i => listed.getD i false)) a w → Q .normal a w := by
    intro listed th a w hall rel
    obtain ⟨t1, t2, t3⟩ := text ops.size (Nat.le_refl _)
    refine hK th _ a w hfin (rel.ext (by rw [t2, stB_len]) (fun d => ?_) t1)
    rw [t3 d, stB_getD, stB_getD]
    split
    · by_cases hx : ∃ j, dstOf ops j = some d
      · obtain ⟨j, hj⟩ := hx
        rw [sl_hit ok hj (by simpa using dst_lt hj), sl_hit ok hj (hall j (dst_lt hj))]
      · rw [sl_miss fun j hj => absurd ⟨j, hj⟩ hx, sl_miss fun j hj => absurd ⟨j, hj⟩ hx]
    · rfl
  intro fuel
  induction fuel with
  | zero =>
    intro listed l th a w hl hun hs rel
    have hall : ∀ i, i < ops.size → listed.getD i false = true := fun i hi => by
      cases hx : listed.getD i false with
      | true => rfl
      | false =>
        have := hun i hi hx
        have : l = [] := List.eq_nil_of_length_eq_zero (by omega)
        subst this
        contradiction
    refine ⟨?_, last listed th a w hall rel⟩
    refine List.eq_nil_iff_forall_not_mem.2 fun j hj => ?_
    obtain ⟨h1, o, ho, _⟩ := mem_ready.1 hj
    have hlt : j < ops.size := (Array.getElem?_eq_some_iff.1 ho).1
    have := hall j hlt
    rw [getD_true (by omega)] at h1 this
    rw [h1] at this; cases this
  | succ fuel ih =>
    intro listed l th a w hl hun hs rel
    refine ⟨fun hready => last listed th a w (fun i => ?_) rel, fun i hi => ?_⟩
    · -- nothing is ready: all are done
      induction i using Nat.strongRecOn with
      | _ i ihi =>
        intro hi
        cases hx : listed.getD i false with
        | true => rfl
        | false =>
          have : i ∈ Region.ready .any ops listed := mem_ready.2 ⟨by rw [getD_true (by omega)] at hx ⊢; exact hx, ops[i], Array.getElem?_eq_getElem hi, fun e he hb => by
            have hlt := ok.ahead i _ (Array.getElem?_eq_getElem hi) e he hb
            exact ihi e.on hlt (by omega)⟩
          rw [hready] at this; cases this
    · obtain ⟨h1, o, ho, hdeps⟩ := mem_ready.1 hi
      have hlt : i < ops.size := (Array.getElem?_eq_some_iff.1 ho).1
      have hLi : listed.getD i false = false := by rw [getD_true (by omega)] at h1 ⊢; exact h1
      obtain ⟨hgot, _⟩ := hT i o ho
      obtain ⟨t1, t2, t3⟩ := text i (by omega)
      have hslot : ∀ d ∈ readsOf ops o, (stB ops vs st0 fun i => listed.getD i false).s.getD d .undef = (T i).s.getD d .undef := fun d hd => by
        rw [t3 d]; exact read_same ok ho hdeps hd
      have hsame : Same (T i) (stB ops vs st0 fun i => listed.getD i false) o := by
        refine ⟨t1.symm, fun x hx => ?_⟩
        cases x with
        | tmp d => exact hslot d (List.mem_append.2 (.inl (List.mem_filterMap.2 ⟨_, hx, rfl⟩)))
        | _ => rfl
      have next : ∀ (th' : Nat → Th) (u : Value) (w' : World), RelT X w0 N0 B0 th' (Abs.put (stB ops vs st0 fun i => listed.getD i false) o.dst (vs i) st0.h) (a.put o.dst u) w' → wpAny P .any ops Q fuel (listed.setIfInBounds i true) (a.put o.dst u) w' := by
        intro th' u w' rel'
        have hset : ∀ j, (listed.setIfInBounds i true).getD j false = (listed.getD j false || j == i) := fun j => by
          by_cases e : i = j
          · subst e
            rw [getD_true (by simp; omega)]; simp
          · rw [getD_set_ne false e]
            have : (j == i) = false := by simpa using fun h => e h.symm
            rw [this, Bool.or_false]
        refine ih _ (l.erase i) th' _ w' ?_ (fun j hj hx => ?_) (by simpa using hs) (rel'.ext ?_ (fun d => ?_) ?_)
        · rw [List.length_erase_of_mem (hun i hlt hLi)]; omega
        · rw [hset] at hx
          simp only [Bool.or_eq_false_iff, beq_eq_false_iff_ne] at hx
          exact (List.mem_erase_of_ne hx.2).2 (hun j hj hx.1)
        · cases o.dst <;> simp [Abs.put, stB_len]
        · exact (stB_put ok ho (L := fun i => listed.getD i false) hLi hset d).symm
        · cases o.dst <;> rfl
      unfold wpOp
      simp only [ho]
      unfold Got at hgot
      split at hgot
      · rename_i hg
        rw [if_pos (by simp [Region.wanted, hg])]
        exact .inl ((hgot.congr hsame).wp g rel fun u w' th' rel' => next th' u w' rel')
      · rename_i j want hg
        obtain ⟨d, t, hd, ht, hv⟩ := hgot
        have ht' : (stB ops vs st0 fun i => listed.getD i false).s.getD d .undef = .bool t := by
          rw [hslot d (List.mem_append.2 (.inr (by rw [hg]; simp [hd])))]; exact ht
        have hb := bool_of rel ht'
        have hy : yielded ops a.tmps j = some t := by
          unfold yielded
          unfold dstOf at hd
          rw [hd]
          simp [hb]
        have hw : Region.wanted o (yielded ops a.tmps) = (t == want) := by
          simp only [Region.wanted, hg, hy]
          cases t <;> cases want <;> rfl
        rw [hw]
        by_cases htw : t = want
        · rw [if_pos htw] at hv
          rw [if_pos (by simpa using htw)]
          exact .inl ((hv.congr hsame).wp g rel fun u w' th' rel' => next th' u w' rel')
        · rw [if_neg htw] at hv
          rw [if_neg (by simpa using htw)]
          refine next th undef w ?_
          rw [hv]
          exact rel.put o.dst (.undef _)

theorem draw_ok (g : Good X) (hm : P.follows .mixedOrders = true) {quiet : Quiet U R} (hq : QuietOK P X quiet) (hok : drawOK ops = true) {K : S U → Option R} {Q : Post} {id : Nat} (hK : ∀ th st a w, K st = some r → RelT X w0 N0 B0 th st a w → Q .normal a w)
    (h : opsQ P X quiet ops.toList ops.toList st K = some r) (rel : RelT X w0 N0 B0 th st a w) : (Code.region id ops true).wp P Q a w := by
  refine wp_region_any hm ?_
  obtain ⟨vs, T, t1, t2, t3⟩ := trace hq (K := K) ops.toList 0 st (by simp) h
  have rel' : RelT X w0 N0 B0 th st a w.drew := ⟨rel.len, fun i => carries_drew _ _ (rel.slots i), rel.mem.drew, rel.defers⟩
  refine any_ok (vs := vs) (st0 := st) g (drawOK_spec hok) hK t1 (by simpa using t2) (fun k o ho => t3 k o (Nat.zero_le _) ho) ops.size _ (List.range ops.size) th a _ (by simp) (fun i hi _ => List.mem_range.2 hi) (by simp) (rel'.ext ?_ (fun d => ?_) rfl)
  · rw [stB_len]
  · rw [stB_getD]
    split
    · rw [sl_miss fun i hi => by rw [getD_true (by simpa using dst_lt hi)]; simp]
    · rename_i hd; rw [List.getD_eq_getElem?_getD, List.getElem?_eq_none (by omega)]; rfl
end
end Go.Abs

namespace Go.Abs
open Go Go.RowKit
variable {U : Nat → Type} {R : Type}

/-- the callees: anywhere; where the order is drawn -/
structure Prm (U : Nat → Type) (R : Type) where
  all : Prim U R
  quiet : Quiet U R
structure PrmOK (P : Program) (X : Univ U) (p : Prm U R) : Prop where
  all : PrimOK P X p.all
  quiet : QuietOK P X p.quiet
  mixed : P.follows .mixedOrders = true

def regC (P : Program) (X : Univ U) (prim : Prm U R) (ops : Array Oper) (draw : Bool) (st : S U) (K : S U → Option R) : Option R :=
  match draw with
  | false => opsC P X prim.all ops.toList ops.toList st K
  | true => if drawOK ops then opsQ P X prim.quiet ops.toList ops.toList st K else none

inductive Ex where
  | normal | exit (id : Nat) | ret

def Ex.toExit : Ex → Exit
  | .normal => .normal
  | .exit id => .exit id
  | .ret => .ret

def first : Code → Option Nat
  | .region id _ _ => some id
  | .seq x _ => first x
  | .block _ c => first c
  | .loop c => first c
  | _ => none

def has (r : Nat) : Code → Bool
  | .region id _ _ => id == r
  | .seq x y => has r x || has r y
  | .cond _ x y => has r x || has r y
  | .block _ c => has r c
  | .loop c => has r c
  | _ => false

/-- the regions' numbers -/
def ids : Code → List Nat
  | .region id _ _ => [id]
  | .seq x y => ids x ++ ids y
  | .cond _ x y => ids x ++ ids y
  | .block _ c => ids c
  | .loop c => ids c
  | _ => []

def Ex.thenK (n : S U → Option R) (K : Ex → S U → Option R) : Ex → S U → Option R
  | .normal => n
  | e => K e
def Ex.blockK (id : Nat) (K : Ex → S U → Option R) : Ex → S U → Option R
  | .exit i => if i = id then K .normal else K (.exit i)
  | e => K e

/-- from here to the next cut, or to the function's end -/
def seg (P : Program) (X : Univ U) (prim : Prm U R) (cuts : List Nat) (cut : Nat → S U → Option R) : Code → (Ex → S U → Option R) → S U → Option R
  | .skip, K, st => K .normal st
  | .region id ops d, K, st => if cuts.contains id then cut id st else regC P X prim ops d st (K .normal)
  | .seq x y, K, st => seg P X prim cuts cut x (Ex.thenK (seg P X prim cuts cut y K) K) st
  | .cond c x y, K, st =>
    match ev st c with
    | .bool b => cond b (seg P X prim cuts cut x K st) (seg P X prim cuts cut y K st)
    | _ => none
  | .block id c, K, st => seg P X prim cuts cut c (Ex.blockK id K) st
  | .loop c, _, st => match first c with | some r => cut r st | none => none
  | .exit id, K, st => K (.exit id) st
  | .ret, K, st => K .ret st
  | _, _, _ => none

/-- the same, begun at region r -/
def res (P : Program) (X : Univ U) (prim : Prm U R) (cuts : List Nat) (cut : Nat → S U → Option R) (r : Nat) : Code → (Ex → S U → Option R) → S U → Option R
  | .region _ ops d, K, st => regC P X prim ops d st (K .normal)
  | .seq x y, K, st => if has r x then res P X prim cuts cut r x (Ex.thenK (seg P X prim cuts cut y K) K) st else res P X prim cuts cut r y K st
  | .cond _ x y, K, st => if has r x then res P X prim cuts cut r x K st else res P X prim cuts cut r y K st
  | .block id c, K, st => res P X prim cuts cut r c (Ex.blockK id K) st
  | .loop c, K, st => res P X prim cuts cut r c (Ex.thenK (fun st => match first c with | some q => cut q st | none => none) K) st
  | _, _, _ => none

/-- fuel counts the cuts that are passed -/
def cutF (P : Program) (X : Univ U) (prim : Prm U R) (cuts : List Nat) (keep : Nat → S U → S U) (body : Code) (fin : Ex → S U → Option R) : Nat → Nat → S U → Option R
  | 0, _, _ => none
  | k + 1, q, st => if has q body then res P X prim cuts (cutF P X prim cuts keep body fin k) q body fin (keep q st) else none

/-! ### soundness -/

/-- the loop's next round -/
def IL (P : Program) (c : Code) (Q : Post) (a : Act) (w : World) : Prop :=
  ∀ (b : Frame) (k : List Item) (cs : List Frame), ∃ e a' w', Q e a' w' ∧ Arrives P (lone (b.at a (.code c :: .inLoop c :: k)) cs w) b k cs e a' w'

theorem IL.loop {P : Program} {c : Code} {Q : Post} {a : Act} {w : World} (h : IL P c Q a w) : (Code.loop c).wp P Q a w := fun b k cs =>
  let ⟨e, a', w', hq, harr⟩ := h b k cs
  ⟨e, a', w', hq, .of_steps (.one step_loop) harr⟩

theorem IL.round {P : Program} {c : Code} {Q : Post} {a : Act} {w : World} (h : c.wp P (Exit.then (IL P c Q) Q) a w) : IL P c Q a w := by
  intro b k cs
  obtain ⟨e, a₁, w₁, hq, harr⟩ := h b (.inLoop c :: k) cs
  cases e with
  | normal =>
    obtain ⟨e₂, a₂, w₂, hq₂, harr₂⟩ := hq b k cs
    exact ⟨e₂, a₂, w₂, hq₂, .of_steps (Steps.trans harr (.one step_inLoop)) harr₂⟩
  | exit id => exact ⟨_, a₁, w₁, hq, .pass (x := .inLoop c) rfl (fun _ _ => .inl (by simp)) harr⟩
  | goto l => exact ⟨_, a₁, w₁, hq, .pass (x := .inLoop c) rfl (fun _ _ => .inl (by simp)) harr⟩
  | ret => exact ⟨_, a₁, w₁, hq, .pass (x := .inLoop c) rfl (fun _ _ => .inl (by simp)) harr⟩
  | panic ch => exact ⟨_, a₁, w₁, hq, .pass (x := .inLoop c) rfl (fun _ _ => .inl (by simp)) harr⟩
  | outgrown => exact ⟨_, a₁, w₁, hq, .pass (x := .inLoop c) rfl (fun _ _ => .inl (by simp)) harr⟩

def wpAt (P : Program) (q : Nat) : Code → Post → Act → World → Prop
  | .region id ops d, Q, a, w => (Code.region id ops d).wp P Q a w
  | .seq x y, Q, a, w => if has q x then wpAt P q x (Exit.then (y.wp P Q) Q) a w else wpAt P q y Q a w
  | .cond _ x y, Q, a, w => if has q x then wpAt P q x Q a w else wpAt P q y Q a w
  | .block id c, Q, a, w => wpAt P q c (Exit.inBlock id Q) a w
  | .loop c, Q, a, w => wpAt P q c (Exit.then (IL P c Q) Q) a w
  | _, _, _, _ => False

theorem has_ids {q : Nat} : ∀ {c : Code}, has q c = true ↔ q ∈ ids c := by
  intro c
  induction c <;> simp_all [has, ids]
  exact eq_comm

theorem first_has {q : Nat} : ∀ {c : Code}, first c = some q → has q c = true := by
  intro c h
  induction c <;> simp_all [has, first]

/-- begun at its head -/
theorem wpAt_first {P : Program} {q : Nat} : ∀ {c : Code} {Q : Post} {a : Act} {w : World}, first c = some q → wpAt P q c Q a w → c.wp P Q a w := by
  intro c
  induction c with
  | region id ops d => intro Q a w _ h; exact h
  | seq x y ihx ihy =>
    intro Q a w hf h
    have hx : has q x = true := first_has hf
    unfold wpAt at h
    rw [if_pos hx] at h
    exact wp_seq (ihx hf h)
  | block id c ih => intro Q a w hf h; exact wp_block (ih hf h)
  | loop c ih => intro Q a w hf h; exact (IL.round (ih hf h)).loop
  | _ => intro Q a w hf h; first | (exact absurd hf (by simp [first])) | exact h.elim

/-- where the code stands within the whole -/
def Ctx (P : Program) (body : Code) (Qf : Post) (c : Code) (Q : Post) : Prop := ∀ q a w, has q c = true → wpAt P q body Qf a w → wpAt P q c Q a w

section
variable {P : Program} {X : Univ U} {prim : Prm U R} {w0 : World} {N0 B0 : Nat → Prop} {r : R} {cuts : List Nat} {cut : Nat → S U → Option R} {body : Code} {Qf : Post}

def KOK (X : Univ U) (w0 : World) (N0 B0 : Nat → Prop) (r : R) (K : Ex → S U → Option R) (Q : Post) : Prop := ∀ e th st a w, K e st = some r → RelT X w0 N0 B0 th st a w → Q e.toExit a w
def CutOK (P : Program) (X : Univ U) (w0 : World) (N0 B0 : Nat → Prop) (r : R) (cut : Nat → S U → Option R) (body : Code) (Qf : Post) : Prop := ∀ q th st a w, cut q st = some r → RelT X w0 N0 B0 th st a w → has q body = true ∧ wpAt P q body Qf a w

theorem regC_ok (law : Good X) (pok : PrmOK P X prim) {id : Nat} {ops : Array Oper} {d : Bool} {Q : Post} {K : S U → Option R} (hK : ∀ th st a w, K st = some r → RelT X w0 N0 B0 th st a w → Q .normal a w)
    {th : Nat → Th} {st : S U} {a : Act} {w : World} (h : regC P X prim ops d st K = some r) (rel : RelT X w0 N0 B0 th st a w) : (Code.region id ops d).wp P Q a w := by
  unfold regC at h
  split at h
  · exact wp_region_list (opsC_ok law pok.all hK _ th st a w h rel)
  · split at h
    · rename_i hd; exact draw_ok law pok.mixed pok.quiet hd hK h rel
    · cases h

theorem KOK.block {K : Ex → S U → Option R} {Q : Post} {id : Nat} (h : KOK X w0 N0 B0 r K Q) : KOK X w0 N0 B0 r (Ex.blockK id K) (Exit.inBlock id Q) := by
  intro e th st a w hk rel
  cases e with
  | normal => exact h .normal th st a w hk rel
  | ret => exact h .ret th st a w hk rel
  | exit i =>
    simp only [Ex.blockK] at hk
    simp only [Ex.toExit, Exit.inBlock]
    by_cases hi : i = id
    · rw [if_pos hi] at hk ⊢; exact h .normal th st a w hk rel
    · rw [if_neg hi] at hk ⊢; exact h (.exit i) th st a w hk rel

theorem KOK.then {K : Ex → S U → Option R} {n : S U → Option R} {next : Act → World → Prop} {Q : Post} (h : KOK X w0 N0 B0 r K Q) (hn : ∀ th st a w, n st = some r → RelT X w0 N0 B0 th st a w → next a w) : KOK X w0 N0 B0 r (Ex.thenK n K) (Exit.then next Q) := by
  intro e th st a w hk rel
  cases e with
  | normal => exact hn th st a w hk rel
  | ret => exact h .ret th st a w hk rel
  | exit i => exact h (.exit i) th st a w hk rel

theorem Ctx.left {x y : Code} {Q : Post} (h : Ctx P body Qf (.seq x y) Q) : Ctx P body Qf x (Exit.then (y.wp P Q) Q) := fun q a w hq hb => by
  have := h q a w (by simp [has, hq]) hb
  unfold wpAt at this
  rw [if_pos hq] at this; exact this
theorem Ctx.right {x y : Code} {Q : Post} (hn : (ids (.seq x y)).Nodup) (h : Ctx P body Qf (.seq x y) Q) : Ctx P body Qf y Q := fun q a w hq hb => by
  have := h q a w (by simp [has, hq]) hb
  unfold wpAt at this
  have hx : ¬ has q x = true := fun hx => by
    simp only [ids] at hn
    exact (List.nodup_append.1 hn).2.2 q (has_ids.1 hx) q (has_ids.1 hq) rfl
  rw [if_neg hx] at this; exact this
theorem Ctx.yes {c : Operand} {x y : Code} {Q : Post} (h : Ctx P body Qf (.cond c x y) Q) : Ctx P body Qf x Q := fun q a w hq hb => by
  have := h q a w (by simp [has, hq]) hb
  unfold wpAt at this
  rw [if_pos hq] at this; exact this
theorem Ctx.no {c : Operand} {x y : Code} {Q : Post} (hn : (ids (.cond c x y)).Nodup) (h : Ctx P body Qf (.cond c x y) Q) : Ctx P body Qf y Q := fun q a w hq hb => by
  have := h q a w (by simp [has, hq]) hb
  unfold wpAt at this
  have hx : ¬ has q x = true := fun hx => by
    simp only [ids] at hn
    exact (List.nodup_append.1 hn).2.2 q (has_ids.1 hx) q (has_ids.1 hq) rfl
  rw [if_neg hx] at this; exact this
theorem Ctx.inBlock {id : Nat} {c : Code} {Q : Post} (h : Ctx P body Qf (.block id c) Q) : Ctx P body Qf c (Exit.inBlock id Q) := fun q a w hq hb => h q a w hq hb
theorem Ctx.inLoop {c : Code} {Q : Post} (h : Ctx P body Qf (.loop c) Q) : Ctx P body Qf c (Exit.then (IL P c Q) Q) := fun q a w hq hb => h q a w hq hb

theorem loop_ok (hc : CutOK P X w0 N0 B0 r cut body Qf) {c : Code} {Q : Post} (hctx : Ctx P body Qf (.loop c) Q) {th : Nat → Th} {st : S U} {a : Act} {w : World} (h : (match first c with | some q => cut q st | none => none) = some r) (rel : RelT X w0 N0 B0 th st a w) : IL P c Q a w := by
  split at h
  · rename_i q hq
    obtain ⟨_, h2⟩ := hc q th st a w h rel
    exact IL.round (wpAt_first hq (hctx q a w (first_has (c := .loop c) hq) h2))
  · cases h

theorem seg_ok (law : Good X) (pok : PrmOK P X prim) (hc : CutOK P X w0 N0 B0 r cut body Qf) : ∀ (c : Code) (K : Ex → S U → Option R) (Q : Post) (th : Nat → Th) (st : S U) (a : Act) (w : World), (ids c).Nodup → Ctx P body Qf c Q → KOK X w0 N0 B0 r K Q →
    seg P X prim cuts cut c K st = some r → RelT X w0 N0 B0 th st a w → c.wp P Q a w := by
  intro c
  induction c with
  | skip => intro K Q th st a w _ _ hK h rel; exact wp_skip (hK .normal th st a w h rel)
  | region id ops d =>
    intro K Q th st a w _ hctx hK h rel
    unfold seg at h
    split at h
    · exact hctx id a w (by simp [has]) (hc id th st a w h rel).2
    · exact regC_ok law pok (fun th st a w hk rel => hK .normal th st a w hk rel) h rel
  | seq x y ihx ihy =>
    intro K Q th st a w hn hctx hK h rel
    have hn' := hn
    simp only [ids] at hn'
    have nx := (List.nodup_append.1 hn').1
    have ny := (List.nodup_append.1 hn').2.1
    exact wp_seq (ihx _ _ th st a w nx hctx.left (hK.then fun th st a w hk rel => ihy _ _ th st a w ny (hctx.right hn) hK hk rel) h rel)
  | cond c x y ihx ihy =>
    intro K Q th st a w hn hctx hK h rel
    have hn' := hn
    simp only [ids] at hn'
    have nx := (List.nodup_append.1 hn').1
    have ny := (List.nodup_append.1 hn').2.1
    unfold seg at h
    split at h
    · rename_i b eb
      have hv := rel.ev c
      rw [eb] at hv
      generalize hu : a.eval c = u at hv
      cases hv
      cases b with
      | true => exact wp_cond_true hu (ihx _ _ th st a w nx hctx.yes hK h rel)
      | false => exact wp_cond_false hu (ihy _ _ th st a w ny (hctx.no hn) hK h rel)
    · cases h
  | block id c ih => intro K Q th st a w hn hctx hK h rel; exact wp_block (ih _ _ th st a w hn hctx.inBlock hK.block h rel)
  | loop c ih => intro K Q th st a w hn hctx hK h rel; exact (loop_ok hc hctx h rel).loop
  | exit id => intro K Q th st a w _ _ hK h rel; exact wp_exit (hK (.exit id) th st a w h rel)
  | ret => intro K Q th st a w _ _ hK h rel; exact wp_ret (hK .ret th st a w h rel)
  | _ => intro K Q th st a w _ _ _ h _; simp [seg] at h

theorem res_ok (law : Good X) (pok : PrmOK P X prim) (hc : CutOK P X w0 N0 B0 r cut body Qf) {q : Nat} : ∀ (c : Code) (K : Ex → S U → Option R) (Q : Post) (th : Nat → Th) (st : S U) (a : Act) (w : World), (ids c).Nodup → Ctx P body Qf c Q → KOK X w0 N0 B0 r K Q →
    res P X prim cuts cut q c K st = some r → RelT X w0 N0 B0 th st a w → wpAt P q c Q a w := by
  intro c
  induction c with
  | region id ops d =>
    intro K Q th st a w _ hctx hK h rel
    exact regC_ok law pok (fun th st a w hk rel => hK .normal th st a w hk rel) h rel
  | seq x y ihx ihy =>
    intro K Q th st a w hn hctx hK h rel
    have hn' := hn
    simp only [ids] at hn'
    have nx := (List.nodup_append.1 hn').1
    have ny := (List.nodup_append.1 hn').2.1
    unfold res at h
    unfold wpAt
    split at h
    · rename_i hx
      rw [if_pos hx]
      exact ihx _ _ th st a w nx hctx.left (hK.then fun th st a w hk rel => seg_ok law pok hc y _ _ th st a w ny (hctx.right hn) hK hk rel) h rel
    · rename_i hx
      rw [if_neg hx]
      exact ihy _ _ th st a w ny (hctx.right hn) hK h rel
  | cond c x y ihx ihy =>
    intro K Q th st a w hn hctx hK h rel
    have hn' := hn
    simp only [ids] at hn'
    have nx := (List.nodup_append.1 hn').1
    have ny := (List.nodup_append.1 hn').2.1
    unfold res at h
    unfold wpAt
    split at h
    · rename_i hx
      rw [if_pos hx]
      exact ihx _ _ th st a w nx hctx.yes hK h rel
    · rename_i hx
      rw [if_neg hx]
      exact ihy _ _ th st a w ny (hctx.no hn) hK h rel
  | block id c ih => intro K Q th st a w hn hctx hK h rel; exact ih _ _ th st a w hn hctx.inBlock hK.block h rel
  | loop c ih =>
    intro K Q th st a w hn hctx hK h rel
    exact ih _ _ th st a w hn hctx.inLoop (hK.then fun th st a w hk rel => loop_ok hc hctx hk rel) h rel
  | _ => intro K Q th st a w _ _ _ h _; simp [res] at h

/-- what is kept at a cut -/
def KeepOK (X : Univ U) (w0 : World) (N0 B0 : Nat → Prop) (keep : Nat → S U → S U) : Prop := ∀ q th st a w, RelT X w0 N0 B0 th st a w → ∃ th', RelT X w0 N0 B0 th' (keep q st) a w

theorem cutF_ok (law : Good X) (pok : PrmOK P X prim) {keep : Nat → S U → S U} (kok : KeepOK X w0 N0 B0 keep) {fin : Ex → S U → Option R} (hn : (ids body).Nodup) (hK : KOK X w0 N0 B0 r fin Qf) :
    ∀ k, CutOK P X w0 N0 B0 r (cutF P X prim cuts keep body fin k) body Qf := by
  intro k
  induction k with
  | zero => intro q th st a w h _; cases h
  | succ k ih =>
    intro q th st a w h rel
    unfold cutF at h
    split at h
    · rename_i hq
      obtain ⟨th', rel'⟩ := kok q th st a w rel
      exact ⟨hq, res_ok law pok ih body fin Qf th' _ a w hn (fun _ _ _ _ h => h) hK h rel'⟩
    · cases h

theorem body_ok (law : Good X) (pok : PrmOK P X prim) {keep : Nat → S U → S U} (kok : KeepOK X w0 N0 B0 keep) {fin : Ex → S U → Option R} (hn : (ids body).Nodup) (hK : KOK X w0 N0 B0 r fin Qf)
    {k : Nat} {th : Nat → Th} {st : S U} {a : Act} {w : World} (h : seg P X prim cuts (cutF P X prim cuts keep body fin k) body fin st = some r) (rel : RelT X w0 N0 B0 th st a w) : body.wp P Qf a w :=
  seg_ok law pok (cutF_ok law pok kok hn hK k) body fin Qf th st a w hn (fun _ _ _ _ h => h) hK h rel
end
end Go.Abs

namespace Go.Abs
open Go Go.RowKit
variable {U : Nat → Type} {R : Type}

/-- a function's end -/
def finP (P : Program) (rs : List ResultVar) (k : AV U → Option R) : Ex → S U → Option R
  | .normal, st => match resV P st rs with | some v => k (lend st.h v) | none => none
  | .ret, st => match resV P st rs with | some v => k (lend st.h v) | none => none
  | .exit _, _ => none

section
variable {P : Program} {X : Univ U} {w0 w : World} {N0 B0 N : Nat → Prop} {th : Nat → Th} {st : S U} {a : Act} {h : List (AO U)} {r : R}

theorem pure_of (g : Good X) {n : Nat} {fn : Func} {body : Code} {prim : Prm U R} {keep : Nat → S U → S U} {cuts : List Nat} {args : List (AV U)} {k : AV U → Option R} {back : R → AV U} {F : Nat} (hf : P.funcs[n]? = some fn) (hb : fn.body = some body) (hn : (ids body).Nodup)
    (pok : PrmOK P X prim) (kok : ∀ w0 N0 B0, KeepOK X w0 N0 B0 keep) (hk : ∀ v r, k v = some r → v = back r)
    (h : seg P X prim cuts (cutF P X prim cuts keep body (finP P fn.results.toList k) F) body (finP P fn.results.toList k) (start args fn.ntmps []) = some r) : Pure P X n args (back r) := by
  intro w N vs hN hs ha
  refine calls_of_wp hf hb ?_
  have m := mem_empty X w N hN
  have rel := start_ok (n := fn.ntmps) m hs (fun j hj => (ha j hj).mono (fun _ _ _ => rfl) (fun b hb => by
    rcases hb with hb | ⟨i, c, hb⟩
    · exact .inl hb
    · cases hb) (fun _ => .inl rfl))
  refine body_ok g pok (kok w N _) hn ?_ h rel
  have last : ∀ (th : Nat → Th) (st : S U) (a : Act) (w' : World), (match resV P st fn.results.toList with | some v => k (lend st.h v) | none => none) = some r → RelT X w N (fun _ => False) th st a w' →
      a.defers = [] ∧ ∃ v, (results fn a.tmps).run P w' = .ok v w' ∧ ∃ u, Ending.returned v = .returned u ∧ VRel X w' N noTh (back r) u ∧ Below w.heap.size w w' := by
    intro th st a w' hh rel
    split at hh
    · rename_i v hv
      obtain ⟨u, g1, g2⟩ := resV_ok rel hv
      refine ⟨rel.defers, u, g1, u, rfl, ?_, ⟨rel.mem.os, rel.mem.tape, rel.mem.output, rel.mem.size, fun k hk => rel.mem.keep k hk (fun h => h)⟩⟩
      rw [← hk _ _ hh]
      exact lend_rel g.closed g.pos rel.mem g2
    · cases hh
  intro e th st a w' hh rel
  cases e with
  | normal => exact last th st a w' hh rel
  | ret => exact last th st a w' hh rel
  | exit i => cases hh
end
end Go.Abs

namespace Go.Abs
open Go Go.RowKit
variable {U : Nat → Type} {R : Type}

/-- what a cut keeps: slots; the nil slices that are rows from here on; the rows that are no longer written -/
structure Dir where
  keep : List Nat
  rows : List (Nat × Option Nat) := []
  imms : List (Nat × Option Nat) := []

def rowAt (st : S U) (p : Nat × Option Nat) : S U :=
  match p.2 with
  | none => (match st.s.getD p.1 .undef with | .nils e => ⟨st.s.set p.1 (.row st.h.length e), st.h ++ [AO.row e []]⟩ | _ => st)
  | some c =>
    match st.s.getD p.1 .undef with
    | .ptr i 0 => (match st.h.getD i .dead with
      | .box cs => (match cs.getD c .undef with | .nils e => ⟨st.s, (st.h ++ [AO.row e []]).set i (.box (cs.set c (.row st.h.length e)))⟩ | _ => st)
      | _ => st)
    | _ => st
def immAt (st : S U) (p : Nat × Option Nat) : S U :=
  match p.2 with
  | none => (match st.s.getD p.1 .undef with | .nils e => ⟨st.s.set p.1 (.imm e []), st.h⟩ | .row i _ => (frz1 i (st, [])).1 | _ => st)
  | some c =>
    match st.s.getD p.1 .undef with
    | .ptr i 0 => (match st.h.getD i .dead with
      | .box cs => (match cs.getD c .undef with | .nils e => ⟨st.s, st.h.set i (.box (cs.set c (.imm e [])))⟩ | .row j _ => (frz1 j (st, [])).1 | _ => st)
      | _ => st)
    | _ => st
def keepD (D : Nat → Dir) (q : Nat) (st : S U) : S U :=
  let d := D q
  let st := d.imms.foldl immAt (d.rows.foldl rowAt st)
  canon ⟨dropL d.keep 0 st.s, st.h⟩

section
variable {P : Program} {X : Univ U} {w0 w : World} {N0 B0 N : Nat → Prop} {th : Nat → Th} {st : S U} {a : Act} {h : List (AO U)} {r : R}

theorem slot_set (rel : RelT X w0 N0 B0 th st a w) {k : Nat} {v : AV U} (hv : VRel X w (NN N0 th) th v (a.tmps.getD k undef)) : RelT X w0 N0 B0 th ⟨st.s.set k v, st.h⟩ a w where
  len := by simpa using rel.len
  slots := fun i => by
    show VRel _ _ _ _ ((st.s.set k v).getD i .undef) _
    rw [getD_set]
    split
    · rename_i hk; rw [← hk.1]; exact hv
    · exact rel.slots i
  mem := rel.mem
  defers := rel.defers

theorem box_retag (m : Mem X w0 N0 B0 th h w) {i c : Nat} {cs : List (AV U)} {v : AV U} (ho : h.getD i .dead = .box cs) (hv : ∀ u, VRel X w (NN N0 th) th (cs.getD c .undef) u → VRel X w (NN N0 th) th v u) : Mem X w0 N0 B0 th (h.set i (.box (cs.set c v))) w where
  objs := fun j hj => by
    have hj' : j < h.length := by simpa using hj
    by_cases e : j = i
    · subst e
      rw [getD_set_same _ _ _ hj']
      obtain ⟨b, T, cur, h1, h2, h3, h4⟩ := m.box_at ho
      refine ⟨b, T, cur, h1, h2, by simpa using h3, fun k hk => ?_⟩
      have hk' : k < cs.length := by simpa using hk
      rw [getD_set]
      split
      · rename_i hc; rw [← hc.1]; exact hv _ (h4 c hc.2)
      · exact h4 k hk'
    · rw [getD_set_other _ _ _ _ e]; exact m.objs j hj'
  out := fun j hj => m.out j (by simpa using hj)
  own := m.own
  inj := m.inj
  n0 := m.n0
  size := m.size
  os := m.os
  tape := m.tape
  output := m.output
  keep := m.keep

theorem newNil_rel (rel : RelT X w0 N0 B0 th st a w) (e : Nat) : RelT X w0 N0 B0 (thNew th st.h.length .nil) ⟨st.s, st.h ++ [.row e []]⟩ a w := by
  obtain ⟨h1, h2⟩ := rel.mem.newNil e
  exact ⟨rel.len, fun i => h2 _ _ (rel.slots i), h1, rel.defers⟩

theorem rowAt_ok (rel : RelT X w0 N0 B0 th st a w) (p : Nat × Option Nat) : ∃ th', RelT X w0 N0 B0 th' (rowAt st p) a w := by
  unfold rowAt
  split
  · split
    · rename_i e he
      have r1 := newNil_rel rel e
      have hs := rel.slots p.1
      rw [he] at hs
      generalize hu : a.tmps.getD p.1 undef = u at hs
      cases hs
      exact ⟨_, slot_set (st := ⟨st.s, st.h ++ [.row e []]⟩) r1 (by rw [hu]; exact .rowNil _ _ (thNew_same _ _ _))⟩
    · exact ⟨th, rel⟩
  · rename_i c hc
    split
    · rename_i i hi
      split
      · rename_i cs ho
        split
        · rename_i e he
          have r1 := newNil_rel rel e
          have ho' : (st.h ++ [AO.row e []]).getD i .dead = .box cs := by rw [getD_snoc_lt _ _ (getD_alive ho (by simp))]; exact ho
          refine ⟨_, ⟨r1.len, r1.slots, box_retag r1.mem ho' fun u hu => ?_, r1.defers⟩⟩
          rw [he] at hu
          cases hu
          exact .rowNil _ _ (thNew_same _ _ _)
        · exact ⟨th, rel⟩
      · exact ⟨th, rel⟩
    · exact ⟨th, rel⟩

theorem frz1_ok (g : Good X) (rel : RelT X w0 N0 B0 th st a w) (i : Nat) : ∃ th', RelT X w0 N0 B0 th' (frz1 i (st, [])).1 a w := by
  unfold frz1
  split
  · rename_i e l ho; exact ⟨_, frzRow_ok g.closed g.pos rel ho⟩
  · exact ⟨th, rel⟩

theorem immAt_ok (g : Good X) (rel : RelT X w0 N0 B0 th st a w) (p : Nat × Option Nat) : ∃ th', RelT X w0 N0 B0 th' (immAt st p) a w := by
  unfold immAt
  split
  · split
    · rename_i e he
      have hs := rel.slots p.1
      rw [he] at hs
      generalize hu : a.tmps.getD p.1 undef = u at hs
      cases hs
      exact ⟨_, slot_set rel (by rw [hu]; exact .imm0 _ none 0)⟩
    · exact frz1_ok g rel _
    · exact ⟨th, rel⟩
  · rename_i c hc
    split
    · rename_i i hi
      split
      · rename_i cs ho
        split
        · rename_i e he
          refine ⟨_, ⟨rel.len, rel.slots, box_retag rel.mem ho fun u hu => ?_, rel.defers⟩⟩
          rw [he] at hu
          cases hu
          exact .imm0 _ none 0
        · exact frz1_ok g rel _
        · exact ⟨th, rel⟩
      · exact ⟨th, rel⟩
    · exact ⟨th, rel⟩

theorem fold_ok {α : Type} {f : S U → α → S U} (hf : ∀ (th : Nat → Th) (st : S U) (p : α), RelT X w0 N0 B0 th st a w → ∃ th', RelT X w0 N0 B0 th' (f st p) a w) : ∀ (l : List α) (th : Nat → Th) (st : S U), RelT X w0 N0 B0 th st a w → ∃ th', RelT X w0 N0 B0 th' (l.foldl f st) a w
  | [], th, _, h => ⟨th, h⟩
  | p :: l, th, st, h => by
    obtain ⟨th1, h1⟩ := hf th st p h
    exact fold_ok hf l th1 _ h1

theorem keepD_ok (g : Good X) (D : Nat → Dir) (w0 : World) (N0 B0 : Nat → Prop) : KeepOK X w0 N0 B0 (keepD D : Nat → S U → S U) := by
  intro q th st a w rel
  obtain ⟨th1, r1⟩ := fold_ok (fun th st p rel => rowAt_ok rel p) (D q).rows th st rel
  obtain ⟨th2, r2⟩ := fold_ok (fun th st p rel => immAt_ok g rel p) (D q).imms th1 _ r1
  exact canon_ok g.closed g.pos (drop_ok (D q).keep r2)
end
end Go.Abs

namespace Go.Abs
open Go Go.RowKit
variable {U : Nat → Type} {R : Type}

def cutG (P : Program) (X : Univ U) (prim : Prm U R) (cuts : List Nat) (D : Nat → Dir) (body : Code) (fin : Ex → S U → Option R) : Nat → Nat → S U → Option R
  | 0, _, _ => none
  | k + 1, q, st => if has q body then res P X prim cuts (fun q st => cutG P X prim cuts D body fin k q (keepD D q st)) q body fin st else none

theorem cutF_eq (P : Program) (X : Univ U) (prim : Prm U R) (cuts : List Nat) (D : Nat → Dir) (body : Code) (fin : Ex → S U → Option R) : ∀ k, cutF P X prim cuts (keepD D) body fin k = fun q st => cutG P X prim cuts D body fin k q (keepD D q st)
  | 0 => by funext q st; rfl
  | k + 1 => by
    funext q st
    simp only [cutF, cutG]
    rw [cutF_eq P X prim cuts D body fin k]

def dirs (l : List (Nat × Dir)) (q : Nat) : Dir := ((l.find? (·.1 == q)).map (·.2)).getD { keep := [] }

/-- the callees, by number: whether what is handed over is frozen; what it answers -/
def primsA : List (Nat × Bool × Fn U R) → Prim U R
  | [], _, _, _, _ => none
  | (m, b, f) :: l, n, args, st, K => cond (n == m) (cond b (callB f args st K) (callA f args st K)) (primsA l n args st K)
def primsQ : List (Nat × Bool × Fn U R) → Quiet U R
  | [], _, _, _, _ => none
  | (m, b, f) :: l, n, args, h, K => cond (n == m) (cond b none (f (args.map (lend h)) fun v => if plainV 8 v then K v else none)) (primsQ l n args h K)
def prims (l : List (Nat × Bool × Fn U R)) : Prm U R := ⟨primsA l, primsQ l⟩

theorem prims_nil (P : Program) (X : Univ U) (hm : P.follows .mixedOrders = true) : PrmOK P X (prims ([] : List (Nat × Bool × Fn U R))) :=
  ⟨(by intro n args st K r w0 N0 B0 th a w vs h; cases h), (by intro n args h K r hh; cases hh), hm⟩

theorem prims_cons {P : Program} {X : Univ U} (g : Good X) {m : Nat} {b : Bool} {f : Fn U R} {l : List (Nat × Bool × Fn U R)} (hf : FnOK P X m f) (hl : PrmOK P X (prims l)) : PrmOK P X (prims ((m, b, f) :: l)) := by
  refine ⟨?_, ?_, hl.mixed⟩
  · intro n args st K r w0 N0 B0 th a w vs h rel hs ha
    replace h : primsA ((m, b, f) :: l) n args st K = some r := h
    unfold primsA at h
    cases hn : n == m with
    | true =>
      rw [hn] at h
      have : n = m := by simpa using hn
      subst this
      cases b with
      | true => exact callB_ok g hf h rel hs ha
      | false => exact callA_ok g hf h rel hs ha
    | false =>
      rw [hn] at h
      exact hl.all n args st K r w0 N0 B0 th a w vs h rel hs ha
  · intro n args h K r hh
    replace hh : primsQ ((m, b, f) :: l) n args h K = some r := hh
    unfold primsQ at hh
    cases hn : n == m with
    | true =>
      rw [hn] at hh
      have : n = m := by simpa using hn
      subst this
      cases b with
      | true => cases hh
      | false =>
        obtain ⟨v, h1, h2⟩ := hf _ _ _ hh
        split at h1
        · rename_i hp; exact ⟨v, h1, hp, h2⟩
        · cases h1
    | false =>
      rw [hn] at hh
      exact hl.quiet n args h K r hh

theorem pure_gen {P : Program} {X : Univ U} (g : Good X) {n : Nat} {fn : Func} {body : Code} {prim : Prm U R} {D : Nat → Dir} {cuts : List Nat} {args : List (AV U)} {k : AV U → Option R} {back : R → AV U} {r : R} (F : Nat) (hf : P.funcs[n]? = some fn) (hb : fn.body = some body) (hn : (ids body).Nodup)
    (pok : PrmOK P X prim) (hk : ∀ v r, k v = some r → v = back r)
    (h : seg P X prim cuts (fun q st => cutG P X prim cuts D body (finP P fn.results.toList k) F q (keepD D q st)) body (finP P fn.results.toList k) (start args fn.ntmps []) = some r) : Pure P X n args (back r) :=
  pure_of g (keep := keepD D) (F := F) hf hb hn pok (fun w0 N0 B0 => keepD_ok g D w0 N0 B0) hk (by rw [cutF_eq]; exact h)
end Go.Abs
