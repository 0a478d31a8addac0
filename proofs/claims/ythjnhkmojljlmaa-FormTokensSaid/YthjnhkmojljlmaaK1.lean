/- Parts of the proof: Abs, AbsStep, Abs2, AbsLoad, AbsStore, AbsMem, AbsWrite, AbsOps, AbsStepOK, AbsStepAll, AbsBase, AbsRow, AbsAppend, AbsNrm, AbsMore, AbsMore2, AbsSlice, AbsMap, AbsExt, AbsStepM, AbsSub, AbsCanon, AbsFrz, AbsCtl, AbsRun. -/
import GoSem.Step
import Derived.Laws.Sem
import Derived.KernelRfl
import Derived.Laws.Entries
import Derived.Calls
import Derived.Tactics
import Derived.WalkKit
import Derived.Laws.Cells
import Derived.Laws.CopyRow
import Derived.Laws.Slices
import Derived.Laws.Strings
import Derived.Laws.Concat
import Derived.Laws.Small
import Derived.BigFrame
import Derived.Deep.AppendSrc
import Derived.Laws.Tables
import Derived.Great.BuildSlice
import Derived.Laws.StructEq
import Derived.Laws.MakeOwn
import Derived.MapKept
import Derived.Laws.BytesArg
import Derived.Below
set_option linter.unusedVariables false
namespace Go.Abs
open Go
inductive AV (U : Nat → Type) : Type where
  | undef
  | bool (b : Bool)
  | int (k : IntKind) (n : Int)
  | str (s : ByteArray)
  | val (v : Value)
  | nils (e : Nat)
  | imm (e : Nat) (l : List (U e))
  | pimm (e : Nat) (l : List (U e)) (j c : Nat)
  | row (i e : Nat)
  | view (i e off n : Nat)
  | prow (i e j c : Nat)
  | ptr (i c : Nat)
  | mp (i : Nat)
  | agg (cs : List (AV U))
  | tup (cs : List (AV U))
  | ifc (t : Nat) (v : AV U)
  | fn (f : FuncId) (cap : List (AV U))
  | gl (g : Nat)
inductive KT where
  | str | int (k : IntKind)
  deriving DecidableEq
abbrev KTy : KT → Type
  | .str => ByteArray
  | .int _ => Int
def kval : (kt : KT) → KTy kt → Value
  | .str, s => .string s
  | .int k, n => .int k n
inductive AO (U : Nat → Type) : Type where
  | dead
  | hole
  | box (cs : List (AV U))
  | row (e : Nat) (l : List (U e))
  | mp (kt : KT) (e : Nat) (l : List (KTy kt × U e))
structure Univ (U : Nat → Type) where
  enc : ∀ e, U e → AV U
  dec : ∀ e, AV U → Option (U e)
  dflt : ∀ e, U e
  z : Nat → Nat
  flat : Nat → Bool
  glob : Nat → AV U
  gvar : Nat → Option (Array Value) := fun _ => none
structure S (U : Nat → Type) where
  s : List (AV U)
  h : List (AO U)
variable {U : Nat → Type} {R : Type}
def free : Nat → AV U → Bool
  | _, .ptr _ _ => false
  | _, .row _ _ => false
  | _, .view _ _ _ _ => false
  | _, .prow _ _ _ _ => false
  | _, .mp _ => false
  | 0, .agg _ => false
  | 0, .tup _ => false
  | 0, .ifc _ _ => false
  | 0, .fn _ _ => false
  | d + 1, .agg cs => cs.all (free d)
  | d + 1, .tup cs => cs.all (free d)
  | d + 1, .ifc _ v => free d v
  | d + 1, .fn _ cs => cs.all (free d)
  | _, _ => true
def cellsOf : AV U → List (AV U)
  | .agg cs => cs
  | v => [v]
def ofVal : Value → AV U
  | .bool b => .bool b
  | .int k n => .int k n
  | .string s => .str s
  | .tuple _ => .undef
  | .agg _ => .undef
  | .func (.func f) a b => if a.size = 0 ∧ b.size = 0 then .fn f [] else .val (.func (.func f) a b)
  | v => .val v
def ev (st : S U) : Operand → AV U
  | .tmp t => st.s.getD t .undef
  | .const v => ofVal v
  | .func f => .fn f []
  | .global g => .gl g
def put (st : S U) (d : Option Tmp) (v : AV U) (h : List (AO U)) : S U :=
  match d with
  | some d => ⟨st.s.set d v, h⟩
  | none => ⟨st.s, h⟩
inductive Th where
  | none | dead | nil
  | blk (b : Nat) (cap : Nat × Nat)
section
variable (X : Univ U) (w : World) (N : Nat → Prop) (th : Nat → Th)
inductive VRel : AV U → Value → Prop where
  | undef (v : Value) : VRel .undef v
  | bool (b : Bool) : VRel (.bool b) (.bool b)
  | int (k : IntKind) (n : Int) : VRel (.int k n) (.int k n)
  | str (s : ByteArray) : VRel (.str s) (.string s)
  | val (v : Value) (h : v.oneCell' = true) : VRel (.val v) v
  | nils (e : Nat) : VRel (.nils e) (.slice Option.none 0 0)
  | imm0 (e : Nat) (a : Option Addr) (c : Nat) : VRel (.imm e []) (.slice a 0 c)
  | imm (e : Nat) (l : List (U e)) (b off c : Nat) (vs : Nat → Value) (hlc : l.length ≤ c) (hl : 0 < l.length * X.z e) (hN : ¬ N b) (hc : ∀ i, i < l.length * X.z e → w.cell? ⟨b, off + i, Option.none⟩ = some (vs i))
      (hv : ∀ j (h : j < l.length) k, k < X.z e → VRel ((cellsOf (X.enc e l[j])).getD k .undef) (vs (j * X.z e + k))) : VRel (.imm e l) (.slice (some ⟨b, off, Option.none⟩) l.length c)
  | pimm (e : Nat) (l : List (U e)) (j c : Nat) (b off : Nat) (vs : Nat → Value) (hl : 0 < l.length * X.z e) (hN : ¬ N b) (hc : ∀ i, i < l.length * X.z e → w.cell? ⟨b, off + i, Option.none⟩ = some (vs i))
      (hv : ∀ j (h : j < l.length) k, k < X.z e → VRel ((cellsOf (X.enc e l[j])).getD k .undef) (vs (j * X.z e + k))) : VRel (.pimm e l j c) (.pointer (some ⟨b, off + (j * X.z e + c), Option.none⟩))
  | row (i e b cap n : Nat) (h : th i = .blk b (cap, n)) (hn : n ≤ cap) : VRel (.row i e) (.slice (some ⟨b, 0, Option.none⟩) n cap)
  | rowNil (i e : Nat) (h : th i = .nil) : VRel (.row i e) (.slice Option.none 0 0)
  | rowDead (i e : Nat) (v : Value) (ho : v.oneCell' = true) (h : th i = .dead) : VRel (.row i e) v
  | view (i e off n b cap len c : Nat) (h : th i = .blk b (cap, len)) (hn : off + n ≤ len) (hl : len ≤ cap) (h0 : 0 < n ∨ off = 0) (hc : n ≤ c) (hcc : off + c ≤ cap) : VRel (.view i e off n) (.slice (some ⟨b, off * X.z e, Option.none⟩) n c)
  | view0 (i e off : Nat) (a : Option Addr) (c : Nat) (hoff : off ≠ 0) : VRel (.view i e off 0) (.slice a 0 c)
  | viewNil (i e : Nat) (h : th i = .nil) : VRel (.view i e 0 0) (.slice Option.none 0 0)
  | viewDead (i e off n : Nat) (v : Value) (ho : v.oneCell' = true) (h : th i = .dead) : VRel (.view i e off n) v
  | prow (i e j c b : Nat) (cap : Nat × Nat) (h : th i = .blk b cap) : VRel (.prow i e j c) (.pointer (some ⟨b, j * X.z e + c, Option.none⟩))
  | prowDead (i e j c : Nat) (v : Value) (ho : v.oneCell' = true) (h : th i = .dead) : VRel (.prow i e j c) v
  | ptr (i c b : Nat) (cap : Nat × Nat) (h : th i = .blk b cap) : VRel (.ptr i c) (.pointer (some ⟨b, c, Option.none⟩))
  | ptrDead (i c : Nat) (v : Value) (ho : v.oneCell' = true) (h : th i = .dead) : VRel (.ptr i c) v
  | mp (i b : Nat) (cap : Nat × Nat) (h : th i = .blk b cap) : VRel (.mp i) (.map (some b))
  | mpDead (i : Nat) (v : Value) (ho : v.oneCell' = true) (h : th i = .dead) : VRel (.mp i) v
  | agg (cs : List (AV U)) (vs : Array Value) (hs : vs.size = cs.length) (h : ∀ j, j < cs.length → VRel (cs.getD j .undef) (vs.getD j undef)) : VRel (.agg cs) (.agg vs)
  | tup (cs : List (AV U)) (vs : Array Value) (hs : vs.size = cs.length) (h : ∀ j, j < cs.length → VRel (cs.getD j .undef) (vs.getD j undef)) : VRel (.tup cs) (.tuple vs)
  | ifc (t : Nat) (x : AV U) (v : Value) (h : VRel x v) : VRel (.ifc t x) (.iface t v)
  | fn (f : FuncId) (cs : List (AV U)) (vs : Array Value) (hs : vs.size = cs.length) (h : ∀ j, j < cs.length → VRel (cs.getD j .undef) (vs.getD j Go.undef)) : VRel (.fn f cs) (.func (.func f) #[] vs)
  | gl (g : Nat) : VRel (.gl g) (.pointer (some ⟨g, 0, Option.none⟩))
end
theorem VRel.mono {X : Univ U} {w w' : World} {N N' : Nat → Prop} {th th' : Nat → Th} {x : AV U} {v : Value} (h : VRel X w N th x v)
    (hb : ∀ b, ¬ N b → b < w.heap.size → w'.heap[b]? = w.heap[b]?) (hN : ∀ b, N' b → N b ∨ w.heap.size ≤ b) (ht : ∀ i, th i = .none ∨ th' i = th i ∨ th' i = .dead) : VRel X w' N' th' x v := by
  have cell : ∀ b o u, ¬ N b → w.cell? ⟨b, o, Option.none⟩ = some u → w'.cell? ⟨b, o, Option.none⟩ = some u ∧ ¬ N' b := by
    intro b o u hn hc
    have hlt : b < w.heap.size := by
      refine Nat.lt_of_not_le fun hge => ?_
      simp [World.cell?, Array.getElem?_eq_none hge] at hc
    refine ⟨?_, fun h' => ?_⟩
    · rw [← hc]; simp only [World.cell?, hb b hn hlt]
    · rcases hN b h' with h1 | h1
      · exact hn h1
      · omega
  induction h with
  | undef v => exact .undef v
  | bool b => exact .bool b
  | int k n => exact .int k n
  | str s => exact .str s
  | val v ho => exact .val v ho
  | nils e => exact .nils e
  | imm0 e a c => exact .imm0 e a c
  | imm e l b off c vs hlc hl hn hc hv ih => exact .imm e l b off c vs hlc hl (cell b _ _ hn (hc 0 hl)).2 (fun i hi => (cell b _ _ hn (hc i hi)).1) ih
  | pimm e l j c b off vs hl hn hc hv ih => exact .pimm e l j c b off vs hl (cell b _ _ hn (hc 0 hl)).2 (fun i hi => (cell b _ _ hn (hc i hi)).1) ih
  | row i e b cap n h hn =>
    rcases ht i with h' | h' | h'
    · rw [h] at h'; cases h'
    · exact .row i e b cap n (h'.trans h) hn
    · exact .rowDead i e _ rfl h'
  | rowNil i e h =>
    rcases ht i with h' | h' | h'
    · rw [h] at h'; cases h'
    · exact .rowNil i e (h'.trans h)
    · exact .rowDead i e _ rfl h'
  | rowDead i e v ho h =>
    rcases ht i with h' | h' | h'
    · rw [h] at h'; cases h'
    · exact .rowDead i e v ho (h'.trans h)
    · exact .rowDead i e v ho h'
  | view i e off n b cap len c h hn hl h0 hc hcc =>
    rcases ht i with h' | h' | h'
    · rw [h] at h'; cases h'
    · exact .view i e off n b cap len c (h'.trans h) hn hl h0 hc hcc
    · exact .viewDead i e off n _ rfl h'
  | view0 i e off a c hoff => exact .view0 i e off a c hoff
  | viewNil i e h =>
    rcases ht i with h' | h' | h'
    · rw [h] at h'; cases h'
    · exact .viewNil i e (h'.trans h)
    · exact .viewDead i e 0 0 _ rfl h'
  | viewDead i e off n v ho h =>
    rcases ht i with h' | h' | h'
    · rw [h] at h'; cases h'
    · exact .viewDead i e off n v ho (h'.trans h)
    · exact .viewDead i e off n v ho h'
  | prow i e j c b cap h =>
    rcases ht i with h' | h' | h'
    · rw [h] at h'; cases h'
    · exact .prow i e j c b cap (h'.trans h)
    · exact .prowDead i e j c _ rfl h'
  | prowDead i e j c v ho h =>
    rcases ht i with h' | h' | h'
    · rw [h] at h'; cases h'
    · exact .prowDead i e j c v ho (h'.trans h)
    · exact .prowDead i e j c v ho h'
  | ptr i c b cap h =>
    rcases ht i with h' | h' | h'
    · rw [h] at h'; cases h'
    · exact .ptr i c b cap (h'.trans h)
    · exact .ptrDead i c _ rfl h'
  | ptrDead i c v ho h =>
    rcases ht i with h' | h' | h'
    · rw [h] at h'; cases h'
    · exact .ptrDead i c v ho (h'.trans h)
    · exact .ptrDead i c v ho h'
  | mp i b cap h =>
    rcases ht i with h' | h' | h'
    · rw [h] at h'; cases h'
    · exact .mp i b cap (h'.trans h)
    · exact .mpDead i _ rfl h'
  | mpDead i v ho h =>
    rcases ht i with h' | h' | h'
    · rw [h] at h'; cases h'
    · exact .mpDead i v ho (h'.trans h)
    · exact .mpDead i v ho h'
  | agg cs vs hs h ih => exact .agg cs vs hs ih
  | tup cs vs hs h ih => exact .tup cs vs hs ih
  | ifc t x v h ih => exact .ifc t x v ih
  | fn f cs vs hs h ih => exact .fn f cs vs hs ih
  | gl g => exact .gl g
end Go.Abs
namespace Go.Abs
open Go
variable {U : Nat → Type} {R : Type}
def sizeT (P : Program) (t : TypeId) : Nat := ((P.info? t).map (·.size)).getD 0
def elemT (P : Program) (t : TypeId) : Nat := match P.underlying t with | some (.slice e) => e | _ => 0
def intT (P : Program) (t : TypeId) : Option IntKind := match P.underlying t with | some (.int k) => some k | _ => none
def evT (P : Program) (st : S U) (t : TypeId) (x : Operand) : AV U :=
  match x with
  | .const (.slice none 0 0) => .nils (elemT P t)
  | x => ev st x
def okFlat : AV U → Bool
  | .bool _ | .int _ _ | .str _ => true
  | _ => false
def aggD : TypeDesc → Bool
  | .struct _ | .array _ _ => true
  | _ => false
def aggT (P : Program) (t : TypeId) : Bool := ((P.underlying t).map aggD).getD false
def loadOK (P : Program) (t : TypeId) (n c : Nat) : Bool :=
  match P.underlying t with
  | none => false
  | some d => if aggD d then (P.info? t).isSome && decide (c + sizeT P t ≤ n) else decide (c < n)
def okCell : AV U → Bool
  | .undef | .agg _ | .tup _ => false
  | _ => true
def loadC (P : Program) (t : TypeId) (cs : List (AV U)) (c : Nat) : AV U :=
  if aggT P t then .agg ((cs.drop c).take (sizeT P t)) else cs.getD c .undef
def isAggV : AV U → Bool | .agg _ => true | _ => false
def loadE (P : Program) (t : TypeId) (v : AV U) (c : Nat) : AV U :=
  if aggT P t then (if isAggV v = true ∧ c = 0 ∧ sizeT P t = (cellsOf v).length then v else .agg (((cellsOf v).drop c).take (sizeT P t))) else (cellsOf v).getD c .undef
def setCs (cs : List (AV U)) : Nat → List (AV U) → List (AV U)
  | _, [] => cs
  | c, v :: r => setCs (cs.set c v) (c + 1) r
def cellE (P : Program) : Nat → TypeId → List Nat
  | 0, _ => []
  | d + 1, t =>
    match P.underlying t with
    | some (.struct fs) => fs.toList.flatMap fun f => cellE P d f.type
    | some (.array n e) => (List.replicate n ()).flatMap fun _ => cellE P d e
    | some (.slice e) => [e]
    | _ => [0]
def zeroCell (e : Nat) : Value → AV U
  | .slice none 0 0 => .nils e
  | v => ofVal v
def zeroCs (P : Program) (t : TypeId) : List (AV U) :=
  match (P.info? t).bind (·.zero) with
  | some v => (v.cells.toList.zip (cellE P 8 t ++ List.replicate v.cells.size 0)).map fun p => zeroCell p.2 p.1
  | none => []
def zeroV (P : Program) (t : TypeId) : AV U := if aggT P t then .agg (zeroCs P t) else (zeroCs P t).getD 0 .undef
def bt (s : ByteArray) (i : Int) : Int := (((s.data.getD i.toNat 0).toNat : Nat) : Int)
def alive (h : List (AO U)) (i : Nat) : Bool := match h.getD i .dead with | .dead => false | .hole => false | _ => true
def listOf (h : List (AO U)) : AV U → Option ((e : Nat) × List (U e))
  | .nils e => some ⟨e, []⟩
  | .imm e l => some ⟨e, l⟩
  | .row i e =>
    match h.getD i .dead with
    | .row e' l => if e' = e then some ⟨e', l⟩ else none
    | _ => none
  | .view i e off n =>
    match h.getD i .dead with
    | .row e' l => if e' = e then some ⟨e', (l.drop off).take n⟩ else none
    | _ => none
  | _ => none
def castL {e e' : Nat} (h : e = e') (l : List (U e)) : List (U e') := h ▸ l
def shl (k : IntKind) (x y : Int) : Int := k.wrap (x * 2 ^ (min y.toNat k.bits))
def shr (k : IntKind) (x y : Int) : Int := x.fdiv (2 ^ (min y.toNat k.bits))
def intOp (op : BinOp) (k : IntKind) (x y : Int) (K : AV U → Option R) : Option R :=
  match op with
  | .add => K (.int k (k.wrap (x + y)))
  | .sub => K (.int k (k.wrap (x - y)))
  | .mul => K (.int k (k.wrap (x * y)))
  | .quo => cond (decide (y = 0)) none (K (.int k (k.wrap (x.tdiv y))))
  | .rem => cond (decide (y = 0)) none (K (.int k (x.tmod y)))
  | .and => K (.int k (Go.bits .and k x y))
  | .or => K (.int k (Go.bits .or k x y))
  | .xor => K (.int k (Go.bits .xor k x y))
  | .andNot => K (.int k (Go.bits .andNot k x y))
  | .eql => K (.bool (x == y))
  | .neq => K (.bool (x != y))
  | .lss => K (.bool (decide (x < y)))
  | .leq => K (.bool (decide (x ≤ y)))
  | .gtr => K (.bool (decide (x > y)))
  | .geq => K (.bool (decide (x ≥ y)))
  | _ => none
def binA (P : Program) (t : TypeId) (op : BinOp) (x y : AV U) (K : AV U → Option R) : Option R :=
  match op, x, y with
  | .shl, .int k a, .int _ b => cond (decide (0 ≤ b)) (K (.int k (shl k a b))) none
  | .shr, .int k a, .int _ b => cond (decide (0 ≤ b)) (K (.int k (shr k a b))) none
  | op, .int k a, .int k' b => if k = k' then intOp op k a b K else none
  | .eql, .bool a, .bool b => (match P.underlying t with | some .bool => K (.bool (a == b)) | _ => none)
  | .neq, .bool a, .bool b => (match P.underlying t with | some .bool => K (.bool (!(a == b))) | _ => none)
  | .eql, .str a, .str b => K (.bool (a.toList == b.toList))
  | .neq, .str a, .str b => K (.bool (!(a.toList == b.toList)))
  | .add, .str a, .str b => cond (decide (a.size + b.size ≤ 4611686018427387904)) (K (.str (a ++ b))) none
  | _, _, _ => none
section
variable (P : Program) (X : Univ U) (st : S U) (K : AV U → List (AO U) → Option R)
def stPick (c a b : Operand) : Option R :=
  match ev st c with
  | .bool true => K (ev st a) st.h
  | .bool false => K (ev st b) st.h
  | _ => none
def stNil (x : Operand) : Option R :=
  match ev st x with
  | .ptr i c => if alive st.h i then K (.ptr i c) st.h else none
  | .prow i e j c => if alive st.h i then K (.prow i e j c) st.h else none
  | .pimm e l j c => K (.pimm e l j c) st.h
  | .ifc t v => K (.ifc t v) st.h
  | _ => none
def stUn (op : UnOp) (x : Operand) : Option R :=
  match op, ev st x with
  | .not, .bool b => K (.bool (!b)) st.h
  | .neg, .int k n => K (.int k (k.wrap (0 - n))) st.h
  | .xor, .int k n => K (.int k (Go.bits .xor k (if k.signed then -1 else k.max) n)) st.h
  | _, _ => none
def stConv (src dst : TypeId) (x : Operand) : Option R :=
  match ev st x, P.underlying src, P.underlying dst with
  | .int _ n, some _, some (.int k) => K (.int k (k.wrap n)) st.h
  | _, _, _ => none
def stAlloc (t : TypeId) : Option R :=
  match (P.info? t).bind (·.zero) with
  | some v => if v.cells.toList.all Value.oneCell' then K (.ptr st.h.length 0) (st.h ++ [.box (zeroCs P t)]) else none
  | none => none
def stBox (t : TypeId) (x : Operand) : Option R :=
  if (cellsOf (evT P st t x)).all okCell then K (.ptr st.h.length 0) (st.h ++ [.box (cellsOf (evT P st t x))]) else none
def stLoad (t : TypeId) (a : Operand) : Option R :=
  match ev st a with
  | .ptr i c => (match st.h.getD i .dead with | .box cs => if loadOK P t cs.length c then K (loadC P t cs c) st.h else none | _ => none)
  | .pimm e l j c => if loadOK P t (X.z e) c then cond (decide (j < l.length)) (K (loadE P t (X.enc e (l.getD j (X.dflt e))) c) st.h) none else none
  | .prow i e j c =>
    (match st.h.getD i .dead with
    | .row e' l => if h : e' = e then (if loadOK P t (X.z e) c then cond (decide (j < l.length)) (K (loadE P t (X.enc e ((castL h l).getD j (X.dflt e))) c) st.h) none else none) else none
    | _ => none)
  | _ => none
def storeOK (t : TypeId) (x : AV U) : Bool := (cellsOf x).all okCell && (P.info? t).isSome && decide ((cellsOf x).length = sizeT P t)
def stStore (t : TypeId) (a x : Operand) : Option R :=
  match ev st a with
  | .ptr i c =>
    (match st.h.getD i .dead with
    | .box cs => if storeOK P t (evT P st t x) && decide (c + sizeT P t ≤ cs.length) then K .undef (st.h.set i (.box (setCs cs c (cellsOf (evT P st t x))))) else none
    | _ => none)
  | .prow i e j 0 =>
    (match st.h.getD i .dead, X.dec e (evT P st t x) with
    | .row e' l, some y => if h : e' = e then (if storeOK P t (evT P st t x) && decide (sizeT P t = X.z e) then cond (decide (j < l.length)) (K .undef (st.h.set i (.row e ((castL h l).set j y)))) none else none) else none
    | _, _ => none)
  | _ => none
def stFieldAddr (t : TypeId) (x : Operand) (f : Nat) : Option R :=
  match P.underlying t with
  | some (.struct fields) =>
    (match fields[f]? with
    | some fd => if (P.info? fd.type).isSome && decide (sizeT P fd.type ≠ 0) then
      (match ev st x with
      | .ptr i c => if alive st.h i then K (.ptr i (c + fd.offset)) st.h else none
      | .pimm e l j c => K (.pimm e l j (c + fd.offset)) st.h
      | .prow i e j c => if alive st.h i then K (.prow i e j (c + fd.offset)) st.h else none
      | _ => none) else none
    | none => none)
  | _ => none
def stField (t : TypeId) (x : Operand) (f : Nat) : Option R :=
  match P.underlying t, ev st x with
  | some (.struct fields), .agg cs =>
    (match fields[f]? with
    | some fd => if loadOK P fd.type cs.length fd.offset then K (loadC P fd.type cs fd.offset) st.h else none
    | none => none)
  | _, _ => none
def stIndexAddr (t : TypeId) (x ix : Operand) : Option R :=
  match P.underlying t, ev st x, ev st ix with
  | some (.slice d), .imm e l, .int _ i => if (P.info? d).isSome && decide (sizeT P d = X.z e) then cond (decide (0 ≤ i)) (cond (decide (i < (l.length : Int))) (K (.pimm e l i.toNat 0) st.h) none) none else none
  | some (.slice d), .row r e, .int _ i =>
    (match st.h.getD r .dead with
    | .row e' l => if e' = e then (if (P.info? d).isSome && decide (sizeT P d = X.z e) then cond (decide (0 ≤ i)) (cond (decide (i < (l.length : Int))) (K (.prow r e i.toNat 0) st.h) none) none else none) else none
    | _ => none)
  | some (.slice d), .view r e off n, .int _ i =>
    (match st.h.getD r .dead with
    | .row e' _ => if e' = e then (if (P.info? d).isSome && decide (sizeT P d = X.z e) then cond (decide (0 ≤ i)) (cond (decide (i < (n : Int))) (K (.prow r e (off + i.toNat) 0) st.h) none) none else none) else none
    | _ => none)
  | _, _, _ => none
def stIndex (t : TypeId) (x ix : Operand) : Option R :=
  match P.underlying t, ev st x, ev st ix with
  | some .string, .str s, .int _ i => cond (decide (0 ≤ i)) (cond (decide (i < (s.size : Int))) (K (.int .u8 (bt s i)) st.h) none) none
  | _, _, _ => none
def stExtract (x : Operand) (i : Nat) : Option R :=
  match ev st x with
  | .tup cs => if i < cs.length then K (cs.getD i .undef) st.h else none
  | _ => none
def stLen (t : TypeId) (x : Operand) : Option R :=
  match P.underlying t, ev st x with
  | some (.slice _), .nils _ => K (.int .i64 0) st.h
  | some (.slice _), .imm _ l => K (.int .i64 (l.length : Int)) st.h
  | some (.slice _), .row i _ => (match st.h.getD i .dead with | .row _ l => K (.int .i64 (l.length : Int)) st.h | _ => none)
  | some (.slice _), .view i _ _ n => (match st.h.getD i .dead with | .row _ _ => K (.int .i64 (n : Int)) st.h | _ => none)
  | some .string, .str s => K (.int .i64 (s.size : Int)) st.h
  | _, _ => none
def stBuiltin (b : Builtin) (args : List Operand) (ts : List TypeId) : Option R :=
  match b, args, ts with
  | .len, [x], [t] => stLen P st K t x
  | _, _, _ => none
end
def step (P : Program) (X : Univ U) (o : Oper) (st : S U) (K : AV U → List (AO U) → Option R) : Option R :=
  match o.op with
  | .move x => K (evT P st o.type x) st.h
  | .assign x => K (evT P st o.type x) st.h
  | .pick c a b => stPick st K c a b
  | .nilCheck x => stNil st K x
  | .binOp op t x y _ => binA P t op (ev st x) (ev st y) fun v => K v st.h
  | .unOp op _ x => stUn st K op x
  | .convert src dst x => stConv P st K src dst x
  | .alloc t => stAlloc P st K t
  | .box t x => stBox P st K t x
  | .load t a => stLoad P X st K t a
  | .store t a x => stStore P X st K t a x
  | .fieldAddr t x f => stFieldAddr P st K t x f
  | .field t x f => stField P st K t x f
  | .indexAddr t x ix => stIndexAddr P X st K t x ix
  | .index t x ix => stIndex P st K t x ix
  | .extract x i => stExtract st K x i
  | .call c =>
    match c.callee with
    | .builtin b => stBuiltin P st K b c.args.toList c.argTypes.toList
    | _ => none
  | _ => none
end Go.Abs
namespace Go.Abs
open Go
variable {U : Nat → Type} {R : Type}
structure Closed (X : Univ U) : Prop where
  el : ∀ e y, (cellsOf (X.enc e y)).all (free 8) = true
  gl : ∀ g, free 8 (X.glob g) = true
def Own (th : Nat → Th) (b : Nat) : Prop := ∃ i c, th i = .blk b c
def NN (N0 : Nat → Prop) (th : Nat → Th) (b : Nat) : Prop := N0 b ∨ ∃ i c, th i = .blk b c
section
variable (X : Univ U) (w : World) (N : Nat → Prop) (th : Nat → Th)
def ORel (i : Nat) : AO U → Prop
  | .dead => th i = .dead
  | .hole => th i = .none
  | .box cs => ∃ b T cur, th i = .blk b (0, 0) ∧ w.heap[b]? = some (.cells cur T (0, 0)) ∧ cur.size = cs.length ∧ ∀ j, j < cs.length → VRel X w N th (cs.getD j .undef) (cur.getD j undef)
  | .row e l => (th i = .nil ∧ l = []) ∨ ∃ b cap cur, th i = .blk b (cap, l.length) ∧ w.heap[b]? = some (.cells cur e (0, 0)) ∧ cap ≤ maxLen ∧ cap * X.z e ≤ cur.size ∧ l.length ≤ cap ∧
      ∀ j (_h : j < l.length) k, k < X.z e → VRel X w N th ((cellsOf (X.enc e l[j])).getD k .undef) (cur.getD (j * X.z e + k) undef)
  | .mp kt e l => ∃ b mes clock, th i = .blk b (0, 0) ∧ w.heap[b]? = some (.map mes clock) ∧ mes.size = l.length ∧
      ∀ j (_h : j < l.length), ∃ m, mes[j]? = some m ∧ m.key = kval kt l[j].1 ∧ VRel X w N th (X.enc e l[j].2) m.val
end
structure Mem (X : Univ U) (w0 : World) (N0 : Nat → Prop) (B0 : Nat → Th) (th : Nat → Th) (h : List (AO U)) (w : World) : Prop where
  objs : ∀ i, i < h.length → ORel X w (NN N0 th) th i (h.getD i .dead)
  glob : ∀ g, VRel X w (NN N0 th) th (X.glob g) (.pointer (some ⟨g, 0, none⟩))
  gv : ∀ g a, X.gvar g = some a → g < w0.heap.size ∧ ¬ Own B0 g ∧ ∃ T m, w0.heap[g]? = some (.cells a T m)
  out : ∀ i, h.length ≤ i → th i = .none
  own : ∀ i b c, th i = .blk b c → (Own B0 b ∨ w0.heap.size ≤ b) ∧ b < w.heap.size ∧ ¬ N0 b
  inj : ∀ i j b c d, th i = .blk b c → th j = .blk b d → i = j
  n0 : ∀ b, N0 b → b < w0.heap.size
  size : w0.heap.size ≤ w.heap.size
  os : w.os = w0.os
  tape : w.tape = w0.tape
  output : w.output = w0.output
  pin : ∀ i, B0 i = .none ∨ th i = B0 i ∨ th i = .dead
  keep : ∀ k, k < w0.heap.size → ¬ Own B0 k → w.heap[k]? = w0.heap[k]?
structure RelT (X : Univ U) (w0 : World) (N0 : Nat → Prop) (B0 : Nat → Th) (th : Nat → Th) (st : S U) (a : Act) (w : World) : Prop where
  len : st.s.length ≤ a.tmps.size
  slots : ∀ i, VRel X w (NN N0 th) th (st.s.getD i .undef) (a.tmps.getD i undef)
  mem : Mem X w0 N0 B0 th st.h w
  defers : a.defers = []
def Rel (X : Univ U) (w0 : World) (N0 : Nat → Prop) (B0 : Nat → Th) (st : S U) (a : Act) (w : World) : Prop := ∃ th, RelT X w0 N0 B0 th st a w
theorem ofVal_rel (X : Univ U) (w : World) (N : Nat → Prop) (th : Nat → Th) (v : Value) : VRel X w N th (ofVal v : AV U) v := by
  unfold ofVal
  split
  · exact .bool _
  · exact .int _ _
  · exact .str _
  · exact .undef _
  · exact .undef _
  · rename_i f a b
    split
    · rename_i h
      obtain rfl : a = #[] := Array.eq_empty_of_size_eq_zero h.1
      obtain rfl : b = #[] := Array.eq_empty_of_size_eq_zero h.2
      exact .fn _ [] #[] rfl (fun j h => by simp at h)
    · exact .val _ rfl
  · rename_i h1 h2 h3 h4 h5 h6
    refine .val _ ?_
    cases v <;> first | rfl | (exact absurd rfl (h4 _)) | (exact absurd rfl (h5 _))
section
variable {P : Program} {X : Univ U} {w0 w : World} {N0 : Nat → Prop} {B0 : Nat → Th} {th : Nat → Th} {st : S U} {a : Act}
theorem RelT.ev (h : RelT X w0 N0 B0 th st a w) (x : Operand) : VRel X w (NN N0 th) th (ev st x) (a.eval x) := by
  cases x with
  | tmp t => exact h.slots t
  | const v => exact ofVal_rel X w _ th v
  | global g => exact .gl g
  | func f => exact .fn f [] #[] rfl (fun j h => by simp at h)
theorem getD_set (l : List (AV U)) (d i : Nat) (v : AV U) : (l.set d v).getD i .undef = if d = i ∧ d < l.length then v else l.getD i .undef := by
  simp only [List.getD_eq_getElem?_getD, List.getElem?_set]
  by_cases h : d = i
  · subst h
    by_cases h2 : d < l.length
    · simp [h2]
    · simp [h2]
  · simp [h]
theorem getD_setIf (l : Array Value) (d i : Nat) (v : Value) : (l.setIfInBounds d v).getD i undef = if d = i ∧ d < l.size then v else l.getD i undef := by
  simp only [Array.getD_eq_getD_getElem?, Array.getElem?_setIfInBounds]
  by_cases h : d = i
  · subst h
    by_cases h2 : d < l.size
    · simp [h2]
    · simp [h2]
  · simp [h]
theorem RelT.put (h : RelT X w0 N0 B0 th st a w) (d : Option Tmp) {v : AV U} {u : Value} (hv : VRel X w (NN N0 th) th v u) : RelT X w0 N0 B0 th (put st d v st.h) (a.put d u) w := by
  cases d with
  | none => exact { h with }
  | some d =>
    refine { h with len := ?_, slots := ?_ }
    · simpa [Abs.put, Act.put] using h.len
    · intro i
      simp only [Abs.put, Act.put, getD_set, getD_setIf]
      by_cases hd : d = i ∧ d < st.s.length
      · rw [if_pos hd, if_pos ⟨hd.1, Nat.lt_of_lt_of_le hd.2 h.len⟩]; exact hv
      · rw [if_neg hd]
        by_cases hd2 : d = i ∧ d < a.tmps.size
        · rw [if_pos hd2]
          have : st.s.getD i .undef = .undef := by
            have h1 := hd2.1
            have h3 : ¬ d < st.s.length := fun h2 => hd ⟨h1, h2⟩
            have h4 : st.s.length ≤ i := by rw [← h1]; exact Nat.le_of_not_lt h3
            rw [List.getD_eq_getElem?_getD, List.getElem?_eq_none h4]; rfl
          rw [this]; exact .undef _
        · rw [if_neg hd2]; exact h.slots i
end
theorem wp_value {P : Program} {o : Oper} {a : Act} {w w' : World} {v : Value} {next : Act → World → Prop} {Q : Exit → Act → World → Prop} (h : (execOp a.eval o).run P w = .ok (.value v) w')
    (hn : next (a.put o.dst v) w') : o.wp P a w next Q := by
  unfold Oper.wp; rw [h]; exact hn
theorem wp_skip_ {P : Program} {o : Oper} {a : Act} {w w' : World} {next : Act → World → Prop} {Q : Exit → Act → World → Prop} (h : (execOp a.eval o).run P w = .ok .skip w')
    (hn : next (a.put o.dst undef) w') : o.wp P a w next Q := by
  unfold Oper.wp; rw [h]; exact hn
end Go.Abs
namespace Go.Abs
open Go
variable {U : Nat → Type} {R : Type}
theorem addr_add (b o n : Nat) : (⟨b, o, none⟩ : Addr).add n = ⟨b, o + n, none⟩ := Addr.add_lit b o n
theorem run_isAgg {P : Program} {t : TypeId} {d : TypeDesc} (h : P.underlying t = some d) (w : World) : (isAgg t).run P w = .ok (aggD d) w := by
  simp only [isAgg, Sem.run_bind, run_underlying h, Result.andThen_ok]
  cases d <;> rfl
theorem run_sizeOf {P : Program} {t : TypeId} (h : (P.info? t).isSome = true) (w : World) : (sizeOf t).run P w = .ok (sizeT P t) w := by
  obtain ⟨i, hi⟩ := Option.isSome_iff_exists.1 h
  simp [sizeOf, typeInfo, hi, sizeT]
theorem run_load {P : Program} {X : Univ U} {w : World} {N : Nat → Prop} {th : Nat → Th} {t : TypeId} {cs : List (AV U)} {c b o : Nat}
    (hc : ∀ k, k < cs.length → ∃ v, w.cell? ⟨b, o + k, none⟩ = some v ∧ VRel X w N th (cs.getD k .undef) v) (hok : loadOK P t cs.length c = true) :
    ∃ v, (Instr.loadAt t (.pointer (some ⟨b, o + c, none⟩))).run P w = .ok v w ∧ VRel X w N th (loadC P t cs c) v := by
  unfold loadOK at hok
  cases hd : P.underlying t with
  | none => rw [hd] at hok; cases hok
  | some d =>
    rw [hd] at hok
    simp only at hok
    by_cases ha : aggD d = true
    · rw [if_pos ha, Bool.and_eq_true, decide_eq_true_eq] at hok
      obtain ⟨hi, hn⟩ := hok
      have hf : ∀ j, j < sizeT P t → w.cell? ((⟨b, o + c, none⟩ : Addr).add j) = some ((w.cell? ⟨b, o + (c + j), none⟩).getD undef) := by
        intro j hj
        obtain ⟨v, hv, _⟩ := hc (c + j) (by omega)
        rw [addr_add, Nat.add_assoc, hv]; rfl
      have hr := run_loadCells (P := P) w ⟨b, o + c, none⟩ (sizeT P t) (fun j => (w.cell? ⟨b, o + (c + j), none⟩).getD undef) hf
      refine ⟨.agg ((List.range (sizeT P t)).map fun j => (w.cell? ⟨b, o + (c + j), none⟩).getD undef).toArray, ?_, ?_⟩
      · simp only [Instr.loadAt, Instr.sureAddr, Sem.run_bind, Sem.run_pure, Result.andThen_ok, loadVar, run_isAgg hd, ha, if_true, run_sizeOf hi, hr]
      · unfold loadC
        rw [if_pos (by simp [aggT, hd, ha])]
        refine .agg _ _ (by simp; omega) fun j hj => ?_
        have hj' : j < sizeT P t := by simp at hj; omega
        obtain ⟨v, hv, hr⟩ := hc (c + j) (by omega)
        have e1 : ((cs.drop c).take (sizeT P t)).getD j .undef = cs.getD (c + j) .undef := by
          simp only [List.getD_eq_getElem?_getD, List.getElem?_take, hj', if_true, List.getElem?_drop]
        rw [e1]
        have e2 : ((List.range (sizeT P t)).map fun j => (w.cell? ⟨b, o + (c + j), none⟩).getD undef).toArray.getD j undef = v := by
          simp [Array.getD, hj', hv]
        rw [e2]; exact hr
    · rw [if_neg ha, decide_eq_true_eq] at hok
      obtain ⟨v, hv, hr⟩ := hc c hok
      refine ⟨v, ?_, ?_⟩
      · have ha' : aggD d = false := by simpa using ha
        simp only [Instr.loadAt, Instr.sureAddr, Sem.run_bind, Sem.run_pure, Result.andThen_ok, loadVar, run_isAgg hd, ha', Bool.false_eq_true, if_false, Go.run_load, hv]
      · unfold loadC
        rw [if_neg (by simp [aggT, hd, ha])]; exact hr
end Go.Abs
namespace Go.Abs
open Go
variable {U : Nat → Type} {R : Type}
theorem okCell_one {X : Univ U} {w : World} {N : Nat → Prop} {th : Nat → Th} {x : AV U} {v : Value} (h : VRel X w N th x v) (ho : okCell x = true) : v.oneCell' = true := by
  cases h <;> first | rfl | assumption | (simp [okCell] at ho)
theorem cells_rel {X : Univ U} {w : World} {N : Nat → Prop} {th : Nat → Th} {x : AV U} {v : Value} (h : VRel X w N th x v) (ho : (cellsOf x).all okCell = true) :
    v.cells.size = (cellsOf x).length ∧ (∀ j, j < (cellsOf x).length → VRel X w N th ((cellsOf x).getD j .undef) (v.cells.getD j undef)) ∧ ∀ u ∈ v.cells.toList, u.oneCell' = true := by
  by_cases hx : ∃ cs, x = .agg cs
  · obtain ⟨cs, rfl⟩ := hx
    cases h with
    | agg _ vs hs hj =>
      refine ⟨hs, hj, fun u hu => ?_⟩
      obtain ⟨j, hjl, rfl⟩ := List.mem_iff_getElem.1 hu
      simp only [Value.cells, Array.length_toList] at hjl
      have h1 := hj j (by omega)
      have h2 : okCell (cs.getD j .undef) = true := by
        rw [List.all_eq_true] at ho
        apply ho
        simp only [cellsOf]
        rw [List.getD_eq_getElem?_getD, List.getElem?_eq_getElem (by omega)]
        exact List.getElem_mem _
      have h3 := okCell_one h1 h2
      simp only [Value.cells, Array.getElem_toList]
      rw [Array.getD_eq_getD_getElem?, Array.getElem?_eq_getElem hjl] at h3
      exact h3
  · have e : cellsOf x = [x] := by
      cases x <;> first | rfl | exact absurd ⟨_, rfl⟩ hx
    rw [e] at ho ⊢
    have h2 : okCell x = true := by simpa using ho
    have h3 := okCell_one h h2
    have e2 : v.cells = #[v] := by cases v <;> first | rfl | (simp [Value.oneCell'] at h3)
    rw [e2]
    refine ⟨rfl, fun j hj => ?_, fun u hu => ?_⟩
    · have : j = 0 := by simpa using hj
      subst this; exact h
    · simp at hu; subst hu; exact h3
def overwrite (cur : Array Value) (c : Nat) (vs : Array Value) : Array Value := (cur.toList.take c ++ vs.toList ++ cur.toList.drop (c + vs.size)).toArray
theorem overwrite_size {cur : Array Value} {c : Nat} {vs : Array Value} (h : c + vs.size ≤ cur.size) : (overwrite cur c vs).size = cur.size := by
  simp [overwrite]; omega
theorem overwrite_get {cur : Array Value} {c : Nat} {vs : Array Value} (h : c + vs.size ≤ cur.size) (i : Nat) :
    (overwrite cur c vs).getD i undef = if c ≤ i ∧ i < c + vs.size then vs.getD (i - c) undef else cur.getD i undef := by
  simp only [overwrite, Array.getD_eq_getD_getElem?, List.getElem?_toArray]
  by_cases h1 : i < c
  · rw [List.append_assoc, List.getElem?_append_left (by simp; omega), List.getElem?_take, if_pos h1, if_neg (by omega), Array.getElem?_toList]
  · by_cases h2 : i < c + vs.size
    · rw [List.append_assoc, List.getElem?_append_right (by simp; omega), List.getElem?_append_left (by simp; omega), if_pos ⟨by omega, h2⟩, Array.getElem?_toList]
      congr 2; simp; omega
    · rw [List.getElem?_append_right (by simp; omega), if_neg (by omega), List.getElem?_drop, Array.getElem?_toList]
      congr 2; simp; omega
theorem run_store_at {P : Program} {X : Univ U} {w : World} {N : Nat → Prop} {th : Nat → Th} {t : TypeId} {x : AV U} {v : Value} {b c : Nat} {T : TypeId} {cur : Array Value}
    (hr : VRel X w N th x v) (ho : (cellsOf x).all okCell = true) (hi : (P.info? t).isSome = true) (hs : (cellsOf x).length = sizeT P t)
    (hb : w.heap[b]? = some (.cells cur T (0, 0))) (hc : c + sizeT P t ≤ cur.size) :
    (Instr.storeAt t (.pointer (some ⟨b, c, none⟩)) v).run P w = .ok () (w.setRow b (overwrite cur c v.cells)) := by
  obtain ⟨h1, _, h3⟩ := cells_rel hr ho
  have hst := run_storeCells_at (P := P) b c T v.cells.toList 0 cur w hb (by simp; omega) h3
  simp only [Instr.storeAt, Instr.sureAddr, Sem.run_bind, Sem.run_pure, Result.andThen_ok, storeVar, run_sizeOf hi]
  rw [if_neg (by omega)]
  rw [hst]
  simp [overwrite]
end Go.Abs
namespace Go.Abs
open Go
variable {U : Nat → Type} {R : Type}
section
variable {X : Univ U} {w0 w w' : World} {N0 : Nat → Prop} {B0 : Nat → Th} {th th' : Nat → Th} {h h' : List (AO U)}
structure Carries (X : Univ U) (N0 : Nat → Prop) (w w' : World) (th th' : Nat → Th) : Prop where
  size : w.heap.size ≤ w'.heap.size
  blk : ∀ b, b < w.heap.size → ¬ Own th b → w'.heap[b]? = w.heap[b]?
  pin : ∀ i, th i = .none ∨ th' i = th i ∨ th' i = .dead
  new : ∀ b, Own th' b → Own th b ∨ w.heap.size ≤ b
theorem Carries.rel (c : Carries X N0 w w' th th') (x : AV U) (v : Value) (hv : VRel X w (NN N0 th) th x v) : VRel X w' (NN N0 th') th' x v := by
  refine hv.mono (fun b hn hlt => c.blk b hlt fun ho => hn (.inr ho)) (fun b hb => ?_) c.pin
  rcases hb with hb | hb
  · exact .inl (.inl hb)
  · rcases c.new b hb with h1 | h1
    · exact .inl (.inr h1)
    · exact .inr h1
instance : CoeFun (Carries X N0 w w' th th') (fun _ => ∀ (x : AV U) (v : Value), VRel X w (NN N0 th) th x v → VRel X w' (NN N0 th') th' x v) := ⟨Carries.rel⟩
theorem Carries.trans {w2 : World} {th2 : Nat → Th} (c : Carries X N0 w w' th th') (d : Carries X N0 w' w2 th' th2) : Carries X N0 w w2 th th2 where
  size := Nat.le_trans c.size d.size
  blk := fun b hb hn => by
    have h1 := c.blk b hb hn
    rw [← h1]
    refine d.blk b (Nat.lt_of_lt_of_le hb c.size) fun ho => ?_
    rcases c.new b ho with h2 | h2
    · exact hn h2
    · omega
  pin := fun i => by
    rcases c.pin i with h | h | h
    · exact .inl h
    · rcases d.pin i with g | g | g
      · exact .inl (h.symm.trans g)
      · exact .inr (.inl (g.trans h))
      · exact .inr (.inr g)
    · rcases d.pin i with g | g | g
      · rw [h] at g; cases g
      · exact .inr (.inr (g.trans h))
      · exact .inr (.inr g)
  new := fun b hb => by
    rcases d.new b hb with h | h
    · exact c.new b h
    · exact .inr (Nat.le_trans c.size h)
theorem carries (hsz : w.heap.size ≤ w'.heap.size) (hblk : ∀ b, b < w.heap.size → ¬ Own th b → w'.heap[b]? = w.heap[b]?) (hth : ∀ i, th i = .none ∨ th' i = th i ∨ th' i = .dead)
    (hnew : ∀ i b c, th' i = .blk b c → th i = .blk b c ∨ w.heap.size ≤ b) : Carries X N0 w w' th th' :=
  ⟨hsz, hblk, hth, fun b ⟨i, c, hi⟩ => (hnew i b c hi).imp (fun h => ⟨i, c, h⟩) id⟩
theorem ORel.mono {N N' : Nat → Prop} {i : Nat} {o : AO U} (ho : ORel X w N th i o) (ht : th' i = th i) (hb : ∀ b c, th i = .blk b c → w'.heap[b]? = w.heap[b]?)
    (hc : ∀ (x : AV U) (v : Value), VRel X w N th x v → VRel X w' N' th' x v) : ORel X w' N' th' i o := by
  cases o with
  | dead => exact ht.trans ho
  | box cs =>
    obtain ⟨b, T, cur, h1, h2, h3, h4⟩ := ho
    exact ⟨b, T, cur, ht.trans h1, (hb b (0, 0) h1).trans h2, h3, fun j hj => hc _ _ (h4 j hj)⟩
  | row e l =>
    rcases ho with ⟨h1, h2⟩ | ⟨b, cap, cur, h1, h2, h3, h4, h5, h6⟩
    · exact .inl ⟨ht.trans h1, h2⟩
    · exact .inr ⟨b, cap, cur, ht.trans h1, (hb b _ h1).trans h2, h3, h4, h5, fun j hj k hk => hc _ _ (h6 j hj k hk)⟩
  | hole => exact ht.trans ho
  | mp kt e l =>
    obtain ⟨b, mes, clock, h1, h2, h3, h4⟩ := ho
    exact ⟨b, mes, clock, ht.trans h1, (hb b (0, 0) h1).trans h2, h3, fun j hj => by
      obtain ⟨m, m1, m2, m3⟩ := h4 j hj
      exact ⟨m, m1, m2, hc _ _ m3⟩⟩
theorem pin_step (hp : ∀ i, B0 i = .none ∨ th i = B0 i ∨ th i = .dead) (hth : ∀ i, th i = .none ∨ th' i = th i ∨ th' i = .dead) : ∀ i, B0 i = .none ∨ th' i = B0 i ∨ th' i = .dead := by
  intro i
  rcases hth i with h | h | h
  · rcases hp i with g | g | g
    · exact .inl g
    · exact .inl (g.symm.trans h)
    · rw [g] at h; cases h
  · rw [h]; exact hp i
  · exact .inr (.inr h)
theorem Mem.step (m : Mem X w0 N0 B0 th h w) (hsz : w.heap.size ≤ w'.heap.size) (hos : w'.os = w.os) (htape : w'.tape = w.tape) (hout : w'.output = w.output)
    (hblk : ∀ b, b < w.heap.size → ¬ Own th b → w'.heap[b]? = w.heap[b]?) (hth : ∀ i, th i = .none ∨ th' i = th i ∨ th' i = .dead) (hnew : ∀ i b c, th' i = .blk b c → th i = .blk b c ∨ (w.heap.size ≤ b ∧ b < w'.heap.size))
    (objs' : ∀ i, i < h'.length → ORel X w' (NN N0 th') th' i (h'.getD i .dead)) (out' : ∀ i, h'.length ≤ i → th' i = .none)
    (inj' : ∀ i j b c d, th' i = .blk b c → th' j = .blk b d → i = j) : Mem X w0 N0 B0 th' h' w' where
  objs := objs'
  out := out'
  gv := m.gv
  glob := fun g => (carries hsz hblk hth fun i b c hi => (hnew i b c hi).imp id And.left).rel _ _ (m.glob g)
  own := fun i b c hi => by
    rcases hnew i b c hi with h1 | ⟨h1, h2⟩
    · obtain ⟨g1, g2, g3⟩ := m.own i b c h1
      exact ⟨g1, by omega, g3⟩
    · have := m.size
      exact ⟨.inr (by omega), h2, fun hn => by have := m.n0 b hn; omega⟩
  inj := inj'
  n0 := m.n0
  size := Nat.le_trans m.size hsz
  os := hos.trans m.os
  tape := htape.trans m.tape
  output := hout.trans m.output
  pin := pin_step m.pin hth
  keep := fun k hk hB => by
    refine (hblk k (Nat.lt_of_lt_of_le hk m.size) ?_).trans (m.keep k hk hB)
    rintro ⟨i, c, hi⟩
    obtain ⟨g1, _, _⟩ := m.own i k c hi
    rcases g1 with g1 | g1
    · exact hB g1
    · omega
def thNew (th : Nat → Th) (n : Nat) (x : Th) : Nat → Th := fun i => if i = n then x else th i
theorem thNew_same (th : Nat → Th) (n : Nat) (x : Th) : thNew th n x n = x := if_pos rfl
theorem thNew_other (th : Nat → Th) {n i : Nat} (x : Th) (h : i ≠ n) : thNew th n x i = th i := if_neg h
theorem heap_alloc_at (w : World) (o : Obj) : (w.alloc o).heap[w.heap.size]? = some o := by
  show (w.heap.push o)[w.heap.size]? = some o; simp
theorem heap_alloc_lt (w : World) (o : Obj) {k : Nat} (h : k < w.heap.size) : (w.alloc o).heap[k]? = w.heap[k]? := by
  show (w.heap.push o)[k]? = _; rw [Array.getElem?_push, if_neg (by omega)]
theorem size_alloc (w : World) (o : Obj) : (w.alloc o).heap.size = w.heap.size + 1 := by
  show (w.heap.push o).size = _; simp
theorem Mem.carries_new (m : Mem X w0 N0 B0 th h w) (o : Obj) (cap : Nat × Nat) : Carries X N0 w (w.alloc o) th (thNew th h.length (.blk w.heap.size cap)) := by
  refine carries (by rw [size_alloc]; omega) (fun b hb _ => heap_alloc_lt w o hb) (fun i => ?_) (fun i b c hi => ?_)
  · by_cases hi : i = h.length
    · subst hi; exact .inl (m.out _ (Nat.le_refl _))
    · exact .inr (.inl (thNew_other th _ hi))
  · by_cases e : i = h.length
    · subst e; rw [thNew_same] at hi; injection hi with h1 h2; exact .inr (by omega)
    · rw [thNew_other th _ e] at hi; exact .inl hi
theorem getD_snoc_lt (h : List (AO U)) (x : AO U) {i : Nat} (hi : i < h.length) : (h ++ [x]).getD i .dead = h.getD i .dead := by
  simp only [List.getD_eq_getElem?_getD]; rw [List.getElem?_append_left hi]
theorem getD_snoc_eq (h : List (AO U)) (x : AO U) : (h ++ [x]).getD h.length .dead = x := by simp [List.getD_eq_getElem?_getD]
theorem Mem.new (m : Mem X w0 N0 B0 th h w) (o : Obj) (cap : Nat × Nat) (x : AO U)
    (hx : ORel X (w.alloc o) (NN N0 (thNew th h.length (.blk w.heap.size cap))) (thNew th h.length (.blk w.heap.size cap)) h.length x) :
    Mem X w0 N0 B0 (thNew th h.length (.blk w.heap.size cap)) (h ++ [x]) (w.alloc o) := by
  have hc := m.carries_new o cap
  refine m.step (by rw [size_alloc]; omega) rfl rfl rfl (fun b hb _ => heap_alloc_lt w o hb) (fun i => by
    by_cases e : i = h.length
    · subst e; exact .inl (m.out _ (Nat.le_refl _))
    · exact .inr (.inl (thNew_other th _ e))) (fun i b c hi => ?_) (fun i hi => ?_) (fun i hi => ?_) (fun i j b c d hi hj => ?_)
  · by_cases e : i = h.length
    · subst e; rw [thNew_same] at hi; injection hi with h1 h2
      refine .inr ⟨by omega, ?_⟩
      rw [size_alloc]; omega
    · rw [thNew_other th _ e] at hi; exact .inl hi
  · by_cases e : i = h.length
    · subst e; rw [getD_snoc_eq]; exact hx
    · have hi' : i < h.length := by simp at hi; omega
      rw [getD_snoc_lt h x hi']
      exact (m.objs i hi').mono (thNew_other th _ e) (fun b c hb => heap_alloc_lt w o (m.own i b c hb).2.1) hc
  · rw [thNew_other th _ (by simp at hi; omega)]; exact m.out i (by simp at hi; omega)
  · by_cases e1 : i = h.length <;> by_cases e2 : j = h.length
    · omega
    · subst e1; rw [thNew_same] at hi; rw [thNew_other th _ e2] at hj; injection hi with h1 h2
      have := (m.own j b d hj).2.1; omega
    · subst e2; rw [thNew_same] at hj; rw [thNew_other th _ e1] at hi; injection hj with h1 h2
      have := (m.own i b c hi).2.1; omega
    · rw [thNew_other th _ e1] at hi; rw [thNew_other th _ e2] at hj; exact m.inj i j b c d hi hj
end
end Go.Abs
namespace Go.Abs
open Go
variable {U : Nat → Type} {R : Type}
section
variable {X : Univ U} {w0 w : World} {N0 : Nat → Prop} {B0 : Nat → Th} {th : Nat → Th} {h : List (AO U)}
theorem getD_set_same (h : List (AO U)) (i : Nat) (x : AO U) (hi : i < h.length) : (h.set i x).getD i .dead = x := by
  simp [List.getD_eq_getElem?_getD, hi]
theorem getD_set_other (h : List (AO U)) (i j : Nat) (x : AO U) (hij : j ≠ i) : (h.set i x).getD j .dead = h.getD j .dead := by
  simp only [List.getD_eq_getElem?_getD]; rw [List.getElem?_set_ne (Ne.symm hij)]
theorem getD_alive {h : List (AO U)} {i : Nat} {o : AO U} (ho : h.getD i .dead = o) (hd : o ≠ .dead) : i < h.length := by
  refine Nat.lt_of_not_le fun hle => hd ?_
  rw [← ho, List.getD_eq_getElem?_getD, List.getElem?_eq_none hle]; rfl
theorem Mem.carries_write (_m : Mem X w0 N0 B0 th h w) {i b : Nat} {cap : Nat × Nat} (hi : th i = .blk b cap) (cur' : Array Value) : Carries X N0 w (w.setRow b cur') th th := by
  refine carries (by simp) (fun k _ hk => setRow_other w b k cur' fun e => hk ⟨i, cap, e ▸ hi⟩) (fun i => .inr (.inl rfl)) (fun i b c h => .inl h)
theorem Mem.write (m : Mem X w0 N0 B0 th h w) {i b : Nat} {cap : Nat × Nat} (hil : i < h.length) (hi : th i = .blk b cap) (cur' : Array Value) (x : AO U)
    (hx : ORel X (w.setRow b cur') (NN N0 th) th i x) : Mem X w0 N0 B0 th (h.set i x) (w.setRow b cur') := by
  have hc := m.carries_write hi cur'
  refine m.step (by simp) rfl rfl rfl (fun k _ hk => setRow_other w b k cur' fun e => hk ⟨i, cap, e ▸ hi⟩) (fun _ => .inr (.inl rfl)) (fun i b c h => .inl h) (fun j hj => ?_) (fun j hj => m.out j (by simpa using hj)) m.inj
  by_cases e : j = i
  · subst e; rw [getD_set_same h j x hil]; exact hx
  · rw [getD_set_other h i j x e]
    refine (m.objs j (by simpa using hj)).mono rfl (fun b' c' hb' => ?_) hc
    exact setRow_other w b b' cur' fun e' => e (m.inj j i b c' cap (e' ▸ hb') hi)
theorem carries_kill (i : Nat) : Carries X N0 w w th (thNew th i .dead) := by
  refine carries (Nat.le_refl _) (fun _ _ _ => rfl) (fun j => ?_) (fun j b c hj => ?_)
  · by_cases e : j = i
    · subst e; exact .inr (.inr (thNew_same th j _))
    · exact .inr (.inl (thNew_other th _ e))
  · by_cases e : j = i
    · subst e; rw [thNew_same] at hj; cases hj
    · rw [thNew_other th _ e] at hj; exact .inl hj
theorem Mem.kill (m : Mem X w0 N0 B0 th h w) {i : Nat} (hil : i < h.length) : Mem X w0 N0 B0 (thNew th i .dead) (h.set i .dead) w := by
  refine m.step (Nat.le_refl _) rfl rfl rfl (fun _ _ _ => rfl) (fun j => by
    by_cases e : j = i
    · subst e; exact .inr (.inr (thNew_same th j _))
    · exact .inr (.inl (thNew_other th _ e))) (fun j b c hj => ?_) (fun j hj => ?_) (fun j hj => ?_) (fun j k b c d hj hk => ?_)
  · by_cases e : j = i
    · subst e; rw [thNew_same] at hj; cases hj
    · rw [thNew_other th _ e] at hj; exact .inl hj
  · by_cases e : j = i
    · subst e; rw [getD_set_same h j _ hil]; exact thNew_same th j _
    · rw [getD_set_other h i j _ e]
      exact (m.objs j (by simpa using hj)).mono (thNew_other th _ e) (fun _ _ _ => rfl) (carries_kill i)
  · rw [thNew_other th _ (by simp at hj; omega)]; exact m.out j (by simpa using hj)
  · by_cases e1 : j = i
    · subst e1; rw [thNew_same] at hj; cases hj
    · by_cases e2 : k = i
      · subst e2; rw [thNew_same] at hk; cases hk
      · rw [thNew_other th _ e1] at hj; rw [thNew_other th _ e2] at hk; exact m.inj j k b c d hj hk
theorem Mem.box_at (m : Mem X w0 N0 B0 th h w) {i : Nat} {cs : List (AV U)} (ho : h.getD i .dead = .box cs) :
    ∃ b T cur, th i = .blk b (0, 0) ∧ w.heap[b]? = some (.cells cur T (0, 0)) ∧ cur.size = cs.length ∧ ∀ j, j < cs.length → VRel X w (NN N0 th) th (cs.getD j .undef) (cur.getD j undef) := by
  have := m.objs i (getD_alive ho (by simp))
  rw [ho] at this; exact this
theorem Mem.row_at (m : Mem X w0 N0 B0 th h w) {i e : Nat} {l : List (U e)} (ho : h.getD i .dead = .row e l) :
    (th i = .nil ∧ l = []) ∨ ∃ b cap cur, th i = .blk b (cap, l.length) ∧ w.heap[b]? = some (.cells cur e (0, 0)) ∧ cap ≤ maxLen ∧ cap * X.z e ≤ cur.size ∧ l.length ≤ cap ∧
      ∀ j (_h : j < l.length) k, k < X.z e → VRel X w (NN N0 th) th ((cellsOf (X.enc e l[j])).getD k .undef) (cur.getD (j * X.z e + k) undef) := by
  have := m.objs i (getD_alive ho (by simp))
  rw [ho] at this; exact this
theorem setCs_get : ∀ (vs cs : List (AV U)) (c i : Nat), c + vs.length ≤ cs.length → (setCs cs c vs).getD i .undef = (if c ≤ i ∧ i < c + vs.length then vs.getD (i - c) .undef else cs.getD i .undef)
  | [], cs, c, i, _ => by rw [setCs, if_neg (by simp)]
  | v :: r, cs, c, i, hl => by
    rw [setCs, setCs_get r (cs.set c v) (c + 1) i (by simp at hl ⊢; omega)]
    by_cases h1 : c = i
    · subst h1
      rw [if_neg (by omega), if_pos (by simp), getD_set, if_pos ⟨rfl, by simp at hl; omega⟩]; simp
    · by_cases h2 : c + 1 ≤ i ∧ i < c + 1 + r.length
      · rw [if_pos h2, if_pos (by simp; omega)]
        obtain ⟨k, rfl⟩ : ∃ k, i = c + 1 + k := ⟨i - (c + 1), by omega⟩
        rw [show c + 1 + k - (c + 1) = k by omega, show c + 1 + k - c = k + 1 by omega]; simp
      · rw [if_neg h2, if_neg (by simp; omega), getD_set, if_neg (by omega)]
theorem setCs_length : ∀ (vs cs : List (AV U)) (c : Nat), (setCs cs c vs).length = cs.length
  | [], _, _ => rfl
  | v :: r, cs, c => by rw [setCs, setCs_length r]; simp
theorem Mem.store_box (m : Mem X w0 N0 B0 th h w) {P : Program} {t : TypeId} {i c : Nat} {cs : List (AV U)} {x : AV U} {v : Value} (ho : h.getD i .dead = .box cs) (hv : VRel X w (NN N0 th) th x v)
    (hk : (cellsOf x).all okCell = true) (hi : (P.info? t).isSome = true) (hs : (cellsOf x).length = sizeT P t) (hc : c + sizeT P t ≤ cs.length) :
    ∃ b w', th i = .blk b (0, 0) ∧ (Instr.storeAt t (.pointer (some ⟨b, c, none⟩)) v).run P w = .ok () w' ∧ Mem X w0 N0 B0 th (h.set i (.box (setCs cs c (cellsOf x)))) w' ∧ Carries X N0 w w' th th := by
  obtain ⟨b, T, cur, h1, h2, h3, h4⟩ := m.box_at ho
  obtain ⟨g1, g2, g3⟩ := cells_rel hv hk
  refine ⟨b, _, h1, run_store_at hv hk hi hs h2 (by omega), m.write (getD_alive ho (by simp)) h1 _ _ ?_, m.carries_write h1 _⟩
  have hcar := m.carries_write h1 (overwrite cur c v.cells)
  refine ⟨b, T, _, h1, setRow_heap w b cur _ T _ h2, ?_, fun j hj => ?_⟩
  · rw [overwrite_size (by omega), setCs_length]; exact h3
  · rw [setCs_length] at hj
    rw [setCs_get _ _ _ _ (by omega), overwrite_get (by omega), g1]
    by_cases hin : c ≤ j ∧ j < c + (cellsOf x).length
    · rw [if_pos hin, if_pos hin]; exact hcar _ _ (g2 _ (by omega))
    · rw [if_neg hin, if_neg hin]; exact hcar _ _ (h4 j hj)
end
end Go.Abs
namespace Go.Abs
open Go
variable {U : Nat → Type} {R : Type}
structure Lawful (X : Univ U) : Prop where
  dec_enc : ∀ e v y, X.dec e v = some y → X.enc e y = v
  size : ∀ e y, (cellsOf (X.enc e y)).length = X.z e
section
variable {P : Program} {X : Univ U} {w0 w : World} {N0 : Nat → Prop} {B0 : Nat → Th} {th : Nat → Th} {st : S U} {a : Act} {h : List (AO U)}
theorem mul_lt_cells {j n z k cap : Nat} (hj : j < n) (hk : k < z) (hn : n ≤ cap) : j * z + k < cap * z := by
  have h1 : (j + 1) * z ≤ cap * z := Nat.mul_le_mul_right z (by omega)
  have h2 : (j + 1) * z = j * z + z := Nat.succ_mul j z
  omega
theorem Mem.store_row (m : Mem X w0 N0 B0 th h w) (law : Lawful X) {t : TypeId} {i e j : Nat} {l : List (U e)} {x : AV U} {y : U e} {v : Value} (ho : h.getD i .dead = .row e l) (hv : VRel X w (NN N0 th) th x v)
    (hk : (cellsOf x).all okCell = true) (hi : (P.info? t).isSome = true) (hs : sizeT P t = X.z e) (hy : X.dec e x = some y) (hj : j < l.length) :
    ∃ b cap w', th i = .blk b cap ∧ (Instr.storeAt t (.pointer (some ⟨b, j * X.z e, none⟩)) v).run P w = .ok () w' ∧ Mem X w0 N0 B0 th (h.set i (.row e (l.set j y))) w' ∧ Carries X N0 w w' th th := by
  have hx := law.dec_enc e x y hy
  subst hx
  have hz := law.size e y
  rcases m.row_at ho with ⟨_, hnil⟩ | ⟨b, cap, cur, h1, h2, h3, h4, h5, h6⟩
  · subst hnil; simp at hj
  obtain ⟨g1, g2, g3⟩ := cells_rel hv hk
  have hfit : j * X.z e + X.z e ≤ cur.size := by
    refine Nat.le_trans ?_ h4
    have h1 : (j + 1) * X.z e ≤ cap * X.z e := Nat.mul_le_mul_right _ (by omega)
    have h2 : (j + 1) * X.z e = j * X.z e + X.z e := Nat.succ_mul j _
    omega
  refine ⟨b, _, _, h1, run_store_at hv hk hi (by omega) h2 (by omega), m.write (getD_alive ho (by simp)) h1 _ _ ?_, m.carries_write h1 _⟩
  have hcar := m.carries_write h1 (overwrite cur (j * X.z e) v.cells)
  refine .inr ⟨b, cap, _, by simpa using h1, setRow_heap w b cur _ e _ h2, h3, ?_, by simpa using h5, fun q hq k hk' => ?_⟩
  · rw [overwrite_size (by omega)]; exact h4
  · have hq' : q < l.length := by simpa using hq
    rw [overwrite_get (by omega), g1, hz]
    by_cases e1 : q = j
    · subst e1
      rw [if_pos ⟨by omega, by omega⟩]
      have : (l.set q y)[q] = y := by simp
      rw [this, show q * X.z e + k - q * X.z e = k by omega]
      exact hcar _ _ (g2 k (by omega))
    · have hne : ¬ (j * X.z e ≤ q * X.z e + k ∧ q * X.z e + k < j * X.z e + X.z e) := by
        rintro ⟨a1, a2⟩
        rcases Nat.lt_or_gt_of_ne e1 with hlt | hlt
        · have : (q + 1) * X.z e ≤ j * X.z e := Nat.mul_le_mul_right _ (by omega)
          have h2 : (q + 1) * X.z e = q * X.z e + X.z e := Nat.succ_mul q _
          omega
        · have : (j + 1) * X.z e ≤ q * X.z e := Nat.mul_le_mul_right _ (by omega)
          have h2 : (j + 1) * X.z e = j * X.z e + X.z e := Nat.succ_mul j _
          omega
      rw [if_neg hne]
      have : (l.set j y)[q] = l[q] := by rw [List.getElem_set_ne (Ne.symm e1)]
      rw [this]
      exact hcar _ _ (h6 q hq' k hk')
structure StepOK (P : Program) (X : Univ U) (w0 : World) (N0 : Nat → Prop) (B0 : Nat → Th) (th : Nat → Th) (a : Act) (w : World) (o : Oper) (v : AV U) (h' : List (AO U)) : Prop where
  out : ∃ u w' th', ((execOp a.eval o).run P w = .ok (.value u) w' ∨ ((execOp a.eval o).run P w = .ok .skip w' ∧ u = undef)) ∧ Mem X w0 N0 B0 th' h' w' ∧ Carries X N0 w w' th th' ∧ VRel X w' (NN N0 th') th' v u
theorem carries_refl : Carries X N0 w w th th := ⟨Nat.le_refl _, fun _ _ _ => rfl, fun _ => .inr (.inl rfl), fun _ h => .inl h⟩
theorem StepOK.still {o : Oper} {v : AV U} {u : Value} (m : Mem X w0 N0 B0 th h w) (hr : (execOp a.eval o).run P w = .ok (.value u) w) (hv : VRel X w (NN N0 th) th v u) : StepOK P X w0 N0 B0 th a w o v h :=
  ⟨u, w, th, .inl hr, m, carries_refl, hv⟩
theorem evT_rel (r : RelT X w0 N0 B0 th st a w) (t : TypeId) (x : Operand) : VRel X w (NN N0 th) th (evT P st t x) (a.eval x) := by
  unfold evT
  split
  · exact .nils _
  · exact r.ev x
theorem Mem.load_box (m : Mem X w0 N0 B0 th h w) {t : TypeId} {i c : Nat} {cs : List (AV U)} (ho : h.getD i .dead = .box cs) (hok : loadOK P t cs.length c = true) :
    ∃ b v, th i = .blk b (0, 0) ∧ (Instr.loadAt t (.pointer (some ⟨b, c, none⟩))).run P w = .ok v w ∧ VRel X w (NN N0 th) th (loadC P t cs c) v := by
  obtain ⟨b, T, cur, h1, h2, h3, h4⟩ := m.box_at ho
  have := run_load (P := P) (X := X) (w := w) (N := NN N0 th) (th := th) (t := t) (cs := cs) (c := c) (b := b) (o := 0) (fun k hk => by
    refine ⟨cur.getD k undef, ?_, h4 k hk⟩
    have hlt : k < cur.size := by omega
    rw [show (0 + k) = k by omega]
    simp [World.cell?, h2, hlt]) hok
  rw [show 0 + c = c by omega] at this
  obtain ⟨v, hv1, hv2⟩ := this
  exact ⟨b, v, h1, hv1, hv2⟩
theorem loadE_eq {t : TypeId} {v : AV U} {c : Nat} {w : World} {N : Nat → Prop} {u : Value}
    (h : VRel X w N th (loadC P t (cellsOf v) c) u) : VRel X w N th (loadE P t v c) u := by
  unfold loadE
  unfold loadC at h
  by_cases ha : aggT P t = true
  · rw [if_pos ha] at h ⊢
    by_cases hw : isAggV v = true ∧ c = 0 ∧ sizeT P t = (cellsOf v).length
    · rw [if_pos hw]
      rw [hw.2.1, hw.2.2, List.drop_zero, List.take_length] at h
      cases v <;> first | exact h | (simp [isAggV] at hw)
    · rw [if_neg hw]; exact h
  · rw [if_neg ha] at h ⊢; exact h
theorem elem_cells {N : Nat → Prop} {e j : Nat} {l : List (U e)} {b off : Nat} {vs : Nat → Value} (law : Lawful X) (hc : ∀ i, i < l.length * X.z e → w.cell? ⟨b, off + i, none⟩ = some (vs i))
    (hv : ∀ j (h : j < l.length) k, k < X.z e → VRel X w N th ((cellsOf (X.enc e l[j])).getD k .undef) (vs (j * X.z e + k))) (hj : j < l.length) :
    ∀ k, k < (cellsOf (X.enc e (l.getD j (X.dflt e)))).length → ∃ v, w.cell? ⟨b, off + j * X.z e + k, none⟩ = some v ∧ VRel X w N th ((cellsOf (X.enc e (l.getD j (X.dflt e)))).getD k .undef) v := by
  intro k hk
  rw [law.size] at hk
  refine ⟨vs (j * X.z e + k), ?_, ?_⟩
  · rw [Nat.add_assoc]; exact hc _ (mul_lt_cells hj hk (Nat.le_refl _))
  · have e1 : l.getD j (X.dflt e) = l[j] := by rw [List.getD_eq_getElem?_getD, List.getElem?_eq_getElem hj]; rfl
    rw [e1]; exact hv j hj k hk
theorem load_pimm {N : Nat → Prop} (law : Lawful X) {t : TypeId} {e j c : Nat} {l : List (U e)} {u : Value} (hu : VRel X w N th (.pimm e l j c) u) (hj : j < l.length) (hok : loadOK P t (X.z e) c = true) :
    ∃ v, (Instr.loadAt t u).run P w = .ok v w ∧ VRel X w N th (loadE P t (X.enc e (l.getD j (X.dflt e))) c) v := by
  cases hu with
  | pimm _ _ _ _ b off vs hl hN hc hv =>
    have := run_load (P := P) (X := X) (w := w) (N := N) (th := th) (t := t) (c := c) (elem_cells law hc hv hj) (by rw [law.size]; exact hok)
    obtain ⟨v, h1, h2⟩ := this
    rw [Nat.add_assoc] at h1
    exact ⟨v, h1, loadE_eq h2⟩
theorem Mem.load_row (m : Mem X w0 N0 B0 th h w) (law : Lawful X) {t : TypeId} {i e j c : Nat} {l : List (U e)} (ho : h.getD i .dead = .row e l) (hj : j < l.length) (hok : loadOK P t (X.z e) c = true) :
    ∃ b cap v, th i = .blk b cap ∧ (Instr.loadAt t (.pointer (some ⟨b, j * X.z e + c, none⟩))).run P w = .ok v w ∧ VRel X w (NN N0 th) th (loadE P t (X.enc e (l.getD j (X.dflt e))) c) v := by
  rcases m.row_at ho with ⟨_, hnil⟩ | ⟨b, cap, cur, h1, h2, h3, h4, h5, h6⟩
  · subst hnil; simp at hj
  have hc : ∀ i, i < l.length * X.z e → w.cell? ⟨b, 0 + i, none⟩ = some (cur.getD i undef) := by
    intro i hi
    have hlt : i < cur.size := by
      exact Nat.lt_of_lt_of_le hi (Nat.le_trans (Nat.mul_le_mul_right _ h5) h4)
    simp [World.cell?, h2, hlt]
  have := run_load (P := P) (X := X) (w := w) (N := NN N0 th) (th := th) (t := t) (c := c) (elem_cells law hc h6 hj) (by rw [law.size]; exact hok)
  obtain ⟨v, g1, g2⟩ := this
  rw [Nat.zero_add] at g1
  exact ⟨b, _, v, h1, g1, loadE_eq g2⟩
theorem Mem.new_box (m : Mem X w0 N0 B0 th h w) (T : TypeId) (cs : List (AV U)) (cur : Array Value) (hs : cur.size = cs.length) (hv : ∀ j, j < cs.length → VRel X w (NN N0 th) th (cs.getD j .undef) (cur.getD j undef)) :
    Mem X w0 N0 B0 (thNew th h.length (.blk w.heap.size (0, 0))) (h ++ [.box cs]) (w.alloc (.cells cur T)) ∧ Carries X N0 w (w.alloc (.cells cur T)) th (thNew th h.length (.blk w.heap.size (0, 0))) ∧
    VRel X (w.alloc (.cells cur T)) (NN N0 (thNew th h.length (.blk w.heap.size (0, 0)))) (thNew th h.length (.blk w.heap.size (0, 0))) (.ptr h.length 0) (.pointer (some ⟨w.heap.size, 0, none⟩)) := by
  have hc := m.carries_new (.cells cur T) (0, 0)
  refine ⟨m.new _ (0, 0) _ ?_, hc, .ptr _ 0 _ (0, 0) (thNew_same _ _ _)⟩
  exact ⟨w.heap.size, T, cur, thNew_same _ _ _, heap_alloc_at w _, hs, fun j hj => hc _ _ (hv j hj)⟩
end
end Go.Abs
namespace Go.Abs
open Go
variable {U : Nat → Type} {R : Type}
def toV : AV U → Value
  | .bool b => .bool b
  | .int k n => .int k n
  | .str s => .string s
  | _ => undef
def sc : AV U → Bool
  | .bool _ | .int _ _ | .str _ => true
  | _ => false
theorem toV_rel {X : Univ U} {w : World} {N : Nat → Prop} {th : Nat → Th} {v : AV U} (h : sc v = true) : VRel X w N th v (toV v) := by
  cases v <;> first | exact .bool _ | exact .int _ _ | exact .str _ | (simp [sc] at h)
section
variable {P : Program} {X : Univ U} {w0 w : World} {N0 : Nat → Prop} {B0 : Nat → Th} {th : Nat → Th} {st : S U} {a : Act} {h : List (AO U)}
theorem intOp_ok {op : BinOp} {t : TypeId} {k : IntKind} {x y : Int} {K : AV U → Option R} {r : R} (h : intOp op k x y K = some r) :
    ∃ v, K v = some r ∧ sc v = true ∧ (binOp op t (.int k x) (.int k y)).run P w = .ok (toV v) w := by
  cases op <;> simp only [intOp] at h <;> first
    | (cases h; done)
    | (by_cases hy : y = 0
       · simp [hy] at h
       · refine ⟨_, (by simpa [hy] using h), rfl, ?_⟩
         simp [Op.intDiv, hy, binOp_quo, binOp_rem, toV])
    | (refine ⟨_, h, rfl, ?_⟩ <;> first
        | (simp [Op.intArith, binOp_add, binOp_sub, binOp_mul, toV]; done)
        | (simp [binOp_eql, binOp_neq, binOp_lss, binOp_leq, binOp_gtr, binOp_geq, toV]; done)
        | (simp [binOp_and, binOp_or, binOp_xor, binOp_andNot, Op.intBits, Go.bits, toV]; done))
theorem binA_ok {op : BinOp} {t : TypeId} {x y : AV U} {u u' : Value} {N : Nat → Prop} {ox oy : Operand} {K : AV U → Option R} {r : R} (h : binA P t op x y K = some r) (hx : VRel X w N th x u) (hy : VRel X w N th y u') :
    ∃ v, K v = some r ∧ sc v = true ∧ (do eqGuard op t ox oy u u'; binOp op t u u' : Sem Value).run P w = .ok (toV v) w := by
  unfold binA at h
  split at h
  · cases hx; cases hy
    rename_i k a k' b
    by_cases hb : 0 ≤ b
    · simp only [hb, decide_true, cond_true] at h
      refine ⟨_, h, rfl, ?_⟩
      have : ¬ b < 0 := by omega
      simp [eqGuard_at_int, binOp_shl, Op.shift, this, shl, toV]
    · simp [hb] at h
  · cases hx; cases hy
    rename_i k a k' b
    by_cases hb : 0 ≤ b
    · simp only [hb, decide_true, cond_true] at h
      refine ⟨_, h, rfl, ?_⟩
      have : ¬ b < 0 := by omega
      simp [eqGuard_at_int, binOp_shr, Op.shift, this, shr, toV]
    · simp [hb] at h
  · cases hx; cases hy
    split at h
    · rename_i hk
      subst hk
      obtain ⟨v, h1, h2, h3⟩ := intOp_ok (P := P) (w := w) (t := t) h
      exact ⟨v, h1, h2, by simp [eqGuard_at_int, h3]⟩
    · cases h
  · cases hx; cases hy
    split at h
    · rename_i hd
      exact ⟨_, h, rfl, by rw [eqGuard_at_bool]; simp only [Sem.run_bind, Sem.run_pure, Result.andThen_ok]; exact run_eql_bool w t _ _ hd⟩
    · cases h
  · cases hx; cases hy
    split at h
    · rename_i hd
      exact ⟨_, h, rfl, by rw [eqGuard_at_bool]; simp only [Sem.run_bind, Sem.run_pure, Result.andThen_ok]; exact run_neq_bool w t _ _ hd⟩
    · cases h
  · cases hx; cases hy
    exact ⟨_, h, rfl, by simp [eqGuard_at_string, binOp_string_eql, toV]⟩
  · cases hx; cases hy
    exact ⟨_, h, rfl, by simp [eqGuard_at_string, binOp_string_neq, toV]⟩
  · cases hx; cases hy
    rename_i s1 s2
    by_cases hs : s1.size + s2.size ≤ 4611686018427387904
    · simp only [hs, decide_true, cond_true] at h
      refine ⟨_, h, rfl, ?_⟩
      have := run_string_add_sum (P := P) (w := w) s1 s2 (by omega)
      simp [eqGuard_at_string, binOp_string_add, this, toV]
    · simp [hs] at h
  · cases h
theorem cond_none {b : Bool} {x : Option R} {r : R} (h : cond b x none = some r) : b = true ∧ x = some r := by
  cases b
  · cases h
  · exact ⟨rfl, h⟩
theorem alive_iff {i : Nat} (h' : alive h i = true) : h.getD i .dead ≠ .dead := by
  unfold alive at h'
  intro e; rw [e] at h'; cases h'
theorem Mem.blk_of (m : Mem X w0 N0 B0 th h w) {i : Nat} (ha : alive h i = true) : th i = .nil ∨ ∃ b c, th i = .blk b c := by
  have hd := alive_iff ha
  cases ho : h.getD i .dead with
  | dead => exact absurd ho hd
  | hole => unfold alive at ha; rw [ho] at ha; cases ha
  | box cs => obtain ⟨b, _, _, h1, _⟩ := m.box_at ho; exact .inr ⟨b, _, h1⟩
  | row e l =>
    rcases m.row_at ho with h1 | ⟨b, cap, _, h1, _⟩
    · exact .inl h1.1
    · exact .inr ⟨b, _, h1⟩
  | mp kt e l =>
    have := m.objs i (getD_alive ho (by simp))
    rw [ho] at this
    obtain ⟨b, _, _, h1, _⟩ := this
    exact .inr ⟨b, _, h1⟩
theorem run_fieldAt {t : TypeId} {fields : Array Field} {f : Nat} {fd : Field} {b o : Nat} (ht : P.underlying t = some (.struct fields)) (hf : fields[f]? = some fd) (hi : (P.info? fd.type).isSome = true) (hz : sizeT P fd.type ≠ 0) :
    (Instr.fieldAt t (.pointer (some ⟨b, o, none⟩)) f).run P w = .ok (.pointer (some ⟨b, o + fd.offset, none⟩)) w := by
  simp only [Instr.fieldAt, Sem.run_bind, run_underlying ht, Result.andThen_ok, hf, Instr.sureAddr, Sem.run_pure, fieldPlace, run_sizeOf hi, if_neg hz, addr_add]
theorem run_indexAt {t d : TypeId} {b o len cap : Nat} {k : IntKind} {i : Int} (ht : P.underlying t = some (.slice d)) (hi : (P.info? d).isSome = true) (h0 : 0 ≤ i) (h1 : i < (len : Int)) :
    (Instr.indexAt t (.slice (some ⟨b, o, none⟩) len cap) (.int k i)).run P w = .ok (.pointer (some ⟨b, o + i.toNat * sizeT P d, none⟩)) w := by
  have he : P.elem t = d := by simp [Program.elem, ht]
  have := run_indexAt_slice (P := P) w t ⟨b, o, none⟩ len cap k i (by rw [he]; exact ht)
  rw [this, if_pos ⟨h0, h1⟩, he, run_sizeOf hi]
  simp only [Result.andThen_ok, addr_add]
theorem getD_cells {cs : List (AV U)} {vs : Array Value} (hs : vs.size = cs.length) (hj : ∀ j, j < cs.length → VRel X w (NN N0 th) th (cs.getD j .undef) (vs.getD j undef)) {t : TypeId} {c : Nat} (hok : loadOK P t cs.length c = true) :
    ∃ v, (part t vs c).run P w = .ok v w ∧ VRel X w (NN N0 th) th (loadC P t cs c) v := by
  unfold loadOK at hok
  cases hd : P.underlying t with
  | none => rw [hd] at hok; cases hok
  | some d =>
    rw [hd] at hok
    simp only at hok
    by_cases ha : aggD d = true
    · rw [if_pos ha, Bool.and_eq_true, decide_eq_true_eq] at hok
      obtain ⟨hi, hn⟩ := hok
      refine ⟨.agg (vs.extract c (c + sizeT P t)), ?_, ?_⟩
      · simp only [part, Sem.run_bind, run_isAgg hd, Result.andThen_ok, ha, if_true, run_sizeOf hi, Sem.run_pure]
      · unfold loadC
        rw [if_pos (by simp [aggT, hd, ha])]
        refine .agg _ _ (by simp; omega) fun j hjl => ?_
        have hj' : j < sizeT P t := by simp at hjl; omega
        have e1 : ((cs.drop c).take (sizeT P t)).getD j .undef = cs.getD (c + j) .undef := by
          simp only [List.getD_eq_getElem?_getD, List.getElem?_take, hj', if_true, List.getElem?_drop]
        have e2 : (vs.extract c (c + sizeT P t)).getD j undef = vs.getD (c + j) undef := by
          simp only [Array.getD_eq_getD_getElem?, Array.getElem?_extract]
          rw [if_pos (by omega)]
        rw [e1, e2]; exact hj _ (by omega)
    · rw [if_neg ha, decide_eq_true_eq] at hok
      have ha' : aggD d = false := by simpa using ha
      refine ⟨vs.getD c undef, ?_, ?_⟩
      · have : vs[c]? = some (vs.getD c undef) := by
          rw [Array.getD_eq_getD_getElem?, Array.getElem?_eq_getElem (by omega)]; rfl
        simp only [part, Sem.run_bind, run_isAgg hd, Result.andThen_ok, ha', Bool.false_eq_true, if_false, this, Sem.run_pure]
      · unfold loadC
        rw [if_neg (by simp [aggT, hd, ha])]; exact hj c hok
end
end Go.Abs
namespace Go.Abs
open Go
variable {U : Nat → Type} {R : Type}
section
variable {P : Program} {X : Univ U} {w0 w : World} {N0 : Nat → Prop} {B0 : Nat → Th} {th : Nat → Th} {st : S U} {a : Act} {K : AV U → List (AO U) → Option R} {r : R} {dst : Option Tmp} {ty : TypeId} {pos : String} {after : Array Edge} {guard : Option (Nat × Bool)}
theorem bt_at (s : ByteArray) (i : Int) (h : i.toNat < s.size) : ((s[i.toNat]'h).toNat : Int) = bt s i := by
  unfold bt
  rw [Array.getD_eq_getD_getElem?, Array.getElem?_eq_getElem (by exact h)]; rfl
def Did (P : Program) (X : Univ U) (w0 : World) (N0 : Nat → Prop) (B0 : Nat → Th) (th : Nat → Th) (a : Act) (w : World) (o : Oper) (K : AV U → List (AO U) → Option R) (r : R) : Prop := ∃ v h', K v h' = some r ∧ StepOK P X w0 N0 B0 th a w o v h'
theorem ok_still {o : Oper} {v : AV U} {u : Value} (m : Mem X w0 N0 B0 th st.h w) (hK : K v st.h = some r) (hr : (execOp a.eval o).run P w = .ok (.value u) w) (hv : VRel X w (NN N0 th) th v u) :
    Did P X w0 N0 B0 th a w o K r := ⟨v, st.h, hK, StepOK.still m hr hv⟩
theorem ok_pick {c x y : Operand} (h : stPick st K c x y = some r) (rel : RelT X w0 N0 B0 th st a w) : Did P X w0 N0 B0 th a w ⟨dst, .pick c x y, ty, pos, after, guard⟩ K r := by
  have hc := rel.ev c
  unfold stPick at h
  split at h
  · rename_i e; rw [e] at hc
    cases hc' : a.eval c <;> rw [hc'] at hc <;> cases hc
    exact ok_still rel.mem h (by simp [execOp, hc', asBool]) (rel.ev x)
  · rename_i e; rw [e] at hc
    cases hc' : a.eval c <;> rw [hc'] at hc <;> cases hc
    exact ok_still rel.mem h (by simp [execOp, hc', asBool]) (rel.ev y)
  · cases h
theorem ok_load (law : Lawful X) {t : TypeId} {x : Operand} (h : stLoad P X st K t x = some r) (rel : RelT X w0 N0 B0 th st a w) : Did P X w0 N0 B0 th a w ⟨dst, .load t x, ty, pos, after, guard⟩ K r := by
  have hx := rel.ev x
  have m := rel.mem
  unfold stLoad at h
  split at h
  · rename_i i c e; rw [e] at hx
    split at h
    · rename_i cs ho
      split at h
      · rename_i hok
        obtain ⟨b, v, h1, h2, h3⟩ := m.load_box ho hok
        generalize hu : a.eval x = u at hx
        cases hx with
        | ptr _ _ b' cap h' =>
          rw [h1] at h'; injection h' with e1 e2; subst e1
          exact ok_still m h (by simp only [execOp, hu, Sem.run_bind, h2]; rfl) h3
        | ptrDead _ _ _ _ h' => rw [h1] at h'; cases h'
      · cases h
    · cases h
  · rename_i e l j c ex; rw [ex] at hx
    split at h
    · rename_i hok
      obtain ⟨hj, h⟩ := cond_none h
      obtain ⟨v, h1, h2⟩ := load_pimm (P := P) law hx (of_decide_eq_true hj) hok
      exact ok_still m h (by simp only [execOp, Sem.run_bind, h1]; rfl) h2
    · cases h
  · rename_i i e j c ex; rw [ex] at hx
    split at h
    · rename_i e' l ho
      split at h
      · rename_i hee
        subst hee
        split at h
        · rename_i hok
          obtain ⟨hj, h⟩ := cond_none h
          obtain ⟨b, cap, v, h1, h2, h3⟩ := m.load_row (P := P) law (t := t) (c := c) ho (of_decide_eq_true hj) hok
          generalize hu : a.eval x = u at hx
          cases hx with
          | prow _ _ _ _ b' cap' h' =>
            rw [h1] at h'; injection h' with e1 e2; subst e1
            exact ok_still m h (by simp only [execOp, hu, Sem.run_bind, h2]; rfl) h3
          | prowDead _ _ _ _ _ _ h' => rw [h1] at h'; cases h'
        · cases h
      · cases h
    · cases h
  · cases h
theorem storeOK_spec {t : TypeId} {x : AV U} (h : storeOK P t x = true) : (cellsOf x).all okCell = true ∧ (P.info? t).isSome = true ∧ (cellsOf x).length = sizeT P t := by
  unfold storeOK at h
  rw [Bool.and_eq_true, Bool.and_eq_true, decide_eq_true_eq] at h
  exact ⟨h.1.1, h.1.2, h.2⟩
theorem ok_store (law : Lawful X) {t : TypeId} {x y : Operand} (h : stStore P X st K t x y = some r) (rel : RelT X w0 N0 B0 th st a w) : Did P X w0 N0 B0 th a w ⟨dst, .store t x y, ty, pos, after, guard⟩ K r := by
  have hx := rel.ev x
  have hy := evT_rel (P := P) rel t y
  have m := rel.mem
  unfold stStore at h
  split at h
  · rename_i i c e; rw [e] at hx
    split at h
    · rename_i cs ho
      split at h
      · rename_i hok
        rw [Bool.and_eq_true, decide_eq_true_eq] at hok
        obtain ⟨g1, g2, g3⟩ := storeOK_spec hok.1
        obtain ⟨b, w', h1, h2, h3, h4⟩ := m.store_box (P := P) ho hy g1 g2 g3 hok.2
        generalize hu : a.eval x = u at hx
        cases hx with
        | ptr _ _ b' cap h' =>
          rw [h1] at h'; injection h' with e1 e2; subst e1
          exact ⟨_, _, h, ⟨undef, w', th, .inr ⟨by simp only [execOp, hu, Sem.run_bind, h2]; rfl, rfl⟩, h3, h4, .undef _⟩⟩
        | ptrDead _ _ _ _ h' => rw [h1] at h'; cases h'
      · cases h
    · cases h
  · rename_i i e j ex; rw [ex] at hx
    split at h
    · rename_i e' l yv ho hd
      split at h
      · rename_i hee
        subst hee
        split at h
        · rename_i hok
          rw [Bool.and_eq_true, decide_eq_true_eq] at hok
          obtain ⟨g1, g2, g3⟩ := storeOK_spec hok.1
          obtain ⟨hj, h⟩ := cond_none h
          obtain ⟨b, cap, w', h1, h2, h3, h4⟩ := m.store_row (P := P) law ho hy g1 g2 hok.2 hd (of_decide_eq_true hj)
          generalize hu : a.eval x = u at hx
          cases hx with
          | prow _ _ _ _ b' cap' h' =>
            rw [h1] at h'; injection h' with e1 e2; subst e1
            exact ⟨_, _, h, ⟨undef, w', th, .inr ⟨by simp only [execOp, hu, Nat.add_zero, Sem.run_bind, h2]; rfl, rfl⟩, h3, h4, .undef _⟩⟩
          | prowDead _ _ _ _ _ _ h' => rw [h1] at h'; cases h'
        · cases h
      · cases h
    · cases h
  · cases h
theorem ok_nil {x : Operand} (h : stNil st K x = some r) (rel : RelT X w0 N0 B0 th st a w) : Did P X w0 N0 B0 th a w ⟨dst, .nilCheck x, ty, pos, after, guard⟩ K r := by
  have hx := rel.ev x
  have m := rel.mem
  have hnd : ∀ i, alive st.h i = true → th i ≠ .dead := fun i ha hd => by
    rcases m.blk_of ha with h1 | ⟨b, c, h1⟩ <;> rw [h1] at hd <;> cases hd
  unfold stNil at h
  split at h
  · rename_i i c e; rw [e] at hx
    split at h
    · rename_i ha
      generalize hu : a.eval x = u at hx
      cases hx with
      | ptr _ _ b cap h' => exact ok_still m h (by simp [execOp, hu]) (.ptr _ _ b cap h')
      | ptrDead _ _ _ _ h' => exact absurd h' (hnd _ ha)
    · cases h
  · rename_i i e j c ex; rw [ex] at hx
    split at h
    · rename_i ha
      generalize hu : a.eval x = u at hx
      cases hx with
      | prow _ _ _ _ b cap h' => exact ok_still m h (by simp [execOp, hu]) (.prow _ _ _ _ b cap h')
      | prowDead _ _ _ _ _ _ h' => exact absurd h' (hnd _ ha)
    · cases h
  · rename_i e l j c ex; rw [ex] at hx
    generalize hu : a.eval x = u at hx
    have hx' := hx
    cases hx with
    | pimm _ _ _ _ b off vs hl hN hc hv => exact ok_still m h (by simp [execOp, hu]) hx'
  · rename_i t v ex; rw [ex] at hx
    generalize hu : a.eval x = u at hx
    have hx' := hx
    cases hx with
    | ifc _ _ v' h' => exact ok_still m h (by simp [execOp, hu]) hx'
  · cases h
theorem ok_un {op : UnOp} {t : TypeId} {x : Operand} (h : stUn st K op x = some r) (rel : RelT X w0 N0 B0 th st a w) : Did P X w0 N0 B0 th a w ⟨dst, .unOp op t x, ty, pos, after, guard⟩ K r := by
  have hx := rel.ev x
  unfold stUn at h
  split at h
  · rename_i e; rw [e] at hx
    generalize hu : a.eval x = u at hx
    cases hx
    exact ok_still rel.mem h (by simp [execOp, hu, Op.unary]) (.bool _)
  · rename_i e; rw [e] at hx
    generalize hu : a.eval x = u at hx
    cases hx
    exact ok_still rel.mem h (by simp [execOp, hu, Op.unary, Op.intArith]) (.int _ _)
  · rename_i e; rw [e] at hx
    generalize hu : a.eval x = u at hx
    cases hx
    exact ok_still rel.mem h (by simp [execOp, hu, Op.unary, Op.intBits, Go.bits]) (.int _ _)
  · cases h
theorem ok_conv {s d : TypeId} {x : Operand} (h : stConv P st K s d x = some r) (rel : RelT X w0 N0 B0 th st a w) : Did P X w0 N0 B0 th a w ⟨dst, .convert s d x, ty, pos, after, guard⟩ K r := by
  have hx := rel.ev x
  unfold stConv at h
  split at h
  · rename_i e hs hd; rw [e] at hx
    generalize hu : a.eval x = u at hx
    cases hx
    refine ok_still rel.mem h ?_ (.int _ _)
    simp only [execOp, hu, convert, Sem.run_bind, run_underlying hs, run_underlying hd, Result.andThen_ok, Conv.intToInt, Sem.run_pure]
  · cases h
theorem ok_alloc {t : TypeId} (h : stAlloc P st K t = some r) (rel : RelT X w0 N0 B0 th st a w) : Did P X w0 N0 B0 th a w ⟨dst, .alloc t, ty, pos, after, guard⟩ K r := by
  have m := rel.mem
  unfold stAlloc at h
  split at h
  · rename_i v hv
    split at h
    · rename_i hall
      have hlen : (zeroCs P t : List (AV U)).length = v.cells.size := by
        simp [zeroCs, hv]
      obtain ⟨h1, h2, h3⟩ := m.new_box t (zeroCs P t) v.cells (by rw [hlen]) (fun j hj => by
        rw [hlen] at hj
        have hz : ∀ e, VRel X w (NN N0 th) th (zeroCell e (v.cells.getD j undef) : AV U) (v.cells.getD j undef) := by
          intro e
          unfold zeroCell
          split
          · rename_i hn; rw [hn]; exact .nils _
          · exact ofVal_rel X w _ th _
        have : (zeroCs P t : List (AV U)).getD j .undef = zeroCell ((cellE P 8 t ++ List.replicate v.cells.size 0).getD j 0) (v.cells.getD j undef) := by
          simp only [zeroCs, hv, List.getD_eq_getElem?_getD, List.getElem?_map]
          have hz1 : (v.cells.toList.zip (cellE P 8 t ++ List.replicate v.cells.size 0))[j]? = some (v.cells.getD j undef, (cellE P 8 t ++ List.replicate v.cells.size 0).getD j 0) := by
            rw [List.getElem?_zip_eq_some]
            constructor
            · rw [Array.getElem?_toList, Array.getD_eq_getD_getElem?, Array.getElem?_eq_getElem hj]; rfl
            · rw [List.getD_eq_getElem?_getD, List.getElem?_eq_getElem (by simp; omega)]; rfl
          rw [hz1]
          rw [List.getD_eq_getElem?_getD]; rfl
        rw [this]; exact hz _)
      refine ⟨_, _, h, ⟨_, _, _, .inl ?_, h1, h2, h3⟩⟩
      obtain ⟨i, hi1, hi2⟩ := Option.bind_eq_some_iff.1 hv
      simp only [execOp, Instr.alloc, zeroValue, typeInfo, newVar, newRow, Sem.run_bind, Sem.run_pure]
      simp only [run_program, Result.andThen_ok, hi1, hi2, Sem.run_pure]
      rfl
    · cases h
  · cases h
theorem ok_box {t : TypeId} {x : Operand} (h : stBox P st K t x = some r) (rel : RelT X w0 N0 B0 th st a w) : Did P X w0 N0 B0 th a w ⟨dst, .box t x, ty, pos, after, guard⟩ K r := by
  have m := rel.mem
  have hx := evT_rel (P := P) rel t x
  unfold stBox at h
  split at h
  · rename_i hok
    obtain ⟨g1, g2, _⟩ := cells_rel hx hok
    obtain ⟨h1, h2, h3⟩ := m.new_box t (cellsOf (evT P st t x)) (a.eval x).cells g1 g2
    refine ⟨_, _, h, ⟨_, _, _, .inl ?_, h1, h2, h3⟩⟩
    simp only [execOp, Instr.box, newVar, newRow, Sem.run_bind, Sem.run_pure]
    rfl
  · cases h
theorem ok_fieldAddr {t : TypeId} {x : Operand} {f : Nat} (h : stFieldAddr P st K t x f = some r) (rel : RelT X w0 N0 B0 th st a w) : Did P X w0 N0 B0 th a w ⟨dst, .fieldAddr t x f, ty, pos, after, guard⟩ K r := by
  have m := rel.mem
  have hx := rel.ev x
  have hnd : ∀ i, alive st.h i = true → th i ≠ .dead := fun i ha hd => by
    rcases m.blk_of ha with h1 | ⟨b, c, h1⟩ <;> rw [h1] at hd <;> cases hd
  unfold stFieldAddr at h
  split at h
  · rename_i fields ht
    split at h
    · rename_i fd hf
      split at h
      · rename_i hz
        rw [Bool.and_eq_true, decide_eq_true_eq] at hz
        have run : ∀ b o, (Instr.fieldAt t (.pointer (some ⟨b, o, none⟩)) f).run P w = .ok (.pointer (some ⟨b, o + fd.offset, none⟩)) w := fun b o => run_fieldAt ht hf hz.1 hz.2
        split at h
        · rename_i i c e; rw [e] at hx
          split at h
          · rename_i ha
            generalize hu : a.eval x = u at hx
            cases hx with
            | ptr _ _ b cap h' => exact ok_still m h (by simp only [execOp, hu, Sem.run_bind, run]; rfl) (.ptr _ _ b cap h')
            | ptrDead _ _ _ _ h' => exact absurd h' (hnd _ ha)
          · cases h
        · rename_i e l j c ex; rw [ex] at hx
          generalize hu : a.eval x = u at hx
          cases hx with
          | pimm _ _ _ _ b off vs hl hN hc hv =>
            refine ok_still m h (by simp only [execOp, hu, Sem.run_bind, run]; rfl) ?_
            have := VRel.pimm (X := X) (w := w) (N := NN N0 th) (th := th) e l j (c + fd.offset) b off vs hl hN hc hv
            rw [show off + (j * X.z e + (c + fd.offset)) = off + (j * X.z e + c) + fd.offset by omega] at this
            exact this
        · rename_i i e j c ex; rw [ex] at hx
          split at h
          · rename_i ha
            generalize hu : a.eval x = u at hx
            cases hx with
            | prow _ _ _ _ b cap h' =>
              refine ok_still m h (by simp only [execOp, hu, Sem.run_bind, run]; rfl) ?_
              have := VRel.prow (X := X) (w := w) (N := NN N0 th) (th := th) i e j (c + fd.offset) b cap h'
              rw [show j * X.z e + (c + fd.offset) = j * X.z e + c + fd.offset by omega] at this
              exact this
            | prowDead _ _ _ _ _ _ h' => exact absurd h' (hnd _ ha)
          · cases h
        · cases h
      · cases h
    · cases h
  · cases h
theorem ok_field {t : TypeId} {x : Operand} {f : Nat} (h : stField P st K t x f = some r) (rel : RelT X w0 N0 B0 th st a w) : Did P X w0 N0 B0 th a w ⟨dst, .field t x f, ty, pos, after, guard⟩ K r := by
  have hx := rel.ev x
  unfold stField at h
  split at h
  · rename_i fields cs ht e; rw [e] at hx
    split at h
    · rename_i fd hf
      split at h
      · rename_i hok
        generalize hu : a.eval x = u at hx
        cases hx with
        | agg _ vs hs hj =>
          obtain ⟨v, h1, h2⟩ := getD_cells (P := P) hs hj hok
          refine ok_still rel.mem h ?_ h2
          simp only [execOp, hu, Instr.field, Sem.run_bind, run_underlying ht, Result.andThen_ok, hf, asAgg, Sem.run_pure, h1]
      · cases h
    · cases h
  · cases h
theorem ok_indexAddr {t : TypeId} {x ix : Operand} (h : stIndexAddr P X st K t x ix = some r) (rel : RelT X w0 N0 B0 th st a w) : Did P X w0 N0 B0 th a w ⟨dst, .indexAddr t x ix, ty, pos, after, guard⟩ K r := by
  have m := rel.mem
  have hx := rel.ev x
  have hi := rel.ev ix
  unfold stIndexAddr at h
  split at h
  · rename_i d e l k i ht ex ei; rw [ex] at hx; rw [ei] at hi
    split at h
    · rename_i hz
      rw [Bool.and_eq_true, decide_eq_true_eq] at hz
      obtain ⟨h0, h⟩ := cond_none h
      obtain ⟨h1, h⟩ := cond_none h
      have h0 := of_decide_eq_true h0
      have h1 := of_decide_eq_true h1
      generalize hu : a.eval x = u at hx
      generalize hv : a.eval ix = v at hi
      cases hi
      cases hx with
      | imm0 _ _ _ => simp at h1; omega
      | imm _ _ b off c vs hlc hl hN hc hvv =>
        refine ok_still m h (by simp only [execOp, hu, hv, Sem.run_bind, run_indexAt ht hz.1 h0 h1]; rfl) ?_
        have := VRel.pimm (X := X) (w := w) (N := NN N0 th) (th := th) e l i.toNat 0 b off vs hl hN hc hvv
        rw [Nat.add_zero, ← hz.2] at this
        exact this
    · cases h
  · rename_i r' d q e k i ht ex ei; rw [ex] at hx; rw [ei] at hi
    split at h
    · rename_i e' l ho
      split at h
      · rename_i hee; subst hee
        split at h
        · rename_i hz
          rw [Bool.and_eq_true, decide_eq_true_eq] at hz
          obtain ⟨h0, h⟩ := cond_none h
          obtain ⟨h1, h⟩ := cond_none h
          have h0 := of_decide_eq_true h0
          have h1 := of_decide_eq_true h1
          generalize hu : a.eval x = u at hx
          generalize hv : a.eval ix = v at hi
          cases hi
          have hth : th q = .nil ∧ l = [] ∨ ∃ b cap, th q = .blk b (cap, l.length) := by
            rcases m.row_at ho with g | ⟨b, cap, _, g, _⟩
            · exact .inl g
            · exact .inr ⟨b, cap, g⟩
          cases hx with
          | row _ _ b cap n h' hn =>
            rcases hth with ⟨g, _⟩ | ⟨b', cap', g⟩
            · rw [g] at h'; cases h'
            · rw [g] at h'; injection h' with g1 g2; injection g2 with g3 g4; subst g1; subst g3; subst g4
              refine ok_still m h (by simp only [execOp, hu, hv, Sem.run_bind, run_indexAt ht hz.1 h0 h1]; rfl) ?_
              have := VRel.prow (X := X) (w := w) (N := NN N0 th) (th := th) q e' i.toNat 0 b' _ g
              rw [Nat.add_zero] at this
              rw [hz.2, Nat.zero_add]; exact this
          | rowNil _ _ h' =>
            rcases hth with ⟨_, g⟩ | ⟨b', cap', g⟩
            · subst g; simp at h1; omega
            · rw [g] at h'; cases h'
          | rowDead _ _ _ _ h' =>
            rcases hth with ⟨g, _⟩ | ⟨b', cap', g⟩ <;> rw [g] at h' <;> cases h'
        · cases h
      · cases h
    · cases h
  · rename_i r' d q e off n k i ht ex ei; rw [ex] at hx; rw [ei] at hi
    split at h
    · rename_i e' l ho
      split at h
      · rename_i hee; subst hee
        split at h
        · rename_i hz
          rw [Bool.and_eq_true, decide_eq_true_eq] at hz
          obtain ⟨h0, h⟩ := cond_none h
          obtain ⟨h1, h⟩ := cond_none h
          have h0 := of_decide_eq_true h0
          have h1 := of_decide_eq_true h1
          generalize hu : a.eval x = u at hx
          generalize hv : a.eval ix = v at hi
          cases hi
          cases hx with
          | view _ _ _ _ b cap len c h' hn hl hp hcn hcc =>
            refine ok_still m h (by simp only [execOp, hu, hv, Sem.run_bind, run_indexAt ht hz.1 h0 h1]; rfl) ?_
            have := VRel.prow (X := X) (w := w) (N := NN N0 th) (th := th) q e' (off + i.toNat) 0 b _ h'
            rw [Nat.add_zero, Nat.add_mul] at this
            rw [hz.2]; exact this
          | view0 _ _ _ _ _ _ => simp at h1; omega
          | viewNil _ _ _ => simp at h1; omega
          | viewDead _ _ _ _ _ _ h' =>
            rcases m.blk_of (i := q) (by unfold alive; rw [ho]) with g | ⟨_, _, g⟩ <;> rw [g] at h' <;> cases h'
        · cases h
      · cases h
    · cases h
  · cases h
theorem ok_index {t : TypeId} {x ix : Operand} (h : stIndex P st K t x ix = some r) (rel : RelT X w0 N0 B0 th st a w) : Did P X w0 N0 B0 th a w ⟨dst, .index t x ix, ty, pos, after, guard⟩ K r := by
  have hx := rel.ev x
  have hi := rel.ev ix
  unfold stIndex at h
  split at h
  · rename_i s k i ht ex ei; rw [ex] at hx; rw [ei] at hi
    obtain ⟨h0, h⟩ := cond_none h
    obtain ⟨h1, h⟩ := cond_none h
    have h0 := of_decide_eq_true h0
    have h1 := of_decide_eq_true h1
    generalize hu : a.eval x = u at hx
    generalize hv : a.eval ix = v at hi
    cases hi
    cases hx
    refine ok_still rel.mem h ?_ (.int _ _)
    have := run_index_string (P := P) w t s k i ht
    rw [dif_pos ⟨h0, h1⟩, bt_at] at this
    simp only [execOp, hu, hv, Sem.run_bind, this]; rfl
  · cases h
theorem ok_extract {x : Operand} {i : Nat} (h : stExtract st K x i = some r) (rel : RelT X w0 N0 B0 th st a w) : Did P X w0 N0 B0 th a w ⟨dst, .extract x i, ty, pos, after, guard⟩ K r := by
  have hx := rel.ev x
  unfold stExtract at h
  split at h
  · rename_i cs e; rw [e] at hx
    split at h
    · rename_i hi
      generalize hu : a.eval x = u at hx
      cases hx with
      | tup _ vs hs hj =>
        refine ok_still rel.mem h ?_ (hj i hi)
        have : vs[i]? = some (vs.getD i undef) := by
          rw [Array.getD_eq_getD_getElem?, Array.getElem?_eq_getElem (by omega)]; rfl
        simp only [execOp, hu, Instr.extract, this, Sem.run_bind, Sem.run_pure, Result.andThen_ok]
    · cases h
  · cases h
end
end Go.Abs
namespace Go.Abs
open Go
variable {U : Nat → Type} {R : Type}
section
variable {P : Program} {X : Univ U} {w0 w : World} {N0 : Nat → Prop} {B0 : Nat → Th} {th : Nat → Th} {st : S U} {a : Act} {r : R}
theorem exec_len {t : TypeId} {x : Operand} {dst : Option Tmp} {ty : TypeId} {pos : String} {after : Array Edge} {guard : Option (Nat × Bool)} {c : Call} (hc : c.callee = .builtin .len) (hx' : c.args.toList = [x]) (ht' : c.argTypes.toList = [t]) {n : Int}
    (h : (Builtin.len_ #[t] ty #[a.eval x]).run P w = .ok (.int .i64 n) w) : (execOp a.eval (⟨dst, .call c, ty, pos, after, guard⟩ : Oper)).run P w = .ok (.value (.int .i64 n)) w := by
  have ea : c.args = #[x] := by rw [← Array.toArray_toList (xs := c.args), hx']
  have et : c.argTypes = #[t] := by rw [← Array.toArray_toList (xs := c.argTypes), ht']
  have e2 : (execOp a.eval (⟨dst, .call c, ty, pos, after, guard⟩ : Oper)) = (do let v ← Builtin.len_ #[t] ty #[a.eval x]; pure (Next.value v)) := by
    simp only [execOp, resolve, hc, ea, et, pure_bind, invoke, builtin, List.map_toArray, List.map_cons, List.map_nil]
  rw [e2, Sem.run_bind, h]
  rfl
theorem ok_len {t : TypeId} {x : Operand} {K : AV U → List (AO U) → Option R} {dst : Option Tmp} {ty : TypeId} {pos : String} {after : Array Edge} {guard : Option (Nat × Bool)} {c : Call} (hc : c.callee = .builtin .len) (hx' : c.args.toList = [x]) (ht' : c.argTypes.toList = [t])
    (h : stLen P st K t x = some r) (rel : RelT X w0 N0 B0 th st a w) : Did P X w0 N0 B0 th a w ⟨dst, .call c, ty, pos, after, guard⟩ K r := by
  have m := rel.mem
  have hx := rel.ev x
  have hnd : ∀ i, alive st.h i = true → th i ≠ .dead := fun i ha hd => by
    rcases m.blk_of ha with h1 | ⟨b, c, h1⟩ <;> rw [h1] at hd <;> cases hd
  have sl : ∀ e, P.underlying t = some (.slice e) → P.underlying t = some (.slice (P.elem t)) := fun e he => by
    have : P.elem t = e := by simp [Program.elem, he]
    rw [this]; exact he
  have run := fun (n : Int) h => exec_len (a := a) (P := P) (w := w) (dst := dst) (ty := ty) (pos := pos) (after := after) (guard := guard) hc hx' ht' (n := n) h
  unfold stLen at h
  split at h
  · rename_i e hs ev'; rw [ev'] at hx
    generalize hu : a.eval x = u at hx run
    cases hx
    exact ok_still m h (run 0 (run_len_slice w t ty none 0 0 (sl _ hs))) (.int _ _)
  · rename_i e e' l hs ev'; rw [ev'] at hx
    generalize hu : a.eval x = u at hx run
    cases hx with
    | imm0 _ b c => exact ok_still m h (run 0 (run_len_slice w t ty b 0 c (sl _ hs))) (.int _ _)
    | imm _ _ b off c vs hlc hl hN hcc hv => exact ok_still m h (run l.length (run_len_slice w t ty _ l.length c (sl _ hs))) (.int _ _)
  · rename_i e i e' hs ev'; rw [ev'] at hx
    split at h
    · rename_i e2 l ho
      generalize hu : a.eval x = u at hx run
      have hth : th i = .nil ∧ l = [] ∨ ∃ b cap, th i = .blk b (cap, l.length) := by
        rcases m.row_at ho with g | ⟨b, cap, _, g, _⟩
        · exact .inl g
        · exact .inr ⟨b, cap, g⟩
      cases hx with
      | row _ _ b cap n h' hn =>
        rcases hth with ⟨g, _⟩ | ⟨b', cap', g⟩
        · rw [g] at h'; cases h'
        · rw [g] at h'; injection h' with g1 g2; injection g2 with g3 g4; subst g1; subst g3; subst g4
          exact ok_still m h (run l.length (run_len_slice w t ty _ l.length _ (sl _ hs))) (.int _ _)
      | rowNil _ _ h' =>
        rcases hth with ⟨_, g⟩ | ⟨b', cap', g⟩
        · subst g; exact ok_still m h (run 0 (run_len_slice w t ty none 0 0 (sl _ hs))) (.int _ _)
        · rw [g] at h'; cases h'
      | rowDead _ _ _ _ h' =>
        rcases hth with ⟨g, _⟩ | ⟨b', cap', g⟩ <;> rw [g] at h' <;> cases h'
    · cases h
  · rename_i e i e' off n hs ev'; rw [ev'] at hx
    split at h
    · rename_i e2 l ho
      generalize hu : a.eval x = u at hx run
      cases hx with
      | view _ _ _ _ b cap len c h' hn hl h0 hcn hcc => exact ok_still m h (run n (run_len_slice w t ty _ n _ (sl _ hs))) (.int _ _)
      | view0 _ _ _ b c _ => exact ok_still m h (run 0 (run_len_slice w t ty b 0 c (sl _ hs))) (.int _ _)
      | viewNil _ _ _ => exact ok_still m h (run 0 (run_len_slice w t ty none 0 0 (sl _ hs))) (.int _ _)
      | viewDead _ _ _ _ _ _ h' => exact absurd h' (hnd _ (by unfold alive; rw [ho]))
    · cases h
  · rename_i s hs ev'; rw [ev'] at hx
    generalize hu : a.eval x = u at hx run
    cases hx
    exact ok_still m h (run s.size (run_len_string w t ty s hs)) (.int _ _)
  · cases h
theorem ok_bin {op : BinOp} {t : TypeId} {x y : Operand} {s : TypeId} {K : AV U → List (AO U) → Option R} {dst : Option Tmp} {ty : TypeId} {pos : String} {after : Array Edge} {guard : Option (Nat × Bool)}
    (h : binA P t op (ev st x) (ev st y) (fun v => K v st.h) = some r) (rel : RelT X w0 N0 B0 th st a w) : Did P X w0 N0 B0 th a w ⟨dst, .binOp op t x y s, ty, pos, after, guard⟩ K r := by
  obtain ⟨v, h1, h2, h3⟩ := binA_ok (ox := x) (oy := y) h (rel.ev x) (rel.ev y)
  refine ok_still rel.mem h1 ?_ (toV_rel h2)
  simp only [execOp]
  rw [Sem.run_bind, h3]; rfl
theorem step_ok (law : Lawful X) {o : Oper} {K : AV U → List (AO U) → Option R} (h : step P X o st K = some r) (rel : RelT X w0 N0 B0 th st a w) : Did P X w0 N0 B0 th a w o K r := by
  obtain ⟨dst, op, ty, pos, after, guard⟩ := o
  cases op <;> simp only [step] at h <;> first
    | (cases h; done)
    | exact ok_pick h rel
    | exact ok_nil h rel
    | exact ok_bin h rel
    | exact ok_un h rel
    | exact ok_conv h rel
    | exact ok_alloc h rel
    | exact ok_box h rel
    | exact ok_load law h rel
    | exact ok_store law h rel
    | exact ok_fieldAddr h rel
    | exact ok_field h rel
    | exact ok_indexAddr h rel
    | exact ok_index h rel
    | exact ok_extract h rel
    | exact ok_still rel.mem h (by simp [execOp]) (evT_rel rel _ _)
    | skip
  split at h
  · rename_i b hb
    unfold stBuiltin at h
    split at h
    · rename_i x t hx ht
      exact ok_len hb hx ht h rel
    · cases h
  · cases h
end
end Go.Abs
namespace Go.Abs
open Go
variable {U : Nat → Type} {R : Type}
def Sound (X : Univ U) : Prop := ∀ e y, (cellsOf (X.enc e y)).all okCell = true
section
variable {P : Program} {X : Univ U} {w0 w w' : World} {N0 N : Nat → Prop} {B0 : Nat → Th} {th th' : Nat → Th} {h h' : List (AO U)} {e : Nat}
structure LC (X : Univ U) (w : World) (N : Nat → Prop) (th : Nat → Th) (e : Nat) (m : List (U e)) (news : List Value) : Prop where
  len : news.length = m.length * X.z e
  rel : ∀ j (_h : j < m.length) k, k < X.z e → VRel X w N th ((cellsOf (X.enc e m[j])).getD k .undef) (news.getD (j * X.z e + k) undef)
theorem gd_left (n n' : List Value) {i : Nat} (h : i < n.length) : (n ++ n').getD i undef = n.getD i undef := by
  rw [List.getD_eq_getElem?_getD, List.getElem?_append_left h, ← List.getD_eq_getElem?_getD]
theorem gd_right (n n' : List Value) {i : Nat} (h : n.length ≤ i) : (n ++ n').getD i undef = n'.getD (i - n.length) undef := by
  rw [List.getD_eq_getElem?_getD, List.getElem?_append_right h, ← List.getD_eq_getElem?_getD]
theorem gd_take (cur : Array Value) {i n : Nat} (h : i < n) : (cur.toList.take n).getD i undef = cur.getD i undef := by
  rw [List.getD_eq_getElem?_getD, List.getElem?_take, if_pos h, Array.getElem?_toList, ← Array.getD_eq_getD_getElem?]
theorem LC.nil : LC X w N th e [] [] := ⟨by simp, fun j h => by simp at h⟩
theorem LC.append {m m' : List (U e)} {n n' : List Value} (h1 : LC X w N th e m n) (h2 : LC X w N th e m' n') : LC X w N th e (m ++ m') (n ++ n') := by
  refine ⟨by simp [h1.len, h2.len, Nat.add_mul], fun j hj k hk => ?_⟩
  by_cases hlt : j < m.length
  · have e1 : (m ++ m')[j] = m[j] := List.getElem_append_left hlt
    have hc : j * X.z e + k < n.length := by rw [h1.len]; exact mul_lt_cells hlt hk (Nat.le_refl _)
    rw [e1, gd_left _ _ hc]
    exact h1.rel j hlt k hk
  · have hj' : j - m.length < m'.length := by simp at hj; omega
    have e1 : (m ++ m')[j] = m'[j - m.length] := List.getElem_append_right (by omega)
    have hge : n.length ≤ j * X.z e + k := by
      rw [h1.len]; exact Nat.le_trans (Nat.mul_le_mul_right _ (by omega)) (Nat.le_add_right _ _)
    have e2 : j * X.z e + k - n.length = (j - m.length) * X.z e + k := by
      rw [h1.len]
      have : j * X.z e = (j - m.length) * X.z e + m.length * X.z e := by rw [← Nat.add_mul]; congr 1; omega
      omega
    rw [e1, gd_right _ _ hge, e2]
    exact h2.rel _ hj' k hk
theorem LC.mono {m : List (U e)} {n : List Value} (h1 : LC X w N th e m n) {N' : Nat → Prop} (hc : ∀ x v, VRel X w N th x v → VRel X w' N' th' x v) : LC X w' N' th' e m n := ⟨h1.len, fun j hj k hk => hc _ _ (h1.rel j hj k hk)⟩
theorem LC.one (law : Lawful X) (so : Sound X) {m : List (U e)} {n : List Value} (h1 : LC X w N th e m n) : ∀ u ∈ n, u.oneCell' = true := by
  intro u hu
  obtain ⟨i, hi, rfl⟩ := List.mem_iff_getElem.1 hu
  have hz : 0 < X.z e := by
    refine Nat.pos_of_ne_zero fun hz => ?_
    rw [h1.len, hz] at hi; simp at hi
  have hlen := h1.len
  have hj : i / X.z e < m.length := by rw [Nat.div_lt_iff_lt_mul hz]; omega
  have hr := h1.rel (i / X.z e) hj (i % X.z e) (Nat.mod_lt _ hz)
  rw [Nat.mul_comm, Nat.div_add_mod] at hr
  have e1 : n.getD i undef = n[i] := by rw [List.getD_eq_getElem?_getD, List.getElem?_eq_getElem hi]; rfl
  rw [e1] at hr
  refine okCell_one hr ?_
  have hs := law.size e m[i / X.z e]
  have ho := so e m[i / X.z e]
  have hk : i % X.z e < (cellsOf (X.enc e m[i / X.z e])).length := by rw [hs]; exact Nat.mod_lt _ hz
  have e2 : (cellsOf (X.enc e m[i / X.z e])).getD (i % X.z e) .undef = (cellsOf (X.enc e m[i / X.z e]))[i % X.z e] := by rw [List.getD_eq_getElem?_getD, List.getElem?_eq_getElem hk]; rfl
  rw [e2]
  exact List.all_eq_true.1 ho _ (List.getElem_mem hk)
theorem take_rel {l : List (U e)} {cap : Nat} {cur : Array Value} (hs : cap * X.z e ≤ cur.size) (hl : l.length ≤ cap)
    (hr : ∀ j (_h : j < l.length) k, k < X.z e → VRel X w N th ((cellsOf (X.enc e l[j])).getD k .undef) (cur.getD (j * X.z e + k) undef)) : LC X w N th e l (cur.toList.take (l.length * X.z e)) := by
  have hle : l.length * X.z e ≤ cur.size := Nat.le_trans (Nat.mul_le_mul_right _ hl) hs
  refine ⟨by simp; omega, fun j hj k hk => ?_⟩
  have hlt := mul_lt_cells hj hk (Nat.le_refl l.length)
  have := hr j hj k hk
  rw [gd_take _ hlt]
  exact this
theorem carries2 (hsz : w.heap.size ≤ w'.heap.size) (hblk : ∀ b, b < w.heap.size → ¬ Own th b → w'.heap[b]? = w.heap[b]?) (hth : ∀ i, th i = .none ∨ th' i = th i ∨ th' i = .dead)
    (hnew : ∀ b, Own th' b → Own th b ∨ w.heap.size ≤ b) : Carries X N0 w w' th th' := ⟨hsz, hblk, hth, hnew⟩
theorem Mem.step2 (m : Mem X w0 N0 B0 th h w) (hsz : w.heap.size ≤ w'.heap.size) (hos : w'.os = w.os) (htape : w'.tape = w.tape) (hout : w'.output = w.output)
    (hblk : ∀ b, b < w.heap.size → ¬ Own th b → w'.heap[b]? = w.heap[b]?) (hth : ∀ i, th i = .none ∨ th' i = th i ∨ th' i = .dead) (hnew : ∀ b, Own th' b → Own th b ∨ (w.heap.size ≤ b ∧ b < w'.heap.size))
    (objs' : ∀ i, i < h'.length → ORel X w' (NN N0 th') th' i (h'.getD i .dead)) (out' : ∀ i, h'.length ≤ i → th' i = .none)
    (inj' : ∀ i j b c d, th' i = .blk b c → th' j = .blk b d → i = j) : Mem X w0 N0 B0 th' h' w' where
  objs := objs'
  out := out'
  gv := m.gv
  glob := fun g => (carries2 hsz hblk hth fun b hb => (hnew b hb).imp id And.left).rel _ _ (m.glob g)
  own := fun i b c hi => by
    rcases hnew b ⟨i, c, hi⟩ with ⟨i', c', h1⟩ | ⟨h1, h2⟩
    · obtain ⟨g1, g2, g3⟩ := m.own i' b c' h1
      exact ⟨g1, by omega, g3⟩
    · have := m.size
      exact ⟨.inr (by omega), h2, fun hn => by have := m.n0 b hn; omega⟩
  inj := inj'
  n0 := m.n0
  size := Nat.le_trans m.size hsz
  os := hos.trans m.os
  tape := htape.trans m.tape
  output := hout.trans m.output
  pin := pin_step m.pin hth
  keep := fun k hk hB => by
    refine (hblk k (Nat.lt_of_lt_of_le hk m.size) ?_).trans (m.keep k hk hB)
    rintro ⟨i, c, hi⟩
    obtain ⟨g1, _, _⟩ := m.own i k c hi
    rcases g1 with g1 | g1
    · exact hB g1
    · omega
theorem carries_drew : Carries X N0 w w.drew th th := carries2 (Nat.le_refl _) (fun _ _ _ => rfl) (fun _ => .inr (.inl rfl)) (fun _ h => .inl h)
theorem Mem.drew (m : Mem X w0 N0 B0 th h w) : Mem X w0 N0 B0 th h w.drew :=
  m.step2 (Nat.le_refl _) rfl rfl rfl (fun _ _ _ => rfl) (fun _ => .inr (.inl rfl)) (fun _ h => .inl h) (fun i hi => (m.objs i hi).mono rfl (fun _ _ _ => rfl) carries_drew) m.out m.inj
theorem Mem.turn (m : Mem X w0 N0 B0 th h w) {i b : Nat} {c c' : Nat × Nat} (hil : i < h.length) (hi : th i = .blk b c) (hsz : w'.heap.size = w.heap.size) (hos : w'.os = w.os) (htape : w'.tape = w.tape) (hout : w'.output = w.output)
    (hblk : ∀ k, k ≠ b → w'.heap[k]? = w.heap[k]?) (x : AO U)
    (hx : Carries X N0 w w' th (thNew (thNew th h.length (.blk b c')) i .dead) → ORel X w' (NN N0 (thNew (thNew th h.length (.blk b c')) i .dead)) (thNew (thNew th h.length (.blk b c')) i .dead) h.length x) :
    Mem X w0 N0 B0 (thNew (thNew th h.length (.blk b c')) i .dead) ((h ++ [x]).set i .dead) w' ∧ Carries X N0 w w' th (thNew (thNew th h.length (.blk b c')) i .dead) := by
  generalize hth : thNew (thNew th h.length (.blk b c')) i .dead = t at *
  have ti : t i = .dead := by rw [← hth]; exact thNew_same _ _ _
  have tn : t h.length = .blk b c' := by rw [← hth, thNew_other _ _ (by omega)]; exact thNew_same _ _ _
  have to : ∀ j, j ≠ i → j ≠ h.length → t j = th j := fun j h1 h2 => by rw [← hth, thNew_other _ _ h1, thNew_other _ _ h2]
  have hnb : ∀ k, ¬ Own th k → k ≠ b := fun k hk e => hk ⟨i, c, e ▸ hi⟩
  have hown : ∀ k, Own t k → Own th k := by
    rintro k ⟨j, d, hj⟩
    by_cases e1 : j = i
    · subst e1; rw [ti] at hj; cases hj
    · by_cases e2 : j = h.length
      · subst e2; rw [tn] at hj; injection hj with g1 g2; subst g1; exact ⟨i, c, hi⟩
      · rw [to j e1 e2] at hj; exact ⟨j, d, hj⟩
  have hth2 : ∀ j, th j = .none ∨ t j = th j ∨ t j = .dead := fun j => by
    by_cases e1 : j = i
    · subst e1; exact .inr (.inr ti)
    · by_cases e2 : j = h.length
      · subst e2; exact .inl (m.out _ (Nat.le_refl _))
      · exact .inr (.inl (to j e1 e2))
  have hc : Carries X N0 w w' th t := carries2 (by omega) (fun k _ hk => hblk k (hnb k hk)) hth2 (fun k hk => .inl (hown k hk))
  refine ⟨m.step2 (by omega) hos htape hout (fun k _ hk => hblk k (hnb k hk)) hth2 (fun k hk => .inl (hown k hk)) (fun j hj => ?_) (fun j hj => ?_) (fun j k b' d1 d2 hj hk => ?_), hc⟩
  · have hlen : ((h ++ [x]).set i AO.dead).length = h.length + 1 := by simp
    rw [hlen] at hj
    by_cases e1 : j = i
    · subst e1; rw [getD_set_same _ _ _ (by simp; omega)]; exact ti
    · rw [getD_set_other _ _ _ _ e1]
      by_cases e2 : j = h.length
      · subst e2; rw [getD_snoc_eq]; exact hx hc
      · rw [getD_snoc_lt h x (by omega)]
        refine (m.objs j (by omega)).mono (to j e1 e2) (fun b' c2 hb' => hblk b' fun e => e1 (m.inj j i b' c2 c hb' (e ▸ hi))) hc
  · have hlen : ((h ++ [x]).set i AO.dead).length = h.length + 1 := by simp
    rw [hlen] at hj
    rw [to j (by omega) (by omega)]; exact m.out j (by omega)
  · by_cases e1 : j = i
    · subst e1; rw [ti] at hj; cases hj
    by_cases e2 : k = i
    · subst e2; rw [ti] at hk; cases hk
    by_cases e3 : j = h.length
    · by_cases e4 : k = h.length
      · omega
      · subst e3; rw [tn] at hj; injection hj with g1 g2; subst g1
        rw [to k e2 e4] at hk
        exact absurd (m.inj k i b d2 c hk hi) e2
    · by_cases e4 : k = h.length
      · subst e4; rw [tn] at hk; injection hk with g1 g2; subst g1
        rw [to j e1 e3] at hj
        exact absurd (m.inj j i b d1 c hj hi) e1
      · rw [to j e1 e3] at hj; rw [to k e2 e4] at hk; exact m.inj j k b' d1 d2 hj hk
theorem Mem.newNil (m : Mem X w0 N0 B0 th h w) (e : Nat) : Mem X w0 N0 B0 (thNew th h.length .nil) (h ++ [.row e []]) w ∧ Carries X N0 w w th (thNew th h.length .nil) := by
  have hown : ∀ k, Own (thNew th h.length .nil) k → Own th k := by
    rintro k ⟨j, d, hj⟩
    by_cases e2 : j = h.length
    · subst e2; rw [thNew_same] at hj; cases hj
    · rw [thNew_other _ _ e2] at hj; exact ⟨j, d, hj⟩
  have hth2 : ∀ j, th j = .none ∨ thNew th h.length .nil j = th j ∨ thNew th h.length .nil j = .dead := fun j => by
    by_cases e2 : j = h.length
    · subst e2; exact .inl (m.out _ (Nat.le_refl _))
    · exact .inr (.inl (thNew_other _ _ e2))
  have hc : Carries X N0 w w th (thNew th h.length .nil) := carries2 (Nat.le_refl _) (fun _ _ _ => rfl) hth2 (fun k hk => .inl (hown k hk))
  refine ⟨m.step2 (Nat.le_refl _) rfl rfl rfl (fun _ _ _ => rfl) hth2 (fun k hk => .inl (hown k hk)) (fun j hj => ?_) (fun j hj => ?_) (fun j k b' d1 d2 hj hk => ?_), hc⟩
  · simp at hj
    by_cases e2 : j = h.length
    · subst e2; rw [getD_snoc_eq]; exact .inl ⟨thNew_same _ _ _, rfl⟩
    · rw [getD_snoc_lt h _ (by omega)]
      exact (m.objs j (by omega)).mono (thNew_other _ _ e2) (fun _ _ _ => rfl) hc
  · simp at hj; rw [thNew_other _ _ (by omega)]; exact m.out j (by omega)
  · by_cases e3 : j = h.length
    · subst e3; rw [thNew_same] at hj; cases hj
    · by_cases e4 : k = h.length
      · subst e4; rw [thNew_same] at hk; cases hk
      · rw [thNew_other _ _ e3] at hj; rw [thNew_other _ _ e4] at hk; exact m.inj j k b' d1 d2 hj hk
theorem Mem.newRow (m : Mem X w0 N0 B0 th h w) {l : List (U e)} {cap : Nat} {news : List Value} {cur : Array Value} (hcap : cap ≤ maxLen) (hle : l.length ≤ cap) (hs : cur.size = cap * X.z e) (hl : LC X w (NN N0 th) th e l news)
    (hcur : cur.toList.take (l.length * X.z e) = news) :
    Mem X w0 N0 B0 (thNew th h.length (.blk w.heap.size (cap, l.length))) (h ++ [.row e l]) (w.alloc (.cells cur e)) ∧ Carries X N0 w (w.alloc (.cells cur e)) th (thNew th h.length (.blk w.heap.size (cap, l.length))) := by
  have hc := m.carries_new (.cells cur e) (cap, l.length)
  refine ⟨m.new _ (cap, l.length) _ (.inr ⟨w.heap.size, cap, cur, thNew_same _ _ _, heap_alloc_at w _, hcap, Nat.le_of_eq hs.symm, hle, fun j hj k hk => ?_⟩), hc⟩
  have := hc _ _ (hl.rel j hj k hk)
  have hlt := mul_lt_cells hj hk (Nat.le_refl l.length)
  rw [← hcur, gd_take _ hlt] at this
  exact this
end
end Go.Abs
namespace Go.Abs
open Go
variable {U : Nat → Type} {R : Type}
def bytesT (P : Program) (t : TypeId) : Nat := ((P.info? t).map (·.bytes)).getD 0
def appOK (P : Program) (X : Univ U) (e : Nat) : Bool :=
  match P.info? e with
  | some i => decide (i.size = X.z e) && decide (0 < X.z e) && decide (0 < i.bytes) && (match i.zero with | some z => decide (z.cells.size = X.z e) | none => false)
  | none => false
def room (P : Program) (e n : Nat) : Bool := decide (n * bytesT P e ≤ 140737488355328)
def otherRow (i : Nat) : AV U → Bool
  | AV.row j _ => i != j
  | _ => true
section
variable (P : Program) (X : Univ U) (st : S U) (K : AV U → List (AO U) → Option R)
def stAppendTo (hp : List (AO U)) (e : Nat) (s x : AV U) (l m : List (U e)) : Option R :=
  match s with
  | AV.nils _ => cond (room P e (l.length + m.length)) (K (AV.row hp.length e) (hp ++ [AO.row e (l ++ m)])) none
  | AV.row i _ => if otherRow i x then cond (room P e (l.length + m.length)) (K (AV.row hp.length e) ((hp ++ [AO.row e (l ++ m)]).set i AO.dead)) none else none
  | _ => none
def stAppendA (hp : List (AO U)) (t tx : TypeId) (s x : AV U) : Option R :=
  match P.underlying t, P.underlying tx, listOf hp s, listOf hp x with
  | some (.slice d), some (.slice _), some ⟨e, l⟩, some ⟨e', m⟩ =>
    if hh : e' = e then (if (d == e && appOK P X e) = true then stAppendTo P K hp e s x l (castL hh m) else none) else none
  | _, _, _, _ => none
def retakeH (h : List (AO U)) (i e n : Nat) : List (AO U) := match h.getD i .dead with | .row e' l => if e' = e then (h ++ [AO.row e' (l.take n)]).set i AO.dead else h | _ => h
def stAppend (t tx : TypeId) (s x : Operand) : Option R :=
  match evT P st t s with
  | .view i e 0 n => stAppendA P X K (retakeH st.h i e n) t tx (.row st.h.length e) (evT P st tx x)
  | sv => stAppendA P X K st.h t tx sv (evT P st tx x)
end
section
variable {P : Program} {X : Univ U} {w0 w w' : World} {N0 N : Nat → Prop} {B0 : Nat → Th} {th th' : Nat → Th} {h h' : List (AO U)} {e : Nat}
theorem appOK_spec (h : appOK P X e = true) : ∃ i z, P.info? e = some i ∧ i.zero = some z ∧ i.size = X.z e ∧ 0 < X.z e ∧ 0 < i.bytes ∧ z.cells.size = X.z e ∧ bytesT P e = i.bytes := by
  unfold appOK at h
  cases hi : P.info? e with
  | none => rw [hi] at h; cases h
  | some i =>
    rw [hi] at h
    simp only [Bool.and_eq_true, decide_eq_true_eq] at h
    cases hz : i.zero with
    | none => rw [hz] at h; simp at h
    | some z =>
      rw [hz] at h
      simp only [decide_eq_true_eq] at h
      exact ⟨i, z, rfl, hz, h.1.1.1, h.1.1.2, h.1.2, h.2, by simp [bytesT, hi]⟩
theorem listOf_ok (m : Mem X w0 N0 B0 th h w) {x : AV U} {u : Value} {l : List (U e)} (hx : VRel X w (NN N0 th) th x u) (hl : listOf h x = some ⟨e, l⟩) :
    ∃ a c news, u = .slice a l.length c ∧ LC X w (NN N0 th) th e l news ∧ (a = none → l = []) ∧ (∀ ad, a = some ad → ∀ j v, news[j]? = some v → w.cell? (ad.add j) = some v) := by
  unfold listOf at hl
  split at hl
  · rename_i e'
    injection hl with hl; injection hl with h1 h2; subst h1; cases h2
    cases hx
    exact ⟨none, 0, [], rfl, LC.nil, fun _ => rfl, fun ad h => by cases h⟩
  · rename_i e' l'
    injection hl with hl; injection hl with h1 h2; subst h1; cases h2
    cases hx with
    | imm0 _ a c =>
      cases a with
      | none => exact ⟨none, c, [], rfl, LC.nil, fun _ => rfl, fun ad h => by cases h⟩
      | some ad => exact ⟨some ad, c, [], rfl, LC.nil, (fun h => by cases h), fun ad h j v hv => by simp at hv⟩
    | imm _ _ b off c vs hlc hl hN hc hv =>
      refine ⟨_, c, (List.range (l'.length * X.z e')).map vs, rfl, ⟨by simp, fun j hj k hk => ?_⟩, (fun h => by cases h), fun ad h j v hv' => ?_⟩
      · have hlt := mul_lt_cells hj hk (Nat.le_refl l'.length)
        have : ((List.range (l'.length * X.z e')).map vs).getD (j * X.z e' + k) Go.undef = vs (j * X.z e' + k) := by
          rw [List.getD_eq_getElem?_getD, List.getElem?_map, List.getElem?_range hlt]; rfl
        rw [this]; exact hv j hj k hk
      · injection h with h; subst h
        rw [List.getElem?_map] at hv'
        by_cases hlt : j < l'.length * X.z e'
        · rw [List.getElem?_range hlt] at hv'
          injection hv' with hv'
          rw [Addr.add_lit, ← hv']; exact hc j hlt
        · rw [List.getElem?_eq_none (by simp; omega)] at hv'; cases hv'
  · rename_i i e'
    split at hl
    · rename_i e2 l2 ho
      split at hl
      · rename_i hee
        subst hee
        injection hl with hl; injection hl with h1 h2; subst h1; cases h2
        rcases m.row_at ho with ⟨g1, g2⟩ | ⟨b, cap, cur, g1, g2, g3, g4, g5, g6⟩
        · subst g2
          cases hx with
          | row _ _ _ _ _ h' _ => rw [g1] at h'; cases h'
          | rowNil _ _ h' => exact ⟨none, 0, [], rfl, LC.nil, fun _ => rfl, fun ad h => by cases h⟩
          | rowDead _ _ _ _ h' => rw [g1] at h'; cases h'
        · cases hx with
          | row _ _ b' cap' n' h' _ =>
            rw [g1] at h'; injection h' with q1 q2; injection q2 with q3 q4; subst q1; subst q3; subst q4
            refine ⟨_, cap, _, rfl, take_rel g4 g5 g6, (fun h => by cases h), fun ad h j v hv' => ?_⟩
            injection h with h; subst h
            rw [List.getElem?_take] at hv'
            split at hv'
            · rw [Array.getElem?_toList] at hv'
              rw [Addr.add_lit]
              simp [World.cell?, g2, hv']
            · cases hv'
          | rowNil _ _ h' => rw [g1] at h'; cases h'
          | rowDead _ _ _ _ h' => rw [g1] at h'; cases h'
      · cases hl
    · cases hl
  · rename_i i e' off n
    split at hl
    · rename_i e2 l2 ho
      split at hl
      · rename_i hee
        subst hee
        injection hl with hl; injection hl with h1 h2; subst h1; cases h2
        rcases m.row_at ho with ⟨g1, g2⟩ | ⟨b, cap, cur, g1, g2, g3, g4, g5, g6⟩
        · cases hx with
          | view _ _ _ _ _ _ _ _ h' _ _ _ _ _ => rw [g1] at h'; cases h'
          | view0 _ _ _ a c _ => exact ⟨a, c, [], by simp, by rw [List.take_zero]; exact LC.nil, fun _ => List.take_zero, fun ad h j v hv => by simp at hv⟩
          | viewNil _ _ _ => exact ⟨none, 0, [], by simp, by rw [List.take_zero]; exact LC.nil, fun _ => List.take_zero, fun ad h j v hv => by simp at hv⟩
          | viewDead _ _ _ _ _ _ h' => rw [g1] at h'; cases h'
        · cases hx with
          | view0 _ _ _ a c _ => exact ⟨a, c, [], by simp, by rw [List.take_zero]; exact LC.nil, fun _ => List.take_zero, fun ad h j v hv => by simp at hv⟩
          | viewNil _ _ h' => rw [g1] at h'; cases h'
          | viewDead _ _ _ _ _ _ h' => rw [g1] at h'; cases h'
          | view _ _ _ _ b' cap' len' c' h' hn hl' h0 hcn hcc =>
            rw [g1] at h'; injection h' with q1 q2; injection q2 with q3 q4; subst q1; subst q3; subst q4
            have hlen : ((l2.drop off).take n).length = n := by simp; omega
            refine ⟨_, c', (cur.toList.drop (off * X.z e2)).take (n * X.z e2), by rw [hlen], ⟨?_, fun j hj k hk => ?_⟩, (fun h => by cases h), fun ad h j v hv' => ?_⟩
            · rw [hlen]
              have : (off + n) * X.z e2 ≤ cur.size := Nat.le_trans (Nat.mul_le_mul_right _ (by omega)) g4
              rw [Nat.add_mul] at this
              simp; omega
            · have hj' : j < n := by rw [hlen] at hj; exact hj
              have hlt := mul_lt_cells hj' hk (Nat.le_refl n)
              have e1 : ((l2.drop off).take n)[j] = l2[off + j]'(by omega) := by simp
              have := g6 (off + j) (by omega) k hk
              rw [e1]
              have e3 : ((cur.toList.drop (off * X.z e2)).take (n * X.z e2)).getD (j * X.z e2 + k) undef = cur.getD ((off + j) * X.z e2 + k) undef := by
                rw [List.getD_eq_getElem?_getD, List.getElem?_take, if_pos hlt, List.getElem?_drop, Array.getElem?_toList, ← Array.getD_eq_getD_getElem?, Nat.add_mul, Nat.add_assoc]
              rw [e3]; exact this
            · injection h with h; subst h
              rw [List.getElem?_take] at hv'
              split at hv'
              · rw [List.getElem?_drop, Array.getElem?_toList] at hv'
                rw [Addr.add_lit]
                simp [World.cell?, g2, hv']
              · cases hv'
      · cases hl
    · cases hl
  · cases hl
theorem src_of (law : Lawful X) (so : Sound X) {u : Value} {l : List (U e)} {a : Option Addr} {c : Nat} {news : List Value} {tx d : TypeId} {i : TypeInfo} (hu : u = .slice a l.length c) (hk : P.underlying tx = some (.slice d)) (hz : i.size = X.z e)
    (hl : LC X w N th e l news) (hnone : a = none → l = []) (hc : ∀ ad, a = some ad → ∀ j v, news[j]? = some v → w.cell? (ad.add j) = some v) : Src P i.size tx u l.length news w := by
  subst hu
  cases a with
  | none =>
    have := hnone rfl
    subst this
    have hn : news = [] := List.eq_nil_of_length_eq_zero (by rw [hl.len]; simp)
    subst hn
    exact Src.ofNil w hk c
  | some ad => exact Src.ofSlice w hk ad l.length c news (by rw [hl.len, hz]) (hc ad rfl) (hl.one law so)
theorem run_append_empty {t tx ty : TypeId} {i : TypeInfo} {u : Value} (ht : P.underlying t = some (.slice e)) (hi : P.info? e = some i) (hs : Src P i.size tx u 0 [] w) : (Builtin.append_ #[t, tx] ty #[.slice none 0 0, u]).run P w = .ok (.slice none 0 0) w := by
  have h1 := hs.len
  have h2 : (Builtin.firstCells i.size 0 u).run P w = .ok #[] w := hs.cells
  rcases hs.kind with ⟨e', hk'⟩ | hk' <;> simp [Builtin.append_, run_underlying ht, run_underlying hk', sizeOf, typeInfo, hi, h1, h2]
theorem Mem.append (m : Mem X w0 N0 B0 th h w) (law : Lawful X) (so : Sound X) {t tx ty d' : TypeId} {u : Value} {l l' : List (U e)} {a : Option Addr} {c : Nat} {news : List Value} (ht : P.underlying t = some (.slice e)) (hk : P.underlying tx = some (.slice d')) (hok : appOK P X e = true)
    (hu : u = .slice a l'.length c) (hl : LC X w (NN N0 th) th e l' news) (hnone : a = none → l' = []) (hc : ∀ ad, a = some ad → ∀ j v, news[j]? = some v → w.cell? (ad.add j) = some v) (hroom : room P e (l.length + l'.length) = true) :
    (∀ i, h.getD i .dead = AO.row e l → ∀ v, VRel X w (NN N0 th) th (.row i e) v → ∃ v' w' th', (Builtin.append_ #[t, tx] ty #[v, u]).run P w = .ok v' w' ∧ Mem X w0 N0 B0 th' ((h ++ [AO.row e (l ++ l')]).set i AO.dead) w' ∧ Carries X N0 w w' th th' ∧ VRel X w' (NN N0 th') th' (.row h.length e) v') ∧
    (l = [] → ∃ v' w' th', (Builtin.append_ #[t, tx] ty #[.slice none 0 0, u]).run P w = .ok v' w' ∧ Mem X w0 N0 B0 th' (h ++ [AO.row e l']) w' ∧ Carries X N0 w w' th th' ∧ VRel X w' (NN N0 th') th' (.row h.length e) v') := by
  obtain ⟨i, z, hi, hz, hsz, hz0, hb0, hzs, hby⟩ := appOK_spec hok
  have hsrc := src_of (P := P) law so hu hk hsz hl hnone hc
  have hroom' : (l.length + l'.length) * i.bytes ≤ 140737488355328 := by rw [← hby]; exact of_decide_eq_true hroom
  have hneed : l.length + l'.length ≤ (l.length + l'.length) * i.bytes := Nat.le_mul_of_pos_right _ hb0
  have hmax : l.length + l'.length ≤ maxLen := by simp only [maxLen]; omega
  have grown : ∀ (cap : Nat) (olds : List Value), LC X w (NN N0 th) th e l olds → cap < l.length + l'.length →
      Mem X w0 N0 B0 (thNew th h.length (.blk w.heap.size (grownCap w (l.length + l'.length) cap e, (l ++ l').length))) (h ++ [.row e (l ++ l')]) (w.drew.alloc (.cells ((olds ++ news).toArray ++ Builtin.zeroCells z.cells (grownCap w (l.length + l'.length) cap e - (l.length + l'.length))) e)) ∧
      Carries X N0 w (w.drew.alloc (.cells ((olds ++ news).toArray ++ Builtin.zeroCells z.cells (grownCap w (l.length + l'.length) cap e - (l.length + l'.length))) e)) th (thNew th h.length (.blk w.heap.size (grownCap w (l.length + l'.length) cap e, (l ++ l').length))) := by
    intro cap olds ho hlt
    have hge := grownCap_ge w (l.length + l'.length) cap e
    have hlc := (ho.append hl).mono (w' := w.drew) (N' := NN N0 th) (th' := th) (fun x v hv => carries_drew x v hv)
    have := m.drew.newRow (cap := grownCap w (l.length + l'.length) cap e) (cur := (olds ++ news).toArray ++ Builtin.zeroCells z.cells (grownCap w (l.length + l'.length) cap e - (l.length + l'.length))) (grownCap_le_maxLen w _ cap e hmax) (by simpa using hge) (by
      rw [Array.size_append, List.size_toArray, size_zeroCells, hzs, hlc.len, List.length_append, ← Nat.add_mul]
      congr 1; omega) hlc (by rw [Array.toList_append, ← hlc.len]; exact List.take_left)
    exact ⟨this.1, carries_drew.trans this.2⟩
  refine ⟨fun q ho v hv => ?_, fun hnil => ?_⟩
  · have hql := getD_alive ho (by simp)
    rcases m.row_at ho with ⟨g1, g2⟩ | ⟨b, cap, cur, g1, g2, g3, g4, g5, g6⟩
    · -- nil
      have ev : v = .slice none 0 0 := by
        cases hv with
        | row _ _ _ _ _ h' _ => rw [g1] at h'; cases h'
        | rowNil _ _ _ => rfl
        | rowDead _ _ _ _ h' => rw [g1] at h'; cases h'
      subst ev
      by_cases h0 : l'.length = 0
      · have e0 : l' = [] := List.eq_nil_of_length_eq_zero h0
        subst g2; subst e0
        obtain ⟨k1, k2⟩ := m.newNil e
        have k3 := k1.kill (i := q) (by simp; omega)
        refine ⟨.slice none 0 0, w, _, ?_, k3, k2.trans (carries_kill q), ?_⟩
        · have hn : news = [] := List.eq_nil_of_length_eq_zero (by rw [hl.len]; simp)
          subst hn
          exact run_append_empty ht hi hsrc
        · exact .rowNil _ _ (by rw [thNew_other _ _ (by omega)]; exact thNew_same _ _ _)
      · obtain ⟨k1, k2⟩ := grown 0 [] (by subst g2; exact LC.nil) (by subst g2; simp; omega)
        have k3 := k1.kill (i := q) (by simp; omega)
        have hr := run_append_grow_src (P := P) w t tx ty e i z ht hi hz none 0 0 [] (run_firstCells_none w.drew i.size 0 0 0) u l'.length news hsrc (by omega) (by subst g2; simp only [maxLen] at hmax; simp at hmax ⊢; omega) (by
          have := growslice_fits (need := 0 + l'.length) (old := 0) (bytes := i.bytes) (by omega) (by subst g2; simpa using hroom'); exact this)
        subst g2
        refine ⟨_, _, _, hr, ?_, k2.trans (carries_kill q), ?_⟩
        · simpa using k3
        · have := VRel.row (X := X) (w := w.drew.alloc (.cells (([] ++ news).toArray ++ Builtin.zeroCells z.cells (grownCap w (0 + l'.length) 0 e - (0 + l'.length))) e)) (N := NN N0 (thNew (thNew th h.length (.blk w.heap.size (grownCap w (0 + l'.length) 0 e, ([] ++ l').length))) q .dead)) (th := thNew (thNew th h.length (.blk w.heap.size (grownCap w (0 + l'.length) 0 e, ([] ++ l').length))) q .dead) h.length e w.heap.size (grownCap w (0 + l'.length) 0 e) ([] ++ l').length (by rw [thNew_other _ _ (by omega)]; exact thNew_same _ _ _) (by simpa using grownCap_ge w (0 + l'.length) 0 e)
          simpa using this
    · have ev : v = .slice (some ⟨b, 0, none⟩) l.length cap := by
        cases hv with
        | row _ _ b' cap' n' h' _ => rw [g1] at h'; injection h' with q1 q2; injection q2 with q3 q4; subst q1; subst q3; subst q4; rfl
        | rowNil _ _ h' => rw [g1] at h'; cases h'
        | rowDead _ _ _ _ h' => rw [g1] at h'; cases h'
      subst ev
      have holc := take_rel g4 g5 g6
      by_cases hfit : l.length + l'.length ≤ cap
      · -- room
        have hle : l.length * X.z e + news.length ≤ cur.size := by
          rw [hl.len, ← Nat.add_mul]; exact Nat.le_trans (Nat.mul_le_mul_right _ hfit) g4
        have hst := run_storeCells_at (P := P) b (l.length * X.z e) e news 0 cur w g2 (by simpa using hle) hsrc.one
        have hrun : (Builtin.append_ #[t, tx] ty #[.slice (some ⟨b, 0, none⟩) l.length cap, u]).run P w = .ok (.slice (some ⟨b, 0, none⟩) (l.length + l'.length) cap) (w.setRow b (overwrite cur (l.length * X.z e) news.toArray)) := by
          have e1 : ((cur.toList.take (l.length * X.z e + 0)) ++ news ++ cur.toList.drop (l.length * X.z e + 0 + news.length)).toArray = (overwrite cur (l.length * X.z e) news.toArray) := by simp [overwrite]
          rw [e1] at hst
          generalize w.setRow b (overwrite cur (l.length * X.z e) news.toArray) = W at hst ⊢
          rw [← hsz] at hst
          rcases hsrc.kind with ⟨e', hk'⟩ | hk' <;> simp [Builtin.append_, run_underlying ht, run_underlying hk', sizeOf, typeInfo, hi, hsrc.len, hfit, hsrc.cells, Addr.add_lit, hst]
        have := m.turn (w' := w.setRow b (overwrite cur (l.length * X.z e) news.toArray)) (c' := (cap, (l ++ l').length)) hql g1 (by simp) rfl rfl rfl (fun k hk => setRow_other w b k _ hk) (.row e (l ++ l')) (fun hcar => by
          refine .inr ⟨b, cap, _, by rw [thNew_other _ _ (by omega)]; exact thNew_same _ _ _, setRow_heap w b cur _ e _ g2, g3, ?_, by simpa using hfit, fun j hj k hk => ?_⟩
          · rw [overwrite_size (by simpa using hle)]; exact g4
          · have hlc := (holc.append hl).mono (w' := w.setRow b (overwrite cur (l.length * X.z e) news.toArray)) (fun x v hv => hcar x v hv)
            have := hlc.rel j hj k hk
            have hlt := mul_lt_cells hj hk (Nat.le_refl (l ++ l').length)
            have e2 : (cur.toList.take (l.length * X.z e) ++ news) = ((overwrite cur (l.length * X.z e) news.toArray)).toList.take ((l ++ l').length * X.z e) := by
              have e3 : (overwrite cur (l.length * X.z e) news.toArray).toList = (cur.toList.take (l.length * X.z e) ++ news) ++ cur.toList.drop (l.length * X.z e + news.length) := by simp [overwrite]
              rw [e3, ← hlc.len]; exact List.take_left.symm
            rw [e2, gd_take _ hlt] at this
            exact this)
        refine ⟨_, _, _, hrun, this.1, this.2, ?_⟩
        have := VRel.row (X := X) (w := w.setRow b (overwrite cur (l.length * X.z e) news.toArray)) (N := NN N0 (thNew (thNew th h.length (.blk b (cap, (l ++ l').length))) q .dead)) (th := thNew (thNew th h.length (.blk b (cap, (l ++ l').length))) q .dead) h.length e b cap (l ++ l').length (by rw [thNew_other _ _ (by omega)]; exact thNew_same _ _ _) (by simpa using hfit)
        simpa using this
      · obtain ⟨k1, k2⟩ := grown cap _ holc (by omega)
        have k3 := k1.kill (i := q) (by simp; omega)
        have hfc : (Builtin.firstCells i.size l.length (.slice (some ⟨b, 0, none⟩) l.length cap)).run P w.drew = .ok (cur.toList.take (l.length * X.z e)).toArray w.drew :=
          run_firstCells_some w.drew i.size l.length ⟨b, 0, none⟩ l.length cap _ (by rw [holc.len, hsz]) (fun j v hv' => by
            rw [List.getElem?_take] at hv'
            split at hv'
            · rw [Array.getElem?_toList] at hv'
              rw [Addr.add_lit]
              show w.cell? _ = some v
              simp [World.cell?, g2, hv']
            · cases hv')
        have hr := run_append_grow_src (P := P) w t tx ty e i z ht hi hz (some ⟨b, 0, none⟩) l.length cap _ hfc u l'.length news hsrc (by omega) (by simp only [maxLen] at hmax; omega) (growslice_fits (by omega) hroom')
        refine ⟨_, _, _, hr, k3, k2.trans (carries_kill q), ?_⟩
        have := VRel.row (X := X) (w := w.drew.alloc (.cells ((cur.toList.take (l.length * X.z e) ++ news).toArray ++ Builtin.zeroCells z.cells (grownCap w (l.length + l'.length) cap e - (l.length + l'.length))) e)) (N := NN N0 (thNew (thNew th h.length (.blk w.heap.size (grownCap w (l.length + l'.length) cap e, (l ++ l').length))) q .dead)) (th := thNew (thNew th h.length (.blk w.heap.size (grownCap w (l.length + l'.length) cap e, (l ++ l').length))) q .dead) h.length e w.heap.size (grownCap w (l.length + l'.length) cap e) (l ++ l').length (by rw [thNew_other _ _ (by omega)]; exact thNew_same _ _ _) (by simpa using grownCap_ge w (l.length + l'.length) cap e)
        simpa using this
  · subst hnil
    by_cases h0 : l'.length = 0
    · have e0 : l' = [] := List.eq_nil_of_length_eq_zero h0
      subst e0
      obtain ⟨k1, k2⟩ := m.newNil e
      refine ⟨.slice none 0 0, w, _, ?_, k1, k2, .rowNil _ _ (thNew_same _ _ _)⟩
      have hn : news = [] := List.eq_nil_of_length_eq_zero (by rw [hl.len]; simp)
      subst hn
      exact run_append_empty ht hi hsrc
    · obtain ⟨k1, k2⟩ := grown 0 [] LC.nil (by simp; omega)
      have hr := run_append_grow_src (P := P) w t tx ty e i z ht hi hz none 0 0 [] (run_firstCells_none w.drew i.size 0 0 0) u l'.length news hsrc (by omega) (by simp only [maxLen] at hmax; simp at hmax ⊢; omega) (by
          have := growslice_fits (need := 0 + l'.length) (old := 0) (bytes := i.bytes) (by omega) (by simpa using hroom'); exact this)
      refine ⟨_, _, _, hr, ?_, k2, ?_⟩
      · simpa using k1
      · have := VRel.row (X := X) (w := w.drew.alloc (.cells (([] ++ news).toArray ++ Builtin.zeroCells z.cells (grownCap w (0 + l'.length) 0 e - (0 + l'.length))) e)) (N := NN N0 (thNew th h.length (.blk w.heap.size (grownCap w (0 + l'.length) 0 e, ([] ++ l').length)))) (th := thNew th h.length (.blk w.heap.size (grownCap w (0 + l'.length) 0 e, ([] ++ l').length))) h.length e w.heap.size (grownCap w (0 + l'.length) 0 e) ([] ++ l').length (thNew_same _ _ _) (by simpa using grownCap_ge w (0 + l'.length) 0 e)
        simpa using this
end
end Go.Abs
namespace Go.Abs
open Go
variable {U : Nat → Type} {R : Type}
def nrm : Nat → AV U → AV U
  | _, .nils e => .imm e []
  | d + 1, .agg cs => .agg (cs.map (nrm d))
  | d + 1, .tup cs => .tup (cs.map (nrm d))
  | _, x => x
section
variable {X : Univ U} {w : World} {N : Nat → Prop} {th : Nat → Th}
theorem map_getD (f : AV U → AV U) (cs : List (AV U)) (j : Nat) (hj : j < cs.length) : (cs.map f).getD j .undef = f (cs.getD j .undef) := by
  simp [List.getD_eq_getElem?_getD, List.getElem?_eq_getElem hj]
theorem nrm_rel {x : AV U} {v : Value} (hx : VRel X w N th x v) : ∀ d, VRel X w N th (nrm d x) v := by
  induction hx with
  | nils e => intro d; cases d <;> exact .imm0 e none 0
  | agg cs vs hs h ih =>
    intro d
    cases d with
    | zero => exact .agg cs vs hs h
    | succ d => exact .agg _ vs (by simp [hs]) (fun j hj => by rw [map_getD _ _ _ (by simpa using hj)]; exact ih j (by simpa using hj) d)
  | tup cs vs hs h ih =>
    intro d
    cases d with
    | zero => exact .tup cs vs hs h
    | succ d => exact .tup _ vs (by simp [hs]) (fun j hj => by rw [map_getD _ _ _ (by simpa using hj)]; exact ih j (by simpa using hj) d)
  | undef v => intro d; cases d <;> exact .undef v
  | bool b => intro d; cases d <;> exact .bool b
  | int k n => intro d; cases d <;> exact .int k n
  | str s => intro d; cases d <;> exact .str s
  | val v ho => intro d; cases d <;> exact .val v ho
  | imm0 e a c => intro d; cases d <;> exact .imm0 e a c
  | imm e l b off c vs hlc hl hn hc hv _ => intro d; cases d <;> exact .imm e l b off c vs hlc hl hn hc hv
  | pimm e l j c b off vs hl hn hc hv _ => intro d; cases d <;> exact .pimm e l j c b off vs hl hn hc hv
  | row i e b cap n h hn => intro d; cases d <;> exact .row i e b cap n h hn
  | rowNil i e h => intro d; cases d <;> exact .rowNil i e h
  | rowDead i e v ho h => intro d; cases d <;> exact .rowDead i e v ho h
  | view i e off n b cap len c h hn hl h0 hc hcc => intro d; cases d <;> exact .view i e off n b cap len c h hn hl h0 hc hcc
  | view0 i e off a c hoff => intro d; cases d <;> exact .view0 i e off a c hoff
  | viewNil i e h => intro d; cases d <;> exact .viewNil i e h
  | viewDead i e off n v ho h => intro d; cases d <;> exact .viewDead i e off n v ho h
  | prow i e k c b cap h => intro d; cases d <;> exact .prow i e k c b cap h
  | prowDead i e k c v ho h => intro d; cases d <;> exact .prowDead i e k c v ho h
  | ptr i c b cap h => intro d; cases d <;> exact .ptr i c b cap h
  | ptrDead i c v ho h => intro d; cases d <;> exact .ptrDead i c v ho h
  | mp i b cap h => intro d; cases d <;> exact .mp i b cap h
  | mpDead i v ho h => intro d; cases d <;> exact .mpDead i v ho h
  | ifc t x v h _ => intro d; cases d <;> exact .ifc t x v h
  | fn f cs vs hs h _ => intro d; cases d <;> exact .fn f cs vs hs h
  | gl g => intro d; cases d <;> exact .gl g
theorem nrm_cells (v : AV U) : (cellsOf (nrm 8 v)).length = (cellsOf v).length ∧ ∃ d, ∀ k, k < (cellsOf v).length → (cellsOf (nrm 8 v)).getD k .undef = nrm d ((cellsOf v).getD k .undef) := by
  by_cases hv : ∃ cs, v = .agg cs
  · obtain ⟨cs, rfl⟩ := hv
    exact ⟨by simp [nrm, cellsOf], 7, fun k hk => map_getD _ _ _ hk⟩
  · have e1 : cellsOf v = [v] := by cases v <;> first | rfl | exact absurd ⟨_, rfl⟩ hv
    have e2 : cellsOf (nrm 8 v) = [nrm 8 v] := by cases v <;> first | rfl | exact absurd ⟨_, rfl⟩ hv
    rw [e1, e2]
    refine ⟨rfl, 8, fun k hk => ?_⟩
    have : k = 0 := by simpa using hk
    subst this; rfl
end
end Go.Abs
namespace Go.Abs
open Go
variable {U : Nat → Type} {R : Type}
def eqL (P : Program) (eq : TypeId → AV U → AV U → Option Bool) (xs ys : List (AV U)) : List Field → Option Bool
  | [] => some true
  | f :: fs =>
    if f.name ≠ "_" then
      if loadOK P f.type xs.length f.offset && loadOK P f.type ys.length f.offset then
        match eq f.type (loadC P f.type xs f.offset) (loadC P f.type ys f.offset), eqL P eq xs ys fs with
        | some a, some b => some (a && b)
        | _, _ => none
      else none
    else eqL P eq xs ys fs
def eqA (P : Program) : Nat → TypeId → AV U → AV U → Option Bool
  | 0, _, _, _ => none
  | d + 1, t, x, y =>
    match P.underlying t, x, y with
    | some .bool, .bool a, .bool b => some (a == b)
    | some (.int _), .int k a, .int k' b => if k = k' then some (a == b) else none
    | some .string, .str a, .str b => some (a.toList == b.toList)
    | some (.struct fs), .agg xs, .agg ys => if P.stoodInHeld t then none else eqL P (eqA P d) xs ys fs.toList
    | _, _, _ => none
def fillA (place : Nat → Option (Nat × Nat)) : List (AV U) → List (Nat × AV U) → Option (List (AV U))
  | cs, [] => some cs
  | cs, (i, v) :: r =>
    match place i with
    | none => none
    | some (off, size) => if (cellsOf v).length = size ∧ off + (cellsOf v).length ≤ cs.length ∧ (cellsOf v).all okCell = true then fillA place (setCs cs off (cellsOf v)) r else none
def placesOf (P : Program) (fs : List Field) : Option (List (Nat × Nat)) := fs.mapM (fun f => (P.info? f.type).map fun i => (f.offset, i.size))
def listA (X : Univ U) (e : Nat) : List (AV U) → Option (List (U e))
  | [] => some []
  | v :: r => match X.dec e v, listA X e r with | some y, some l => some (y :: l) | _, _ => none
def fieldT (fs : Array Field) (i : Nat) : TypeId := ((fs[i]?).map (·.type)).getD 0
section
variable (P : Program) (X : Univ U) (st : S U) (K : AV U → List (AO U) → Option R)
def stEqS (t : TypeId) (neg : Bool) (x y : AV U) : Option R :=
  if P.eqGuardType P.depth t || !isAggV x || !isAggV y then none else
  match eqA P 10000 t x y with
  | some b => K (.bool (if neg then !b else b)) st.h
  | none => none
def stBuild (t : TypeId) (parts : List (Nat × Operand)) : Option R :=
  match P.underlying t, (P.info? t).bind (·.zero) with
  | some (.struct fs), some v =>
    (match placesOf P fs.toList with
    | some pl => (match fillA (fun i => pl[i]?) (zeroCs P t) (parts.map fun p => (p.1, evT P st (fieldT fs p.1) p.2)) with | some cs => if v.cells.toList.all Value.oneCell' then K (.agg cs) st.h else none | none => none)
    | none => none)
  | _, _ => none
def stBuildSlice (t : TypeId) (len : Nat) (parts : List (Nat × Operand)) : Option R :=
  match P.underlying t with
  | some (.slice e) =>
    if (appOK P X e && decide (len * X.z e ≤ 16777216) && decide (0 < len) && decide (parts.map (·.1) = List.range len)) = true then
      (match listA X e (parts.map fun p => nrm 8 (evT P st e p.2)) with
      | some l => K (.row st.h.length e) (st.h ++ [AO.row e l])
      | none => none)
    else none
  | _ => none
def stMake (t : TypeId) (l c : Operand) : Option R :=
  match P.underlying t, ev st l, ev st c with
  | some (.slice e), .int _ n, .int _ m =>
    if appOK P X e then
      (match X.dec e (nrm 8 (zeroV P e)) with
      | some y => cond (decide (0 ≤ n)) (cond (decide (n ≤ m)) (cond (decide (m * (bytesT P e : Int) ≤ 140737488355328)) (K (.row st.h.length e) (st.h ++ [AO.row e (List.replicate n.toNat y)])) none) none) none
      | none => none)
    else none
  | _, _, _ => none
end
section
variable {P : Program} {X : Univ U} {w0 w w' : World} {N0 N : Nat → Prop} {B0 : Nat → Th} {th th' : Nat → Th} {h h' : List (AO U)} {e : Nat} {st : S U} {a : Act} {K : AV U → List (AO U) → Option R} {r : R} {dst : Option Tmp} {ty : TypeId} {pos : String} {after : Array Edge} {guard : Option (Nat × Bool)}
structure CRel (X : Univ U) (w : World) (N : Nat → Prop) (th : Nat → Th) (cs : List (AV U)) (vs : Array Value) : Prop where
  size : vs.size = cs.length
  rel : ∀ j, j < cs.length → VRel X w N th (cs.getD j .undef) (vs.getD j undef)
theorem fill_rel {place : Nat → Option (Nat × Nat)} : ∀ (parts : List (Nat × AV U)) (vparts : List (Nat × Value)) (cs cs' : List (AV U)) (cells : Array Value), fillA place cs parts = some cs' → CRel X w N th cs cells →
    vparts.length = parts.length → (∀ j, j < parts.length → (vparts.getD j (0, undef)).1 = (parts.getD j (0, .undef)).1 ∧ VRel X w N th (parts.getD j (0, .undef)).2 (vparts.getD j (0, undef)).2) →
    ∃ cells', Instr.fill place cells vparts = some cells' ∧ CRel X w N th cs' cells' ∧ ((∀ u ∈ cells.toList, u.oneCell' = true) → ∀ u ∈ cells'.toList, u.oneCell' = true) := by
  intro parts
  induction parts with
  | nil =>
    intro vparts cs cs' cells hf hc hl hp
    have : vparts = [] := List.eq_nil_of_length_eq_zero (by simpa using hl)
    subst this
    injection hf with hf; subst hf
    exact ⟨cells, rfl, hc, fun h => h⟩
  | cons p r ih =>
    intro vparts cs cs' cells hf hc hl hp
    cases vparts with
    | nil => simp at hl
    | cons q s =>
      obtain ⟨i, v⟩ := p
      obtain ⟨i', u⟩ := q
      have h0 := hp 0 (by simp)
      simp only [List.getD_cons_zero] at h0
      obtain ⟨rfl, hv⟩ := h0
      unfold fillA at hf
      cases hpl : place i' with
      | none => rw [hpl] at hf; cases hf
      | some os =>
        obtain ⟨off, size⟩ := os
        rw [hpl] at hf
        simp only at hf
        split at hf
        · rename_i hcond
          obtain ⟨c1, c2, c3⟩ := hcond
          obtain ⟨g1, g2, g3⟩ := cells_rel hv c3
          obtain ⟨k1, k2⟩ := Great.foldl_set off u.cells.toList 0 cells
          have k1' : (u.cells.zipIdx.foldl (fun cs (x : Value × Nat) => cs.setIfInBounds (off + x.2) x.1) cells).size = cells.size := by
            rw [← Array.foldl_toList, Array.toList_zipIdx]; exact k1
          have k2' : ∀ k, (u.cells.zipIdx.foldl (fun cs (x : Value × Nat) => cs.setIfInBounds (off + x.2) x.1) cells)[k]? = if off ≤ k ∧ k < off + u.cells.size ∧ k < cells.size then u.cells[k - off]? else cells[k]? := by
            intro k
            have := k2 k
            rw [← Array.foldl_toList, Array.toList_zipIdx]
            simpa using this
          generalize hC : (u.cells.zipIdx.foldl (fun cs (x : Value × Nat) => cs.setIfInBounds (off + x.2) x.1) cells) = C at k1' k2'
          have hcr : CRel X w N th (setCs cs off (cellsOf v)) C := by
            refine ⟨by rw [k1', setCs_length]; exact hc.size, fun j hj => ?_⟩
            rw [setCs_length] at hj
            rw [setCs_get _ _ _ _ c2, Array.getD_eq_getD_getElem?, k2' j]
            by_cases hin : off ≤ j ∧ j < off + (cellsOf v).length
            · rw [if_pos hin, if_pos ⟨hin.1, by omega, by rw [hc.size]; exact hj⟩, ← Array.getD_eq_getD_getElem?]
              exact g2 _ (by omega)
            · rw [if_neg hin, if_neg (by omega), ← Array.getD_eq_getD_getElem?]
              exact hc.rel j hj
          obtain ⟨cells', q1, q2, q3⟩ := ih s (setCs cs off (cellsOf v)) cs' C hf hcr (by simpa using hl) (fun j hj => by
            have := hp (j + 1) (by simpa using hj)
            simpa only [List.getD_cons_succ] using this)
          refine ⟨cells', ?_, q2, fun hone => q3 ?_⟩
          · unfold Instr.fill
            simp only [hpl]
            rw [if_neg (by simp; have := hc.size; omega), ← q1]
            congr 1
          · intro x hx
            obtain ⟨k, hk, rfl⟩ := List.mem_iff_getElem.1 hx
            have hk' : k < C.size := by simpa using hk
            have e1 := k2' k
            rw [Array.getElem?_eq_getElem hk'] at e1
            have e2 : C.toList[k] = C[k] := by simp
            rw [e2]
            split at e1
            · exact g3 _ (by
                obtain ⟨hlt, he⟩ := Array.getElem?_eq_some_iff.1 e1.symm
                rw [← he]; simp)
            · exact hone _ (by
                obtain ⟨hlt, he⟩ := Array.getElem?_eq_some_iff.1 e1.symm
                rw [← he]; simp)
        · cases hf
theorem loadC_part {cs : List (AV U)} {vs : Array Value} (hs : CRel X w N th cs vs) {t : TypeId} {c : Nat} (hok : loadOK P t cs.length c = true) :
    ∃ v, (part t vs c).run P w = .ok v w ∧ VRel X w N th (loadC P t cs c) v := by
  have hj := hs.rel
  have hs := hs.size
  unfold loadOK at hok
  cases hd : P.underlying t with
  | none => rw [hd] at hok; cases hok
  | some d =>
    rw [hd] at hok
    simp only at hok
    by_cases ha : aggD d = true
    · rw [if_pos ha, Bool.and_eq_true, decide_eq_true_eq] at hok
      obtain ⟨hi, hn⟩ := hok
      refine ⟨.agg (vs.extract c (c + sizeT P t)), ?_, ?_⟩
      · simp only [part, Sem.run_bind, run_isAgg hd, Result.andThen_ok, ha, if_true, run_sizeOf hi, Sem.run_pure]
      · unfold loadC
        rw [if_pos (by simp [aggT, hd, ha])]
        refine .agg _ _ (by simp; omega) fun j hjl => ?_
        have hj' : j < sizeT P t := by simp at hjl; omega
        have e1 : ((cs.drop c).take (sizeT P t)).getD j .undef = cs.getD (c + j) .undef := by
          simp only [List.getD_eq_getElem?_getD, List.getElem?_take, hj', if_true, List.getElem?_drop]
        have e2 : (vs.extract c (c + sizeT P t)).getD j undef = vs.getD (c + j) undef := by
          simp only [Array.getD_eq_getD_getElem?, Array.getElem?_extract]
          rw [if_pos (by omega)]
        rw [e1, e2]; exact hj _ (by omega)
    · rw [if_neg ha, decide_eq_true_eq] at hok
      have ha' : aggD d = false := by simpa using ha
      refine ⟨vs.getD c undef, ?_, ?_⟩
      · have : vs[c]? = some (vs.getD c undef) := by
          rw [Array.getD_eq_getD_getElem?, Array.getElem?_eq_getElem (by omega)]; rfl
        simp only [part, Sem.run_bind, run_isAgg hd, Result.andThen_ok, ha', Bool.false_eq_true, if_false, this, Sem.run_pure]
      · unfold loadC
        rw [if_neg (by simp [aggT, hd, ha])]; exact hj c hok
theorem eqL_ok {d : Nat} {eq : TypeId → AV U → AV U → Option Bool} (heq : ∀ t x y b u v, eq t x y = some b → VRel X w N th x u → VRel X w N th y v → (Op.equalIn d t u v).run P w = .ok b w)
    {xs ys : List (AV U)} {us vs : Array Value} (hx : CRel X w N th xs us) (hy : CRel X w N th ys vs) : ∀ (fs : List Field) (b : Bool), eqL P eq xs ys fs = some b → (Op.eqFields d us vs fs).run P w = .ok b w := by
  intro fs
  induction fs with
  | nil => intro b h; injection h with h; subst h; rfl
  | cons f fs ih =>
    intro b h
    unfold eqL at h
    by_cases hn : f.name ≠ "_"
    · rw [if_pos hn] at h
      split at h
      · rename_i hok
        rw [Bool.and_eq_true] at hok
        split at h
        · rename_i p q e1 e2
          injection h with h
          obtain ⟨u, a1, a2⟩ := loadC_part (P := P) hx hok.1
          obtain ⟨v, b1, b2⟩ := loadC_part (P := P) hy hok.2
          have hr := heq _ _ _ _ _ _ e1 a2 b2
          simp only [Op.eqFields, if_pos hn, Sem.run_bind, a1, Result.andThen_ok, b1, hr]
          cases p
          · simp [← h]
          · simp only [Bool.not_true, Bool.false_eq_true, if_false]
            rw [ih q e2, ← h]; simp
        · cases h
      · cases h
    · rw [if_neg hn] at h
      simp only [Op.eqFields, if_neg hn]
      exact ih b h
theorem eqA_ok : ∀ (d : Nat) (t : TypeId) (x y : AV U) (b : Bool) (u v : Value), eqA P d t x y = some b → VRel X w N th x u → VRel X w N th y v → (Op.equalIn d t u v).run P w = .ok b w := by
  intro d
  induction d with
  | zero => intro t x y b u v h; cases h
  | succ d ih =>
    intro t x y b u v h hx hy
    unfold eqA at h
    split at h
    · rename_i ht; cases hx; cases hy; injection h with h; subst h; exact run_equalIn_bool' w d t _ _ ht
    · rename_i ht
      split at h
      · rename_i hk; subst hk; cases hx; cases hy; injection h with h; subst h; exact run_equalIn_int w d t _ _ _ _ ht
      · cases h
    · rename_i ht; cases hx; cases hy; injection h with h; subst h; exact run_equalIn_string w d t _ _ ht
    · rename_i fs xs ys ht
      split at h
      · cases h
      · rename_i hp
        cases hx with
        | agg _ us h1 h2 =>
          cases hy with
          | agg _ vs h3 h4 =>
            have hfs : P.fieldsOf t = fs := by simp [Program.fieldsOf, ht]
            rw [run_equalIn_struct w d t us vs (by rw [hfs]; exact ht) (by simpa using hp), hfs]
            exact eqL_ok ih ⟨h1, h2⟩ ⟨h3, h4⟩ _ _ h
    · cases h
theorem agg_of {x : AV U} {u : Value} (hx : VRel X w N th x u) (hn : isAggV x = true) : ∃ us, u = .agg us := by
  cases x <;> simp [isAggV] at hn
  cases hx
  exact ⟨_, rfl⟩
theorem ok_eqS {t s : TypeId} {x y : Operand} {neg : Bool} (h : stEqS P st K t neg (ev st x) (ev st y) = some r) (rel : RelT X w0 N0 B0 th st a w) :
    Did P X w0 N0 B0 th a w ⟨dst, .binOp (if neg then .neq else .eql) t x y s, ty, pos, after, guard⟩ K r := by
  unfold stEqS at h
  split at h
  · cases h
  · rename_i hg
    split at h
    · rename_i b hb
      have hr := eqA_ok 10000 t _ _ b _ _ hb (rel.ev x) (rel.ev y)
      simp only [Bool.or_eq_true, Bool.not_eq_true', not_or, Bool.not_eq_false, Bool.not_eq_true] at hg
      obtain ⟨us, hu⟩ := agg_of (rel.ev x) hg.1.2
      obtain ⟨vs, hv⟩ := agg_of (rel.ev y) hg.2
      have hg := hg.1.1
      refine ok_still rel.mem h ?_ (.bool _)
      have hg' : ∀ op, (eqGuard op t x y (.agg us) (.agg vs)).run P w = .ok () w := by
        intro op
        cases op <;> simp [eqGuard, hg]
      rw [hu, hv] at hr
      have hr' : (Op.equal t (.agg us) (.agg vs)).run P w = .ok b w := hr
      cases neg
      · simp only [execOp, hu, hv, Sem.run_bind, hg', Result.andThen_ok, Bool.false_eq_true, if_false, binOp, hr', Sem.run_pure]
      · simp only [execOp, hu, hv, Sem.run_bind, hg', Result.andThen_ok, if_true, binOp, hr', Sem.run_pure]
    · cases h
theorem zeroCs_rel {t : TypeId} {v : Value} (hv : (P.info? t).bind (·.zero) = some v) : CRel X w N th (zeroCs P t : List (AV U)) v.cells := by
  have hlen : (zeroCs P t : List (AV U)).length = v.cells.size := by simp [zeroCs, hv]
  refine ⟨hlen.symm, fun j hj => ?_⟩
  rw [hlen] at hj
  have hz : ∀ e, VRel X w N th (zeroCell e (v.cells.getD j undef) : AV U) (v.cells.getD j undef) := by
    intro e
    unfold zeroCell
    split
    · rename_i hn; rw [hn]; exact .nils _
    · exact ofVal_rel X w _ th _
  have : (zeroCs P t : List (AV U)).getD j .undef = zeroCell ((cellE P 8 t ++ List.replicate v.cells.size 0).getD j 0) (v.cells.getD j undef) := by
    simp only [zeroCs, hv, List.getD_eq_getElem?_getD, List.getElem?_map]
    have hz1 : (v.cells.toList.zip (cellE P 8 t ++ List.replicate v.cells.size 0))[j]? = some (v.cells.getD j undef, (cellE P 8 t ++ List.replicate v.cells.size 0).getD j 0) := by
      rw [List.getElem?_zip_eq_some]
      constructor
      · rw [Array.getElem?_toList, Array.getD_eq_getD_getElem?, Array.getElem?_eq_getElem hj]; rfl
      · rw [List.getD_eq_getElem?_getD, List.getElem?_eq_getElem (by simp; omega)]; rfl
    rw [hz1]
    rw [List.getD_eq_getElem?_getD]; rfl
  rw [this]; exact hz _
theorem parts_rel (rel : RelT X w0 N0 B0 th st a w) (ft : Nat → TypeId) (parts : Array (Nat × Operand)) : ((parts.map fun (i, x) => (i, a.eval x)).toList).length = (parts.toList.map fun p => (p.1, evT P st (ft p.1) p.2)).length ∧
    ∀ j, j < (parts.toList.map fun p => (p.1, evT P st (ft p.1) p.2)).length → (((parts.map fun (i, x) => (i, a.eval x)).toList).getD j (0, undef)).1 = ((parts.toList.map fun p => (p.1, evT P st (ft p.1) p.2)).getD j (0, .undef)).1 ∧
      VRel X w (NN N0 th) th ((parts.toList.map fun p => (p.1, evT P st (ft p.1) p.2)).getD j (0, .undef)).2 (((parts.map fun (i, x) => (i, a.eval x)).toList).getD j (0, undef)).2 := by
  refine ⟨by simp, fun j hj => ?_⟩
  have hj' : j < parts.toList.length := by simpa using hj
  rw [Array.toList_map]
  simp only [List.getD_eq_getElem?_getD, List.getElem?_map, List.getElem?_eq_getElem hj', Option.map_some, Option.getD_some]
  exact ⟨trivial, evT_rel rel _ _⟩
theorem ok_build {t : TypeId} {parts : Array (Nat × Operand)} (h : stBuild P st K t parts.toList = some r) (rel : RelT X w0 N0 B0 th st a w) : Did P X w0 N0 B0 th a w ⟨dst, .build t parts, ty, pos, after, guard⟩ K r := by
  unfold stBuild at h
  split at h
  · rename_i fs v ht hv
    split at h
    · rename_i pl hpl
      split at h
      · rename_i cs hcs
        split at h
        · obtain ⟨p1, p2⟩ := parts_rel (P := P) rel (fun i => fieldT fs i) parts
          obtain ⟨cells, q1, q2, _⟩ := fill_rel _ _ _ _ _ hcs (zeroCs_rel (X := X) (w := w) (N := NN N0 th) (th := th) hv) p1 p2
          refine ok_still rel.mem h ?_ (.agg _ _ q2.size q2.rel)
          obtain ⟨it, hi1, hi2⟩ := Option.bind_eq_some_iff.1 hv
          have hbuilt : P.built t ((parts.map fun (i, x) => (i, a.eval x)).toList) = some cells := by
            unfold Program.built
            simp only [hi1, ht, hi2]
            unfold placesOf at hpl
            rw [hpl]
            simp only
            rw [← q1]
            congr 1
            funext i
            simp
          simp only [execOp, Sem.run_bind, run_build w t _ _ hbuilt, Result.andThen_ok, Sem.run_pure]
        · cases h
      · cases h
    · cases h
  · cases h
end
end Go.Abs
namespace Go.Abs
open Go
variable {U : Nat → Type} {R : Type}
section
variable {P : Program} {X : Univ U} {w0 w w' : World} {N0 N : Nat → Prop} {B0 : Nat → Th} {th th' : Nat → Th} {h h' : List (AO U)} {e : Nat} {st : S U} {a : Act} {K : AV U → List (AO U) → Option R} {r : R} {dst : Option Tmp} {ty : TypeId} {pos : String} {after : Array Edge} {guard : Option (Nat × Bool)}
theorem LC.single (law : Lawful X) (so : Sound X) {y : U e} {v : Value} (hv : VRel X w N th (X.enc e y) v) : v.cells.size = X.z e ∧ LC X w N th e [y] v.cells.toList := by
  obtain ⟨g1, g2, _⟩ := cells_rel hv (so e y)
  rw [law.size] at g1 g2
  refine ⟨g1, by simp [g1], fun j hj k hk => ?_⟩
  have : j = 0 := by simpa using hj
  subst this
  have := g2 k hk
  simpa [Array.getD_eq_getD_getElem?] using this
theorem listA_lc (law : Lawful X) (so : Sound X) : ∀ (xs : List (AV U)) (vs : List Value) (l : List (U e)), listA X e xs = some l → vs.length = xs.length → (∀ j, j < xs.length → VRel X w N th (xs.getD j .undef) (vs.getD j undef)) →
    l.length = xs.length ∧ (∀ v ∈ vs, v.cells.size = X.z e) ∧ LC X w N th e l (vs.flatMap fun v => v.cells.toList)
  | [], vs, l, h, hl, _ => by
    have : vs = [] := List.eq_nil_of_length_eq_zero (by simpa using hl)
    subst this
    injection h with h; subst h
    exact ⟨rfl, fun v hv => by simp at hv, LC.nil⟩
  | x :: xs, vs, l, h, hl, hr => by
    cases vs with
    | nil => simp at hl
    | cons v vs =>
      unfold listA at h
      split at h
      · rename_i y l' h1 h2
        injection h with h; subst h
        obtain ⟨a1, a2, a3⟩ := listA_lc law so xs vs l' h2 (by simpa using hl) (fun j hj => by
          have := hr (j + 1) (by simpa using hj)
          simpa only [List.getD_cons_succ] using this)
        have h0 := hr 0 (by simp)
        simp only [List.getD_cons_zero] at h0
        rw [← law.dec_enc e x y h1] at h0
        obtain ⟨b1, b2⟩ := LC.single law so h0
        refine ⟨by simp [a1], fun u hu => ?_, ?_⟩
        · rcases List.mem_cons.1 hu with rfl | hu
          · exact b1
          · exact a2 u hu
        · have := b2.append a3
          simpa using this
      · cases h
theorem zip_range {α β : Type} (f : α → β) : ∀ (l : List (Nat × α)) (s : Nat), l.map (·.1) = List.range' s l.length → l.map (fun p => (p.1, f p.2)) = ((l.map fun p => f p.2).zipIdx s).map fun x => (x.2, x.1)
  | [], _, _ => rfl
  | (i, x) :: l, s, h => by
    simp only [List.map_cons, List.length_cons, List.range'_succ, List.cons.injEq] at h
    simp only [List.map_cons, List.zipIdx_cons]
    rw [h.1, zip_range f l (s + 1) h.2]
theorem ok_buildSlice (law : Lawful X) (so : Sound X) {t : TypeId} {len : Nat} {parts : Array (Nat × Operand)} (h : stBuildSlice P X st K t len parts.toList = some r) (rel : RelT X w0 N0 B0 th st a w) : Did P X w0 N0 B0 th a w ⟨dst, .buildSlice t len parts, ty, pos, after, guard⟩ K r := by
  have m := rel.mem
  unfold stBuildSlice at h
  split at h
  · rename_i d ht
    split at h
    · rename_i hc
      simp only [Bool.and_eq_true, decide_eq_true_eq] at hc
      obtain ⟨⟨⟨c1, c2⟩, c3⟩, c4⟩ := hc
      obtain ⟨i, z, hi, hz, hsz, hz0, hb0, hzs, hby⟩ := appOK_spec c1
      split at h
      · rename_i l hl
        have hlen : parts.toList.length = len := by
          have := congrArg List.length c4
          simpa using this
        obtain ⟨g1, g2, g3⟩ := listA_lc law so (w := w) (N := NN N0 th) (th := th) _ (parts.toList.map fun p => a.eval p.2) l hl (by simp) (fun j hj => by
          have hj' : j < parts.toList.length := by simpa using hj
          simp only [List.getD_eq_getElem?_getD, List.getElem?_map, List.getElem?_eq_getElem hj', Option.map_some, Option.getD_some]
          exact nrm_rel (evT_rel rel _ _) 8)
        have hll : l.length = len := by rw [g1]; simpa using hlen
        have hparts : (parts.map fun (i, x) => (i, a.eval x)).toList = ((parts.toList.map fun p => a.eval p.2).zipIdx 0).map fun x => (x.2, x.1) := by
          rw [Array.toList_map]
          have := zip_range a.eval parts.toList 0 (by rw [c4, hlen, List.range_eq_range'])
          exact this
        have hfill := Great.fill_whole (s := i.size) (by omega) (parts.toList.map fun p => a.eval p.2) ((Array.range (len * i.size)).map (z.cells[· % z.cells.size]!)) (fun v hv => by rw [hsz]; exact g2 v hv) (by simp [← hlen])
        rw [← hparts] at hfill
        have hpos : ¬ len * i.size = 0 := by
          intro h0
          rcases Nat.mul_eq_zero.1 h0 with h0 | h0 <;> omega
        have hrun := run_buildSlice (P := P) w t d len _ _ i z ht hi hz (by rw [hsz]; omega) hpos hfill
        have hle : len ≤ maxLen := by
          have : len ≤ len * X.z d := Nat.le_mul_of_pos_right _ hz0
          simp only [maxLen]; omega
        obtain ⟨k1, k2⟩ := m.newRow (cap := len) (cur := ((parts.toList.map fun p => a.eval p.2).flatMap fun v => v.cells.toList).toArray) hle (by omega) (by rw [List.size_toArray, g3.len, hll]) g3 (by show List.take (l.length * X.z d) _ = _; rw [← g3.len]; exact List.take_length)
        refine ⟨_, _, h, ⟨.slice (some ⟨w.heap.size, 0, none⟩) len len, _, _, .inl ?_, k1, k2, ?_⟩⟩
        · simp only [execOp, Sem.run_bind, hrun, Result.andThen_ok, Sem.run_pure]
        · have := VRel.row (X := X) (w := w.alloc (.cells ((parts.toList.map fun p => a.eval p.2).flatMap fun v => v.cells.toList).toArray d)) (N := NN N0 (thNew th st.h.length (.blk w.heap.size (len, l.length)))) (th := thNew th st.h.length (.blk w.heap.size (len, l.length))) st.h.length d w.heap.size len l.length (thNew_same _ _ _) (by omega)
          rw [hll] at this ⊢
          exact this
      · cases h
    · cases h
  · cases h
theorem ofVal_notAgg (v : Value) (cs : List (AV U)) : (ofVal v : AV U) ≠ .agg cs := by
  unfold ofVal
  split <;> first | (intro h; cases h; done) | skip
  split <;> (intro h; cases h)
theorem zeroCell_notAgg (e : Nat) (v : Value) (cs : List (AV U)) : (zeroCell e v : AV U) ≠ .agg cs := by
  unfold zeroCell
  split
  · intro h; cases h
  · exact ofVal_notAgg v cs
theorem zero_cells {z : Value} (hz : (P.info? e).bind (·.zero) = some z) (hzs : z.cells.size = X.z e) (hsz : (cellsOf (zeroV P e : AV U)).length = X.z e) (hz0 : 0 < X.z e) :
    ∀ k, k < X.z e → VRel X w N th ((cellsOf (zeroV P e : AV U)).getD k .undef) (z.cells.getD k undef) := by
  intro k hk
  have hc := zeroCs_rel (P := P) (X := X) (w := w) (N := N) (th := th) hz
  unfold zeroV at hsz ⊢
  by_cases ha : aggT P e = true
  · rw [if_pos ha] at hsz ⊢
    exact hc.rel k (by have := hc.size; omega)
  · rw [if_neg ha] at hsz ⊢
    have hne : ∀ cs, (zeroCs P e : List (AV U)).getD 0 .undef ≠ .agg cs := by
      intro cs
      have hpos : 0 < (zeroCs P e : List (AV U)).length := by have := hc.size; omega
      simp only [zeroCs, hz]
      rw [List.getD_eq_getElem?_getD, List.getElem?_map]
      cases (z.cells.toList.zip (cellE P 8 e ++ List.replicate z.cells.size 0))[0]? with
      | none => intro h; cases h
      | some p => exact zeroCell_notAgg _ _ cs
    generalize hq : (zeroCs P e : List (AV U)).getD 0 .undef = q at hsz hne ⊢
    have hcq : cellsOf q = [q] := by cases q <;> first | rfl | exact absurd rfl (hne _)
    rw [hcq] at hsz ⊢
    simp at hsz
    have : k = 0 := by omega
    subst this
    have := hc.rel 0 (by have := hc.size; omega)
    rw [hq] at this
    simpa using this
theorem zero_rel (law : Lawful X) {z : Value} {y : U e} (hz : (P.info? e).bind (·.zero) = some z) (hzs : z.cells.size = X.z e) (hz0 : 0 < X.z e) (hy : X.dec e (nrm 8 (zeroV P e)) = some y) :
    ∀ k, k < X.z e → VRel X w N th ((cellsOf (X.enc e y)).getD k .undef) (z.cells.getD k undef) := by
  intro k hk
  have hsz := law.size e y
  rw [law.dec_enc e _ y hy] at hsz ⊢
  obtain ⟨h1, d, h2⟩ := nrm_cells (zeroV P e : AV U)
  rw [h2 k (by omega)]
  exact nrm_rel (zero_cells hz hzs (by omega) hz0 k hk) d
theorem getD_made {z : Array Value} {n j k : Nat} (hk : k < z.size) (hn : j * z.size + k < n) : (madeCells z n).getD (j * z.size + k) undef = z.getD k undef := by
  have hm : (j * z.size + k) % z.size = k := by rw [Nat.mul_comm, Nat.mul_add_mod, Nat.mod_eq_of_lt hk]
  rw [Array.getD_eq_getD_getElem?, Array.getElem?_eq_getElem (by rw [size_madeCells]; exact hn), Array.getD_eq_getD_getElem?, Array.getElem?_eq_getElem hk]
  simp only [madeCells, Array.getElem_map, Array.getElem_range, hm, Option.getD_some]
  exact getElem!_pos z k hk
theorem ok_make (law : Lawful X) {t : TypeId} {l c : Operand} (h : stMake P X st K t l c = some r) (rel : RelT X w0 N0 B0 th st a w) : Did P X w0 N0 B0 th a w ⟨dst, .makeSlice t l c, ty, pos, after, guard⟩ K r := by
  have m := rel.mem
  have hl := rel.ev l
  have hc := rel.ev c
  unfold stMake at h
  split at h
  · rename_i d kn n km q ht el ec; rw [el] at hl; rw [ec] at hc
    split at h
    · rename_i hok
      obtain ⟨i, z, hi, hz, hsz, hz0, hb0, hzs, hby⟩ := appOK_spec hok
      split at h
      · rename_i y hy
        obtain ⟨h0, h⟩ := cond_none h
        obtain ⟨h1, h⟩ := cond_none h
        obtain ⟨h2, h⟩ := cond_none h
        have h0 := of_decide_eq_true h0
        have h1 := of_decide_eq_true h1
        have h2 := of_decide_eq_true h2
        rw [hby] at h2
        generalize hu : a.eval l = u at hl
        generalize hv : a.eval c = v at hc
        cases hl; cases hc
        have hq : q ≤ q * (i.bytes : Int) := by
          have : (1 : Int) ≤ (i.bytes : Int) := by omega
          have h3 : 0 ≤ q := by omega
          calc q = q * 1 := by omega
            _ ≤ q * (i.bytes : Int) := Int.mul_le_mul_of_nonneg_left this h3
        have hrun := run_make (P := P) w t d i z ht hi hz kn km n q h0 h1 (by rw [Int.mul_comm]; omega) (by omega)
        have hlen : (List.replicate n.toNat y).length = n.toNat := by simp
        have hle : n.toNat * X.z d ≤ q.toNat * X.z d := Nat.mul_le_mul_right _ (by omega)
        have hlc : LC X w (NN N0 th) th d (List.replicate n.toNat y) ((madeCells z.cells (q.toNat * i.size)).toList.take (n.toNat * X.z d)) := by
          refine ⟨by rw [hlen, List.length_take, Array.length_toList, size_madeCells, hsz]; omega, fun j hj k hk => ?_⟩
          have hj' : j < n.toNat := by simpa using hj
          have hlt := mul_lt_cells hj' hk (Nat.le_refl n.toNat)
          have e1 : (List.replicate n.toNat y)[j] = y := by simp
          rw [e1, gd_take _ hlt]
          have hz' : (P.info? d).bind (·.zero) = some z := by simp [hi, hz]
          have := getD_made (z := z.cells) (n := q.toNat * i.size) (j := j) (k := k) (by omega) (by rw [hzs, hsz]; omega)
          rw [hzs] at this
          rw [this]
          exact zero_rel law hz' hzs hz0 hy k hk
        obtain ⟨k1, k2⟩ := m.newRow (cap := q.toNat) (cur := madeCells z.cells (q.toNat * i.size)) (by simp only [maxLen]; omega) (by rw [hlen]; omega) (by rw [size_madeCells, hsz]) hlc (by rw [hlen])
        refine ⟨_, _, h, ⟨.slice (some ⟨w.heap.size, 0, none⟩) n.toNat q.toNat, w.alloc (.cells (madeCells z.cells (q.toNat * i.size)) d), _, .inl ?_, k1, k2, ?_⟩⟩
        · simp only [execOp, hu, hv, Sem.run_bind, hrun, Result.andThen_ok, Sem.run_pure]
        · have := VRel.row (X := X) (w := w.alloc (.cells (madeCells z.cells (q.toNat * i.size)) d)) (N := NN N0 (thNew th st.h.length (.blk w.heap.size (q.toNat, (List.replicate n.toNat y).length)))) (th := thNew th st.h.length (.blk w.heap.size (q.toNat, (List.replicate n.toNat y).length))) st.h.length d w.heap.size q.toNat _ (thNew_same _ _ _) (by rw [hlen]; omega)
          rw [hlen] at this ⊢
          exact this
      · cases h
    · cases h
  · cases h
theorem exec_builtin {b : Builtin} {f : Array TypeId → TypeId → Array Value → Sem Value} (hb : ∀ ts ty cs vs, builtin b ts ty cs vs = (do pure (Next.value (← f ts ty vs)))) {c : Call} (hc : c.callee = .builtin b) {v : Value}
    (h : (f c.argTypes ty (c.args.toList.map a.eval).toArray).run P w = .ok v w') : (execOp a.eval (⟨dst, .call c, ty, pos, after, guard⟩ : Oper)).run P w = .ok (.value v) w' := by
  have e1 : c.args.map a.eval = (c.args.toList.map a.eval).toArray := by apply Array.ext'; rw [Array.toList_map]
  simp only [execOp, resolve, hc, pure_bind, invoke, hb, e1, Sem.run_bind, h, Result.andThen_ok, Sem.run_pure]
theorem append_core (law : Lawful X) (so : Sound X) {t tx ty : TypeId} {hp : List (AO U)} {s x : AV U} {vs vx : Value} (m : Mem X w0 N0 B0 th hp w) (hs : VRel X w (NN N0 th) th s vs) (hx : VRel X w (NN N0 th) th x vx) (h : stAppendA P X K hp t tx s x = some r) :
    ∃ v h', K v h' = some r ∧ ∃ u w' th', (Builtin.append_ #[t, tx] ty #[vs, vx]).run P w = .ok u w' ∧ Mem X w0 N0 B0 th' h' w' ∧ Carries X N0 w w' th th' ∧ VRel X w' (NN N0 th') th' v u := by
  unfold stAppendA at h
  split at h
  · rename_i d d' e l e' l' h1 h2 h3 h4
    split at h
    · rename_i hee; subst hee
      split at h
      · rename_i hok
        rw [Bool.and_eq_true, beq_iff_eq] at hok
        obtain ⟨hd, hok⟩ := hok
        subst hd
        obtain ⟨ad, cc, news, g1, g2, g3, g4⟩ := listOf_ok m hx h4
        unfold stAppendTo at h
        split at h
        · rename_i e2
          obtain ⟨hr, h⟩ := cond_none h
          injection h3 with h3; injection h3 with q1 q2
          subst q1; cases q2
          cases hs
          obtain ⟨_, hB⟩ := m.append (t := t) (tx := tx) (ty := ty) law so h1 h2 hok g1 g2 g3 g4 hr
          obtain ⟨v', w', th', r1, r2, r3, r4⟩ := hB rfl
          exact ⟨_, _, h, v', w', th', r1, r2, r3, r4⟩
        · rename_i i e2
          split at h
          · obtain ⟨hr, h⟩ := cond_none h
            unfold listOf at h3
            simp only at h3
            split at h3
            · rename_i e3 l3 ho
              split at h3
              · rename_i hee; subst hee
                injection h3 with h3; injection h3 with q1 q2
                subst q1; cases q2
                obtain ⟨hA, _⟩ := m.append (t := t) (tx := tx) (ty := ty) law so h1 h2 hok g1 g2 g3 g4 hr
                obtain ⟨v', w', th', r1, r2, r3, r4⟩ := hA i ho _ hs
                exact ⟨_, _, h, v', w', th', r1, r2, r3, r4⟩
              · cases h3
            · cases h3
          · cases h
        · cases h
      · cases h
    · cases h
  · cases h
theorem Mem.retake (m : Mem X w0 N0 B0 th h w) {i n : Nat} {l : List (U e)} {v : Value} (ho : h.getD i .dead = .row e l) (hv : VRel X w (NN N0 th) th (.view i e 0 n) v) :
    ∃ th', Mem X w0 N0 B0 th' (retakeH h i e n) w ∧ Carries X N0 w w th th' ∧ VRel X w (NN N0 th') th' (.row h.length e) v := by
  have hil := getD_alive ho (by simp)
  have eh : retakeH h i e n = (h ++ [AO.row e (l.take n)]).set i AO.dead := by unfold retakeH; rw [ho]; simp
  rw [eh]
  rcases m.row_at ho with ⟨g1, g2⟩ | ⟨b, cap, cur, g1, g2, g3, g4, g5, g6⟩
  · cases hv with
    | view _ _ _ _ _ _ _ _ h' _ _ _ _ _ => rw [g1] at h'; cases h'
    | view0 _ _ _ _ _ hoff => exact absurd rfl hoff
    | viewDead _ _ _ _ _ _ h' => rw [g1] at h'; cases h'
    | viewNil _ _ h' =>
      obtain ⟨k1, k2⟩ := m.newNil e
      have k3 := k1.kill (i := i) (by simp; omega)
      refine ⟨_, by rw [List.take_zero]; exact k3, k2.trans (carries_kill i), .rowNil _ _ (by rw [thNew_other _ _ (by omega)]; exact thNew_same _ _ _)⟩
  · cases hv with
    | viewNil _ _ h' => rw [g1] at h'; cases h'
    | view0 _ _ _ _ _ hoff => exact absurd rfl hoff
    | viewDead _ _ _ _ _ _ h' => rw [g1] at h'; cases h'
    | view _ _ _ _ b' cap' len' c' h' hn hl h0 hcn hcc =>
      rw [g1] at h'; injection h' with q1 q2; injection q2 with q3 q4; subst q1; subst q3; subst q4
      have hlen : (l.take n).length = n := by simp; omega
      obtain ⟨k1, k2⟩ := m.turn (w' := w) (c' := (c', (l.take n).length)) hil g1 rfl rfl rfl rfl (fun _ _ => rfl) (.row e (l.take n)) (fun hcar =>
        .inr ⟨b, c', cur, by rw [thNew_other _ _ (by omega)]; exact thNew_same _ _ _, g2, by omega, Nat.le_trans (Nat.mul_le_mul_right _ (by omega)) g4, by omega, fun j hj k hk => by
          have e1 : (l.take n)[j] = l[j]'(by omega) := by simp
          rw [e1]; exact hcar _ _ (g6 j (by omega) k hk)⟩)
      refine ⟨_, k1, k2, ?_⟩
      have := VRel.row (X := X) (w := w) (N := NN N0 (thNew (thNew th h.length (.blk b (c', (l.take n).length))) i .dead)) (th := thNew (thNew th h.length (.blk b (c', (l.take n).length))) i .dead) h.length e b c' n (by rw [thNew_other _ _ (by omega), thNew_same, hlen]) (by omega)
      simpa using this
theorem ok_append (law : Lawful X) (so : Sound X) {t tx : TypeId} {s x : Operand} {c : Call} (hcal : c.callee = .builtin .append) (hargs : c.args.toList = [s, x]) (htys : c.argTypes.toList = [t, tx]) (h : stAppend P X st K t tx s x = some r) (rel : RelT X w0 N0 B0 th st a w) :
    Did P X w0 N0 B0 th a w ⟨dst, .call c, ty, pos, after, guard⟩ K r := by
  have m := rel.mem
  have hs := evT_rel (P := P) rel t s
  have hx := evT_rel (P := P) rel tx x
  have et : c.argTypes = #[t, tx] := by rw [← Array.toArray_toList (xs := c.argTypes), htys]
  have run : ∀ v w', (Builtin.append_ #[t, tx] ty #[a.eval s, a.eval x]).run P w = .ok v w' → (execOp a.eval (⟨dst, .call c, ty, pos, after, guard⟩ : Oper)).run P w = .ok (.value v) w' := fun v w' hr =>
    exec_builtin (f := Builtin.append_) (fun _ _ _ _ => rfl) hcal (by rw [et, hargs]; exact hr)
  unfold stAppend at h
  split at h
  · rename_i i e n es
    rw [es] at hs
    have base : ∀ e' (l : List (U e')), st.h.getD i .dead = .row e' l → e' = e → Did P X w0 N0 B0 th a w ⟨dst, .call c, ty, pos, after, guard⟩ K r := fun e' l ho he => by
      subst he
      obtain ⟨th1, m1, c1, v1⟩ := m.retake ho hs
      obtain ⟨v, h', hk, u, w', th', r1, r2, r3, r4⟩ := append_core (ty := ty) law so m1 v1 (c1 _ _ hx) h
      exact ⟨v, h', hk, ⟨u, w', th', .inl (run _ _ r1), r2, c1.trans r3, r4⟩⟩
    cases ho : st.h.getD i .dead with
    | row e' l =>
      by_cases he : e' = e
      · exact base e' l ho he
      · exfalso
        have : retakeH st.h i e n = st.h := by unfold retakeH; rw [ho]; simp [he]
        rw [this] at h
        unfold stAppendA at h
        split at h
        · rename_i h3 _
          unfold listOf at h3
          simp only [List.getD_eq_getElem?_getD, List.getElem?_eq_none (Nat.le_refl st.h.length)] at h3
          cases h3
        · cases h
    | _ =>
      exfalso
      have : retakeH st.h i e n = st.h := by unfold retakeH; rw [ho]
      rw [this] at h
      unfold stAppendA at h
      split at h
      · rename_i h3 _
        unfold listOf at h3
        simp only [List.getD_eq_getElem?_getD, List.getElem?_eq_none (Nat.le_refl st.h.length)] at h3
        cases h3
      · cases h
  · obtain ⟨v, h', hk, u, w', th', r1, r2, r3, r4⟩ := append_core (ty := ty) law so m hs hx h
    exact ⟨v, h', hk, ⟨u, w', th', .inl (run _ _ r1), r2, r3, r4⟩⟩
end
end Go.Abs
namespace Go.Abs
open Go
variable {U : Nat → Type} {R : Type}
def withB (st : S U) (len : Nat) (lo hi : Option Operand) (K : Nat → Nat → Option R) : Option R :=
  match lo, hi with
  | none, none => K 0 len
  | none, some h => (match ev st h with | .int _ h => cond (decide (0 ≤ h)) (cond (decide (h ≤ (len : Int))) (K 0 h.toNat) none) none | _ => none)
  | some l, none => (match ev st l with | .int _ l => cond (decide (0 ≤ l)) (cond (decide (l ≤ (len : Int))) (K l.toNat len) none) none | _ => none)
  | some l, some h =>
    match ev st l, ev st h with
    | .int _ l, .int _ h => cond (decide (0 ≤ l)) (cond (decide (l ≤ h)) (cond (decide (h ≤ (len : Int))) (K l.toNat h.toNat) none) none) none
    | _, _ => none
def withB3 (st : S U) (len : Nat) (lo hi mx : Option Operand) (K : Nat → Nat → Option R) : Option R :=
  match mx with
  | none => withB st len lo hi K
  | some m =>
    match hi with
    | none => none
    | some h =>
      match ev st h, ev st m with
      | .int _ h, .int _ m =>
        (match lo with
        | none => cond (decide (0 ≤ h)) (cond (decide (h ≤ m)) (cond (decide (m ≤ (len : Int))) (K 0 h.toNat) none) none) none
        | some l => (match ev st l with | .int _ l => cond (decide (0 ≤ l)) (cond (decide (l ≤ h)) (cond (decide (h ≤ m)) (cond (decide (m ≤ (len : Int))) (K l.toNat h.toNat) none) none) none) none | _ => none))
      | _, _ => none
def cutL {e : Nat} (lo : Option Operand) (l : List (U e)) (a b : Nat) : List (U e) := match lo with | none => l.take b | some _ => (l.drop a).take (b - a)
def stSlice (P : Program) (X : Univ U) (st : S U) (K : AV U → List (AO U) → Option R) (t : TypeId) (x : Operand) (lo hi mx : Option Operand) : Option R :=
  match P.underlying t, ev st x with
  | some (.slice d), .imm e l => if (P.info? d).isSome && decide (sizeT P d = X.z e) then withB3 st l.length lo hi mx fun a b => K (.imm e (cutL lo l a b)) st.h else none
  | some (.slice d), .row i e =>
    (match st.h.getD i .dead with
    | .row e' l => if e' = e then (if (P.info? d).isSome && decide (sizeT P d = X.z e) then withB3 st l.length lo hi mx fun a b => K (.view i e a (b - a)) st.h else none) else none
    | _ => none)
  | some (.slice d), .view i e off n =>
    (match st.h.getD i .dead with
    | .row e' _ => if e' = e then (if (P.info? d).isSome && decide (sizeT P d = X.z e) then withB3 st n lo hi mx fun a b => K (.view i e (off + a) (b - a)) st.h else none) else none
    | _ => none)
  | some .string, .str s => (match mx with | none => withB st s.size lo hi fun a b => K (.str (s.extract a b)) st.h | some _ => none)
  | _, _ => none
section
variable {P : Program} {X : Univ U} {w0 w : World} {N0 : Nat → Prop} {B0 : Nat → Th} {th : Nat → Th} {st : S U} {a : Act} {K : AV U → List (AO U) → Option R} {r : R} {dst : Option Tmp} {ty : TypeId} {pos : String} {after : Array Edge} {guard : Option (Nat × Bool)}
theorem cutL_eq {e : Nat} {lo : Option Operand} {l : List (U e)} {x y : Nat} (h : lo = none → x = 0) : cutL lo l x y = (l.drop x).take (y - x) := by
  unfold cutL
  split
  · rw [h rfl]; simp
  · rfl
theorem withB_ok {len cap : Nat} {lo hi : Option Operand} {K : Nat → Nat → Option R} (h : withB st len lo hi K = some r) (rel : RelT X w0 N0 B0 th st a w) {t d : TypeId} (ht : P.underlying t = some (.slice d)) (hi' : (P.info? d).isSome = true) (hcap : len ≤ cap) (ad : Option Addr) :
    ∃ x y, K x y = some r ∧ x ≤ y ∧ y ≤ len ∧ (lo = none → x = 0) ∧ (Instr.sliceAt t (.slice ad len cap) (lo.map a.eval) (hi.map a.eval) none).run P w = .ok (sliced ad x y cap (sizeT P d)) w := by
  have he : P.elem t = d := by simp [Program.elem, ht]
  have ht' : P.underlying t = some (.slice (P.elem t)) := by rw [he]; exact ht
  unfold withB at h
  split at h
  · refine ⟨0, len, h, Nat.zero_le _, Nat.le_refl _, fun _ => rfl, ?_⟩
    rw [run_sliceAt_slice w t _ _ _ _ ht']
    simp only [Option.map_none]
    rw [run_slice_all w t ad len cap ht', he, run_sizeOf hi']; rfl
  · rename_i o
    split at h
    · rename_i k n eo
      obtain ⟨h0, h⟩ := cond_none h
      obtain ⟨h1, h⟩ := cond_none h
      have h0 := of_decide_eq_true h0
      have h1 := of_decide_eq_true h1
      have ho := rel.ev o
      rw [eo] at ho
      generalize hu : a.eval o = u at ho
      cases ho
      refine ⟨0, n.toNat, h, Nat.zero_le _, by omega, fun _ => rfl, ?_⟩
      rw [run_sliceAt_slice w t _ _ _ _ ht']
      simp only [Option.map_none, Option.map_some, hu]
      rw [run_slice_h w t ad len cap ht' k n h0 (by omega), he, run_sizeOf hi']; rfl
    · cases h
  · rename_i o
    split at h
    · rename_i k n eo
      obtain ⟨h0, h⟩ := cond_none h
      obtain ⟨h1, h⟩ := cond_none h
      have h0 := of_decide_eq_true h0
      have h1 := of_decide_eq_true h1
      have ho := rel.ev o
      rw [eo] at ho
      generalize hu : a.eval o = u at ho
      cases ho
      refine ⟨n.toNat, len, h, by omega, Nat.le_refl _, (fun h => by cases h), ?_⟩
      rw [run_sliceAt_slice w t _ _ _ _ ht']
      simp only [Option.map_none, Option.map_some, hu]
      rw [run_slice_l w t ad len cap ht' k n h0 (by omega), he, run_sizeOf hi']; rfl
    · cases h
  · rename_i o o'
    split at h
    · rename_i k n k' n' eo eo'
      obtain ⟨h0, h⟩ := cond_none h
      obtain ⟨h1, h⟩ := cond_none h
      obtain ⟨h2, h⟩ := cond_none h
      have h0 := of_decide_eq_true h0
      have h1 := of_decide_eq_true h1
      have h2 := of_decide_eq_true h2
      have ho := rel.ev o
      rw [eo] at ho
      have ho' := rel.ev o'
      rw [eo'] at ho'
      generalize hu : a.eval o = u at ho
      generalize hu' : a.eval o' = u' at ho'
      cases ho; cases ho'
      refine ⟨n.toNat, n'.toNat, h, by omega, by omega, (fun h => by cases h), ?_⟩
      rw [run_sliceAt_slice w t _ _ _ _ ht']
      simp only [Option.map_some, hu, hu']
      rw [run_slice_lh w t ad len cap ht' k k' n n' h0 h1 (by omega), he, run_sizeOf hi']; rfl
    · cases h
theorem withB3_ok {len cap : Nat} {lo hi mx : Option Operand} {K : Nat → Nat → Option R} (h : withB3 st len lo hi mx K = some r) (rel : RelT X w0 N0 B0 th st a w) {t d : TypeId} (ht : P.underlying t = some (.slice d)) (hi' : (P.info? d).isSome = true) (hcap : len ≤ cap) (ad : Option Addr) :
    ∃ x y c', K x y = some r ∧ x ≤ y ∧ y ≤ len ∧ (lo = none → x = 0) ∧ y ≤ c' ∧ c' ≤ cap ∧ (Instr.sliceAt t (.slice ad len cap) (lo.map a.eval) (hi.map a.eval) (mx.map a.eval)).run P w = .ok (sliced ad x y c' (sizeT P d)) w := by
  have he : P.elem t = d := by simp [Program.elem, ht]
  have ht' : P.underlying t = some (.slice (P.elem t)) := by rw [he]; exact ht
  unfold withB3 at h
  split at h
  · obtain ⟨x, y, h1, h2, h3, h4, h5⟩ := withB_ok (ad := ad) h rel ht hi' hcap
    exact ⟨x, y, cap, h1, h2, h3, h4, by omega, Nat.le_refl _, h5⟩
  · rename_i om
    split at h
    · cases h
    · rename_i oh
      split at h
      · rename_i kh hh km hm eh em
        have ho := rel.ev oh
        rw [eh] at ho
        generalize hu : a.eval oh = u at ho
        cases ho
        have ho := rel.ev om
        rw [em] at ho
        generalize hu2 : a.eval om = u at ho
        cases ho
        split at h
        · obtain ⟨h0, h⟩ := cond_none h
          obtain ⟨h1, h⟩ := cond_none h
          obtain ⟨h2, h⟩ := cond_none h
          have h0 := of_decide_eq_true h0
          have h1 := of_decide_eq_true h1
          have h2 := of_decide_eq_true h2
          refine ⟨0, hh.toNat, hm.toNat, h, Nat.zero_le _, by omega, fun _ => rfl, by omega, by omega, ?_⟩
          rw [run_sliceAt_slice w t _ _ _ _ ht']
          simp only [Option.map_none, Option.map_some, hu, hu2]
          rw [run_slice_hm w t ad len cap ht' kh km hh hm h0 h1 (by omega), he, run_sizeOf hi']; rfl
        · rename_i ol
          split at h
          · rename_i kl hl el
            have ho := rel.ev ol
            rw [el] at ho
            generalize hu3 : a.eval ol = u at ho
            cases ho
            obtain ⟨h0, h⟩ := cond_none h
            obtain ⟨h1, h⟩ := cond_none h
            obtain ⟨h2, h⟩ := cond_none h
            obtain ⟨h3, h⟩ := cond_none h
            have h0 := of_decide_eq_true h0
            have h1 := of_decide_eq_true h1
            have h2 := of_decide_eq_true h2
            have h3 := of_decide_eq_true h3
            refine ⟨hl.toNat, hh.toNat, hm.toNat, h, by omega, by omega, (fun h => by cases h), by omega, by omega, ?_⟩
            rw [run_sliceAt_slice w t _ _ _ _ ht']
            simp only [Option.map_some, hu, hu2, hu3]
            rw [run_slice_lhm w t ad len cap ht' kl kh km hl hh hm h0 h1 h2 (by omega), he, run_sizeOf hi']; rfl
          · cases h
      · cases h
theorem ok_slice {t : TypeId} {x : Operand} {lo hi mx : Option Operand} (h : stSlice P X st K t x lo hi mx = some r) (rel : RelT X w0 N0 B0 th st a w) : Did P X w0 N0 B0 th a w ⟨dst, .slice t x lo hi mx, ty, pos, after, guard⟩ K r := by
  have m := rel.mem
  have hx := rel.ev x
  unfold stSlice at h
  split at h
  · rename_i d e l ht ex; rw [ex] at hx
    split at h
    · rename_i hz
      rw [Bool.and_eq_true, decide_eq_true_eq] at hz
      generalize hu : a.eval x = u at hx
      cases hx with
      | imm0 _ ad c =>
        obtain ⟨p, q, c', hk, h1, h2, h3, h4, h5, hrun⟩ := withB3_ok (len := 0) (cap := c) h rel ht hz.1 (Nat.zero_le _) ad
        have hq : q = 0 := by omega
        have hp : p = 0 := by omega
        subst hq; subst hp
        refine ok_still m hk (by simp only [execOp, hu, Sem.run_bind, hrun]; rfl) ?_
        rw [cutL_eq h3]
        have : ((([] : List (U e)).drop 0).take (0 - 0)) = [] := by simp
        rw [this]
        exact .imm0 e _ _
      | imm _ _ b off c vs hlc hl hN hc hv =>
        obtain ⟨p, q, c', hk, h1, h2, h3, h4, h5, hrun⟩ := withB3_ok (len := l.length) (cap := c) h rel ht hz.1 hlc (some ⟨b, off, none⟩)
        refine ok_still m hk (by simp only [execOp, hu, Sem.run_bind, hrun]; rfl) ?_
        rw [cutL_eq h3]
        have hlen : ((l.drop p).take (q - p)).length = q - p := by simp; omega
        by_cases h0 : q - p = 0
        · have : (l.drop p).take (q - p) = [] := List.eq_nil_of_length_eq_zero (by rw [hlen, h0])
          rw [this]
          have e1 : sliced (some ⟨b, off, none⟩) p q c' (sizeT P d) = .slice (if c' = p then some ⟨b, off, none⟩ else (some (⟨b, off, none⟩ : Addr)).map (·.add (p * sizeT P d))) 0 (c' - p) := by simp only [sliced, h0]
          rw [e1]; exact .imm0 e _ _
        · have hne : ¬ c' = p := by omega
          have hzp : 0 < X.z e := by
            refine Nat.pos_of_ne_zero fun hz0 => ?_
            rw [hz0] at hl; simp at hl
          have hfit : p * X.z e + (q - p) * X.z e ≤ l.length * X.z e := by rw [← Nat.add_mul]; exact Nat.mul_le_mul_right _ (by omega)
          have e1 : sliced (some ⟨b, off, none⟩) p q c' (sizeT P d) = .slice (some ⟨b, off + p * X.z e, none⟩) (q - p) (c' - p) := by simp only [sliced, if_neg hne, Option.map_some, Addr.add_lit, hz.2]
          rw [e1]
          have := VRel.imm (X := X) (w := w) (N := NN N0 th) (th := th) e ((l.drop p).take (q - p)) b (off + p * X.z e) (c' - p) (fun k => vs (p * X.z e + k)) (by rw [hlen]; omega) (by rw [hlen]; exact Nat.mul_pos (by omega) hzp) hN (fun k hk => by
            rw [hlen] at hk
            rw [Nat.add_assoc]; exact hc _ (by omega)) (fun j hj k hk => by
            rw [hlen] at hj
            have e2 : ((l.drop p).take (q - p))[j]'(by rw [hlen]; exact hj) = l[p + j]'(by omega) := by simp
            rw [e2, ← Nat.add_assoc, ← Nat.add_mul]
            exact hv (p + j) (by omega) k hk)
          rw [hlen] at this
          exact this
    · cases h
  · rename_i d i e ht ex; rw [ex] at hx
    split at h
    · rename_i e' l ho
      split at h
      · rename_i hee; subst hee
        split at h
        · rename_i hz
          rw [Bool.and_eq_true, decide_eq_true_eq] at hz
          generalize hu : a.eval x = u at hx
          have hth : th i = .nil ∧ l = [] ∨ ∃ b cap, th i = .blk b (cap, l.length) ∧ l.length ≤ cap := by
            rcases m.row_at ho with g | ⟨b, cap, _, g, _, _, _, g5, _⟩
            · exact .inl g
            · exact .inr ⟨b, cap, g, g5⟩
          cases hx with
          | row _ _ b cap n h' hn =>
            rcases hth with ⟨g, _⟩ | ⟨b', cap', g, g5⟩
            · rw [g] at h'; cases h'
            · rw [g] at h'; injection h' with g1 g2; injection g2 with g3 g4; subst g1; subst g3; subst g4
              obtain ⟨p, q, c', hk, h1, h2, h3, h4, h5, hrun⟩ := withB3_ok (len := l.length) (cap := cap') h rel ht hz.1 g5 (some ⟨b', 0, none⟩)
              refine ok_still m hk (by simp only [execOp, hu, Sem.run_bind, hrun]; rfl) ?_
              by_cases h0 : q - p = 0
              · rw [h0]
                have e1 : sliced (some ⟨b', 0, none⟩) p q c' (sizeT P d) = .slice (if c' = p then some ⟨b', 0, none⟩ else (some (⟨b', 0, none⟩ : Addr)).map (·.add (p * sizeT P d))) 0 (c' - p) := by simp only [sliced, h0]
                by_cases hp0 : p = 0
                · subst hp0
                  by_cases hc0 : c' = 0
                  · rw [if_pos hc0] at e1
                    rw [e1]
                    have := VRel.view (X := X) (w := w) (N := NN N0 th) (th := th) i e' 0 0 b' cap' l.length (c' - 0) g (by omega) g5 (.inr rfl) (by omega) (by omega)
                    simpa using this
                  · rw [if_neg hc0] at e1
                    rw [e1]
                    have := VRel.view (X := X) (w := w) (N := NN N0 th) (th := th) i e' 0 0 b' cap' l.length (c' - 0) g (by omega) g5 (.inr rfl) (by omega) (by omega)
                    simpa [Addr.add_lit] using this
                · rw [e1]; exact .view0 i e' p _ _ hp0
              · have hne : ¬ c' = p := by omega
                have e1 : sliced (some ⟨b', 0, none⟩) p q c' (sizeT P d) = .slice (some ⟨b', p * X.z e', none⟩) (q - p) (c' - p) := by simp only [sliced, if_neg hne, Option.map_some, Addr.add_lit, hz.2, Nat.zero_add]
                rw [e1]
                exact .view i e' p (q - p) b' cap' l.length (c' - p) g (by omega) g5 (.inl (by omega)) (by omega) (by omega)
          | rowNil _ _ h' =>
            rcases hth with ⟨_, g⟩ | ⟨b', cap', g, _⟩
            · subst g
              obtain ⟨p, q, c', hk, h1, h2, h3, h4, h5, hrun⟩ := withB3_ok (len := 0) (cap := 0) h rel ht hz.1 (Nat.le_refl _) none
              have hq : q = 0 := by simpa using h2
              have hp : p = 0 := by omega
              subst hq; subst hp
              exact ok_still m hk (by simp only [execOp, hu, Sem.run_bind, hrun]; rfl) (by
                have hc' : c' = 0 := by omega
                subst hc'
                exact .viewNil i e' h')
            · rw [g] at h'; cases h'
          | rowDead _ _ _ _ h' =>
            rcases hth with ⟨g, _⟩ | ⟨b', cap', g, _⟩ <;> rw [g] at h' <;> cases h'
        · cases h
      · cases h
    · cases h
  · rename_i d i e off n ht ex; rw [ex] at hx
    split at h
    · rename_i e' l ho
      split at h
      · rename_i hee; subst hee
        split at h
        · rename_i hz
          rw [Bool.and_eq_true, decide_eq_true_eq] at hz
          generalize hu : a.eval x = u at hx
          cases hx with
          | view _ _ _ _ b cap len c h' hn hl hp hcn hcc =>
            obtain ⟨p, q, c', hk, h1, h2, h3, h4, h5, hrun⟩ := withB3_ok (len := n) (cap := c) h rel ht hz.1 hcn (some ⟨b, off * X.z e', none⟩)
            refine ok_still m hk (by simp only [execOp, hu, Sem.run_bind, hrun]; rfl) ?_
            by_cases h0 : q - p = 0
            · rw [h0]
              have e1 : sliced (some ⟨b, off * X.z e', none⟩) p q c' (sizeT P d) = .slice (if c' = p then some ⟨b, off * X.z e', none⟩ else (some (⟨b, off * X.z e', none⟩ : Addr)).map (·.add (p * sizeT P d))) 0 (c' - p) := by simp only [sliced, h0]
              by_cases hp0 : off + p = 0
              · have h1' : off = 0 := by omega
                have h2' : p = 0 := by omega
                subst h1'; subst h2'
                have := VRel.view (X := X) (w := w) (N := NN N0 th) (th := th) i e' 0 0 b cap len (c' - 0) h' (by omega) hl (.inr rfl) (by omega) (by omega)
                by_cases hc0 : c' = 0
                · rw [if_pos hc0] at e1
                  rw [e1]
                  simpa using this
                · rw [if_neg hc0] at e1
                  rw [e1]
                  simpa [Addr.add_lit] using this
              · rw [e1]; exact .view0 i e' (off + p) _ _ hp0
            · have hne : ¬ c' = p := by omega
              have e1 : sliced (some ⟨b, off * X.z e', none⟩) p q c' (sizeT P d) = .slice (some ⟨b, (off + p) * X.z e', none⟩) (q - p) (c' - p) := by simp only [sliced, if_neg hne, Option.map_some, Addr.add_lit, hz.2, Nat.add_mul]
              rw [e1]
              exact .view i e' (off + p) (q - p) b cap len (c' - p) h' (by omega) hl (.inl (by omega)) (by omega) (by omega)
          | view0 _ _ _ ad c hoff =>
            obtain ⟨p, q, c', hk, h1, h2, h3, h4, h5, hrun⟩ := withB3_ok (len := 0) (cap := c) h rel ht hz.1 (Nat.zero_le _) ad
            have hq : q = 0 := by omega
            have hp : p = 0 := by omega
            subst hq; subst hp
            exact ok_still m hk (by simp only [execOp, hu, Sem.run_bind, hrun]; rfl) (.view0 i e' (off + 0) _ _ hoff)
          | viewNil _ _ h' =>
            obtain ⟨p, q, c', hk, h1, h2, h3, h4, h5, hrun⟩ := withB3_ok (len := 0) (cap := 0) h rel ht hz.1 (Nat.zero_le _) none
            have hq : q = 0 := by omega
            have hp : p = 0 := by omega
            subst hq; subst hp
            have hc' : c' = 0 := by omega
            subst hc'
            exact ok_still m hk (by simp only [execOp, hu, Sem.run_bind, hrun]; rfl) (.viewNil i e' h')
          | viewDead _ _ _ _ _ _ h' =>
            exact absurd h' (fun hd => by rcases m.row_at ho with ⟨g, _⟩ | ⟨b, cap, _, g, _⟩ <;> rw [g] at hd <;> cases hd)
        · cases h
      · cases h
    · cases h
  · rename_i s ht ex; rw [ex] at hx
    split at h
    · generalize hu : a.eval x = u at hx
      cases hx
      have key : ∃ p q, K (.str (s.extract p q)) st.h = some r ∧ (Instr.sliceAt t (.string s) (lo.map a.eval) (hi.map a.eval) none).run P w = .ok (.string (s.extract p q)) w := by
        unfold withB at h
        split at h
        · refine ⟨0, s.size, h, ?_⟩
          rw [run_sliceAt_string w t _ _ _ _ ht]
          simp only [Option.map_none]
          rw [run_slice_string_all w t s ht]
        · rename_i o
          split at h
          · rename_i k n eo
            obtain ⟨h0, h⟩ := cond_none h
            obtain ⟨h1, h⟩ := cond_none h
            have h0 := of_decide_eq_true h0
            have h1 := of_decide_eq_true h1
            have ho := rel.ev o
            rw [eo] at ho
            generalize hu' : a.eval o = u at ho
            cases ho
            refine ⟨0, n.toNat, h, ?_⟩
            rw [run_sliceAt_string w t _ _ _ _ ht]
            simp only [Option.map_none, Option.map_some, hu']
            rw [run_slice_string_h w t s ht k n h0 (by omega)]
          · cases h
        · rename_i o
          split at h
          · rename_i k n eo
            obtain ⟨h0, h⟩ := cond_none h
            obtain ⟨h1, h⟩ := cond_none h
            have h0 := of_decide_eq_true h0
            have h1 := of_decide_eq_true h1
            have ho := rel.ev o
            rw [eo] at ho
            generalize hu' : a.eval o = u at ho
            cases ho
            refine ⟨n.toNat, s.size, h, ?_⟩
            rw [run_sliceAt_string w t _ _ _ _ ht]
            simp only [Option.map_none, Option.map_some, hu']
            rw [run_slice_string_l w t s ht k n h0 (by omega)]
          · cases h
        · rename_i o o'
          split at h
          · rename_i k n k' n' eo eo'
            obtain ⟨h0, h⟩ := cond_none h
            obtain ⟨h1, h⟩ := cond_none h
            obtain ⟨h2, h⟩ := cond_none h
            have h0 := of_decide_eq_true h0
            have h1 := of_decide_eq_true h1
            have h2 := of_decide_eq_true h2
            have ho := rel.ev o
            rw [eo] at ho
            have ho' := rel.ev o'
            rw [eo'] at ho'
            generalize hu : a.eval o = u at ho
            generalize hu' : a.eval o' = u' at ho'
            cases ho; cases ho'
            refine ⟨n.toNat, n'.toNat, h, ?_⟩
            rw [run_sliceAt_string w t _ _ _ _ ht]
            simp only [Option.map_some, hu, hu']
            have eh : (n'.toNat : Int) = n' := Int.toNat_of_nonneg (by omega)
            simp [Instr.slice, run_underlying ht, Instr.sliceBounds, run_sliceBound, *, (by omega : 0 ≤ n')]
          · cases h
      obtain ⟨p, q, hk, hrun⟩ := key
      exact ok_still m hk (by simp only [execOp, hu, Option.map_none, Sem.run_bind, hrun]; rfl) (.str _)
    · cases h
  · cases h
end
end Go.Abs
namespace Go.Abs
open Go Go.MapKept
variable {U : Nat → Type} {R : Type}
def ktOf (P : Program) (t : TypeId) : Option KT := match P.underlying t with | some .string => some .str | some (.int k) => some (.int k) | _ => none
def keyAV : (kt : KT) → AV U → Option (KTy kt)
  | .str, .str s => some s
  | .int k, .int k' n => if k = k' then some n else none
  | _, _ => none
def keq : (kt : KT) → KTy kt → KTy kt → Bool
  | .str, a, b => a == b
  | .int _, a, b => a == b
def mget {V : Type} (kt : KT) (k : KTy kt) : List (KTy kt × V) → Option V
  | [] => none
  | p :: r => if keq kt k p.1 then some p.2 else mget kt k r
def mput {V : Type} (kt : KT) (k : KTy kt) (v : V) : List (KTy kt × V) → List (KTy kt × V)
  | [] => [(k, v)]
  | p :: r => if keq kt k p.1 then (k, v) :: r else p :: mput kt k v r
def zVal : Value → AV U
  | .agg cs => .agg (cs.toList.map (zeroCell 0))
  | v => zeroCell 0 v
def eqz : Nat → AV U → AV U → Bool
  | _, .bool a, .bool b => a == b
  | _, .int k a, .int k' b => decide (k = k') && a == b
  | _, .str a, .str b => decide (a = b)
  | _, .nils _, .imm _ [] => true
  | d + 1, .agg a, .agg b => a.length == b.length && (a.zip b).all fun p => eqz d p.1 p.2
  | _, _, _ => false
def zeroIs (P : Program) (X : Univ U) (e : Nat) : Bool := match (P.info? e).bind (·.zero) with | some v => eqz 2 (zVal v) (X.enc e (X.dflt e)) | none => false
def stMakeMap (P : Program) (st : S U) (K : AV U → List (AO U) → Option R) (t : TypeId) (rs : Option Operand) : Option R :=
  match rs, P.underlying t with
  | none, some (.map k e) => (match ktOf P k with | some kt => K (.mp st.h.length) (st.h ++ [.mp kt e []]) | none => none)
  | _, _ => none
def stLookup (P : Program) (X : Univ U) (st : S U) (K : AV U → List (AO U) → Option R) (t : TypeId) (x ix : Operand) (ok : Bool) : Option R :=
  match P.underlying t, ev st x with
  | some (.map k e), .mp i =>
    (match st.h.getD i .dead with
    | .mp kt e' l =>
      if ktOf P k = some kt ∧ e' = e ∧ zeroIs P X e' = true then
        match keyAV kt (ev st ix) with
        | some key => K (cond ok (.tup [X.enc e' ((mget kt key l).getD (X.dflt e')), .bool (mget kt key l).isSome]) (X.enc e' ((mget kt key l).getD (X.dflt e')))) st.h
        | none => none
      else none
    | _ => none)
  | _, _ => none
def stMapUpdate (P : Program) (X : Univ U) (st : S U) (K : AV U → List (AO U) → Option R) (t : TypeId) (x ix y : Operand) : Option R :=
  match P.underlying t, ev st x with
  | some (.map k e), .mp i =>
    (match st.h.getD i .dead with
    | .mp kt e' l =>
      if ktOf P k = some kt ∧ e' = e then
        match keyAV kt (ev st ix), X.dec e' (evT P st e y) with
        | some key, some v => K .undef (st.h.set i (.mp kt e' (mput kt key v l)))
        | _, _ => none
      else none
    | _ => none)
  | _, _ => none
section
variable {P : Program} {X : Univ U} {w0 w : World} {N0 N : Nat → Prop} {B0 : Nat → Th} {th : Nat → Th} {st : S U} {a : Act} {K : AV U → List (AO U) → Option R} {r : R} {dst : Option Tmp} {ty : TypeId} {pos : String} {after : Array Edge} {guard : Option (Nat × Bool)} {h : List (AO U)}
theorem Mem.map_at (m : Mem X w0 N0 B0 th h w) {i e : Nat} {kt : KT} {l : List (KTy kt × U e)} (ho : h.getD i .dead = .mp kt e l) :
    ∃ b mes clock, th i = .blk b (0, 0) ∧ w.heap[b]? = some (.map mes clock) ∧ mes.size = l.length ∧
      ∀ j (_h : j < l.length), ∃ m, mes[j]? = some m ∧ m.key = kval kt l[j].1 ∧ VRel X w (NN N0 th) th (X.enc e l[j].2) m.val := by
  have := m.objs i (getD_alive ho (by simp))
  rw [ho] at this; exact this
def kdesc : KT → TypeDesc
  | .str => .string
  | .int k => .int k
theorem ktOf_desc {t : TypeId} {kt : KT} (hk : ktOf P t = some kt) : P.underlying t = some (kdesc kt) := by
  unfold ktOf at hk
  split at hk <;> first | (injection hk with hk; subst hk; assumption) | cases hk
theorem key_isKey (kt : KT) (k : KTy kt) : IsKey (kdesc kt) (kval kt k) := by
  cases kt <;> simp [kdesc, kval, IsKey]
theorem same_kval (kt : KT) (a b : KTy kt) : Instr.sameNow (kdesc kt) (kval kt a) (kval kt b) = some (keq kt a b) := by
  cases kt <;> simp [kdesc, kval, Instr.sameNow, keq]
def mfind {V : Type} (kt : KT) (k : KTy kt) : List (KTy kt × V) → Nat → Option (Nat × V)
  | [], _ => none
  | p :: r, i => if keq kt k p.1 then some (i, p.2) else mfind kt k r (i + 1)
theorem mfind_get {V : Type} (kt : KT) (k : KTy kt) : ∀ (l : List (KTy kt × V)) (i : Nat), mget kt k l = (mfind kt k l i).map (·.2)
  | [], _ => rfl
  | p :: r, i => by
    unfold mget mfind
    split
    · rfl
    · exact mfind_get kt k r (i + 1)
theorem mfind_put {V : Type} (kt : KT) (k : KTy kt) (v : V) : ∀ (l : List (KTy kt × V)) (i : Nat), mput kt k v l = match mfind kt k l i with | some (j, _) => l.set (j - i) (k, v) | none => l ++ [(k, v)]
  | [], _ => rfl
  | p :: r, i => by
    unfold mput mfind
    split
    · simp
    · rw [mfind_put kt k v r (i + 1)]
      cases hm : mfind kt k r (i + 1) with
      | none => rfl
      | some q =>
        obtain ⟨j, y⟩ := q
        have : i + 1 ≤ j := by
          clear v
          revert hm
          generalize hs : i + 1 = s
          clear hs
          induction r generalizing s with
          | nil => intro h; cases h
          | cons p r ih =>
            unfold mfind
            split
            · intro h; injection h with h; injection h with h1 h2; omega
            · intro h; have := ih (s + 1) h; omega
        simp only
        rw [show j - i = (j - (i + 1)) + 1 by omega]; rfl
theorem mfind_some {V : Type} (kt : KT) (k : KTy kt) : ∀ (l : List (KTy kt × V)) (i j : Nat) (v : V), mfind kt k l i = some (j, v) → i ≤ j ∧ ∃ h : j - i < l.length, keq kt k (l[j - i]).1 = true ∧ (l[j - i]).2 = v
  | [], _, _, _, h => by cases h
  | p :: r, i, j, v, h => by
    unfold mfind at h
    split at h
    · rename_i hk
      injection h with h; injection h with h1 h2; subst h1
      exact ⟨Nat.le_refl _, by simp, by simpa using hk, by simpa using h2⟩
    · obtain ⟨h1, h2, h3, h4⟩ := mfind_some kt k r (i + 1) j v h
      have e : j - i = (j - (i + 1)) + 1 := by omega
      refine ⟨by omega, by simp; omega, ?_, ?_⟩
      · simp only [e, List.getElem_cons_succ]; exact h3
      · simp only [e, List.getElem_cons_succ]; exact h4
theorem findNow_eq {V : Type} (kt : KT) (k : KTy kt) : ∀ (l : List (KTy kt × V)) (es : List MapEntry) (i : Nat), es.length = l.length → (∀ j (_ : j < l.length), ∃ m, es[j]? = some m ∧ m.key = kval kt l[j].1) →
    Instr.findNow (kdesc kt) (kval kt k) es i = some ((mfind kt k l i).map fun p => (p.1, ((es[p.1 - i]?).map (·.val)).getD undef))
  | [], es, i, hl, _ => by
    have : es = [] := List.eq_nil_of_length_eq_zero (by simpa using hl)
    subst this; rfl
  | p :: r, [], i, hl, _ => by simp at hl
  | p :: r, e :: es, i, hl, hj => by
    obtain ⟨m, h1, h2⟩ := hj 0 (by simp)
    have : e = m := by simpa using h1
    subst this
    have h2' : e.key = kval kt p.1 := by simpa using h2
    have ih := findNow_eq kt k r es (i + 1) (by simpa using hl) (fun j hj' => by
      obtain ⟨m, g1, g2⟩ := hj (j + 1) (by simp; omega)
      exact ⟨m, by simpa using g1, by simpa using g2⟩)
    unfold Instr.findNow mfind
    rw [h2', same_kval]
    cases hk : keq kt k p.1 with
    | true => simp
    | false =>
      simp only [Bool.false_eq_true, if_false]
      rw [ih]
      congr 1
      cases hm : mfind kt k r (i + 1) with
      | none => rfl
      | some q =>
        obtain ⟨j, y⟩ := q
        have := (mfind_some kt k r (i + 1) j y hm).1
        simp only [Option.map_some]
        rw [show j - i = (j - (i + 1)) + 1 by omega, List.getElem?_cons_succ]
theorem keyAV_rel {kt : KT} {x : AV U} {v : Value} {k : KTy kt} (h : keyAV kt x = some k) (hx : VRel X w N th x v) : v = kval kt k := by
  cases kt with
  | str =>
    cases x <;> simp [keyAV] at h
    subst h; cases hx; rfl
  | int k0 =>
    cases x <;> simp [keyAV] at h
    obtain ⟨h1, h2⟩ := h
    subst h1; subst h2; cases hx; rfl
theorem zeroCell_rel (e : Nat) (v : Value) : VRel X w N th (zeroCell e v : AV U) v := by
  unfold zeroCell
  split
  · exact .nils _
  · exact ofVal_rel X w _ th _
theorem zVal_rel (v : Value) : VRel X w N th (zVal v : AV U) v := by
  unfold zVal
  split
  · rename_i cs
    refine .agg _ _ (by simp) fun j hj => ?_
    have hj' : j < cs.size := by simpa using hj
    have : (cs.toList.map (zeroCell 0)).getD j .undef = (zeroCell 0 (cs.getD j undef) : AV U) := by
      rw [List.getD_eq_getElem?_getD, List.getElem?_map, Array.getElem?_toList, Array.getD_eq_getD_getElem?, Array.getElem?_eq_getElem hj']; rfl
    rw [this]; exact zeroCell_rel _ _
  · exact zeroCell_rel _ _
theorem eqz_rel : ∀ (d : Nat) {x y : AV U} {v : Value}, eqz d x y = true → VRel X w N th x v → VRel X w N th y v
  | d, x, y, v, he, hx => by
    unfold eqz at he
    split at he
    · have := (beq_iff_eq.1 he); subst this; exact hx
    · simp only [Bool.and_eq_true, decide_eq_true_eq, beq_iff_eq] at he
      obtain ⟨h1, h2⟩ := he; subst h1; subst h2; exact hx
    · have := of_decide_eq_true he; subst this; exact hx
    · cases hx; exact .imm0 _ _ _
    · rename_i d cs ds
      simp only [Bool.and_eq_true, beq_iff_eq] at he
      obtain ⟨h1, h2⟩ := he
      cases hx with
      | agg _ vs hs hj =>
        refine .agg _ vs (by omega) fun j hj' => ?_
        have hj1 : j < cs.length := by omega
        refine eqz_rel d (x := cs.getD j .undef) ?_ (hj j hj1)
        have := List.all_eq_true.1 h2 (cs[j], ds[j]) (List.mem_iff_getElem.2 ⟨j, by simp; omega, by simp⟩)
        simpa [List.getD_eq_getElem?_getD, hj1, hj'] using this
    · cases he
theorem zeroIs_rel {e : Nat} (h : zeroIs P X e = true) : ∃ z, (zeroValue e).run P w = .ok z w ∧ VRel X w N th (X.enc e (X.dflt e)) z := by
  unfold zeroIs at h
  split at h
  · rename_i v hv
    obtain ⟨i, hi1, hi2⟩ := Option.bind_eq_some_iff.1 hv
    refine ⟨v, ?_, eqz_rel 2 h (zVal_rel v)⟩
    simp only [zeroValue, typeInfo, Sem.run_bind, run_program, Result.andThen_ok, hi1, hi2, Sem.run_pure]
  · cases h
theorem ok_makeMap {t : TypeId} {rs : Option Operand} (h : stMakeMap P st K t rs = some r) (rel : RelT X w0 N0 B0 th st a w) : Did P X w0 N0 B0 th a w ⟨dst, .makeMap t rs, ty, pos, after, guard⟩ K r := by
  have m := rel.mem
  unfold stMakeMap at h
  split at h
  · rename_i k e hu
    split at h
    · rename_i kt hk
      have h1 := m.new (.map #[] 0) (0, 0) (.mp kt e []) ⟨w.heap.size, #[], 0, thNew_same _ _ _, heap_alloc_at w _, rfl, fun j hj => by simp at hj⟩
      refine ⟨_, _, h, ⟨.map (some w.heap.size), _, _, .inl ?_, h1, m.carries_new _ _, .mp _ _ _ (thNew_same _ _ _)⟩⟩
      simp only [execOp, Instr.makeMap, Option.map_none, Sem.run_bind, Sem.run_pure, run_newObj_alloc, Result.andThen_ok]
    · cases h
  · cases h
theorem ok_lookup {t : TypeId} {x ix : Operand} {ok : Bool} (h : stLookup P X st K t x ix ok = some r) (rel : RelT X w0 N0 B0 th st a w) : Did P X w0 N0 B0 th a w ⟨dst, .lookup t x ix ok, ty, pos, after, guard⟩ K r := by
  have m := rel.mem
  have hx := rel.ev x
  have hi := rel.ev ix
  unfold stLookup at h
  split at h
  · rename_i k e i hu ex
    rw [ex] at hx
    split at h
    · rename_i kt e' l ho
      split at h
      · rename_i hc
        obtain ⟨hk, rfl, hz⟩ := hc
        split at h
        · rename_i key hkey
          have ek := keyAV_rel hkey hi
          obtain ⟨b, mes, clock, g1, g2, g3, g4⟩ := m.map_at ho
          generalize hux : a.eval x = u at hx
          cases hx with
          | mpDead _ _ _ h' => rw [g1] at h'; cases h'
          | mp _ b' cap h' =>
            rw [g1] at h'; injection h' with e1 e2; subst e1
            have hd := ktOf_desc hk
            have hf := findNow_eq kt key l mes.toList 0 (by simpa using g3) (fun j hj => by
              obtain ⟨m, m1, m2, _⟩ := g4 j hj
              exact ⟨m, by simpa using m1, m2⟩)
            obtain ⟨zv, hz1, hz2⟩ := zeroIs_rel (w := w) (N := NN N0 th) (th := th) hz
            have hck := run_checkKey (P := P) (w := w) hd (key_isKey kt key) mes.isEmpty 9999
            have hfk := run_findKey (w := w) hd hf
            have main : ∃ v, (do let (v, ok') ← (match ((mfind kt key l 0).map fun p => (p.1, ((mes.toList[p.1 - 0]?).map (·.val)).getD undef)) with
                | some (_, v) => pure (v, true)
                | none => do pure (← zeroValue e', false) : Sem (Value × Bool)); pure (if ok then Value.tuple #[v, .bool ok'] else v) : Sem Value).run P w = .ok v w ∧
                VRel X w (NN N0 th) th (cond ok (.tup [X.enc e' ((mget kt key l).getD (X.dflt e')), .bool (mget kt key l).isSome]) (X.enc e' ((mget kt key l).getD (X.dflt e')))) v := by
              have hg := mfind_get kt key l 0
              cases hm : mfind kt key l 0 with
              | none =>
                rw [hm] at hg
                simp only [Option.map_none] at hg ⊢
                rw [hg]
                refine ⟨if ok then .tuple #[zv, .bool false] else zv, ?_, ?_⟩
                · simp only [Sem.run_bind, hz1, Result.andThen_ok, Sem.run_pure]
                · cases ok with
                  | true =>
                    refine .tup _ _ rfl fun j hj => ?_
                    have : j = 0 ∨ j = 1 := by simp at hj; omega
                    rcases this with rfl | rfl
                    · exact hz2
                    · exact .bool _
                  | false => exact hz2
              | some q =>
                obtain ⟨j, y⟩ := q
                rw [hm] at hg
                obtain ⟨_, hj, _, hy⟩ := mfind_some kt key l 0 j y hm
                simp only [Nat.sub_zero] at hj hy
                obtain ⟨me, m1, m2, m3⟩ := g4 j hj
                simp only [Option.map_some, Nat.sub_zero] at hg ⊢
                rw [hg]
                have e1 : ((mes.toList[j]?).map (·.val)).getD undef = me.val := by simp [m1]
                rw [e1]
                rw [hy] at m3
                refine ⟨if ok then .tuple #[me.val, .bool true] else me.val, ?_, ?_⟩
                · simp only [Sem.run_bind, Result.andThen_ok, Sem.run_pure]
                · cases ok with
                  | true =>
                    refine .tup _ _ rfl fun j hj => ?_
                    have : j = 0 ∨ j = 1 := by simp at hj; omega
                    rcases this with rfl | rfl
                    · exact m3
                    · exact .bool _
                  | false => exact m3
            obtain ⟨v, hv1, hv2⟩ := main
            refine ok_still m h ?_ hv2
            have hgo := MapKept.run_getObj_map (P := P) g2
            have hrun : (Instr.lookup t (.map (some b)) (kval kt key) ok).run P w = .ok v w := by
              rw [← hv1]
              simp only [Instr.lookup, Sem.run_bind, run_underlying hu, Result.andThen_ok, hgo, Sem.run_pure, hck, hfk]
              cases mfind kt key l 0 with
              | none => simp only [Option.map_none, Sem.run_bind, Result.andThen_ok, Sem.run_pure, hz1]
              | some q => simp only [Option.map_some, Sem.run_bind, Result.andThen_ok, Sem.run_pure]
            simp only [execOp, hux, ek, Sem.run_bind, hrun, Result.andThen_ok, Sem.run_pure]
        · cases h
      · cases h
    · cases h
  · cases h
theorem Mem.setMap (m : Mem X w0 N0 B0 th h w) {i b : Nat} {cap : Nat × Nat} {o : Obj} (hil : i < h.length) (hi : th i = .blk b cap) (x : AO U)
    (hx : ORel X { w with heap := w.heap.setIfInBounds b o } (NN N0 th) th i x) :
    Mem X w0 N0 B0 th (h.set i x) { w with heap := w.heap.setIfInBounds b o } ∧ Carries X N0 w { w with heap := w.heap.setIfInBounds b o } th th := by
  have hne : ∀ k, k ≠ b → (w.heap.setIfInBounds b o)[k]? = w.heap[k]? := fun k hk => by simp [Ne.symm hk]
  have hc : Carries X N0 w { w with heap := w.heap.setIfInBounds b o } th th := carries2 (by simp) (fun k _ hk => hne k fun e => hk ⟨i, cap, e ▸ hi⟩) (fun _ => .inr (.inl rfl)) (fun _ h => .inl h)
  refine ⟨m.step (by simp) rfl rfl rfl (fun k _ hk => hne k fun e => hk ⟨i, cap, e ▸ hi⟩) (fun _ => .inr (.inl rfl)) (fun i b c h => .inl h) (fun j hj => ?_) (fun j hj => m.out j (by simpa using hj)) m.inj, hc⟩
  by_cases e : j = i
  · subst e; rw [getD_set_same h j x hil]; exact hx
  · rw [getD_set_other h i j x e]
    exact (m.objs j (by simpa using hj)).mono rfl (fun b' c' hb' => hne b' fun e' => e (m.inj j i b c' cap (e' ▸ hb') hi)) hc
theorem sameBits_key (kt : KT) (x y : KTy kt) (h : keq kt x y = true) : Instr.sameBits 10000 (kval kt y) (kval kt x) = true := by
  cases kt with
  | str =>
    have h' : ((x : ByteArray) == y) = true := h
    show ((y : ByteArray) == x) = true
    have hb : ∀ a b : ByteArray, (a == b) = (a.data == b.data) := fun a b => rfl
    rw [hb] at h' ⊢
    rw [beq_iff_eq] at h' ⊢
    exact h'.symm
  | int k =>
    have h' : x = y := by simpa [keq] using h
    subst h'
    simp [kval, Instr.sameBits]
theorem ok_mapUpdate (law : Lawful X) {t : TypeId} {x ix y : Operand} (h : stMapUpdate P X st K t x ix y = some r) (rel : RelT X w0 N0 B0 th st a w) : Did P X w0 N0 B0 th a w ⟨dst, .mapUpdate t x ix y, ty, pos, after, guard⟩ K r := by
  have m := rel.mem
  have hx := rel.ev x
  have hi := rel.ev ix
  unfold stMapUpdate at h
  split at h
  · rename_i k e i hu ex
    rw [ex] at hx
    split at h
    · rename_i kt e' l ho
      split at h
      · rename_i hc
        obtain ⟨hk, rfl⟩ := hc
        split at h
        · rename_i key v hkey hv
          have ek := keyAV_rel hkey hi
          have hy := evT_rel (P := P) rel e' y
          rw [← law.dec_enc _ _ _ hv] at hy
          obtain ⟨b, mes, clock, g1, g2, g3, g4⟩ := m.map_at ho
          generalize hux : a.eval x = u at hx
          cases hx with
          | mpDead _ _ _ h' => rw [g1] at h'; cases h'
          | mp _ b' cap h' =>
            rw [g1] at h'; injection h' with e1 e2; subst e1
            have hd := ktOf_desc hk
            have hf := findNow_eq kt key l mes.toList 0 (by simpa using g3) (fun j hj => by
              obtain ⟨m, m1, m2, _⟩ := g4 j hj
              exact ⟨m, by simpa using m1, m2⟩)
            have hck := run_checkKey (P := P) (w := w) hd (key_isKey kt key) false 9999
            have hfk := run_findKey (w := w) hd hf
            have hgo := MapKept.run_getObj_map (P := P) g2
            have hlt : b < w.heap.size := (Array.getElem?_eq_some_iff.1 g2).1
            have hp := mfind_put kt key v l 0
            have hil := getD_alive ho (by simp)
            have fin : ∀ mes' clock', (∀ hc : Carries X N0 w { w with heap := w.heap.setIfInBounds b (.map mes' clock') } th th, mes'.size = (mput kt key v l).length ∧
                ∀ j (_h : j < (mput kt key v l).length), ∃ m, mes'[j]? = some m ∧ m.key = kval kt (mput kt key v l)[j].1 ∧ VRel X w (NN N0 th) th (X.enc e' (mput kt key v l)[j].2) m.val) →
                (Instr.mapUpdate t (.map (some b)) (kval kt key) (a.eval y)).run P w = .ok () { w with heap := w.heap.setIfInBounds b (.map mes' clock') } → Did P X w0 N0 B0 th a w ⟨dst, .mapUpdate t x ix y, ty, pos, after, guard⟩ K r := by
              intro mes' clock' hm hrun
              have hne : ∀ k, k ≠ b → (w.heap.setIfInBounds b (Obj.map mes' clock'))[k]? = w.heap[k]? := fun k hk => by simp [Ne.symm hk]
              have hc : Carries X N0 w { w with heap := w.heap.setIfInBounds b (.map mes' clock') } th th := carries2 (by simp) (fun k _ hk => hne k fun e => hk ⟨i, _, e ▸ g1⟩) (fun _ => .inr (.inl rfl)) (fun _ h => .inl h)
              obtain ⟨q1, q2⟩ := hm hc
              obtain ⟨k1, k2⟩ := m.setMap (o := .map mes' clock') hil g1 (.mp kt e' (mput kt key v l)) ⟨b, mes', clock', g1, by simp [hlt], q1, fun j hj => by
                obtain ⟨m, m1, m2, m3⟩ := q2 j hj
                exact ⟨m, m1, m2, hc _ _ m3⟩⟩
              refine ⟨_, _, h, ⟨undef, _, th, .inr ⟨?_, rfl⟩, k1, k2, .undef _⟩⟩
              simp only [execOp, hux, ek, Sem.run_bind, hrun, Result.andThen_ok, Sem.run_pure]
            cases hm : mfind kt key l 0 with
            | none =>
              rw [hm] at hp
              simp only at hp
              refine fin (mes.push { key := kval kt key, val := a.eval y, born := clock }) (clock + 1) (fun _ => ?_) ?_
              · rw [hp]
                refine ⟨by simp [g3], fun j hj => ?_⟩
                by_cases e1 : j < l.length
                · obtain ⟨m, m1, m2, m3⟩ := g4 j e1
                  refine ⟨m, ?_, ?_, ?_⟩
                  · rw [Array.getElem?_push, if_neg (by omega)]; exact m1
                  · rw [List.getElem_append_left e1]; exact m2
                  · rw [List.getElem_append_left e1]; exact m3
                · have e2 : j = l.length := by simp at hj; omega
                  subst e2
                  refine ⟨_, by rw [Array.getElem?_push, if_pos g3.symm], ?_, ?_⟩
                  · simp
                  · simpa using hy
              · rw [hm] at hfk
                simp only [Instr.mapUpdate, Sem.run_bind, run_underlying hu, Result.andThen_ok, hgo, hck, hfk, Option.map_none, MapKept.run_setObj_map _ g2]
            | some q =>
              obtain ⟨j0, y0⟩ := q
              rw [hm] at hp
              obtain ⟨_, hj0, hq0, hy0⟩ := mfind_some kt key l 0 j0 y0 hm
              simp only [Nat.sub_zero] at hp hj0 hq0 hy0
              obtain ⟨m0, m01, m02, _⟩ := g4 j0 hj0
              refine fin (mes.modify j0 fun e => { e with key := kval kt key, val := a.eval y }) clock (fun _ => ?_) ?_
              · rw [hp]
                refine ⟨by simp [g3], fun j hj => ?_⟩
                have hj' : j < l.length := by simpa using hj
                obtain ⟨m, m1, m2, m3⟩ := g4 j hj'
                by_cases e1 : j = j0
                · subst e1
                  refine ⟨{ m with key := kval kt key, val := a.eval y }, ?_, ?_, ?_⟩
                  · rw [Array.getElem?_modify, if_pos rfl, m1]; rfl
                  · simp
                  · simpa using hy
                · refine ⟨m, ?_, ?_, ?_⟩
                  · rw [Array.getElem?_modify, if_neg (Ne.symm e1)]; exact m1
                  · rw [List.getElem_set_ne (Ne.symm e1)]; exact m2
                  · rw [List.getElem_set_ne (Ne.symm e1)]; exact m3
              · rw [hm] at hfk
                have hks : (Instr.keyThatStays (((mes[j0]?).map (·.key)).getD (kval kt key)) (kval kt key)).run P w = .ok (kval kt key) w := by
                  rw [m01]
                  simp only [Option.map_some, Option.getD_some, m02, Instr.keyThatStays, sameBits_key kt key _ hq0, if_true, Sem.run_pure]
                simp only [Instr.mapUpdate, Sem.run_bind, run_underlying hu, Result.andThen_ok, hgo, hck, hfk, Option.map_some, hks, MapKept.run_setObj_map _ g2]
        · cases h
      · cases h
    · cases h
  · cases h
end
end Go.Abs
namespace Go.Abs
open Go
variable {U : Nat → Type} {R : Type}
def stStoreF (P : Program) (X : Univ U) (st : S U) (K : AV U → List (AO U) → Option R) (t : TypeId) (a x : Operand) : Option R :=
  match ev st a with
  | .prow i e j c =>
    (match st.h.getD i .dead with
    | .row e' l =>
      if h : e' = e then
        (if storeOK P t (evT P st t x) && decide (c + sizeT P t ≤ X.z e) then
          cond (decide (j < l.length)) (match X.dec e (.agg (setCs (cellsOf (X.enc e ((castL h l).getD j (X.dflt e)))) c (cellsOf (evT P st t x)))) with
            | some y => K .undef (st.h.set i (.row e ((castL h l).set j y)))
            | none => none) none
        else none)
      else none
    | _ => none)
  | _ => none
def stMakeFunc (st : S U) (K : AV U → List (AO U) → Option R) (fn : Fn) (first cap : List Operand) : Option R :=
  match fn, first with
  | .func n, [] => K (.fn n (cap.map (ev st))) st.h
  | _, _ => none
def stIface (P : Program) (st : S U) (K : AV U → List (AO U) → Option R) (t : TypeId) (x : Operand) : Option R :=
  match P.underlying t with
  | some (.interface _) => none
  | some _ => K (.ifc t (evT P st t x)) st.h
  | none => none
def intsOf (k : IntKind) : List (AV U) → Option (List Int)
  | [] => some []
  | .int k' n :: r => if k' = k then (match intsOf k r with | some l => some (n :: l) | none => none) else none
  | _ :: _ => none
def imin (x y : Int) : Int := if y < x then y else x
def imax (x y : Int) : Int := if y > x then y else x
def stMin (st : S U) (K : AV U → List (AO U) → Option R) (mx : Bool) (args : List Operand) : Option R :=
  match args with
  | [] => none
  | x :: r =>
    match ev st x with
    | .int k n => (match intsOf k (r.map (ev st)) with | some l => K (.int k (cond mx (l.foldl imax n) (l.foldl imin n))) st.h | none => none)
    | _ => none
def globV (X : Univ U) : AV U → AV U
  | .gl g => X.glob g
  | v => v
def stLoadG (P : Program) (X : Univ U) (st : S U) (K : AV U → List (AO U) → Option R) (t : TypeId) (g : Nat) : Option R :=
  match X.glob g with
  | .pimm e l j c => if loadOK P t (X.z e) c then cond (decide (j < l.length)) (K (loadE P t (X.enc e (l.getD j (X.dflt e))) c) st.h) none else none
  | _ => none
def stIndexG (P : Program) (X : Univ U) (st : S U) (K : AV U → List (AO U) → Option R) (t : TypeId) (g : Nat) (ix : Operand) : Option R :=
  match P.underlying t, X.glob g, ev st ix with
  | some (.array n d), .pimm e l 0 0, .int _ i => if (P.info? d).isSome && decide (sizeT P d = X.z e) && decide (n = l.length) then cond (decide (0 ≤ i)) (cond (decide (i < (l.length : Int))) (K (.pimm e l i.toNat 0) st.h) none) none else none
  | _, _, _ => none
def toByte : AV U → UInt8
  | .int _ n => UInt8.ofNat n.toNat
  | _ => 0
def isByte : AV U → Bool
  | .int .u8 _ => true
  | _ => false
def bytesL (X : Univ U) (e : Nat) (l : List (U e)) : ByteArray := ⟨(l.map fun y => toByte (X.enc e y)).toArray⟩
def byteE (X : Univ U) (e : Nat) : Bool := decide (X.z e = 1) && isByte (X.enc e (X.dflt e))
section
variable {P : Program} {X : Univ U} {w0 w : World} {N0 N : Nat → Prop} {B0 : Nat → Th} {th : Nat → Th} {st : S U} {a : Act} {K : AV U → List (AO U) → Option R} {r : R} {dst : Option Tmp} {ty : TypeId} {pos : String} {after : Array Edge} {guard : Option (Nat × Bool)} {h : List (AO U)}
theorem Mem.store_part (m : Mem X w0 N0 B0 th h w) (law : Lawful X) {t : TypeId} {i e j c : Nat} {l : List (U e)} {x : AV U} {y : U e} {v : Value} (ho : h.getD i .dead = .row e l) (hv : VRel X w (NN N0 th) th x v)
    (hk : (cellsOf x).all okCell = true) (hi : (P.info? t).isSome = true) (hs : (cellsOf x).length = sizeT P t) (hj : j < l.length) (hc : c + sizeT P t ≤ X.z e)
    (hy : X.dec e (.agg (setCs (cellsOf (X.enc e (l.getD j (X.dflt e)))) c (cellsOf x))) = some y) :
    ∃ b cap w', th i = .blk b cap ∧ (Instr.storeAt t (.pointer (some ⟨b, j * X.z e + c, none⟩)) v).run P w = .ok () w' ∧ Mem X w0 N0 B0 th (h.set i (.row e (l.set j y))) w' ∧ Carries X N0 w w' th th := by
  have hz : ∀ y, (cellsOf (X.enc e y)).length = X.z e := law.size e
  have hcy : cellsOf (X.enc e y) = setCs (cellsOf (X.enc e (l.getD j (X.dflt e)))) c (cellsOf x) := by
    rw [law.dec_enc e _ y hy]; rfl
  have hgd : l.getD j (X.dflt e) = l[j] := by rw [List.getD_eq_getElem?_getD, List.getElem?_eq_getElem hj]; rfl
  rcases m.row_at ho with ⟨_, hnil⟩ | ⟨b, cap, cur, h1, h2, h3, h4, h5, h6⟩
  · subst hnil; simp at hj
  obtain ⟨g1, g2, g3⟩ := cells_rel hv hk
  have hfit : j * X.z e + X.z e ≤ cur.size := by
    refine Nat.le_trans ?_ h4
    have h1 : (j + 1) * X.z e ≤ cap * X.z e := Nat.mul_le_mul_right _ (by omega)
    have h2 : (j + 1) * X.z e = j * X.z e + X.z e := Nat.succ_mul j _
    omega
  refine ⟨b, _, _, h1, run_store_at hv hk hi hs h2 (by omega), m.write (getD_alive ho (by simp)) h1 _ _ ?_, m.carries_write h1 _⟩
  have hcar := m.carries_write h1 (overwrite cur (j * X.z e + c) v.cells)
  refine .inr ⟨b, cap, _, by simpa using h1, setRow_heap w b cur _ e _ h2, h3, ?_, by simpa using h5, fun q hq k hk' => ?_⟩
  · rw [overwrite_size (by omega)]; exact h4
  · have hq' : q < l.length := by simpa using hq
    rw [overwrite_get (by omega), g1]
    by_cases e1 : q = j
    · subst e1
      have : (l.set q y)[q] = y := by simp
      rw [this, hcy, setCs_get _ _ _ _ (by rw [hz]; omega)]
      by_cases hin : c ≤ k ∧ k < c + (cellsOf x).length
      · rw [if_pos hin, if_pos (by omega), show q * X.z e + k - (q * X.z e + c) = k - c by omega]
        exact hcar _ _ (g2 _ (by omega))
      · rw [if_neg hin, if_neg (by omega), hgd]
        exact hcar _ _ (h6 q hq' k hk')
    · have hne : ¬ (j * X.z e + c ≤ q * X.z e + k ∧ q * X.z e + k < j * X.z e + c + (cellsOf x).length) := by
        rintro ⟨a1, a2⟩
        rcases Nat.lt_or_gt_of_ne e1 with hlt | hlt
        · have : (q + 1) * X.z e ≤ j * X.z e := Nat.mul_le_mul_right _ (by omega)
          have h2 : (q + 1) * X.z e = q * X.z e + X.z e := Nat.succ_mul q _
          omega
        · have : (j + 1) * X.z e ≤ q * X.z e := Nat.mul_le_mul_right _ (by omega)
          have h2 : (j + 1) * X.z e = j * X.z e + X.z e := Nat.succ_mul j _
          omega
      rw [if_neg hne]
      have : (l.set j y)[q] = l[q] := by rw [List.getElem_set_ne (Ne.symm e1)]
      rw [this]
      exact hcar _ _ (h6 q hq' k hk')
theorem ok_storeF (law : Lawful X) {t : TypeId} {x y : Operand} (h : stStoreF P X st K t x y = some r) (rel : RelT X w0 N0 B0 th st a w) : Did P X w0 N0 B0 th a w ⟨dst, .store t x y, ty, pos, after, guard⟩ K r := by
  have hx := rel.ev x
  have hy := evT_rel (P := P) rel t y
  have m := rel.mem
  unfold stStoreF at h
  split at h
  · rename_i i e j c ex; rw [ex] at hx
    split at h
    · rename_i e' l ho
      split at h
      · rename_i hee
        subst hee
        split at h
        · rename_i hok
          rw [Bool.and_eq_true, decide_eq_true_eq] at hok
          obtain ⟨g1, g2, g3⟩ := storeOK_spec hok.1
          obtain ⟨hj, h⟩ := cond_none h
          split at h
          · rename_i yv hd
            obtain ⟨b, cap, w', h1, h2, h3, h4⟩ := m.store_part (P := P) law ho hy g1 g2 g3 (of_decide_eq_true hj) hok.2 hd
            generalize hu : a.eval x = u at hx
            cases hx with
            | prow _ _ _ _ b' cap' h' =>
              rw [h1] at h'; injection h' with e1 e2; subst e1
              exact ⟨_, _, h, ⟨undef, w', th, .inr ⟨by simp only [execOp, hu, Sem.run_bind, h2]; rfl, rfl⟩, h3, h4, .undef _⟩⟩
            | prowDead _ _ _ _ _ _ h' => rw [h1] at h'; cases h'
          · cases h
        · cases h
      · cases h
    · cases h
  · cases h
theorem ok_makeFunc {fn : Fn} {first cap : Array Operand} (h : stMakeFunc st K fn first.toList cap.toList = some r) (rel : RelT X w0 N0 B0 th st a w) : Did P X w0 N0 B0 th a w ⟨dst, .makeFunc fn first cap, ty, pos, after, guard⟩ K r := by
  unfold stMakeFunc at h
  split at h
  · rename_i n e
    have e1 : first = #[] := by rw [← Array.toArray_toList (xs := first), e]
    subst e1
    refine ok_still rel.mem h (u := .func (.func n) #[] (cap.map a.eval)) (by simp [execOp, Instr.makeFunc]) (.fn n _ _ (by simp) fun j hj => ?_)
    have hj' : j < cap.toList.length := by simpa using hj
    have e2 : (cap.toList.map (ev st)).getD j .undef = ev st cap.toList[j] := by
      rw [List.getD_eq_getElem?_getD, List.getElem?_map, List.getElem?_eq_getElem hj']; rfl
    have e3 : (cap.map a.eval).getD j undef = a.eval cap.toList[j] := by
      have : j < cap.size := by simpa using hj'
      rw [Array.getD_eq_getD_getElem?, Array.getElem?_map, Array.getElem?_eq_getElem this]; rfl
    rw [e2, e3]; exact rel.ev _
  · cases h
theorem ok_iface {t : TypeId} {x : Operand} (h : stIface P st K t x = some r) (rel : RelT X w0 N0 B0 th st a w) : Did P X w0 N0 B0 th a w ⟨dst, .makeInterface t x, ty, pos, after, guard⟩ K r := by
  unfold stIface at h
  split at h
  · cases h
  · rename_i d hd hne
    refine ok_still rel.mem h (u := .iface t (a.eval x)) ?_ (.ifc t _ _ (evT_rel rel t x))
    have : (Instr.makeInterface t (a.eval x)).run P w = .ok (.iface t (a.eval x)) w := by
      simp only [Instr.makeInterface, Sem.run_bind, run_underlying hne, Result.andThen_ok]
      cases d <;> first | rfl | (exact absurd hne (hd _))
    simp only [execOp, Sem.run_bind, this, Result.andThen_ok, Sem.run_pure]
  · cases h
theorem intsOf_rel {k : IntKind} : ∀ {xs : List (AV U)} {l : List Int} {vs : List Value}, intsOf k xs = some l → vs.length = xs.length → (∀ j, j < xs.length → VRel X w N th (xs.getD j .undef) (vs.getD j undef)) → vs = l.map (Value.int k)
  | [], l, vs, h, hl, _ => by
    injection h with h; subst h
    exact List.eq_nil_of_length_eq_zero (by simpa using hl)
  | .int k' n :: xs, l, [], h, hl, _ => by simp at hl
  | .int k' n :: xs, l, v :: vs, h, hl, hr => by
    unfold intsOf at h
    split at h
    · rename_i hk; subst hk
      split at h
      · rename_i l' hl'
        injection h with h; subst h
        have h0 := hr 0 (by simp)
        simp only [List.getD_cons_zero] at h0
        cases h0
        rw [intsOf_rel (vs := vs) hl' (by simpa using hl) fun j hj => by
          have := hr (j + 1) (by simpa using hj)
          simpa only [List.getD_cons_succ] using this]
        rfl
      · cases h
    · cases h
  | .undef :: _, _, _, h, _, _ => by cases h
  | .bool _ :: _, _, _, h, _, _ => by cases h
  | .str _ :: _, _, _, h, _, _ => by cases h
  | .val _ :: _, _, _, h, _, _ => by cases h
  | .nils _ :: _, _, _, h, _, _ => by cases h
  | .imm _ _ :: _, _, _, h, _, _ => by cases h
  | .pimm _ _ _ _ :: _, _, _, h, _, _ => by cases h
  | .row _ _ :: _, _, _, h, _, _ => by cases h
  | .view _ _ _ _ :: _, _, _, h, _, _ => by cases h
  | .prow _ _ _ _ :: _, _, _, h, _, _ => by cases h
  | .ptr _ _ :: _, _, _, h, _, _ => by cases h
  | .mp _ :: _, _, _, h, _, _ => by cases h
  | .agg _ :: _, _, _, h, _, _ => by cases h
  | .tup _ :: _, _, _, h, _, _ => by cases h
  | .ifc _ _ :: _, _, _, h, _, _ => by cases h
  | .fn _ _ :: _, _, _, h, _, _ => by cases h
  | .gl _ :: _, _, _, h, _, _ => by cases h
theorem run_min (k : IntKind) : ∀ (l : List Int) (n : Int), ((l.map (Value.int k)).foldlM Builtin.min2 (.int k n)).run P w = .ok (.int k (l.foldl imin n)) w
  | [], n => rfl
  | m :: l, n => by
    simp only [List.map_cons, List.foldlM_cons, Sem.run_bind, Builtin.min2, Sem.run_pure, Result.andThen_ok, List.foldl_cons]
    exact run_min k l _
theorem run_max (k : IntKind) : ∀ (l : List Int) (n : Int), ((l.map (Value.int k)).foldlM Builtin.max2 (.int k n)).run P w = .ok (.int k (l.foldl imax n)) w
  | [], n => rfl
  | m :: l, n => by
    simp only [List.map_cons, List.foldlM_cons, Sem.run_bind, Builtin.max2, Sem.run_pure, Result.andThen_ok, List.foldl_cons]
    exact run_max k l _
theorem ok_min {mx : Bool} {c : Call} (hcal : c.callee = .builtin (if mx then .max else .min)) (h : stMin st K mx c.args.toList = some r) (rel : RelT X w0 N0 B0 th st a w) : Did P X w0 N0 B0 th a w ⟨dst, .call c, ty, pos, after, guard⟩ K r := by
  unfold stMin at h
  split at h
  · cases h
  · rename_i x xs hargs
    split at h
    · rename_i k n ex
      split at h
      · rename_i l hl
        have hx := rel.ev x
        rw [ex] at hx
        generalize hu : a.eval x = u at hx
        cases hx
        have hvs := intsOf_rel (X := X) (w := w) (N := NN N0 th) (th := th) (vs := xs.map a.eval) hl (by simp) (fun j hj => by
          have hj' : j < xs.length := by simpa using hj
          rw [List.getD_eq_getElem?_getD, List.getD_eq_getElem?_getD, List.getElem?_map, List.getElem?_map, List.getElem?_eq_getElem hj']
          exact rel.ev _)
        cases mx with
        | true =>
          refine ok_still rel.mem h (exec_builtin (f := Builtin.max_) (fun _ _ _ _ => rfl) hcal ?_) (.int _ _)
          rw [hargs]
          show (Builtin.max_ _ _ (a.eval x :: xs.map a.eval).toArray).run P w = _
          rw [hu, hvs]
          exact run_max k l n
        | false =>
          refine ok_still rel.mem h (exec_builtin (f := Builtin.min_) (fun _ _ _ _ => rfl) hcal ?_) (.int _ _)
          rw [hargs]
          show (Builtin.min_ _ _ (a.eval x :: xs.map a.eval).toArray).run P w = _
          rw [hu, hvs]
          exact run_min k l n
      · cases h
    · cases h
theorem ok_loadG (law : Lawful X) {t : TypeId} {x : Operand} {g : Nat} (hxg : ev st x = .gl g) (h : stLoadG P X st K t g = some r) (rel : RelT X w0 N0 B0 th st a w) : Did P X w0 N0 B0 th a w ⟨dst, .load t x, ty, pos, after, guard⟩ K r := by
  have m := rel.mem
  have hx := rel.ev x
  rw [hxg] at hx
  generalize hu : a.eval x = u at hx
  cases hx
  have hg := m.glob g
  unfold stLoadG at h
  split at h
  · rename_i e l j c eg
    rw [eg] at hg
    split at h
    · rename_i hok
      obtain ⟨hj, h⟩ := cond_none h
      have hj := of_decide_eq_true hj
      generalize hv : Value.pointer (some ⟨g, 0, none⟩) = u at hg
      cases hg with
      | pimm _ _ _ _ b off vs hl hN hc hv' =>
        injection hv with hv; injection hv with hv; injection hv with q1 q2 q3
        have := run_load (P := P) (X := X) (w := w) (N := NN N0 th) (th := th) (t := t) (c := c) (elem_cells law hc hv' hj) (by rw [law.size]; exact hok)
        obtain ⟨v, g1, g2⟩ := this
        rw [Nat.add_assoc, ← q2, ← q1] at g1
        exact ok_still m h (by simp only [execOp, hu, Sem.run_bind, g1, Result.andThen_ok, Sem.run_pure]) (loadE_eq g2)
    · cases h
  · cases h
theorem ok_indexG {t : TypeId} {x ix : Operand} {g : Nat} (hxg : ev st x = .gl g) (h : stIndexG P X st K t g ix = some r) (rel : RelT X w0 N0 B0 th st a w) : Did P X w0 N0 B0 th a w ⟨dst, .indexAddr t x ix, ty, pos, after, guard⟩ K r := by
  have m := rel.mem
  have hx := rel.ev x
  rw [hxg] at hx
  generalize hu : a.eval x = u at hx
  cases hx
  have hg := m.glob g
  have hi := rel.ev ix
  unfold stIndexG at h
  split at h
  · rename_i n d e l k i hd eg ei
    rw [eg] at hg
    rw [ei] at hi
    split at h
    · rename_i hok
      simp only [Bool.and_eq_true, decide_eq_true_eq] at hok
      obtain ⟨⟨q1, q2⟩, q3⟩ := hok
      obtain ⟨h0, h⟩ := cond_none h
      obtain ⟨h1, h⟩ := cond_none h
      have h0 := of_decide_eq_true h0
      have h1 := of_decide_eq_true h1
      generalize hv : a.eval ix = vi at hi
      cases hi
      have he : P.elem t = d := by simp [Program.elem, hd]
      have hn : P.arrayLen t = n := by unfold Program.arrayLen; rw [hd]
      have hrun : (Instr.indexAt t (.pointer (some ⟨g, 0, none⟩)) (.int k i)).run P w = .ok (.pointer (some ⟨g, 0 + i.toNat * sizeT P d, none⟩)) w := by
        rw [run_indexAt_array w t ⟨g, 0, none⟩ k i (by rw [he, hn]; exact hd), if_pos ⟨h0, by rw [hn, q3]; exact h1⟩, he, run_sizeOf q1]
        simp only [Result.andThen_ok, addr_add]
      refine ok_still m h (by simp only [execOp, hu, hv, Sem.run_bind, hrun]; rfl) ?_
      generalize hv : Value.pointer (some ⟨g, 0, none⟩) = u at hg
      cases hg with
      | pimm _ _ _ _ b off vs hl hN hc hv' =>
        injection hv with hv; injection hv with hv; injection hv with p1 p2 p3
        have := VRel.pimm (X := X) (w := w) (N := NN N0 th) (th := th) e l i.toNat 0 b off vs hl hN hc hv'
        rw [p1, q2]
        have e0 : 0 + i.toNat * X.z e = off + (i.toNat * X.z e + 0) := by
          generalize i.toNat * X.z e = q
          simp only [Nat.zero_mul, Nat.add_zero] at p2
          omega
        rw [e0]; exact this
    · cases h
  · cases h
def stBytes (P : Program) (X : Univ U) (st : S U) (K : AV U → List (AO U) → Option R) (src dst : TypeId) (x : Operand) : Option R :=
  match P.underlying src, P.underlying dst, listOf st.h (evT P st src x) with
  | some (.slice d), some .string, some ⟨e, l⟩ => (match P.underlying d with | some (.int .u8) => if l.all (fun y => isByte (X.enc e y)) && decide (X.z e = 1) then K (.str (bytesL X e l)) st.h else none | _ => none)
  | _, _, _ => none
def BytesAll (X : Univ U) (e : Nat) : Prop := X.z e = 1 ∧ ∀ y, isByte (X.enc e y) = true
theorem ok_bytes {s d : TypeId} {x : Operand} (h : stBytes P X st K s d x = some r) (rel : RelT X w0 N0 B0 th st a w) : Did P X w0 N0 B0 th a w ⟨dst, .convert s d x, ty, pos, after, guard⟩ K r := by
  have m := rel.mem
  have hx := evT_rel (P := P) rel s x
  unfold stBytes at h
  split at h
  · rename_i d' e l hs hd hl
    split at h
    · rename_i hb
      split at h
      · rename_i hok
        rw [Bool.and_eq_true, decide_eq_true_eq] at hok
        obtain ⟨q1, q2⟩ := hok
        obtain ⟨ad, c, news, g1, g2, g3, g4⟩ := listOf_ok m hx hl
        have hlen : news.length = l.length := by rw [g2.len, q2, Nat.mul_one]
        have hby : ∀ j (hj : j < l.length), ∃ n, X.enc e l[j] = .int .u8 n ∧ news.getD j undef = .int .u8 n := fun j hj => by
          have h1 := List.all_eq_true.1 q1 l[j] (List.getElem_mem hj)
          have h2 := g2.rel j hj 0 (by omega)
          rw [q2, Nat.mul_one, Nat.add_zero] at h2
          revert h1 h2
          generalize X.enc e l[j] = v
          intro h1 h2
          unfold isByte at h1
          split at h1
          · rename_i n
            simp only [cellsOf, List.getD_cons_zero] at h2
            generalize hq : news.getD j undef = u at h2
            cases h2
            exact ⟨n, rfl, rfl⟩
          · cases h1
        let xs : List Int := l.map fun y => match X.enc e y with | .int _ n => n | _ => 0
        have hxl : xs.length = l.length := by simp [xs]
        have hxs : ∀ j (hj : j < l.length), news.getD j undef = .int .u8 (xs.getD j 0) := fun j hj => by
          obtain ⟨n, h1, h2⟩ := hby j hj
          rw [h2]
          simp only [xs, List.getD_eq_getElem?_getD, List.getElem?_map, List.getElem?_eq_getElem hj, Option.map_some, Option.getD_some, h1]
        have hstr : strOfNums xs = bytesL X e l := by
          unfold strOfNums bytesL
          congr 1
          simp only [xs, List.map_map]
          congr 1
          refine List.map_congr_left fun y hy => ?_
          have h1 := List.all_eq_true.1 q1 y hy
          simp only [Function.comp]
          revert h1
          generalize X.enc e y = v
          intro h1
          unfold isByte at h1
          split at h1
          · rfl
          · cases h1
        have hrun : (convert s d (a.eval x)).run P w = .ok (.string (bytesL X e l)) w := by
          rw [g1, ← hstr]
          cases ad with
          | none =>
            have : l = [] := g3 rfl
            subst this
            exact run_convert_bytes_nil w s d' hs hb _ _ d hd
          | some ad =>
            obtain ⟨b, off, sp⟩ := ad
            cases l with
            | nil =>
              rw [run_convert_bytes_string w s d d' _ _ _ hs hb hd]
              have := run_bytesToString (P := P) w ⟨b, off, sp⟩ 0 c [] (by
                have := run_loadCells_list (P := P) w ⟨b, off, sp⟩ [] (fun j v hj => by simp at hj)
                simpa using this)
              exact this
            | cons y l' =>
              have hsp : sp = none := by
                have h0 := g4 ⟨b, off, sp⟩ rfl 0 (news.getD 0 undef) (by
                  rw [List.getElem?_eq_getElem (by rw [hlen]; simp), List.getD_eq_getElem?_getD, List.getElem?_eq_getElem (by rw [hlen]; simp)]; rfl)
                unfold Addr.add at h0
                rw [if_pos rfl] at h0
                unfold World.cell? at h0
                simp only at h0
                split at h0
                · split at h0
                  · cases h0
                  · rename_i hsp; simpa using hsp
                · cases h0
              subst hsp
              exact run_convert_bytes_arg w s d' hs hb b off _ c xs hxl (fun i hi => by
                have h0 := g4 ⟨b, off, none⟩ rfl i (news.getD i undef) (by
                  rw [List.getElem?_eq_getElem (by rw [hlen]; exact hi), List.getD_eq_getElem?_getD, List.getElem?_eq_getElem (by rw [hlen]; exact hi)]; rfl)
                rw [Addr.add_lit] at h0
                rw [h0, hxs i hi]) d hd
        exact ok_still m h (by simp only [execOp, Sem.run_bind, hrun, Result.andThen_ok, Sem.run_pure]) (.str _)
      · cases h
    · cases h
  · cases h
end
end Go.Abs
namespace Go.Abs
open Go
variable {U : Nat → Type} {R : Type}
def stepM (P : Program) (X : Univ U) (o : Oper) (st : S U) (K : AV U → List (AO U) → Option R) : Option R :=
  match o.op with
  | .build t parts => stBuild P st K t parts.toList
  | .buildSlice t len parts => stBuildSlice P X st K t len parts.toList
  | .makeSlice t l c => stMake P X st K t l c
  | .slice t x lo hi mx => stSlice P X st K t x lo hi mx
  | .makeFunc fn first cap => stMakeFunc st K fn first.toList cap.toList
  | .makeInterface t x => stIface P st K t x
  | .makeMap t rs => stMakeMap P st K t rs
  | .lookup t x ix ok => stLookup P X st K t x ix ok
  | .mapUpdate t x ix y => stMapUpdate P X st K t x ix y
  | .load t a => (match ev st a with | .gl g => stLoadG P X st K t g | _ => step P X o st K)
  | .indexAddr t x ix => (match ev st x with | .gl g => stIndexG P X st K t g ix | _ => step P X o st K)
  | .store t a x => (match ev st a with | .prow _ e _ c => if (decide (c = 0) && decide (sizeT P t = X.z e)) = true then step P X o st K else stStoreF P X st K t a x | _ => step P X o st K)
  | .convert src dst x => (match P.underlying dst with | some .string => stBytes P X st K src dst x | _ => step P X o st K)
  | .binOp op t x y _ =>
    match op with
    | .eql => if isAggV (ev st x) then stEqS P st K t false (ev st x) (ev st y) else step P X o st K
    | .neq => if isAggV (ev st x) then stEqS P st K t true (ev st x) (ev st y) else step P X o st K
    | _ => step P X o st K
  | .call c =>
    match c.callee, c.args.toList, c.argTypes.toList with
    | .builtin .append, [s, x], [t, tx] => stAppend P X st K t tx s x
    | .builtin .min, args, _ => stMin st K false args
    | .builtin .max, args, _ => stMin st K true args
    | _, _, _ => step P X o st K
  | _ => step P X o st K
structure Good (X : Univ U) : Prop where
  law : Lawful X
  sound : Sound X
  closed : Closed X
  pos : ∀ e, 0 < X.z e
  flat : ∀ e, X.flat e = true → ∀ y, (cellsOf (X.enc e y)).all okFlat = true
section
variable {P : Program} {X : Univ U} {w0 w : World} {N0 : Nat → Prop} {B0 : Nat → Th} {th : Nat → Th} {st : S U} {a : Act} {r : R}
theorem stepM_ok (g : Good X) {o : Oper} {K : AV U → List (AO U) → Option R} (h : stepM P X o st K = some r) (rel : RelT X w0 N0 B0 th st a w) : Did P X w0 N0 B0 th a w o K r := by
  have base : step P X o st K = some r → Did P X w0 N0 B0 th a w o K r := fun h => step_ok g.law h rel
  obtain ⟨dst, op, ty, pos, after, guard⟩ := o
  cases op <;> simp only [stepM] at h <;> first
    | exact ok_build h rel
    | exact ok_buildSlice g.law g.sound h rel
    | exact ok_make g.law h rel
    | exact ok_slice h rel
    | exact ok_makeFunc h rel
    | exact ok_iface h rel
    | exact ok_makeMap h rel
    | exact ok_lookup h rel
    | exact ok_mapUpdate g.law h rel
    | exact base h
    | skip
  · split at h
    · rename_i g' eg; exact ok_loadG g.law eg h rel
    · exact base h
  · split at h
    · split at h
      · exact base h
      · exact ok_storeF g.law h rel
    · exact base h
  · split at h
    · split at h
      · exact ok_eqS (neg := false) h rel
      · exact base h
    · split at h
      · exact ok_eqS (neg := true) h rel
      · exact base h
    · exact base h
  · split at h
    · exact ok_bytes h rel
    · exact base h
  · split at h
    · rename_i g' eg; exact ok_indexG eg h rel
    · exact base h
  · split at h
    · rename_i e1 e2 e3
      exact ok_append g.law g.sound e1 e2 e3 h rel
    · rename_i e1
      exact ok_min (mx := false) e1 h rel
    · rename_i e1
      exact ok_min (mx := true) e1 h rel
    · exact base h
end
end Go.Abs
namespace Go.Abs
open Go
variable {U : Nat → Type} {R : Type}
inductive Sb (U : Nat → Type) where
  | drop
  | num (j : Nat)
  | lst (e : Nat) (l : List (U e))
def sub : Nat → (Nat → Sb U) → AV U → AV U
  | _, g, .ptr i c => match g i with | .num j => .ptr j c | _ => .undef
  | _, g, .row i e => match g i with | .num j => .row j e | .lst e' l => .imm e' l | .drop => .undef
  | _, g, .view i e off n => match g i with | .num j => .view j e off n | .lst e' l => if e' = e then .imm e' ((l.drop off).take n) else .undef | .drop => .undef
  | _, g, .prow i e k c => match g i with | .num j => .prow j e k c | _ => .undef
  | _, g, .mp i => match g i with | .num j => .mp j | _ => .undef
  | 0, _, .agg _ => .undef
  | 0, _, .tup _ => .undef
  | 0, _, .ifc _ _ => .undef
  | 0, _, .fn _ _ => .undef
  | d + 1, g, .agg cs => .agg (cs.map (sub d g))
  | d + 1, g, .tup cs => .tup (cs.map (sub d g))
  | d + 1, g, .ifc t v => .ifc t (sub d g v)
  | d + 1, g, .fn f cs => .fn f (cs.map (sub d g))
  | _, _, .undef => .undef
  | _, _, .bool b => .bool b
  | _, _, .int k n => .int k n
  | _, _, .str s => .str s
  | _, _, .val v => .val v
  | _, _, .nils e => .nils e
  | _, _, .imm e l => .imm e l
  | _, _, .pimm e l j c => .pimm e l j c
  | _, _, .gl g => .gl g
theorem sub_free (g : Nat → Sb U) : ∀ (d : Nat) (x : AV U), free d x = true → sub d g x = x := by
  intro d
  induction d with
  | zero => intro x h; cases x <;> first | rfl | (simp [free] at h)
  | succ d ih =>
    have hl : ∀ cs : List (AV U), cs.all (free d) = true → cs.map (sub d g) = cs := fun cs h => by
      have := List.map_congr_left (l := cs) (f := sub d g) (g := id) (fun x hx => ih x (List.all_eq_true.1 h x hx))
      rw [this, List.map_id]
    intro x h
    cases x <;> first | rfl | (simp [free] at h; done) | skip
    · rename_i cs; simp only [sub, hl cs h]
    · rename_i cs; simp only [sub, hl cs h]
    · rename_i t v; simp only [sub, ih v h]
    · rename_i f cs; simp only [sub, hl cs h]
theorem Closed.cell {X : Univ U} (h : Closed X) (e : Nat) (y : U e) (k : Nat) : free 8 ((cellsOf (X.enc e y)).getD k .undef) = true := by
  rw [List.getD_eq_getElem?_getD]
  cases hk : (cellsOf (X.enc e y))[k]? with
  | none => rfl
  | some v =>
    obtain ⟨hlt, he⟩ := List.getElem?_eq_some_iff.1 hk
    exact List.all_eq_true.1 (h.el e y) v (he ▸ List.getElem_mem hlt)
def SbOK (X : Univ U) (w : World) (N' : Nat → Prop) (th th' : Nat → Th) (g : Nat → Sb U) : Prop :=
  ∀ i, match g i with
  | .drop => True
  | .num j => th' j = th i
  | .lst e l => th i = .nil ∧ l = [] ∨ ∃ b cap, ∃ vs : Nat → Value, th i = .blk b (cap, l.length) ∧ ¬ N' b ∧ (∀ k, k < l.length * X.z e → w.cell? ⟨b, 0 + k, none⟩ = some (vs k)) ∧
      ∀ j (_ : j < l.length) k, k < X.z e → VRel X w N' th' ((cellsOf (X.enc e l[j])).getD k .undef) (vs (j * X.z e + k))
theorem sub_rel {X : Univ U} (cl : Closed X) (ps : ∀ e, 0 < X.z e) {w : World} {N N' : Nat → Prop} {th th' : Nat → Th} {g : Nat → Sb U} (hN : ∀ b, N' b → N b)
    (hg : SbOK X w N' th th' g) {x : AV U} {v : Value} (h : VRel X w N th x v) : ∀ d, VRel X w N' th' (sub d g x) v := by
  induction h with
  | undef v => intro d; cases d <;> exact .undef v
  | bool b => intro d; cases d <;> exact .bool b
  | int k n => intro d; cases d <;> exact .int k n
  | str s => intro d; cases d <;> exact .str s
  | val v ho => intro d; cases d <;> exact .val v ho
  | nils e => intro d; cases d <;> exact .nils e
  | imm0 e a c => intro d; cases d <;> exact .imm0 e a c
  | imm e l b off c vs hlc hl hn hc hv ih =>
    have hv' : ∀ j (h : j < l.length) k, k < X.z e → VRel X w N' th' ((cellsOf (X.enc e l[j])).getD k .undef) (vs (j * X.z e + k)) := fun j hj k hk => by
      have := ih j hj k hk 8
      rw [sub_free g 8 _ (cl.cell e _ k)] at this; exact this
    intro d; cases d <;> exact .imm e l b off c vs hlc hl (fun h => hn (hN b h)) hc hv'
  | pimm e l j c b off vs hl hn hc hv ih =>
    have hv' : ∀ j (h : j < l.length) k, k < X.z e → VRel X w N' th' ((cellsOf (X.enc e l[j])).getD k .undef) (vs (j * X.z e + k)) := fun j hj k hk => by
      have := ih j hj k hk 8
      rw [sub_free g 8 _ (cl.cell e _ k)] at this; exact this
    intro d; cases d <;> exact .pimm e l j c b off vs hl (fun h => hn (hN b h)) hc hv'
  | row i e b cap n h hn =>
    have hi := hg i
    intro d
    have e1 : sub d g (.row i e) = (match g i with | .num j => .row j e | .lst e' l => .imm e' l | .drop => .undef) := by cases d <;> rfl
    rw [e1]
    cases hgi : g i with
    | drop => exact .undef _
    | num j => rw [hgi] at hi; exact .row j e b cap n (hi.trans h) hn
    | lst e' l =>
      rw [hgi] at hi
      rcases hi with ⟨h1, _⟩ | ⟨b', cap', vs, h1, h2, h3, h4⟩
      · rw [h] at h1; cases h1
      · rw [h] at h1; injection h1 with q1 q2; injection q2 with q3 q4; subst q1; subst q3; subst q4
        by_cases h0 : 0 < l.length * X.z e'
        · exact .imm e' l b 0 cap vs hn h0 h2 h3 h4
        · by_cases hll : l = []
          · subst hll; exact .imm0 e' _ cap
          · exact absurd (Nat.mul_pos (List.length_pos_iff.2 hll) (ps e')) h0
  | rowNil i e h =>
    have hi := hg i
    intro d
    have e1 : sub d g (.row i e) = (match g i with | .num j => .row j e | .lst e' l => .imm e' l | .drop => .undef) := by cases d <;> rfl
    rw [e1]
    cases hgi : g i with
    | drop => exact .undef _
    | num j => rw [hgi] at hi; exact .rowNil j e (hi.trans h)
    | lst e' l =>
      rw [hgi] at hi
      rcases hi with ⟨_, h1⟩ | ⟨b', cap', vs, h1, _⟩
      · subst h1; exact .imm0 e' none 0
      · rw [h] at h1; cases h1
  | rowDead i e v ho h =>
    have hi := hg i
    intro d
    have e1 : sub d g (.row i e) = (match g i with | .num j => .row j e | .lst e' l => .imm e' l | .drop => .undef) := by cases d <;> rfl
    rw [e1]
    cases hgi : g i with
    | drop => exact .undef _
    | num j => rw [hgi] at hi; exact .rowDead j e v ho (hi.trans h)
    | lst e' l =>
      rw [hgi] at hi
      rcases hi with ⟨h1, _⟩ | ⟨b', cap', vs, h1, _⟩ <;> rw [h] at h1 <;> cases h1
  | view i e off n b cap len c h hn hl h0 hcn hcc =>
    have hi := hg i
    intro d
    have e1 : sub d g (.view i e off n) = (match g i with | .num j => .view j e off n | .lst e' l => if e' = e then .imm e' ((l.drop off).take n) else .undef | .drop => .undef) := by cases d <;> rfl
    rw [e1]
    cases hgi : g i with
    | drop => exact .undef _
    | num j => rw [hgi] at hi; exact .view j e off n b cap len c (hi.trans h) hn hl h0 hcn hcc
    | lst e' l =>
      rw [hgi] at hi
      simp only
      split
      · rename_i hee; subst hee
        rcases hi with ⟨h1, _⟩ | ⟨b', cap', vs, h1, h2, h3, h4⟩
        · rw [h] at h1; cases h1
        · rw [h] at h1; injection h1 with q1 q2; injection q2 with q3 q4; subst q1; subst q3; subst q4
          by_cases hn0 : n = 0
          · subst hn0; rw [List.take_zero]; exact .imm0 e' _ c
          have h0 : 0 < n := Nat.pos_of_ne_zero hn0
          have hlen : ((l.drop off).take n).length = n := by simp; omega
          have hfit : off * X.z e' + n * X.z e' ≤ l.length * X.z e' := by rw [← Nat.add_mul]; exact Nat.mul_le_mul_right _ (by omega)
          have := VRel.imm (X := X) (w := w) (N := N') (th := th') e' ((l.drop off).take n) b (off * X.z e') c (fun k => vs (off * X.z e' + k)) (by rw [hlen]; omega) (by rw [hlen]; exact Nat.mul_pos h0 (ps e')) h2 (fun k hk => by
            rw [hlen] at hk
            have := h3 (off * X.z e' + k) (by omega)
            rwa [Nat.zero_add] at this) (fun j hj k hk => by
            rw [hlen] at hj
            have e1 : ((l.drop off).take n)[j]'(by rw [hlen]; exact hj) = l[off + j]'(by omega) := by simp
            rw [e1, ← Nat.add_assoc, ← Nat.add_mul]
            exact h4 (off + j) (by omega) k hk)
          rw [hlen] at this
          exact this
      · exact .undef _
  | view0 i e off a c hoff =>
    have hi := hg i
    intro d
    have e1 : sub d g (.view i e off 0) = (match g i with | .num j => .view j e off 0 | .lst e' l => if e' = e then .imm e' ((l.drop off).take 0) else .undef | .drop => .undef) := by cases d <;> rfl
    rw [e1]
    cases hgi : g i with
    | drop => exact .undef _
    | num j => exact .view0 j e off a c hoff
    | lst e' l =>
      simp only
      split
      · rw [List.take_zero]; exact .imm0 e' a c
      · exact .undef _
  | viewNil i e h =>
    have hi := hg i
    intro d
    have e1 : sub d g (.view i e 0 0) = (match g i with | .num j => .view j e 0 0 | .lst e' l => if e' = e then .imm e' ((l.drop 0).take 0) else .undef | .drop => .undef) := by cases d <;> rfl
    rw [e1]
    cases hgi : g i with
    | drop => exact .undef _
    | num j => rw [hgi] at hi; exact .viewNil j e (hi.trans h)
    | lst e' l =>
      simp only
      split
      · rw [List.take_zero]; exact .imm0 e' none 0
      · exact .undef _
  | viewDead i e off n v ho h =>
    have hi := hg i
    intro d
    have e1 : sub d g (.view i e off n) = (match g i with | .num j => .view j e off n | .lst e' l => if e' = e then .imm e' ((l.drop off).take n) else .undef | .drop => .undef) := by cases d <;> rfl
    rw [e1]
    cases hgi : g i with
    | drop => exact .undef _
    | num j => rw [hgi] at hi; exact .viewDead j e off n v ho (hi.trans h)
    | lst e' l =>
      rw [hgi] at hi
      rcases hi with ⟨h1, _⟩ | ⟨b', cap', vs, h1, _⟩ <;> rw [h] at h1 <;> cases h1
  | prow i e k c b cap h =>
    have hi := hg i
    intro d
    have e1 : sub d g (.prow i e k c) = (match g i with | .num j => .prow j e k c | _ => .undef) := by cases d <;> rfl
    rw [e1]
    cases hgi : g i with
    | num j => rw [hgi] at hi; exact .prow j e k c b cap (hi.trans h)
    | _ => exact .undef _
  | prowDead i e k c v ho h =>
    have hi := hg i
    intro d
    have e1 : sub d g (.prow i e k c) = (match g i with | .num j => .prow j e k c | _ => .undef) := by cases d <;> rfl
    rw [e1]
    cases hgi : g i with
    | num j => rw [hgi] at hi; exact .prowDead j e k c v ho (hi.trans h)
    | _ => exact .undef _
  | ptr i c b cap h =>
    have hi := hg i
    intro d
    have e1 : sub d g (.ptr i c) = (match g i with | .num j => .ptr j c | _ => .undef) := by cases d <;> rfl
    rw [e1]
    cases hgi : g i with
    | num j => rw [hgi] at hi; exact .ptr j c b cap (hi.trans h)
    | _ => exact .undef _
  | ptrDead i c v ho h =>
    have hi := hg i
    intro d
    have e1 : sub d g (.ptr i c) = (match g i with | .num j => .ptr j c | _ => .undef) := by cases d <;> rfl
    rw [e1]
    cases hgi : g i with
    | num j => rw [hgi] at hi; exact .ptrDead j c v ho (hi.trans h)
    | _ => exact .undef _
  | mp i b cap h =>
    have hi := hg i
    intro d
    have e1 : sub d g (.mp i : AV U) = (match g i with | .num j => .mp j | _ => .undef) := by cases d <;> rfl
    rw [e1]
    cases hgi : g i with
    | num j => rw [hgi] at hi; exact .mp j b cap (hi.trans h)
    | _ => exact .undef _
  | mpDead i v ho h =>
    have hi := hg i
    intro d
    have e1 : sub d g (.mp i : AV U) = (match g i with | .num j => .mp j | _ => .undef) := by cases d <;> rfl
    rw [e1]
    cases hgi : g i with
    | num j => rw [hgi] at hi; exact .mpDead j v ho (hi.trans h)
    | _ => exact .undef _
  | agg cs vs hs h ih =>
    intro d
    cases d with
    | zero => exact .undef _
    | succ d => exact .agg _ vs (by simp [hs]) (fun j hj => by rw [map_getD _ _ _ (by simpa using hj)]; exact ih j (by simpa using hj) d)
  | tup cs vs hs h ih =>
    intro d
    cases d with
    | zero => exact .undef _
    | succ d => exact .tup _ vs (by simp [hs]) (fun j hj => by rw [map_getD _ _ _ (by simpa using hj)]; exact ih j (by simpa using hj) d)
  | ifc t x v h ih =>
    intro d
    cases d with
    | zero => exact .undef _
    | succ d => exact .ifc t _ v (ih d)
  | fn f cs vs hs h ih =>
    intro d
    cases d with
    | zero => exact .undef _
    | succ d => exact .fn f _ vs (by simp [hs]) (fun j hj => by rw [map_getD _ _ _ (by simpa using hj)]; exact ih j (by simpa using hj) d)
  | gl n => intro d; cases d <;> exact .gl n
theorem free_succ : ∀ (d : Nat) (x : AV U), free d x = true → free (d + 1) x = true := by
  intro d
  induction d with
  | zero => intro x h; cases x <;> first | rfl | (simp [free] at h)
  | succ d ih =>
    intro x h
    have hl : ∀ cs : List (AV U), cs.all (free d) = true → cs.all (free (d + 1)) = true := fun cs h => List.all_eq_true.2 fun y hy => ih y (List.all_eq_true.1 h y hy)
    cases x <;> first | rfl | (simp [free] at h; done) | skip
    · exact hl _ h
    · exact hl _ h
    · exact ih _ h
    · exact hl _ h
theorem free_rel {X : Univ U} (cl : Closed X) (ps : ∀ e, 0 < X.z e) {w : World} {N N' : Nat → Prop} {th th' : Nat → Th} (hN : ∀ b, N' b → N b) {x : AV U} {v : Value} (hf : free 8 x = true) (h : VRel X w N th x v) : VRel X w N' th' x v := by
  have := sub_rel (N' := N') (th' := th') (g := fun _ => .drop) cl ps hN (fun _ => trivial) h 8
  rw [sub_free _ 8 _ hf] at this; exact this
theorem enc_rel {X : Univ U} (cl : Closed X) (ps : ∀ e, 0 < X.z e) {w : World} {N N' : Nat → Prop} {th th' : Nat → Th} (hN : ∀ b, N' b → N b) {e : Nat} {y : U e} {v : Value} (h : VRel X w N th (X.enc e y) v) : VRel X w N' th' (X.enc e y) v := by
  have := sub_rel (N' := N') (th' := th') (g := fun _ => .drop) cl ps hN (fun _ => trivial) h 9
  have hf : free 9 (X.enc e y) = true := by
    have h8 := cl.el e y
    generalize X.enc e y = x at h8 ⊢
    cases x with
    | agg cs => simpa [cellsOf, free] using h8
    | _ =>
      refine free_succ 8 _ ?_
      simp only [cellsOf, List.all_cons, List.all_nil, Bool.and_true] at h8
      exact h8
  rw [sub_free _ 9 _ hf] at this; exact this
end Go.Abs
namespace Go.Abs
open Go
variable {U : Nat → Type} {R : Type}
def refsA : Nat → AV U → List Nat
  | _, .ptr i _ => [i]
  | _, .row i _ => [i]
  | _, .view i _ _ _ => [i]
  | _, .prow i _ _ _ => [i]
  | _, .mp i => [i]
  | d + 1, .agg cs => cs.flatMap (refsA d)
  | d + 1, .tup cs => cs.flatMap (refsA d)
  | d + 1, .ifc _ v => refsA d v
  | d + 1, .fn _ cs => cs.flatMap (refsA d)
  | _, _ => []
def refsO : AO U → List Nat
  | .box cs => cs.flatMap (refsA 8)
  | _ => []
def ins (n : Nat) (o : List Nat) (i : Nat) : List Nat := if o.contains i || !(decide (i < n)) then o else o ++ [i]
def insAll (n : Nat) (o l : List Nat) : List Nat := l.foldl (ins n) o
def close (h : List (AO U)) : Nat → List Nat → List Nat
  | 0, o => o
  | k + 1, o => close h k (insAll h.length o (o.flatMap fun i => refsO (h.getD i .dead)))
def idxG (i : Nat) : Nat → List Nat → Sb U
  | _, [] => .drop
  | k, x :: r => if x == i then .num k else idxG i (k + 1) r
def subO (g : Nat → Sb U) : AO U → AO U
  | .dead => .dead
  | .box cs => .box (cs.map (sub 8 g))
  | .row e l => .row e l
  | .hole => .hole
  | .mp kt e l => .mp kt e l
def renum (o : List Nat) (st : S U) : S U := ⟨st.s.map (sub 8 fun i => idxG i 0 o), o.map fun i => subO (fun i => idxG i 0 o) (st.h.getD i .dead)⟩
def canonK (k : Nat) (st : S U) : S U := renum (close st.h 3 (insAll st.h.length (insAll st.h.length [] (List.range k)) (st.s.flatMap (refsA 8)))) st
def canon (st : S U) : S U := canonK 0 st
def dropL (ks : List Nat) : Nat → List (AV U) → List (AV U)
  | _, [] => []
  | i, v :: r => (if ks.contains i then v else .undef) :: dropL ks (i + 1) r
theorem ins_ok {n : Nat} {o : List Nat} (i : Nat) (h : o.Nodup ∧ ∀ j ∈ o, j < n) : (ins n o i).Nodup ∧ ∀ j ∈ ins n o i, j < n := by
  unfold ins
  split
  · exact h
  · rename_i hc
    simp only [Bool.or_eq_true, List.contains_eq_mem, decide_eq_true_eq, Bool.not_eq_true', decide_eq_false_iff_not, not_or, Classical.not_not] at hc
    refine ⟨?_, fun j hj => ?_⟩
    · rw [List.nodup_append]
      refine ⟨h.1, by simp, fun a ha b hb => ?_⟩
      have : b = i := by simpa using hb
      subst this
      exact fun e => hc.1 (e ▸ ha)
    · rcases List.mem_append.1 hj with hj | hj
      · exact h.2 j hj
      · have : j = i := by simpa using hj
        subst this; exact hc.2
theorem insAll_ok {n : Nat} : ∀ (l o : List Nat), (o.Nodup ∧ ∀ j ∈ o, j < n) → (insAll n o l).Nodup ∧ ∀ j ∈ insAll n o l, j < n
  | [], _, h => h
  | i :: l, o, h => insAll_ok l (ins n o i) (ins_ok i h)
theorem close_ok {h : List (AO U)} : ∀ (k : Nat) (o : List Nat), (o.Nodup ∧ ∀ j ∈ o, j < h.length) → (close h k o).Nodup ∧ ∀ j ∈ close h k o, j < h.length
  | 0, _, hh => hh
  | k + 1, _, hh => close_ok k _ (insAll_ok _ _ hh)
theorem idxG_num {i : Nat} : ∀ {o : List Nat} {k j : Nat}, (idxG i k o : Sb U) = .num j → k ≤ j ∧ o[j - k]? = some i
  | [], _, _, h => by cases h
  | x :: r, k, j, h => by
    unfold idxG at h
    split at h
    · rename_i hx
      injection h with h; subst h
      simp only [beq_iff_eq] at hx
      subst hx
      exact ⟨Nat.le_refl _, by simp⟩
    · obtain ⟨h1, h2⟩ := idxG_num h
      refine ⟨by omega, ?_⟩
      have : j - k = (j - (k + 1)) + 1 := by omega
      rw [this]; simpa using h2
theorem idxG_lst {i : Nat} : ∀ {o : List Nat} {k e : Nat} {l : List (U e)}, (idxG i k o : Sb U) ≠ .lst e l
  | [], _, _, _ => by intro h; cases h
  | x :: r, k, e, l => by
    unfold idxG
    split
    · intro h; cases h
    · exact idxG_lst
theorem nodup_inj {o : List Nat} (h : o.Nodup) {i j : Nat} (hi : i < o.length) (hj : j < o.length) (e : o[i] = o[j]) : i = j := by
  have hp := List.pairwise_iff_getElem.1 h
  rcases Nat.lt_trichotomy i j with hlt | he | hlt
  · exact absurd e (hp i j hi hj hlt)
  · exact he
  · exact absurd e.symm (hp j i hj hi hlt)
section
variable {X : Univ U} {w0 w : World} {N0 : Nat → Prop} {B0 : Nat → Th} {th : Nat → Th} {st : S U} {a : Act}
def thAt (th : Nat → Th) (o : List Nat) (j : Nat) : Th := match o[j]? with | some i => th i | none => .none
theorem nn_at {o : List Nat} {b : Nat} (h : NN N0 (thAt th o) b) : NN N0 th b := by
  rcases h with h | ⟨j, c, h⟩
  · exact .inl h
  · unfold thAt at h
    split at h
    · exact .inr ⟨_, c, h⟩
    · cases h
theorem sbOK_idx (o : List Nat) : SbOK X w (NN N0 (thAt th o)) th (thAt th o) (fun i => idxG i 0 o) := by
  intro i
  cases hg : (idxG i 0 o : Sb U) with
  | drop => simp only [hg]
  | num j =>
    obtain ⟨_, h2⟩ := idxG_num hg
    simp only [Nat.sub_zero] at h2
    simp only [hg]
    unfold thAt; rw [h2]
  | lst e l => exact absurd hg idxG_lst
theorem subO_rel (cl : Closed X) (ps : ∀ e, 0 < X.z e) {N N' : Nat → Prop} {th' : Nat → Th} {g : Nat → Sb U} (hN : ∀ b, N' b → N b) (hg : SbOK X w N' th th' g) {i j : Nat} {x : AO U} (hij : th' j = th i) (h : ORel X w N th i x) : ORel X w N' th' j (subO g x) := by
  have hv : ∀ {x : AV U} {v : Value}, VRel X w N th x v → VRel X w N' th' (sub 8 g x) v := fun h => sub_rel cl ps hN hg h 8
  cases x with
  | dead => exact hij.trans h
  | box cs =>
    obtain ⟨b, T, cur, h1, h2, h3, h4⟩ := h
    exact ⟨b, T, cur, hij.trans h1, h2, by simpa using h3, fun k hk => by rw [map_getD _ _ _ (by simpa using hk)]; exact hv (h4 k (by simpa using hk))⟩
  | row e l =>
    rcases h with ⟨h1, h2⟩ | ⟨b, cap, cur, h1, h2, h3, h4, h5, h6⟩
    · exact .inl ⟨hij.trans h1, h2⟩
    · refine .inr ⟨b, cap, cur, hij.trans h1, h2, h3, h4, h5, fun q hq k hk => ?_⟩
      have := hv (h6 q hq k hk)
      rw [sub_free g 8 _ (Closed.cell cl e _ k)] at this; exact this
  | hole => exact hij.trans h
  | mp kt e l =>
    obtain ⟨b, mes, clock, h1, h2, h3, h4⟩ := h
    refine ⟨b, mes, clock, hij.trans h1, h2, h3, fun k hk => ?_⟩
    obtain ⟨m, m1, m2, m3⟩ := h4 k hk
    exact ⟨m, m1, m2, enc_rel cl ps hN m3⟩
theorem renum_mem (cl : Closed X) (ps : ∀ e, 0 < X.z e) {h : List (AO U)} (m : Mem X w0 N0 B0 th h w) {o : List Nat} (ho : o.Nodup ∧ ∀ j ∈ o, j < h.length) (hp : ∀ j, B0 j = .none ∨ o[j]? = some j) :
    Mem X w0 N0 B0 (thAt th o) (o.map fun i => subO (fun i => idxG i 0 o) (h.getD i .dead)) w where
  objs := fun j hj => by
    have hj' : j < o.length := by simpa using hj
    have e1 : (o.map fun i => subO (fun i => idxG i 0 o) (h.getD i .dead)).getD j .dead = subO (fun i => idxG i 0 o) (h.getD o[j] .dead) := by
      rw [List.getD_eq_getElem?_getD, List.getElem?_map, List.getElem?_eq_getElem hj']; rfl
    rw [e1]
    exact subO_rel cl ps (fun b => nn_at) (sbOK_idx o) (i := o[j]) (by unfold thAt; rw [List.getElem?_eq_getElem hj']) (m.objs o[j] (ho.2 _ (List.getElem_mem hj')))
  out := fun j hj => by
    have hj' : o.length ≤ j := by simpa using hj
    unfold thAt; rw [List.getElem?_eq_none hj']
  own := fun j b c hj => by
    unfold thAt at hj
    split at hj
    · exact m.own _ b c hj
    · cases hj
  inj := fun i j b c d hi hj => by
    unfold thAt at hi hj
    split at hi
    · rename_i i' hi'
      split at hj
      · rename_i j' hj'
        have e := m.inj i' j' b c d hi hj
        subst e
        obtain ⟨a1, a2⟩ := List.getElem?_eq_some_iff.1 hi'
        obtain ⟨b1, b2⟩ := List.getElem?_eq_some_iff.1 hj'
        exact nodup_inj ho.1 a1 b1 (a2.trans b2.symm)
      · cases hj
    · cases hi
  n0 := m.n0
  size := m.size
  os := m.os
  tape := m.tape
  output := m.output
  glob := fun g => free_rel cl ps (fun b => nn_at) (cl.gl g) (m.glob g)
  gv := m.gv
  pin := fun j => by
    rcases hp j with h | h
    · exact .inl h
    · unfold thAt; rw [h]; exact m.pin j
  keep := m.keep
theorem renum_ok (cl : Closed X) (ps : ∀ e, 0 < X.z e) (rel : RelT X w0 N0 B0 th st a w) {o : List Nat} (ho : o.Nodup ∧ ∀ j ∈ o, j < st.h.length) (hp : ∀ j, B0 j = .none ∨ o[j]? = some j) : RelT X w0 N0 B0 (thAt th o) (renum o st) a w where
  len := by simpa [renum] using rel.len
  slots := fun i => by
    by_cases hi : i < st.s.length
    · have : (renum o st).s.getD i .undef = sub 8 (fun i => idxG i 0 o) (st.s.getD i .undef) := map_getD _ _ _ hi
      rw [this]
      exact sub_rel cl ps (fun b => nn_at) (sbOK_idx o) (rel.slots i) 8
    · have : (renum o st).s.getD i .undef = .undef := by
        rw [List.getD_eq_getElem?_getD, List.getElem?_eq_none (by simp [renum]; omega)]; rfl
      rw [this]; exact .undef _
  mem := renum_mem cl ps rel.mem ho hp
  defers := rel.defers
theorem ins_pre {n : Nat} {o : List Nat} {j : Nat} (i : Nat) (h : o[j]? = some j) : (ins n o i)[j]? = some j := by
  unfold ins
  split
  · exact h
  · rw [List.getElem?_append_left (List.getElem?_eq_some_iff.1 h).1]; exact h
theorem insAll_pre {n j : Nat} : ∀ (l o : List Nat), o[j]? = some j → (insAll n o l)[j]? = some j
  | [], _, h => h
  | i :: l, o, h => insAll_pre l (ins n o i) (ins_pre i h)
theorem close_pre {h : List (AO U)} {j : Nat} : ∀ (k : Nat) (o : List Nat), o[j]? = some j → (close h k o)[j]? = some j
  | 0, _, hh => hh
  | k + 1, _, hh => close_pre k _ (insAll_pre _ _ hh)
theorem insAll_range {n : Nat} : ∀ k, k ≤ n → insAll n [] (List.range k) = List.range k
  | 0, _ => rfl
  | k + 1, h => by
    have ih := insAll_range (n := n) k (by omega)
    rw [List.range_succ]
    unfold insAll at ih ⊢
    rw [List.foldl_append, ih]
    show ins n (List.range k) k = _
    unfold ins
    rw [if_neg (by simp; omega)]
theorem own_lt {h : List (AO U)} (m : Mem X w0 N0 B0 th h w) {j : Nat} (hj : B0 j ≠ .none) : j < h.length := by
  refine Nat.lt_of_not_le fun hle => ?_
  rcases m.pin j with h1 | h1 | h1
  · exact hj h1
  · rw [m.out j hle] at h1; exact hj h1.symm
  · rw [m.out j hle] at h1; cases h1
theorem canonK_ok (cl : Closed X) (ps : ∀ e, 0 < X.z e) (rel : RelT X w0 N0 B0 th st a w) (k : Nat) (hk : ∀ j, k ≤ j → B0 j = .none) : ∃ th', RelT X w0 N0 B0 th' (canonK k st) a w := by
  refine ⟨_, renum_ok cl ps rel (close_ok _ _ (insAll_ok _ _ (insAll_ok _ _ ⟨List.nodup_nil, fun j h => by cases h⟩))) fun j => ?_⟩
  by_cases hj : B0 j = .none
  · exact .inl hj
  · have h1 := own_lt rel.mem hj
    have h2 : j < k := Nat.lt_of_not_le fun hle => hj (hk j hle)
    refine .inr (close_pre _ _ (insAll_pre _ _ ?_))
    have key : ∀ k, j < k → (insAll st.h.length [] (List.range k))[j]? = some j := by
      intro k
      induction k with
      | zero => intro h; omega
      | succ k ih =>
        intro hlt
        rw [List.range_succ]
        unfold insAll at ih ⊢
        rw [List.foldl_append]
        by_cases e : j < k
        · exact ins_pre k (ih e)
        · have e' : j = k := by omega
          subst e'
          have := insAll_range (n := st.h.length) j (by omega)
          unfold insAll at this
          rw [this]
          show (ins st.h.length (List.range j) j)[j]? = _
          unfold ins
          rw [if_neg (by simp; omega)]
          rw [List.getElem?_append_right (by simp)]; simp
    exact key k h2
theorem dropL_getD (ks : List Nat) : ∀ (l : List (AV U)) (k i : Nat), (dropL ks k l).getD i .undef = .undef ∨ (dropL ks k l).getD i .undef = l.getD i .undef
  | [], _, _ => .inr rfl
  | v :: r, k, 0 => by
    unfold dropL
    split
    · exact .inr rfl
    · exact .inl rfl
  | v :: r, k, i + 1 => by
    unfold dropL
    simpa only [List.getD_cons_succ] using dropL_getD ks r (k + 1) i
theorem dropL_len (ks : List Nat) : ∀ (l : List (AV U)) (k : Nat), (dropL ks k l).length = l.length
  | [], _ => rfl
  | v :: r, k => by simp [dropL, dropL_len ks r (k + 1)]
theorem drop_ok (ks : List Nat) (rel : RelT X w0 N0 B0 th st a w) : RelT X w0 N0 B0 th ⟨dropL ks 0 st.s, st.h⟩ a w where
  len := by simpa [dropL_len] using rel.len
  slots := fun i => by
    rcases dropL_getD ks st.s 0 i with h | h
    · rw [h]; exact .undef _
    · rw [h]; exact rel.slots i
  mem := rel.mem
  defers := rel.defers
end
end Go.Abs
namespace Go.Abs
open Go Go.RowKit
variable {U : Nat → Type} {R : Type}
def frzG (i e : Nat) (l : List (U e)) (j : Nat) : Sb U := if j == i then .lst e l else .num j
def frzRow (i e : Nat) (l : List (U e)) (st : S U) : S U := ⟨st.s.map (sub 8 (frzG i e l)), (st.h.map (subO (frzG i e l))).set i .dead⟩
def frz1 (i : Nat) (p : S U × List (AV U)) : S U × List (AV U) :=
  match p.1.h.getD i .dead with
  | .row e l => (frzRow i e l p.1, p.2.map (sub 8 (frzG i e l)))
  | _ => p
def frzAll (l : List Nat) (p : S U × List (AV U)) : S U × List (AV U) := l.foldl (fun p i => frz1 i p) p
def gRow (h : List (AO U)) (i : Nat) : Sb U := match h.getD i .dead with | .row e l => .lst e l | _ => .drop
def lend (h : List (AO U)) (x : AV U) : AV U := nrm 8 (sub 8 (gRow h) x)
def lend2 (x : AV U) : AV U := nrm 8 (sub 8 (fun _ => .drop) x)
def plainV : Nat → AV U → Bool
  | _, .bool _ => true
  | _, .int _ _ => true
  | _, .str _ => true
  | _, .val _ => true
  | d + 1, .agg cs => cs.all (plainV d)
  | d + 1, .tup cs => cs.all (plainV d)
  | d + 1, .ifc _ v => plainV d v
  | d + 1, .fn _ cs => cs.all (plainV d)
  | _, _ => false
def noTh : Nat → Th := fun _ => Th.none
section
variable {X : Univ U} {w0 w w' : World} {N0 N N' : Nat → Prop} {B0 : Nat → Th} {th th' : Nat → Th} {st : S U} {a : Act} {h : List (AO U)}
theorem plain_any : ∀ (d : Nat) {x : AV U} {v : Value}, plainV d x = true → VRel X w N th x v → VRel X w' N' th' x v := by
  intro d
  induction d with
  | zero => intro x v hp hx; cases hx <;> first | exact .bool _ | exact .int _ _ | exact .str _ | (rename_i h; exact .val _ h) | (simp [plainV] at hp)
  | succ d ih =>
    have hl : ∀ {cs : List (AV U)} {vs : Array Value}, cs.all (plainV d) = true → (∀ j, j < cs.length → VRel X w N th (cs.getD j .undef) (vs.getD j undef)) → ∀ j, j < cs.length → VRel X w' N' th' (cs.getD j .undef) (vs.getD j undef) := fun {cs vs} ha hr j hj => by
      refine ih (List.all_eq_true.1 ha _ ?_) (hr j hj)
      rw [List.getD_eq_getElem?_getD, List.getElem?_eq_getElem hj]
      exact List.getElem_mem hj
    intro x v hp hx
    cases hx with
    | bool b => exact .bool b
    | int k n => exact .int k n
    | str s => exact .str s
    | val v h => exact .val v h
    | agg cs vs hs h => exact .agg cs vs hs (hl hp h)
    | tup cs vs hs h => exact .tup cs vs hs (hl hp h)
    | ifc t x v h => exact .ifc t x v (ih hp h)
    | fn f cs vs hs h => exact .fn f cs vs hs (hl hp h)
    | _ => simp [plainV] at hp
theorem closed_rel (cl : Closed X) (ps : ∀ e, 0 < X.z e) (hN : ∀ b, N' b → N b) {e : Nat} {y : U e} {k : Nat} {v : Value} (h : VRel X w N th ((cellsOf (X.enc e y)).getD k .undef) v) : VRel X w N' th' ((cellsOf (X.enc e y)).getD k .undef) v := by
  have := sub_rel (N' := N') (th' := th') (g := fun _ => .drop) cl ps hN (fun _ => trivial) h 8
  rw [sub_free _ 8 _ (Closed.cell cl e _ k)] at this; exact this
theorem row_lst (cl : Closed X) (ps : ∀ e, 0 < X.z e) (m : Mem X w0 N0 B0 th h w) (hN : ∀ b, N' b → NN N0 th b) {i e : Nat} {l : List (U e)} (ho : h.getD i .dead = .row e l) (hni : ∀ b c, th i = .blk b c → ¬ N' b) :
    th i = .nil ∧ l = [] ∨ ∃ b cap, ∃ vs : Nat → Value, th i = .blk b (cap, l.length) ∧ ¬ N' b ∧ (∀ k, k < l.length * X.z e → w.cell? ⟨b, 0 + k, none⟩ = some (vs k)) ∧
      ∀ j (_ : j < l.length) k, k < X.z e → VRel X w N' th' ((cellsOf (X.enc e l[j])).getD k .undef) (vs (j * X.z e + k)) := by
  rcases m.row_at ho with h1 | ⟨b, cap, cur, h1, h2, h3, h4, h5, h6⟩
  · exact .inl h1
  · refine .inr ⟨b, cap, fun k => cur.getD k undef, h1, hni b _ h1, fun k hk => ?_, fun j hj k hk => closed_rel cl ps hN (h6 j hj k hk)⟩
    have hlt : k < cur.size := by
      exact Nat.lt_of_lt_of_le hk (Nat.le_trans (Nat.mul_le_mul_right _ h5) h4)
    simp [World.cell?, h2, hlt]
theorem nn_kill {i b : Nat} (h : NN N0 (thNew th i .dead) b) : NN N0 th b := by
  rcases h with h | ⟨j, c, h⟩
  · exact .inl h
  · by_cases e : j = i
    · subst e; rw [thNew_same] at h; cases h
    · rw [thNew_other _ _ e] at h; exact .inr ⟨j, c, h⟩
theorem frz_sb (cl : Closed X) (ps : ∀ e, 0 < X.z e) (m : Mem X w0 N0 B0 th h w) {i e : Nat} {l : List (U e)} (ho : h.getD i .dead = .row e l) : SbOK X w (NN N0 (thNew th i .dead)) th (thNew th i .dead) (frzG i e l) := by
  intro j
  unfold frzG
  by_cases hj : j = i
  · subst hj
    simp only [beq_self_eq_true, if_true]
    refine row_lst cl ps m (fun b => nn_kill) ho fun b c hb hn => ?_
    rcases hn with hn | ⟨k, d, hk⟩
    · exact (m.own j b c hb).2.2 hn
    · by_cases e : k = j
      · subst e; rw [thNew_same] at hk; cases hk
      · rw [thNew_other _ _ e] at hk; exact e (m.inj k j b d c hk hb)
  · have : (j == i) = false := by simpa using hj
    simp only [this, Bool.false_eq_true, if_false]
    exact thNew_other _ _ hj
theorem frzRow_ok (cl : Closed X) (ps : ∀ e, 0 < X.z e) (rel : RelT X w0 N0 B0 th st a w) {i e : Nat} {l : List (U e)} (ho : st.h.getD i .dead = .row e l) : RelT X w0 N0 B0 (thNew th i .dead) (frzRow i e l st) a w := by
  have m := rel.mem
  have hs := frz_sb cl ps m ho
  have hil := getD_alive ho (by simp)
  have hlen : ((st.h.map (subO (frzG i e l))).set i .dead).length = st.h.length := by simp
  refine ⟨by simpa [frzRow] using rel.len, fun j => ?_, ?_, rel.defers⟩
  · by_cases hj : j < st.s.length
    · have : (frzRow i e l st).s.getD j .undef = sub 8 (frzG i e l) (st.s.getD j .undef) := map_getD _ _ _ hj
      rw [this]; exact sub_rel cl ps (fun b => nn_kill) hs (rel.slots j) 8
    · have : (frzRow i e l st).s.getD j .undef = .undef := by
        rw [List.getD_eq_getElem?_getD, List.getElem?_eq_none (by simp [frzRow]; omega)]; rfl
      rw [this]; exact .undef _
  · exact {
      objs := fun j hj => by
        have hj' : j < st.h.length := by simpa [frzRow] using hj
        by_cases e1 : j = i
        · subst e1
          have : (frzRow j e l st).h.getD j .dead = .dead := getD_set_same _ _ _ (by simpa using hil)
          rw [this]; exact thNew_same _ _ _
        · have : (frzRow i e l st).h.getD j .dead = subO (frzG i e l) (st.h.getD j .dead) := by
            show ((st.h.map (subO (frzG i e l))).set i .dead).getD j .dead = _
            rw [getD_set_other _ _ _ _ e1, List.getD_eq_getElem?_getD, List.getElem?_map, List.getD_eq_getElem?_getD, List.getElem?_eq_getElem hj']; rfl
          rw [this]
          exact subO_rel cl ps (fun b => nn_kill) hs (thNew_other _ _ e1) (m.objs j hj')
      out := fun j hj => by
        have hj' : st.h.length ≤ j := by simpa [frzRow] using hj
        rw [thNew_other _ _ (by omega)]; exact m.out j hj'
      own := fun j b c hj => by
        by_cases e1 : j = i
        · subst e1; rw [thNew_same] at hj; cases hj
        · rw [thNew_other _ _ e1] at hj; exact m.own j b c hj
      inj := fun j k b c d hj hk => by
        by_cases e1 : j = i
        · subst e1; rw [thNew_same] at hj; cases hj
        · by_cases e2 : k = i
          · subst e2; rw [thNew_same] at hk; cases hk
          · rw [thNew_other _ _ e1] at hj; rw [thNew_other _ _ e2] at hk; exact m.inj j k b c d hj hk
      gv := m.gv, n0 := m.n0, size := m.size, os := m.os, tape := m.tape, output := m.output, keep := m.keep, glob := fun g' => free_rel cl ps (fun b => nn_kill) (cl.gl g') (m.glob g'), pin := pin_step m.pin (fun j => by
        by_cases e1 : j = i
        · subst e1; exact .inr (.inr (thNew_same _ _ _))
        · exact .inr (.inl (thNew_other _ _ e1))) }
def ArgsRel (X : Univ U) (w : World) (N : Nat → Prop) (th : Nat → Th) (args : List (AV U)) (vs : Array Value) : Prop := ∀ j, j < args.length → VRel X w N th (args.getD j .undef) (vs.getD j undef)
theorem frzAll_ok (cl : Closed X) (ps : ∀ e, 0 < X.z e) {vs : Array Value} : ∀ (l : List Nat) (th : Nat → Th) (p : S U × List (AV U)), RelT X w0 N0 B0 th p.1 a w → ArgsRel X w (NN N0 th) th p.2 vs →
    ∃ th', RelT X w0 N0 B0 th' (frzAll l p).1 a w ∧ ArgsRel X w (NN N0 th') th' (frzAll l p).2 vs ∧ (frzAll l p).2.length = p.2.length
  | [], th, p, h1, h2 => ⟨th, h1, h2, rfl⟩
  | i :: l, th, p, h1, h2 => by
    have step : ∃ th', RelT X w0 N0 B0 th' (frz1 i p).1 a w ∧ ArgsRel X w (NN N0 th') th' (frz1 i p).2 vs ∧ (frz1 i p).2.length = p.2.length := by
      unfold frz1
      split
      · rename_i e l ho
        refine ⟨_, frzRow_ok cl ps h1 ho, fun j hj => ?_, by simp⟩
        have hj' : j < p.2.length := by simpa using hj
        show VRel _ _ _ _ ((p.2.map (sub 8 (frzG i e l))).getD j .undef) _
        rw [map_getD _ _ _ hj']
        exact sub_rel cl ps (fun b => nn_kill) (frz_sb cl ps h1.mem ho) (h2 j hj') 8
      · exact ⟨th, h1, h2, rfl⟩
    obtain ⟨th1, g1, g2, g3⟩ := step
    obtain ⟨th2, k1, k2, k3⟩ := frzAll_ok cl ps l th1 (frz1 i p) g1 g2
    exact ⟨th2, k1, k2, k3.trans g3⟩
theorem lend_rel (cl : Closed X) (ps : ∀ e, 0 < X.z e) (m : Mem X w0 N0 B0 th h w) {x : AV U} {v : Value} (hx : VRel X w (NN N0 th) th x v) : VRel X w N0 noTh (lend h x) v := by
  refine nrm_rel (sub_rel cl ps (fun b hb => .inl hb) (fun i => ?_) hx 8) 8
  unfold gRow
  split
  · trivial
  · rename_i j hj
    split at hj <;> cases hj
  · rename_i e l hj
    split at hj
    · rename_i e' l' ho
      injection hj with h1 h2; subst h1; cases h2
      exact row_lst cl ps m (fun b hb => .inl hb) ho fun b c hb => (m.own i b c hb).2.2
    · cases hj
theorem lend2_rel (cl : Closed X) (ps : ∀ e, 0 < X.z e) {x : AV U} {v : Value} (hx : VRel X w (NN N0 th) th x v) : VRel X w (NN N0 th) noTh (lend2 x) v :=
  nrm_rel (sub_rel cl ps (fun _ h => h) (fun _ => trivial) hx 8) 8
theorem below_ok (rel : RelT X w0 N0 B0 th st a w) (hb : Below w.heap.size w w') : RelT X w0 N0 B0 th st a w' ∧ Carries X N0 w w' th th := by
  have hc : Carries X N0 w w' th th := carries2 hb.size (fun b hlt _ => hb.block b hlt) (fun _ => .inr (.inl rfl)) (fun _ h => .inl h)
  refine ⟨⟨rel.len, fun i => hc _ _ (rel.slots i), ?_, rel.defers⟩, hc⟩
  have m := rel.mem
  exact m.step2 hb.size hb.os hb.tape hb.output (fun b hlt _ => hb.block b hlt) (fun _ => .inr (.inl rfl)) (fun _ h => .inl h) (fun i hi => (m.objs i hi).mono rfl (fun b c hbc => hb.block b (m.own i b c hbc).2.1) hc) m.out m.inj
end
end Go.Abs
namespace Go.Abs
open Go
variable {U : Nat → Type} {R : Type}
abbrev Prim (U : Nat → Type) (R : Type) := Nat → List (AV U) → S U → (AV U → S U → Option R) → Option R
def evArgs (P : Program) (st : S U) : List Operand → List TypeId → List (AV U)
  | [], _ => []
  | x :: xs, t :: ts => evT P st t x :: evArgs P st xs ts
  | x :: xs, [] => ev st x :: evArgs P st xs []
def hasBody (P : Program) (n : Nat) : Bool :=
  match P.funcs[n]? with
  | some fn => !(fn.name == "runtime.NumGoroutine") && !fn.body.isNone
  | none => false
def preL (st : S U) (o : Oper) : List Nat :=
  match o.op with
  | .buildSlice _ _ parts => parts.toList.flatMap fun p => refsA 8 (ev st p.2)
  | .store _ a x => (match ev st a with | .prow _ _ _ _ => refsA 8 (ev st x) | _ => [])
  | .mapUpdate _ _ _ y => refsA 8 (ev st y)
  | _ => []
def pre (st : S U) (o : Oper) : S U := (frzAll (preL st o) (st, [])).1
def exec1 (P : Program) (X : Univ U) (prim : Prim U R) (o : Oper) (st : S U) (K : AV U → S U → Option R) : Option R :=
  match o.op with
  | .call c =>
    match c.callee with
    | .value f => (match ev st f with | .fn n cap => if hasBody P n then prim n (evArgs P st c.args.toList c.argTypes.toList ++ cap) st K else none | _ => none)
    | _ => stepM P X o st fun v h => K v ⟨st.s, h⟩
  | _ => stepM P X o (pre st o) fun v h => K v ⟨(pre st o).s, h⟩
def skAdd (d : Option Tmp) (sk : List Nat) : List Nat := match d with | some d => d :: sk | none => sk
def skDel (d : Option Tmp) (sk : List Nat) : List Nat := match d with | some d => sk.filter (· != d) | none => sk
def opsC (P : Program) (X : Univ U) (prim : Prim U R) (all : List Oper) : List Nat → List Oper → S U → (S U → Option R) → Option R
  | _, [], st, K => K st
  | sk, o :: rest, st, K =>
    match o.guard with
    | none => exec1 P X prim o st fun v st' => opsC P X prim all (skDel o.dst sk) rest (put st' o.dst v st'.h) K
    | some (j, want) =>
      match (all[j]?).bind (·.dst) with
      | none => none
      | some d =>
        cond (sk.contains d) (opsC P X prim all (skAdd o.dst sk) rest (put st o.dst .undef st.h) K)
        (match st.s.getD d .undef with
        | .bool t =>
          cond t
            (if want then exec1 P X prim o (put st (some d) (.bool true) st.h) fun v st' => opsC P X prim all (skDel o.dst sk) rest (put st' o.dst v st'.h) K
             else opsC P X prim all (skAdd o.dst sk) rest (put (put st (some d) (.bool true) st.h) o.dst .undef st.h) K)
            (if want then opsC P X prim all (skAdd o.dst sk) rest (put (put st (some d) (.bool false) st.h) o.dst .undef st.h) K
             else exec1 P X prim o (put st (some d) (.bool false) st.h) fun v st' => opsC P X prim all (skDel o.dst sk) rest (put st' o.dst v st'.h) K)
        | _ => none)
def PrimOK (P : Program) (X : Univ U) (prim : Prim U R) : Prop :=
  ∀ n args (st : S U) K r, prim n args st K = some r → ∃ v st', K v st' = some r ∧
    ∀ w0 N0 B0 th a w (vs : Array Value), RelT X w0 N0 B0 th st a w → vs.size = args.length →
      (∀ j, j < args.length → VRel X w (NN N0 th) th (args.getD j .undef) (vs.getD j undef)) →
      Calls P n vs w (fun e w' => ∃ u th', e = .returned u ∧ RelT X w0 N0 B0 th' st' a w' ∧ VRel X w' (NN N0 th') th' v u)
section
variable {P : Program} {X : Univ U} {prim : Prim U R} {w0 w : World} {N0 : Nat → Prop} {B0 : Nat → Th} {th : Nat → Th} {st : S U} {a : Act} {r : R}
theorem RelT.after (rel : RelT X w0 N0 B0 th st a w) (d : Option Tmp) {v : AV U} {u : Value} {h' : List (AO U)} {w' : World} {th' : Nat → Th} (m : Mem X w0 N0 B0 th' h' w') (hc : Carries X N0 w w' th th') (hv : VRel X w' (NN N0 th') th' v u) :
    RelT X w0 N0 B0 th' (Abs.put st d v h') (a.put d u) w' := by
  have r1 : RelT X w0 N0 B0 th' ⟨st.s, h'⟩ a w' := ⟨rel.len, fun i => hc _ _ (rel.slots i), m, rel.defers⟩
  have := r1.put d hv
  cases d <;> exact this
end
end Go.Abs
namespace Go.Abs
open Go
variable {U : Nat → Type} {R : Type}
section
variable {P : Program} {X : Univ U} {prim : Prim U R} {w0 w : World} {N0 : Nat → Prop} {B0 : Nat → Th} {th : Nat → Th} {st : S U} {a : Act} {r : R}
theorem evArgs_ok (rel : RelT X w0 N0 B0 th st a w) : ∀ (xs : List Operand) (ts : List TypeId), (evArgs P st xs ts).length = xs.length ∧
    ∀ j, j < xs.length → VRel X w (NN N0 th) th ((evArgs P st xs ts).getD j .undef) ((xs.map a.eval).getD j undef)
  | [], _ => ⟨rfl, fun j h => by simp at h⟩
  | x :: xs, t :: ts => by
    obtain ⟨h1, h2⟩ := evArgs_ok rel xs ts
    refine ⟨by simp [evArgs, h1], fun j hj => ?_⟩
    cases j with
    | zero => exact evT_rel rel t x
    | succ j => exact h2 j (by simpa using hj)
  | x :: xs, [] => by
    obtain ⟨h1, h2⟩ := evArgs_ok rel xs []
    refine ⟨by simp [evArgs, h1], fun j hj => ?_⟩
    cases j with
    | zero => exact rel.ev x
    | succ j => exact h2 j (by simpa using hj)
theorem run_callFunc {n : Nat} (h : hasBody P n = true) (args : Array Value) : (callFunc n args).run P w = .ok (.enter n args) w := by
  unfold hasBody at h
  cases hf : P.funcs[n]? with
  | none => rw [hf] at h; cases h
  | some fn =>
    rw [hf] at h
    simp only [Bool.and_eq_true, Bool.not_eq_true'] at h
    simp only [callFunc, Sem.run_bind, run_program, Result.andThen_ok, hf, h.1, h.2]
    simp
theorem put_st (rel : RelT X w0 N0 B0 th st a w) (d : Option Tmp) {v : AV U} {u : Value} (hv : VRel X w (NN N0 th) th v u) : RelT X w0 N0 B0 th (Abs.put st d v st.h) (a.put d u) w := rel.put d hv
theorem exec1_ok (law : Good X) (pok : PrimOK P X prim) {o : Oper} {K : AV U → S U → Option R} (h : exec1 P X prim o st K = some r) (rel : RelT X w0 N0 B0 th st a w)
    {K' : Act → World → Prop} {Q : Exit → Act → World → Prop} (hK : ∀ v st' u w' th', K v st' = some r → RelT X w0 N0 B0 th' (Abs.put st' o.dst v st'.h) (a.put o.dst u) w' → K' (a.put o.dst u) w') : o.wp P a w K' Q := by
  have base : stepM P X o st (fun v h => K v ⟨st.s, h⟩) = some r → o.wp P a w K' Q := fun h => by
    obtain ⟨v, h', hk, ⟨u, w', th', hrun, m, hc, hv⟩⟩ := stepM_ok law h rel
    have := hK v ⟨st.s, h'⟩ u w' th' hk (rel.after o.dst m hc hv)
    rcases hrun with hr | ⟨hr, e⟩
    · exact wp_value hr this
    · subst e; exact wp_skip_ hr this
  have base2 : stepM P X o (pre st o) (fun v h => K v ⟨(pre st o).s, h⟩) = some r → o.wp P a w K' Q := fun h => by
    obtain ⟨th1, rel1, _, _⟩ := frzAll_ok law.closed law.pos (vs := #[]) (preL st o) th (st, []) rel (fun j hj => by simp at hj)
    obtain ⟨v, h', hk, ⟨u, w', th', hrun, m, hc, hv⟩⟩ := stepM_ok law h rel1
    have := hK v ⟨(pre st o).s, h'⟩ u w' th' hk (rel1.after o.dst m hc hv)
    rcases hrun with hr | ⟨hr, e⟩
    · exact wp_value hr this
    · subst e; exact wp_skip_ hr this
  unfold exec1 at h
  split at h
  · rename_i c hop
    split at h
    · rename_i f hf
      split at h
      · rename_i n cap ef
        split at h
        · rename_i hb
          have hfv := rel.ev f
          rw [ef] at hfv
          generalize hu : a.eval f = u at hfv
          cases hfv with
          | fn _ _ vs hs hj =>
            obtain ⟨e1, e2⟩ := evArgs_ok (P := P) rel c.args.toList c.argTypes.toList
            obtain ⟨v, st', hk, hcalls'⟩ := pok n _ _ _ _ h
            have hcalls := hcalls' w0 N0 B0 th a w (c.args.map a.eval ++ vs) rel (by simp [e1, hs]) (by
              intro j hj'
              rw [List.length_append, e1] at hj'
              by_cases hlt : j < c.args.toList.length
              · have := e2 j hlt
                have l1 : (evArgs P st c.args.toList c.argTypes.toList ++ cap).getD j .undef = (evArgs P st c.args.toList c.argTypes.toList).getD j .undef := by
                  rw [List.getD_eq_getElem?_getD, List.getD_eq_getElem?_getD, List.getElem?_append_left (by omega)]
                have l2 : (c.args.map a.eval ++ vs).getD j undef = (c.args.toList.map a.eval).getD j undef := by
                  rw [Array.getD_eq_getD_getElem?, List.getD_eq_getElem?_getD, Array.getElem?_append_left (by simpa using hlt)]
                  simp
                rw [l1, l2]; exact this
              · have := hj (j - c.args.toList.length) (by omega)
                have l1 : (evArgs P st c.args.toList c.argTypes.toList ++ cap).getD j .undef = cap.getD (j - c.args.toList.length) .undef := by
                  rw [List.getD_eq_getElem?_getD, List.getD_eq_getElem?_getD, List.getElem?_append_right (by omega), e1]
                have l2 : (c.args.map a.eval ++ vs).getD j undef = vs.getD (j - c.args.toList.length) undef := by
                  rw [Array.getD_eq_getD_getElem?, Array.getD_eq_getD_getElem?, Array.getElem?_append_right (by simpa using hlt)]
                  simp
                rw [l1, l2]; exact this)
            have hx : (execOp a.eval o).run P w = .ok (.enter n (c.args.map a.eval ++ vs)) w := by
              obtain ⟨dst, op, ty, pos, after, guard⟩ := o
              simp only at hop
              subst hop
              simp only [execOp, resolve, hf, hu, Deferred.ofValue, pure_bind, invoke]
              rw [show (#[] ++ c.args.map a.eval : Array Value) = c.args.map a.eval by simp, run_callFunc hb]
            unfold Oper.wp
            rw [hx, Oper.upon_enter]
            refine hcalls.mono fun e w' hh => ?_
            obtain ⟨u', th', rfl, rel', hv⟩ := hh
            exact hK v st' u' w' th' hk (put_st rel' o.dst hv)
        · cases h
      · cases h
    · exact base h
  · exact base2 h
theorem bool_of (rel : RelT X w0 N0 B0 th st a w) {d : Nat} {t : Bool} (h : st.s.getD d .undef = .bool t) : a.tmps[d]? = some (.bool t) := by
  have := rel.slots d
  rw [h] at this
  rw [Array.getD_eq_getD_getElem?] at this
  cases hx : a.tmps[d]? with
  | none => rw [hx] at this; cases this
  | some v => rw [hx] at this; cases this; rfl
theorem put_same (rel : RelT X w0 N0 B0 th st a w) {d : Nat} {t : Bool} (h : st.s.getD d .undef = .bool t) : RelT X w0 N0 B0 th (Abs.put st (some d) (.bool t) st.h) a w := by
  have := rel.put (some d) (VRel.bool t)
  have e : a.put (some d) (.bool t) = a := by
    have hb := bool_of rel h
    unfold Act.put
    simp only
    congr 1
    apply Array.ext_getElem?
    intro i
    rw [Array.getElem?_setIfInBounds]
    split
    · rename_i e; subst e
      split
      · exact hb.symm
      · rename_i hn; rw [Array.getElem?_eq_none (by omega)]
    · rfl
  rw [e] at this; exact this
theorem tmp_put (a : Act) (dst : Option Tmp) (u : Value) (d : Nat) : (a.put dst u).tmps.getD d undef = if dst = some d ∧ d < a.tmps.size then u else a.tmps.getD d undef := by
  cases dst with
  | none => rw [if_neg (fun h => by cases h.1)]; rfl
  | some k =>
    show (a.tmps.setIfInBounds k u).getD d undef = _
    rw [Array.getD_eq_getD_getElem?, Array.getD_eq_getD_getElem?, Array.getElem?_setIfInBounds]
    by_cases e : k = d
    · subst e
      by_cases hlt : k < a.tmps.size
      · simp [hlt]
      · rw [if_pos rfl, if_neg hlt, if_neg (fun h => hlt h.2), Array.getElem?_eq_none (Nat.le_of_not_lt hlt)]
    · rw [if_neg e, if_neg (fun h => e (by injection h.1))]
theorem sk_del {a : Act} {sk : List Nat} (h : ∀ d ∈ sk, a.tmps.getD d undef = undef) (dst : Option Tmp) (u : Value) : ∀ d ∈ skDel dst sk, (a.put dst u).tmps.getD d undef = undef := by
  intro d hd
  rw [tmp_put]
  cases dst with
  | none => rw [if_neg (fun h => by cases h.1)]; exact h d hd
  | some k =>
    simp only [skDel, List.mem_filter, bne_iff_ne] at hd
    rw [if_neg (fun hh => hd.2 (by injection hh.1 with e; exact e.symm))]
    exact h d hd.1
theorem sk_add {a : Act} {sk : List Nat} (h : ∀ d ∈ sk, a.tmps.getD d undef = undef) (dst : Option Tmp) : ∀ d ∈ skAdd dst sk, (a.put dst undef).tmps.getD d undef = undef := by
  intro d hd
  rw [tmp_put]
  split
  · rfl
  · rename_i hn
    cases dst with
    | none => exact h d hd
    | some k =>
      simp only [skAdd, List.mem_cons] at hd
      rcases hd with hd | hd
      · subst hd
        have : ¬ d < a.tmps.size := fun hlt => hn ⟨rfl, hlt⟩
        rw [Array.getD_eq_getD_getElem?, Array.getElem?_eq_none (Nat.le_of_not_lt this)]; rfl
      · exact h d hd
theorem opsC_ok (law : Good X) (pok : PrimOK P X prim) {ops : Array Oper} {Q : Exit → Act → World → Prop} {K : S U → Option R} (hK : ∀ th st a w, K st = some r → RelT X w0 N0 B0 th st a w → Q .normal a w) :
    ∀ (l : List Oper) (sk : List Nat) (th : Nat → Th) (st : S U) (a : Act) (w : World), (∀ d ∈ sk, a.tmps.getD d undef = undef) → opsC P X prim ops.toList sk l st K = some r → RelT X w0 N0 B0 th st a w → wpList P ops Q l a w := by
  intro l
  induction l with
  | nil => intro sk th st a w _ h rel; exact wpList_nil (hK th st a w h rel)
  | cons o rest ih =>
    intro sk th st a w hsk h rel
    refine wpList_step fun K' hK' => ?_
    unfold opsC at h
    split at h
    · rename_i hg
      rw [if_pos (by simp [Region.wanted, hg])]
      exact exec1_ok law pok h rel fun v st' u w' th' hk rel' => hK' _ _ (ih _ th' _ _ _ (sk_del hsk o.dst u) hk rel')
    · rename_i j want hg
      split at h
      · cases h
      · rename_i d hd
        have hdd : (ops[j]?).bind (·.dst) = some d := by simpa using hd
        cases hc : sk.contains d with
        | true =>
          rw [hc] at h
          simp only [cond_true] at h
          have hu := hsk d (by simpa using hc)
          have hy : yielded ops a.tmps j = none := by
            unfold yielded
            rw [hdd]
            show (match a.tmps[d]? with | some (.bool b) => some b | _ => none) = none
            rw [Array.getD_eq_getD_getElem?] at hu
            cases hx : a.tmps[d]? with
            | none => rfl
            | some x => rw [hx] at hu; simp only [Option.getD_some] at hu; subst hu; rfl
          have hw : Region.wanted o (yielded ops a.tmps) = false := by
            simp only [Region.wanted, hg, hy]
            cases want <;> rfl
          rw [hw, if_neg (by decide)]
          exact hK' _ _ (ih _ th _ _ _ (sk_add hsk o.dst) h (rel.put o.dst (.undef _)))
        | false =>
        rw [hc] at h
        simp only [cond_false] at h
        split at h
        · rename_i t ht
          have hb := bool_of rel ht
          have hy : yielded ops a.tmps j = some t := by
            have : (ops[j]?).bind (·.dst) = some d := by simpa using hd
            unfold yielded
            rw [this]
            simp [hb]
          have hw : Region.wanted o (yielded ops a.tmps) = (t == want) := by
            simp only [Region.wanted, hg, hy]
            cases t <;> cases want <;> rfl
          have rel1 := put_same rel ht
          cases t <;> cases want <;> simp only [cond_true, cond_false, if_true, Bool.false_eq_true, if_false] at h <;> rw [hw] <;> first | rw [if_pos (by decide)] | rw [if_neg (by decide)]
          · exact exec1_ok law pok h rel1 fun v st' u w' th' hk rel' => hK' _ _ (ih _ th' _ _ _ (sk_del hsk o.dst u) hk rel')
          · exact hK' _ _ (ih _ th _ _ _ (sk_add hsk o.dst) h (rel1.put o.dst (.undef _)))
          · exact hK' _ _ (ih _ th _ _ _ (sk_add hsk o.dst) h (rel1.put o.dst (.undef _)))
          · exact exec1_ok law pok h rel1 fun v st' u w' th' hk rel' => hK' _ _ (ih _ th' _ _ _ (sk_del hsk o.dst u) hk rel')
        · cases h
end
end Go.Abs
