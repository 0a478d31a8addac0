/- Parts of the proof: PM4, MR4, PM5, MF, Pf141, Pf134, Pf142, Pf135, Pf118, Pf88, MN1, PT, Pf51, Pf69, Pf72, Pf71, Pf70n, Pf73, Pf129, Pf130, Pf131, Pf132, Pf133, Pf117, Pf101, Pf70d, Pf83, Pf84, Pf74, Pf52, Pf63, Pf64, Pf65, Pf86, Pf104, Pf105, Pf106, Pf89, Pf87, Pf76. -/
import Derived.Test.YthjnhkmojljlmaaK3
import Derived.Shelf.Strings.Repeat
import Derived.Shelf.Small.Strs
set_option linter.unusedVariables false
namespace Go.Abs.Z
open Go Go.Abs Go.Proofs
noncomputable section
abbrev R62 : Type := TI × (Int)
noncomputable def body62 : Go.Code := (Try.f62.body).getD Go.Code.skip
def h62 (p0 p1 : TI) : List (AO U) := []
def k62 : AV U → List (AO U) → Option R62 := fun v h => match v, h with | AV.tup [AV.imm 105 x0, AV.int IntKind.i64 x1], [] => some (x0, x1) | _, _ => none
def out62 : R62 → AV U := fun (x0, x1) => AV.tup [AV.imm 105 x0, AV.int IntKind.i64 x1]
def outh62 : R62 → List (AO U) := fun (x0, x1) => []
def D62 : Nat → Dir := dirs [(5, ⟨[6, 7], [], [], []⟩)]
def b62 (p0 p1 : TI) (c5 : TI → TI → Option R62)  : Option R62 :=
  (S61 p0).bind fun r0 =>
  cond (!r0)
  (some (([], 20)))
  ((S61 p1).bind fun r1 =>
  cond (!r1)
  (some (([], 20)))
  ((S81 p0).bind fun r2 =>
  (S81 p1).bind fun r3 =>
  c5 (r2) (r3)))
def m62_5 (p0 p1 v0 v1 : TI) : S U := S.mk [AV.undef, AV.undef, AV.undef, AV.undef, AV.undef, AV.undef, AV.imm 105 v0, AV.imm 105 v1, AV.undef, AV.undef, AV.undef, AV.undef, AV.undef, AV.undef, AV.undef, AV.undef, AV.undef, AV.undef, AV.undef, AV.undef, AV.undef, AV.undef, AV.undef, AV.undef, AV.undef, AV.undef, AV.undef, AV.undef, AV.undef, AV.undef, AV.undef, AV.undef, AV.undef, AV.undef, AV.undef, AV.undef] []
def b62_5 (p0 p1 : TI) (c5 : TI → TI → Option R62) (v0 v1 : TI) : Option R62 :=
  cond (decide ((↑v1.length : Int) > 0))
  ((S82 v0 v1).bind fun r0 =>
  c5 (v1) (r0.snd.fst))
  (some ((v0, 0)))
theorem hk62 : ∀ v h' r, k62 v h' = some r → v = out62 r ∧ h' = outh62 r := by
  intro v h' r h
  unfold k62 at h
  split at h
  · injection h with h; subst h; exact ⟨rfl, rfl⟩
  · cases h
abbrev q62 : Prim U R62 := prims X [⟨61, fun _ => true, [.lend], F61 S61⟩, ⟨81, fun _ => true, [.lend], F81 S81⟩, ⟨82, fun _ => true, [.lend, .lend], F82 S82⟩]
theorem s62 (c : Nat → S U → Option R62) (p0 p1 : TI) : seg TP X q62 [5] (fun q st => c q (keepD D62 (h62 p0 p1).length q st)) body62 (finH TP Try.f62.results.toList (h62 p0 p1).length false k62) (start [.imm 105 p0, .imm 105 p1] Try.f62.ntmps (h62 p0 p1)) = b62 p0 p1 (fun v0 v1 => c 5 (m62_5 p0 p1 v0 v1)) := by kernel_rfl
theorem s62_5 (c : Nat → S U → Option R62) (p0 p1 v0 v1 : TI) : res TP X q62 [5] (fun q st => c q (keepD D62 (h62 p0 p1).length q st)) 5 body62 (finH TP Try.f62.results.toList (h62 p0 p1).length false k62) (m62_5 p0 p1 v0 v1) = b62_5 p0 p1 (fun v0 v1 => c 5 (m62_5 p0 p1 v0 v1)) v0 v1 := by kernel_rfl
def f62_5 (p0 p1 : TI) : Nat → TI → TI → Option R62
  | 0 => fun _ _ => none
  | k + 1 => b62_5 p0 p1 (f62_5 p0 p1 k)
def f62 (k : Nat) (p0 p1 : TI) : Option R62 := b62 p0 p1 (f62_5 p0 p1 k)
theorem e62 (p0 p1 : TI) : ∀ k, ((fun v0 v1 => cutG TP X q62 [5] D62 (h62 p0 p1).length body62 (finH TP Try.f62.results.toList (h62 p0 p1).length false k62) k 5 (m62_5 p0 p1 v0 v1)) = f62_5 p0 p1 k)
  | 0 => rfl
  | k + 1 => by
    have ih := e62 p0 p1 k
    · funext v0 v1
      refine (if_pos (by kernel_rfl)).trans ?_
      rw [s62_5]
      simp only [ih]
      rfl
theorem pure62 (p0 p1 : TI) (pok : PrmOK TP X q62) (k : Nat) (r : R62) (h : f62 k p0 p1 = some r) : PureH TP X 62 [.imm 105 p0, .imm 105 p1] (h62 p0 p1) (out62 r) (outh62 r) :=
  pure_gen good k (fn := Try.f62) (body := body62) (prim := q62) (D := D62) (cuts := [5]) (h := h62 p0 p1) (own := false) (by kernel_rfl) (by kernel_rfl) (by decide +kernel) pok hk62 (by
    rw [s62]
    have ih := e62 p0 p1 k
    simp only [ih]
    exact h)
def F62 {R : Type} (spec : TI → TI → Option R62) : Fn U R := fun args h k => match args, h with | [.imm 105 p0, .imm 105 p1], [] => (spec p0 p1).bind fun r => k (out62 r) (outh62 r) | _, _ => none
theorem ok62 {R : Type} (spec : TI → TI → Option R62) (hp : ∀ (p0 : TI) (p1 : TI) (r : R62), spec p0 p1 = some r → PureH TP X 62 [.imm 105 p0, .imm 105 p1] (h62 p0 p1) (out62 r) (outh62 r)) : FnOK TP X 62 (F62 spec : Fn U R) := by
  intro args h k r hh
  unfold F62 at hh
  split at hh
  · obtain ⟨x, h1, h2⟩ := Option.bind_eq_some_iff.1 hh
    exact ⟨_, _, h2, hp _ _ _ h1⟩
  · cases hh
theorem pok62 : PrmOK TP X q62 := prims_cons good okS61 (prims_cons good okS81 (prims_cons good okS82 (prims_nil TP X mixed)))
noncomputable def S62 (p0 p1 : TI) : Option R62 := evv fun k => f62 k p0 p1
theorem okS62 {R : Type} : FnOK TP X 62 (F62 S62 : Fn U R) := ok62 S62 fun p0 p1 r h => by
  obtain ⟨k, hk⟩ := evv_fuel h
  exact pure62 p0 p1 pok62 k r hk
abbrev R57 : Type := (Bool)
noncomputable def body57 : Go.Code := (Try.f57.body).getD Go.Code.skip
def h57 (p0 : Bool) (p1 p2 : TI) : List (AO U) := []
def k57 : AV U → List (AO U) → Option R57 := fun v h => match v, h with | AV.bool x0, [] => some x0 | _, _ => none
def out57 : R57 → AV U := fun x0 => AV.bool x0
def outh57 : R57 → List (AO U) := fun x0 => []
def D57 : Nat → Dir := dirs []
def b57 (p0 : Bool) (p1 p2 : TI)   : Option R57 :=
  (S77 p1).bind fun r0 =>
  cond (!r0)
  (some (false))
  ((S77 p2).bind fun r1 =>
  cond (!r1)
  (some (false))
  (cond ((↑p2.length : Int) == 0)
  (some (false))
  (cond ((↑p1.length : Int) == 0)
  ((S78 p2).bind fun r2 =>
  cond (r2)
  (some (!p0))
  (some (false)))
  ((S78 p2).bind fun r3 =>
  cond (r3)
  (some (true))
  ((S79 p1 p2).bind fun r4 =>
  (S78 r4).bind fun r5 =>
  some (r5))))))
theorem hk57 : ∀ v h' r, k57 v h' = some r → v = out57 r ∧ h' = outh57 r := by
  intro v h' r h
  unfold k57 at h
  split at h
  · injection h with h; subst h; exact ⟨rfl, rfl⟩
  · cases h
abbrev q57 : Prim U R57 := prims X [⟨77, fun _ => true, [.lend], F77 S77⟩, ⟨78, fun _ => true, [.lend], F78 S78⟩, ⟨79, fun _ => true, [.lend, .lend], F79 S79⟩]
theorem s57 (c : Nat → S U → Option R57) (p0 : Bool) (p1 p2 : TI) : seg TP X q57 [] (fun q st => c q (keepD D57 (h57 p0 p1 p2).length q st)) body57 (finH TP Try.f57.results.toList (h57 p0 p1 p2).length false k57) (start [.agg [.bool p0, .imm 105 p1, .imm 105 p2]] Try.f57.ntmps (h57 p0 p1 p2)) = b57 p0 p1 p2  := by kernel_rfl
def f57 (_ : Nat) (p0 : Bool) (p1 p2 : TI) : Option R57 := b57 p0 p1 p2
theorem pure57 (p0 : Bool) (p1 p2 : TI) (pok : PrmOK TP X q57) (k : Nat) (r : R57) (h : f57 k p0 p1 p2 = some r) : PureH TP X 57 [.agg [.bool p0, .imm 105 p1, .imm 105 p2]] (h57 p0 p1 p2) (out57 r) (outh57 r) :=
  pure_gen good 0 (fn := Try.f57) (body := body57) (prim := q57) (D := D57) (cuts := []) (h := h57 p0 p1 p2) (own := false) (by kernel_rfl) (by kernel_rfl) (by decide +kernel) pok hk57 (by
    rw [s57]
    exact h)
def F57 {R : Type} (spec : (Bool) → TI → TI → Option R57) : Fn U R := fun args h k => match args, h with | [.agg [.bool p0, .imm 105 p1, .imm 105 p2]], [] => (spec p0 p1 p2).bind fun r => k (out57 r) (outh57 r) | _, _ => none
theorem ok57 {R : Type} (spec : (Bool) → TI → TI → Option R57) (hp : ∀ (p0 : Bool) (p1 : TI) (p2 : TI) (r : R57), spec p0 p1 p2 = some r → PureH TP X 57 [.agg [.bool p0, .imm 105 p1, .imm 105 p2]] (h57 p0 p1 p2) (out57 r) (outh57 r)) : FnOK TP X 57 (F57 spec : Fn U R) := by
  intro args h k r hh
  unfold F57 at hh
  split at hh
  · obtain ⟨x, h1, h2⟩ := Option.bind_eq_some_iff.1 hh
    exact ⟨_, _, h2, hp _ _ _ _ h1⟩
  · cases hh
theorem pok57 : PrmOK TP X q57 := prims_cons good okS77 (prims_cons good okS78 (prims_cons good okS79 (prims_nil TP X mixed)))
noncomputable def S57 (p0 : Bool) (p1 p2 : TI) : Option R57 := evv fun k => f57 k p0 p1 p2
theorem okS57 {R : Type} : FnOK TP X 57 (F57 S57 : Fn U R) := ok57 S57 fun p0 p1 p2 r h => by
  obtain ⟨k, hk⟩ := evv_fuel h
  exact pure57 p0 p1 p2 pok57 k r hk
end
end Go.Abs.Z
namespace Go.Abs.Z
open Go Go.Abs Limb Num
theorem run97t (l : List Int) (hl : l.length ≤ 1073741824) : S81 l = some (trimL l) := evv_eq (loop81 hl l.length (Nat.le_refl _))
theorem loop82_12 {p0 p1 : List Int} {s : Int} {src : List Int} (hsrc : src.length ≤ 1073741824) {R : R82} {fin : List Int} (hfin : Evt (fun f => f82_16 p0 p1 f s (repI (p0.length : Int).toNat 0) fin) R) : ∀ (m i : Nat) (l : List Int), i + m = src.length → src.length ≤ l.length → l.take i = src.take i → fin = src ++ l.drop src.length → Evt (fun f => f82_12 p0 p1 f s src (i : Int) l) R
  | 0, i, l, hi, hll, he, hf => by
    have ei : i = src.length := by omega
    subst ei
    rw [List.take_length] at he
    have : fin = l := by
      have h1 := List.take_append_drop src.length l
      rw [he] at h1
      rw [hf]; exact h1
    rw [this] at hfin
    refine hfin.step fun f => ?_
    show b82_12 p0 p1 (f82_12 p0 p1 f) (f82_16 p0 p1 f) s src (src.length : Int) l = _
    unfold b82_12
    simp (disch := omega) only [cF]
  | m + 1, i, l, hi, hll, he, hf => by
    have e1 : IntKind.i64.wrap ((i : Int) + 1) = ((i + 1 : Nat) : Int) := by rw [wi64] <;> omega
    refine (loop82_12 hsrc hfin m (i + 1) (l.set i (src.getD i 0)) (by omega) (by simpa using hll) ?_ ?_).step fun f => ?_
    · apply List.ext_getElem?
      intro j
      rw [List.getElem?_take, List.getElem?_take]
      by_cases hj : j < i + 1
      · rw [if_pos hj, if_pos hj]
        by_cases e : i = j
        · subst e
          rw [List.getElem?_set_self (by omega), List.getD_eq_getElem?_getD, List.getElem?_eq_getElem (by omega)]; rfl
        · rw [List.getElem?_set_ne e]
          have := congrArg (·[j]?) he
          simp only [List.getElem?_take, if_pos (show j < i by omega)] at this
          exact this
      · rw [if_neg hj, if_neg hj]
    · rw [hf, drop_set_lt _ _ _ _ (by omega)]
    · show b82_12 p0 p1 (f82_12 p0 p1 f) (f82_16 p0 p1 f) s src (i : Int) l = _
      unfold b82_12
      simp only [e1, Int.toNat_natCast, dflt105]
      simp (disch := omega) only [cT]
theorem loop82_16 {a b : List Int} {A B : Int} (ha : Is a A) (hb : Is b B) (hma : mayL a = true) (hB : 0 < B) (hlb : b.length ≤ 2048) : ∀ (n : Nat) (q r : List Int), (n : Int) ≤ 32 * a.length → q.length = a.length → Ok r → r.length = b.length + 1 → val r = A / 2 ^ n % B →
    ∃ q' r', Evt (fun f => f82_16 a b f ((n : Int) - 1) q r) (q', r', 0) ∧ Is r' (A % B)
  | 0, q, r, hn, hq, hr, hrl, hv => by
    have hla := (mayL_is hma).1
    obtain ⟨r', g1, g2⟩ := run81 hr (by omega)
    have : A / 2 ^ 0 = A := by rw [show (2 : Int) ^ 0 = 1 from rfl, Int.ediv_one]
    rw [hv, this] at g2
    refine ⟨trimL q, r', Evt.last fun f => ?_, g2⟩
    show b82_16 a b (f82_12 a b f) (f82_16 a b f) (((0 : Nat) : Int) - 1) q r = _
    unfold b82_16
    rw [run97t q (by omega), g1]
    simp (disch := omega) only [cF, Option.bind_some]
  | n + 1, q, r, hn, hq, hr, hrl, hv => by
    have hla := (mayL_is hma).1
    have ei : (((n + 1 : Nat) : Int) - 1) = (n : Int) := by omega
    have e1 : IntKind.i64.wrap ((n : Int) - 1) = (n : Int) - 1 := by rw [wi64] <;> omega
    have hbit := run99 ha.ok hma (i := n) (by omega)
    rw [ha.val] at hbit
    have b0 := Int.emod_nonneg (A / 2 ^ n) (b := 2) (by decide)
    have b1 := Int.emod_lt_of_pos (A / 2 ^ n) (b := 2) (by decide)
    have hr0 : 0 ≤ val r := (val_bound hr).1
    have hr1 : val r < B := by rw [hv]; exact Int.emod_lt_of_pos _ hB
    have hbd := (val_bound hb.ok).2
    rw [hb.val] at hbd
    have hPs : P (b.length + 1) = 4294967296 * P b.length := P_succ _
    obtain ⟨Z, z1, z2, z3, z4⟩ := run98 (bit := A / 2 ^ n % 2) hr (by omega) (by omega) (by rw [hrl]; omega)
    have hhalf : A / 2 ^ n / 2 = A / 2 ^ (n + 1) := by rw [Int.ediv_ediv_of_nonneg (Int.le_of_lt (Int.pow_pos (by decide))), Int.pow_succ]
    have hdec : A / 2 ^ n = 2 * (A / 2 ^ (n + 1)) + A / 2 ^ n % 2 := by
      have := Int.mul_ediv_add_emod (A / 2 ^ n) 2
      rw [hhalf] at this; omega
    have hmod : A / 2 ^ n % B = (2 * val r + A / 2 ^ n % 2) % B := by
      have e2 := Int.mul_ediv_add_emod (A / 2 ^ (n + 1)) B
      rw [← hv] at e2
      generalize A / 2 ^ n % 2 = t at *
      rw [hdec, ← e2]
      have : 2 * (B * (A / 2 ^ (n + 1) / B) + val r) + t = (2 * val r + t) + B * (2 * (A / 2 ^ (n + 1) / B)) := by grind
      rw [this, Int.add_mul_emod_self_left]
    have t1 : Int.tdiv (n : Int) 32 = ((n / 32 : Nat) : Int) := by rw [Int.tdiv_eq_ediv_of_nonneg (by omega)]; omega
    have t2 : Int.tmod (n : Int) 32 = ((n % 32 : Nat) : Int) := by rw [Int.tmod_eq_emod_of_nonneg (by omega)]; omega
    have w1 : IntKind.i64.wrap ((n / 32 : Nat) : Int) = ((n / 32 : Nat) : Int) := by rw [wi64] <;> omega
    have w2 : IntKind.u64.wrap ((n % 32 : Nat) : Int) = ((n % 32 : Nat) : Int) := by rw [wu64]; omega
    rcases run100 hb.ok (r := Z) (by omega) z2 (by omega) with ⟨h1, Y, y1, y2, y3, y4⟩ | ⟨h1, y1⟩
    · rw [hb.val] at h1 y4
      obtain ⟨q', r', k1, k2⟩ := loop82_16 ha hb hma hB hlb n (q.set (n / 32) (bits .or .u32 (q.getD (n / 32) 0) (shl .u32 1 ((n % 32 : Nat) : Int)))) Y (by omega) (by simpa using hq) y2 (by omega) (by
        rw [y4, z4, hmod]
        rw [z4] at h1
        have e3 : (2 * val r + A / 2 ^ n % 2 - B + B) % B = (2 * val r + A / 2 ^ n % 2 - B) % B := Int.add_emod_right ..
        rw [Int.sub_add_cancel] at e3
        rw [e3]
        exact (Int.emod_eq_of_lt (by omega) (by omega)).symm)
      refine ⟨q', r', k1.step fun f => ?_, k2⟩
      show b82_16 a b (f82_12 a b f) (f82_16 a b f) (((n + 1 : Nat) : Int) - 1) q r = _
      unfold b82_16
      rw [ei, hbit]
      simp only [Option.bind_some]
      rw [z1]
      simp only [Option.bind_some]
      rw [y1]
      simp only [Option.bind_some, cond_true, t1, t2, w1, w2, e1, Int.toNat_natCast, dflt105]
      simp (disch := omega) only [cT]
    · rw [hb.val] at h1
      obtain ⟨q', r', k1, k2⟩ := loop82_16 ha hb hma hB hlb n q Z (by omega) hq z2 (by omega) (by
        rw [z4, hmod]
        rw [z4] at h1
        exact (Int.emod_eq_of_lt (by omega) (by omega)).symm)
      refine ⟨q', r', k1.step fun f => ?_, k2⟩
      show b82_16 a b (f82_12 a b f) (f82_16 a b f) (((n + 1 : Nat) : Int) - 1) q r = _
      unfold b82_16
      rw [ei, hbit]
      simp only [Option.bind_some]
      rw [z1]
      simp only [Option.bind_some]
      rw [y1]
      simp only [Option.bind_some, cond_false, e1]
      simp (disch := omega) only [cT]
theorem run82 {a b : List Int} {A B : Int} (ha : Is a A) (hb : Is b B) (hma : mayL a = true) (hmb : mayL b = true) (hB : 0 < B) : ∃ q r, S82 a b = some (q, r, 0) ∧ Is r (A % B) := by
  have hla := (mayL_is hma).1
  have hlb := (mayL_is hmb).1
  have hA := ha.nonneg
  have hbn : b ≠ [] := fun h => by have := hb.nil_iff.1 h; omega
  have hbl : 0 < b.length := List.length_pos_iff.2 hbn
  obtain ⟨m, g1, ⟨m0, m1, m2⟩, m3⟩ := run96 ha.ok hma
  obtain ⟨n, g2, ⟨n0, n1, n2⟩, n3⟩ := run96 hb.ok hmb
  rw [ha.val] at m1 m2
  rw [hb.val] at n1 n2
  have hn0 : n ≠ 0 := fun h => by
    rw [h] at n1
    have e1 : (2 : Int) ^ (0 : Int).toNat = 1 := rfl
    rw [e1] at n1; omega
  have n2 := n2.resolve_left hn0
  have w0 : IntKind.i64.wrap (m - n) = m - n := by rw [wi64] <;> omega
  have pow_le : ∀ {i j : Nat}, i ≤ j → (2 : Int) ^ i ≤ 2 ^ j := fun {i j} h => by
    obtain ⟨k, hk⟩ := Nat.exists_eq_add_of_le h
    rw [hk, Int.pow_add]
    have h1 : (0 : Int) < 2 ^ i := Int.pow_pos (by decide)
    have h2 : (0 : Int) < 2 ^ k := Int.pow_pos (by decide)
    have := Int.mul_le_mul_of_nonneg_left (show (1 : Int) ≤ 2 ^ k by omega) (Int.le_of_lt h1)
    omega
  by_cases hs : m - n < 0
  · have hlt : A < B := by
      have := pow_le (show m.toNat ≤ n.toNat - 1 by omega)
      omega
    obtain ⟨r, g3, g4⟩ := run81 ha.ok (by omega)
    rw [ha.val] at g4
    refine ⟨[], r, evv_eq (Evt.now fun f => ?_), by rw [Int.emod_eq_of_lt hA hlt]; exact g4⟩
    show b82 a b (f82_12 a b f) (f82_16 a b f) = _
    unfold b82
    rw [run61, hma, run61, hmb, g1, g2, g3]
    simp only [Option.bind_some, w0]
    rw [cNF rfl, cNF rfl]
    simp (disch := omega) only [cT, cN]
  · obtain ⟨k, hk⟩ : ∃ k : Nat, (k : Int) = m - n := ⟨(m - n).toNat, by omega⟩
    have w1 : IntKind.i64.wrap ((k : Int) + 1) = ((k + 1 : Nat) : Int) := by rw [wi64] <;> omega
    have w2 : IntKind.i64.wrap ((b.length : Int) + 1) = ((b.length + 1 : Nat) : Int) := by rw [wi64] <;> omega
    obtain ⟨x, g3, g4⟩ := run97 ha.ok hma (k := k + 1) (by omega)
    rw [ha.val] at g4
    have hp : (0 : Int) < 2 ^ (k + 1) := Int.pow_pos (by decide)
    have hxB : A / 2 ^ (k + 1) < B := by
      refine Int.lt_of_lt_of_le (b := 2 ^ (n.toNat - 1)) ?_ n2
      refine Int.ediv_lt_of_lt_mul hp ?_
      rw [← Int.pow_add, show n.toNat - 1 + (k + 1) = m.toNat from by omega]
      exact m1
    have hx0 : 0 ≤ A / 2 ^ (k + 1) := Int.ediv_nonneg hA (Int.le_of_lt hp)
    have hxl : x.length ≤ b.length := len_le_of_val g4.ok g4.norm hb.ok (by rw [g4.val, hb.val]; omega)
    have hrv : val (x ++ (List.replicate (b.length + 1) (0 : Int)).drop x.length) = A / 2 ^ (k + 1) := by
      rw [List.drop_replicate, val_append, val_replicate, g4.val]; omega
    obtain ⟨q', r', k1, k2⟩ := loop82_16 ha hb hma hB (by omega) (k + 1) (List.replicate a.length 0) (x ++ (List.replicate (b.length + 1) (0 : Int)).drop x.length) (by omega) (by simp) (g4.ok.append ((Ok.replicate _).drop _)) (by simp; omega) (by rw [hrv, Int.emod_eq_of_lt hx0 hxB])
    rw [show (((k + 1 : Nat) : Int) - 1) = (k : Int) from by omega] at k1
    have k3 := loop82_12 (p0 := a) (p1 := b) (s := (k : Int)) (src := x) (by omega) (R := (q', r', 0)) (fin := x ++ (List.replicate (b.length + 1) (0 : Int)).drop x.length) (k1.same fun f => rfl) x.length 0 (List.replicate (b.length + 1) 0) (by omega) (by simp; omega) (by simp) rfl
    refine ⟨q', r', evv_eq (k3.same fun f => ?_), k2⟩
    show b82 a b (f82_12 a b f) (f82_16 a b f) = _
    unfold b82
    rw [run61, hma, run61, hmb, g1, g2]
    have w3 : IntKind.i64.wrap (m - n) = (k : Int) := by rw [w0, hk]
    simp only [Option.bind_some, w3, w1, w2]
    rw [g3, cNF rfl, cNF rfl]
    simp only [Option.bind_some, Int.toNat_natCast]
    simp (disch := omega) only [cT, cF, cN]
    rfl
theorem mayL_of {l : List Int} {v : Int} (h : Is l v) (hl : l.length ≤ 2048) : mayL l = true := by
  unfold mayL
  rw [decide_eq_true hl, Bool.true_and]
  rcases h.norm with h | h
  · rw [h]; rfl
  · have : (l.getD (l.length - 1) 0 != 0) = true := by simpa using h
    rw [this, Bool.or_true]
theorem loop62 {p0 p1 : List Int} {A B : Int} : ∀ (G : Nat) (a b : List Int) (A' B' : Int), B'.toNat ≤ G → Is a A' → Is b B' → a.length ≤ 2048 → b.length ≤ 2048 → CD A' B' A B →
    ∃ r g, Evt (fun f => f62_5 p0 p1 f a b) (r, 0) ∧ Is r g ∧ IsG g A B := by
  intro G
  induction G with
  | zero => ?_
  | succ G ih => ?_
  all_goals
    intro a b A' B' hG ha hb hla hlb hcd
    have hA0 := ha.nonneg
    have hB0 := hb.nonneg
    by_cases hb0 : b.length = 0
    · have hbz : B' = 0 := hb.nil_iff.1 (List.eq_nil_of_length_eq_zero hb0)
      subst hbz
      refine ⟨a, A', Evt.last fun f => ?_, ha, .of_zero hA0 hcd⟩
      show b62_5 p0 p1 (f62_5 p0 p1 f) a b = _
      unfold b62_5
      simp (disch := omega) only [cF]
    · have hbn : b ≠ [] := fun h => by rw [h] at hb0; simp at hb0
      have hBp : 0 < B' := by
        have : B' ≠ 0 := fun h => hbn (hb.nil_iff.2 h)
        omega
      first
      | (exfalso; omega)
      | (obtain ⟨q, r, g1, g2⟩ := run82 ha hb (mayL_of ha hla) (mayL_of hb hlb) hBp
         have em := Int.mul_ediv_add_emod A' B'
         have m0 := Int.emod_nonneg A' (b := B') (by omega)
         have m1 := Int.emod_lt_of_pos A' hBp
         have e : A' - A' / B' * B' = A' % B' := by rw [Int.mul_comm] at em; omega
         have hl2 : r.length ≤ b.length := len_le_of_val g2.ok g2.norm hb.ok (by rw [g2.val, hb.val]; omega)
         obtain ⟨z, g, k1, k2, k3⟩ := ih b r B' (A' % B') (by omega) hb g2 hlb (by omega) (by have := hcd.step (A' / B'); rwa [e] at this)
         refine ⟨z, g, k1.step fun f => ?_, k2, k3⟩
         show b62_5 p0 p1 (f62_5 p0 p1 f) a b = _
         unfold b62_5
         rw [g1]
         simp (disch := omega) only [cT, Option.bind_some])
theorem run62 {a b : List Int} {A B : Int} (ha : Is a A) (hb : Is b B) (hma : mayL a = true) (hmb : mayL b = true) : ∃ r g, S62 a b = some (r, 0) ∧ Is r g ∧ IsG g A B := by
  have hla := (mayL_is hma).1
  have hlb := (mayL_is hmb).1
  obtain ⟨a', g1, g2⟩ := run81 ha.ok (by omega)
  obtain ⟨b', g3, g4⟩ := run81 hb.ok (by omega)
  rw [ha.val] at g2
  rw [hb.val] at g4
  have ea : a' = a := g2.inj ha
  have eb : b' = b := g4.inj hb
  rw [ea] at g1
  rw [eb] at g3
  obtain ⟨r, g, k1, k2, k3⟩ := loop62 (p0 := a) (p1 := b) (A := A) (B := B) _ a b A B (Nat.le_refl _) ha hb hla hlb (CD.refl A B)
  refine ⟨r, g, evv_eq (k1.same fun f => ?_), k2, k3⟩
  show b62 a b (f62_5 a b f) = _
  unfold b62
  rw [run61, hma, run61, hmb, g1, g3]
  simp only [Option.bind_some]
  rw [cNF rfl, cNF rfl]
end Go.Abs.Z
namespace Go.Abs.Z
open Go Go.Abs Go.Proofs
noncomputable section
abbrev R42 : Type := (Bool)
noncomputable def body42 : Go.Code := (Try.f42.body).getD Go.Code.skip
def h42 (p0 : Bool) (p1 p2 : TI) : List (AO U) := []
def k42 : AV U → List (AO U) → Option R42 := fun v h => match v, h with | AV.bool x0, [] => some x0 | _, _ => none
def out42 : R42 → AV U := fun x0 => AV.bool x0
def outh42 : R42 → List (AO U) := fun x0 => []
def D42 : Nat → Dir := dirs []
def b42 (p0 : Bool) (p1 p2 : TI)   : Option R42 :=
  (S61 p1).bind fun r0 =>
  cond (!r0)
  (some (false))
  ((S61 p2).bind fun r1 =>
  cond (!r1)
  (some (false))
  (cond ((↑p2.length : Int) == 0)
  (some (false))
  (cond ((↑p2.length : Int) == 1)
  (cond (decide (0 < (↑p2.length : Int)))
  (cond (decide (Int.toNat 0 < p2.length))
  (cond ((↑p1.length : Int) == 0)
  (cond (p2.getD (Int.toNat 0) (X.dflt 105) == 1)
  (some (!p0))
  (some (false)))
  (cond (p2.getD (Int.toNat 0) (X.dflt 105) == 1)
  (some (true))
  ((S62 p1 p2).bind fun r2 =>
  cond ((↑r2.fst.length : Int) == 1)
  (cond (decide (0 < (↑r2.fst.length : Int)))
  (cond (decide (Int.toNat 0 < r2.fst.length))
  (some (r2.fst.getD (Int.toNat 0) (X.dflt 105) == 1))
  (none))
  (none))
  (some (false)))))
  (none))
  (none))
  (cond ((↑p1.length : Int) == 0)
  (some (false))
  ((S62 p1 p2).bind fun r3 =>
  cond ((↑r3.fst.length : Int) == 1)
  (cond (decide (0 < (↑r3.fst.length : Int)))
  (cond (decide (Int.toNat 0 < r3.fst.length))
  (some (r3.fst.getD (Int.toNat 0) (X.dflt 105) == 1))
  (none))
  (none))
  (some (false)))))))
theorem hk42 : ∀ v h' r, k42 v h' = some r → v = out42 r ∧ h' = outh42 r := by
  intro v h' r h
  unfold k42 at h
  split at h
  · injection h with h; subst h; exact ⟨rfl, rfl⟩
  · cases h
abbrev q42 : Prim U R42 := prims X [⟨61, fun _ => true, [.lend], F61 S61⟩, ⟨62, fun _ => true, [.lend, .lend], F62 S62⟩]
theorem s42 (c : Nat → S U → Option R42) (p0 : Bool) (p1 p2 : TI) : seg TP X q42 [] (fun q st => c q (keepD D42 (h42 p0 p1 p2).length q st)) body42 (finH TP Try.f42.results.toList (h42 p0 p1 p2).length false k42) (start [.agg [.bool p0, .imm 105 p1, .imm 105 p2]] Try.f42.ntmps (h42 p0 p1 p2)) = b42 p0 p1 p2  := by kernel_rfl
def f42 (_ : Nat) (p0 : Bool) (p1 p2 : TI) : Option R42 := b42 p0 p1 p2
theorem pure42 (p0 : Bool) (p1 p2 : TI) (pok : PrmOK TP X q42) (k : Nat) (r : R42) (h : f42 k p0 p1 p2 = some r) : PureH TP X 42 [.agg [.bool p0, .imm 105 p1, .imm 105 p2]] (h42 p0 p1 p2) (out42 r) (outh42 r) :=
  pure_gen good 0 (fn := Try.f42) (body := body42) (prim := q42) (D := D42) (cuts := []) (h := h42 p0 p1 p2) (own := false) (by kernel_rfl) (by kernel_rfl) (by decide +kernel) pok hk42 (by
    rw [s42]
    exact h)
def F42 {R : Type} (spec : (Bool) → TI → TI → Option R42) : Fn U R := fun args h k => match args, h with | [.agg [.bool p0, .imm 105 p1, .imm 105 p2]], [] => (spec p0 p1 p2).bind fun r => k (out42 r) (outh42 r) | _, _ => none
theorem ok42 {R : Type} (spec : (Bool) → TI → TI → Option R42) (hp : ∀ (p0 : Bool) (p1 : TI) (p2 : TI) (r : R42), spec p0 p1 p2 = some r → PureH TP X 42 [.agg [.bool p0, .imm 105 p1, .imm 105 p2]] (h42 p0 p1 p2) (out42 r) (outh42 r)) : FnOK TP X 42 (F42 spec : Fn U R) := by
  intro args h k r hh
  unfold F42 at hh
  split at hh
  · obtain ⟨x, h1, h2⟩ := Option.bind_eq_some_iff.1 hh
    exact ⟨_, _, h2, hp _ _ _ _ h1⟩
  · cases hh
theorem pok42 : PrmOK TP X q42 := prims_cons good okS61 (prims_cons good okS62 (prims_nil TP X mixed))
noncomputable def S42 (p0 : Bool) (p1 p2 : TI) : Option R42 := evv fun k => f42 k p0 p1 p2
theorem okS42 {R : Type} : FnOK TP X 42 (F42 S42 : Fn U R) := ok42 S42 fun p0 p1 p2 r h => by
  obtain ⟨k, hk⟩ := evv_fuel h
  exact pure42 p0 p1 p2 pok42 k r hk
end
end Go.Abs.Z
namespace Go.Abs.Z
open Go Go.Abs Limb Num
theorem isG_gcd (A B : Int) : IsG (Int.gcd A B : Int) A B := ⟨Int.natCast_nonneg _, fun d => Int.dvd_coe_gcd_iff⟩
theorem one_iff {r : List Int} {g : Int} (h : Is r g) : (r == [1]) = decide (g = 1) := by
  have h1 : Is [1] 1 := ⟨Ok.mk (by decide) (by decide) Ok.nil, .inr (by decide), by decide⟩
  by_cases e : g = 1
  · rw [e] at h
    rw [h.inj h1, decide_eq_true e]; rfl
  · rw [decide_eq_false e]
    refine Bool.eq_false_iff.2 fun hh => e ?_
    rw [beq_iff_eq] at hh
    rw [← h.val, hh]; rfl
def ratMay (neg : Bool) (n d : List Int) : Bool :=
  mayL n && (mayL d && (!(d.length == 0) && (if n.length = 0 then (d == [1] && !neg) else (d == [1] || decide ((Int.gcd (val n) (val d) : Int) = 1)))))
theorem run57 {neg : Bool} {n d : List Int} (hn : Ok n) (hd : Ok d) : S57 neg n d = some (ratMay neg n d) := evv_eq (Evt.now fun f => by
  show b57 neg n d = _
  unfold b57 ratMay
  rw [run77, run77]
  cases hmn : mayL n with
  | false => rfl
  | true =>
    cases hmd : mayL d with
    | false => rfl
    | true =>
      simp only [Option.bind_some, Bool.true_and]
      rw [cNF rfl, cNF rfl]
      by_cases hd0 : d.length = 0
      · rw [cE (by omega)]
        have : (d.length == 0) = true := by simpa using hd0
        rw [this]; rfl
      · rw [cN (by omega)]
        have : (d.length == 0) = false := by simpa using hd0
        rw [this]
        simp only [Bool.not_false, Bool.true_and]
        by_cases hn0 : n.length = 0
        · rw [cE (by omega), if_pos hn0, run78]
          simp only [Option.bind_some]
          cases hd1 : (d == [1]) <;> rfl
        · rw [cN (by omega), if_neg hn0, run78]
          simp only [Option.bind_some]
          cases hd1 : (d == [1]) with
          | true => rfl
          | false =>
            obtain ⟨r, g, g1, g2, g3⟩ := run79 (A := val n) (B := val d) ⟨hn, (mayL_is hmn).2, rfl⟩ ⟨hd, (mayL_is hmd).2, rfl⟩ (by have := (mayL_is hmn).1; omega) (by have := (mayL_is hmd).1; omega)
            rw [g1]
            simp only [Option.bind_some, cond_false, Bool.false_or]
            rw [run78, one_iff g2, g3.one (isG_gcd _ _)]
            rfl)
theorem oneL (r : List Int) : cond ((r.length : Int) == 1) (cond (decide (0 < (r.length : Int))) (cond (decide (Int.toNat 0 < r.length)) (some (r.getD (Int.toNat 0) (X.dflt 105) == 1)) none) none) (some false) = some (r == [1]) := by
  have := run78 r
  have h2 : S78 r = b78 r := by
    rw [this]
    obtain ⟨k, hk⟩ := evv_fuel this
    exact hk.symm
  rw [← this, h2]; rfl
theorem run42 {neg : Bool} {n d : List Int} (hn : Ok n) (hd : Ok d) : S42 neg n d = some (ratMay neg n d) := evv_eq (Evt.now fun f => by
  show b42 neg n d = _
  unfold b42 ratMay
  rw [run61, run61]
  cases hmn : mayL n with
  | false => rfl
  | true =>
    cases hmd : mayL d with
    | false => rfl
    | true =>
      simp only [Option.bind_some, Bool.true_and]
      rw [cNF rfl, cNF rfl]
      by_cases hd0 : d.length = 0
      · rw [cE (by omega)]
        have : (d.length == 0) = true := by simpa using hd0
        rw [this]; rfl
      · rw [cN (by omega)]
        have hd0' : (d.length == 0) = false := by simpa using hd0
        rw [hd0']
        simp only [Bool.not_false, Bool.true_and]
        have G : (S62 n d).bind (fun r2 => cond ((r2.fst.length : Int) == 1) (cond (decide (0 < (r2.fst.length : Int))) (cond (decide (Int.toNat 0 < r2.fst.length)) (some (r2.fst.getD (Int.toNat 0) (X.dflt 105) == 1)) none) none) (some false)) = some (decide ((Int.gcd (val n) (val d) : Int) = 1)) := by
          obtain ⟨r, g, g1, g2, g3⟩ := run62 (A := val n) (B := val d) ⟨hn, (mayL_is hmn).2, rfl⟩ ⟨hd, (mayL_is hmd).2, rfl⟩ hmn hmd
          rw [g1]
          refine (oneL r).trans ?_
          rw [one_iff g2, g3.one (isG_gcd _ _)]
        have z : Int.toNat 0 = 0 := rfl
        by_cases h1 : d.length = 1
        · obtain ⟨x, rfl⟩ := List.length_eq_one_iff.1 h1
          rw [cE (by omega)]
          refine (cT (by simp) _ _).trans ((cT (by simp) _ _).trans ?_)
          have hx : ([x].getD (Int.toNat 0) (X.dflt 105) == (1 : Int)) = ([x] == [1]) := by
            show (x == 1) = _
            by_cases e : x = 1 <;> simp [e]
          by_cases hn0 : n.length = 0
          · rw [cE (by omega), if_pos hn0, hx]
            cases ([x] == [(1 : Int)]) <;> rfl
          · rw [cN (by omega), if_neg hn0, hx]
            cases ([x] == [(1 : Int)]) with
            | true => rfl
            | false => exact G
        · have hd1 : (d == [1]) = false := by
            refine Bool.eq_false_iff.2 fun hh => h1 ?_
            rw [beq_iff_eq] at hh
            rw [hh]; rfl
          rw [cN (by omega), hd1]
          by_cases hn0 : n.length = 0
          · rw [cE (by omega), if_pos hn0]; rfl
          · rw [cN (by omega), if_neg hn0]
            exact G)
end Go.Abs.Z
namespace Go.Abs.Z
open Go Go.Abs Go.Proofs
noncomputable section
abbrev R141 : Type := TI
noncomputable def body141 : Go.Code := (Try.f141.body).getD Go.Code.skip
def h141  : List (AO U) := []
def k141 : AV U → List (AO U) → Option R141 := fun v h => match v, h with | AV.imm 105 x0, [] => some x0 | _, _ => none
def out141 : R141 → AV U := fun x0 => AV.imm 105 x0
def outh141 : R141 → List (AO U) := fun x0 => []
def D141 : Nat → Dir := dirs []
def b141    : Option R141 :=
  some ([1])
theorem hk141 : ∀ v h' r, k141 v h' = some r → v = out141 r ∧ h' = outh141 r := by
  intro v h' r h
  unfold k141 at h
  split at h
  · injection h with h; subst h; exact ⟨rfl, rfl⟩
  · cases h
abbrev q141 : Prim U R141 := prims X []
theorem s141 (c : Nat → S U → Option R141)  : seg TP X q141 [] (fun q st => c q (keepD D141 (h141 ).length q st)) body141 (finH TP Try.f141.results.toList (h141 ).length false k141) (start [] Try.f141.ntmps (h141 )) = b141   := by kernel_rfl
def f141 (_ : Nat)  : Option R141 := b141 
theorem pure141  (pok : PrmOK TP X q141) (k : Nat) (r : R141) (h : f141 k  = some r) : PureH TP X 141 [] (h141 ) (out141 r) (outh141 r) :=
  pure_gen good 0 (fn := Try.f141) (body := body141) (prim := q141) (D := D141) (cuts := []) (h := h141 ) (own := false) (by kernel_rfl) (by kernel_rfl) (by decide +kernel) pok hk141 (by
    rw [s141]
    exact h)
def F141 {R : Type} (spec : Option R141) : Fn U R := fun args h k => match args, h with | [], [] => (spec ).bind fun r => k (out141 r) (outh141 r) | _, _ => none
theorem ok141 {R : Type} (spec : Option R141) (hp : ∀  (r : R141), spec  = some r → PureH TP X 141 [] (h141 ) (out141 r) (outh141 r)) : FnOK TP X 141 (F141 spec : Fn U R) := by
  intro args h k r hh
  unfold F141 at hh
  split at hh
  · obtain ⟨x, h1, h2⟩ := Option.bind_eq_some_iff.1 hh
    exact ⟨_, _, h2, hp  _ h1⟩
  · cases hh
theorem pok141 : PrmOK TP X q141 := prims_nil TP X mixed
noncomputable def S141  : Option R141 := evv fun k => f141 k 
theorem okS141 {R : Type} : FnOK TP X 141 (F141 S141 : Fn U R) := ok141 S141 fun  r h => by
  obtain ⟨k, hk⟩ := evv_fuel h
  exact pure141  pok141 k r hk
end
end Go.Abs.Z
namespace Go.Abs.Z
open Go Go.Abs Go.Proofs
noncomputable section
abbrev R134 : Type := Bool × TI × TI
noncomputable def body134 : Go.Code := (Try.f134.body).getD Go.Code.skip
def h134 (p0 : Bool) (p1 p2 : TI) : List (AO U) := []
def k134 : AV U → List (AO U) → Option R134 := fun v h => match v, h with | AV.agg [AV.bool x0, AV.imm 105 x1, AV.imm 105 x2], [] => some (x0, x1, x2) | _, _ => none
def out134 : R134 → AV U := fun (x0, x1, x2) => AV.agg [AV.bool x0, AV.imm 105 x1, AV.imm 105 x2]
def outh134 : R134 → List (AO U) := fun (x0, x1, x2) => []
def D134 : Nat → Dir := dirs []
def b134 (p0 : Bool) (p1 p2 : TI)   : Option R134 :=
  cond ((↑p1.length : Int) == 0)
  ((S141).bind fun r0 =>
  some ((false, [], r0)))
  ((S79 p1 p2).bind fun r1 =>
  (S78 r1).bind fun r2 =>
  cond (!r2)
  ((S92 p1 r1).bind fun r3 =>
  (S92 p2 r1).bind fun r4 =>
  some ((p0, r3.fst, r4.fst)))
  (some ((p0, p1, p2))))
theorem hk134 : ∀ v h' r, k134 v h' = some r → v = out134 r ∧ h' = outh134 r := by
  intro v h' r h
  unfold k134 at h
  split at h
  · injection h with h; subst h; exact ⟨rfl, rfl⟩
  · cases h
abbrev q134 : Prim U R134 := prims X [⟨141, fun _ => true, [], F141 S141⟩, ⟨79, fun _ => true, [.lend, .lend], F79 S79⟩, ⟨78, fun _ => true, [.lend], F78 S78⟩, ⟨92, fun _ => true, [.lend, .lend], F92 S92⟩]
theorem s134 (c : Nat → S U → Option R134) (p0 : Bool) (p1 p2 : TI) : seg TP X q134 [] (fun q st => c q (keepD D134 (h134 p0 p1 p2).length q st)) body134 (finH TP Try.f134.results.toList (h134 p0 p1 p2).length false k134) (start [.agg [.bool p0, .imm 105 p1, .imm 105 p2]] Try.f134.ntmps (h134 p0 p1 p2)) = b134 p0 p1 p2  := by kernel_rfl
def f134 (_ : Nat) (p0 : Bool) (p1 p2 : TI) : Option R134 := b134 p0 p1 p2
theorem pure134 (p0 : Bool) (p1 p2 : TI) (pok : PrmOK TP X q134) (k : Nat) (r : R134) (h : f134 k p0 p1 p2 = some r) : PureH TP X 134 [.agg [.bool p0, .imm 105 p1, .imm 105 p2]] (h134 p0 p1 p2) (out134 r) (outh134 r) :=
  pure_gen good 0 (fn := Try.f134) (body := body134) (prim := q134) (D := D134) (cuts := []) (h := h134 p0 p1 p2) (own := false) (by kernel_rfl) (by kernel_rfl) (by decide +kernel) pok hk134 (by
    rw [s134]
    exact h)
def F134 {R : Type} (spec : (Bool) → TI → TI → Option R134) : Fn U R := fun args h k => match args, h with | [.agg [.bool p0, .imm 105 p1, .imm 105 p2]], [] => (spec p0 p1 p2).bind fun r => k (out134 r) (outh134 r) | _, _ => none
theorem ok134 {R : Type} (spec : (Bool) → TI → TI → Option R134) (hp : ∀ (p0 : Bool) (p1 : TI) (p2 : TI) (r : R134), spec p0 p1 p2 = some r → PureH TP X 134 [.agg [.bool p0, .imm 105 p1, .imm 105 p2]] (h134 p0 p1 p2) (out134 r) (outh134 r)) : FnOK TP X 134 (F134 spec : Fn U R) := by
  intro args h k r hh
  unfold F134 at hh
  split at hh
  · obtain ⟨x, h1, h2⟩ := Option.bind_eq_some_iff.1 hh
    exact ⟨_, _, h2, hp _ _ _ _ h1⟩
  · cases hh
theorem pok134 : PrmOK TP X q134 := prims_cons good okS141 (prims_cons good okS79 (prims_cons good okS78 (prims_cons good okS92 (prims_nil TP X mixed))))
noncomputable def S134 (p0 : Bool) (p1 p2 : TI) : Option R134 := evv fun k => f134 k p0 p1 p2
theorem okS134 {R : Type} : FnOK TP X 134 (F134 S134 : Fn U R) := ok134 S134 fun p0 p1 p2 r h => by
  obtain ⟨k, hk⟩ := evv_fuel h
  exact pure134 p0 p1 p2 pok134 k r hk
end
end Go.Abs.Z
namespace Go.Abs.Z
open Go Go.Abs Go.Proofs
noncomputable section
abbrev R142 : Type := (Bool)
noncomputable def body142 : Go.Code := (Try.f142.body).getD Go.Code.skip
def h142 (p0 : Bool) (p1 p2 : TI) : List (AO U) := []
def k142 : AV U → List (AO U) → Option R142 := fun v h => match v, h with | AV.bool x0, [] => some x0 | _, _ => none
def out142 : R142 → AV U := fun x0 => AV.bool x0
def outh142 : R142 → List (AO U) := fun x0 => []
def D142 : Nat → Dir := dirs []
def b142 (p0 : Bool) (p1 p2 : TI)   : Option R142 :=
  some (decide ((bif true then List.foldl imax (↑p1.length : Int) [(↑p2.length : Int)] else List.foldl imin (↑p1.length : Int) [(↑p2.length : Int)]) > 2048))
theorem hk142 : ∀ v h' r, k142 v h' = some r → v = out142 r ∧ h' = outh142 r := by
  intro v h' r h
  unfold k142 at h
  split at h
  · injection h with h; subst h; exact ⟨rfl, rfl⟩
  · cases h
abbrev q142 : Prim U R142 := prims X []
theorem s142 (c : Nat → S U → Option R142) (p0 : Bool) (p1 p2 : TI) : seg TP X q142 [] (fun q st => c q (keepD D142 (h142 p0 p1 p2).length q st)) body142 (finH TP Try.f142.results.toList (h142 p0 p1 p2).length false k142) (start [.agg [.bool p0, .imm 105 p1, .imm 105 p2]] Try.f142.ntmps (h142 p0 p1 p2)) = b142 p0 p1 p2  := by kernel_rfl
def f142 (_ : Nat) (p0 : Bool) (p1 p2 : TI) : Option R142 := b142 p0 p1 p2
theorem pure142 (p0 : Bool) (p1 p2 : TI) (pok : PrmOK TP X q142) (k : Nat) (r : R142) (h : f142 k p0 p1 p2 = some r) : PureH TP X 142 [.agg [.bool p0, .imm 105 p1, .imm 105 p2]] (h142 p0 p1 p2) (out142 r) (outh142 r) :=
  pure_gen good 0 (fn := Try.f142) (body := body142) (prim := q142) (D := D142) (cuts := []) (h := h142 p0 p1 p2) (own := false) (by kernel_rfl) (by kernel_rfl) (by decide +kernel) pok hk142 (by
    rw [s142]
    exact h)
def F142 {R : Type} (spec : (Bool) → TI → TI → Option R142) : Fn U R := fun args h k => match args, h with | [.agg [.bool p0, .imm 105 p1, .imm 105 p2]], [] => (spec p0 p1 p2).bind fun r => k (out142 r) (outh142 r) | _, _ => none
theorem ok142 {R : Type} (spec : (Bool) → TI → TI → Option R142) (hp : ∀ (p0 : Bool) (p1 : TI) (p2 : TI) (r : R142), spec p0 p1 p2 = some r → PureH TP X 142 [.agg [.bool p0, .imm 105 p1, .imm 105 p2]] (h142 p0 p1 p2) (out142 r) (outh142 r)) : FnOK TP X 142 (F142 spec : Fn U R) := by
  intro args h k r hh
  unfold F142 at hh
  split at hh
  · obtain ⟨x, h1, h2⟩ := Option.bind_eq_some_iff.1 hh
    exact ⟨_, _, h2, hp _ _ _ _ h1⟩
  · cases hh
theorem pok142 : PrmOK TP X q142 := prims_nil TP X mixed
noncomputable def S142 (p0 : Bool) (p1 p2 : TI) : Option R142 := evv fun k => f142 k p0 p1 p2
theorem okS142 {R : Type} : FnOK TP X 142 (F142 S142 : Fn U R) := ok142 S142 fun p0 p1 p2 r h => by
  obtain ⟨k, hk⟩ := evv_fuel h
  exact pure142 p0 p1 p2 pok142 k r hk
end
end Go.Abs.Z
namespace Go.Abs.Z
open Go Go.Abs Go.Proofs
noncomputable section
abbrev R135 : Type := Bool × TI × TI × (Int)
noncomputable def body135 : Go.Code := (Try.f135.body).getD Go.Code.skip
def h135 (p0 : Bool) (p1 p2 : TI) : List (AO U) := []
def k135 : AV U → List (AO U) → Option R135 := fun v h => match v, h with | AV.tup [AV.agg [AV.bool x0, AV.imm 105 x1, AV.imm 105 x2], AV.int IntKind.i64 x3], [] => some (x0, x1, x2, x3) | _, _ => none
def out135 : R135 → AV U := fun (x0, x1, x2, x3) => AV.tup [AV.agg [AV.bool x0, AV.imm 105 x1, AV.imm 105 x2], AV.int IntKind.i64 x3]
def outh135 : R135 → List (AO U) := fun (x0, x1, x2, x3) => []
def D135 : Nat → Dir := dirs []
def b135 (p0 : Bool) (p1 p2 : TI)   : Option R135 :=
  (S142 p0 p1 p2).bind fun r0 =>
  cond (r0)
  (some ((false, [], [], 2)))
  (cond (decide ((0 + p1.length) * 4 ≤ 140737488355328))
  (cond (decide ((0 + p2.length) * 4 ≤ 140737488355328))
  (some ((p0, [] ++ p1, [] ++ p2, 0)))
  (none))
  (none))
theorem hk135 : ∀ v h' r, k135 v h' = some r → v = out135 r ∧ h' = outh135 r := by
  intro v h' r h
  unfold k135 at h
  split at h
  · injection h with h; subst h; exact ⟨rfl, rfl⟩
  · cases h
abbrev q135 : Prim U R135 := prims X [⟨142, fun _ => true, [.lend], F142 S142⟩]
theorem s135 (c : Nat → S U → Option R135) (p0 : Bool) (p1 p2 : TI) : seg TP X q135 [] (fun q st => c q (keepD D135 (h135 p0 p1 p2).length q st)) body135 (finH TP Try.f135.results.toList (h135 p0 p1 p2).length false k135) (start [.agg [.bool p0, .imm 105 p1, .imm 105 p2]] Try.f135.ntmps (h135 p0 p1 p2)) = b135 p0 p1 p2  := by kernel_rfl
def f135 (_ : Nat) (p0 : Bool) (p1 p2 : TI) : Option R135 := b135 p0 p1 p2
theorem pure135 (p0 : Bool) (p1 p2 : TI) (pok : PrmOK TP X q135) (k : Nat) (r : R135) (h : f135 k p0 p1 p2 = some r) : PureH TP X 135 [.agg [.bool p0, .imm 105 p1, .imm 105 p2]] (h135 p0 p1 p2) (out135 r) (outh135 r) :=
  pure_gen good 0 (fn := Try.f135) (body := body135) (prim := q135) (D := D135) (cuts := []) (h := h135 p0 p1 p2) (own := false) (by kernel_rfl) (by kernel_rfl) (by decide +kernel) pok hk135 (by
    rw [s135]
    exact h)
def F135 {R : Type} (spec : (Bool) → TI → TI → Option R135) : Fn U R := fun args h k => match args, h with | [.agg [.bool p0, .imm 105 p1, .imm 105 p2]], [] => (spec p0 p1 p2).bind fun r => k (out135 r) (outh135 r) | _, _ => none
theorem ok135 {R : Type} (spec : (Bool) → TI → TI → Option R135) (hp : ∀ (p0 : Bool) (p1 : TI) (p2 : TI) (r : R135), spec p0 p1 p2 = some r → PureH TP X 135 [.agg [.bool p0, .imm 105 p1, .imm 105 p2]] (h135 p0 p1 p2) (out135 r) (outh135 r)) : FnOK TP X 135 (F135 spec : Fn U R) := by
  intro args h k r hh
  unfold F135 at hh
  split at hh
  · obtain ⟨x, h1, h2⟩ := Option.bind_eq_some_iff.1 hh
    exact ⟨_, _, h2, hp _ _ _ _ h1⟩
  · cases hh
theorem pok135 : PrmOK TP X q135 := prims_cons good okS142 (prims_nil TP X mixed)
noncomputable def S135 (p0 : Bool) (p1 p2 : TI) : Option R135 := evv fun k => f135 k p0 p1 p2
theorem okS135 {R : Type} : FnOK TP X 135 (F135 S135 : Fn U R) := ok135 S135 fun p0 p1 p2 r h => by
  obtain ⟨k, hk⟩ := evv_fuel h
  exact pure135 p0 p1 p2 pok135 k r hk
end
end Go.Abs.Z
namespace Go.Abs.Z
open Go Go.Abs Go.Proofs
noncomputable section
abbrev R118 : Type := Bool × TI × TI × (Int)
noncomputable def body118 : Go.Code := (Try.f118.body).getD Go.Code.skip
def h118 (p0 : Bool) (p1 p2 : TI) : List (AO U) := []
def k118 : AV U → List (AO U) → Option R118 := fun v h => match v, h with | AV.tup [AV.agg [AV.bool x0, AV.imm 105 x1, AV.imm 105 x2], AV.int IntKind.i64 x3], [] => some (x0, x1, x2, x3) | _, _ => none
def out118 : R118 → AV U := fun (x0, x1, x2, x3) => AV.tup [AV.agg [AV.bool x0, AV.imm 105 x1, AV.imm 105 x2], AV.int IntKind.i64 x3]
def outh118 : R118 → List (AO U) := fun (x0, x1, x2, x3) => []
def D118 : Nat → Dir := dirs []
def b118 (p0 : Bool) (p1 p2 : TI)   : Option R118 :=
  (S77 p1).bind fun r0 =>
  cond (!r0)
  (some ((false, [], [], 20)))
  ((S77 p2).bind fun r1 =>
  cond (!r1)
  (some ((false, [], [], 20)))
  (cond ((↑p2.length : Int) == 0)
  (some ((false, [], [], 3)))
  ((S134 p0 p1 p2).bind fun r2 =>
  (S135 r2.fst r2.snd.fst r2.snd.snd).bind fun r3 =>
  some ((r3.fst, r3.snd.fst, r3.snd.snd.fst, r3.snd.snd.snd)))))
theorem hk118 : ∀ v h' r, k118 v h' = some r → v = out118 r ∧ h' = outh118 r := by
  intro v h' r h
  unfold k118 at h
  split at h
  · injection h with h; subst h; exact ⟨rfl, rfl⟩
  · cases h
abbrev q118 : Prim U R118 := prims X [⟨77, fun _ => true, [.lend], F77 S77⟩, ⟨134, fun _ => true, [.lend], F134 S134⟩, ⟨135, fun _ => true, [.lend], F135 S135⟩]
theorem s118 (c : Nat → S U → Option R118) (p0 : Bool) (p1 p2 : TI) : seg TP X q118 [] (fun q st => c q (keepD D118 (h118 p0 p1 p2).length q st)) body118 (finH TP Try.f118.results.toList (h118 p0 p1 p2).length false k118) (start [.bool p0, .imm 105 p1, .imm 105 p2] Try.f118.ntmps (h118 p0 p1 p2)) = b118 p0 p1 p2  := by kernel_rfl
def f118 (_ : Nat) (p0 : Bool) (p1 p2 : TI) : Option R118 := b118 p0 p1 p2
theorem pure118 (p0 : Bool) (p1 p2 : TI) (pok : PrmOK TP X q118) (k : Nat) (r : R118) (h : f118 k p0 p1 p2 = some r) : PureH TP X 118 [.bool p0, .imm 105 p1, .imm 105 p2] (h118 p0 p1 p2) (out118 r) (outh118 r) :=
  pure_gen good 0 (fn := Try.f118) (body := body118) (prim := q118) (D := D118) (cuts := []) (h := h118 p0 p1 p2) (own := false) (by kernel_rfl) (by kernel_rfl) (by decide +kernel) pok hk118 (by
    rw [s118]
    exact h)
def F118 {R : Type} (spec : (Bool) → TI → TI → Option R118) : Fn U R := fun args h k => match args, h with | [.bool p0, .imm 105 p1, .imm 105 p2], [] => (spec p0 p1 p2).bind fun r => k (out118 r) (outh118 r) | _, _ => none
theorem ok118 {R : Type} (spec : (Bool) → TI → TI → Option R118) (hp : ∀ (p0 : Bool) (p1 : TI) (p2 : TI) (r : R118), spec p0 p1 p2 = some r → PureH TP X 118 [.bool p0, .imm 105 p1, .imm 105 p2] (h118 p0 p1 p2) (out118 r) (outh118 r)) : FnOK TP X 118 (F118 spec : Fn U R) := by
  intro args h k r hh
  unfold F118 at hh
  split at hh
  · obtain ⟨x, h1, h2⟩ := Option.bind_eq_some_iff.1 hh
    exact ⟨_, _, h2, hp _ _ _ _ h1⟩
  · cases hh
theorem pok118 : PrmOK TP X q118 := prims_cons good okS77 (prims_cons good okS134 (prims_cons good okS135 (prims_nil TP X mixed)))
noncomputable def S118 (p0 : Bool) (p1 p2 : TI) : Option R118 := evv fun k => f118 k p0 p1 p2
theorem okS118 {R : Type} : FnOK TP X 118 (F118 S118 : Fn U R) := ok118 S118 fun p0 p1 p2 r h => by
  obtain ⟨k, hk⟩ := evv_fuel h
  exact pure118 p0 p1 p2 pok118 k r hk
end
end Go.Abs.Z
namespace Go.Abs.Z
open Go Go.Abs Go.Proofs
noncomputable section
abbrev R88 : Type := Bool × TI × TI
noncomputable def body88 : Go.Code := (Try.f88.body).getD Go.Code.skip
def h88 (p0 : Bool) (p1 p2 : TI) : List (AO U) := []
def k88 : AV U → List (AO U) → Option R88 := fun v h => match v, h with | AV.agg [AV.bool x0, AV.imm 105 x1, AV.imm 105 x2], [] => some (x0, x1, x2) | _, _ => none
def out88 : R88 → AV U := fun (x0, x1, x2) => AV.agg [AV.bool x0, AV.imm 105 x1, AV.imm 105 x2]
def outh88 : R88 → List (AO U) := fun (x0, x1, x2) => []
def D88 : Nat → Dir := dirs []
def b88 (p0 : Bool) (p1 p2 : TI)   : Option R88 :=
  (S62 p1 p2).bind fun r0 =>
  (S82 p1 r0.fst).bind fun r1 =>
  (S82 p2 r0.fst).bind fun r2 =>
  cond (p0)
  (some ((decide ((↑r1.fst.length : Int) > 0), r1.fst, r2.fst)))
  (some ((false, r1.fst, r2.fst)))
theorem hk88 : ∀ v h' r, k88 v h' = some r → v = out88 r ∧ h' = outh88 r := by
  intro v h' r h
  unfold k88 at h
  split at h
  · injection h with h; subst h; exact ⟨rfl, rfl⟩
  · cases h
abbrev q88 : Prim U R88 := prims X [⟨62, fun _ => true, [.lend, .lend], F62 S62⟩, ⟨82, fun _ => true, [.lend, .lend], F82 S82⟩]
theorem s88 (c : Nat → S U → Option R88) (p0 : Bool) (p1 p2 : TI) : seg TP X q88 [] (fun q st => c q (keepD D88 (h88 p0 p1 p2).length q st)) body88 (finH TP Try.f88.results.toList (h88 p0 p1 p2).length false k88) (start [.bool p0, .imm 105 p1, .imm 105 p2] Try.f88.ntmps (h88 p0 p1 p2)) = b88 p0 p1 p2  := by kernel_rfl
def f88 (_ : Nat) (p0 : Bool) (p1 p2 : TI) : Option R88 := b88 p0 p1 p2
theorem pure88 (p0 : Bool) (p1 p2 : TI) (pok : PrmOK TP X q88) (k : Nat) (r : R88) (h : f88 k p0 p1 p2 = some r) : PureH TP X 88 [.bool p0, .imm 105 p1, .imm 105 p2] (h88 p0 p1 p2) (out88 r) (outh88 r) :=
  pure_gen good 0 (fn := Try.f88) (body := body88) (prim := q88) (D := D88) (cuts := []) (h := h88 p0 p1 p2) (own := false) (by kernel_rfl) (by kernel_rfl) (by decide +kernel) pok hk88 (by
    rw [s88]
    exact h)
def F88 {R : Type} (spec : (Bool) → TI → TI → Option R88) : Fn U R := fun args h k => match args, h with | [.bool p0, .imm 105 p1, .imm 105 p2], [] => (spec p0 p1 p2).bind fun r => k (out88 r) (outh88 r) | _, _ => none
theorem ok88 {R : Type} (spec : (Bool) → TI → TI → Option R88) (hp : ∀ (p0 : Bool) (p1 : TI) (p2 : TI) (r : R88), spec p0 p1 p2 = some r → PureH TP X 88 [.bool p0, .imm 105 p1, .imm 105 p2] (h88 p0 p1 p2) (out88 r) (outh88 r)) : FnOK TP X 88 (F88 spec : Fn U R) := by
  intro args h k r hh
  unfold F88 at hh
  split at hh
  · obtain ⟨x, h1, h2⟩ := Option.bind_eq_some_iff.1 hh
    exact ⟨_, _, h2, hp _ _ _ _ h1⟩
  · cases hh
theorem pok88 : PrmOK TP X q88 := prims_cons good okS62 (prims_cons good okS82 (prims_nil TP X mixed))
noncomputable def S88 (p0 : Bool) (p1 p2 : TI) : Option R88 := evv fun k => f88 k p0 p1 p2
theorem okS88 {R : Type} : FnOK TP X 88 (F88 S88 : Fn U R) := ok88 S88 fun p0 p1 p2 r h => by
  obtain ⟨k, hk⟩ := evv_fuel h
  exact pure88 p0 p1 p2 pok88 k r hk
end
end Go.Abs.Z
namespace Go.Abs.Z
open Go Go.Abs Limb Num
theorem run142 {neg : Bool} {a b : List Int} (ha : a.length ≤ 2048) (hb : b.length ≤ 2048) : S142 neg a b = some false := evv_eq (Evt.now fun k => by
  show b142 neg a b = _
  unfold b142
  have : ¬ imax (a.length : Int) (b.length : Int) > 2048 := by unfold imax; split <;> omega
  show some (decide (imax (a.length : Int) (b.length : Int) > 2048)) = _
  rw [decide_eq_false this])
theorem run135 {neg : Bool} {a b : List Int} (ha : a.length ≤ 2048) (hb : b.length ≤ 2048) : S135 neg a b = some (neg, a, b, 0) := evv_eq (Evt.now fun k => by
  show b135 neg a b = _
  unfold b135
  rw [run142 ha hb]
  simp only [Option.bind_some, cond_false]
  rw [cT (by omega), cT (by omega)]
  rfl)
theorem run141 : S141 = some [1] := evv_eq (Evt.now fun k => rfl)
theorem g_pos {A B : Int} {g : Int} (h : IsG g A B) (hB : 0 < B) : 0 < g := by
  have h1 := ((h.2 g).1 (Int.dvd_refl g)).2
  rcases Int.lt_or_eq_of_le h.1 with h2 | h2
  · exact h2
  · subst h2
    have := Int.zero_dvd.1 h1
    omega
theorem g_le {A B : Int} {g : Int} (h : IsG g A B) (hB : 0 < B) : g ≤ B := Int.le_of_dvd hB ((h.2 g).1 (Int.dvd_refl g)).2
theorem div_le {A g : Int} (hA : 0 ≤ A) (hg : 0 < g) : 0 ≤ A / g ∧ A / g ≤ A := ⟨Int.ediv_nonneg hA (by omega), Int.ediv_le_self _ hA⟩
theorem is_len {a : List Int} {v : Int} {n : Nat} (h : Is a v) (hv : v < P n) : a.length ≤ n := len_of_val h.ok h.norm n (by rw [h.val]; exact hv)
theorem is_lt {a : List Int} {v : Int} {n : Nat} (h : Is a v) (hl : a.length ≤ n) : v < P n := by
  have := (val_bound h.ok).2
  rw [h.val] at this
  exact Int.lt_of_lt_of_le this (P_mono hl)
theorem mayL_mk {l : List Int} (h : l.length ≤ 2048) (hn : Norm l) : mayL l = true := by
  unfold mayL
  rw [decide_eq_true h]
  rcases hn with rfl | hn
  · rfl
  · simp only [Bool.true_and, Bool.or_eq_true, bne_iff_ne]
    exact .inr hn
theorem run118 {neg : Bool} {a b : List Int} {A B : Int} (ha : Is a A) (hb : Is b B) (la : a.length ≤ 2048) (lb : b.length ≤ 2048) :
    ∃ x y z, S118 neg a b = some (x, y, z, if b = [] then 3 else 0) := by
  by_cases hb0 : b = []
  · refine ⟨false, [], [], evv_eq (Evt.now fun k => ?_)⟩
    show b118 neg a b = _
    unfold b118
    rw [run77, run77, mayL_mk la ha.norm, mayL_mk lb hb.norm]
    simp only [Option.bind_some]
    rw [cNF rfl, cNF rfl, if_pos hb0, hb0]
    rfl
  · have hB : 0 < B := by
      have := hb.nonneg
      rcases Int.lt_or_eq_of_le this with h | h
      · exact h
      · exact absurd (hb.nil_iff.2 h.symm) hb0
    have hA := ha.nonneg
    obtain ⟨x, y, z, h134, hy, hz⟩ : ∃ x y z, S134 neg a b = some (x, y, z) ∧ y.length ≤ 2048 ∧ z.length ≤ 2048 := by
      by_cases ha0 : a.length = 0
      · refine ⟨false, [], [1], evv_eq (Evt.now fun k => ?_), by simp, by simp⟩
        show b134 neg a b = _
        unfold b134
        rw [cE (by omega), run141]
        rfl
      · obtain ⟨r, g, g1, g2, g3⟩ := run79 ha hb (by omega) (by omega)
        have gp := g_pos g3 hB
        by_cases h1 : r = [1]
        · refine ⟨neg, a, b, evv_eq (Evt.now fun k => ?_), la, lb⟩
          show b134 neg a b = _
          unfold b134
          rw [cN (by omega), g1]
          simp only [Option.bind_some]
          rw [run78, h1]
          rfl
        · have gl : r.length ≤ 2048 := is_len g2 (Int.lt_of_le_of_lt (g_le g3 hB) (is_lt hb lb))
          obtain ⟨q1, r1, e1, e2, _⟩ := run92 ha g2 gp (by omega) (by omega)
          obtain ⟨q2, r2, f1, f2, _⟩ := run92 hb g2 gp (by omega) (by omega)
          refine ⟨neg, q1, q2, evv_eq (Evt.now fun k => ?_), is_len e2 (Int.lt_of_le_of_lt (div_le hA gp).2 (is_lt ha la)), is_len f2 (Int.lt_of_le_of_lt (div_le (by omega) gp).2 (is_lt hb lb))⟩
          show b134 neg a b = _
          unfold b134
          rw [cN (by omega), g1]
          simp only [Option.bind_some]
          rw [run78, beq_eq_false_iff_ne.2 h1]
          simp only [Option.bind_some]
          rw [cNT rfl, e1, f1]
          rfl
    refine ⟨x, y, z, evv_eq (Evt.now fun k => ?_)⟩
    show b118 neg a b = _
    unfold b118
    rw [run77, run77, mayL_mk la ha.norm, mayL_mk lb hb.norm]
    simp only [Option.bind_some]
    have : b.length ≠ 0 := fun h => hb0 (List.length_eq_zero_iff.1 h)
    rw [cNF rfl, cNF rfl, if_neg hb0, cN (by omega), h134]
    simp only [Option.bind_some]
    rw [run135 hy hz]
    rfl
theorem run88 {neg : Bool} {a b : List Int} {A B : Int} (ha : Is a A) (hb : Is b B) (la : a.length ≤ 2048) (lb : b.length ≤ 2048) (hB : 0 < B) :
    ∃ r, S88 neg a b = some r := by
  obtain ⟨r, g, g1, g2, g3⟩ := run62 ha hb (mayL_mk la ha.norm) (mayL_mk lb hb.norm)
  have gp := g_pos g3 hB
  have gl : r.length ≤ 2048 := is_len g2 (Int.lt_of_le_of_lt (g_le g3 hB) (is_lt hb lb))
  obtain ⟨q1, r1, e1, _⟩ := run82 ha g2 (mayL_mk la ha.norm) (mayL_mk gl g2.norm) gp
  obtain ⟨q2, r2, f1, _⟩ := run82 hb g2 (mayL_mk lb hb.norm) (mayL_mk gl g2.norm) gp
  cases neg with
  | true =>
    refine ⟨(decide ((q1.length : Int) > 0), q1, q2), evv_eq (Evt.now fun k => ?_)⟩
    show b88 true a b = _
    unfold b88
    rw [g1]
    simp only [Option.bind_some]
    rw [e1, f1]
    rfl
  | false =>
    refine ⟨(false, q1, q2), evv_eq (Evt.now fun k => ?_)⟩
    show b88 false a b = _
    unfold b88
    rw [g1]
    simp only [Option.bind_some]
    rw [e1, f1]
    rfl
end Go.Abs.Z
namespace Go.Abs.Z
open Go Go.Abs Go.Proofs Go.Shelf Go.RowKit
noncomputable section
def layIndRen : Ren := {
  f := fun x =>
    match x with
    | 137 => 75
    | 217 => 85
    | 266 => 103
    | n => n,
  t := fun x =>
    match x with
    | 9 => 9
    | 5 => 5
    | 3 => 3
    | n => n,
  g := fun x =>
     x }
theorem layInd : Lays.n137 TP layIndRen where
  mixed := by kernel_rfl
  f137 := Try.func75.trans (by kernel_rfl)
  f217 := Try.func85.trans (by kernel_rfl)
  f266 := Try.func103.trans (by kernel_rfl)
  t3 := Try.underlying3
  a3 := Try.isAgg3
  z3 := Try.sizeOf3
  v3 := Try.zeroValue3
  t5 := Try.underlying5
  a5 := Try.isAgg5
  z5 := Try.sizeOf5
  v5 := Try.zeroValue5
  t9 := Try.underlying9
  a9 := Try.isAgg9
  z9 := Try.sizeOf9
  v9 := Try.zeroValue9
def layRepRen : Ren := {
  f := fun x =>
    match x with
    | 105 => 102
    | 212 => 119
    | 99 => 120
    | 165 => 121
    | 166 => 122
    | 170 => 123
    | 169 => 124
    | 263 => 136
    | 264 => 137
    | 206 => 138
    | 240 => 139
    | 241 => 140
    | 276 => 143
    | 277 => 144
    | n => n,
  t := fun x =>
    match x with
    | 9 => 9
    | 3 => 3
    | 4 => 4
    | 20 => 20
    | 0 => 0
    | 46 => 178
    | 109 => 198
    | 5 => 5
    | 72 => 204
    | 76 => 207
    | 51 => 105
    | 146 => 211
    | 53 => 106
    | 148 => 221
    | 70 => 201
    | 37 => 202
    | 75 => 206
    | 127 => 223
    | 164 => 225
    | 80 => 210
    | n => n,
  g := fun x =>
     x }
theorem layRep : Lays.n105 TP layRepRen where
  mixed := by kernel_rfl
  f99 := Try.func120.trans (by kernel_rfl)
  f105 := Try.func102.trans (by kernel_rfl)
  f165 := Try.func121.trans (by kernel_rfl)
  f166 := Try.func122.trans (by kernel_rfl)
  f169 := Try.func124.trans (by kernel_rfl)
  f170 := Try.func123.trans (by kernel_rfl)
  f206 := Try.func138.trans (by kernel_rfl)
  f212 := Try.func119.trans (by kernel_rfl)
  f240 := Try.func139.trans (by kernel_rfl)
  f241 := Try.func140.trans (by kernel_rfl)
  f263 := Try.func136.trans (by kernel_rfl)
  f264 := Try.func137.trans (by kernel_rfl)
  f276 := Try.func143.trans (by kernel_rfl)
  f277 := Try.func144.trans (by kernel_rfl)
  t0 := Try.underlying0
  a0 := Try.isAgg0
  z0 := Try.sizeOf0
  v0 := Try.zeroValue0
  t3 := Try.underlying3
  a3 := Try.isAgg3
  z3 := Try.sizeOf3
  v3 := Try.zeroValue3
  t4 := Try.underlying4
  a4 := Try.isAgg4
  z4 := Try.sizeOf4
  v4 := Try.zeroValue4
  t5 := Try.underlying5
  a5 := Try.isAgg5
  z5 := Try.sizeOf5
  v5 := Try.zeroValue5
  t9 := Try.underlying9
  a9 := Try.isAgg9
  z9 := Try.sizeOf9
  v9 := Try.zeroValue9
  t20 := Try.underlying20
  a20 := Try.isAgg20
  z20 := Try.sizeOf20
  v20 := Try.zeroValue20
  t37 := Try.underlying202
  a37 := Try.isAgg202
  z37 := Try.sizeOf202
  v37 := Try.zeroValue202
  t46 := Try.underlying178
  a46 := Try.isAgg178
  z46 := Try.sizeOf178
  v46 := Try.zeroValue178
  t51 := Try.underlying105
  a51 := Try.isAgg105
  z51 := Try.sizeOf105
  v51 := Try.zeroValue105
  t53 := Try.underlying106
  a53 := Try.isAgg106
  z53 := Try.sizeOf106
  v53 := Try.zeroValue106
  t70 := Try.underlying201
  a70 := Try.isAgg201
  z70 := Try.sizeOf201
  v70 := Try.zeroValue201
  t72 := Try.underlying204
  a72 := Try.isAgg204
  z72 := Try.sizeOf204
  v72 := Try.zeroValue204
  t75 := Try.underlying206
  a75 := Try.isAgg206
  z75 := Try.sizeOf206
  v75 := Try.zeroValue206
  t76 := Try.underlying207
  a76 := Try.isAgg207
  z76 := Try.sizeOf207
  v76 := Try.zeroValue207
  t109 := Try.underlying198
  a109 := Try.isAgg198
  z109 := Try.sizeOf198
  v109 := Try.zeroValue198
  t127 := Try.underlying223
  a127 := Try.isAgg223
  z127 := Try.sizeOf223
  v127 := Try.zeroValue223
  t146 := Try.underlying211
  a146 := Try.isAgg211
  z146 := Try.sizeOf211
  v146 := Try.zeroValue211
  t148 := Try.underlying221
  a148 := Try.isAgg221
  z148 := Try.sizeOf221
  v148 := Try.zeroValue221
  t164 := Try.underlying225
  a164 := Try.isAgg225
  z164 := Try.sizeOf225
  v164 := Try.zeroValue225
theorem layExtra : Builder.Extra TP layRepRen where
  sizeBuilder := by kernel_rfl
  liesBuilder := by kernel_rfl
  t5 := layRep.t5
  a5 := layRep.a5
  z5 := layRep.z5
  v5 := layRep.v5
  infoByte := by kernel_rfl
  cellsByte := by kernel_rfl
  sizeByte := by kernel_rfl
  neB5 := by decide
abbrev R75 : Type := Int
def out75 : R75 → AV U := fun x0 => .int .i64 x0
def outh75 : R75 → List (AO U) := fun x0 => []
def h75 (p0 : ByteArray) (p1 : Int) : List (AO U) := []
def S75 (p0 : ByteArray) (p1 : Int) : Option R75 := some (Lib.indexByte p0.data.toList p1.toNat.toUInt8)
def F75 {R : Type} (spec : ByteArray → Int → Option R75) : Fn U R := fun args h k => match args, h with | [.str p0, .int .u8 p1], [] => (spec p0 p1).bind fun r => k (out75 r) (outh75 r) | _, _ => none
theorem ok75 {R : Type} (spec : ByteArray → Int → Option R75) (hp : ∀ (p0 : ByteArray) (p1 : Int) (r : R75), spec p0 p1 = some r → PureH TP X 75 [.str p0, .int .u8 p1] (h75 p0 p1) (out75 r) (outh75 r)) : FnOK TP X 75 (F75 spec : Fn U R) := by
  intro args h k r hh
  unfold F75 at hh
  split at hh
  · obtain ⟨x, h1, h2⟩ := Option.bind_eq_some_iff.1 hh
    exact ⟨_, _, h2, hp _ _ _ h1⟩
  · cases hh
theorem pure75 (p0 : ByteArray) (p1 : Int) (r : R75) (h : S75 p0 p1 = some r) : PureH TP X 75 [.str p0, .int .u8 p1] (h75 p0 p1) (out75 r) (outh75 r) := by
  unfold S75 at h
  injection h with h; subst h
  intro w N th vs m hs ha
  obtain ⟨v, v', rfl⟩ : ∃ v v', vs = #[v, v'] := by
    obtain ⟨l⟩ := vs
    match l, hs with
    | [v, v'], _ => exact ⟨v, v', rfl⟩
  have hv : VRel X w (NN N th) th (.str p0) v := ha 0 (by simp)
  have hv' : VRel X w (NN N th) th (.int .u8 p1) v' := ha 1 (by simp)
  cases hv; cases hv'
  refine (Any.strings_IndexByte layInd p0 p1 w).mono fun e w' ⟨he, hw⟩ => ?_
  subst he; subst hw
  exact ⟨_, th, rfl, m, .int _ _⟩
theorem okS75 {R : Type} : FnOK TP X 75 (F75 S75 : Fn U R) := ok75 S75 pure75
abbrev R102 : Type := ByteArray
def out102 : R102 → AV U := fun x0 => .str x0
def outh102 : R102 → List (AO U) := fun x0 => []
def h102 (p0 : ByteArray) (p1 : Int) : List (AO U) := []
def S102 (p0 : ByteArray) (p1 : Int) : Option R102 := if 0 ≤ p1 ∧ p1 ≤ 9223372036854775807 ∧ p0.size * p1.toNat ≤ 140737488355328 then some ⟨(Lib.repeatL p0.data.toList p1.toNat).toArray⟩ else none
def F102 {R : Type} (spec : ByteArray → Int → Option R102) : Fn U R := fun args h k => match args, h with | [.str p0, .int .i64 p1], [] => (spec p0 p1).bind fun r => k (out102 r) (outh102 r) | _, _ => none
theorem ok102 {R : Type} (spec : ByteArray → Int → Option R102) (hp : ∀ (p0 : ByteArray) (p1 : Int) (r : R102), spec p0 p1 = some r → PureH TP X 102 [.str p0, .int .i64 p1] (h102 p0 p1) (out102 r) (outh102 r)) : FnOK TP X 102 (F102 spec : Fn U R) := by
  intro args h k r hh
  unfold F102 at hh
  split at hh
  · obtain ⟨x, h1, h2⟩ := Option.bind_eq_some_iff.1 hh
    exact ⟨_, _, h2, hp _ _ _ h1⟩
  · cases hh
theorem pure102 (p0 : ByteArray) (p1 : Int) (r : R102) (h : S102 p0 p1 = some r) : PureH TP X 102 [.str p0, .int .i64 p1] (h102 p0 p1) (out102 r) (outh102 r) := by
  unfold S102 at h
  split at h
  · rename_i hr
    injection h with h; subst h
    intro w N th vs m hs ha
    obtain ⟨v, v', rfl⟩ : ∃ v v', vs = #[v, v'] := by
      obtain ⟨l⟩ := vs
      match l, hs with
      | [v, v'], _ => exact ⟨v, v', rfl⟩
    have hv : VRel X w (NN N th) th (.str p0) v := ha 0 (by simp)
    have hv' : VRel X w (NN N th) th (.int .i64 p1) v' := ha 1 (by simp)
    cases hv; cases hv'
    obtain ⟨n, rfl⟩ : ∃ n : Nat, p1 = n := ⟨p1.toNat, by omega⟩
    refine (Any.strings_Repeat layRep layExtra p0 n w (by omega) (by simpa using hr.2.2)).mono fun e w' ⟨he, hb⟩ => ?_
    subst he
    obtain ⟨r1, _⟩ := below_ok (X := X) (st := ⟨[], []⟩) (a := { tmps := #[], defers := [] }) ⟨Nat.le_refl _, fun i => .undef _, m, rfl⟩ hb
    exact ⟨_, th, rfl, r1.mem, .str _⟩
  · cases h
theorem okS102 {R : Type} : FnOK TP X 102 (F102 S102 : Fn U R) := ok102 S102 pure102
end
end Go.Abs.Z
namespace Go.Abs.Z
open Go Go.Abs Go.Proofs
noncomputable section
abbrev R51 : Type := ByteArray × Int × (List TTk)
noncomputable def body51 : Go.Code := (Try.f51.body).getD Go.Code.skip
def h51 (p0 : ByteArray) (p1 : Int) (p2 : List TTk) (p3 p4 : Int) : List (AO U) := [.box [.str p0, .int .i64 p1, .row 1 90], .row 90 p2]
def k51 : AV U → List (AO U) → Option R51 := fun v h => match v, h with | AV.tup [], [AO.box [AV.str x0, AV.int IntKind.i64 x1, AV.row 2 90], AO.dead, AO.row 90 x2] => some (x0, x1, x2) | _, _ => none
def out51 : R51 → AV U := fun (x0, x1, x2) => AV.tup []
def outh51 : R51 → List (AO U) := fun (x0, x1, x2) => [AO.box [AV.str x0, AV.int IntKind.i64 x1, AV.row 2 90], AO.dead, AO.row 90 x2]
def D51 : Nat → Dir := dirs []
def b51 (p0 : ByteArray) (p1 : Int) (p2 : List TTk) (p3 p4 : Int)   : Option R51 :=
  cond (decide (0 ≤ p1))
  (cond (decide (p1 ≤ IntKind.i64.wrap (p1 + p4)))
  (cond (decide (IntKind.i64.wrap (p1 + p4) ≤ (↑p0.size : Int)))
  (cond (decide ((p2.length + 1) * 88 ≤ 140737488355328))
  (some ((p0, IntKind.i64.wrap (p1 + p4), p2 ++ [(p3, p0.extract p1.toNat (IntKind.i64.wrap (p1 + p4)).toNat, p1, false, [], [])])))
  (none))
  (none))
  (none))
  (none)
theorem hk51 : ∀ v h' r, k51 v h' = some r → v = out51 r ∧ h' = outh51 r := by
  intro v h' r h
  unfold k51 at h
  split at h
  · injection h with h; subst h; exact ⟨rfl, rfl⟩
  · cases h
abbrev q51 : Prim U R51 := prims X []
theorem s51 (c : Nat → S U → Option R51) (p0 : ByteArray) (p1 : Int) (p2 : List TTk) (p3 p4 : Int) : seg TP X q51 [] (fun q st => c q (keepD D51 (h51 p0 p1 p2 p3 p4).length q st)) body51 (finH TP Try.f51.results.toList (h51 p0 p1 p2 p3 p4).length false k51) (start [.ptr 0 0, .int .i64 p3, .int .i64 p4] Try.f51.ntmps (h51 p0 p1 p2 p3 p4)) = b51 p0 p1 p2 p3 p4  := by kernel_rfl
def f51 (_ : Nat) (p0 : ByteArray) (p1 : Int) (p2 : List TTk) (p3 p4 : Int) : Option R51 := b51 p0 p1 p2 p3 p4
theorem pure51 (p0 : ByteArray) (p1 : Int) (p2 : List TTk) (p3 p4 : Int) (pok : PrmOK TP X q51) (k : Nat) (r : R51) (h : f51 k p0 p1 p2 p3 p4 = some r) : PureH TP X 51 [.ptr 0 0, .int .i64 p3, .int .i64 p4] (h51 p0 p1 p2 p3 p4) (out51 r) (outh51 r) :=
  pure_gen good 0 (fn := Try.f51) (body := body51) (prim := q51) (D := D51) (cuts := []) (h := h51 p0 p1 p2 p3 p4) (own := false) (by kernel_rfl) (by kernel_rfl) (by decide +kernel) pok hk51 (by
    rw [s51]
    exact h)
def F51 {R : Type} (spec : (ByteArray) → Int → (List TTk) → Int → (Int) → Option R51) : Fn U R := fun args h k => match args, h with | [.ptr 0 0, .int .i64 p3, .int .i64 p4], [.box [.str p0, .int .i64 p1, .row 1 90], .row 90 p2] => (spec p0 p1 p2 p3 p4).bind fun r => k (out51 r) (outh51 r) | _, _ => none
theorem ok51 {R : Type} (spec : (ByteArray) → Int → (List TTk) → Int → (Int) → Option R51) (hp : ∀ (p0 : ByteArray) (p1 : Int) (p2 : List TTk) (p3 : Int) (p4 : Int) (r : R51), spec p0 p1 p2 p3 p4 = some r → PureH TP X 51 [.ptr 0 0, .int .i64 p3, .int .i64 p4] (h51 p0 p1 p2 p3 p4) (out51 r) (outh51 r)) : FnOK TP X 51 (F51 spec : Fn U R) := by
  intro args h k r hh
  unfold F51 at hh
  split at hh
  · obtain ⟨x, h1, h2⟩ := Option.bind_eq_some_iff.1 hh
    exact ⟨_, _, h2, hp _ _ _ _ _ _ h1⟩
  · cases hh
theorem pok51 : PrmOK TP X q51 := prims_nil TP X mixed
noncomputable def S51 (p0 : ByteArray) (p1 : Int) (p2 : List TTk) (p3 p4 : Int) : Option R51 := evv fun k => f51 k p0 p1 p2 p3 p4
theorem okS51 {R : Type} : FnOK TP X 51 (F51 S51 : Fn U R) := ok51 S51 fun p0 p1 p2 p3 p4 r h => by
  obtain ⟨k, hk⟩ := evv_fuel h
  exact pure51 p0 p1 p2 p3 p4 pok51 k r hk
end
end Go.Abs.Z
namespace Go.Abs.Z
open Go Go.Abs Go.Proofs
noncomputable section
abbrev R69 : Type := (Bool)
noncomputable def body69 : Go.Code := (Try.f69.body).getD Go.Code.skip
def h69 (p0 : Int) : List (AO U) := []
def k69 : AV U → List (AO U) → Option R69 := fun v h => match v, h with | AV.bool x0, [] => some x0 | _, _ => none
def out69 : R69 → AV U := fun x0 => AV.bool x0
def outh69 : R69 → List (AO U) := fun x0 => []
def D69 : Nat → Dir := dirs []
def b69 (p0 : Int)   : Option R69 :=
  cond (decide (p0 ≥ 97))
  (cond (decide (p0 ≤ 122))
  (some (true))
  (cond (decide (p0 ≥ 65))
  (cond (decide (p0 ≤ 90))
  (some (true))
  (some (p0 == 95)))
  (some (p0 == 95))))
  (cond (decide (p0 ≥ 65))
  (cond (decide (p0 ≤ 90))
  (some (true))
  (some (p0 == 95)))
  (some (p0 == 95)))
theorem hk69 : ∀ v h' r, k69 v h' = some r → v = out69 r ∧ h' = outh69 r := by
  intro v h' r h
  unfold k69 at h
  split at h
  · injection h with h; subst h; exact ⟨rfl, rfl⟩
  · cases h
abbrev q69 : Prim U R69 := prims X []
theorem s69 (c : Nat → S U → Option R69) (p0 : Int) : seg TP X q69 [] (fun q st => c q (keepD D69 (h69 p0).length q st)) body69 (finH TP Try.f69.results.toList (h69 p0).length false k69) (start [.int .u8 p0] Try.f69.ntmps (h69 p0)) = b69 p0  := by kernel_rfl
def f69 (_ : Nat) (p0 : Int) : Option R69 := b69 p0
theorem pure69 (p0 : Int) (pok : PrmOK TP X q69) (k : Nat) (r : R69) (h : f69 k p0 = some r) : PureH TP X 69 [.int .u8 p0] (h69 p0) (out69 r) (outh69 r) :=
  pure_gen good 0 (fn := Try.f69) (body := body69) (prim := q69) (D := D69) (cuts := []) (h := h69 p0) (own := false) (by kernel_rfl) (by kernel_rfl) (by decide +kernel) pok hk69 (by
    rw [s69]
    exact h)
def F69 {R : Type} (spec : (Int) → Option R69) : Fn U R := fun args h k => match args, h with | [.int .u8 p0], [] => (spec p0).bind fun r => k (out69 r) (outh69 r) | _, _ => none
theorem ok69 {R : Type} (spec : (Int) → Option R69) (hp : ∀ (p0 : Int) (r : R69), spec p0 = some r → PureH TP X 69 [.int .u8 p0] (h69 p0) (out69 r) (outh69 r)) : FnOK TP X 69 (F69 spec : Fn U R) := by
  intro args h k r hh
  unfold F69 at hh
  split at hh
  · obtain ⟨x, h1, h2⟩ := Option.bind_eq_some_iff.1 hh
    exact ⟨_, _, h2, hp _ _ h1⟩
  · cases hh
theorem pok69 : PrmOK TP X q69 := prims_nil TP X mixed
noncomputable def S69 (p0 : Int) : Option R69 := evv fun k => f69 k p0
theorem okS69 {R : Type} : FnOK TP X 69 (F69 S69 : Fn U R) := ok69 S69 fun p0 r h => by
  obtain ⟨k, hk⟩ := evv_fuel h
  exact pure69 p0 pok69 k r hk
end
end Go.Abs.Z
namespace Go.Abs.Z
open Go Go.Abs Go.Proofs
noncomputable section
abbrev R72 : Type := (Bool)
noncomputable def body72 : Go.Code := (Try.f72.body).getD Go.Code.skip
def h72 (p0 : Int) : List (AO U) := []
def k72 : AV U → List (AO U) → Option R72 := fun v h => match v, h with | AV.bool x0, [] => some x0 | _, _ => none
def out72 : R72 → AV U := fun x0 => AV.bool x0
def outh72 : R72 → List (AO U) := fun x0 => []
def D72 : Nat → Dir := dirs []
def b72 (p0 : Int)   : Option R72 :=
  cond (decide (p0 ≥ 48))
  (some (decide (p0 ≤ 57)))
  (some (false))
theorem hk72 : ∀ v h' r, k72 v h' = some r → v = out72 r ∧ h' = outh72 r := by
  intro v h' r h
  unfold k72 at h
  split at h
  · injection h with h; subst h; exact ⟨rfl, rfl⟩
  · cases h
abbrev q72 : Prim U R72 := prims X []
theorem s72 (c : Nat → S U → Option R72) (p0 : Int) : seg TP X q72 [] (fun q st => c q (keepD D72 (h72 p0).length q st)) body72 (finH TP Try.f72.results.toList (h72 p0).length false k72) (start [.int .u8 p0] Try.f72.ntmps (h72 p0)) = b72 p0  := by kernel_rfl
def f72 (_ : Nat) (p0 : Int) : Option R72 := b72 p0
theorem pure72 (p0 : Int) (pok : PrmOK TP X q72) (k : Nat) (r : R72) (h : f72 k p0 = some r) : PureH TP X 72 [.int .u8 p0] (h72 p0) (out72 r) (outh72 r) :=
  pure_gen good 0 (fn := Try.f72) (body := body72) (prim := q72) (D := D72) (cuts := []) (h := h72 p0) (own := false) (by kernel_rfl) (by kernel_rfl) (by decide +kernel) pok hk72 (by
    rw [s72]
    exact h)
def F72 {R : Type} (spec : (Int) → Option R72) : Fn U R := fun args h k => match args, h with | [.int .u8 p0], [] => (spec p0).bind fun r => k (out72 r) (outh72 r) | _, _ => none
theorem ok72 {R : Type} (spec : (Int) → Option R72) (hp : ∀ (p0 : Int) (r : R72), spec p0 = some r → PureH TP X 72 [.int .u8 p0] (h72 p0) (out72 r) (outh72 r)) : FnOK TP X 72 (F72 spec : Fn U R) := by
  intro args h k r hh
  unfold F72 at hh
  split at hh
  · obtain ⟨x, h1, h2⟩ := Option.bind_eq_some_iff.1 hh
    exact ⟨_, _, h2, hp _ _ h1⟩
  · cases hh
theorem pok72 : PrmOK TP X q72 := prims_nil TP X mixed
noncomputable def S72 (p0 : Int) : Option R72 := evv fun k => f72 k p0
theorem okS72 {R : Type} : FnOK TP X 72 (F72 S72 : Fn U R) := ok72 S72 fun p0 r h => by
  obtain ⟨k, hk⟩ := evv_fuel h
  exact pure72 p0 pok72 k r hk
end
end Go.Abs.Z
namespace Go.Abs.Z
open Go Go.Abs Go.Proofs
noncomputable section
abbrev R71 : Type := (Bool)
noncomputable def body71 : Go.Code := (Try.f71.body).getD Go.Code.skip
def h71 (p0 : Int) : List (AO U) := []
def k71 : AV U → List (AO U) → Option R71 := fun v h => match v, h with | AV.bool x0, [] => some x0 | _, _ => none
def out71 : R71 → AV U := fun x0 => AV.bool x0
def outh71 : R71 → List (AO U) := fun x0 => []
def D71 : Nat → Dir := dirs []
def b71 (p0 : Int)   : Option R71 :=
  (S69 p0).bind fun r0 =>
  cond (r0)
  (some (true))
  ((S72 p0).bind fun r1 =>
  some (r1))
theorem hk71 : ∀ v h' r, k71 v h' = some r → v = out71 r ∧ h' = outh71 r := by
  intro v h' r h
  unfold k71 at h
  split at h
  · injection h with h; subst h; exact ⟨rfl, rfl⟩
  · cases h
abbrev q71 : Prim U R71 := prims X [⟨69, fun _ => true, [.lend], F69 S69⟩, ⟨72, fun _ => true, [.lend], F72 S72⟩]
theorem s71 (c : Nat → S U → Option R71) (p0 : Int) : seg TP X q71 [] (fun q st => c q (keepD D71 (h71 p0).length q st)) body71 (finH TP Try.f71.results.toList (h71 p0).length false k71) (start [.int .u8 p0] Try.f71.ntmps (h71 p0)) = b71 p0  := by kernel_rfl
def f71 (_ : Nat) (p0 : Int) : Option R71 := b71 p0
theorem pure71 (p0 : Int) (pok : PrmOK TP X q71) (k : Nat) (r : R71) (h : f71 k p0 = some r) : PureH TP X 71 [.int .u8 p0] (h71 p0) (out71 r) (outh71 r) :=
  pure_gen good 0 (fn := Try.f71) (body := body71) (prim := q71) (D := D71) (cuts := []) (h := h71 p0) (own := false) (by kernel_rfl) (by kernel_rfl) (by decide +kernel) pok hk71 (by
    rw [s71]
    exact h)
def F71 {R : Type} (spec : (Int) → Option R71) : Fn U R := fun args h k => match args, h with | [.int .u8 p0], [] => (spec p0).bind fun r => k (out71 r) (outh71 r) | _, _ => none
theorem ok71 {R : Type} (spec : (Int) → Option R71) (hp : ∀ (p0 : Int) (r : R71), spec p0 = some r → PureH TP X 71 [.int .u8 p0] (h71 p0) (out71 r) (outh71 r)) : FnOK TP X 71 (F71 spec : Fn U R) := by
  intro args h k r hh
  unfold F71 at hh
  split at hh
  · obtain ⟨x, h1, h2⟩ := Option.bind_eq_some_iff.1 hh
    exact ⟨_, _, h2, hp _ _ h1⟩
  · cases hh
theorem pok71 : PrmOK TP X q71 := prims_cons good okS69 (prims_cons good okS72 (prims_nil TP X mixed))
noncomputable def S71 (p0 : Int) : Option R71 := evv fun k => f71 k p0
theorem okS71 {R : Type} : FnOK TP X 71 (F71 S71 : Fn U R) := ok71 S71 fun p0 r h => by
  obtain ⟨k, hk⟩ := evv_fuel h
  exact pure71 p0 pok71 k r hk
end
end Go.Abs.Z
namespace Go.Abs.Z
open Go Go.Abs Go.Proofs
noncomputable section
abbrev R70n : Type := Int × ByteArray × Int × (List TTk)
noncomputable def body70n : Go.Code := (Try.f70.body).getD Go.Code.skip
def h70n (p0 : ByteArray) (p1 : Int) (p2 : List TTk) (p3 : Int) : List (AO U) := [.box [.str p0, .int .i64 p1, .row 1 90], .row 90 p2]
def k70n : AV U → List (AO U) → Option R70n := fun v h => match v, h with | AV.int IntKind.i64 x0, [AO.box [AV.str x1, AV.int IntKind.i64 x2, AV.row 1 90], AO.row 90 x3] => some (x0, x1, x2, x3) | _, _ => none
def out70n : R70n → AV U := fun (x0, x1, x2, x3) => AV.int IntKind.i64 x0
def outh70n : R70n → List (AO U) := fun (x0, x1, x2, x3) => [AO.box [AV.str x1, AV.int IntKind.i64 x2, AV.row 1 90], AO.row 90 x3]
def D70n : Nat → Dir := dirs [(2, ⟨[0, 1, 2, 7], [], [], []⟩)]
def b70n (p0 : ByteArray) (p1 : Int) (p2 : List TTk) (p3 : Int) (c2 : (Int) → Option R70n)  : Option R70n :=
  c2 (p3)
def m70n_2 (p0 : ByteArray) (p1 : Int) (p2 : List TTk) (p3 v1 : Int) : S U := S.mk [AV.ptr 0 0, AV.int IntKind.i64 p3, AV.fn 71 [], AV.undef, AV.undef, AV.undef, AV.undef, AV.int IntKind.i64 v1, AV.undef, AV.undef, AV.undef, AV.undef, AV.undef, AV.undef, AV.undef, AV.undef, AV.undef, AV.undef, AV.undef, AV.undef, AV.undef, AV.undef, AV.undef, AV.undef, AV.undef, AV.undef, AV.undef, AV.undef, AV.undef, AV.undef, AV.undef] [AO.box [AV.str p0, AV.int IntKind.i64 p1, AV.row 1 90], AO.row 90 p2]
def b70n_2 (p0 : ByteArray) (p1 : Int) (p2 : List TTk) (p3 : Int) (c2 : (Int) → Option R70n) (v1 : Int) : Option R70n :=
  cond (decide (v1 < (↑p0.size : Int)))
  (cond (decide (0 ≤ v1))
  (cond (decide (v1 < (↑p0.size : Int)))
  ((S71 (bt p0 v1)).bind fun r0 =>
  cond (r0)
  (c2 (IntKind.i64.wrap (v1 + 1)))
  (some ((IntKind.i64.wrap (v1 - p3), p0, p1, p2))))
  (none))
  (none))
  (some ((IntKind.i64.wrap (v1 - p3), p0, p1, p2)))
theorem hk70n : ∀ v h' r, k70n v h' = some r → v = out70n r ∧ h' = outh70n r := by
  intro v h' r h
  unfold k70n at h
  split at h
  · injection h with h; subst h; exact ⟨rfl, rfl⟩
  · cases h
abbrev q70n : Prim U R70n := prims X [⟨71, fun _ => true, [.lend], F71 S71⟩]
theorem s70n (c : Nat → S U → Option R70n) (p0 : ByteArray) (p1 : Int) (p2 : List TTk) (p3 : Int) : seg TP X q70n [2] (fun q st => c q (keepD D70n (h70n p0 p1 p2 p3).length q st)) body70n (finH TP Try.f70.results.toList (h70n p0 p1 p2 p3).length false k70n) (start [.ptr 0 0, .int .i64 p3, .fn 71 []] Try.f70.ntmps (h70n p0 p1 p2 p3)) = b70n p0 p1 p2 p3 (fun v1 => c 2 (m70n_2 p0 p1 p2 p3 v1)) := by kernel_rfl
theorem s70n_2 (c : Nat → S U → Option R70n) (p0 : ByteArray) (p1 : Int) (p2 : List TTk) (p3 v1 : Int) : res TP X q70n [2] (fun q st => c q (keepD D70n (h70n p0 p1 p2 p3).length q st)) 2 body70n (finH TP Try.f70.results.toList (h70n p0 p1 p2 p3).length false k70n) (m70n_2 p0 p1 p2 p3 v1) = b70n_2 p0 p1 p2 p3 (fun v1 => c 2 (m70n_2 p0 p1 p2 p3 v1)) v1 := by kernel_rfl
def f70n_2 (p0 : ByteArray) (p1 : Int) (p2 : List TTk) (p3 : Int) : Nat → Int → Option R70n
  | 0 => fun _ => none
  | k + 1 => b70n_2 p0 p1 p2 p3 (f70n_2 p0 p1 p2 p3 k)
def f70n (k : Nat) (p0 : ByteArray) (p1 : Int) (p2 : List TTk) (p3 : Int) : Option R70n := b70n p0 p1 p2 p3 (f70n_2 p0 p1 p2 p3 k)
theorem e70n (p0 : ByteArray) (p1 : Int) (p2 : List TTk) (p3 : Int) : ∀ k, ((fun v1 => cutG TP X q70n [2] D70n (h70n p0 p1 p2 p3).length body70n (finH TP Try.f70.results.toList (h70n p0 p1 p2 p3).length false k70n) k 2 (m70n_2 p0 p1 p2 p3 v1)) = f70n_2 p0 p1 p2 p3 k)
  | 0 => rfl
  | k + 1 => by
    have ih := e70n p0 p1 p2 p3 k
    · funext v1
      refine (if_pos (by kernel_rfl)).trans ?_
      rw [s70n_2]
      simp only [ih]
      rfl
theorem pure70n (p0 : ByteArray) (p1 : Int) (p2 : List TTk) (p3 : Int) (pok : PrmOK TP X q70n) (k : Nat) (r : R70n) (h : f70n k p0 p1 p2 p3 = some r) : PureH TP X 70 [.ptr 0 0, .int .i64 p3, .fn 71 []] (h70n p0 p1 p2 p3) (out70n r) (outh70n r) :=
  pure_gen good k (fn := Try.f70) (body := body70n) (prim := q70n) (D := D70n) (cuts := [2]) (h := h70n p0 p1 p2 p3) (own := false) (by kernel_rfl) (by kernel_rfl) (by decide +kernel) pok hk70n (by
    rw [s70n]
    have ih := e70n p0 p1 p2 p3 k
    simp only [ih]
    exact h)
def F70n {R : Type} (spec : (ByteArray) → Int → (List TTk) → Int → Option R70n) : Fn U R := fun args h k => match args, h with | [.ptr 0 0, .int .i64 p3, .fn 71 []], [.box [.str p0, .int .i64 p1, .row 1 90], .row 90 p2] => (spec p0 p1 p2 p3).bind fun r => k (out70n r) (outh70n r) | _, _ => none
theorem ok70n {R : Type} (spec : (ByteArray) → Int → (List TTk) → Int → Option R70n) (hp : ∀ (p0 : ByteArray) (p1 : Int) (p2 : List TTk) (p3 : Int) (r : R70n), spec p0 p1 p2 p3 = some r → PureH TP X 70 [.ptr 0 0, .int .i64 p3, .fn 71 []] (h70n p0 p1 p2 p3) (out70n r) (outh70n r)) : FnOK TP X 70 (F70n spec : Fn U R) := by
  intro args h k r hh
  unfold F70n at hh
  split at hh
  · obtain ⟨x, h1, h2⟩ := Option.bind_eq_some_iff.1 hh
    exact ⟨_, _, h2, hp _ _ _ _ _ h1⟩
  · cases hh
theorem pok70n : PrmOK TP X q70n := prims_cons good okS71 (prims_nil TP X mixed)
noncomputable def S70n (p0 : ByteArray) (p1 : Int) (p2 : List TTk) (p3 : Int) : Option R70n := evv fun k => f70n k p0 p1 p2 p3
theorem okS70n {R : Type} : FnOK TP X 70 (F70n S70n : Fn U R) := ok70n S70n fun p0 p1 p2 p3 r h => by
  obtain ⟨k, hk⟩ := evv_fuel h
  exact pure70n p0 p1 p2 p3 pok70n k r hk
end
end Go.Abs.Z
namespace Go.Abs.Z
open Go Go.Abs Go.Proofs
noncomputable section
abbrev R73 : Type := (Bool)
noncomputable def body73 : Go.Code := (Try.f73.body).getD Go.Code.skip
def h73 (p0 : ByteArray) : List (AO U) := []
def k73 : AV U → List (AO U) → Option R73 := fun v h => match v, h with | AV.bool x0, [] => some x0 | _, _ => none
def out73 : R73 → AV U := fun x0 => AV.bool x0
def outh73 : R73 → List (AO U) := fun x0 => []
def D73 : Nat → Dir := dirs []
def b73 (p0 : ByteArray)   : Option R73 :=
  cond (p0.toList == (ByteArray.mk #[105, 110]).toList)
  (cond (p0.toList == (ByteArray.mk #[105, 110]).toList)
  (some (true))
  (some (false)))
  (cond (p0.toList == (ByteArray.mk #[102, 110]).toList)
  (cond (p0.toList == (ByteArray.mk #[102, 110]).toList)
  (some (true))
  (some (false)))
  (cond (p0.toList == (ByteArray.mk #[108, 101, 116]).toList)
  (cond (p0.toList == (ByteArray.mk #[108, 101, 116]).toList)
  (some (true))
  (some (false)))
  (cond (p0.toList == (ByteArray.mk #[111, 117, 116]).toList)
  (cond (p0.toList == (ByteArray.mk #[111, 117, 116]).toList)
  (some (true))
  (some (false)))
  (cond (p0.toList == (ByteArray.mk #[115, 117, 109]).toList)
  (cond (p0.toList == (ByteArray.mk #[115, 117, 109]).toList)
  (some (true))
  (some (false)))
  (cond (p0.toList == (ByteArray.mk #[112, 114, 111, 100]).toList)
  (some (true))
  (some (false)))))))
theorem hk73 : ∀ v h' r, k73 v h' = some r → v = out73 r ∧ h' = outh73 r := by
  intro v h' r h
  unfold k73 at h
  split at h
  · injection h with h; subst h; exact ⟨rfl, rfl⟩
  · cases h
abbrev q73 : Prim U R73 := prims X []
theorem s73 (c : Nat → S U → Option R73) (p0 : ByteArray) : seg TP X q73 [] (fun q st => c q (keepD D73 (h73 p0).length q st)) body73 (finH TP Try.f73.results.toList (h73 p0).length false k73) (start [.str p0] Try.f73.ntmps (h73 p0)) = b73 p0  := by kernel_rfl
def f73 (_ : Nat) (p0 : ByteArray) : Option R73 := b73 p0
theorem pure73 (p0 : ByteArray) (pok : PrmOK TP X q73) (k : Nat) (r : R73) (h : f73 k p0 = some r) : PureH TP X 73 [.str p0] (h73 p0) (out73 r) (outh73 r) :=
  pure_gen good 0 (fn := Try.f73) (body := body73) (prim := q73) (D := D73) (cuts := []) (h := h73 p0) (own := false) (by kernel_rfl) (by kernel_rfl) (by decide +kernel) pok hk73 (by
    rw [s73]
    exact h)
def F73 {R : Type} (spec : (ByteArray) → Option R73) : Fn U R := fun args h k => match args, h with | [.str p0], [] => (spec p0).bind fun r => k (out73 r) (outh73 r) | _, _ => none
theorem ok73 {R : Type} (spec : (ByteArray) → Option R73) (hp : ∀ (p0 : ByteArray) (r : R73), spec p0 = some r → PureH TP X 73 [.str p0] (h73 p0) (out73 r) (outh73 r)) : FnOK TP X 73 (F73 spec : Fn U R) := by
  intro args h k r hh
  unfold F73 at hh
  split at hh
  · obtain ⟨x, h1, h2⟩ := Option.bind_eq_some_iff.1 hh
    exact ⟨_, _, h2, hp _ _ h1⟩
  · cases hh
theorem pok73 : PrmOK TP X q73 := prims_nil TP X mixed
noncomputable def S73 (p0 : ByteArray) : Option R73 := evv fun k => f73 k p0
theorem okS73 {R : Type} : FnOK TP X 73 (F73 S73 : Fn U R) := ok73 S73 fun p0 r h => by
  obtain ⟨k, hk⟩ := evv_fuel h
  exact pure73 p0 pok73 k r hk
end
end Go.Abs.Z
namespace Go.Abs.Z
open Go Go.Abs Go.Proofs
noncomputable section
abbrev R129 : Type := (Int)
noncomputable def body129 : Go.Code := (Try.f129.body).getD Go.Code.skip
def h129 (p0 : Int) : List (AO U) := []
def k129 : AV U → List (AO U) → Option R129 := fun v h => match v, h with | AV.int IntKind.i64 x0, [] => some x0 | _, _ => none
def out129 : R129 → AV U := fun x0 => AV.int IntKind.i64 x0
def outh129 : R129 → List (AO U) := fun x0 => []
def D129 : Nat → Dir := dirs []
def b129 (p0 : Int)   : Option R129 :=
  cond (decide (p0 ≥ 48))
  (cond (decide (p0 ≤ 57))
  (some (IntKind.i64.wrap (IntKind.u8.wrap (p0 - 48))))
  (cond (decide (p0 ≥ 97))
  (cond (decide (p0 ≤ 122))
  (some (IntKind.i64.wrap (IntKind.i64.wrap (IntKind.u8.wrap (p0 - 97)) + 10)))
  (cond (decide (p0 ≥ 65))
  (cond (decide (p0 ≤ 90))
  (some (IntKind.i64.wrap (IntKind.i64.wrap (IntKind.u8.wrap (p0 - 65)) + 10)))
  (some (36)))
  (some (36))))
  (cond (decide (p0 ≥ 65))
  (cond (decide (p0 ≤ 90))
  (some (IntKind.i64.wrap (IntKind.i64.wrap (IntKind.u8.wrap (p0 - 65)) + 10)))
  (some (36)))
  (some (36)))))
  (cond (decide (p0 ≥ 97))
  (cond (decide (p0 ≤ 122))
  (some (IntKind.i64.wrap (IntKind.i64.wrap (IntKind.u8.wrap (p0 - 97)) + 10)))
  (cond (decide (p0 ≥ 65))
  (cond (decide (p0 ≤ 90))
  (some (IntKind.i64.wrap (IntKind.i64.wrap (IntKind.u8.wrap (p0 - 65)) + 10)))
  (some (36)))
  (some (36))))
  (cond (decide (p0 ≥ 65))
  (cond (decide (p0 ≤ 90))
  (some (IntKind.i64.wrap (IntKind.i64.wrap (IntKind.u8.wrap (p0 - 65)) + 10)))
  (some (36)))
  (some (36))))
theorem hk129 : ∀ v h' r, k129 v h' = some r → v = out129 r ∧ h' = outh129 r := by
  intro v h' r h
  unfold k129 at h
  split at h
  · injection h with h; subst h; exact ⟨rfl, rfl⟩
  · cases h
abbrev q129 : Prim U R129 := prims X []
theorem s129 (c : Nat → S U → Option R129) (p0 : Int) : seg TP X q129 [] (fun q st => c q (keepD D129 (h129 p0).length q st)) body129 (finH TP Try.f129.results.toList (h129 p0).length false k129) (start [.int .u8 p0] Try.f129.ntmps (h129 p0)) = b129 p0  := by kernel_rfl
def f129 (_ : Nat) (p0 : Int) : Option R129 := b129 p0
theorem pure129 (p0 : Int) (pok : PrmOK TP X q129) (k : Nat) (r : R129) (h : f129 k p0 = some r) : PureH TP X 129 [.int .u8 p0] (h129 p0) (out129 r) (outh129 r) :=
  pure_gen good 0 (fn := Try.f129) (body := body129) (prim := q129) (D := D129) (cuts := []) (h := h129 p0) (own := false) (by kernel_rfl) (by kernel_rfl) (by decide +kernel) pok hk129 (by
    rw [s129]
    exact h)
def F129 {R : Type} (spec : (Int) → Option R129) : Fn U R := fun args h k => match args, h with | [.int .u8 p0], [] => (spec p0).bind fun r => k (out129 r) (outh129 r) | _, _ => none
theorem ok129 {R : Type} (spec : (Int) → Option R129) (hp : ∀ (p0 : Int) (r : R129), spec p0 = some r → PureH TP X 129 [.int .u8 p0] (h129 p0) (out129 r) (outh129 r)) : FnOK TP X 129 (F129 spec : Fn U R) := by
  intro args h k r hh
  unfold F129 at hh
  split at hh
  · obtain ⟨x, h1, h2⟩ := Option.bind_eq_some_iff.1 hh
    exact ⟨_, _, h2, hp _ _ h1⟩
  · cases hh
theorem pok129 : PrmOK TP X q129 := prims_nil TP X mixed
noncomputable def S129 (p0 : Int) : Option R129 := evv fun k => f129 k p0
theorem okS129 {R : Type} : FnOK TP X 129 (F129 S129 : Fn U R) := ok129 S129 fun p0 r h => by
  obtain ⟨k, hk⟩ := evv_fuel h
  exact pure129 p0 pok129 k r hk
end
end Go.Abs.Z
namespace Go.Abs.Z
open Go Go.Abs Go.Proofs
noncomputable section
abbrev R130 : Type := Int × (Int)
noncomputable def body130 : Go.Code := (Try.f130.body).getD Go.Code.skip
def h130 (p0 : Int) : List (AO U) := []
def k130 : AV U → List (AO U) → Option R130 := fun v h => match v, h with | AV.tup [AV.int IntKind.u32 x0, AV.int IntKind.i64 x1], [] => some (x0, x1) | _, _ => none
def out130 : R130 → AV U := fun (x0, x1) => AV.tup [AV.int IntKind.u32 x0, AV.int IntKind.i64 x1]
def outh130 : R130 → List (AO U) := fun (x0, x1) => []
def D130 : Nat → Dir := dirs [(2, ⟨[0, 4, 5], [], [], []⟩)]
def b130 (p0 : Int) (c2 : (Int) → Int → Option R130)  : Option R130 :=
  c2 (IntKind.u64.wrap p0) (1)
def m130_2 (p0 v1 v2 : Int) : S U := S.mk [AV.int IntKind.i64 p0, AV.undef, AV.undef, AV.undef, AV.int IntKind.u64 v1, AV.int IntKind.i64 v2, AV.undef, AV.undef, AV.undef, AV.undef, AV.undef, AV.undef, AV.undef, AV.undef, AV.undef, AV.undef, AV.undef, AV.undef, AV.undef, AV.undef, AV.undef, AV.undef] []
def b130_2 (p0 : Int) (c2 : (Int) → Int → Option R130) (v1 v2 : Int) : Option R130 :=
  cond (decide (IntKind.u64.wrap (v1 * IntKind.u64.wrap p0) < 4294967296))
  (c2 (IntKind.u64.wrap (v1 * IntKind.u64.wrap p0)) (IntKind.i64.wrap (v2 + 1)))
  (some ((IntKind.u32.wrap v1, v2)))
theorem hk130 : ∀ v h' r, k130 v h' = some r → v = out130 r ∧ h' = outh130 r := by
  intro v h' r h
  unfold k130 at h
  split at h
  · injection h with h; subst h; exact ⟨rfl, rfl⟩
  · cases h
abbrev q130 : Prim U R130 := prims X []
theorem s130 (c : Nat → S U → Option R130) (p0 : Int) : seg TP X q130 [2] (fun q st => c q (keepD D130 (h130 p0).length q st)) body130 (finH TP Try.f130.results.toList (h130 p0).length false k130) (start [.int .i64 p0] Try.f130.ntmps (h130 p0)) = b130 p0 (fun v1 v2 => c 2 (m130_2 p0 v1 v2)) := by kernel_rfl
theorem s130_2 (c : Nat → S U → Option R130) (p0 v1 v2 : Int) : res TP X q130 [2] (fun q st => c q (keepD D130 (h130 p0).length q st)) 2 body130 (finH TP Try.f130.results.toList (h130 p0).length false k130) (m130_2 p0 v1 v2) = b130_2 p0 (fun v1 v2 => c 2 (m130_2 p0 v1 v2)) v1 v2 := by kernel_rfl
def f130_2 (p0 : Int) : Nat → Int → (Int) → Option R130
  | 0 => fun _ _ => none
  | k + 1 => b130_2 p0 (f130_2 p0 k)
def f130 (k : Nat) (p0 : Int) : Option R130 := b130 p0 (f130_2 p0 k)
theorem e130 (p0 : Int) : ∀ k, ((fun v1 v2 => cutG TP X q130 [2] D130 (h130 p0).length body130 (finH TP Try.f130.results.toList (h130 p0).length false k130) k 2 (m130_2 p0 v1 v2)) = f130_2 p0 k)
  | 0 => rfl
  | k + 1 => by
    have ih := e130 p0 k
    · funext v1 v2
      refine (if_pos (by kernel_rfl)).trans ?_
      rw [s130_2]
      simp only [ih]
      rfl
theorem pure130 (p0 : Int) (pok : PrmOK TP X q130) (k : Nat) (r : R130) (h : f130 k p0 = some r) : PureH TP X 130 [.int .i64 p0] (h130 p0) (out130 r) (outh130 r) :=
  pure_gen good k (fn := Try.f130) (body := body130) (prim := q130) (D := D130) (cuts := [2]) (h := h130 p0) (own := false) (by kernel_rfl) (by kernel_rfl) (by decide +kernel) pok hk130 (by
    rw [s130]
    have ih := e130 p0 k
    simp only [ih]
    exact h)
def F130 {R : Type} (spec : (Int) → Option R130) : Fn U R := fun args h k => match args, h with | [.int .i64 p0], [] => (spec p0).bind fun r => k (out130 r) (outh130 r) | _, _ => none
theorem ok130 {R : Type} (spec : (Int) → Option R130) (hp : ∀ (p0 : Int) (r : R130), spec p0 = some r → PureH TP X 130 [.int .i64 p0] (h130 p0) (out130 r) (outh130 r)) : FnOK TP X 130 (F130 spec : Fn U R) := by
  intro args h k r hh
  unfold F130 at hh
  split at hh
  · obtain ⟨x, h1, h2⟩ := Option.bind_eq_some_iff.1 hh
    exact ⟨_, _, h2, hp _ _ h1⟩
  · cases hh
theorem pok130 : PrmOK TP X q130 := prims_nil TP X mixed
noncomputable def S130 (p0 : Int) : Option R130 := evv fun k => f130 k p0
theorem okS130 {R : Type} : FnOK TP X 130 (F130 S130 : Fn U R) := ok130 S130 fun p0 r h => by
  obtain ⟨k, hk⟩ := evv_fuel h
  exact pure130 p0 pok130 k r hk
end
end Go.Abs.Z
namespace Go.Abs.Z
open Go Go.Abs Go.Proofs
noncomputable section
abbrev R131 : Type := TI
noncomputable def body131 : Go.Code := (Try.f131.body).getD Go.Code.skip
def h131 (p0 : TI) : List (AO U) := []
def k131 : AV U → List (AO U) → Option R131 := fun v h => match v, h with | AV.imm 105 x0, [] => some x0 | _, _ => none
def out131 : R131 → AV U := fun x0 => AV.imm 105 x0
def outh131 : R131 → List (AO U) := fun x0 => []
def D131 : Nat → Dir := dirs [(2, ⟨[0, 3], [], [], []⟩)]
def b131 (p0 : TI) (c2 : (Int) → Option R131)  : Option R131 :=
  c2 ((↑p0.length : Int))
def m131_2 (p0 : TI) (v1 : Int) : S U := S.mk [AV.imm 105 p0, AV.undef, AV.undef, AV.int IntKind.i64 v1, AV.undef, AV.undef, AV.undef, AV.undef, AV.undef, AV.undef, AV.undef, AV.undef, AV.undef, AV.undef, AV.undef, AV.undef, AV.undef, AV.undef, AV.undef, AV.undef, AV.undef, AV.undef, AV.undef, AV.undef, AV.undef, AV.undef] []
def b131_2 (p0 : TI) (c2 : (Int) → Option R131) (v1 : Int) : Option R131 :=
  cond (decide (v1 > 0))
  (cond (decide (0 ≤ IntKind.i64.wrap (v1 - 1)))
  (cond (decide (IntKind.i64.wrap (v1 - 1) < (↑p0.length : Int)))
  (cond (decide ((IntKind.i64.wrap (v1 - 1)).toNat < p0.length))
  (cond (p0.getD (IntKind.i64.wrap (v1 - 1)).toNat (X.dflt 105) == 0)
  (c2 (IntKind.i64.wrap (v1 - 1)))
  (cond (v1 == 0)
  (some ([]))
  (cond (decide (0 ≤ v1))
  (cond (decide (v1 * (↑4 : Int) ≤ 140737488355328))
  (cond (decide (0 ≤ v1))
  (cond (decide (v1 ≤ (↑p0.length : Int)))
  (cond (decide (((repI (Int.toNat 0) 0).length + (List.take v1.toNat p0).length) * 4 ≤ 140737488355328))
  (some (repI (Int.toNat 0) 0 ++ List.take v1.toNat p0))
  (none))
  (none))
  (none))
  (none))
  (none))))
  (none))
  (none))
  (none))
  (cond (v1 == 0)
  (some ([]))
  (cond (decide (0 ≤ v1))
  (cond (decide (v1 * (↑4 : Int) ≤ 140737488355328))
  (cond (decide (0 ≤ v1))
  (cond (decide (v1 ≤ (↑p0.length : Int)))
  (cond (decide (((repI (Int.toNat 0) 0).length + (List.take v1.toNat p0).length) * 4 ≤ 140737488355328))
  (some (repI (Int.toNat 0) 0 ++ List.take v1.toNat p0))
  (none))
  (none))
  (none))
  (none))
  (none)))
theorem hk131 : ∀ v h' r, k131 v h' = some r → v = out131 r ∧ h' = outh131 r := by
  intro v h' r h
  unfold k131 at h
  split at h
  · injection h with h; subst h; exact ⟨rfl, rfl⟩
  · cases h
abbrev q131 : Prim U R131 := prims X []
theorem s131 (c : Nat → S U → Option R131) (p0 : TI) : seg TP X q131 [2] (fun q st => c q (keepD D131 (h131 p0).length q st)) body131 (finH TP Try.f131.results.toList (h131 p0).length false k131) (start [.imm 105 p0] Try.f131.ntmps (h131 p0)) = b131 p0 (fun v1 => c 2 (m131_2 p0 v1)) := by kernel_rfl
theorem s131_2 (c : Nat → S U → Option R131) (p0 : TI) (v1 : Int) : res TP X q131 [2] (fun q st => c q (keepD D131 (h131 p0).length q st)) 2 body131 (finH TP Try.f131.results.toList (h131 p0).length false k131) (m131_2 p0 v1) = b131_2 p0 (fun v1 => c 2 (m131_2 p0 v1)) v1 := by kernel_rfl
def f131_2 (p0 : TI) : Nat → Int → Option R131
  | 0 => fun _ => none
  | k + 1 => b131_2 p0 (f131_2 p0 k)
def f131 (k : Nat) (p0 : TI) : Option R131 := b131 p0 (f131_2 p0 k)
theorem e131 (p0 : TI) : ∀ k, ((fun v1 => cutG TP X q131 [2] D131 (h131 p0).length body131 (finH TP Try.f131.results.toList (h131 p0).length false k131) k 2 (m131_2 p0 v1)) = f131_2 p0 k)
  | 0 => rfl
  | k + 1 => by
    have ih := e131 p0 k
    · funext v1
      refine (if_pos (by kernel_rfl)).trans ?_
      rw [s131_2]
      simp only [ih]
      rfl
theorem pure131 (p0 : TI) (pok : PrmOK TP X q131) (k : Nat) (r : R131) (h : f131 k p0 = some r) : PureH TP X 131 [.imm 105 p0] (h131 p0) (out131 r) (outh131 r) :=
  pure_gen good k (fn := Try.f131) (body := body131) (prim := q131) (D := D131) (cuts := [2]) (h := h131 p0) (own := false) (by kernel_rfl) (by kernel_rfl) (by decide +kernel) pok hk131 (by
    rw [s131]
    have ih := e131 p0 k
    simp only [ih]
    exact h)
def F131 {R : Type} (spec : TI → Option R131) : Fn U R := fun args h k => match args, h with | [.imm 105 p0], [] => (spec p0).bind fun r => k (out131 r) (outh131 r) | _, _ => none
theorem ok131 {R : Type} (spec : TI → Option R131) (hp : ∀ (p0 : TI) (r : R131), spec p0 = some r → PureH TP X 131 [.imm 105 p0] (h131 p0) (out131 r) (outh131 r)) : FnOK TP X 131 (F131 spec : Fn U R) := by
  intro args h k r hh
  unfold F131 at hh
  split at hh
  · obtain ⟨x, h1, h2⟩ := Option.bind_eq_some_iff.1 hh
    exact ⟨_, _, h2, hp _ _ h1⟩
  · cases hh
theorem pok131 : PrmOK TP X q131 := prims_nil TP X mixed
noncomputable def S131 (p0 : TI) : Option R131 := evv fun k => f131 k p0
theorem okS131 {R : Type} : FnOK TP X 131 (F131 S131 : Fn U R) := ok131 S131 fun p0 r h => by
  obtain ⟨k, hk⟩ := evv_fuel h
  exact pure131 p0 pok131 k r hk
end
end Go.Abs.Z
namespace Go.Abs.Z
open Go Go.Abs Go.Proofs
noncomputable section
abbrev R132 : Type := TI
noncomputable def body132 : Go.Code := (Try.f132.body).getD Go.Code.skip
def h132 (p0 p1 : TI) : List (AO U) := []
def k132 : AV U → List (AO U) → Option R132 := fun v h => match v, h with | AV.imm 105 x0, [] => some x0 | _, _ => none
def out132 : R132 → AV U := fun x0 => AV.imm 105 x0
def outh132 : R132 → List (AO U) := fun x0 => []
def D132 : Nat → Dir := dirs [(6, ⟨[0, 1, 5, 6, 21, 22], [], [], []⟩)]
def b132 (p0 p1 : TI) (c6 : TI → TI → Int → (Int) → Int → TI → Option R132)  : Option R132 :=
  cond (decide ((↑p0.length : Int) < (↑p1.length : Int)))
  (cond (decide (0 ≤ IntKind.i64.wrap ((↑p1.length : Int) + 1)))
  (cond (decide (IntKind.i64.wrap ((↑p1.length : Int) + 1) ≤ IntKind.i64.wrap ((↑p1.length : Int) + 1)))
  (cond (decide (IntKind.i64.wrap ((↑p1.length : Int) + 1) * (↑4 : Int) ≤ 140737488355328))
  (c6 (p1) (p0) (0) ((↑p1.length : Int)) (0) (repI (IntKind.i64.wrap ((↑p1.length : Int) + 1)).toNat 0))
  (none))
  (none))
  (none))
  (cond (decide (0 ≤ IntKind.i64.wrap ((↑p0.length : Int) + 1)))
  (cond (decide (IntKind.i64.wrap ((↑p0.length : Int) + 1) ≤ IntKind.i64.wrap ((↑p0.length : Int) + 1)))
  (cond (decide (IntKind.i64.wrap ((↑p0.length : Int) + 1) * (↑4 : Int) ≤ 140737488355328))
  (c6 (p0) (p1) (0) ((↑p0.length : Int)) (0) (repI (IntKind.i64.wrap ((↑p0.length : Int) + 1)).toNat 0))
  (none))
  (none))
  (none))
def m132_6 (p0 p1 v0 v1 : TI) (v2 v3 v4 : Int) (v5 : TI) : S U := S.mk [AV.imm 105 v0, AV.imm 105 v1, AV.undef, AV.undef, AV.undef, AV.row 0 105, AV.int IntKind.u32 v2, AV.undef, AV.undef, AV.undef, AV.undef, AV.undef, AV.undef, AV.undef, AV.undef, AV.undef, AV.undef, AV.undef, AV.undef, AV.undef, AV.undef, AV.int IntKind.i64 v3, AV.int IntKind.i64 v4, AV.undef, AV.undef, AV.undef, AV.undef, AV.undef, AV.undef, AV.undef, AV.undef, AV.undef, AV.undef, AV.undef, AV.undef, AV.undef, AV.undef, AV.undef, AV.undef, AV.undef, AV.undef, AV.undef, AV.undef, AV.undef, AV.undef, AV.undef, AV.undef, AV.undef, AV.undef, AV.undef, AV.undef, AV.undef, AV.undef] [AO.row 105 v5]
def b132_6 (p0 p1 : TI) (c6 : TI → TI → Int → (Int) → Int → TI → Option R132) (v0 v1 : TI) (v2 v3 v4 : Int) (v5 : TI) : Option R132 :=
  cond (decide (v4 < v3))
  (cond (decide (v4 < (↑v1.length : Int)))
  (cond (decide (0 ≤ v4))
  (cond (decide (v4 < (↑v1.length : Int)))
  (cond (decide (v4.toNat < v1.length))
  (cond (decide (0 ≤ v4))
  (cond (decide (v4 < (↑v0.length : Int)))
  (cond (decide (v4.toNat < v0.length))
  ((S128 (v0.getD v4.toNat (X.dflt 105)) (v1.getD v4.toNat (X.dflt 105)) v2).bind fun r0 =>
  cond (decide (0 ≤ v4))
  (cond (decide (v4 < (↑v5.length : Int)))
  (cond (decide (v4.toNat < v5.length))
  (c6 (v0) (v1) (r0.snd) (v3) (IntKind.i64.wrap (v4 + 1)) (v5.set v4.toNat r0.fst))
  (none))
  (none))
  (none))
  (none))
  (none))
  (none))
  (none))
  (none))
  (none))
  (cond (decide (0 ≤ v4))
  (cond (decide (v4 < (↑v0.length : Int)))
  (cond (decide (v4.toNat < v0.length))
  ((S128 (v0.getD v4.toNat (X.dflt 105)) 0 v2).bind fun r1 =>
  cond (decide (0 ≤ v4))
  (cond (decide (v4 < (↑v5.length : Int)))
  (cond (decide (v4.toNat < v5.length))
  (c6 (v0) (v1) (r1.snd) (v3) (IntKind.i64.wrap (v4 + 1)) (v5.set v4.toNat r1.fst))
  (none))
  (none))
  (none))
  (none))
  (none))
  (none)))
  (cond (decide ((↑v0.length : Int) < (↑v5.length : Int)))
  (cond (decide ((↑v0.length : Int).toNat < v5.length))
  (some (v5.set (↑v0.length : Int).toNat v2))
  (none))
  (none))
theorem hk132 : ∀ v h' r, k132 v h' = some r → v = out132 r ∧ h' = outh132 r := by
  intro v h' r h
  unfold k132 at h
  split at h
  · injection h with h; subst h; exact ⟨rfl, rfl⟩
  · cases h
abbrev q132 : Prim U R132 := prims X [⟨128, fun _ => true, [.lend, .lend, .lend], F128 S128⟩]
theorem s132 (c : Nat → S U → Option R132) (p0 p1 : TI) : seg TP X q132 [6] (fun q st => c q (keepD D132 (h132 p0 p1).length q st)) body132 (finH TP Try.f132.results.toList (h132 p0 p1).length false k132) (start [.imm 105 p0, .imm 105 p1] Try.f132.ntmps (h132 p0 p1)) = b132 p0 p1 (fun v0 v1 v2 v3 v4 v5 => c 6 (m132_6 p0 p1 v0 v1 v2 v3 v4 v5)) := by kernel_rfl
theorem s132_6 (c : Nat → S U → Option R132) (p0 p1 v0 v1 : TI) (v2 v3 v4 : Int) (v5 : TI) : res TP X q132 [6] (fun q st => c q (keepD D132 (h132 p0 p1).length q st)) 6 body132 (finH TP Try.f132.results.toList (h132 p0 p1).length false k132) (m132_6 p0 p1 v0 v1 v2 v3 v4 v5) = b132_6 p0 p1 (fun v0 v1 v2 v3 v4 v5 => c 6 (m132_6 p0 p1 v0 v1 v2 v3 v4 v5)) v0 v1 v2 v3 v4 v5 := by kernel_rfl
def f132_6 (p0 p1 : TI) : Nat → TI → TI → Int → (Int) → Int → TI → Option R132
  | 0 => fun _ _ _ _ _ _ => none
  | k + 1 => b132_6 p0 p1 (f132_6 p0 p1 k)
def f132 (k : Nat) (p0 p1 : TI) : Option R132 := b132 p0 p1 (f132_6 p0 p1 k)
theorem e132 (p0 p1 : TI) : ∀ k, ((fun v0 v1 v2 v3 v4 v5 => cutG TP X q132 [6] D132 (h132 p0 p1).length body132 (finH TP Try.f132.results.toList (h132 p0 p1).length false k132) k 6 (m132_6 p0 p1 v0 v1 v2 v3 v4 v5)) = f132_6 p0 p1 k)
  | 0 => rfl
  | k + 1 => by
    have ih := e132 p0 p1 k
    · funext v0 v1 v2 v3 v4 v5
      refine (if_pos (by kernel_rfl)).trans ?_
      rw [s132_6]
      simp only [ih]
      rfl
theorem pure132 (p0 p1 : TI) (pok : PrmOK TP X q132) (k : Nat) (r : R132) (h : f132 k p0 p1 = some r) : PureH TP X 132 [.imm 105 p0, .imm 105 p1] (h132 p0 p1) (out132 r) (outh132 r) :=
  pure_gen good k (fn := Try.f132) (body := body132) (prim := q132) (D := D132) (cuts := [6]) (h := h132 p0 p1) (own := false) (by kernel_rfl) (by kernel_rfl) (by decide +kernel) pok hk132 (by
    rw [s132]
    have ih := e132 p0 p1 k
    simp only [ih]
    exact h)
def F132 {R : Type} (spec : TI → TI → Option R132) : Fn U R := fun args h k => match args, h with | [.imm 105 p0, .imm 105 p1], [] => (spec p0 p1).bind fun r => k (out132 r) (outh132 r) | _, _ => none
theorem ok132 {R : Type} (spec : TI → TI → Option R132) (hp : ∀ (p0 : TI) (p1 : TI) (r : R132), spec p0 p1 = some r → PureH TP X 132 [.imm 105 p0, .imm 105 p1] (h132 p0 p1) (out132 r) (outh132 r)) : FnOK TP X 132 (F132 spec : Fn U R) := by
  intro args h k r hh
  unfold F132 at hh
  split at hh
  · obtain ⟨x, h1, h2⟩ := Option.bind_eq_some_iff.1 hh
    exact ⟨_, _, h2, hp _ _ _ h1⟩
  · cases hh
theorem pok132 : PrmOK TP X q132 := prims_cons good okS128 (prims_nil TP X mixed)
noncomputable def S132 (p0 p1 : TI) : Option R132 := evv fun k => f132 k p0 p1
theorem okS132 {R : Type} : FnOK TP X 132 (F132 S132 : Fn U R) := ok132 S132 fun p0 p1 r h => by
  obtain ⟨k, hk⟩ := evv_fuel h
  exact pure132 p0 p1 pok132 k r hk
end
end Go.Abs.Z
namespace Go.Abs.Z
open Go Go.Abs Go.Proofs
noncomputable section
abbrev R133 : Type := TI
noncomputable def body133 : Go.Code := (Try.f133.body).getD Go.Code.skip
def h133 (p0 p1 : TI) : List (AO U) := []
def k133 : AV U → List (AO U) → Option R133 := fun v h => match v, h with | AV.imm 105 x0, [] => some x0 | _, _ => none
def out133 : R133 → AV U := fun x0 => AV.imm 105 x0
def outh133 : R133 → List (AO U) := fun x0 => []
def D133 : Nat → Dir := dirs [(3, ⟨[1, 5, 18, 19, 20], [], [], []⟩), (7, ⟨[1, 5, 6, 7, 8, 18, 19, 20, 25, 26, 27], [], [], []⟩)]
def b133 (p0 p1 : TI) (c3 : (Int) → TI → Option R133) (c7 : (Int) → Int → (Int) → Int → (Int) → TI → Option R133)  : Option R133 :=
  cond (decide (0 ≤ IntKind.i64.wrap ((↑p0.length : Int) + (↑p1.length : Int))))
  (cond (decide (IntKind.i64.wrap ((↑p0.length : Int) + (↑p1.length : Int)) ≤ IntKind.i64.wrap ((↑p0.length : Int) + (↑p1.length : Int))))
  (cond (decide (IntKind.i64.wrap ((↑p0.length : Int) + (↑p1.length : Int)) * (↑4 : Int) ≤ 140737488355328))
  (c3 (0) (repI (IntKind.i64.wrap ((↑p0.length : Int) + (↑p1.length : Int))).toNat 0))
  (none))
  (none))
  (none)
def m133_3 (p0 p1 : TI) (v3 : Int) (v4 : TI) : S U := S.mk [AV.undef, AV.imm 105 p1, AV.undef, AV.undef, AV.undef, AV.row 0 105, AV.undef, AV.undef, AV.undef, AV.undef, AV.undef, AV.undef, AV.undef, AV.undef, AV.undef, AV.undef, AV.undef, AV.undef, AV.imm 105 p0, AV.int IntKind.i64 (↑p0.length : Int), AV.int IntKind.i64 v3, AV.undef, AV.undef, AV.undef, AV.undef, AV.undef, AV.undef, AV.undef, AV.undef, AV.undef, AV.undef, AV.undef, AV.undef, AV.undef, AV.undef, AV.undef, AV.undef, AV.undef, AV.undef, AV.undef, AV.undef, AV.undef, AV.undef, AV.undef, AV.undef, AV.undef, AV.undef, AV.undef, AV.undef, AV.undef, AV.undef, AV.undef, AV.undef, AV.undef, AV.undef, AV.undef, AV.undef, AV.undef, AV.undef, AV.undef, AV.undef, AV.undef, AV.undef, AV.undef, AV.undef, AV.undef, AV.undef] [AO.row 105 v4]
def b133_3 (p0 p1 : TI) (c3 : (Int) → TI → Option R133) (c7 : (Int) → Int → (Int) → Int → (Int) → TI → Option R133) (v3 : Int) (v4 : TI) : Option R133 :=
  cond (decide (v3 < (↑p0.length : Int)))
  (cond (decide (0 ≤ v3))
  (cond (decide (v3 < (↑p0.length : Int)))
  (cond (decide (v3.toNat < p0.length))
  (c7 (v3) (p0.getD v3.toNat (X.dflt 105)) (0) (v3) (0) (v4))
  (none))
  (none))
  (none))
  (some (v4))
def m133_7 (p0 p1 : TI) (v1 v2 v3 v6 v9 : Int) (v10 : TI) : S U := S.mk [AV.undef, AV.imm 105 p1, AV.undef, AV.undef, AV.undef, AV.row 0 105, AV.int IntKind.i64 v1, AV.int IntKind.u32 v2, AV.int IntKind.u64 v3, AV.undef, AV.undef, AV.undef, AV.undef, AV.undef, AV.undef, AV.undef, AV.undef, AV.undef, AV.imm 105 p0, AV.int IntKind.i64 (↑p0.length : Int), AV.int IntKind.i64 v6, AV.undef, AV.undef, AV.undef, AV.undef, AV.imm 105 p1, AV.int IntKind.i64 (↑p1.length : Int), AV.int IntKind.i64 v9, AV.undef, AV.undef, AV.undef, AV.undef, AV.undef, AV.undef, AV.undef, AV.undef, AV.undef, AV.undef, AV.undef, AV.undef, AV.undef, AV.undef, AV.undef, AV.undef, AV.undef, AV.undef, AV.undef, AV.undef, AV.undef, AV.undef, AV.undef, AV.undef, AV.undef, AV.undef, AV.undef, AV.undef, AV.undef, AV.undef, AV.undef, AV.undef, AV.undef, AV.undef, AV.undef, AV.undef, AV.undef, AV.undef, AV.undef] [AO.row 105 v10]
def b133_7 (p0 p1 : TI) (c3 : (Int) → TI → Option R133) (c7 : (Int) → Int → (Int) → Int → (Int) → TI → Option R133) (v1 v2 v3 v6 v9 : Int) (v10 : TI) : Option R133 :=
  cond (decide (v9 < (↑p1.length : Int)))
  (cond (decide (0 ≤ v9))
  (cond (decide (v9 < (↑p1.length : Int)))
  (cond (decide (v9.toNat < p1.length))
  (cond (decide (0 ≤ IntKind.i64.wrap (v1 + v9)))
  (cond (decide (IntKind.i64.wrap (v1 + v9) < (↑v10.length : Int)))
  (cond (decide ((IntKind.i64.wrap (v1 + v9)).toNat < v10.length))
  (cond (decide (0 ≤ IntKind.i64.wrap (v1 + v9)))
  (cond (decide (IntKind.i64.wrap (v1 + v9) < (↑v10.length : Int)))
  (cond (decide ((IntKind.i64.wrap (v1 + v9)).toNat < v10.length))
  (c7 (v1) (v2) (shr IntKind.u64 (IntKind.u64.wrap (IntKind.u64.wrap (IntKind.u64.wrap (IntKind.u64.wrap v2 * IntKind.u64.wrap (p1.getD v9.toNat (X.dflt 105))) + IntKind.u64.wrap (v10.getD (IntKind.i64.wrap (v1 + v9)).toNat (X.dflt 105))) + v3)) 32) (v6) (IntKind.i64.wrap (v9 + 1)) (v10.set (IntKind.i64.wrap (v1 + v9)).toNat (IntKind.u32.wrap (IntKind.u64.wrap (IntKind.u64.wrap (IntKind.u64.wrap (IntKind.u64.wrap v2 * IntKind.u64.wrap (p1.getD v9.toNat (X.dflt 105))) + IntKind.u64.wrap (v10.getD (IntKind.i64.wrap (v1 + v9)).toNat (X.dflt 105))) + v3)))))
  (none))
  (none))
  (none))
  (none))
  (none))
  (none))
  (none))
  (none))
  (none))
  (cond (decide (0 ≤ IntKind.i64.wrap (v1 + (↑p1.length : Int))))
  (cond (decide (IntKind.i64.wrap (v1 + (↑p1.length : Int)) < (↑v10.length : Int)))
  (cond (decide ((IntKind.i64.wrap (v1 + (↑p1.length : Int))).toNat < v10.length))
  (c3 (IntKind.i64.wrap (v6 + 1)) (v10.set (IntKind.i64.wrap (v1 + (↑p1.length : Int))).toNat (IntKind.u32.wrap v3)))
  (none))
  (none))
  (none))
theorem hk133 : ∀ v h' r, k133 v h' = some r → v = out133 r ∧ h' = outh133 r := by
  intro v h' r h
  unfold k133 at h
  split at h
  · injection h with h; subst h; exact ⟨rfl, rfl⟩
  · cases h
abbrev q133 : Prim U R133 := prims X []
theorem s133 (c : Nat → S U → Option R133) (p0 p1 : TI) : seg TP X q133 [3, 7] (fun q st => c q (keepD D133 (h133 p0 p1).length q st)) body133 (finH TP Try.f133.results.toList (h133 p0 p1).length false k133) (start [.imm 105 p0, .imm 105 p1] Try.f133.ntmps (h133 p0 p1)) = b133 p0 p1 (fun v3 v4 => c 3 (m133_3 p0 p1 v3 v4)) (fun v1 v2 v3 v6 v9 v10 => c 7 (m133_7 p0 p1 v1 v2 v3 v6 v9 v10)) := by kernel_rfl
theorem s133_3 (c : Nat → S U → Option R133) (p0 p1 : TI) (v3 : Int) (v4 : TI) : res TP X q133 [3, 7] (fun q st => c q (keepD D133 (h133 p0 p1).length q st)) 3 body133 (finH TP Try.f133.results.toList (h133 p0 p1).length false k133) (m133_3 p0 p1 v3 v4) = b133_3 p0 p1 (fun v3 v4 => c 3 (m133_3 p0 p1 v3 v4)) (fun v1 v2 v3 v6 v9 v10 => c 7 (m133_7 p0 p1 v1 v2 v3 v6 v9 v10)) v3 v4 := by kernel_rfl
theorem s133_7 (c : Nat → S U → Option R133) (p0 p1 : TI) (v1 v2 v3 v6 v9 : Int) (v10 : TI) : res TP X q133 [3, 7] (fun q st => c q (keepD D133 (h133 p0 p1).length q st)) 7 body133 (finH TP Try.f133.results.toList (h133 p0 p1).length false k133) (m133_7 p0 p1 v1 v2 v3 v6 v9 v10) = b133_7 p0 p1 (fun v3 v4 => c 3 (m133_3 p0 p1 v3 v4)) (fun v1 v2 v3 v6 v9 v10 => c 7 (m133_7 p0 p1 v1 v2 v3 v6 v9 v10)) v1 v2 v3 v6 v9 v10 := by kernel_rfl
mutual
def f133_3 (p0 p1 : TI) : Nat → Int → TI → Option R133
  | 0 => fun _ _ => none
  | k + 1 => b133_3 p0 p1 (f133_3 p0 p1 k) (f133_7 p0 p1 k)
def f133_7 (p0 p1 : TI) : Nat → Int → (Int) → Int → (Int) → Int → TI → Option R133
  | 0 => fun _ _ _ _ _ _ => none
  | k + 1 => b133_7 p0 p1 (f133_3 p0 p1 k) (f133_7 p0 p1 k)
end
def f133 (k : Nat) (p0 p1 : TI) : Option R133 := b133 p0 p1 (f133_3 p0 p1 k) (f133_7 p0 p1 k)
theorem e133 (p0 p1 : TI) : ∀ k, ((fun v3 v4 => cutG TP X q133 [3, 7] D133 (h133 p0 p1).length body133 (finH TP Try.f133.results.toList (h133 p0 p1).length false k133) k 3 (m133_3 p0 p1 v3 v4)) = f133_3 p0 p1 k) ∧ ((fun v1 v2 v3 v6 v9 v10 => cutG TP X q133 [3, 7] D133 (h133 p0 p1).length body133 (finH TP Try.f133.results.toList (h133 p0 p1).length false k133) k 7 (m133_7 p0 p1 v1 v2 v3 v6 v9 v10)) = f133_7 p0 p1 k)
  | 0 => ⟨rfl, rfl⟩
  | k + 1 => by
    have ih := e133 p0 p1 k
    refine ⟨?_, ?_⟩
    · funext v3 v4
      refine (if_pos (by kernel_rfl)).trans ?_
      rw [s133_3]
      simp only [ih]
      rfl
    · funext v1 v2 v3 v6 v9 v10
      refine (if_pos (by kernel_rfl)).trans ?_
      rw [s133_7]
      simp only [ih]
      rfl
theorem pure133 (p0 p1 : TI) (pok : PrmOK TP X q133) (k : Nat) (r : R133) (h : f133 k p0 p1 = some r) : PureH TP X 133 [.imm 105 p0, .imm 105 p1] (h133 p0 p1) (out133 r) (outh133 r) :=
  pure_gen good k (fn := Try.f133) (body := body133) (prim := q133) (D := D133) (cuts := [3, 7]) (h := h133 p0 p1) (own := false) (by kernel_rfl) (by kernel_rfl) (by decide +kernel) pok hk133 (by
    rw [s133]
    have ih := e133 p0 p1 k
    simp only [ih]
    exact h)
def F133 {R : Type} (spec : TI → TI → Option R133) : Fn U R := fun args h k => match args, h with | [.imm 105 p0, .imm 105 p1], [] => (spec p0 p1).bind fun r => k (out133 r) (outh133 r) | _, _ => none
theorem ok133 {R : Type} (spec : TI → TI → Option R133) (hp : ∀ (p0 : TI) (p1 : TI) (r : R133), spec p0 p1 = some r → PureH TP X 133 [.imm 105 p0, .imm 105 p1] (h133 p0 p1) (out133 r) (outh133 r)) : FnOK TP X 133 (F133 spec : Fn U R) := by
  intro args h k r hh
  unfold F133 at hh
  split at hh
  · obtain ⟨x, h1, h2⟩ := Option.bind_eq_some_iff.1 hh
    exact ⟨_, _, h2, hp _ _ _ h1⟩
  · cases hh
theorem pok133 : PrmOK TP X q133 := prims_nil TP X mixed
noncomputable def S133 (p0 p1 : TI) : Option R133 := evv fun k => f133 k p0 p1
theorem okS133 {R : Type} : FnOK TP X 133 (F133 S133 : Fn U R) := ok133 S133 fun p0 p1 r h => by
  obtain ⟨k, hk⟩ := evv_fuel h
  exact pure133 p0 p1 pok133 k r hk
end
end Go.Abs.Z
namespace Go.Abs.Z
open Go Go.Abs Go.Proofs
noncomputable section
abbrev R117 : Type := TI × Int × (Int)
noncomputable def body117 : Go.Code := (Try.f117.body).getD Go.Code.skip
def h117 (p0 : ByteArray) (p1 : Int) : List (AO U) := []
def k117 : AV U → List (AO U) → Option R117 := fun v h => match v, h with | AV.tup [AV.imm 105 x0, AV.int IntKind.i64 x1, AV.int IntKind.i64 x2], [] => some (x0, x1, x2) | _, _ => none
def out117 : R117 → AV U := fun (x0, x1, x2) => AV.tup [AV.imm 105 x0, AV.int IntKind.i64 x1, AV.int IntKind.i64 x2]
def outh117 : R117 → List (AO U) := fun (x0, x1, x2) => []
def D117 : Nat → Dir := dirs [(8, ⟨[0, 1, 30, 31], [], [], []⟩), (15, ⟨[0, 1, 8, 9, 10], [], [(8, none)], []⟩), (21, ⟨[0, 1, 8, 9, 10, 11, 12, 13, 57, 58], [], [(8, none)], []⟩), (28, ⟨[0, 1, 8, 9, 10, 11, 12, 13], [], [(8, none)], []⟩)]
def b117 (p0 : ByteArray) (p1 : Int) (c8 : (Int) → Option R117) (c15 : (ByteArray) → TI → Int → (Int) → Option R117) (c21 : (ByteArray) → TI → Int → (Int) → Int → (Int) → Int → (Int) → Int → Option R117) (c28 : (ByteArray) → TI → Int → (Int) → Int → (Int) → Int → Option R117)  : Option R117 :=
  cond (decide ((↑p0.size : Int) > 65536))
  (some (([], 65536, 4)))
  (cond (decide (p1 < 2))
  (some (([], 0, 22)))
  (cond (decide (p1 > 36))
  (some (([], 0, 22)))
  (cond (p0.toList == (ByteArray.mk #[]).toList)
  (some (([], 0, 5)))
  (c8 (0)))))
def m117_8 (p0 : ByteArray) (p1 v3 : Int) : S U := S.mk [AV.str p0, AV.int IntKind.i64 p1, AV.undef, AV.undef, AV.undef, AV.undef, AV.undef, AV.undef, AV.undef, AV.undef, AV.undef, AV.undef, AV.undef, AV.undef, AV.undef, AV.undef, AV.undef, AV.undef, AV.undef, AV.undef, AV.undef, AV.undef, AV.undef, AV.undef, AV.undef, AV.undef, AV.undef, AV.undef, AV.undef, AV.undef, AV.int IntKind.i64 (↑p0.size : Int), AV.int IntKind.i64 v3, AV.undef, AV.undef, AV.undef, AV.undef, AV.undef, AV.undef, AV.undef, AV.undef, AV.undef, AV.undef, AV.undef, AV.undef, AV.undef, AV.undef, AV.undef, AV.undef, AV.undef, AV.undef, AV.undef, AV.undef, AV.undef, AV.undef, AV.undef, AV.undef, AV.undef, AV.undef, AV.undef, AV.undef, AV.undef, AV.undef, AV.undef, AV.undef, AV.undef, AV.undef, AV.undef, AV.undef, AV.undef, AV.undef, AV.undef, AV.undef, AV.undef, AV.undef, AV.undef, AV.undef, AV.undef, AV.undef, AV.undef, AV.undef, AV.undef, AV.undef, AV.undef, AV.undef, AV.undef, AV.undef, AV.undef, AV.undef, AV.undef, AV.undef, AV.undef, AV.undef, AV.undef, AV.undef, AV.undef] []
def b117_8 (p0 : ByteArray) (p1 : Int) (c8 : (Int) → Option R117) (c15 : (ByteArray) → TI → Int → (Int) → Option R117) (c21 : (ByteArray) → TI → Int → (Int) → Int → (Int) → Int → (Int) → Int → Option R117) (c28 : (ByteArray) → TI → Int → (Int) → Int → (Int) → Int → Option R117) (v3 : Int) : Option R117 :=
  cond (decide (v3 < (↑p0.size : Int)))
  (cond (decide (0 ≤ v3))
  (cond (decide (v3 < (↑p0.size : Int)))
  ((S129 (bt p0 v3)).bind fun r0 =>
  cond (decide (r0 ≥ p1))
  (some (([], v3, 5)))
  (c8 (IntKind.i64.wrap (v3 + 1))))
  (none))
  (none))
  ((S130 p1).bind fun r1 =>
  c15 (p0) ([]) (r1.fst) (r1.snd))
def m117_15 (p0 : ByteArray) (p1 : Int) (v0 : ByteArray) (v2 : TI) (v3 v4 : Int) : S U := S.mk [AV.str v0, AV.int IntKind.i64 p1, AV.undef, AV.undef, AV.undef, AV.undef, AV.undef, AV.undef, AV.imm 105 v2, AV.int IntKind.u32 v3, AV.int IntKind.i64 v4, AV.undef, AV.undef, AV.undef, AV.undef, AV.undef, AV.undef, AV.undef, AV.undef, AV.undef, AV.undef, AV.undef, AV.undef, AV.undef, AV.undef, AV.undef, AV.undef, AV.undef, AV.undef, AV.undef, AV.undef, AV.undef, AV.undef, AV.undef, AV.undef, AV.undef, AV.undef, AV.undef, AV.undef, AV.undef, AV.undef, AV.undef, AV.undef, AV.undef, AV.undef, AV.undef, AV.undef, AV.undef, AV.undef, AV.undef, AV.undef, AV.undef, AV.undef, AV.undef, AV.undef, AV.undef, AV.undef, AV.undef, AV.undef, AV.undef, AV.undef, AV.undef, AV.undef, AV.undef, AV.undef, AV.undef, AV.undef, AV.undef, AV.undef, AV.undef, AV.undef, AV.undef, AV.undef, AV.undef, AV.undef, AV.undef, AV.undef, AV.undef, AV.undef, AV.undef, AV.undef, AV.undef, AV.undef, AV.undef, AV.undef, AV.undef, AV.undef, AV.undef, AV.undef, AV.undef, AV.undef, AV.undef, AV.undef, AV.undef, AV.undef] []
def b117_15 (p0 : ByteArray) (p1 : Int) (c8 : (Int) → Option R117) (c15 : (ByteArray) → TI → Int → (Int) → Option R117) (c21 : (ByteArray) → TI → Int → (Int) → Int → (Int) → Int → (Int) → Int → Option R117) (c28 : (ByteArray) → TI → Int → (Int) → Int → (Int) → Int → Option R117) (v0 : ByteArray) (v2 : TI) (v3 v4 : Int) : Option R117 :=
  cond (decide ((↑v0.size : Int) > 0))
  (cond (decide (v4 = 0))
  (none)
  (cond ((↑v0.size : Int).tmod v4 == 0)
  (c21 (v0) (v2) (v3) (v4) (v4) (1) (0) (v4) (0))
  (c21 (v0) (v2) (v3) (v4) ((↑v0.size : Int).tmod v4) (1) (0) ((↑v0.size : Int).tmod v4) (0))))
  (some ((v2, 0, 0)))
def m117_21 (p0 : ByteArray) (p1 : Int) (v0 : ByteArray) (v2 : TI) (v3 v4 v5 v6 v7 v8 v9 : Int) : S U := S.mk [AV.str v0, AV.int IntKind.i64 p1, AV.undef, AV.undef, AV.undef, AV.undef, AV.undef, AV.undef, AV.imm 105 v2, AV.int IntKind.u32 v3, AV.int IntKind.i64 v4, AV.int IntKind.i64 v5, AV.int IntKind.u32 v6, AV.int IntKind.u32 v7, AV.undef, AV.undef, AV.undef, AV.undef, AV.undef, AV.undef, AV.undef, AV.undef, AV.undef, AV.undef, AV.undef, AV.undef, AV.undef, AV.undef, AV.undef, AV.undef, AV.undef, AV.undef, AV.undef, AV.undef, AV.undef, AV.undef, AV.undef, AV.undef, AV.undef, AV.undef, AV.undef, AV.undef, AV.undef, AV.undef, AV.undef, AV.undef, AV.undef, AV.undef, AV.undef, AV.undef, AV.undef, AV.undef, AV.undef, AV.undef, AV.undef, AV.undef, AV.undef, AV.int IntKind.i64 v8, AV.int IntKind.i64 v9, AV.undef, AV.undef, AV.undef, AV.undef, AV.undef, AV.undef, AV.undef, AV.undef, AV.undef, AV.undef, AV.undef, AV.undef, AV.undef, AV.undef, AV.undef, AV.undef, AV.undef, AV.undef, AV.undef, AV.undef, AV.undef, AV.undef, AV.undef, AV.undef, AV.undef, AV.undef, AV.undef, AV.undef, AV.undef, AV.undef, AV.undef, AV.undef, AV.undef, AV.undef, AV.undef, AV.undef] []
def b117_21 (p0 : ByteArray) (p1 : Int) (c8 : (Int) → Option R117) (c15 : (ByteArray) → TI → Int → (Int) → Option R117) (c21 : (ByteArray) → TI → Int → (Int) → Int → (Int) → Int → (Int) → Int → Option R117) (c28 : (ByteArray) → TI → Int → (Int) → Int → (Int) → Int → Option R117) (v0 : ByteArray) (v2 : TI) (v3 v4 v5 v6 v7 v8 v9 : Int) : Option R117 :=
  cond (decide (v9 < v8))
  (cond (decide (0 ≤ v9))
  (cond (decide (v9 < (↑v0.size : Int)))
  ((S129 (bt v0 v9)).bind fun r0 =>
  c21 (v0) (v2) (v3) (v4) (v5) (IntKind.u32.wrap (v6 * IntKind.u32.wrap p1)) (IntKind.u32.wrap (IntKind.u32.wrap (v7 * IntKind.u32.wrap p1) + IntKind.u32.wrap r0)) (v8) (IntKind.i64.wrap (v9 + 1)))
  (none))
  (none))
  (cond (v5 == v4)
  (c28 (v0) (v2) (v3) (v4) (v5) (v3) (v7))
  (c28 (v0) (v2) (v3) (v4) (v5) (v6) (v7)))
def m117_28 (p0 : ByteArray) (p1 : Int) (v0 : ByteArray) (v2 : TI) (v3 v4 v5 v6 v7 : Int) : S U := S.mk [AV.str v0, AV.int IntKind.i64 p1, AV.undef, AV.undef, AV.undef, AV.undef, AV.undef, AV.undef, AV.imm 105 v2, AV.int IntKind.u32 v3, AV.int IntKind.i64 v4, AV.int IntKind.i64 v5, AV.int IntKind.u32 v6, AV.int IntKind.u32 v7, AV.undef, AV.undef, AV.undef, AV.undef, AV.undef, AV.undef, AV.undef, AV.undef, AV.undef, AV.undef, AV.undef, AV.undef, AV.undef, AV.undef, AV.undef, AV.undef, AV.undef, AV.undef, AV.undef, AV.undef, AV.undef, AV.undef, AV.undef, AV.undef, AV.undef, AV.undef, AV.undef, AV.undef, AV.undef, AV.undef, AV.undef, AV.undef, AV.undef, AV.undef, AV.undef, AV.undef, AV.undef, AV.undef, AV.undef, AV.undef, AV.undef, AV.undef, AV.undef, AV.undef, AV.undef, AV.undef, AV.undef, AV.undef, AV.undef, AV.undef, AV.undef, AV.undef, AV.undef, AV.undef, AV.undef, AV.undef, AV.undef, AV.undef, AV.undef, AV.undef, AV.undef, AV.undef, AV.undef, AV.undef, AV.undef, AV.undef, AV.undef, AV.undef, AV.undef, AV.undef, AV.undef, AV.undef, AV.undef, AV.undef, AV.undef, AV.undef, AV.undef, AV.undef, AV.undef, AV.undef, AV.undef] []
def b117_28 (p0 : ByteArray) (p1 : Int) (c8 : (Int) → Option R117) (c15 : (ByteArray) → TI → Int → (Int) → Option R117) (c21 : (ByteArray) → TI → Int → (Int) → Int → (Int) → Int → (Int) → Int → Option R117) (c28 : (ByteArray) → TI → Int → (Int) → Int → (Int) → Int → Option R117) (v0 : ByteArray) (v2 : TI) (v3 v4 v5 v6 v7 : Int) : Option R117 :=
  (S133 v2 [v6]).bind fun r0 =>
  (S132 r0 [v7]).bind fun r1 =>
  (S131 r1).bind fun r2 =>
  cond (decide ((↑(List.length r2) : Int) > 2048))
  (some (([], 0, 2)))
  (cond (decide (0 ≤ v5))
  (cond (decide (v5 ≤ (↑v0.size : Int)))
  (c15 (v0.extract v5.toNat v0.size) (r2) (v3) (v4))
  (none))
  (none))
theorem hk117 : ∀ v h' r, k117 v h' = some r → v = out117 r ∧ h' = outh117 r := by
  intro v h' r h
  unfold k117 at h
  split at h
  · injection h with h; subst h; exact ⟨rfl, rfl⟩
  · cases h
abbrev q117 : Prim U R117 := prims X [⟨129, fun _ => true, [.lend], F129 S129⟩, ⟨130, fun _ => true, [.lend], F130 S130⟩, ⟨133, fun _ => true, [.frz, .frz], F133 S133⟩, ⟨132, fun _ => true, [.frz, .frz], F132 S132⟩, ⟨131, fun _ => true, [.lend], F131 S131⟩]
theorem s117 (c : Nat → S U → Option R117) (p0 : ByteArray) (p1 : Int) : seg TP X q117 [8, 15, 21, 28] (fun q st => c q (keepD D117 (h117 p0 p1).length q st)) body117 (finH TP Try.f117.results.toList (h117 p0 p1).length false k117) (start [.str p0, .int .i64 p1] Try.f117.ntmps (h117 p0 p1)) = b117 p0 p1 (fun v3 => c 8 (m117_8 p0 p1 v3)) (fun v0 v2 v3 v4 => c 15 (m117_15 p0 p1 v0 v2 v3 v4)) (fun v0 v2 v3 v4 v5 v6 v7 v8 v9 => c 21 (m117_21 p0 p1 v0 v2 v3 v4 v5 v6 v7 v8 v9)) (fun v0 v2 v3 v4 v5 v6 v7 => c 28 (m117_28 p0 p1 v0 v2 v3 v4 v5 v6 v7)) := by kernel_rfl
theorem s117_8 (c : Nat → S U → Option R117) (p0 : ByteArray) (p1 v3 : Int) : res TP X q117 [8, 15, 21, 28] (fun q st => c q (keepD D117 (h117 p0 p1).length q st)) 8 body117 (finH TP Try.f117.results.toList (h117 p0 p1).length false k117) (m117_8 p0 p1 v3) = b117_8 p0 p1 (fun v3 => c 8 (m117_8 p0 p1 v3)) (fun v0 v2 v3 v4 => c 15 (m117_15 p0 p1 v0 v2 v3 v4)) (fun v0 v2 v3 v4 v5 v6 v7 v8 v9 => c 21 (m117_21 p0 p1 v0 v2 v3 v4 v5 v6 v7 v8 v9)) (fun v0 v2 v3 v4 v5 v6 v7 => c 28 (m117_28 p0 p1 v0 v2 v3 v4 v5 v6 v7)) v3 := by kernel_rfl
theorem s117_15 (c : Nat → S U → Option R117) (p0 : ByteArray) (p1 : Int) (v0 : ByteArray) (v2 : TI) (v3 v4 : Int) : res TP X q117 [8, 15, 21, 28] (fun q st => c q (keepD D117 (h117 p0 p1).length q st)) 15 body117 (finH TP Try.f117.results.toList (h117 p0 p1).length false k117) (m117_15 p0 p1 v0 v2 v3 v4) = b117_15 p0 p1 (fun v3 => c 8 (m117_8 p0 p1 v3)) (fun v0 v2 v3 v4 => c 15 (m117_15 p0 p1 v0 v2 v3 v4)) (fun v0 v2 v3 v4 v5 v6 v7 v8 v9 => c 21 (m117_21 p0 p1 v0 v2 v3 v4 v5 v6 v7 v8 v9)) (fun v0 v2 v3 v4 v5 v6 v7 => c 28 (m117_28 p0 p1 v0 v2 v3 v4 v5 v6 v7)) v0 v2 v3 v4 := by kernel_rfl
theorem s117_21 (c : Nat → S U → Option R117) (p0 : ByteArray) (p1 : Int) (v0 : ByteArray) (v2 : TI) (v3 v4 v5 v6 v7 v8 v9 : Int) : res TP X q117 [8, 15, 21, 28] (fun q st => c q (keepD D117 (h117 p0 p1).length q st)) 21 body117 (finH TP Try.f117.results.toList (h117 p0 p1).length false k117) (m117_21 p0 p1 v0 v2 v3 v4 v5 v6 v7 v8 v9) = b117_21 p0 p1 (fun v3 => c 8 (m117_8 p0 p1 v3)) (fun v0 v2 v3 v4 => c 15 (m117_15 p0 p1 v0 v2 v3 v4)) (fun v0 v2 v3 v4 v5 v6 v7 v8 v9 => c 21 (m117_21 p0 p1 v0 v2 v3 v4 v5 v6 v7 v8 v9)) (fun v0 v2 v3 v4 v5 v6 v7 => c 28 (m117_28 p0 p1 v0 v2 v3 v4 v5 v6 v7)) v0 v2 v3 v4 v5 v6 v7 v8 v9 := by kernel_rfl
theorem s117_28 (c : Nat → S U → Option R117) (p0 : ByteArray) (p1 : Int) (v0 : ByteArray) (v2 : TI) (v3 v4 v5 v6 v7 : Int) : res TP X q117 [8, 15, 21, 28] (fun q st => c q (keepD D117 (h117 p0 p1).length q st)) 28 body117 (finH TP Try.f117.results.toList (h117 p0 p1).length false k117) (m117_28 p0 p1 v0 v2 v3 v4 v5 v6 v7) = b117_28 p0 p1 (fun v3 => c 8 (m117_8 p0 p1 v3)) (fun v0 v2 v3 v4 => c 15 (m117_15 p0 p1 v0 v2 v3 v4)) (fun v0 v2 v3 v4 v5 v6 v7 v8 v9 => c 21 (m117_21 p0 p1 v0 v2 v3 v4 v5 v6 v7 v8 v9)) (fun v0 v2 v3 v4 v5 v6 v7 => c 28 (m117_28 p0 p1 v0 v2 v3 v4 v5 v6 v7)) v0 v2 v3 v4 v5 v6 v7 := by kernel_rfl
mutual
def f117_8 (p0 : ByteArray) (p1 : Int) : Nat → Int → Option R117
  | 0 => fun _ => none
  | k + 1 => b117_8 p0 p1 (f117_8 p0 p1 k) (f117_15 p0 p1 k) (f117_21 p0 p1 k) (f117_28 p0 p1 k)
def f117_15 (p0 : ByteArray) (p1 : Int) : Nat → (ByteArray) → TI → Int → (Int) → Option R117
  | 0 => fun _ _ _ _ => none
  | k + 1 => b117_15 p0 p1 (f117_8 p0 p1 k) (f117_15 p0 p1 k) (f117_21 p0 p1 k) (f117_28 p0 p1 k)
def f117_21 (p0 : ByteArray) (p1 : Int) : Nat → (ByteArray) → TI → Int → (Int) → Int → (Int) → Int → (Int) → Int → Option R117
  | 0 => fun _ _ _ _ _ _ _ _ _ => none
  | k + 1 => b117_21 p0 p1 (f117_8 p0 p1 k) (f117_15 p0 p1 k) (f117_21 p0 p1 k) (f117_28 p0 p1 k)
def f117_28 (p0 : ByteArray) (p1 : Int) : Nat → (ByteArray) → TI → Int → (Int) → Int → (Int) → Int → Option R117
  | 0 => fun _ _ _ _ _ _ _ => none
  | k + 1 => b117_28 p0 p1 (f117_8 p0 p1 k) (f117_15 p0 p1 k) (f117_21 p0 p1 k) (f117_28 p0 p1 k)
end
def f117 (k : Nat) (p0 : ByteArray) (p1 : Int) : Option R117 := b117 p0 p1 (f117_8 p0 p1 k) (f117_15 p0 p1 k) (f117_21 p0 p1 k) (f117_28 p0 p1 k)
theorem e117 (p0 : ByteArray) (p1 : Int) : ∀ k, ((fun v3 => cutG TP X q117 [8, 15, 21, 28] D117 (h117 p0 p1).length body117 (finH TP Try.f117.results.toList (h117 p0 p1).length false k117) k 8 (m117_8 p0 p1 v3)) = f117_8 p0 p1 k) ∧ ((fun v0 v2 v3 v4 => cutG TP X q117 [8, 15, 21, 28] D117 (h117 p0 p1).length body117 (finH TP Try.f117.results.toList (h117 p0 p1).length false k117) k 15 (m117_15 p0 p1 v0 v2 v3 v4)) = f117_15 p0 p1 k) ∧ ((fun v0 v2 v3 v4 v5 v6 v7 v8 v9 => cutG TP X q117 [8, 15, 21, 28] D117 (h117 p0 p1).length body117 (finH TP Try.f117.results.toList (h117 p0 p1).length false k117) k 21 (m117_21 p0 p1 v0 v2 v3 v4 v5 v6 v7 v8 v9)) = f117_21 p0 p1 k) ∧ ((fun v0 v2 v3 v4 v5 v6 v7 => cutG TP X q117 [8, 15, 21, 28] D117 (h117 p0 p1).length body117 (finH TP Try.f117.results.toList (h117 p0 p1).length false k117) k 28 (m117_28 p0 p1 v0 v2 v3 v4 v5 v6 v7)) = f117_28 p0 p1 k)
  | 0 => ⟨rfl, rfl, rfl, rfl⟩
  | k + 1 => by
    have ih := e117 p0 p1 k
    refine ⟨?_, ?_, ?_, ?_⟩
    · funext v3
      refine (if_pos (by kernel_rfl)).trans ?_
      rw [s117_8]
      simp only [ih]
      rfl
    · funext v0 v2 v3 v4
      refine (if_pos (by kernel_rfl)).trans ?_
      rw [s117_15]
      simp only [ih]
      rfl
    · funext v0 v2 v3 v4 v5 v6 v7 v8 v9
      refine (if_pos (by kernel_rfl)).trans ?_
      rw [s117_21]
      simp only [ih]
      rfl
    · funext v0 v2 v3 v4 v5 v6 v7
      refine (if_pos (by kernel_rfl)).trans ?_
      rw [s117_28]
      simp only [ih]
      rfl
theorem pure117 (p0 : ByteArray) (p1 : Int) (pok : PrmOK TP X q117) (k : Nat) (r : R117) (h : f117 k p0 p1 = some r) : PureH TP X 117 [.str p0, .int .i64 p1] (h117 p0 p1) (out117 r) (outh117 r) :=
  pure_gen good k (fn := Try.f117) (body := body117) (prim := q117) (D := D117) (cuts := [8, 15, 21, 28]) (h := h117 p0 p1) (own := false) (by kernel_rfl) (by kernel_rfl) (by decide +kernel) pok hk117 (by
    rw [s117]
    have ih := e117 p0 p1 k
    simp only [ih]
    exact h)
def F117 {R : Type} (spec : (ByteArray) → Int → Option R117) : Fn U R := fun args h k => match args, h with | [.str p0, .int .i64 p1], [] => (spec p0 p1).bind fun r => k (out117 r) (outh117 r) | _, _ => none
theorem ok117 {R : Type} (spec : (ByteArray) → Int → Option R117) (hp : ∀ (p0 : ByteArray) (p1 : Int) (r : R117), spec p0 p1 = some r → PureH TP X 117 [.str p0, .int .i64 p1] (h117 p0 p1) (out117 r) (outh117 r)) : FnOK TP X 117 (F117 spec : Fn U R) := by
  intro args h k r hh
  unfold F117 at hh
  split at hh
  · obtain ⟨x, h1, h2⟩ := Option.bind_eq_some_iff.1 hh
    exact ⟨_, _, h2, hp _ _ _ h1⟩
  · cases hh
theorem pok117 : PrmOK TP X q117 := prims_cons good okS129 (prims_cons good okS130 (prims_cons good okS133 (prims_cons good okS132 (prims_cons good okS131 (prims_nil TP X mixed)))))
noncomputable def S117 (p0 : ByteArray) (p1 : Int) : Option R117 := evv fun k => f117 k p0 p1
theorem okS117 {R : Type} : FnOK TP X 117 (F117 S117 : Fn U R) := ok117 S117 fun p0 p1 r h => by
  obtain ⟨k, hk⟩ := evv_fuel h
  exact pure117 p0 p1 pok117 k r hk
end
end Go.Abs.Z
namespace Go.Abs.Z
open Go Go.Abs Go.Proofs
noncomputable section
abbrev R101 : Type := Bool × TI × TI × (Bool)
noncomputable def body101 : Go.Code := (Try.f101.body).getD Go.Code.skip
def h101 (p0 : Bool) (p1 p2 : ByteArray) : List (AO U) := []
def k101 : AV U → List (AO U) → Option R101 := fun v h => match v, h with | AV.tup [AV.agg [AV.bool x0, AV.imm 105 x1, AV.imm 105 x2], AV.bool x3], [] => some (x0, x1, x2, x3) | _, _ => none
def out101 : R101 → AV U := fun (x0, x1, x2, x3) => AV.tup [AV.agg [AV.bool x0, AV.imm 105 x1, AV.imm 105 x2], AV.bool x3]
def outh101 : R101 → List (AO U) := fun (x0, x1, x2, x3) => []
def D101 : Nat → Dir := dirs []
def b101 (p0 : Bool) (p1 p2 : ByteArray)   : Option R101 :=
  (S117 p1 10).bind fun r0 =>
  (S117 p2 10).bind fun r1 =>
  cond (r0.snd.snd != 0)
  (some ((false, [], [], false)))
  (cond (r1.snd.snd != 0)
  (some ((false, [], [], false)))
  ((S118 p0 r0.fst r1.fst).bind fun r2 =>
  some ((r2.fst, r2.snd.fst, r2.snd.snd.fst, r2.snd.snd.snd == 0))))
theorem hk101 : ∀ v h' r, k101 v h' = some r → v = out101 r ∧ h' = outh101 r := by
  intro v h' r h
  unfold k101 at h
  split at h
  · injection h with h; subst h; exact ⟨rfl, rfl⟩
  · cases h
abbrev q101 : Prim U R101 := prims X [⟨117, fun _ => true, [.lend, .lend], F117 S117⟩, ⟨118, fun _ => true, [.lend, .lend, .lend], F118 S118⟩]
theorem s101 (c : Nat → S U → Option R101) (p0 : Bool) (p1 p2 : ByteArray) : seg TP X q101 [] (fun q st => c q (keepD D101 (h101 p0 p1 p2).length q st)) body101 (finH TP Try.f101.results.toList (h101 p0 p1 p2).length false k101) (start [.bool p0, .str p1, .str p2] Try.f101.ntmps (h101 p0 p1 p2)) = b101 p0 p1 p2  := by kernel_rfl
def f101 (_ : Nat) (p0 : Bool) (p1 p2 : ByteArray) : Option R101 := b101 p0 p1 p2
theorem pure101 (p0 : Bool) (p1 p2 : ByteArray) (pok : PrmOK TP X q101) (k : Nat) (r : R101) (h : f101 k p0 p1 p2 = some r) : PureH TP X 101 [.bool p0, .str p1, .str p2] (h101 p0 p1 p2) (out101 r) (outh101 r) :=
  pure_gen good 0 (fn := Try.f101) (body := body101) (prim := q101) (D := D101) (cuts := []) (h := h101 p0 p1 p2) (own := false) (by kernel_rfl) (by kernel_rfl) (by decide +kernel) pok hk101 (by
    rw [s101]
    exact h)
def F101 {R : Type} (spec : (Bool) → (ByteArray) → (ByteArray) → Option R101) : Fn U R := fun args h k => match args, h with | [.bool p0, .str p1, .str p2], [] => (spec p0 p1 p2).bind fun r => k (out101 r) (outh101 r) | _, _ => none
theorem ok101 {R : Type} (spec : (Bool) → (ByteArray) → (ByteArray) → Option R101) (hp : ∀ (p0 : Bool) (p1 : ByteArray) (p2 : ByteArray) (r : R101), spec p0 p1 p2 = some r → PureH TP X 101 [.bool p0, .str p1, .str p2] (h101 p0 p1 p2) (out101 r) (outh101 r)) : FnOK TP X 101 (F101 spec : Fn U R) := by
  intro args h k r hh
  unfold F101 at hh
  split at hh
  · obtain ⟨x, h1, h2⟩ := Option.bind_eq_some_iff.1 hh
    exact ⟨_, _, h2, hp _ _ _ _ h1⟩
  · cases hh
theorem pok101 : PrmOK TP X q101 := prims_cons good okS117 (prims_cons good okS118 (prims_nil TP X mixed))
noncomputable def S101 (p0 : Bool) (p1 p2 : ByteArray) : Option R101 := evv fun k => f101 k p0 p1 p2
theorem okS101 {R : Type} : FnOK TP X 101 (F101 S101 : Fn U R) := ok101 S101 fun p0 p1 p2 r h => by
  obtain ⟨k, hk⟩ := evv_fuel h
  exact pure101 p0 p1 p2 pok101 k r hk
end
end Go.Abs.Z
namespace Go.Abs.Z
open Go Go.Abs Go.Proofs
noncomputable section
abbrev R70d : Type := Int × ByteArray × Int × (List TTk)
noncomputable def body70d : Go.Code := (Try.f70.body).getD Go.Code.skip
def h70d (p0 : ByteArray) (p1 : Int) (p2 : List TTk) (p3 : Int) : List (AO U) := [.box [.str p0, .int .i64 p1, .row 1 90], .row 90 p2]
def k70d : AV U → List (AO U) → Option R70d := fun v h => match v, h with | AV.int IntKind.i64 x0, [AO.box [AV.str x1, AV.int IntKind.i64 x2, AV.row 1 90], AO.row 90 x3] => some (x0, x1, x2, x3) | _, _ => none
def out70d : R70d → AV U := fun (x0, x1, x2, x3) => AV.int IntKind.i64 x0
def outh70d : R70d → List (AO U) := fun (x0, x1, x2, x3) => [AO.box [AV.str x1, AV.int IntKind.i64 x2, AV.row 1 90], AO.row 90 x3]
def D70d : Nat → Dir := dirs [(2, ⟨[0, 1, 2, 7], [], [], []⟩)]
def b70d (p0 : ByteArray) (p1 : Int) (p2 : List TTk) (p3 : Int) (c2 : (Int) → Option R70d)  : Option R70d :=
  c2 (p3)
def m70d_2 (p0 : ByteArray) (p1 : Int) (p2 : List TTk) (p3 v1 : Int) : S U := S.mk [AV.ptr 0 0, AV.int IntKind.i64 p3, AV.fn 72 [], AV.undef, AV.undef, AV.undef, AV.undef, AV.int IntKind.i64 v1, AV.undef, AV.undef, AV.undef, AV.undef, AV.undef, AV.undef, AV.undef, AV.undef, AV.undef, AV.undef, AV.undef, AV.undef, AV.undef, AV.undef, AV.undef, AV.undef, AV.undef, AV.undef, AV.undef, AV.undef, AV.undef, AV.undef, AV.undef] [AO.box [AV.str p0, AV.int IntKind.i64 p1, AV.row 1 90], AO.row 90 p2]
def b70d_2 (p0 : ByteArray) (p1 : Int) (p2 : List TTk) (p3 : Int) (c2 : (Int) → Option R70d) (v1 : Int) : Option R70d :=
  cond (decide (v1 < (↑p0.size : Int)))
  (cond (decide (0 ≤ v1))
  (cond (decide (v1 < (↑p0.size : Int)))
  ((S72 (bt p0 v1)).bind fun r0 =>
  cond (r0)
  (c2 (IntKind.i64.wrap (v1 + 1)))
  (some ((IntKind.i64.wrap (v1 - p3), p0, p1, p2))))
  (none))
  (none))
  (some ((IntKind.i64.wrap (v1 - p3), p0, p1, p2)))
theorem hk70d : ∀ v h' r, k70d v h' = some r → v = out70d r ∧ h' = outh70d r := by
  intro v h' r h
  unfold k70d at h
  split at h
  · injection h with h; subst h; exact ⟨rfl, rfl⟩
  · cases h
abbrev q70d : Prim U R70d := prims X [⟨72, fun _ => true, [.lend], F72 S72⟩]
theorem s70d (c : Nat → S U → Option R70d) (p0 : ByteArray) (p1 : Int) (p2 : List TTk) (p3 : Int) : seg TP X q70d [2] (fun q st => c q (keepD D70d (h70d p0 p1 p2 p3).length q st)) body70d (finH TP Try.f70.results.toList (h70d p0 p1 p2 p3).length false k70d) (start [.ptr 0 0, .int .i64 p3, .fn 72 []] Try.f70.ntmps (h70d p0 p1 p2 p3)) = b70d p0 p1 p2 p3 (fun v1 => c 2 (m70d_2 p0 p1 p2 p3 v1)) := by kernel_rfl
theorem s70d_2 (c : Nat → S U → Option R70d) (p0 : ByteArray) (p1 : Int) (p2 : List TTk) (p3 v1 : Int) : res TP X q70d [2] (fun q st => c q (keepD D70d (h70d p0 p1 p2 p3).length q st)) 2 body70d (finH TP Try.f70.results.toList (h70d p0 p1 p2 p3).length false k70d) (m70d_2 p0 p1 p2 p3 v1) = b70d_2 p0 p1 p2 p3 (fun v1 => c 2 (m70d_2 p0 p1 p2 p3 v1)) v1 := by kernel_rfl
def f70d_2 (p0 : ByteArray) (p1 : Int) (p2 : List TTk) (p3 : Int) : Nat → Int → Option R70d
  | 0 => fun _ => none
  | k + 1 => b70d_2 p0 p1 p2 p3 (f70d_2 p0 p1 p2 p3 k)
def f70d (k : Nat) (p0 : ByteArray) (p1 : Int) (p2 : List TTk) (p3 : Int) : Option R70d := b70d p0 p1 p2 p3 (f70d_2 p0 p1 p2 p3 k)
theorem e70d (p0 : ByteArray) (p1 : Int) (p2 : List TTk) (p3 : Int) : ∀ k, ((fun v1 => cutG TP X q70d [2] D70d (h70d p0 p1 p2 p3).length body70d (finH TP Try.f70.results.toList (h70d p0 p1 p2 p3).length false k70d) k 2 (m70d_2 p0 p1 p2 p3 v1)) = f70d_2 p0 p1 p2 p3 k)
  | 0 => rfl
  | k + 1 => by
    have ih := e70d p0 p1 p2 p3 k
    · funext v1
      refine (if_pos (by kernel_rfl)).trans ?_
      rw [s70d_2]
      simp only [ih]
      rfl
theorem pure70d (p0 : ByteArray) (p1 : Int) (p2 : List TTk) (p3 : Int) (pok : PrmOK TP X q70d) (k : Nat) (r : R70d) (h : f70d k p0 p1 p2 p3 = some r) : PureH TP X 70 [.ptr 0 0, .int .i64 p3, .fn 72 []] (h70d p0 p1 p2 p3) (out70d r) (outh70d r) :=
  pure_gen good k (fn := Try.f70) (body := body70d) (prim := q70d) (D := D70d) (cuts := [2]) (h := h70d p0 p1 p2 p3) (own := false) (by kernel_rfl) (by kernel_rfl) (by decide +kernel) pok hk70d (by
    rw [s70d]
    have ih := e70d p0 p1 p2 p3 k
    simp only [ih]
    exact h)
def F70d {R : Type} (spec : (ByteArray) → Int → (List TTk) → Int → Option R70d) : Fn U R := fun args h k => match args, h with | [.ptr 0 0, .int .i64 p3, .fn 72 []], [.box [.str p0, .int .i64 p1, .row 1 90], .row 90 p2] => (spec p0 p1 p2 p3).bind fun r => k (out70d r) (outh70d r) | _, _ => none
theorem ok70d {R : Type} (spec : (ByteArray) → Int → (List TTk) → Int → Option R70d) (hp : ∀ (p0 : ByteArray) (p1 : Int) (p2 : List TTk) (p3 : Int) (r : R70d), spec p0 p1 p2 p3 = some r → PureH TP X 70 [.ptr 0 0, .int .i64 p3, .fn 72 []] (h70d p0 p1 p2 p3) (out70d r) (outh70d r)) : FnOK TP X 70 (F70d spec : Fn U R) := by
  intro args h k r hh
  unfold F70d at hh
  split at hh
  · obtain ⟨x, h1, h2⟩ := Option.bind_eq_some_iff.1 hh
    exact ⟨_, _, h2, hp _ _ _ _ _ h1⟩
  · cases hh
theorem pok70d : PrmOK TP X q70d := prims_cons good okS72 (prims_nil TP X mixed)
noncomputable def S70d (p0 : ByteArray) (p1 : Int) (p2 : List TTk) (p3 : Int) : Option R70d := evv fun k => f70d k p0 p1 p2 p3
theorem okS70d {R : Type} : FnOK TP X 70 (F70d S70d : Fn U R) := ok70d S70d fun p0 p1 p2 p3 r h => by
  obtain ⟨k, hk⟩ := evv_fuel h
  exact pure70d p0 p1 p2 p3 pok70d k r hk
end
end Go.Abs.Z
namespace Go.Abs.Z
open Go Go.Abs Go.Proofs
noncomputable section
abbrev R83 : Type := Int × Bool × TI × TI × Bool × ByteArray × Int × (List TTk)
noncomputable def body83 : Go.Code := (Try.f83.body).getD Go.Code.skip
def h83 (p0 : ByteArray) (p1 : Int) (p2 : List TTk) : List (AO U) := [.box [.str p0, .int .i64 p1, .row 1 90], .row 90 p2]
def k83 : AV U → List (AO U) → Option R83 := fun v h => match v, h with | AV.tup [AV.int IntKind.i64 x0, AV.agg [AV.bool x1, AV.imm 105 x2, AV.imm 105 x3], AV.bool x4], [AO.box [AV.str x5, AV.int IntKind.i64 x6, AV.row 1 90], AO.row 90 x7] => some (x0, x1, x2, x3, x4, x5, x6, x7) | _, _ => none
def out83 : R83 → AV U := fun (x0, x1, x2, x3, x4, x5, x6, x7) => AV.tup [AV.int IntKind.i64 x0, AV.agg [AV.bool x1, AV.imm 105 x2, AV.imm 105 x3], AV.bool x4]
def outh83 : R83 → List (AO U) := fun (x0, x1, x2, x3, x4, x5, x6, x7) => [AO.box [AV.str x5, AV.int IntKind.i64 x6, AV.row 1 90], AO.row 90 x7]
def D83 : Nat → Dir := dirs []
def b83 (p0 : ByteArray) (p1 : Int) (p2 : List TTk)   : Option R83 :=
  cond (decide (IntKind.i64.wrap (p1 + 1) < (↑p0.size : Int)))
  (cond (decide (0 ≤ IntKind.i64.wrap (p1 + 1)))
  (cond (decide (IntKind.i64.wrap (p1 + 1) < (↑p0.size : Int)))
  (cond (bt p0 (IntKind.i64.wrap (p1 + 1)) == 45)
  ((S70d p0 p1 p2 (IntKind.i64.wrap (IntKind.i64.wrap (p1 + 1) + 1))).bind fun r0 =>
  cond (decide (0 ≤ IntKind.i64.wrap (IntKind.i64.wrap (p1 + 1) + 1)))
  (cond (decide (IntKind.i64.wrap (IntKind.i64.wrap (p1 + 1) + 1) ≤ IntKind.i64.wrap (IntKind.i64.wrap (IntKind.i64.wrap (p1 + 1) + 1) + r0.fst)))
  (cond (decide (IntKind.i64.wrap (IntKind.i64.wrap (IntKind.i64.wrap (p1 + 1) + 1) + r0.fst) ≤ (↑r0.snd.fst.size : Int)))
  (cond (decide (IntKind.i64.wrap (IntKind.i64.wrap (IntKind.i64.wrap (p1 + 1) + 1) + r0.fst) < (↑r0.snd.fst.size : Int)))
  (cond (decide (0 ≤ IntKind.i64.wrap (IntKind.i64.wrap (IntKind.i64.wrap (p1 + 1) + 1) + r0.fst)))
  (cond (decide (IntKind.i64.wrap (IntKind.i64.wrap (IntKind.i64.wrap (p1 + 1) + 1) + r0.fst) < (↑r0.snd.fst.size : Int)))
  (cond (bt r0.snd.fst (IntKind.i64.wrap (IntKind.i64.wrap (IntKind.i64.wrap (p1 + 1) + 1) + r0.fst)) == 47)
  ((S70d r0.snd.fst r0.snd.snd.fst r0.snd.snd.snd (IntKind.i64.wrap (IntKind.i64.wrap (IntKind.i64.wrap (IntKind.i64.wrap (p1 + 1) + 1) + r0.fst) + 1))).bind fun r1 =>
  cond (decide (0 ≤ IntKind.i64.wrap (IntKind.i64.wrap (IntKind.i64.wrap (IntKind.i64.wrap (p1 + 1) + 1) + r0.fst) + 1)))
  (cond (decide (IntKind.i64.wrap (IntKind.i64.wrap (IntKind.i64.wrap (IntKind.i64.wrap (p1 + 1) + 1) + r0.fst) + 1) ≤ IntKind.i64.wrap (IntKind.i64.wrap (IntKind.i64.wrap (IntKind.i64.wrap (IntKind.i64.wrap (p1 + 1) + 1) + r0.fst) + 1) + r1.fst)))
  (cond (decide (IntKind.i64.wrap (IntKind.i64.wrap (IntKind.i64.wrap (IntKind.i64.wrap (IntKind.i64.wrap (p1 + 1) + 1) + r0.fst) + 1) + r1.fst) ≤ (↑r1.snd.fst.size : Int)))
  (cond (decide (IntKind.i64.wrap (IntKind.i64.wrap (IntKind.i64.wrap (IntKind.i64.wrap (p1 + 1) + 1) + r0.fst) + IntKind.i64.wrap (1 + r1.fst)) ≥ (↑r1.snd.fst.size : Int)))
  (some ((0, false, [], [], false, r1.snd.fst, r1.snd.snd.fst, r1.snd.snd.snd)))
  (cond (decide (0 ≤ IntKind.i64.wrap (IntKind.i64.wrap (IntKind.i64.wrap (IntKind.i64.wrap (p1 + 1) + 1) + r0.fst) + IntKind.i64.wrap (1 + r1.fst))))
  (cond (decide (IntKind.i64.wrap (IntKind.i64.wrap (IntKind.i64.wrap (IntKind.i64.wrap (p1 + 1) + 1) + r0.fst) + IntKind.i64.wrap (1 + r1.fst)) < (↑r1.snd.fst.size : Int)))
  (cond (bt r1.snd.fst (IntKind.i64.wrap (IntKind.i64.wrap (IntKind.i64.wrap (IntKind.i64.wrap (p1 + 1) + 1) + r0.fst) + IntKind.i64.wrap (1 + r1.fst))) != 93)
  (some ((0, false, [], [], false, r1.snd.fst, r1.snd.snd.fst, r1.snd.snd.snd)))
  ((S101 (bt p0 (IntKind.i64.wrap (p1 + 1)) == 45) (r0.snd.fst.extract (IntKind.i64.wrap (IntKind.i64.wrap (p1 + 1) + 1)).toNat (IntKind.i64.wrap (IntKind.i64.wrap (IntKind.i64.wrap (p1 + 1) + 1) + r0.fst)).toNat) (r1.snd.fst.extract (IntKind.i64.wrap (IntKind.i64.wrap (IntKind.i64.wrap (IntKind.i64.wrap (p1 + 1) + 1) + r0.fst) + 1)).toNat (IntKind.i64.wrap (IntKind.i64.wrap (IntKind.i64.wrap (IntKind.i64.wrap (IntKind.i64.wrap (p1 + 1) + 1) + r0.fst) + 1) + r1.fst)).toNat)).bind fun r2 =>
  some ((IntKind.i64.wrap (IntKind.i64.wrap (IntKind.i64.wrap (IntKind.i64.wrap (IntKind.i64.wrap (IntKind.i64.wrap (p1 + 1) + 1) + r0.fst) + IntKind.i64.wrap (1 + r1.fst)) + 1) - r1.snd.snd.fst), r2.fst, r2.snd.fst, r2.snd.snd.fst, r2.snd.snd.snd, r1.snd.fst, r1.snd.snd.fst, r1.snd.snd.snd))))
  (none))
  (none)))
  (none))
  (none))
  (none))
  (cond (decide (IntKind.i64.wrap (IntKind.i64.wrap (IntKind.i64.wrap (p1 + 1) + 1) + r0.fst) ≥ (↑r0.snd.fst.size : Int)))
  (some ((0, false, [], [], false, r0.snd.fst, r0.snd.snd.fst, r0.snd.snd.snd)))
  (cond (decide (0 ≤ IntKind.i64.wrap (IntKind.i64.wrap (IntKind.i64.wrap (p1 + 1) + 1) + r0.fst)))
  (cond (decide (IntKind.i64.wrap (IntKind.i64.wrap (IntKind.i64.wrap (p1 + 1) + 1) + r0.fst) < (↑r0.snd.fst.size : Int)))
  (cond (bt r0.snd.fst (IntKind.i64.wrap (IntKind.i64.wrap (IntKind.i64.wrap (p1 + 1) + 1) + r0.fst)) != 93)
  (some ((0, false, [], [], false, r0.snd.fst, r0.snd.snd.fst, r0.snd.snd.snd)))
  ((S101 (bt p0 (IntKind.i64.wrap (p1 + 1)) == 45) (r0.snd.fst.extract (IntKind.i64.wrap (IntKind.i64.wrap (p1 + 1) + 1)).toNat (IntKind.i64.wrap (IntKind.i64.wrap (IntKind.i64.wrap (p1 + 1) + 1) + r0.fst)).toNat) (ByteArray.mk #[49])).bind fun r3 =>
  some ((IntKind.i64.wrap (IntKind.i64.wrap (IntKind.i64.wrap (IntKind.i64.wrap (IntKind.i64.wrap (p1 + 1) + 1) + r0.fst) + 1) - r0.snd.snd.fst), r3.fst, r3.snd.fst, r3.snd.snd.fst, r3.snd.snd.snd, r0.snd.fst, r0.snd.snd.fst, r0.snd.snd.snd))))
  (none))
  (none))))
  (none))
  (none))
  (cond (decide (IntKind.i64.wrap (IntKind.i64.wrap (IntKind.i64.wrap (p1 + 1) + 1) + r0.fst) ≥ (↑r0.snd.fst.size : Int)))
  (some ((0, false, [], [], false, r0.snd.fst, r0.snd.snd.fst, r0.snd.snd.snd)))
  (cond (decide (0 ≤ IntKind.i64.wrap (IntKind.i64.wrap (IntKind.i64.wrap (p1 + 1) + 1) + r0.fst)))
  (cond (decide (IntKind.i64.wrap (IntKind.i64.wrap (IntKind.i64.wrap (p1 + 1) + 1) + r0.fst) < (↑r0.snd.fst.size : Int)))
  (cond (bt r0.snd.fst (IntKind.i64.wrap (IntKind.i64.wrap (IntKind.i64.wrap (p1 + 1) + 1) + r0.fst)) != 93)
  (some ((0, false, [], [], false, r0.snd.fst, r0.snd.snd.fst, r0.snd.snd.snd)))
  ((S101 (bt p0 (IntKind.i64.wrap (p1 + 1)) == 45) (r0.snd.fst.extract (IntKind.i64.wrap (IntKind.i64.wrap (p1 + 1) + 1)).toNat (IntKind.i64.wrap (IntKind.i64.wrap (IntKind.i64.wrap (p1 + 1) + 1) + r0.fst)).toNat) (ByteArray.mk #[49])).bind fun r4 =>
  some ((IntKind.i64.wrap (IntKind.i64.wrap (IntKind.i64.wrap (IntKind.i64.wrap (IntKind.i64.wrap (p1 + 1) + 1) + r0.fst) + 1) - r0.snd.snd.fst), r4.fst, r4.snd.fst, r4.snd.snd.fst, r4.snd.snd.snd, r0.snd.fst, r0.snd.snd.fst, r0.snd.snd.snd))))
  (none))
  (none))))
  (none))
  (none))
  (none))
  ((S70d p0 p1 p2 (IntKind.i64.wrap (p1 + 1))).bind fun r5 =>
  cond (decide (0 ≤ IntKind.i64.wrap (p1 + 1)))
  (cond (decide (IntKind.i64.wrap (p1 + 1) ≤ IntKind.i64.wrap (IntKind.i64.wrap (p1 + 1) + r5.fst)))
  (cond (decide (IntKind.i64.wrap (IntKind.i64.wrap (p1 + 1) + r5.fst) ≤ (↑r5.snd.fst.size : Int)))
  (cond (decide (IntKind.i64.wrap (IntKind.i64.wrap (p1 + 1) + r5.fst) < (↑r5.snd.fst.size : Int)))
  (cond (decide (0 ≤ IntKind.i64.wrap (IntKind.i64.wrap (p1 + 1) + r5.fst)))
  (cond (decide (IntKind.i64.wrap (IntKind.i64.wrap (p1 + 1) + r5.fst) < (↑r5.snd.fst.size : Int)))
  (cond (bt r5.snd.fst (IntKind.i64.wrap (IntKind.i64.wrap (p1 + 1) + r5.fst)) == 47)
  ((S70d r5.snd.fst r5.snd.snd.fst r5.snd.snd.snd (IntKind.i64.wrap (IntKind.i64.wrap (IntKind.i64.wrap (p1 + 1) + r5.fst) + 1))).bind fun r6 =>
  cond (decide (0 ≤ IntKind.i64.wrap (IntKind.i64.wrap (IntKind.i64.wrap (p1 + 1) + r5.fst) + 1)))
  (cond (decide (IntKind.i64.wrap (IntKind.i64.wrap (IntKind.i64.wrap (p1 + 1) + r5.fst) + 1) ≤ IntKind.i64.wrap (IntKind.i64.wrap (IntKind.i64.wrap (IntKind.i64.wrap (p1 + 1) + r5.fst) + 1) + r6.fst)))
  (cond (decide (IntKind.i64.wrap (IntKind.i64.wrap (IntKind.i64.wrap (IntKind.i64.wrap (p1 + 1) + r5.fst) + 1) + r6.fst) ≤ (↑r6.snd.fst.size : Int)))
  (cond (decide (IntKind.i64.wrap (IntKind.i64.wrap (IntKind.i64.wrap (p1 + 1) + r5.fst) + IntKind.i64.wrap (1 + r6.fst)) ≥ (↑r6.snd.fst.size : Int)))
  (some ((0, false, [], [], false, r6.snd.fst, r6.snd.snd.fst, r6.snd.snd.snd)))
  (cond (decide (0 ≤ IntKind.i64.wrap (IntKind.i64.wrap (IntKind.i64.wrap (p1 + 1) + r5.fst) + IntKind.i64.wrap (1 + r6.fst))))
  (cond (decide (IntKind.i64.wrap (IntKind.i64.wrap (IntKind.i64.wrap (p1 + 1) + r5.fst) + IntKind.i64.wrap (1 + r6.fst)) < (↑r6.snd.fst.size : Int)))
  (cond (bt r6.snd.fst (IntKind.i64.wrap (IntKind.i64.wrap (IntKind.i64.wrap (p1 + 1) + r5.fst) + IntKind.i64.wrap (1 + r6.fst))) != 93)
  (some ((0, false, [], [], false, r6.snd.fst, r6.snd.snd.fst, r6.snd.snd.snd)))
  ((S101 (bt p0 (IntKind.i64.wrap (p1 + 1)) == 45) (r5.snd.fst.extract (IntKind.i64.wrap (p1 + 1)).toNat (IntKind.i64.wrap (IntKind.i64.wrap (p1 + 1) + r5.fst)).toNat) (r6.snd.fst.extract (IntKind.i64.wrap (IntKind.i64.wrap (IntKind.i64.wrap (p1 + 1) + r5.fst) + 1)).toNat (IntKind.i64.wrap (IntKind.i64.wrap (IntKind.i64.wrap (IntKind.i64.wrap (p1 + 1) + r5.fst) + 1) + r6.fst)).toNat)).bind fun r7 =>
  some ((IntKind.i64.wrap (IntKind.i64.wrap (IntKind.i64.wrap (IntKind.i64.wrap (IntKind.i64.wrap (p1 + 1) + r5.fst) + IntKind.i64.wrap (1 + r6.fst)) + 1) - r6.snd.snd.fst), r7.fst, r7.snd.fst, r7.snd.snd.fst, r7.snd.snd.snd, r6.snd.fst, r6.snd.snd.fst, r6.snd.snd.snd))))
  (none))
  (none)))
  (none))
  (none))
  (none))
  (cond (decide (IntKind.i64.wrap (IntKind.i64.wrap (p1 + 1) + r5.fst) ≥ (↑r5.snd.fst.size : Int)))
  (some ((0, false, [], [], false, r5.snd.fst, r5.snd.snd.fst, r5.snd.snd.snd)))
  (cond (decide (0 ≤ IntKind.i64.wrap (IntKind.i64.wrap (p1 + 1) + r5.fst)))
  (cond (decide (IntKind.i64.wrap (IntKind.i64.wrap (p1 + 1) + r5.fst) < (↑r5.snd.fst.size : Int)))
  (cond (bt r5.snd.fst (IntKind.i64.wrap (IntKind.i64.wrap (p1 + 1) + r5.fst)) != 93)
  (some ((0, false, [], [], false, r5.snd.fst, r5.snd.snd.fst, r5.snd.snd.snd)))
  ((S101 (bt p0 (IntKind.i64.wrap (p1 + 1)) == 45) (r5.snd.fst.extract (IntKind.i64.wrap (p1 + 1)).toNat (IntKind.i64.wrap (IntKind.i64.wrap (p1 + 1) + r5.fst)).toNat) (ByteArray.mk #[49])).bind fun r8 =>
  some ((IntKind.i64.wrap (IntKind.i64.wrap (IntKind.i64.wrap (IntKind.i64.wrap (p1 + 1) + r5.fst) + 1) - r5.snd.snd.fst), r8.fst, r8.snd.fst, r8.snd.snd.fst, r8.snd.snd.snd, r5.snd.fst, r5.snd.snd.fst, r5.snd.snd.snd))))
  (none))
  (none))))
  (none))
  (none))
  (cond (decide (IntKind.i64.wrap (IntKind.i64.wrap (p1 + 1) + r5.fst) ≥ (↑r5.snd.fst.size : Int)))
  (some ((0, false, [], [], false, r5.snd.fst, r5.snd.snd.fst, r5.snd.snd.snd)))
  (cond (decide (0 ≤ IntKind.i64.wrap (IntKind.i64.wrap (p1 + 1) + r5.fst)))
  (cond (decide (IntKind.i64.wrap (IntKind.i64.wrap (p1 + 1) + r5.fst) < (↑r5.snd.fst.size : Int)))
  (cond (bt r5.snd.fst (IntKind.i64.wrap (IntKind.i64.wrap (p1 + 1) + r5.fst)) != 93)
  (some ((0, false, [], [], false, r5.snd.fst, r5.snd.snd.fst, r5.snd.snd.snd)))
  ((S101 (bt p0 (IntKind.i64.wrap (p1 + 1)) == 45) (r5.snd.fst.extract (IntKind.i64.wrap (p1 + 1)).toNat (IntKind.i64.wrap (IntKind.i64.wrap (p1 + 1) + r5.fst)).toNat) (ByteArray.mk #[49])).bind fun r9 =>
  some ((IntKind.i64.wrap (IntKind.i64.wrap (IntKind.i64.wrap (IntKind.i64.wrap (p1 + 1) + r5.fst) + 1) - r5.snd.snd.fst), r9.fst, r9.snd.fst, r9.snd.snd.fst, r9.snd.snd.snd, r5.snd.fst, r5.snd.snd.fst, r5.snd.snd.snd))))
  (none))
  (none))))
  (none))
  (none))
  (none)))
  (none))
  (none))
  ((S70d p0 p1 p2 (IntKind.i64.wrap (p1 + 1))).bind fun r10 =>
  cond (decide (0 ≤ IntKind.i64.wrap (p1 + 1)))
  (cond (decide (IntKind.i64.wrap (p1 + 1) ≤ IntKind.i64.wrap (IntKind.i64.wrap (p1 + 1) + r10.fst)))
  (cond (decide (IntKind.i64.wrap (IntKind.i64.wrap (p1 + 1) + r10.fst) ≤ (↑r10.snd.fst.size : Int)))
  (cond (decide (IntKind.i64.wrap (IntKind.i64.wrap (p1 + 1) + r10.fst) < (↑r10.snd.fst.size : Int)))
  (cond (decide (0 ≤ IntKind.i64.wrap (IntKind.i64.wrap (p1 + 1) + r10.fst)))
  (cond (decide (IntKind.i64.wrap (IntKind.i64.wrap (p1 + 1) + r10.fst) < (↑r10.snd.fst.size : Int)))
  (cond (bt r10.snd.fst (IntKind.i64.wrap (IntKind.i64.wrap (p1 + 1) + r10.fst)) == 47)
  ((S70d r10.snd.fst r10.snd.snd.fst r10.snd.snd.snd (IntKind.i64.wrap (IntKind.i64.wrap (IntKind.i64.wrap (p1 + 1) + r10.fst) + 1))).bind fun r11 =>
  cond (decide (0 ≤ IntKind.i64.wrap (IntKind.i64.wrap (IntKind.i64.wrap (p1 + 1) + r10.fst) + 1)))
  (cond (decide (IntKind.i64.wrap (IntKind.i64.wrap (IntKind.i64.wrap (p1 + 1) + r10.fst) + 1) ≤ IntKind.i64.wrap (IntKind.i64.wrap (IntKind.i64.wrap (IntKind.i64.wrap (p1 + 1) + r10.fst) + 1) + r11.fst)))
  (cond (decide (IntKind.i64.wrap (IntKind.i64.wrap (IntKind.i64.wrap (IntKind.i64.wrap (p1 + 1) + r10.fst) + 1) + r11.fst) ≤ (↑r11.snd.fst.size : Int)))
  (cond (decide (IntKind.i64.wrap (IntKind.i64.wrap (IntKind.i64.wrap (p1 + 1) + r10.fst) + IntKind.i64.wrap (1 + r11.fst)) ≥ (↑r11.snd.fst.size : Int)))
  (some ((0, false, [], [], false, r11.snd.fst, r11.snd.snd.fst, r11.snd.snd.snd)))
  (cond (decide (0 ≤ IntKind.i64.wrap (IntKind.i64.wrap (IntKind.i64.wrap (p1 + 1) + r10.fst) + IntKind.i64.wrap (1 + r11.fst))))
  (cond (decide (IntKind.i64.wrap (IntKind.i64.wrap (IntKind.i64.wrap (p1 + 1) + r10.fst) + IntKind.i64.wrap (1 + r11.fst)) < (↑r11.snd.fst.size : Int)))
  (cond (bt r11.snd.fst (IntKind.i64.wrap (IntKind.i64.wrap (IntKind.i64.wrap (p1 + 1) + r10.fst) + IntKind.i64.wrap (1 + r11.fst))) != 93)
  (some ((0, false, [], [], false, r11.snd.fst, r11.snd.snd.fst, r11.snd.snd.snd)))
  ((S101 false (r10.snd.fst.extract (IntKind.i64.wrap (p1 + 1)).toNat (IntKind.i64.wrap (IntKind.i64.wrap (p1 + 1) + r10.fst)).toNat) (r11.snd.fst.extract (IntKind.i64.wrap (IntKind.i64.wrap (IntKind.i64.wrap (p1 + 1) + r10.fst) + 1)).toNat (IntKind.i64.wrap (IntKind.i64.wrap (IntKind.i64.wrap (IntKind.i64.wrap (p1 + 1) + r10.fst) + 1) + r11.fst)).toNat)).bind fun r12 =>
  some ((IntKind.i64.wrap (IntKind.i64.wrap (IntKind.i64.wrap (IntKind.i64.wrap (IntKind.i64.wrap (p1 + 1) + r10.fst) + IntKind.i64.wrap (1 + r11.fst)) + 1) - r11.snd.snd.fst), r12.fst, r12.snd.fst, r12.snd.snd.fst, r12.snd.snd.snd, r11.snd.fst, r11.snd.snd.fst, r11.snd.snd.snd))))
  (none))
  (none)))
  (none))
  (none))
  (none))
  (cond (decide (IntKind.i64.wrap (IntKind.i64.wrap (p1 + 1) + r10.fst) ≥ (↑r10.snd.fst.size : Int)))
  (some ((0, false, [], [], false, r10.snd.fst, r10.snd.snd.fst, r10.snd.snd.snd)))
  (cond (decide (0 ≤ IntKind.i64.wrap (IntKind.i64.wrap (p1 + 1) + r10.fst)))
  (cond (decide (IntKind.i64.wrap (IntKind.i64.wrap (p1 + 1) + r10.fst) < (↑r10.snd.fst.size : Int)))
  (cond (bt r10.snd.fst (IntKind.i64.wrap (IntKind.i64.wrap (p1 + 1) + r10.fst)) != 93)
  (some ((0, false, [], [], false, r10.snd.fst, r10.snd.snd.fst, r10.snd.snd.snd)))
  ((S101 false (r10.snd.fst.extract (IntKind.i64.wrap (p1 + 1)).toNat (IntKind.i64.wrap (IntKind.i64.wrap (p1 + 1) + r10.fst)).toNat) (ByteArray.mk #[49])).bind fun r13 =>
  some ((IntKind.i64.wrap (IntKind.i64.wrap (IntKind.i64.wrap (IntKind.i64.wrap (p1 + 1) + r10.fst) + 1) - r10.snd.snd.fst), r13.fst, r13.snd.fst, r13.snd.snd.fst, r13.snd.snd.snd, r10.snd.fst, r10.snd.snd.fst, r10.snd.snd.snd))))
  (none))
  (none))))
  (none))
  (none))
  (cond (decide (IntKind.i64.wrap (IntKind.i64.wrap (p1 + 1) + r10.fst) ≥ (↑r10.snd.fst.size : Int)))
  (some ((0, false, [], [], false, r10.snd.fst, r10.snd.snd.fst, r10.snd.snd.snd)))
  (cond (decide (0 ≤ IntKind.i64.wrap (IntKind.i64.wrap (p1 + 1) + r10.fst)))
  (cond (decide (IntKind.i64.wrap (IntKind.i64.wrap (p1 + 1) + r10.fst) < (↑r10.snd.fst.size : Int)))
  (cond (bt r10.snd.fst (IntKind.i64.wrap (IntKind.i64.wrap (p1 + 1) + r10.fst)) != 93)
  (some ((0, false, [], [], false, r10.snd.fst, r10.snd.snd.fst, r10.snd.snd.snd)))
  ((S101 false (r10.snd.fst.extract (IntKind.i64.wrap (p1 + 1)).toNat (IntKind.i64.wrap (IntKind.i64.wrap (p1 + 1) + r10.fst)).toNat) (ByteArray.mk #[49])).bind fun r14 =>
  some ((IntKind.i64.wrap (IntKind.i64.wrap (IntKind.i64.wrap (IntKind.i64.wrap (p1 + 1) + r10.fst) + 1) - r10.snd.snd.fst), r14.fst, r14.snd.fst, r14.snd.snd.fst, r14.snd.snd.snd, r10.snd.fst, r10.snd.snd.fst, r10.snd.snd.snd))))
  (none))
  (none))))
  (none))
  (none))
  (none))
theorem hk83 : ∀ v h' r, k83 v h' = some r → v = out83 r ∧ h' = outh83 r := by
  intro v h' r h
  unfold k83 at h
  split at h
  · injection h with h; subst h; exact ⟨rfl, rfl⟩
  · cases h
abbrev q83 : Prim U R83 := prims X [⟨70, fun _ => true, [.hand, .lend, .lend], F70d S70d⟩, ⟨101, fun _ => true, [.lend, .lend, .lend], F101 S101⟩]
theorem s83 (c : Nat → S U → Option R83) (p0 : ByteArray) (p1 : Int) (p2 : List TTk) : seg TP X q83 [] (fun q st => c q (keepD D83 (h83 p0 p1 p2).length q st)) body83 (finH TP Try.f83.results.toList (h83 p0 p1 p2).length false k83) (start [.ptr 0 0] Try.f83.ntmps (h83 p0 p1 p2)) = b83 p0 p1 p2  := by kernel_rfl
def f83 (_ : Nat) (p0 : ByteArray) (p1 : Int) (p2 : List TTk) : Option R83 := b83 p0 p1 p2
theorem pure83 (p0 : ByteArray) (p1 : Int) (p2 : List TTk) (pok : PrmOK TP X q83) (k : Nat) (r : R83) (h : f83 k p0 p1 p2 = some r) : PureH TP X 83 [.ptr 0 0] (h83 p0 p1 p2) (out83 r) (outh83 r) :=
  pure_gen good 0 (fn := Try.f83) (body := body83) (prim := q83) (D := D83) (cuts := []) (h := h83 p0 p1 p2) (own := false) (by kernel_rfl) (by kernel_rfl) (by decide +kernel) pok hk83 (by
    rw [s83]
    exact h)
def F83 {R : Type} (spec : (ByteArray) → Int → (List TTk) → Option R83) : Fn U R := fun args h k => match args, h with | [.ptr 0 0], [.box [.str p0, .int .i64 p1, .row 1 90], .row 90 p2] => (spec p0 p1 p2).bind fun r => k (out83 r) (outh83 r) | _, _ => none
theorem ok83 {R : Type} (spec : (ByteArray) → Int → (List TTk) → Option R83) (hp : ∀ (p0 : ByteArray) (p1 : Int) (p2 : List TTk) (r : R83), spec p0 p1 p2 = some r → PureH TP X 83 [.ptr 0 0] (h83 p0 p1 p2) (out83 r) (outh83 r)) : FnOK TP X 83 (F83 spec : Fn U R) := by
  intro args h k r hh
  unfold F83 at hh
  split at hh
  · obtain ⟨x, h1, h2⟩ := Option.bind_eq_some_iff.1 hh
    exact ⟨_, _, h2, hp _ _ _ _ h1⟩
  · cases hh
theorem pok83 : PrmOK TP X q83 := prims_cons good okS70d (prims_cons good okS101 (prims_nil TP X mixed))
noncomputable def S83 (p0 : ByteArray) (p1 : Int) (p2 : List TTk) : Option R83 := evv fun k => f83 k p0 p1 p2
theorem okS83 {R : Type} : FnOK TP X 83 (F83 S83 : Fn U R) := ok83 S83 fun p0 p1 p2 r h => by
  obtain ⟨k, hk⟩ := evv_fuel h
  exact pure83 p0 p1 p2 pok83 k r hk
end
end Go.Abs.Z
namespace Go.Abs.Z
open Go Go.Abs Go.Proofs
noncomputable section
abbrev R84 : Type := Int × Bool × TI × TI × Bool × ByteArray × Int × (List TTk)
noncomputable def body84 : Go.Code := (Try.f84.body).getD Go.Code.skip
def h84 (p0 : ByteArray) (p1 : Int) (p2 : List TTk) : List (AO U) := [.box [.str p0, .int .i64 p1, .row 1 90], .row 90 p2]
def k84 : AV U → List (AO U) → Option R84 := fun v h => match v, h with | AV.tup [AV.int IntKind.i64 x0, AV.agg [AV.bool x1, AV.imm 105 x2, AV.imm 105 x3], AV.bool x4], [AO.box [AV.str x5, AV.int IntKind.i64 x6, AV.row 1 90], AO.row 90 x7] => some (x0, x1, x2, x3, x4, x5, x6, x7) | _, _ => none
def out84 : R84 → AV U := fun (x0, x1, x2, x3, x4, x5, x6, x7) => AV.tup [AV.int IntKind.i64 x0, AV.agg [AV.bool x1, AV.imm 105 x2, AV.imm 105 x3], AV.bool x4]
def outh84 : R84 → List (AO U) := fun (x0, x1, x2, x3, x4, x5, x6, x7) => [AO.box [AV.str x5, AV.int IntKind.i64 x6, AV.row 1 90], AO.row 90 x7]
def D84 : Nat → Dir := dirs []
def b84 (p0 : ByteArray) (p1 : Int) (p2 : List TTk)   : Option R84 :=
  (S70d p0 p1 p2 p1).bind fun r0 =>
  cond (decide (0 ≤ r0.snd.snd.fst))
  (cond (decide (r0.snd.snd.fst ≤ IntKind.i64.wrap (r0.snd.snd.fst + r0.fst)))
  (cond (decide (IntKind.i64.wrap (r0.snd.snd.fst + r0.fst) ≤ (↑r0.snd.fst.size : Int)))
  (cond (decide (IntKind.i64.wrap (r0.snd.snd.fst + r0.fst) < (↑r0.snd.fst.size : Int)))
  (cond (decide (0 ≤ IntKind.i64.wrap (r0.snd.snd.fst + r0.fst)))
  (cond (decide (IntKind.i64.wrap (r0.snd.snd.fst + r0.fst) < (↑r0.snd.fst.size : Int)))
  (cond (bt r0.snd.fst (IntKind.i64.wrap (r0.snd.snd.fst + r0.fst)) == 46)
  ((S70d r0.snd.fst r0.snd.snd.fst r0.snd.snd.snd (IntKind.i64.wrap (IntKind.i64.wrap (r0.snd.snd.fst + r0.fst) + 1))).bind fun r1 =>
  cond (r1.fst == 0)
  (some ((0, false, [], [], false, r1.snd.fst, r1.snd.snd.fst, r1.snd.snd.snd)))
  (cond (decide (0 ≤ IntKind.i64.wrap (IntKind.i64.wrap (r1.snd.snd.fst + r0.fst) + 1)))
  (cond (decide (IntKind.i64.wrap (IntKind.i64.wrap (r1.snd.snd.fst + r0.fst) + 1) ≤ IntKind.i64.wrap (IntKind.i64.wrap (IntKind.i64.wrap (r1.snd.snd.fst + r0.fst) + 1) + r1.fst)))
  (cond (decide (IntKind.i64.wrap (IntKind.i64.wrap (IntKind.i64.wrap (r1.snd.snd.fst + r0.fst) + 1) + r1.fst) ≤ (↑r1.snd.fst.size : Int)))
  (cond (decide (IntKind.i64.wrap (r0.fst + IntKind.i64.wrap (1 + r1.fst)) > 1000))
  (some ((0, false, [], [], false, r1.snd.fst, r1.snd.snd.fst, r1.snd.snd.snd)))
  (cond (decide ((r0.snd.fst.extract r0.snd.snd.fst.toNat (IntKind.i64.wrap (r0.snd.snd.fst + r0.fst)).toNat).size + (r1.snd.fst.extract (IntKind.i64.wrap (IntKind.i64.wrap (r1.snd.snd.fst + r0.fst) + 1)).toNat (IntKind.i64.wrap (IntKind.i64.wrap (IntKind.i64.wrap (r1.snd.snd.fst + r0.fst) + 1) + r1.fst)).toNat).size ≤ 4611686018427387904))
  ((S102 (ByteArray.mk #[48]) (↑(r1.snd.fst.extract (IntKind.i64.wrap (IntKind.i64.wrap (r1.snd.snd.fst + r0.fst) + 1)).toNat (IntKind.i64.wrap (IntKind.i64.wrap (IntKind.i64.wrap (r1.snd.snd.fst + r0.fst) + 1) + r1.fst)).toNat).size : Int)).bind fun r2 =>
  cond (decide ((ByteArray.mk #[49]).size + ByteArray.size r2 ≤ 4611686018427387904))
  ((S101 false (r0.snd.fst.extract r0.snd.snd.fst.toNat (IntKind.i64.wrap (r0.snd.snd.fst + r0.fst)).toNat ++ r1.snd.fst.extract (IntKind.i64.wrap (IntKind.i64.wrap (r1.snd.snd.fst + r0.fst) + 1)).toNat (IntKind.i64.wrap (IntKind.i64.wrap (IntKind.i64.wrap (r1.snd.snd.fst + r0.fst) + 1) + r1.fst)).toNat) (ByteArray.mk #[49] ++ r2)).bind fun r3 =>
  some ((IntKind.i64.wrap (r0.fst + IntKind.i64.wrap (1 + r1.fst)), r3.fst, r3.snd.fst, r3.snd.snd.fst, r3.snd.snd.snd, r1.snd.fst, r1.snd.snd.fst, r1.snd.snd.snd)))
  (none))
  (none)))
  (none))
  (none))
  (none)))
  (cond (decide (r0.fst > 1000))
  (some ((0, false, [], [], false, r0.snd.fst, r0.snd.snd.fst, r0.snd.snd.snd)))
  (cond (decide ((r0.snd.fst.extract r0.snd.snd.fst.toNat (IntKind.i64.wrap (r0.snd.snd.fst + r0.fst)).toNat).size + (ByteArray.mk #[]).size ≤ 4611686018427387904))
  ((S101 false (r0.snd.fst.extract r0.snd.snd.fst.toNat (IntKind.i64.wrap (r0.snd.snd.fst + r0.fst)).toNat ++ ByteArray.mk #[]) (ByteArray.mk #[49] ++ ByteArray.mk (Go.Lib.repeatL (ByteArray.mk #[48]).data.toList (↑(ByteArray.mk #[]).size : Int).toNat).toArray)).bind fun r4 =>
  some ((r0.fst, r4.fst, r4.snd.fst, r4.snd.snd.fst, r4.snd.snd.snd, r0.snd.fst, r0.snd.snd.fst, r0.snd.snd.snd)))
  (none))))
  (none))
  (none))
  (cond (decide (r0.fst > 1000))
  (some ((0, false, [], [], false, r0.snd.fst, r0.snd.snd.fst, r0.snd.snd.snd)))
  (cond (decide ((r0.snd.fst.extract r0.snd.snd.fst.toNat (IntKind.i64.wrap (r0.snd.snd.fst + r0.fst)).toNat).size + (ByteArray.mk #[]).size ≤ 4611686018427387904))
  ((S101 false (r0.snd.fst.extract r0.snd.snd.fst.toNat (IntKind.i64.wrap (r0.snd.snd.fst + r0.fst)).toNat ++ ByteArray.mk #[]) (ByteArray.mk #[49] ++ ByteArray.mk (Go.Lib.repeatL (ByteArray.mk #[48]).data.toList (↑(ByteArray.mk #[]).size : Int).toNat).toArray)).bind fun r5 =>
  some ((r0.fst, r5.fst, r5.snd.fst, r5.snd.snd.fst, r5.snd.snd.snd, r0.snd.fst, r0.snd.snd.fst, r0.snd.snd.snd)))
  (none))))
  (none))
  (none))
  (none)
theorem hk84 : ∀ v h' r, k84 v h' = some r → v = out84 r ∧ h' = outh84 r := by
  intro v h' r h
  unfold k84 at h
  split at h
  · injection h with h; subst h; exact ⟨rfl, rfl⟩
  · cases h
abbrev q84 : Prim U R84 := prims X [⟨70, fun _ => true, [.hand, .lend, .lend], F70d S70d⟩, ⟨102, fun _ => true, [.lend, .lend], F102 S102⟩, ⟨101, fun _ => true, [.lend, .lend, .lend], F101 S101⟩]
theorem s84 (c : Nat → S U → Option R84) (p0 : ByteArray) (p1 : Int) (p2 : List TTk) : seg TP X q84 [] (fun q st => c q (keepD D84 (h84 p0 p1 p2).length q st)) body84 (finH TP Try.f84.results.toList (h84 p0 p1 p2).length false k84) (start [.ptr 0 0] Try.f84.ntmps (h84 p0 p1 p2)) = b84 p0 p1 p2  := by kernel_rfl
def f84 (_ : Nat) (p0 : ByteArray) (p1 : Int) (p2 : List TTk) : Option R84 := b84 p0 p1 p2
theorem pure84 (p0 : ByteArray) (p1 : Int) (p2 : List TTk) (pok : PrmOK TP X q84) (k : Nat) (r : R84) (h : f84 k p0 p1 p2 = some r) : PureH TP X 84 [.ptr 0 0] (h84 p0 p1 p2) (out84 r) (outh84 r) :=
  pure_gen good 0 (fn := Try.f84) (body := body84) (prim := q84) (D := D84) (cuts := []) (h := h84 p0 p1 p2) (own := false) (by kernel_rfl) (by kernel_rfl) (by decide +kernel) pok hk84 (by
    rw [s84]
    exact h)
def F84 {R : Type} (spec : (ByteArray) → Int → (List TTk) → Option R84) : Fn U R := fun args h k => match args, h with | [.ptr 0 0], [.box [.str p0, .int .i64 p1, .row 1 90], .row 90 p2] => (spec p0 p1 p2).bind fun r => k (out84 r) (outh84 r) | _, _ => none
theorem ok84 {R : Type} (spec : (ByteArray) → Int → (List TTk) → Option R84) (hp : ∀ (p0 : ByteArray) (p1 : Int) (p2 : List TTk) (r : R84), spec p0 p1 p2 = some r → PureH TP X 84 [.ptr 0 0] (h84 p0 p1 p2) (out84 r) (outh84 r)) : FnOK TP X 84 (F84 spec : Fn U R) := by
  intro args h k r hh
  unfold F84 at hh
  split at hh
  · obtain ⟨x, h1, h2⟩ := Option.bind_eq_some_iff.1 hh
    exact ⟨_, _, h2, hp _ _ _ _ h1⟩
  · cases hh
theorem pok84 : PrmOK TP X q84 := prims_cons good okS70d (prims_cons good okS102 (prims_cons good okS101 (prims_nil TP X mixed)))
noncomputable def S84 (p0 : ByteArray) (p1 : Int) (p2 : List TTk) : Option R84 := evv fun k => f84 k p0 p1 p2
theorem okS84 {R : Type} : FnOK TP X 84 (F84 S84 : Fn U R) := ok84 S84 fun p0 p1 p2 r h => by
  obtain ⟨k, hk⟩ := evv_fuel h
  exact pure84 p0 p1 p2 pok84 k r hk
end
end Go.Abs.Z
namespace Go.Abs.Z
open Go Go.Abs Go.Proofs
noncomputable section
abbrev R74 : Type := Int × ByteArray × Int × (List TTk)
noncomputable def body74 : Go.Code := (Try.f74.body).getD Go.Code.skip
def h74 (p0 : ByteArray) (p1 : Int) (p2 : List TTk) (p3 : Int) : List (AO U) := [.box [.str p0, .int .i64 p1, .row 1 90], .row 90 p2]
def k74 : AV U → List (AO U) → Option R74 := fun v h => match v, h with | AV.int IntKind.i64 x0, [AO.box [AV.str x1, AV.int IntKind.i64 x2, AV.row 2 90], AO.dead, AO.row 90 x3] => some (x0, x1, x2, x3) | _, _ => none
def out74 : R74 → AV U := fun (x0, x1, x2, x3) => AV.int IntKind.i64 x0
def outh74 : R74 → List (AO U) := fun (x0, x1, x2, x3) => [AO.box [AV.str x1, AV.int IntKind.i64 x2, AV.row 2 90], AO.dead, AO.row 90 x3]
def D74 : Nat → Dir := dirs [(7, ⟨[0, 5, 6, 7], [], [], [(0, some 2)]⟩)]
def b74 (p0 : ByteArray) (p1 : Int) (p2 : List TTk) (p3 : Int) (c7 : (Int) → (Bool) → (ByteArray) → Int → (Bool) → TI → TI → (List TTk) → Option R74)  : Option R74 :=
  cond (p3 == 91)
  ((S83 p0 p1 p2).bind fun r0 =>
  c7 (r0.fst) (r0.snd.snd.snd.snd.fst) (r0.snd.snd.snd.snd.snd.fst) (r0.snd.snd.snd.snd.snd.snd.fst) (r0.snd.fst) (r0.snd.snd.fst) (r0.snd.snd.snd.fst) (List.take r0.snd.snd.snd.snd.snd.snd.snd.length r0.snd.snd.snd.snd.snd.snd.snd))
  ((S84 p0 p1 p2).bind fun r1 =>
  c7 (r1.fst) (r1.snd.snd.snd.snd.fst) (r1.snd.snd.snd.snd.snd.fst) (r1.snd.snd.snd.snd.snd.snd.fst) (r1.snd.fst) (r1.snd.snd.fst) (r1.snd.snd.snd.fst) (List.take r1.snd.snd.snd.snd.snd.snd.snd.length r1.snd.snd.snd.snd.snd.snd.snd))
def m74_7 (p0 : ByteArray) (p1 : Int) (p2 : List TTk) (p3 v0 : Int) (v1 : Bool) (v2 : ByteArray) (v3 : Int) (v4 : Bool) (v5 v6 : TI) (v7 : List TTk) : S U := S.mk [AV.ptr 0 0, AV.undef, AV.undef, AV.undef, AV.undef, AV.int IntKind.i64 v0, AV.ptr 2 0, AV.bool v1, AV.undef, AV.undef, AV.undef, AV.undef, AV.undef, AV.undef, AV.undef, AV.undef, AV.undef, AV.undef, AV.undef, AV.undef, AV.undef, AV.undef, AV.undef, AV.undef, AV.undef, AV.undef, AV.undef, AV.undef, AV.undef, AV.undef, AV.undef, AV.undef, AV.undef, AV.undef, AV.undef, AV.undef, AV.undef, AV.undef, AV.undef, AV.undef, AV.undef, AV.undef, AV.undef, AV.undef, AV.undef, AV.undef, AV.undef, AV.undef, AV.undef, AV.undef, AV.undef, AV.undef, AV.undef, AV.undef, AV.undef, AV.undef, AV.undef, AV.undef, AV.undef, AV.undef, AV.undef, AV.undef, AV.undef, AV.undef, AV.undef, AV.undef, AV.undef, AV.undef, AV.undef, AV.undef, AV.undef, AV.undef] [AO.box [AV.str v2, AV.int IntKind.i64 v3, AV.row 3 90], AO.dead, AO.box [AV.bool v4, AV.imm 105 v5, AV.imm 105 v6], AO.row 90 v7]
def b74_7 (p0 : ByteArray) (p1 : Int) (p2 : List TTk) (p3 : Int) (c7 : (Int) → (Bool) → (ByteArray) → Int → (Bool) → TI → TI → (List TTk) → Option R74) (v0 : Int) (v1 : Bool) (v2 : ByteArray) (v3 : Int) (v4 : Bool) (v5 v6 : TI) (v7 : List TTk) : Option R74 :=
  cond (!v1)
  (some ((81, v2, v3, v7)))
  (cond (decide (IntKind.i64.wrap (v3 + v0) < (↑v2.size : Int)))
  (cond (decide (0 ≤ IntKind.i64.wrap (v3 + v0)))
  (cond (decide (IntKind.i64.wrap (v3 + v0) < (↑v2.size : Int)))
  ((S69 (bt v2 (IntKind.i64.wrap (v3 + v0)))).bind fun r0 =>
  cond (r0)
  (some ((81, v2, v3, v7)))
  (cond (decide (0 ≤ IntKind.i64.wrap (v3 + v0)))
  (cond (decide (IntKind.i64.wrap (v3 + v0) < (↑v2.size : Int)))
  (cond (bt v2 (IntKind.i64.wrap (v3 + v0)) == 46)
  (some ((81, v2, v3, v7)))
  ((S51 v2 v3 v7 2 v0).bind fun r1 =>
  cond (decide (0 ≤ IntKind.i64.wrap ((↑r1.snd.snd.length : Int) - 1)))
  (cond (decide (IntKind.i64.wrap ((↑r1.snd.snd.length : Int) - 1) < (↑r1.snd.snd.length : Int)))
  (cond (decide ((IntKind.i64.wrap ((↑r1.snd.snd.length : Int) - 1)).toNat < r1.snd.snd.length))
  (some ((0, r1.fst, r1.snd.fst, r1.snd.snd.set (IntKind.i64.wrap ((↑r1.snd.snd.length : Int) - 1)).toNat ((r1.snd.snd.getD (IntKind.i64.wrap ((↑r1.snd.snd.length : Int) - 1)).toNat (X.dflt 90)).fst, (r1.snd.snd.getD (IntKind.i64.wrap ((↑r1.snd.snd.length : Int) - 1)).toNat (X.dflt 90)).snd.fst, (r1.snd.snd.getD (IntKind.i64.wrap ((↑r1.snd.snd.length : Int) - 1)).toNat (X.dflt 90)).snd.snd.fst, v4, v5, v6))))
  (none))
  (none))
  (none)))
  (none))
  (none)))
  (none))
  (none))
  ((S51 v2 v3 v7 2 v0).bind fun r2 =>
  cond (decide (0 ≤ IntKind.i64.wrap ((↑r2.snd.snd.length : Int) - 1)))
  (cond (decide (IntKind.i64.wrap ((↑r2.snd.snd.length : Int) - 1) < (↑r2.snd.snd.length : Int)))
  (cond (decide ((IntKind.i64.wrap ((↑r2.snd.snd.length : Int) - 1)).toNat < r2.snd.snd.length))
  (some ((0, r2.fst, r2.snd.fst, r2.snd.snd.set (IntKind.i64.wrap ((↑r2.snd.snd.length : Int) - 1)).toNat ((r2.snd.snd.getD (IntKind.i64.wrap ((↑r2.snd.snd.length : Int) - 1)).toNat (X.dflt 90)).fst, (r2.snd.snd.getD (IntKind.i64.wrap ((↑r2.snd.snd.length : Int) - 1)).toNat (X.dflt 90)).snd.fst, (r2.snd.snd.getD (IntKind.i64.wrap ((↑r2.snd.snd.length : Int) - 1)).toNat (X.dflt 90)).snd.snd.fst, v4, v5, v6))))
  (none))
  (none))
  (none)))
theorem hk74 : ∀ v h' r, k74 v h' = some r → v = out74 r ∧ h' = outh74 r := by
  intro v h' r h
  unfold k74 at h
  split at h
  · injection h with h; subst h; exact ⟨rfl, rfl⟩
  · cases h
abbrev q74 : Prim U R74 := prims X [⟨83, fun _ => true, [.hand], F83 S83⟩, ⟨84, fun _ => true, [.hand], F84 S84⟩, ⟨69, fun _ => true, [.lend], F69 S69⟩, ⟨51, fun _ => true, [.hand, .lend, .lend], F51 S51⟩]
theorem s74 (c : Nat → S U → Option R74) (p0 : ByteArray) (p1 : Int) (p2 : List TTk) (p3 : Int) : seg TP X q74 [7] (fun q st => c q (keepD D74 (h74 p0 p1 p2 p3).length q st)) body74 (finH TP Try.f74.results.toList (h74 p0 p1 p2 p3).length false k74) (start [.ptr 0 0, .int .u8 p3] Try.f74.ntmps (h74 p0 p1 p2 p3)) = b74 p0 p1 p2 p3 (fun v0 v1 v2 v3 v4 v5 v6 v7 => c 7 (m74_7 p0 p1 p2 p3 v0 v1 v2 v3 v4 v5 v6 v7)) := by kernel_rfl
theorem s74_7 (c : Nat → S U → Option R74) (p0 : ByteArray) (p1 : Int) (p2 : List TTk) (p3 v0 : Int) (v1 : Bool) (v2 : ByteArray) (v3 : Int) (v4 : Bool) (v5 v6 : TI) (v7 : List TTk) : res TP X q74 [7] (fun q st => c q (keepD D74 (h74 p0 p1 p2 p3).length q st)) 7 body74 (finH TP Try.f74.results.toList (h74 p0 p1 p2 p3).length false k74) (m74_7 p0 p1 p2 p3 v0 v1 v2 v3 v4 v5 v6 v7) = b74_7 p0 p1 p2 p3 (fun v0 v1 v2 v3 v4 v5 v6 v7 => c 7 (m74_7 p0 p1 p2 p3 v0 v1 v2 v3 v4 v5 v6 v7)) v0 v1 v2 v3 v4 v5 v6 v7 := by kernel_rfl
def f74_7 (p0 : ByteArray) (p1 : Int) (p2 : List TTk) (p3 : Int) : Nat → Int → (Bool) → (ByteArray) → Int → (Bool) → TI → TI → (List TTk) → Option R74
  | 0 => fun _ _ _ _ _ _ _ _ => none
  | k + 1 => b74_7 p0 p1 p2 p3 (f74_7 p0 p1 p2 p3 k)
def f74 (k : Nat) (p0 : ByteArray) (p1 : Int) (p2 : List TTk) (p3 : Int) : Option R74 := b74 p0 p1 p2 p3 (f74_7 p0 p1 p2 p3 k)
theorem e74 (p0 : ByteArray) (p1 : Int) (p2 : List TTk) (p3 : Int) : ∀ k, ((fun v0 v1 v2 v3 v4 v5 v6 v7 => cutG TP X q74 [7] D74 (h74 p0 p1 p2 p3).length body74 (finH TP Try.f74.results.toList (h74 p0 p1 p2 p3).length false k74) k 7 (m74_7 p0 p1 p2 p3 v0 v1 v2 v3 v4 v5 v6 v7)) = f74_7 p0 p1 p2 p3 k)
  | 0 => rfl
  | k + 1 => by
    have ih := e74 p0 p1 p2 p3 k
    · funext v0 v1 v2 v3 v4 v5 v6 v7
      refine (if_pos (by kernel_rfl)).trans ?_
      rw [s74_7]
      simp only [ih]
      rfl
theorem pure74 (p0 : ByteArray) (p1 : Int) (p2 : List TTk) (p3 : Int) (pok : PrmOK TP X q74) (k : Nat) (r : R74) (h : f74 k p0 p1 p2 p3 = some r) : PureH TP X 74 [.ptr 0 0, .int .u8 p3] (h74 p0 p1 p2 p3) (out74 r) (outh74 r) :=
  pure_gen good k (fn := Try.f74) (body := body74) (prim := q74) (D := D74) (cuts := [7]) (h := h74 p0 p1 p2 p3) (own := false) (by kernel_rfl) (by kernel_rfl) (by decide +kernel) pok hk74 (by
    rw [s74]
    have ih := e74 p0 p1 p2 p3 k
    simp only [ih]
    exact h)
def F74 {R : Type} (spec : (ByteArray) → Int → (List TTk) → Int → Option R74) : Fn U R := fun args h k => match args, h with | [.ptr 0 0, .int .u8 p3], [.box [.str p0, .int .i64 p1, .row 1 90], .row 90 p2] => (spec p0 p1 p2 p3).bind fun r => k (out74 r) (outh74 r) | _, _ => none
theorem ok74 {R : Type} (spec : (ByteArray) → Int → (List TTk) → Int → Option R74) (hp : ∀ (p0 : ByteArray) (p1 : Int) (p2 : List TTk) (p3 : Int) (r : R74), spec p0 p1 p2 p3 = some r → PureH TP X 74 [.ptr 0 0, .int .u8 p3] (h74 p0 p1 p2 p3) (out74 r) (outh74 r)) : FnOK TP X 74 (F74 spec : Fn U R) := by
  intro args h k r hh
  unfold F74 at hh
  split at hh
  · obtain ⟨x, h1, h2⟩ := Option.bind_eq_some_iff.1 hh
    exact ⟨_, _, h2, hp _ _ _ _ _ h1⟩
  · cases hh
theorem pok74 : PrmOK TP X q74 := prims_cons good okS83 (prims_cons good okS84 (prims_cons good okS69 (prims_cons good okS51 (prims_nil TP X mixed))))
noncomputable def S74 (p0 : ByteArray) (p1 : Int) (p2 : List TTk) (p3 : Int) : Option R74 := evv fun k => f74 k p0 p1 p2 p3
theorem okS74 {R : Type} : FnOK TP X 74 (F74 S74 : Fn U R) := ok74 S74 fun p0 p1 p2 p3 r h => by
  obtain ⟨k, hk⟩ := evv_fuel h
  exact pure74 p0 p1 p2 p3 pok74 k r hk
end
end Go.Abs.Z
namespace Go.Abs.Z
open Go Go.Abs Go.Proofs
noncomputable section
abbrev R52 : Type := Int × ByteArray × Int × (List TTk)
noncomputable def body52 : Go.Code := (Try.f52.body).getD Go.Code.skip
def h52 (p0 : ByteArray) (p1 : Int) (p2 : List TTk) (p3 : Int) : List (AO U) := [.box [.str p0, .int .i64 p1, .row 1 90], .row 90 p2]
def k52 : AV U → List (AO U) → Option R52 := fun v h => match v, h with | AV.int IntKind.i64 x0, [AO.box [AV.str x1, AV.int IntKind.i64 x2, AV.row 2 90], AO.dead, AO.row 90 x3] => some (x0, x1, x2, x3) | _, _ => none
def out52 : R52 → AV U := fun (x0, x1, x2, x3) => AV.int IntKind.i64 x0
def outh52 : R52 → List (AO U) := fun (x0, x1, x2, x3) => [AO.box [AV.str x1, AV.int IntKind.i64 x2, AV.row 2 90], AO.dead, AO.row 90 x3]
def D52 : Nat → Dir := dirs [(1, ⟨[0, 1], [], [], [(0, some 2)]⟩)]
def b52 (p0 : ByteArray) (p1 : Int) (p2 : List TTk) (p3 : Int) (c1 : Option R52)  : Option R52 :=
  c1
def m52_1 (p0 : ByteArray) (p1 : Int) (p2 : List TTk) (p3 : Int)  : S U := S.mk [AV.ptr 0 0, AV.int IntKind.u8 p3, AV.undef, AV.undef, AV.undef, AV.undef, AV.undef, AV.undef, AV.undef, AV.undef, AV.undef, AV.undef, AV.undef, AV.undef, AV.undef, AV.undef, AV.undef, AV.undef, AV.undef, AV.undef, AV.undef, AV.undef, AV.undef, AV.undef, AV.undef, AV.undef, AV.undef, AV.undef, AV.undef, AV.undef, AV.undef, AV.undef, AV.undef, AV.undef, AV.undef, AV.undef, AV.undef, AV.undef, AV.undef, AV.undef, AV.undef, AV.undef, AV.undef, AV.undef, AV.undef, AV.undef, AV.undef, AV.undef, AV.undef, AV.undef, AV.undef, AV.undef] [AO.box [AV.str p0, AV.int IntKind.i64 p1, AV.row 2 90], AO.dead, AO.row 90 (List.take p2.length p2)]
def b52_1 (p0 : ByteArray) (p1 : Int) (p2 : List TTk) (p3 : Int) (c1 : Option R52)  : Option R52 :=
  (S69 p3).bind fun r0 =>
  cond (r0)
  ((S70n p0 p1 (List.take p2.length p2) p1).bind fun r1 =>
  cond (decide (r1.fst > 31))
  (some ((87, r1.snd.fst, r1.snd.snd.fst, r1.snd.snd.snd)))
  (cond (decide (0 ≤ r1.snd.snd.fst))
  (cond (decide (r1.snd.snd.fst ≤ IntKind.i64.wrap (r1.snd.snd.fst + r1.fst)))
  (cond (decide (IntKind.i64.wrap (r1.snd.snd.fst + r1.fst) ≤ (↑r1.snd.fst.size : Int)))
  ((S73 (r1.snd.fst.extract r1.snd.snd.fst.toNat (IntKind.i64.wrap (r1.snd.snd.fst + r1.fst)).toNat)).bind fun r2 =>
  cond (r2)
  ((S51 r1.snd.fst r1.snd.snd.fst r1.snd.snd.snd 1 r1.fst).bind fun r3 =>
  some ((0, r3.fst, r3.snd.fst, r3.snd.snd)))
  ((S51 r1.snd.fst r1.snd.snd.fst r1.snd.snd.snd 0 r1.fst).bind fun r4 =>
  some ((0, r4.fst, r4.snd.fst, r4.snd.snd))))
  (none))
  (none))
  (none)))
  ((S72 p3).bind fun r5 =>
  cond (r5)
  (cond (r5)
  ((S74 p0 p1 (List.take p2.length p2) p3).bind fun r6 =>
  some ((r6.fst, r6.snd.fst, r6.snd.snd.fst, r6.snd.snd.snd)))
  (cond (decide (Go.Lib.indexByte (ByteArray.mk #[44, 61, 43, 45, 42, 47, 94, 40, 41]).data.toList p3.toNat.toUInt8 ≥ 0))
  ((S51 p0 p1 (List.take p2.length p2) 3 1).bind fun r7 =>
  some ((0, r7.fst, r7.snd.fst, r7.snd.snd)))
  (some ((80, p0, p1, List.take p2.length p2)))))
  (cond (p3 == 91)
  ((S74 p0 p1 (List.take p2.length p2) p3).bind fun r8 =>
  some ((r8.fst, r8.snd.fst, r8.snd.snd.fst, r8.snd.snd.snd)))
  (cond (decide (Go.Lib.indexByte (ByteArray.mk #[44, 61, 43, 45, 42, 47, 94, 40, 41]).data.toList p3.toNat.toUInt8 ≥ 0))
  ((S51 p0 p1 (List.take p2.length p2) 3 1).bind fun r9 =>
  some ((0, r9.fst, r9.snd.fst, r9.snd.snd)))
  (some ((80, p0, p1, List.take p2.length p2))))))
theorem hk52 : ∀ v h' r, k52 v h' = some r → v = out52 r ∧ h' = outh52 r := by
  intro v h' r h
  unfold k52 at h
  split at h
  · injection h with h; subst h; exact ⟨rfl, rfl⟩
  · cases h
abbrev q52 : Prim U R52 := prims X [⟨69, fun _ => true, [.lend], F69 S69⟩, ⟨70, fun _ => true, [.hand, .lend, .lend], F70n S70n⟩, ⟨73, fun _ => true, [.lend], F73 S73⟩, ⟨51, fun _ => true, [.hand, .lend, .lend], F51 S51⟩, ⟨72, fun _ => true, [.lend], F72 S72⟩, ⟨74, fun _ => true, [.hand, .lend], F74 S74⟩, ⟨75, fun _ => true, [.lend, .lend], F75 S75⟩]
theorem s52 (c : Nat → S U → Option R52) (p0 : ByteArray) (p1 : Int) (p2 : List TTk) (p3 : Int) : seg TP X q52 [1] (fun q st => c q (keepD D52 (h52 p0 p1 p2 p3).length q st)) body52 (finH TP Try.f52.results.toList (h52 p0 p1 p2 p3).length false k52) (start [.ptr 0 0, .int .u8 p3] Try.f52.ntmps (h52 p0 p1 p2 p3)) = b52 p0 p1 p2 p3 (c 1 (m52_1 p0 p1 p2 p3)) := by kernel_rfl
theorem s52_1 (c : Nat → S U → Option R52) (p0 : ByteArray) (p1 : Int) (p2 : List TTk) (p3 : Int)  : res TP X q52 [1] (fun q st => c q (keepD D52 (h52 p0 p1 p2 p3).length q st)) 1 body52 (finH TP Try.f52.results.toList (h52 p0 p1 p2 p3).length false k52) (m52_1 p0 p1 p2 p3 ) = b52_1 p0 p1 p2 p3 (c 1 (m52_1 p0 p1 p2 p3))  := by kernel_rfl
def f52_1 (p0 : ByteArray) (p1 : Int) (p2 : List TTk) (p3 : Int) : Nat → Option R52
  | 0 => none
  | k + 1 => b52_1 p0 p1 p2 p3 (f52_1 p0 p1 p2 p3 k)
def f52 (k : Nat) (p0 : ByteArray) (p1 : Int) (p2 : List TTk) (p3 : Int) : Option R52 := b52 p0 p1 p2 p3 (f52_1 p0 p1 p2 p3 k)
theorem e52 (p0 : ByteArray) (p1 : Int) (p2 : List TTk) (p3 : Int) : ∀ k, (cutG TP X q52 [1] D52 (h52 p0 p1 p2 p3).length body52 (finH TP Try.f52.results.toList (h52 p0 p1 p2 p3).length false k52) k 1 (m52_1 p0 p1 p2 p3) = f52_1 p0 p1 p2 p3 k)
  | 0 => rfl
  | k + 1 => by
    have ih := e52 p0 p1 p2 p3 k
    · refine (if_pos (by kernel_rfl)).trans ?_
      rw [s52_1]
      simp only [ih]
      rfl
theorem pure52 (p0 : ByteArray) (p1 : Int) (p2 : List TTk) (p3 : Int) (pok : PrmOK TP X q52) (k : Nat) (r : R52) (h : f52 k p0 p1 p2 p3 = some r) : PureH TP X 52 [.ptr 0 0, .int .u8 p3] (h52 p0 p1 p2 p3) (out52 r) (outh52 r) :=
  pure_gen good k (fn := Try.f52) (body := body52) (prim := q52) (D := D52) (cuts := [1]) (h := h52 p0 p1 p2 p3) (own := false) (by kernel_rfl) (by kernel_rfl) (by decide +kernel) pok hk52 (by
    rw [s52]
    have ih := e52 p0 p1 p2 p3 k
    simp only [ih]
    exact h)
def F52 {R : Type} (spec : (ByteArray) → Int → (List TTk) → Int → Option R52) : Fn U R := fun args h k => match args, h with | [.ptr 0 0, .int .u8 p3], [.box [.str p0, .int .i64 p1, .row 1 90], .row 90 p2] => (spec p0 p1 p2 p3).bind fun r => k (out52 r) (outh52 r) | _, _ => none
theorem ok52 {R : Type} (spec : (ByteArray) → Int → (List TTk) → Int → Option R52) (hp : ∀ (p0 : ByteArray) (p1 : Int) (p2 : List TTk) (p3 : Int) (r : R52), spec p0 p1 p2 p3 = some r → PureH TP X 52 [.ptr 0 0, .int .u8 p3] (h52 p0 p1 p2 p3) (out52 r) (outh52 r)) : FnOK TP X 52 (F52 spec : Fn U R) := by
  intro args h k r hh
  unfold F52 at hh
  split at hh
  · obtain ⟨x, h1, h2⟩ := Option.bind_eq_some_iff.1 hh
    exact ⟨_, _, h2, hp _ _ _ _ _ h1⟩
  · cases hh
theorem pok52 : PrmOK TP X q52 := prims_cons good okS69 (prims_cons good okS70n (prims_cons good okS73 (prims_cons good okS51 (prims_cons good okS72 (prims_cons good okS74 (prims_cons good okS75 (prims_nil TP X mixed)))))))
noncomputable def S52 (p0 : ByteArray) (p1 : Int) (p2 : List TTk) (p3 : Int) : Option R52 := evv fun k => f52 k p0 p1 p2 p3
theorem okS52 {R : Type} : FnOK TP X 52 (F52 S52 : Fn U R) := ok52 S52 fun p0 p1 p2 p3 r h => by
  obtain ⟨k, hk⟩ := evv_fuel h
  exact pure52 p0 p1 p2 p3 pok52 k r hk
end
end Go.Abs.Z
namespace Go.Abs.Z
open Go Go.Abs Go.Proofs
noncomputable section
abbrev R63 : Type := (Bool)
noncomputable def body63 : Go.Code := (Try.f63.body).getD Go.Code.skip
def h63 (p0 : Int) : List (AO U) := []
def k63 : AV U → List (AO U) → Option R63 := fun v h => match v, h with | AV.bool x0, [] => some x0 | _, _ => none
def out63 : R63 → AV U := fun x0 => AV.bool x0
def outh63 : R63 → List (AO U) := fun x0 => []
def D63 : Nat → Dir := dirs []
def b63 (p0 : Int)   : Option R63 :=
  cond (decide (p0 ≥ 97))
  (cond (decide (p0 ≤ 122))
  (some (true))
  (cond (decide (p0 ≥ 65))
  (cond (decide (p0 ≤ 90))
  (some (true))
  (some (p0 == 95)))
  (some (p0 == 95))))
  (cond (decide (p0 ≥ 65))
  (cond (decide (p0 ≤ 90))
  (some (true))
  (some (p0 == 95)))
  (some (p0 == 95)))
theorem hk63 : ∀ v h' r, k63 v h' = some r → v = out63 r ∧ h' = outh63 r := by
  intro v h' r h
  unfold k63 at h
  split at h
  · injection h with h; subst h; exact ⟨rfl, rfl⟩
  · cases h
abbrev q63 : Prim U R63 := prims X []
theorem s63 (c : Nat → S U → Option R63) (p0 : Int) : seg TP X q63 [] (fun q st => c q (keepD D63 (h63 p0).length q st)) body63 (finH TP Try.f63.results.toList (h63 p0).length false k63) (start [.int .u8 p0] Try.f63.ntmps (h63 p0)) = b63 p0  := by kernel_rfl
def f63 (_ : Nat) (p0 : Int) : Option R63 := b63 p0
theorem pure63 (p0 : Int) (pok : PrmOK TP X q63) (k : Nat) (r : R63) (h : f63 k p0 = some r) : PureH TP X 63 [.int .u8 p0] (h63 p0) (out63 r) (outh63 r) :=
  pure_gen good 0 (fn := Try.f63) (body := body63) (prim := q63) (D := D63) (cuts := []) (h := h63 p0) (own := false) (by kernel_rfl) (by kernel_rfl) (by decide +kernel) pok hk63 (by
    rw [s63]
    exact h)
def F63 {R : Type} (spec : (Int) → Option R63) : Fn U R := fun args h k => match args, h with | [.int .u8 p0], [] => (spec p0).bind fun r => k (out63 r) (outh63 r) | _, _ => none
theorem ok63 {R : Type} (spec : (Int) → Option R63) (hp : ∀ (p0 : Int) (r : R63), spec p0 = some r → PureH TP X 63 [.int .u8 p0] (h63 p0) (out63 r) (outh63 r)) : FnOK TP X 63 (F63 spec : Fn U R) := by
  intro args h k r hh
  unfold F63 at hh
  split at hh
  · obtain ⟨x, h1, h2⟩ := Option.bind_eq_some_iff.1 hh
    exact ⟨_, _, h2, hp _ _ h1⟩
  · cases hh
theorem pok63 : PrmOK TP X q63 := prims_nil TP X mixed
noncomputable def S63 (p0 : Int) : Option R63 := evv fun k => f63 k p0
theorem okS63 {R : Type} : FnOK TP X 63 (F63 S63 : Fn U R) := ok63 S63 fun p0 r h => by
  obtain ⟨k, hk⟩ := evv_fuel h
  exact pure63 p0 pok63 k r hk
end
end Go.Abs.Z
namespace Go.Abs.Z
open Go Go.Abs Go.Proofs
noncomputable section
abbrev R64 : Type := (Bool)
noncomputable def body64 : Go.Code := (Try.f64.body).getD Go.Code.skip
def h64 (p0 : ByteArray) : List (AO U) := []
def k64 : AV U → List (AO U) → Option R64 := fun v h => match v, h with | AV.bool x0, [] => some x0 | _, _ => none
def out64 : R64 → AV U := fun x0 => AV.bool x0
def outh64 : R64 → List (AO U) := fun x0 => []
def D64 : Nat → Dir := dirs []
def b64 (p0 : ByteArray)   : Option R64 :=
  cond (p0.toList == (ByteArray.mk #[105, 110]).toList)
  (some (true))
  (cond (p0.toList == (ByteArray.mk #[102, 110]).toList)
  (some (true))
  (cond (p0.toList == (ByteArray.mk #[108, 101, 116]).toList)
  (some (true))
  (cond (p0.toList == (ByteArray.mk #[111, 117, 116]).toList)
  (some (true))
  (cond (p0.toList == (ByteArray.mk #[115, 117, 109]).toList)
  (some (true))
  (some (p0.toList == (ByteArray.mk #[112, 114, 111, 100]).toList))))))
theorem hk64 : ∀ v h' r, k64 v h' = some r → v = out64 r ∧ h' = outh64 r := by
  intro v h' r h
  unfold k64 at h
  split at h
  · injection h with h; subst h; exact ⟨rfl, rfl⟩
  · cases h
abbrev q64 : Prim U R64 := prims X []
theorem s64 (c : Nat → S U → Option R64) (p0 : ByteArray) : seg TP X q64 [] (fun q st => c q (keepD D64 (h64 p0).length q st)) body64 (finH TP Try.f64.results.toList (h64 p0).length false k64) (start [.str p0] Try.f64.ntmps (h64 p0)) = b64 p0  := by kernel_rfl
def f64 (_ : Nat) (p0 : ByteArray) : Option R64 := b64 p0
theorem pure64 (p0 : ByteArray) (pok : PrmOK TP X q64) (k : Nat) (r : R64) (h : f64 k p0 = some r) : PureH TP X 64 [.str p0] (h64 p0) (out64 r) (outh64 r) :=
  pure_gen good 0 (fn := Try.f64) (body := body64) (prim := q64) (D := D64) (cuts := []) (h := h64 p0) (own := false) (by kernel_rfl) (by kernel_rfl) (by decide +kernel) pok hk64 (by
    rw [s64]
    exact h)
def F64 {R : Type} (spec : (ByteArray) → Option R64) : Fn U R := fun args h k => match args, h with | [.str p0], [] => (spec p0).bind fun r => k (out64 r) (outh64 r) | _, _ => none
theorem ok64 {R : Type} (spec : (ByteArray) → Option R64) (hp : ∀ (p0 : ByteArray) (r : R64), spec p0 = some r → PureH TP X 64 [.str p0] (h64 p0) (out64 r) (outh64 r)) : FnOK TP X 64 (F64 spec : Fn U R) := by
  intro args h k r hh
  unfold F64 at hh
  split at hh
  · obtain ⟨x, h1, h2⟩ := Option.bind_eq_some_iff.1 hh
    exact ⟨_, _, h2, hp _ _ h1⟩
  · cases hh
theorem pok64 : PrmOK TP X q64 := prims_nil TP X mixed
noncomputable def S64 (p0 : ByteArray) : Option R64 := evv fun k => f64 k p0
theorem okS64 {R : Type} : FnOK TP X 64 (F64 S64 : Fn U R) := ok64 S64 fun p0 r h => by
  obtain ⟨k, hk⟩ := evv_fuel h
  exact pure64 p0 pok64 k r hk
end
end Go.Abs.Z
namespace Go.Abs.Z
open Go Go.Abs Go.Proofs
noncomputable section
abbrev R65 : Type := (Bool)
noncomputable def body65 : Go.Code := (Try.f65.body).getD Go.Code.skip
def h65 (p0 : Int) : List (AO U) := []
def k65 : AV U → List (AO U) → Option R65 := fun v h => match v, h with | AV.bool x0, [] => some x0 | _, _ => none
def out65 : R65 → AV U := fun x0 => AV.bool x0
def outh65 : R65 → List (AO U) := fun x0 => []
def D65 : Nat → Dir := dirs []
def b65 (p0 : Int)   : Option R65 :=
  cond (decide (p0 ≥ 48))
  (some (decide (p0 ≤ 57)))
  (some (false))
theorem hk65 : ∀ v h' r, k65 v h' = some r → v = out65 r ∧ h' = outh65 r := by
  intro v h' r h
  unfold k65 at h
  split at h
  · injection h with h; subst h; exact ⟨rfl, rfl⟩
  · cases h
abbrev q65 : Prim U R65 := prims X []
theorem s65 (c : Nat → S U → Option R65) (p0 : Int) : seg TP X q65 [] (fun q st => c q (keepD D65 (h65 p0).length q st)) body65 (finH TP Try.f65.results.toList (h65 p0).length false k65) (start [.int .u8 p0] Try.f65.ntmps (h65 p0)) = b65 p0  := by kernel_rfl
def f65 (_ : Nat) (p0 : Int) : Option R65 := b65 p0
theorem pure65 (p0 : Int) (pok : PrmOK TP X q65) (k : Nat) (r : R65) (h : f65 k p0 = some r) : PureH TP X 65 [.int .u8 p0] (h65 p0) (out65 r) (outh65 r) :=
  pure_gen good 0 (fn := Try.f65) (body := body65) (prim := q65) (D := D65) (cuts := []) (h := h65 p0) (own := false) (by kernel_rfl) (by kernel_rfl) (by decide +kernel) pok hk65 (by
    rw [s65]
    exact h)
def F65 {R : Type} (spec : (Int) → Option R65) : Fn U R := fun args h k => match args, h with | [.int .u8 p0], [] => (spec p0).bind fun r => k (out65 r) (outh65 r) | _, _ => none
theorem ok65 {R : Type} (spec : (Int) → Option R65) (hp : ∀ (p0 : Int) (r : R65), spec p0 = some r → PureH TP X 65 [.int .u8 p0] (h65 p0) (out65 r) (outh65 r)) : FnOK TP X 65 (F65 spec : Fn U R) := by
  intro args h k r hh
  unfold F65 at hh
  split at hh
  · obtain ⟨x, h1, h2⟩ := Option.bind_eq_some_iff.1 hh
    exact ⟨_, _, h2, hp _ _ h1⟩
  · cases hh
theorem pok65 : PrmOK TP X q65 := prims_nil TP X mixed
noncomputable def S65 (p0 : Int) : Option R65 := evv fun k => f65 k p0
theorem okS65 {R : Type} : FnOK TP X 65 (F65 S65 : Fn U R) := ok65 S65 fun p0 r h => by
  obtain ⟨k, hk⟩ := evv_fuel h
  exact pure65 p0 pok65 k r hk
end
end Go.Abs.Z
namespace Go.Abs.Z
open Go Go.Abs Go.Proofs
noncomputable section
abbrev R86 : Type := (Int)
noncomputable def body86 : Go.Code := (Try.f86.body).getD Go.Code.skip
def h86 (p0 : ByteArray) (p1 : Int) : List (AO U) := []
def k86 : AV U → List (AO U) → Option R86 := fun v h => match v, h with | AV.int IntKind.i64 x0, [] => some x0 | _, _ => none
def out86 : R86 → AV U := fun x0 => AV.int IntKind.i64 x0
def outh86 : R86 → List (AO U) := fun x0 => []
def D86 : Nat → Dir := dirs [(2, ⟨[0, 1, 5], [], [], []⟩)]
def b86 (p0 : ByteArray) (p1 : Int) (c2 : (Int) → Option R86)  : Option R86 :=
  c2 (0)
def m86_2 (p0 : ByteArray) (p1 v2 : Int) : S U := S.mk [AV.str p0, AV.int IntKind.i64 p1, AV.undef, AV.undef, AV.undef, AV.int IntKind.i64 v2, AV.undef, AV.undef, AV.undef, AV.undef, AV.undef, AV.undef, AV.undef, AV.undef, AV.undef, AV.undef, AV.undef, AV.undef, AV.undef, AV.undef, AV.undef, AV.undef, AV.undef] []
def b86_2 (p0 : ByteArray) (p1 : Int) (c2 : (Int) → Option R86) (v2 : Int) : Option R86 :=
  cond (decide (IntKind.i64.wrap (p1 + v2) < (↑p0.size : Int)))
  (cond (decide (0 ≤ IntKind.i64.wrap (p1 + v2)))
  (cond (decide (IntKind.i64.wrap (p1 + v2) < (↑p0.size : Int)))
  ((S65 (bt p0 (IntKind.i64.wrap (p1 + v2)))).bind fun r0 =>
  cond (r0)
  (c2 (IntKind.i64.wrap (v2 + 1)))
  (some (v2)))
  (none))
  (none))
  (some (v2))
theorem hk86 : ∀ v h' r, k86 v h' = some r → v = out86 r ∧ h' = outh86 r := by
  intro v h' r h
  unfold k86 at h
  split at h
  · injection h with h; subst h; exact ⟨rfl, rfl⟩
  · cases h
abbrev q86 : Prim U R86 := prims X [⟨65, fun _ => true, [.lend], F65 S65⟩]
theorem s86 (c : Nat → S U → Option R86) (p0 : ByteArray) (p1 : Int) : seg TP X q86 [2] (fun q st => c q (keepD D86 (h86 p0 p1).length q st)) body86 (finH TP Try.f86.results.toList (h86 p0 p1).length false k86) (start [.str p0, .int .i64 p1] Try.f86.ntmps (h86 p0 p1)) = b86 p0 p1 (fun v2 => c 2 (m86_2 p0 p1 v2)) := by kernel_rfl
theorem s86_2 (c : Nat → S U → Option R86) (p0 : ByteArray) (p1 v2 : Int) : res TP X q86 [2] (fun q st => c q (keepD D86 (h86 p0 p1).length q st)) 2 body86 (finH TP Try.f86.results.toList (h86 p0 p1).length false k86) (m86_2 p0 p1 v2) = b86_2 p0 p1 (fun v2 => c 2 (m86_2 p0 p1 v2)) v2 := by kernel_rfl
def f86_2 (p0 : ByteArray) (p1 : Int) : Nat → Int → Option R86
  | 0 => fun _ => none
  | k + 1 => b86_2 p0 p1 (f86_2 p0 p1 k)
def f86 (k : Nat) (p0 : ByteArray) (p1 : Int) : Option R86 := b86 p0 p1 (f86_2 p0 p1 k)
theorem e86 (p0 : ByteArray) (p1 : Int) : ∀ k, ((fun v2 => cutG TP X q86 [2] D86 (h86 p0 p1).length body86 (finH TP Try.f86.results.toList (h86 p0 p1).length false k86) k 2 (m86_2 p0 p1 v2)) = f86_2 p0 p1 k)
  | 0 => rfl
  | k + 1 => by
    have ih := e86 p0 p1 k
    · funext v2
      refine (if_pos (by kernel_rfl)).trans ?_
      rw [s86_2]
      simp only [ih]
      rfl
theorem pure86 (p0 : ByteArray) (p1 : Int) (pok : PrmOK TP X q86) (k : Nat) (r : R86) (h : f86 k p0 p1 = some r) : PureH TP X 86 [.str p0, .int .i64 p1] (h86 p0 p1) (out86 r) (outh86 r) :=
  pure_gen good k (fn := Try.f86) (body := body86) (prim := q86) (D := D86) (cuts := [2]) (h := h86 p0 p1) (own := false) (by kernel_rfl) (by kernel_rfl) (by decide +kernel) pok hk86 (by
    rw [s86]
    have ih := e86 p0 p1 k
    simp only [ih]
    exact h)
def F86 {R : Type} (spec : (ByteArray) → Int → Option R86) : Fn U R := fun args h k => match args, h with | [.str p0, .int .i64 p1], [] => (spec p0 p1).bind fun r => k (out86 r) (outh86 r) | _, _ => none
theorem ok86 {R : Type} (spec : (ByteArray) → Int → Option R86) (hp : ∀ (p0 : ByteArray) (p1 : Int) (r : R86), spec p0 p1 = some r → PureH TP X 86 [.str p0, .int .i64 p1] (h86 p0 p1) (out86 r) (outh86 r)) : FnOK TP X 86 (F86 spec : Fn U R) := by
  intro args h k r hh
  unfold F86 at hh
  split at hh
  · obtain ⟨x, h1, h2⟩ := Option.bind_eq_some_iff.1 hh
    exact ⟨_, _, h2, hp _ _ _ h1⟩
  · cases hh
theorem pok86 : PrmOK TP X q86 := prims_cons good okS65 (prims_nil TP X mixed)
noncomputable def S86 (p0 : ByteArray) (p1 : Int) : Option R86 := evv fun k => f86 k p0 p1
theorem okS86 {R : Type} : FnOK TP X 86 (F86 S86 : Fn U R) := ok86 S86 fun p0 p1 r h => by
  obtain ⟨k, hk⟩ := evv_fuel h
  exact pure86 p0 p1 pok86 k r hk
end
end Go.Abs.Z
namespace Go.Abs.Z
open Go Go.Abs Go.Proofs
noncomputable section
abbrev R104 : Type := (Int)
noncomputable def body104 : Go.Code := (Try.f104.body).getD Go.Code.skip
def h104 (p0 : Int) : List (AO U) := []
def k104 : AV U → List (AO U) → Option R104 := fun v h => match v, h with | AV.int IntKind.i64 x0, [] => some x0 | _, _ => none
def out104 : R104 → AV U := fun x0 => AV.int IntKind.i64 x0
def outh104 : R104 → List (AO U) := fun x0 => []
def D104 : Nat → Dir := dirs []
def b104 (p0 : Int)   : Option R104 :=
  cond (decide (p0 ≥ 48))
  (cond (decide (p0 ≤ 57))
  (some (IntKind.i64.wrap (IntKind.i64.wrap p0 - 48)))
  (cond (decide (p0 ≥ 97))
  (cond (decide (p0 ≤ 122))
  (some (IntKind.i64.wrap (IntKind.i64.wrap (IntKind.i64.wrap p0 - 97) + 10)))
  (cond (decide (p0 ≥ 65))
  (cond (decide (p0 ≤ 90))
  (some (IntKind.i64.wrap (IntKind.i64.wrap (IntKind.i64.wrap p0 - 65) + 10)))
  (some (36)))
  (some (36))))
  (cond (decide (p0 ≥ 65))
  (cond (decide (p0 ≤ 90))
  (some (IntKind.i64.wrap (IntKind.i64.wrap (IntKind.i64.wrap p0 - 65) + 10)))
  (some (36)))
  (some (36)))))
  (cond (decide (p0 ≥ 97))
  (cond (decide (p0 ≤ 122))
  (some (IntKind.i64.wrap (IntKind.i64.wrap (IntKind.i64.wrap p0 - 97) + 10)))
  (cond (decide (p0 ≥ 65))
  (cond (decide (p0 ≤ 90))
  (some (IntKind.i64.wrap (IntKind.i64.wrap (IntKind.i64.wrap p0 - 65) + 10)))
  (some (36)))
  (some (36))))
  (cond (decide (p0 ≥ 65))
  (cond (decide (p0 ≤ 90))
  (some (IntKind.i64.wrap (IntKind.i64.wrap (IntKind.i64.wrap p0 - 65) + 10)))
  (some (36)))
  (some (36))))
theorem hk104 : ∀ v h' r, k104 v h' = some r → v = out104 r ∧ h' = outh104 r := by
  intro v h' r h
  unfold k104 at h
  split at h
  · injection h with h; subst h; exact ⟨rfl, rfl⟩
  · cases h
abbrev q104 : Prim U R104 := prims X []
theorem s104 (c : Nat → S U → Option R104) (p0 : Int) : seg TP X q104 [] (fun q st => c q (keepD D104 (h104 p0).length q st)) body104 (finH TP Try.f104.results.toList (h104 p0).length false k104) (start [.int .u8 p0] Try.f104.ntmps (h104 p0)) = b104 p0  := by kernel_rfl
def f104 (_ : Nat) (p0 : Int) : Option R104 := b104 p0
theorem pure104 (p0 : Int) (pok : PrmOK TP X q104) (k : Nat) (r : R104) (h : f104 k p0 = some r) : PureH TP X 104 [.int .u8 p0] (h104 p0) (out104 r) (outh104 r) :=
  pure_gen good 0 (fn := Try.f104) (body := body104) (prim := q104) (D := D104) (cuts := []) (h := h104 p0) (own := false) (by kernel_rfl) (by kernel_rfl) (by decide +kernel) pok hk104 (by
    rw [s104]
    exact h)
def F104 {R : Type} (spec : (Int) → Option R104) : Fn U R := fun args h k => match args, h with | [.int .u8 p0], [] => (spec p0).bind fun r => k (out104 r) (outh104 r) | _, _ => none
theorem ok104 {R : Type} (spec : (Int) → Option R104) (hp : ∀ (p0 : Int) (r : R104), spec p0 = some r → PureH TP X 104 [.int .u8 p0] (h104 p0) (out104 r) (outh104 r)) : FnOK TP X 104 (F104 spec : Fn U R) := by
  intro args h k r hh
  unfold F104 at hh
  split at hh
  · obtain ⟨x, h1, h2⟩ := Option.bind_eq_some_iff.1 hh
    exact ⟨_, _, h2, hp _ _ h1⟩
  · cases hh
theorem pok104 : PrmOK TP X q104 := prims_nil TP X mixed
noncomputable def S104 (p0 : Int) : Option R104 := evv fun k => f104 k p0
theorem okS104 {R : Type} : FnOK TP X 104 (F104 S104 : Fn U R) := ok104 S104 fun p0 r h => by
  obtain ⟨k, hk⟩ := evv_fuel h
  exact pure104 p0 pok104 k r hk
end
end Go.Abs.Z
namespace Go.Abs.Z
open Go Go.Abs Go.Proofs
noncomputable section
abbrev R105 : Type := TI
noncomputable def body105 : Go.Code := (Try.f105.body).getD Go.Code.skip
def h105 (p0 p1 : TI) : List (AO U) := []
def k105 : AV U → List (AO U) → Option R105 := fun v h => match v, h with | AV.imm 105 x0, [] => some x0 | _, _ => none
def out105 : R105 → AV U := fun x0 => AV.imm 105 x0
def outh105 : R105 → List (AO U) := fun x0 => []
def D105 : Nat → Dir := dirs [(4, ⟨[0, 1, 5, 6, 7], [(5, none)], [], []⟩)]
def b105 (p0 p1 : TI) (c4 : (Int) → Int → TI → Option R105)  : Option R105 :=
  c4 (0) (0) ([])
def m105_4 (p0 p1 : TI) (v2 v3 : Int) (v4 : TI) : S U := S.mk [AV.imm 105 p0, AV.imm 105 p1, AV.undef, AV.undef, AV.undef, AV.row 0 105, AV.int IntKind.u64 v2, AV.int IntKind.i64 v3, AV.undef, AV.undef, AV.undef, AV.undef, AV.undef, AV.undef, AV.undef, AV.undef, AV.undef, AV.undef, AV.undef, AV.undef, AV.undef, AV.undef, AV.undef, AV.undef, AV.undef, AV.undef, AV.undef, AV.undef, AV.undef, AV.undef, AV.undef, AV.undef, AV.undef, AV.undef, AV.undef, AV.undef, AV.undef, AV.undef, AV.undef, AV.undef, AV.undef, AV.undef] [AO.row 105 v4]
def b105_4 (p0 p1 : TI) (c4 : (Int) → Int → TI → Option R105) (v2 v3 : Int) (v4 : TI) : Option R105 :=
  cond (decide (v3 < (↑p0.length : Int)))
  ((S115 p0 v3).bind fun r0 =>
  (S115 p1 v3).bind fun r1 =>
  cond (decide ((v4.length + 1) * 4 ≤ 140737488355328))
  (c4 (shr IntKind.u64 (IntKind.u64.wrap (IntKind.u64.wrap (r0 + r1) + v2)) 32) (IntKind.i64.wrap (v3 + 1)) (v4 ++ [IntKind.u32.wrap (IntKind.u64.wrap (IntKind.u64.wrap (r0 + r1) + v2))]))
  (none))
  (cond (decide (v3 < (↑p1.length : Int)))
  ((S115 p0 v3).bind fun r2 =>
  (S115 p1 v3).bind fun r3 =>
  cond (decide ((v4.length + 1) * 4 ≤ 140737488355328))
  (c4 (shr IntKind.u64 (IntKind.u64.wrap (IntKind.u64.wrap (r2 + r3) + v2)) 32) (IntKind.i64.wrap (v3 + 1)) (v4 ++ [IntKind.u32.wrap (IntKind.u64.wrap (IntKind.u64.wrap (r2 + r3) + v2))]))
  (none))
  (cond (decide ((v4.length + 1) * 4 ≤ 140737488355328))
  (some (v4 ++ [IntKind.u32.wrap v2]))
  (none)))
theorem hk105 : ∀ v h' r, k105 v h' = some r → v = out105 r ∧ h' = outh105 r := by
  intro v h' r h
  unfold k105 at h
  split at h
  · injection h with h; subst h; exact ⟨rfl, rfl⟩
  · cases h
abbrev q105 : Prim U R105 := prims X [⟨115, fun _ => true, [.lend, .lend], F115 S115⟩]
theorem s105 (c : Nat → S U → Option R105) (p0 p1 : TI) : seg TP X q105 [4] (fun q st => c q (keepD D105 (h105 p0 p1).length q st)) body105 (finH TP Try.f105.results.toList (h105 p0 p1).length false k105) (start [.imm 105 p0, .imm 105 p1] Try.f105.ntmps (h105 p0 p1)) = b105 p0 p1 (fun v2 v3 v4 => c 4 (m105_4 p0 p1 v2 v3 v4)) := by kernel_rfl
theorem s105_4 (c : Nat → S U → Option R105) (p0 p1 : TI) (v2 v3 : Int) (v4 : TI) : res TP X q105 [4] (fun q st => c q (keepD D105 (h105 p0 p1).length q st)) 4 body105 (finH TP Try.f105.results.toList (h105 p0 p1).length false k105) (m105_4 p0 p1 v2 v3 v4) = b105_4 p0 p1 (fun v2 v3 v4 => c 4 (m105_4 p0 p1 v2 v3 v4)) v2 v3 v4 := by kernel_rfl
def f105_4 (p0 p1 : TI) : Nat → Int → (Int) → TI → Option R105
  | 0 => fun _ _ _ => none
  | k + 1 => b105_4 p0 p1 (f105_4 p0 p1 k)
def f105 (k : Nat) (p0 p1 : TI) : Option R105 := b105 p0 p1 (f105_4 p0 p1 k)
theorem e105 (p0 p1 : TI) : ∀ k, ((fun v2 v3 v4 => cutG TP X q105 [4] D105 (h105 p0 p1).length body105 (finH TP Try.f105.results.toList (h105 p0 p1).length false k105) k 4 (m105_4 p0 p1 v2 v3 v4)) = f105_4 p0 p1 k)
  | 0 => rfl
  | k + 1 => by
    have ih := e105 p0 p1 k
    · funext v2 v3 v4
      refine (if_pos (by kernel_rfl)).trans ?_
      rw [s105_4]
      simp only [ih]
      rfl
theorem pure105 (p0 p1 : TI) (pok : PrmOK TP X q105) (k : Nat) (r : R105) (h : f105 k p0 p1 = some r) : PureH TP X 105 [.imm 105 p0, .imm 105 p1] (h105 p0 p1) (out105 r) (outh105 r) :=
  pure_gen good k (fn := Try.f105) (body := body105) (prim := q105) (D := D105) (cuts := [4]) (h := h105 p0 p1) (own := false) (by kernel_rfl) (by kernel_rfl) (by decide +kernel) pok hk105 (by
    rw [s105]
    have ih := e105 p0 p1 k
    simp only [ih]
    exact h)
def F105 {R : Type} (spec : TI → TI → Option R105) : Fn U R := fun args h k => match args, h with | [.imm 105 p0, .imm 105 p1], [] => (spec p0 p1).bind fun r => k (out105 r) (outh105 r) | _, _ => none
theorem ok105 {R : Type} (spec : TI → TI → Option R105) (hp : ∀ (p0 : TI) (p1 : TI) (r : R105), spec p0 p1 = some r → PureH TP X 105 [.imm 105 p0, .imm 105 p1] (h105 p0 p1) (out105 r) (outh105 r)) : FnOK TP X 105 (F105 spec : Fn U R) := by
  intro args h k r hh
  unfold F105 at hh
  split at hh
  · obtain ⟨x, h1, h2⟩ := Option.bind_eq_some_iff.1 hh
    exact ⟨_, _, h2, hp _ _ _ h1⟩
  · cases hh
theorem pok105 : PrmOK TP X q105 := prims_cons good okS115 (prims_nil TP X mixed)
noncomputable def S105 (p0 p1 : TI) : Option R105 := evv fun k => f105 k p0 p1
theorem okS105 {R : Type} : FnOK TP X 105 (F105 S105 : Fn U R) := ok105 S105 fun p0 p1 r h => by
  obtain ⟨k, hk⟩ := evv_fuel h
  exact pure105 p0 p1 pok105 k r hk
end
end Go.Abs.Z
namespace Go.Abs.Z
open Go Go.Abs Go.Proofs
noncomputable section
abbrev R106 : Type := TI
noncomputable def body106 : Go.Code := (Try.f106.body).getD Go.Code.skip
def h106 (p0 p1 : TI) : List (AO U) := []
def k106 : AV U → List (AO U) → Option R106 := fun v h => match v, h with | AV.imm 105 x0, [] => some x0 | _, _ => none
def out106 : R106 → AV U := fun x0 => AV.imm 105 x0
def outh106 : R106 → List (AO U) := fun x0 => []
def D106 : Nat → Dir := dirs [(3, ⟨[0, 1, 5, 6], [], [], []⟩), (7, ⟨[0, 1, 5, 6, 7, 8], [], [], []⟩)]
def b106 (p0 p1 : TI) (c3 : (Int) → TI → Option R106) (c7 : (Int) → Int → (Int) → TI → Option R106)  : Option R106 :=
  cond (decide (0 ≤ IntKind.i64.wrap ((↑p0.length : Int) + (↑p1.length : Int))))
  (cond (decide (IntKind.i64.wrap ((↑p0.length : Int) + (↑p1.length : Int)) ≤ IntKind.i64.wrap ((↑p0.length : Int) + (↑p1.length : Int))))
  (cond (decide (IntKind.i64.wrap ((↑p0.length : Int) + (↑p1.length : Int)) * (↑4 : Int) ≤ 140737488355328))
  (c3 (0) (repI (IntKind.i64.wrap ((↑p0.length : Int) + (↑p1.length : Int))).toNat 0))
  (none))
  (none))
  (none)
def m106_3 (p0 p1 : TI) (v2 : Int) (v3 : TI) : S U := S.mk [AV.imm 105 p0, AV.imm 105 p1, AV.undef, AV.undef, AV.undef, AV.row 0 105, AV.int IntKind.i64 v2, AV.undef, AV.undef, AV.undef, AV.undef, AV.undef, AV.undef, AV.undef, AV.undef, AV.undef, AV.undef, AV.undef, AV.undef, AV.undef, AV.undef, AV.undef, AV.undef, AV.undef, AV.undef, AV.undef, AV.undef, AV.undef, AV.undef, AV.undef, AV.undef, AV.undef, AV.undef, AV.undef, AV.undef, AV.undef, AV.undef, AV.undef, AV.undef, AV.undef, AV.undef, AV.undef, AV.undef, AV.undef, AV.undef, AV.undef, AV.undef, AV.undef, AV.undef, AV.undef, AV.undef, AV.undef, AV.undef, AV.undef, AV.undef, AV.undef, AV.undef, AV.undef, AV.undef, AV.undef, AV.undef, AV.undef, AV.undef, AV.undef, AV.undef, AV.undef, AV.undef] [AO.row 105 v3]
def b106_3 (p0 p1 : TI) (c3 : (Int) → TI → Option R106) (c7 : (Int) → Int → (Int) → TI → Option R106) (v2 : Int) (v3 : TI) : Option R106 :=
  cond (decide (v2 < (↑p0.length : Int)))
  (c7 (v2) (0) (0) (v3))
  (some (v3))
def m106_7 (p0 p1 : TI) (v2 v3 v4 : Int) (v5 : TI) : S U := S.mk [AV.imm 105 p0, AV.imm 105 p1, AV.undef, AV.undef, AV.undef, AV.row 0 105, AV.int IntKind.i64 v2, AV.int IntKind.u64 v3, AV.int IntKind.i64 v4, AV.undef, AV.undef, AV.undef, AV.undef, AV.undef, AV.undef, AV.undef, AV.undef, AV.undef, AV.undef, AV.undef, AV.undef, AV.undef, AV.undef, AV.undef, AV.undef, AV.undef, AV.undef, AV.undef, AV.undef, AV.undef, AV.undef, AV.undef, AV.undef, AV.undef, AV.undef, AV.undef, AV.undef, AV.undef, AV.undef, AV.undef, AV.undef, AV.undef, AV.undef, AV.undef, AV.undef, AV.undef, AV.undef, AV.undef, AV.undef, AV.undef, AV.undef, AV.undef, AV.undef, AV.undef, AV.undef, AV.undef, AV.undef, AV.undef, AV.undef, AV.undef, AV.undef, AV.undef, AV.undef, AV.undef, AV.undef, AV.undef, AV.undef] [AO.row 105 v5]
def b106_7 (p0 p1 : TI) (c3 : (Int) → TI → Option R106) (c7 : (Int) → Int → (Int) → TI → Option R106) (v2 v3 v4 : Int) (v5 : TI) : Option R106 :=
  cond (decide (v4 < (↑p1.length : Int)))
  (cond (decide (0 ≤ v2))
  (cond (decide (v2 < (↑p0.length : Int)))
  (cond (decide (v2.toNat < p0.length))
  (cond (decide (0 ≤ v4))
  (cond (decide (v4 < (↑p1.length : Int)))
  (cond (decide (v4.toNat < p1.length))
  (cond (decide (0 ≤ IntKind.i64.wrap (v2 + v4)))
  (cond (decide (IntKind.i64.wrap (v2 + v4) < (↑v5.length : Int)))
  (cond (decide ((IntKind.i64.wrap (v2 + v4)).toNat < v5.length))
  (cond (decide (0 ≤ IntKind.i64.wrap (v2 + v4)))
  (cond (decide (IntKind.i64.wrap (v2 + v4) < (↑v5.length : Int)))
  (cond (decide ((IntKind.i64.wrap (v2 + v4)).toNat < v5.length))
  (c7 (v2) (shr IntKind.u64 (IntKind.u64.wrap (IntKind.u64.wrap (IntKind.u64.wrap (IntKind.u64.wrap (p0.getD v2.toNat (X.dflt 105)) * IntKind.u64.wrap (p1.getD v4.toNat (X.dflt 105))) + IntKind.u64.wrap (v5.getD (IntKind.i64.wrap (v2 + v4)).toNat (X.dflt 105))) + v3)) 32) (IntKind.i64.wrap (v4 + 1)) (v5.set (IntKind.i64.wrap (v2 + v4)).toNat (IntKind.u32.wrap (IntKind.u64.wrap (IntKind.u64.wrap (IntKind.u64.wrap (IntKind.u64.wrap (p0.getD v2.toNat (X.dflt 105)) * IntKind.u64.wrap (p1.getD v4.toNat (X.dflt 105))) + IntKind.u64.wrap (v5.getD (IntKind.i64.wrap (v2 + v4)).toNat (X.dflt 105))) + v3)))))
  (none))
  (none))
  (none))
  (none))
  (none))
  (none))
  (none))
  (none))
  (none))
  (none))
  (none))
  (none))
  (cond (decide (0 ≤ IntKind.i64.wrap (v2 + (↑p1.length : Int))))
  (cond (decide (IntKind.i64.wrap (v2 + (↑p1.length : Int)) < (↑v5.length : Int)))
  (cond (decide ((IntKind.i64.wrap (v2 + (↑p1.length : Int))).toNat < v5.length))
  (c3 (IntKind.i64.wrap (v2 + 1)) (v5.set (IntKind.i64.wrap (v2 + (↑p1.length : Int))).toNat (IntKind.u32.wrap v3)))
  (none))
  (none))
  (none))
theorem hk106 : ∀ v h' r, k106 v h' = some r → v = out106 r ∧ h' = outh106 r := by
  intro v h' r h
  unfold k106 at h
  split at h
  · injection h with h; subst h; exact ⟨rfl, rfl⟩
  · cases h
abbrev q106 : Prim U R106 := prims X []
theorem s106 (c : Nat → S U → Option R106) (p0 p1 : TI) : seg TP X q106 [3, 7] (fun q st => c q (keepD D106 (h106 p0 p1).length q st)) body106 (finH TP Try.f106.results.toList (h106 p0 p1).length false k106) (start [.imm 105 p0, .imm 105 p1] Try.f106.ntmps (h106 p0 p1)) = b106 p0 p1 (fun v2 v3 => c 3 (m106_3 p0 p1 v2 v3)) (fun v2 v3 v4 v5 => c 7 (m106_7 p0 p1 v2 v3 v4 v5)) := by kernel_rfl
theorem s106_3 (c : Nat → S U → Option R106) (p0 p1 : TI) (v2 : Int) (v3 : TI) : res TP X q106 [3, 7] (fun q st => c q (keepD D106 (h106 p0 p1).length q st)) 3 body106 (finH TP Try.f106.results.toList (h106 p0 p1).length false k106) (m106_3 p0 p1 v2 v3) = b106_3 p0 p1 (fun v2 v3 => c 3 (m106_3 p0 p1 v2 v3)) (fun v2 v3 v4 v5 => c 7 (m106_7 p0 p1 v2 v3 v4 v5)) v2 v3 := by kernel_rfl
theorem s106_7 (c : Nat → S U → Option R106) (p0 p1 : TI) (v2 v3 v4 : Int) (v5 : TI) : res TP X q106 [3, 7] (fun q st => c q (keepD D106 (h106 p0 p1).length q st)) 7 body106 (finH TP Try.f106.results.toList (h106 p0 p1).length false k106) (m106_7 p0 p1 v2 v3 v4 v5) = b106_7 p0 p1 (fun v2 v3 => c 3 (m106_3 p0 p1 v2 v3)) (fun v2 v3 v4 v5 => c 7 (m106_7 p0 p1 v2 v3 v4 v5)) v2 v3 v4 v5 := by kernel_rfl
mutual
def f106_3 (p0 p1 : TI) : Nat → Int → TI → Option R106
  | 0 => fun _ _ => none
  | k + 1 => b106_3 p0 p1 (f106_3 p0 p1 k) (f106_7 p0 p1 k)
def f106_7 (p0 p1 : TI) : Nat → Int → (Int) → Int → TI → Option R106
  | 0 => fun _ _ _ _ => none
  | k + 1 => b106_7 p0 p1 (f106_3 p0 p1 k) (f106_7 p0 p1 k)
end
def f106 (k : Nat) (p0 p1 : TI) : Option R106 := b106 p0 p1 (f106_3 p0 p1 k) (f106_7 p0 p1 k)
theorem e106 (p0 p1 : TI) : ∀ k, ((fun v2 v3 => cutG TP X q106 [3, 7] D106 (h106 p0 p1).length body106 (finH TP Try.f106.results.toList (h106 p0 p1).length false k106) k 3 (m106_3 p0 p1 v2 v3)) = f106_3 p0 p1 k) ∧ ((fun v2 v3 v4 v5 => cutG TP X q106 [3, 7] D106 (h106 p0 p1).length body106 (finH TP Try.f106.results.toList (h106 p0 p1).length false k106) k 7 (m106_7 p0 p1 v2 v3 v4 v5)) = f106_7 p0 p1 k)
  | 0 => ⟨rfl, rfl⟩
  | k + 1 => by
    have ih := e106 p0 p1 k
    refine ⟨?_, ?_⟩
    · funext v2 v3
      refine (if_pos (by kernel_rfl)).trans ?_
      rw [s106_3]
      simp only [ih]
      rfl
    · funext v2 v3 v4 v5
      refine (if_pos (by kernel_rfl)).trans ?_
      rw [s106_7]
      simp only [ih]
      rfl
theorem pure106 (p0 p1 : TI) (pok : PrmOK TP X q106) (k : Nat) (r : R106) (h : f106 k p0 p1 = some r) : PureH TP X 106 [.imm 105 p0, .imm 105 p1] (h106 p0 p1) (out106 r) (outh106 r) :=
  pure_gen good k (fn := Try.f106) (body := body106) (prim := q106) (D := D106) (cuts := [3, 7]) (h := h106 p0 p1) (own := false) (by kernel_rfl) (by kernel_rfl) (by decide +kernel) pok hk106 (by
    rw [s106]
    have ih := e106 p0 p1 k
    simp only [ih]
    exact h)
def F106 {R : Type} (spec : TI → TI → Option R106) : Fn U R := fun args h k => match args, h with | [.imm 105 p0, .imm 105 p1], [] => (spec p0 p1).bind fun r => k (out106 r) (outh106 r) | _, _ => none
theorem ok106 {R : Type} (spec : TI → TI → Option R106) (hp : ∀ (p0 : TI) (p1 : TI) (r : R106), spec p0 p1 = some r → PureH TP X 106 [.imm 105 p0, .imm 105 p1] (h106 p0 p1) (out106 r) (outh106 r)) : FnOK TP X 106 (F106 spec : Fn U R) := by
  intro args h k r hh
  unfold F106 at hh
  split at hh
  · obtain ⟨x, h1, h2⟩ := Option.bind_eq_some_iff.1 hh
    exact ⟨_, _, h2, hp _ _ _ h1⟩
  · cases hh
theorem pok106 : PrmOK TP X q106 := prims_nil TP X mixed
noncomputable def S106 (p0 p1 : TI) : Option R106 := evv fun k => f106 k p0 p1
theorem okS106 {R : Type} : FnOK TP X 106 (F106 S106 : Fn U R) := ok106 S106 fun p0 p1 r h => by
  obtain ⟨k, hk⟩ := evv_fuel h
  exact pure106 p0 p1 pok106 k r hk
end
end Go.Abs.Z
namespace Go.Abs.Z
open Go Go.Abs Go.Proofs
noncomputable section
abbrev R89 : Type := TI
noncomputable def body89 : Go.Code := (Try.f89.body).getD Go.Code.skip
def h89 (p0 : Int) : List (AO U) := []
def k89 : AV U → List (AO U) → Option R89 := fun v h => match v, h with | AV.imm 105 x0, [] => some x0 | _, _ => none
def out89 : R89 → AV U := fun x0 => AV.imm 105 x0
def outh89 : R89 → List (AO U) := fun x0 => []
def D89 : Nat → Dir := dirs []
def b89 (p0 : Int)   : Option R89 :=
  (S81 [IntKind.u32.wrap p0, IntKind.u32.wrap (shr IntKind.u64 p0 32)]).bind fun r0 =>
  some (r0)
theorem hk89 : ∀ v h' r, k89 v h' = some r → v = out89 r ∧ h' = outh89 r := by
  intro v h' r h
  unfold k89 at h
  split at h
  · injection h with h; subst h; exact ⟨rfl, rfl⟩
  · cases h
abbrev q89 : Prim U R89 := prims X [⟨81, fun _ => true, [.frz], F81 S81⟩]
theorem s89 (c : Nat → S U → Option R89) (p0 : Int) : seg TP X q89 [] (fun q st => c q (keepD D89 (h89 p0).length q st)) body89 (finH TP Try.f89.results.toList (h89 p0).length false k89) (start [.int .u64 p0] Try.f89.ntmps (h89 p0)) = b89 p0  := by kernel_rfl
def f89 (_ : Nat) (p0 : Int) : Option R89 := b89 p0
theorem pure89 (p0 : Int) (pok : PrmOK TP X q89) (k : Nat) (r : R89) (h : f89 k p0 = some r) : PureH TP X 89 [.int .u64 p0] (h89 p0) (out89 r) (outh89 r) :=
  pure_gen good 0 (fn := Try.f89) (body := body89) (prim := q89) (D := D89) (cuts := []) (h := h89 p0) (own := false) (by kernel_rfl) (by kernel_rfl) (by decide +kernel) pok hk89 (by
    rw [s89]
    exact h)
def F89 {R : Type} (spec : (Int) → Option R89) : Fn U R := fun args h k => match args, h with | [.int .u64 p0], [] => (spec p0).bind fun r => k (out89 r) (outh89 r) | _, _ => none
theorem ok89 {R : Type} (spec : (Int) → Option R89) (hp : ∀ (p0 : Int) (r : R89), spec p0 = some r → PureH TP X 89 [.int .u64 p0] (h89 p0) (out89 r) (outh89 r)) : FnOK TP X 89 (F89 spec : Fn U R) := by
  intro args h k r hh
  unfold F89 at hh
  split at hh
  · obtain ⟨x, h1, h2⟩ := Option.bind_eq_some_iff.1 hh
    exact ⟨_, _, h2, hp _ _ h1⟩
  · cases hh
theorem pok89 : PrmOK TP X q89 := prims_cons good okS81 (prims_nil TP X mixed)
noncomputable def S89 (p0 : Int) : Option R89 := evv fun k => f89 k p0
theorem okS89 {R : Type} : FnOK TP X 89 (F89 S89 : Fn U R) := ok89 S89 fun p0 r h => by
  obtain ⟨k, hk⟩ := evv_fuel h
  exact pure89 p0 pok89 k r hk
end
end Go.Abs.Z
namespace Go.Abs.Z
open Go Go.Abs Go.Proofs
noncomputable section
abbrev R87 : Type := TI × Int × (Int)
noncomputable def body87 : Go.Code := (Try.f87.body).getD Go.Code.skip
def h87 (p0 : ByteArray) (p1 : Int) : List (AO U) := []
def k87 : AV U → List (AO U) → Option R87 := fun v h => match v, h with | AV.tup [AV.imm 105 x0, AV.int IntKind.i64 x1, AV.int IntKind.i64 x2], [] => some (x0, x1, x2) | _, _ => none
def out87 : R87 → AV U := fun (x0, x1, x2) => AV.tup [AV.imm 105 x0, AV.int IntKind.i64 x1, AV.int IntKind.i64 x2]
def outh87 : R87 → List (AO U) := fun (x0, x1, x2) => []
def D87 : Nat → Dir := dirs [(8, ⟨[0, 1, 7], [], [], []⟩), (14, ⟨[0, 1, 8, 9], [], [(8, none)], []⟩)]
def b87 (p0 : ByteArray) (p1 : Int) (c8 : (Int) → Option R87) (c14 : TI → Int → Option R87)  : Option R87 :=
  cond (decide ((↑p0.size : Int) > 65536))
  (some (([], 65536, 4)))
  (cond (decide (p1 < 2))
  (some (([], 0, 22)))
  (cond (decide (p1 > 36))
  (some (([], 0, 22)))
  (cond ((↑p0.size : Int) == 0)
  (some (([], 0, 5)))
  (c8 (0)))))
def m87_8 (p0 : ByteArray) (p1 v2 : Int) : S U := S.mk [AV.str p0, AV.int IntKind.i64 p1, AV.undef, AV.undef, AV.undef, AV.undef, AV.undef, AV.int IntKind.i64 v2, AV.undef, AV.undef, AV.undef, AV.undef, AV.undef, AV.undef, AV.undef, AV.undef, AV.undef, AV.undef, AV.undef, AV.undef, AV.undef, AV.undef, AV.undef, AV.undef, AV.undef, AV.undef, AV.undef, AV.undef, AV.undef, AV.undef, AV.undef, AV.undef, AV.undef, AV.undef, AV.undef, AV.undef, AV.undef, AV.undef, AV.undef, AV.undef, AV.undef, AV.undef, AV.undef, AV.undef, AV.undef, AV.undef, AV.undef, AV.undef, AV.undef, AV.undef, AV.undef, AV.undef, AV.undef, AV.undef, AV.undef, AV.undef, AV.undef, AV.undef] []
def b87_8 (p0 : ByteArray) (p1 : Int) (c8 : (Int) → Option R87) (c14 : TI → Int → Option R87) (v2 : Int) : Option R87 :=
  cond (decide (v2 < (↑p0.size : Int)))
  (cond (decide (0 ≤ v2))
  (cond (decide (v2 < (↑p0.size : Int)))
  ((S104 (bt p0 v2)).bind fun r0 =>
  cond (decide (r0 ≥ p1))
  (some (([], v2, 5)))
  (c8 (IntKind.i64.wrap (v2 + 1))))
  (none))
  (none))
  (c14 ([]) (0))
def m87_14 (p0 : ByteArray) (p1 : Int) (v2 : TI) (v3 : Int) : S U := S.mk [AV.str p0, AV.int IntKind.i64 p1, AV.undef, AV.undef, AV.undef, AV.undef, AV.undef, AV.undef, AV.imm 105 v2, AV.int IntKind.i64 v3, AV.undef, AV.undef, AV.undef, AV.undef, AV.undef, AV.undef, AV.undef, AV.undef, AV.undef, AV.undef, AV.undef, AV.undef, AV.undef, AV.undef, AV.undef, AV.undef, AV.undef, AV.undef, AV.undef, AV.undef, AV.undef, AV.undef, AV.undef, AV.undef, AV.undef, AV.undef, AV.undef, AV.undef, AV.undef, AV.undef, AV.undef, AV.undef, AV.undef, AV.undef, AV.undef, AV.undef, AV.undef, AV.undef, AV.undef, AV.undef, AV.undef, AV.undef, AV.undef, AV.undef, AV.undef, AV.undef, AV.undef, AV.undef] []
def b87_14 (p0 : ByteArray) (p1 : Int) (c8 : (Int) → Option R87) (c14 : TI → Int → Option R87) (v2 : TI) (v3 : Int) : Option R87 :=
  cond (decide (v3 < (↑p0.size : Int)))
  ((S89 (IntKind.u64.wrap p1)).bind fun r0 =>
  (S106 v2 r0).bind fun r1 =>
  cond (decide (0 ≤ v3))
  (cond (decide (v3 < (↑p0.size : Int)))
  ((S104 (bt p0 v3)).bind fun r2 =>
  (S89 (IntKind.u64.wrap r2)).bind fun r3 =>
  (S105 r1 r3).bind fun r4 =>
  (S81 r4).bind fun r5 =>
  cond (decide ((↑(List.length r5) : Int) > 2048))
  (some (([], 0, 2)))
  (c14 (r5) (IntKind.i64.wrap (v3 + 1))))
  (none))
  (none))
  (some ((v2, 0, 0)))
theorem hk87 : ∀ v h' r, k87 v h' = some r → v = out87 r ∧ h' = outh87 r := by
  intro v h' r h
  unfold k87 at h
  split at h
  · injection h with h; subst h; exact ⟨rfl, rfl⟩
  · cases h
abbrev q87 : Prim U R87 := prims X [⟨104, fun _ => true, [.lend], F104 S104⟩, ⟨89, fun _ => true, [.lend], F89 S89⟩, ⟨106, fun _ => true, [.lend, .lend], F106 S106⟩, ⟨105, fun _ => true, [.lend, .lend], F105 S105⟩, ⟨81, fun _ => true, [.frz], F81 S81⟩]
theorem s87 (c : Nat → S U → Option R87) (p0 : ByteArray) (p1 : Int) : seg TP X q87 [8, 14] (fun q st => c q (keepD D87 (h87 p0 p1).length q st)) body87 (finH TP Try.f87.results.toList (h87 p0 p1).length false k87) (start [.str p0, .int .i64 p1] Try.f87.ntmps (h87 p0 p1)) = b87 p0 p1 (fun v2 => c 8 (m87_8 p0 p1 v2)) (fun v2 v3 => c 14 (m87_14 p0 p1 v2 v3)) := by kernel_rfl
theorem s87_8 (c : Nat → S U → Option R87) (p0 : ByteArray) (p1 v2 : Int) : res TP X q87 [8, 14] (fun q st => c q (keepD D87 (h87 p0 p1).length q st)) 8 body87 (finH TP Try.f87.results.toList (h87 p0 p1).length false k87) (m87_8 p0 p1 v2) = b87_8 p0 p1 (fun v2 => c 8 (m87_8 p0 p1 v2)) (fun v2 v3 => c 14 (m87_14 p0 p1 v2 v3)) v2 := by kernel_rfl
theorem s87_14 (c : Nat → S U → Option R87) (p0 : ByteArray) (p1 : Int) (v2 : TI) (v3 : Int) : res TP X q87 [8, 14] (fun q st => c q (keepD D87 (h87 p0 p1).length q st)) 14 body87 (finH TP Try.f87.results.toList (h87 p0 p1).length false k87) (m87_14 p0 p1 v2 v3) = b87_14 p0 p1 (fun v2 => c 8 (m87_8 p0 p1 v2)) (fun v2 v3 => c 14 (m87_14 p0 p1 v2 v3)) v2 v3 := by kernel_rfl
mutual
def f87_8 (p0 : ByteArray) (p1 : Int) : Nat → Int → Option R87
  | 0 => fun _ => none
  | k + 1 => b87_8 p0 p1 (f87_8 p0 p1 k) (f87_14 p0 p1 k)
def f87_14 (p0 : ByteArray) (p1 : Int) : Nat → TI → Int → Option R87
  | 0 => fun _ _ => none
  | k + 1 => b87_14 p0 p1 (f87_8 p0 p1 k) (f87_14 p0 p1 k)
end
def f87 (k : Nat) (p0 : ByteArray) (p1 : Int) : Option R87 := b87 p0 p1 (f87_8 p0 p1 k) (f87_14 p0 p1 k)
theorem e87 (p0 : ByteArray) (p1 : Int) : ∀ k, ((fun v2 => cutG TP X q87 [8, 14] D87 (h87 p0 p1).length body87 (finH TP Try.f87.results.toList (h87 p0 p1).length false k87) k 8 (m87_8 p0 p1 v2)) = f87_8 p0 p1 k) ∧ ((fun v2 v3 => cutG TP X q87 [8, 14] D87 (h87 p0 p1).length body87 (finH TP Try.f87.results.toList (h87 p0 p1).length false k87) k 14 (m87_14 p0 p1 v2 v3)) = f87_14 p0 p1 k)
  | 0 => ⟨rfl, rfl⟩
  | k + 1 => by
    have ih := e87 p0 p1 k
    refine ⟨?_, ?_⟩
    · funext v2
      refine (if_pos (by kernel_rfl)).trans ?_
      rw [s87_8]
      simp only [ih]
      rfl
    · funext v2 v3
      refine (if_pos (by kernel_rfl)).trans ?_
      rw [s87_14]
      simp only [ih]
      rfl
theorem pure87 (p0 : ByteArray) (p1 : Int) (pok : PrmOK TP X q87) (k : Nat) (r : R87) (h : f87 k p0 p1 = some r) : PureH TP X 87 [.str p0, .int .i64 p1] (h87 p0 p1) (out87 r) (outh87 r) :=
  pure_gen good k (fn := Try.f87) (body := body87) (prim := q87) (D := D87) (cuts := [8, 14]) (h := h87 p0 p1) (own := false) (by kernel_rfl) (by kernel_rfl) (by decide +kernel) pok hk87 (by
    rw [s87]
    have ih := e87 p0 p1 k
    simp only [ih]
    exact h)
def F87 {R : Type} (spec : (ByteArray) → Int → Option R87) : Fn U R := fun args h k => match args, h with | [.str p0, .int .i64 p1], [] => (spec p0 p1).bind fun r => k (out87 r) (outh87 r) | _, _ => none
theorem ok87 {R : Type} (spec : (ByteArray) → Int → Option R87) (hp : ∀ (p0 : ByteArray) (p1 : Int) (r : R87), spec p0 p1 = some r → PureH TP X 87 [.str p0, .int .i64 p1] (h87 p0 p1) (out87 r) (outh87 r)) : FnOK TP X 87 (F87 spec : Fn U R) := by
  intro args h k r hh
  unfold F87 at hh
  split at hh
  · obtain ⟨x, h1, h2⟩ := Option.bind_eq_some_iff.1 hh
    exact ⟨_, _, h2, hp _ _ _ h1⟩
  · cases hh
theorem pok87 : PrmOK TP X q87 := prims_cons good okS104 (prims_cons good okS89 (prims_cons good okS106 (prims_cons good okS105 (prims_cons good okS81 (prims_nil TP X mixed)))))
noncomputable def S87 (p0 : ByteArray) (p1 : Int) : Option R87 := evv fun k => f87 k p0 p1
theorem okS87 {R : Type} : FnOK TP X 87 (F87 S87 : Fn U R) := ok87 S87 fun p0 p1 r h => by
  obtain ⟨k, hk⟩ := evv_fuel h
  exact pure87 p0 p1 pok87 k r hk
end
end Go.Abs.Z
namespace Go.Abs.Z
open Go Go.Abs Go.Proofs
noncomputable section
abbrev R76 : Type := Int × Bool × TI × TI
noncomputable def body76 : Go.Code := (Try.f76.body).getD Go.Code.skip
def h76 (p0 : ByteArray) (p1 : Int) : List (AO U) := []
def k76 : AV U → List (AO U) → Option R76 := fun v h => match v, h with | AV.tup [AV.int IntKind.i64 x0, AV.agg [AV.bool x1, AV.imm 105 x2, AV.imm 105 x3]], [] => some (x0, x1, x2, x3) | _, _ => none
def out76 : R76 → AV U := fun (x0, x1, x2, x3) => AV.tup [AV.int IntKind.i64 x0, AV.agg [AV.bool x1, AV.imm 105 x2, AV.imm 105 x3]]
def outh76 : R76 → List (AO U) := fun (x0, x1, x2, x3) => []
def D76 : Nat → Dir := dirs [(11, ⟨[5, 6, 7, 8, 9, 10], [], [], []⟩), (6, ⟨[0, 1, 5, 6, 7, 8], [], [], []⟩), (9, ⟨[0, 1, 5, 6, 7, 8, 9], [], [], []⟩), (15, ⟨[5, 6, 7, 8], [], [], []⟩), (17, ⟨[5, 6, 7, 8], [], [], []⟩), (22, ⟨[0, 1, 5, 17, 18], [], [], []⟩), (24, ⟨[0, 1, 5, 17, 18], [], [], []⟩), (27, ⟨[0, 1, 5, 17, 18, 19, 20, 22, 23], [], [], []⟩), (29, ⟨[0, 1, 5, 17, 18, 20, 22, 23, 24], [], [], []⟩), (31, ⟨[0, 1, 5, 17, 18, 20, 22, 25], [], [], []⟩), (33, ⟨[0, 1, 5, 17, 18, 20, 22, 23, 24], [], [], []⟩), (35, ⟨[1, 5, 17, 18, 20, 23], [], [], []⟩)]
def b76 (p0 : ByteArray) (p1 : Int) (c6 : (Int) → (ByteArray) → Option R76) (c15 : (Int) → (ByteArray) → (ByteArray) → Option R76) (c22 : (Bool) → Option R76) (c9 : (Int) → (ByteArray) → Int → Option R76) (c17 : (Int) → (ByteArray) → (ByteArray) → Option R76) (c24 : (Int) → (Bool) → Option R76) (c11 : (Int) → (ByteArray) → (ByteArray) → Int → (Int) → Option R76) (c27 : (Int) → (Bool) → Int → TI → Int → TI → Option R76) (c29 : (Int) → (Bool) → TI → Int → TI → Option R76) (c31 : (Int) → (Bool) → TI → Int → (Int) → Option R76) (c33 : (Int) → (Bool) → TI → Int → TI → Int → Option R76) (c35 : (Int) → (Bool) → TI → TI → Option R76)  : Option R76 :=
  cond (decide (0 ≤ p1))
  (cond (decide (p1 < (↑p0.size : Int)))
  (cond (bt p0 p1 != 91)
  ((S86 p0 p1).bind fun r0 =>
  cond (decide (0 ≤ p1))
  (cond (decide (p1 ≤ IntKind.i64.wrap (p1 + r0)))
  (cond (decide (IntKind.i64.wrap (p1 + r0) ≤ (↑p0.size : Int)))
  (cond (decide (IntKind.i64.wrap (p1 + r0) < (↑p0.size : Int)))
  (cond (decide (0 ≤ IntKind.i64.wrap (p1 + r0)))
  (cond (decide (IntKind.i64.wrap (p1 + r0) < (↑p0.size : Int)))
  (cond (bt p0 (IntKind.i64.wrap (p1 + r0)) == 46)
  (c6 (r0) (p0.extract p1.toNat (IntKind.i64.wrap (p1 + r0)).toNat))
  (c15 (r0) (p0.extract p1.toNat (IntKind.i64.wrap (p1 + r0)).toNat) (ByteArray.mk #[49])))
  (none))
  (none))
  (c15 (r0) (p0.extract p1.toNat (IntKind.i64.wrap (p1 + r0)).toNat) (ByteArray.mk #[49])))
  (none))
  (none))
  (none))
  (cond (decide (IntKind.i64.wrap (p1 + 1) < (↑p0.size : Int)))
  (cond (decide (0 ≤ IntKind.i64.wrap (p1 + 1)))
  (cond (decide (IntKind.i64.wrap (p1 + 1) < (↑p0.size : Int)))
  (c22 (bt p0 (IntKind.i64.wrap (p1 + 1)) == 45))
  (none))
  (none))
  (c22 (false))))
  (none))
  (none)
def m76_6 (p0 : ByteArray) (p1 v2 : Int) (v3 : ByteArray) : S U := S.mk [AV.str p0, AV.int IntKind.i64 p1, AV.undef, AV.undef, AV.undef, AV.ptr 0 0, AV.int IntKind.i64 v2, AV.str v3, AV.str (ByteArray.mk #[49]), AV.undef, AV.undef, AV.undef, AV.undef, AV.undef, AV.undef, AV.undef, AV.undef, AV.undef, AV.undef, AV.undef, AV.undef, AV.undef, AV.undef, AV.undef, AV.undef, AV.undef, AV.undef, AV.undef, AV.undef, AV.undef, AV.undef, AV.undef, AV.undef, AV.undef, AV.undef, AV.undef, AV.undef, AV.undef, AV.undef, AV.undef, AV.undef, AV.undef, AV.undef, AV.undef, AV.undef, AV.undef, AV.undef, AV.undef, AV.undef, AV.undef, AV.undef, AV.undef, AV.undef, AV.undef, AV.undef, AV.undef, AV.undef, AV.undef, AV.undef, AV.undef, AV.undef, AV.undef, AV.undef, AV.undef, AV.undef, AV.undef, AV.undef, AV.undef, AV.undef, AV.undef, AV.undef, AV.undef, AV.undef, AV.undef, AV.undef, AV.undef, AV.undef, AV.undef, AV.undef, AV.undef, AV.undef, AV.undef, AV.undef, AV.undef, AV.undef, AV.undef, AV.undef, AV.undef, AV.undef, AV.undef, AV.undef, AV.undef, AV.undef, AV.undef, AV.undef, AV.undef, AV.undef, AV.undef, AV.undef, AV.undef, AV.undef, AV.undef, AV.undef, AV.undef, AV.undef, AV.undef, AV.undef, AV.undef, AV.undef, AV.undef, AV.undef, AV.undef, AV.undef, AV.undef, AV.undef, AV.undef, AV.undef, AV.undef, AV.undef, AV.undef, AV.undef, AV.undef, AV.undef, AV.undef, AV.undef, AV.undef, AV.undef, AV.undef, AV.undef, AV.undef, AV.undef, AV.undef, AV.undef, AV.undef, AV.undef, AV.undef, AV.undef, AV.undef, AV.undef, AV.undef, AV.undef, AV.undef, AV.undef, AV.undef, AV.undef, AV.undef, AV.undef, AV.undef, AV.undef, AV.undef, AV.undef, AV.undef, AV.undef, AV.undef, AV.undef, AV.undef, AV.undef, AV.undef, AV.undef, AV.undef, AV.undef, AV.undef, AV.undef, AV.undef, AV.undef, AV.undef, AV.undef, AV.undef, AV.undef, AV.undef, AV.undef, AV.undef, AV.undef, AV.undef, AV.undef, AV.undef, AV.undef, AV.undef, AV.undef, AV.undef, AV.undef, AV.undef, AV.undef, AV.undef, AV.undef, AV.undef, AV.undef, AV.undef, AV.undef, AV.undef, AV.undef, AV.undef, AV.undef, AV.undef, AV.undef, AV.undef, AV.undef, AV.undef, AV.undef, AV.undef, AV.undef, AV.undef] [AO.box [AV.bool false, AV.nils 105, AV.nils 105]]
def b76_6 (p0 : ByteArray) (p1 : Int) (c6 : (Int) → (ByteArray) → Option R76) (c15 : (Int) → (ByteArray) → (ByteArray) → Option R76) (c22 : (Bool) → Option R76) (c9 : (Int) → (ByteArray) → Int → Option R76) (c17 : (Int) → (ByteArray) → (ByteArray) → Option R76) (c24 : (Int) → (Bool) → Option R76) (c11 : (Int) → (ByteArray) → (ByteArray) → Int → (Int) → Option R76) (c27 : (Int) → (Bool) → Int → TI → Int → TI → Option R76) (c29 : (Int) → (Bool) → TI → Int → TI → Option R76) (c31 : (Int) → (Bool) → TI → Int → (Int) → Option R76) (c33 : (Int) → (Bool) → TI → Int → TI → Int → Option R76) (c35 : (Int) → (Bool) → TI → TI → Option R76) (v2 : Int) (v3 : ByteArray) : Option R76 :=
  (S86 p0 (IntKind.i64.wrap (IntKind.i64.wrap (p1 + v2) + 1))).bind fun r0 =>
  cond (r0 == 0)
  (some ((0, false, [], [])))
  (c9 (v2) (v3) (r0))
def m76_15 (p0 : ByteArray) (p1 v0 : Int) (v1 v2 : ByteArray) : S U := S.mk [AV.undef, AV.undef, AV.undef, AV.undef, AV.undef, AV.ptr 0 0, AV.int IntKind.i64 v0, AV.str v1, AV.str v2, AV.undef, AV.undef, AV.undef, AV.undef, AV.undef, AV.undef, AV.undef, AV.undef, AV.undef, AV.undef, AV.undef, AV.undef, AV.undef, AV.undef, AV.undef, AV.undef, AV.undef, AV.undef, AV.undef, AV.undef, AV.undef, AV.undef, AV.undef, AV.undef, AV.undef, AV.undef, AV.undef, AV.undef, AV.undef, AV.undef, AV.undef, AV.undef, AV.undef, AV.undef, AV.undef, AV.undef, AV.undef, AV.undef, AV.undef, AV.undef, AV.undef, AV.undef, AV.undef, AV.undef, AV.undef, AV.undef, AV.undef, AV.undef, AV.undef, AV.undef, AV.undef, AV.undef, AV.undef, AV.undef, AV.undef, AV.undef, AV.undef, AV.undef, AV.undef, AV.undef, AV.undef, AV.undef, AV.undef, AV.undef, AV.undef, AV.undef, AV.undef, AV.undef, AV.undef, AV.undef, AV.undef, AV.undef, AV.undef, AV.undef, AV.undef, AV.undef, AV.undef, AV.undef, AV.undef, AV.undef, AV.undef, AV.undef, AV.undef, AV.undef, AV.undef, AV.undef, AV.undef, AV.undef, AV.undef, AV.undef, AV.undef, AV.undef, AV.undef, AV.undef, AV.undef, AV.undef, AV.undef, AV.undef, AV.undef, AV.undef, AV.undef, AV.undef, AV.undef, AV.undef, AV.undef, AV.undef, AV.undef, AV.undef, AV.undef, AV.undef, AV.undef, AV.undef, AV.undef, AV.undef, AV.undef, AV.undef, AV.undef, AV.undef, AV.undef, AV.undef, AV.undef, AV.undef, AV.undef, AV.undef, AV.undef, AV.undef, AV.undef, AV.undef, AV.undef, AV.undef, AV.undef, AV.undef, AV.undef, AV.undef, AV.undef, AV.undef, AV.undef, AV.undef, AV.undef, AV.undef, AV.undef, AV.undef, AV.undef, AV.undef, AV.undef, AV.undef, AV.undef, AV.undef, AV.undef, AV.undef, AV.undef, AV.undef, AV.undef, AV.undef, AV.undef, AV.undef, AV.undef, AV.undef, AV.undef, AV.undef, AV.undef, AV.undef, AV.undef, AV.undef, AV.undef, AV.undef, AV.undef, AV.undef, AV.undef, AV.undef, AV.undef, AV.undef, AV.undef, AV.undef, AV.undef, AV.undef, AV.undef, AV.undef, AV.undef, AV.undef, AV.undef, AV.undef, AV.undef, AV.undef, AV.undef, AV.undef, AV.undef, AV.undef, AV.undef, AV.undef, AV.undef, AV.undef, AV.undef] [AO.box [AV.bool false, AV.nils 105, AV.nils 105]]
def b76_15 (p0 : ByteArray) (p1 : Int) (c6 : (Int) → (ByteArray) → Option R76) (c15 : (Int) → (ByteArray) → (ByteArray) → Option R76) (c22 : (Bool) → Option R76) (c9 : (Int) → (ByteArray) → Int → Option R76) (c17 : (Int) → (ByteArray) → (ByteArray) → Option R76) (c24 : (Int) → (Bool) → Option R76) (c11 : (Int) → (ByteArray) → (ByteArray) → Int → (Int) → Option R76) (c27 : (Int) → (Bool) → Int → TI → Int → TI → Option R76) (c29 : (Int) → (Bool) → TI → Int → TI → Option R76) (c31 : (Int) → (Bool) → TI → Int → (Int) → Option R76) (c33 : (Int) → (Bool) → TI → Int → TI → Int → Option R76) (c35 : (Int) → (Bool) → TI → TI → Option R76) (v0 : Int) (v1 v2 : ByteArray) : Option R76 :=
  cond (decide (v0 > 1000))
  (some ((0, false, [], [])))
  (c17 (v0) (v1) (v2))
def m76_22 (p0 : ByteArray) (p1 : Int) (v3 : Bool) : S U := S.mk [AV.str p0, AV.int IntKind.i64 p1, AV.undef, AV.undef, AV.undef, AV.ptr 0 0, AV.undef, AV.undef, AV.undef, AV.undef, AV.undef, AV.undef, AV.undef, AV.undef, AV.undef, AV.undef, AV.undef, AV.int IntKind.i64 (IntKind.i64.wrap (p1 + 1)), AV.bool v3, AV.undef, AV.undef, AV.undef, AV.undef, AV.undef, AV.undef, AV.undef, AV.undef, AV.undef, AV.undef, AV.undef, AV.undef, AV.undef, AV.undef, AV.undef, AV.undef, AV.undef, AV.undef, AV.undef, AV.undef, AV.undef, AV.undef, AV.undef, AV.undef, AV.undef, AV.undef, AV.undef, AV.undef, AV.undef, AV.undef, AV.undef, AV.undef, AV.undef, AV.undef, AV.undef, AV.undef, AV.undef, AV.undef, AV.undef, AV.undef, AV.undef, AV.undef, AV.undef, AV.undef, AV.undef, AV.undef, AV.undef, AV.undef, AV.undef, AV.undef, AV.undef, AV.undef, AV.undef, AV.undef, AV.undef, AV.undef, AV.undef, AV.undef, AV.undef, AV.undef, AV.undef, AV.undef, AV.undef, AV.undef, AV.undef, AV.undef, AV.undef, AV.undef, AV.undef, AV.undef, AV.undef, AV.undef, AV.undef, AV.undef, AV.undef, AV.undef, AV.undef, AV.undef, AV.undef, AV.undef, AV.undef, AV.undef, AV.undef, AV.undef, AV.undef, AV.undef, AV.undef, AV.undef, AV.undef, AV.undef, AV.undef, AV.undef, AV.undef, AV.undef, AV.undef, AV.undef, AV.undef, AV.undef, AV.undef, AV.undef, AV.undef, AV.undef, AV.undef, AV.undef, AV.undef, AV.undef, AV.undef, AV.undef, AV.undef, AV.undef, AV.undef, AV.undef, AV.undef, AV.undef, AV.undef, AV.undef, AV.undef, AV.undef, AV.undef, AV.undef, AV.undef, AV.undef, AV.undef, AV.undef, AV.undef, AV.undef, AV.undef, AV.undef, AV.undef, AV.undef, AV.undef, AV.undef, AV.undef, AV.undef, AV.undef, AV.undef, AV.undef, AV.undef, AV.undef, AV.undef, AV.undef, AV.undef, AV.undef, AV.undef, AV.undef, AV.undef, AV.undef, AV.undef, AV.undef, AV.undef, AV.undef, AV.undef, AV.undef, AV.undef, AV.undef, AV.undef, AV.undef, AV.undef, AV.undef, AV.undef, AV.undef, AV.undef, AV.undef, AV.undef, AV.undef, AV.undef, AV.undef, AV.undef, AV.undef, AV.undef, AV.undef, AV.undef, AV.undef, AV.undef, AV.undef, AV.undef, AV.undef, AV.undef, AV.undef, AV.undef, AV.undef, AV.undef, AV.undef] [AO.box [AV.bool false, AV.nils 105, AV.nils 105]]
def b76_22 (p0 : ByteArray) (p1 : Int) (c6 : (Int) → (ByteArray) → Option R76) (c15 : (Int) → (ByteArray) → (ByteArray) → Option R76) (c22 : (Bool) → Option R76) (c9 : (Int) → (ByteArray) → Int → Option R76) (c17 : (Int) → (ByteArray) → (ByteArray) → Option R76) (c24 : (Int) → (Bool) → Option R76) (c11 : (Int) → (ByteArray) → (ByteArray) → Int → (Int) → Option R76) (c27 : (Int) → (Bool) → Int → TI → Int → TI → Option R76) (c29 : (Int) → (Bool) → TI → Int → TI → Option R76) (c31 : (Int) → (Bool) → TI → Int → (Int) → Option R76) (c33 : (Int) → (Bool) → TI → Int → TI → Int → Option R76) (c35 : (Int) → (Bool) → TI → TI → Option R76) (v3 : Bool) : Option R76 :=
  cond (v3)
  (c24 (IntKind.i64.wrap (IntKind.i64.wrap (p1 + 1) + 1)) (v3))
  (c24 (IntKind.i64.wrap (p1 + 1)) (v3))
def m76_9 (p0 : ByteArray) (p1 v2 : Int) (v3 : ByteArray) (v5 : Int) : S U := S.mk [AV.str p0, AV.int IntKind.i64 p1, AV.undef, AV.undef, AV.undef, AV.ptr 0 0, AV.int IntKind.i64 v2, AV.str v3, AV.str (ByteArray.mk #[49]), AV.int IntKind.i64 v5, AV.undef, AV.undef, AV.undef, AV.undef, AV.undef, AV.undef, AV.undef, AV.undef, AV.undef, AV.undef, AV.undef, AV.undef, AV.undef, AV.undef, AV.undef, AV.undef, AV.undef, AV.undef, AV.undef, AV.undef, AV.undef, AV.undef, AV.undef, AV.undef, AV.undef, AV.undef, AV.undef, AV.undef, AV.undef, AV.undef, AV.undef, AV.undef, AV.undef, AV.undef, AV.undef, AV.undef, AV.undef, AV.undef, AV.undef, AV.undef, AV.undef, AV.undef, AV.undef, AV.undef, AV.undef, AV.undef, AV.undef, AV.undef, AV.undef, AV.undef, AV.undef, AV.undef, AV.undef, AV.undef, AV.undef, AV.undef, AV.undef, AV.undef, AV.undef, AV.undef, AV.undef, AV.undef, AV.undef, AV.undef, AV.undef, AV.undef, AV.undef, AV.undef, AV.undef, AV.undef, AV.undef, AV.undef, AV.undef, AV.undef, AV.undef, AV.undef, AV.undef, AV.undef, AV.undef, AV.undef, AV.undef, AV.undef, AV.undef, AV.undef, AV.undef, AV.undef, AV.undef, AV.undef, AV.undef, AV.undef, AV.undef, AV.undef, AV.undef, AV.undef, AV.undef, AV.undef, AV.undef, AV.undef, AV.undef, AV.undef, AV.undef, AV.undef, AV.undef, AV.undef, AV.undef, AV.undef, AV.undef, AV.undef, AV.undef, AV.undef, AV.undef, AV.undef, AV.undef, AV.undef, AV.undef, AV.undef, AV.undef, AV.undef, AV.undef, AV.undef, AV.undef, AV.undef, AV.undef, AV.undef, AV.undef, AV.undef, AV.undef, AV.undef, AV.undef, AV.undef, AV.undef, AV.undef, AV.undef, AV.undef, AV.undef, AV.undef, AV.undef, AV.undef, AV.undef, AV.undef, AV.undef, AV.undef, AV.undef, AV.undef, AV.undef, AV.undef, AV.undef, AV.undef, AV.undef, AV.undef, AV.undef, AV.undef, AV.undef, AV.undef, AV.undef, AV.undef, AV.undef, AV.undef, AV.undef, AV.undef, AV.undef, AV.undef, AV.undef, AV.undef, AV.undef, AV.undef, AV.undef, AV.undef, AV.undef, AV.undef, AV.undef, AV.undef, AV.undef, AV.undef, AV.undef, AV.undef, AV.undef, AV.undef, AV.undef, AV.undef, AV.undef, AV.undef, AV.undef, AV.undef, AV.undef, AV.undef, AV.undef, AV.undef, AV.undef, AV.undef, AV.undef, AV.undef] [AO.box [AV.bool false, AV.nils 105, AV.nils 105]]
def b76_9 (p0 : ByteArray) (p1 : Int) (c6 : (Int) → (ByteArray) → Option R76) (c15 : (Int) → (ByteArray) → (ByteArray) → Option R76) (c22 : (Bool) → Option R76) (c9 : (Int) → (ByteArray) → Int → Option R76) (c17 : (Int) → (ByteArray) → (ByteArray) → Option R76) (c24 : (Int) → (Bool) → Option R76) (c11 : (Int) → (ByteArray) → (ByteArray) → Int → (Int) → Option R76) (c27 : (Int) → (Bool) → Int → TI → Int → TI → Option R76) (c29 : (Int) → (Bool) → TI → Int → TI → Option R76) (c31 : (Int) → (Bool) → TI → Int → (Int) → Option R76) (c33 : (Int) → (Bool) → TI → Int → TI → Int → Option R76) (c35 : (Int) → (Bool) → TI → TI → Option R76) (v2 : Int) (v3 : ByteArray) (v5 : Int) : Option R76 :=
  cond (decide (0 ≤ IntKind.i64.wrap (IntKind.i64.wrap (p1 + v2) + 1)))
  (cond (decide (IntKind.i64.wrap (IntKind.i64.wrap (p1 + v2) + 1) ≤ IntKind.i64.wrap (IntKind.i64.wrap (IntKind.i64.wrap (p1 + v2) + 1) + v5)))
  (cond (decide (IntKind.i64.wrap (IntKind.i64.wrap (IntKind.i64.wrap (p1 + v2) + 1) + v5) ≤ (↑p0.size : Int)))
  (cond (decide (v3.size + (p0.extract (IntKind.i64.wrap (IntKind.i64.wrap (p1 + v2) + 1)).toNat (IntKind.i64.wrap (IntKind.i64.wrap (IntKind.i64.wrap (p1 + v2) + 1) + v5)).toNat).size ≤ 4611686018427387904))
  (c11 (v2) (v3 ++ p0.extract (IntKind.i64.wrap (IntKind.i64.wrap (p1 + v2) + 1)).toNat (IntKind.i64.wrap (IntKind.i64.wrap (IntKind.i64.wrap (p1 + v2) + 1) + v5)).toNat) (ByteArray.mk #[49]) (v5) (0))
  (none))
  (none))
  (none))
  (none)
def m76_17 (p0 : ByteArray) (p1 v0 : Int) (v1 v2 : ByteArray) : S U := S.mk [AV.undef, AV.undef, AV.undef, AV.undef, AV.undef, AV.ptr 0 0, AV.int IntKind.i64 v0, AV.str v1, AV.str v2, AV.undef, AV.undef, AV.undef, AV.undef, AV.undef, AV.undef, AV.undef, AV.undef, AV.undef, AV.undef, AV.undef, AV.undef, AV.undef, AV.undef, AV.undef, AV.undef, AV.undef, AV.undef, AV.undef, AV.undef, AV.undef, AV.undef, AV.undef, AV.undef, AV.undef, AV.undef, AV.undef, AV.undef, AV.undef, AV.undef, AV.undef, AV.undef, AV.undef, AV.undef, AV.undef, AV.undef, AV.undef, AV.undef, AV.undef, AV.undef, AV.undef, AV.undef, AV.undef, AV.undef, AV.undef, AV.undef, AV.undef, AV.undef, AV.undef, AV.undef, AV.undef, AV.undef, AV.undef, AV.undef, AV.undef, AV.undef, AV.undef, AV.undef, AV.undef, AV.undef, AV.undef, AV.undef, AV.undef, AV.undef, AV.undef, AV.undef, AV.undef, AV.undef, AV.undef, AV.undef, AV.undef, AV.undef, AV.undef, AV.undef, AV.undef, AV.undef, AV.undef, AV.undef, AV.undef, AV.undef, AV.undef, AV.undef, AV.undef, AV.undef, AV.undef, AV.undef, AV.undef, AV.undef, AV.undef, AV.undef, AV.undef, AV.undef, AV.undef, AV.undef, AV.undef, AV.undef, AV.undef, AV.undef, AV.undef, AV.undef, AV.undef, AV.undef, AV.undef, AV.undef, AV.undef, AV.undef, AV.undef, AV.undef, AV.undef, AV.undef, AV.undef, AV.undef, AV.undef, AV.undef, AV.undef, AV.undef, AV.undef, AV.undef, AV.undef, AV.undef, AV.undef, AV.undef, AV.undef, AV.undef, AV.undef, AV.undef, AV.undef, AV.undef, AV.undef, AV.undef, AV.undef, AV.undef, AV.undef, AV.undef, AV.undef, AV.undef, AV.undef, AV.undef, AV.undef, AV.undef, AV.undef, AV.undef, AV.undef, AV.undef, AV.undef, AV.undef, AV.undef, AV.undef, AV.undef, AV.undef, AV.undef, AV.undef, AV.undef, AV.undef, AV.undef, AV.undef, AV.undef, AV.undef, AV.undef, AV.undef, AV.undef, AV.undef, AV.undef, AV.undef, AV.undef, AV.undef, AV.undef, AV.undef, AV.undef, AV.undef, AV.undef, AV.undef, AV.undef, AV.undef, AV.undef, AV.undef, AV.undef, AV.undef, AV.undef, AV.undef, AV.undef, AV.undef, AV.undef, AV.undef, AV.undef, AV.undef, AV.undef, AV.undef, AV.undef, AV.undef, AV.undef, AV.undef, AV.undef] [AO.box [AV.bool false, AV.nils 105, AV.nils 105]]
def b76_17 (p0 : ByteArray) (p1 : Int) (c6 : (Int) → (ByteArray) → Option R76) (c15 : (Int) → (ByteArray) → (ByteArray) → Option R76) (c22 : (Bool) → Option R76) (c9 : (Int) → (ByteArray) → Int → Option R76) (c17 : (Int) → (ByteArray) → (ByteArray) → Option R76) (c24 : (Int) → (Bool) → Option R76) (c11 : (Int) → (ByteArray) → (ByteArray) → Int → (Int) → Option R76) (c27 : (Int) → (Bool) → Int → TI → Int → TI → Option R76) (c29 : (Int) → (Bool) → TI → Int → TI → Option R76) (c31 : (Int) → (Bool) → TI → Int → (Int) → Option R76) (c33 : (Int) → (Bool) → TI → Int → TI → Int → Option R76) (c35 : (Int) → (Bool) → TI → TI → Option R76) (v0 : Int) (v1 v2 : ByteArray) : Option R76 :=
  (S87 v1 10).bind fun r0 =>
  (S87 v2 10).bind fun r1 =>
  (S88 false r0.fst r1.fst).bind fun r2 =>
  some ((v0, r2.fst, r2.snd.fst, r2.snd.snd))
def m76_24 (p0 : ByteArray) (p1 v2 : Int) (v3 : Bool) : S U := S.mk [AV.str p0, AV.int IntKind.i64 p1, AV.undef, AV.undef, AV.undef, AV.ptr 0 0, AV.undef, AV.undef, AV.undef, AV.undef, AV.undef, AV.undef, AV.undef, AV.undef, AV.undef, AV.undef, AV.undef, AV.int IntKind.i64 v2, AV.bool v3, AV.undef, AV.undef, AV.undef, AV.undef, AV.undef, AV.undef, AV.undef, AV.undef, AV.undef, AV.undef, AV.undef, AV.undef, AV.undef, AV.undef, AV.undef, AV.undef, AV.undef, AV.undef, AV.undef, AV.undef, AV.undef, AV.undef, AV.undef, AV.undef, AV.undef, AV.undef, AV.undef, AV.undef, AV.undef, AV.undef, AV.undef, AV.undef, AV.undef, AV.undef, AV.undef, AV.undef, AV.undef, AV.undef, AV.undef, AV.undef, AV.undef, AV.undef, AV.undef, AV.undef, AV.undef, AV.undef, AV.undef, AV.undef, AV.undef, AV.undef, AV.undef, AV.undef, AV.undef, AV.undef, AV.undef, AV.undef, AV.undef, AV.undef, AV.undef, AV.undef, AV.undef, AV.undef, AV.undef, AV.undef, AV.undef, AV.undef, AV.undef, AV.undef, AV.undef, AV.undef, AV.undef, AV.undef, AV.undef, AV.undef, AV.undef, AV.undef, AV.undef, AV.undef, AV.undef, AV.undef, AV.undef, AV.undef, AV.undef, AV.undef, AV.undef, AV.undef, AV.undef, AV.undef, AV.undef, AV.undef, AV.undef, AV.undef, AV.undef, AV.undef, AV.undef, AV.undef, AV.undef, AV.undef, AV.undef, AV.undef, AV.undef, AV.undef, AV.undef, AV.undef, AV.undef, AV.undef, AV.undef, AV.undef, AV.undef, AV.undef, AV.undef, AV.undef, AV.undef, AV.undef, AV.undef, AV.undef, AV.undef, AV.undef, AV.undef, AV.undef, AV.undef, AV.undef, AV.undef, AV.undef, AV.undef, AV.undef, AV.undef, AV.undef, AV.undef, AV.undef, AV.undef, AV.undef, AV.undef, AV.undef, AV.undef, AV.undef, AV.undef, AV.undef, AV.undef, AV.undef, AV.undef, AV.undef, AV.undef, AV.undef, AV.undef, AV.undef, AV.undef, AV.undef, AV.undef, AV.undef, AV.undef, AV.undef, AV.undef, AV.undef, AV.undef, AV.undef, AV.undef, AV.undef, AV.undef, AV.undef, AV.undef, AV.undef, AV.undef, AV.undef, AV.undef, AV.undef, AV.undef, AV.undef, AV.undef, AV.undef, AV.undef, AV.undef, AV.undef, AV.undef, AV.undef, AV.undef, AV.undef, AV.undef, AV.undef, AV.undef, AV.undef, AV.undef, AV.undef] [AO.box [AV.bool false, AV.nils 105, AV.nils 105]]
def b76_24 (p0 : ByteArray) (p1 : Int) (c6 : (Int) → (ByteArray) → Option R76) (c15 : (Int) → (ByteArray) → (ByteArray) → Option R76) (c22 : (Bool) → Option R76) (c9 : (Int) → (ByteArray) → Int → Option R76) (c17 : (Int) → (ByteArray) → (ByteArray) → Option R76) (c24 : (Int) → (Bool) → Option R76) (c11 : (Int) → (ByteArray) → (ByteArray) → Int → (Int) → Option R76) (c27 : (Int) → (Bool) → Int → TI → Int → TI → Option R76) (c29 : (Int) → (Bool) → TI → Int → TI → Option R76) (c31 : (Int) → (Bool) → TI → Int → (Int) → Option R76) (c33 : (Int) → (Bool) → TI → Int → TI → Int → Option R76) (c35 : (Int) → (Bool) → TI → TI → Option R76) (v2 : Int) (v3 : Bool) : Option R76 :=
  (S86 p0 v2).bind fun r0 =>
  cond (decide (0 ≤ v2))
  (cond (decide (v2 ≤ IntKind.i64.wrap (v2 + r0)))
  (cond (decide (IntKind.i64.wrap (v2 + r0) ≤ (↑p0.size : Int)))
  ((S87 (p0.extract v2.toNat (IntKind.i64.wrap (v2 + r0)).toNat) 10).bind fun r1 =>
  (S89 1).bind fun r2 =>
  c27 (v2) (v3) (r0) (r1.fst) (r1.snd.snd) (r2))
  (none))
  (none))
  (none)
def m76_11 (p0 : ByteArray) (p1 v0 : Int) (v1 v2 : ByteArray) (v3 v4 : Int) : S U := S.mk [AV.undef, AV.undef, AV.undef, AV.undef, AV.undef, AV.ptr 0 0, AV.int IntKind.i64 v0, AV.str v1, AV.str v2, AV.int IntKind.i64 v3, AV.int IntKind.i64 v4, AV.undef, AV.undef, AV.undef, AV.undef, AV.undef, AV.undef, AV.undef, AV.undef, AV.undef, AV.undef, AV.undef, AV.undef, AV.undef, AV.undef, AV.undef, AV.undef, AV.undef, AV.undef, AV.undef, AV.undef, AV.undef, AV.undef, AV.undef, AV.undef, AV.undef, AV.undef, AV.undef, AV.undef, AV.undef, AV.undef, AV.undef, AV.undef, AV.undef, AV.undef, AV.undef, AV.undef, AV.undef, AV.undef, AV.undef, AV.undef, AV.undef, AV.undef, AV.undef, AV.undef, AV.undef, AV.undef, AV.undef, AV.undef, AV.undef, AV.undef, AV.undef, AV.undef, AV.undef, AV.undef, AV.undef, AV.undef, AV.undef, AV.undef, AV.undef, AV.undef, AV.undef, AV.undef, AV.undef, AV.undef, AV.undef, AV.undef, AV.undef, AV.undef, AV.undef, AV.undef, AV.undef, AV.undef, AV.undef, AV.undef, AV.undef, AV.undef, AV.undef, AV.undef, AV.undef, AV.undef, AV.undef, AV.undef, AV.undef, AV.undef, AV.undef, AV.undef, AV.undef, AV.undef, AV.undef, AV.undef, AV.undef, AV.undef, AV.undef, AV.undef, AV.undef, AV.undef, AV.undef, AV.undef, AV.undef, AV.undef, AV.undef, AV.undef, AV.undef, AV.undef, AV.undef, AV.undef, AV.undef, AV.undef, AV.undef, AV.undef, AV.undef, AV.undef, AV.undef, AV.undef, AV.undef, AV.undef, AV.undef, AV.undef, AV.undef, AV.undef, AV.undef, AV.undef, AV.undef, AV.undef, AV.undef, AV.undef, AV.undef, AV.undef, AV.undef, AV.undef, AV.undef, AV.undef, AV.undef, AV.undef, AV.undef, AV.undef, AV.undef, AV.undef, AV.undef, AV.undef, AV.undef, AV.undef, AV.undef, AV.undef, AV.undef, AV.undef, AV.undef, AV.undef, AV.undef, AV.undef, AV.undef, AV.undef, AV.undef, AV.undef, AV.undef, AV.undef, AV.undef, AV.undef, AV.undef, AV.undef, AV.undef, AV.undef, AV.undef, AV.undef, AV.undef, AV.undef, AV.undef, AV.undef, AV.undef, AV.undef, AV.undef, AV.undef, AV.undef, AV.undef, AV.undef, AV.undef, AV.undef, AV.undef, AV.undef, AV.undef, AV.undef, AV.undef, AV.undef, AV.undef, AV.undef, AV.undef, AV.undef, AV.undef, AV.undef, AV.undef, AV.undef] [AO.box [AV.bool false, AV.nils 105, AV.nils 105]]
def b76_11 (p0 : ByteArray) (p1 : Int) (c6 : (Int) → (ByteArray) → Option R76) (c15 : (Int) → (ByteArray) → (ByteArray) → Option R76) (c22 : (Bool) → Option R76) (c9 : (Int) → (ByteArray) → Int → Option R76) (c17 : (Int) → (ByteArray) → (ByteArray) → Option R76) (c24 : (Int) → (Bool) → Option R76) (c11 : (Int) → (ByteArray) → (ByteArray) → Int → (Int) → Option R76) (c27 : (Int) → (Bool) → Int → TI → Int → TI → Option R76) (c29 : (Int) → (Bool) → TI → Int → TI → Option R76) (c31 : (Int) → (Bool) → TI → Int → (Int) → Option R76) (c33 : (Int) → (Bool) → TI → Int → TI → Int → Option R76) (c35 : (Int) → (Bool) → TI → TI → Option R76) (v0 : Int) (v1 v2 : ByteArray) (v3 v4 : Int) : Option R76 :=
  cond (decide (v4 < v3))
  (cond (decide (v2.size + (ByteArray.mk #[48]).size ≤ 4611686018427387904))
  (c11 (v0) (v1) (v2 ++ ByteArray.mk #[48]) (v3) (IntKind.i64.wrap (v4 + 1)))
  (none))
  (c15 (IntKind.i64.wrap (IntKind.i64.wrap (v0 + 1) + v3)) (v1) (v2))
def m76_27 (p0 : ByteArray) (p1 v2 : Int) (v3 : Bool) (v4 : Int) (v5 : TI) (v6 : Int) (v7 : TI) : S U := S.mk [AV.str p0, AV.int IntKind.i64 p1, AV.undef, AV.undef, AV.undef, AV.ptr 0 0, AV.undef, AV.undef, AV.undef, AV.undef, AV.undef, AV.undef, AV.undef, AV.undef, AV.undef, AV.undef, AV.undef, AV.int IntKind.i64 v2, AV.bool v3, AV.int IntKind.i64 v4, AV.imm 105 v5, AV.undef, AV.int IntKind.i64 v6, AV.imm 105 v7, AV.undef, AV.undef, AV.undef, AV.undef, AV.undef, AV.undef, AV.undef, AV.undef, AV.undef, AV.undef, AV.undef, AV.undef, AV.undef, AV.undef, AV.undef, AV.undef, AV.undef, AV.undef, AV.undef, AV.undef, AV.undef, AV.undef, AV.undef, AV.undef, AV.undef, AV.undef, AV.undef, AV.undef, AV.undef, AV.undef, AV.undef, AV.undef, AV.undef, AV.undef, AV.undef, AV.undef, AV.undef, AV.undef, AV.undef, AV.undef, AV.undef, AV.undef, AV.undef, AV.undef, AV.undef, AV.undef, AV.undef, AV.undef, AV.undef, AV.undef, AV.undef, AV.undef, AV.undef, AV.undef, AV.undef, AV.undef, AV.undef, AV.undef, AV.undef, AV.undef, AV.undef, AV.undef, AV.undef, AV.undef, AV.undef, AV.undef, AV.undef, AV.undef, AV.undef, AV.undef, AV.undef, AV.undef, AV.undef, AV.undef, AV.undef, AV.undef, AV.undef, AV.undef, AV.undef, AV.undef, AV.undef, AV.undef, AV.undef, AV.undef, AV.undef, AV.undef, AV.undef, AV.undef, AV.undef, AV.undef, AV.undef, AV.undef, AV.undef, AV.undef, AV.undef, AV.undef, AV.undef, AV.undef, AV.undef, AV.undef, AV.undef, AV.undef, AV.undef, AV.undef, AV.undef, AV.undef, AV.undef, AV.undef, AV.undef, AV.undef, AV.undef, AV.undef, AV.undef, AV.undef, AV.undef, AV.undef, AV.undef, AV.undef, AV.undef, AV.undef, AV.undef, AV.undef, AV.undef, AV.undef, AV.undef, AV.undef, AV.undef, AV.undef, AV.undef, AV.undef, AV.undef, AV.undef, AV.undef, AV.undef, AV.undef, AV.undef, AV.undef, AV.undef, AV.undef, AV.undef, AV.undef, AV.undef, AV.undef, AV.undef, AV.undef, AV.undef, AV.undef, AV.undef, AV.undef, AV.undef, AV.undef, AV.undef, AV.undef, AV.undef, AV.undef, AV.undef, AV.undef, AV.undef, AV.undef, AV.undef, AV.undef, AV.undef, AV.undef, AV.undef, AV.undef, AV.undef, AV.undef, AV.undef, AV.undef, AV.undef, AV.undef, AV.undef, AV.undef, AV.undef, AV.undef, AV.undef, AV.undef, AV.undef] [AO.box [AV.bool false, AV.nils 105, AV.nils 105]]
def b76_27 (p0 : ByteArray) (p1 : Int) (c6 : (Int) → (ByteArray) → Option R76) (c15 : (Int) → (ByteArray) → (ByteArray) → Option R76) (c22 : (Bool) → Option R76) (c9 : (Int) → (ByteArray) → Int → Option R76) (c17 : (Int) → (ByteArray) → (ByteArray) → Option R76) (c24 : (Int) → (Bool) → Option R76) (c11 : (Int) → (ByteArray) → (ByteArray) → Int → (Int) → Option R76) (c27 : (Int) → (Bool) → Int → TI → Int → TI → Option R76) (c29 : (Int) → (Bool) → TI → Int → TI → Option R76) (c31 : (Int) → (Bool) → TI → Int → (Int) → Option R76) (c33 : (Int) → (Bool) → TI → Int → TI → Int → Option R76) (c35 : (Int) → (Bool) → TI → TI → Option R76) (v2 : Int) (v3 : Bool) (v4 : Int) (v5 : TI) (v6 : Int) (v7 : TI) : Option R76 :=
  c29 (IntKind.i64.wrap (v2 + v4)) (v3) (v5) (v6) (v7)
def m76_29 (p0 : ByteArray) (p1 v2 : Int) (v3 : Bool) (v4 : TI) (v5 : Int) (v6 : TI) : S U := S.mk [AV.str p0, AV.int IntKind.i64 p1, AV.undef, AV.undef, AV.undef, AV.ptr 0 0, AV.undef, AV.undef, AV.undef, AV.undef, AV.undef, AV.undef, AV.undef, AV.undef, AV.undef, AV.undef, AV.undef, AV.int IntKind.i64 v2, AV.bool v3, AV.undef, AV.imm 105 v4, AV.undef, AV.int IntKind.i64 v5, AV.imm 105 v6, AV.int IntKind.i64 0, AV.undef, AV.undef, AV.undef, AV.undef, AV.undef, AV.undef, AV.undef, AV.undef, AV.undef, AV.undef, AV.undef, AV.undef, AV.undef, AV.undef, AV.undef, AV.undef, AV.undef, AV.undef, AV.undef, AV.undef, AV.undef, AV.undef, AV.undef, AV.undef, AV.undef, AV.undef, AV.undef, AV.undef, AV.undef, AV.undef, AV.undef, AV.undef, AV.undef, AV.undef, AV.undef, AV.undef, AV.undef, AV.undef, AV.undef, AV.undef, AV.undef, AV.undef, AV.undef, AV.undef, AV.undef, AV.undef, AV.undef, AV.undef, AV.undef, AV.undef, AV.undef, AV.undef, AV.undef, AV.undef, AV.undef, AV.undef, AV.undef, AV.undef, AV.undef, AV.undef, AV.undef, AV.undef, AV.undef, AV.undef, AV.undef, AV.undef, AV.undef, AV.undef, AV.undef, AV.undef, AV.undef, AV.undef, AV.undef, AV.undef, AV.undef, AV.undef, AV.undef, AV.undef, AV.undef, AV.undef, AV.undef, AV.undef, AV.undef, AV.undef, AV.undef, AV.undef, AV.undef, AV.undef, AV.undef, AV.undef, AV.undef, AV.undef, AV.undef, AV.undef, AV.undef, AV.undef, AV.undef, AV.undef, AV.undef, AV.undef, AV.undef, AV.undef, AV.undef, AV.undef, AV.undef, AV.undef, AV.undef, AV.undef, AV.undef, AV.undef, AV.undef, AV.undef, AV.undef, AV.undef, AV.undef, AV.undef, AV.undef, AV.undef, AV.undef, AV.undef, AV.undef, AV.undef, AV.undef, AV.undef, AV.undef, AV.undef, AV.undef, AV.undef, AV.undef, AV.undef, AV.undef, AV.undef, AV.undef, AV.undef, AV.undef, AV.undef, AV.undef, AV.undef, AV.undef, AV.undef, AV.undef, AV.undef, AV.undef, AV.undef, AV.undef, AV.undef, AV.undef, AV.undef, AV.undef, AV.undef, AV.undef, AV.undef, AV.undef, AV.undef, AV.undef, AV.undef, AV.undef, AV.undef, AV.undef, AV.undef, AV.undef, AV.undef, AV.undef, AV.undef, AV.undef, AV.undef, AV.undef, AV.undef, AV.undef, AV.undef, AV.undef, AV.undef, AV.undef, AV.undef, AV.undef, AV.undef, AV.undef] [AO.box [AV.bool false, AV.nils 105, AV.nils 105]]
def b76_29 (p0 : ByteArray) (p1 : Int) (c6 : (Int) → (ByteArray) → Option R76) (c15 : (Int) → (ByteArray) → (ByteArray) → Option R76) (c22 : (Bool) → Option R76) (c9 : (Int) → (ByteArray) → Int → Option R76) (c17 : (Int) → (ByteArray) → (ByteArray) → Option R76) (c24 : (Int) → (Bool) → Option R76) (c11 : (Int) → (ByteArray) → (ByteArray) → Int → (Int) → Option R76) (c27 : (Int) → (Bool) → Int → TI → Int → TI → Option R76) (c29 : (Int) → (Bool) → TI → Int → TI → Option R76) (c31 : (Int) → (Bool) → TI → Int → (Int) → Option R76) (c33 : (Int) → (Bool) → TI → Int → TI → Int → Option R76) (c35 : (Int) → (Bool) → TI → TI → Option R76) (v2 : Int) (v3 : Bool) (v4 : TI) (v5 : Int) (v6 : TI) : Option R76 :=
  cond (decide (v2 < (↑p0.size : Int)))
  (cond (decide (0 ≤ v2))
  (cond (decide (v2 < (↑p0.size : Int)))
  (cond (bt p0 v2 == 47)
  ((S86 p0 (IntKind.i64.wrap (v2 + 1))).bind fun r0 =>
  c31 (v2) (v3) (v4) (v5) (r0))
  (c33 (v2) (v3) (v4) (v5) (v6) (0)))
  (none))
  (none))
  (c33 (v2) (v3) (v4) (v5) (v6) (0))
def m76_31 (p0 : ByteArray) (p1 v2 : Int) (v3 : Bool) (v4 : TI) (v5 v6 : Int) : S U := S.mk [AV.str p0, AV.int IntKind.i64 p1, AV.undef, AV.undef, AV.undef, AV.ptr 0 0, AV.undef, AV.undef, AV.undef, AV.undef, AV.undef, AV.undef, AV.undef, AV.undef, AV.undef, AV.undef, AV.undef, AV.int IntKind.i64 v2, AV.bool v3, AV.undef, AV.imm 105 v4, AV.undef, AV.int IntKind.i64 v5, AV.undef, AV.undef, AV.int IntKind.i64 v6, AV.undef, AV.undef, AV.undef, AV.undef, AV.undef, AV.undef, AV.undef, AV.undef, AV.undef, AV.undef, AV.undef, AV.undef, AV.undef, AV.undef, AV.undef, AV.undef, AV.undef, AV.undef, AV.undef, AV.undef, AV.undef, AV.undef, AV.undef, AV.undef, AV.undef, AV.undef, AV.undef, AV.undef, AV.undef, AV.undef, AV.undef, AV.undef, AV.undef, AV.undef, AV.undef, AV.undef, AV.undef, AV.undef, AV.undef, AV.undef, AV.undef, AV.undef, AV.undef, AV.undef, AV.undef, AV.undef, AV.undef, AV.undef, AV.undef, AV.undef, AV.undef, AV.undef, AV.undef, AV.undef, AV.undef, AV.undef, AV.undef, AV.undef, AV.undef, AV.undef, AV.undef, AV.undef, AV.undef, AV.undef, AV.undef, AV.undef, AV.undef, AV.undef, AV.undef, AV.undef, AV.undef, AV.undef, AV.undef, AV.undef, AV.undef, AV.undef, AV.undef, AV.undef, AV.undef, AV.undef, AV.undef, AV.undef, AV.undef, AV.undef, AV.undef, AV.undef, AV.undef, AV.undef, AV.undef, AV.undef, AV.undef, AV.undef, AV.undef, AV.undef, AV.undef, AV.undef, AV.undef, AV.undef, AV.undef, AV.undef, AV.undef, AV.undef, AV.undef, AV.undef, AV.undef, AV.undef, AV.undef, AV.undef, AV.undef, AV.undef, AV.undef, AV.undef, AV.undef, AV.undef, AV.undef, AV.undef, AV.undef, AV.undef, AV.undef, AV.undef, AV.undef, AV.undef, AV.undef, AV.undef, AV.undef, AV.undef, AV.undef, AV.undef, AV.undef, AV.undef, AV.undef, AV.undef, AV.undef, AV.undef, AV.undef, AV.undef, AV.undef, AV.undef, AV.undef, AV.undef, AV.undef, AV.undef, AV.undef, AV.undef, AV.undef, AV.undef, AV.undef, AV.undef, AV.undef, AV.undef, AV.undef, AV.undef, AV.undef, AV.undef, AV.undef, AV.undef, AV.undef, AV.undef, AV.undef, AV.undef, AV.undef, AV.undef, AV.undef, AV.undef, AV.undef, AV.undef, AV.undef, AV.undef, AV.undef, AV.undef, AV.undef, AV.undef, AV.undef, AV.undef, AV.undef, AV.undef] [AO.box [AV.bool false, AV.nils 105, AV.nils 105]]
def b76_31 (p0 : ByteArray) (p1 : Int) (c6 : (Int) → (ByteArray) → Option R76) (c15 : (Int) → (ByteArray) → (ByteArray) → Option R76) (c22 : (Bool) → Option R76) (c9 : (Int) → (ByteArray) → Int → Option R76) (c17 : (Int) → (ByteArray) → (ByteArray) → Option R76) (c24 : (Int) → (Bool) → Option R76) (c11 : (Int) → (ByteArray) → (ByteArray) → Int → (Int) → Option R76) (c27 : (Int) → (Bool) → Int → TI → Int → TI → Option R76) (c29 : (Int) → (Bool) → TI → Int → TI → Option R76) (c31 : (Int) → (Bool) → TI → Int → (Int) → Option R76) (c33 : (Int) → (Bool) → TI → Int → TI → Int → Option R76) (c35 : (Int) → (Bool) → TI → TI → Option R76) (v2 : Int) (v3 : Bool) (v4 : TI) (v5 v6 : Int) : Option R76 :=
  cond (decide (0 ≤ IntKind.i64.wrap (v2 + 1)))
  (cond (decide (IntKind.i64.wrap (v2 + 1) ≤ IntKind.i64.wrap (IntKind.i64.wrap (v2 + 1) + v6)))
  (cond (decide (IntKind.i64.wrap (IntKind.i64.wrap (v2 + 1) + v6) ≤ (↑p0.size : Int)))
  ((S87 (p0.extract (IntKind.i64.wrap (v2 + 1)).toNat (IntKind.i64.wrap (IntKind.i64.wrap (v2 + 1) + v6)).toNat) 10).bind fun r0 =>
  c33 (IntKind.i64.wrap (IntKind.i64.wrap (v2 + 1) + v6)) (v3) (v4) (v5) (r0.fst) (r0.snd.snd))
  (none))
  (none))
  (none)
def m76_33 (p0 : ByteArray) (p1 v2 : Int) (v3 : Bool) (v4 : TI) (v5 : Int) (v6 : TI) (v7 : Int) : S U := S.mk [AV.str p0, AV.int IntKind.i64 p1, AV.undef, AV.undef, AV.undef, AV.ptr 0 0, AV.undef, AV.undef, AV.undef, AV.undef, AV.undef, AV.undef, AV.undef, AV.undef, AV.undef, AV.undef, AV.undef, AV.int IntKind.i64 v2, AV.bool v3, AV.undef, AV.imm 105 v4, AV.undef, AV.int IntKind.i64 v5, AV.imm 105 v6, AV.int IntKind.i64 v7, AV.undef, AV.undef, AV.undef, AV.undef, AV.undef, AV.undef, AV.undef, AV.undef, AV.undef, AV.undef, AV.undef, AV.undef, AV.undef, AV.undef, AV.undef, AV.undef, AV.undef, AV.undef, AV.undef, AV.undef, AV.undef, AV.undef, AV.undef, AV.undef, AV.undef, AV.undef, AV.undef, AV.undef, AV.undef, AV.undef, AV.undef, AV.undef, AV.undef, AV.undef, AV.undef, AV.undef, AV.undef, AV.undef, AV.undef, AV.undef, AV.undef, AV.undef, AV.undef, AV.undef, AV.undef, AV.undef, AV.undef, AV.undef, AV.undef, AV.undef, AV.undef, AV.undef, AV.undef, AV.undef, AV.undef, AV.undef, AV.undef, AV.undef, AV.undef, AV.undef, AV.undef, AV.undef, AV.undef, AV.undef, AV.undef, AV.undef, AV.undef, AV.undef, AV.undef, AV.undef, AV.undef, AV.undef, AV.undef, AV.undef, AV.undef, AV.undef, AV.undef, AV.undef, AV.undef, AV.undef, AV.undef, AV.undef, AV.undef, AV.undef, AV.undef, AV.undef, AV.undef, AV.undef, AV.undef, AV.undef, AV.undef, AV.undef, AV.undef, AV.undef, AV.undef, AV.undef, AV.undef, AV.undef, AV.undef, AV.undef, AV.undef, AV.undef, AV.undef, AV.undef, AV.undef, AV.undef, AV.undef, AV.undef, AV.undef, AV.undef, AV.undef, AV.undef, AV.undef, AV.undef, AV.undef, AV.undef, AV.undef, AV.undef, AV.undef, AV.undef, AV.undef, AV.undef, AV.undef, AV.undef, AV.undef, AV.undef, AV.undef, AV.undef, AV.undef, AV.undef, AV.undef, AV.undef, AV.undef, AV.undef, AV.undef, AV.undef, AV.undef, AV.undef, AV.undef, AV.undef, AV.undef, AV.undef, AV.undef, AV.undef, AV.undef, AV.undef, AV.undef, AV.undef, AV.undef, AV.undef, AV.undef, AV.undef, AV.undef, AV.undef, AV.undef, AV.undef, AV.undef, AV.undef, AV.undef, AV.undef, AV.undef, AV.undef, AV.undef, AV.undef, AV.undef, AV.undef, AV.undef, AV.undef, AV.undef, AV.undef, AV.undef, AV.undef, AV.undef, AV.undef, AV.undef, AV.undef, AV.undef] [AO.box [AV.bool false, AV.nils 105, AV.nils 105]]
def b76_33 (p0 : ByteArray) (p1 : Int) (c6 : (Int) → (ByteArray) → Option R76) (c15 : (Int) → (ByteArray) → (ByteArray) → Option R76) (c22 : (Bool) → Option R76) (c9 : (Int) → (ByteArray) → Int → Option R76) (c17 : (Int) → (ByteArray) → (ByteArray) → Option R76) (c24 : (Int) → (Bool) → Option R76) (c11 : (Int) → (ByteArray) → (ByteArray) → Int → (Int) → Option R76) (c27 : (Int) → (Bool) → Int → TI → Int → TI → Option R76) (c29 : (Int) → (Bool) → TI → Int → TI → Option R76) (c31 : (Int) → (Bool) → TI → Int → (Int) → Option R76) (c33 : (Int) → (Bool) → TI → Int → TI → Int → Option R76) (c35 : (Int) → (Bool) → TI → TI → Option R76) (v2 : Int) (v3 : Bool) (v4 : TI) (v5 : Int) (v6 : TI) (v7 : Int) : Option R76 :=
  cond (decide (v2 ≥ (↑p0.size : Int)))
  (some ((0, false, [], [])))
  (cond (decide (0 ≤ v2))
  (cond (decide (v2 < (↑p0.size : Int)))
  (cond (bt p0 v2 != 93)
  (some ((0, false, [], [])))
  (cond (v5 != 0)
  (some ((0, false, [], [])))
  (cond (v7 != 0)
  (some ((0, false, [], [])))
  (cond ((↑v6.length : Int) == 0)
  (some ((0, false, [], [])))
  (c35 (v2) (v3) (v4) (v6))))))
  (none))
  (none))
def m76_35 (p0 : ByteArray) (p1 v1 : Int) (v2 : Bool) (v3 v4 : TI) : S U := S.mk [AV.undef, AV.int IntKind.i64 p1, AV.undef, AV.undef, AV.undef, AV.ptr 0 0, AV.undef, AV.undef, AV.undef, AV.undef, AV.undef, AV.undef, AV.undef, AV.undef, AV.undef, AV.undef, AV.undef, AV.int IntKind.i64 v1, AV.bool v2, AV.undef, AV.imm 105 v3, AV.undef, AV.undef, AV.imm 105 v4, AV.undef, AV.undef, AV.undef, AV.undef, AV.undef, AV.undef, AV.undef, AV.undef, AV.undef, AV.undef, AV.undef, AV.undef, AV.undef, AV.undef, AV.undef, AV.undef, AV.undef, AV.undef, AV.undef, AV.undef, AV.undef, AV.undef, AV.undef, AV.undef, AV.undef, AV.undef, AV.undef, AV.undef, AV.undef, AV.undef, AV.undef, AV.undef, AV.undef, AV.undef, AV.undef, AV.undef, AV.undef, AV.undef, AV.undef, AV.undef, AV.undef, AV.undef, AV.undef, AV.undef, AV.undef, AV.undef, AV.undef, AV.undef, AV.undef, AV.undef, AV.undef, AV.undef, AV.undef, AV.undef, AV.undef, AV.undef, AV.undef, AV.undef, AV.undef, AV.undef, AV.undef, AV.undef, AV.undef, AV.undef, AV.undef, AV.undef, AV.undef, AV.undef, AV.undef, AV.undef, AV.undef, AV.undef, AV.undef, AV.undef, AV.undef, AV.undef, AV.undef, AV.undef, AV.undef, AV.undef, AV.undef, AV.undef, AV.undef, AV.undef, AV.undef, AV.undef, AV.undef, AV.undef, AV.undef, AV.undef, AV.undef, AV.undef, AV.undef, AV.undef, AV.undef, AV.undef, AV.undef, AV.undef, AV.undef, AV.undef, AV.undef, AV.undef, AV.undef, AV.undef, AV.undef, AV.undef, AV.undef, AV.undef, AV.undef, AV.undef, AV.undef, AV.undef, AV.undef, AV.undef, AV.undef, AV.undef, AV.undef, AV.undef, AV.undef, AV.undef, AV.undef, AV.undef, AV.undef, AV.undef, AV.undef, AV.undef, AV.undef, AV.undef, AV.undef, AV.undef, AV.undef, AV.undef, AV.undef, AV.undef, AV.undef, AV.undef, AV.undef, AV.undef, AV.undef, AV.undef, AV.undef, AV.undef, AV.undef, AV.undef, AV.undef, AV.undef, AV.undef, AV.undef, AV.undef, AV.undef, AV.undef, AV.undef, AV.undef, AV.undef, AV.undef, AV.undef, AV.undef, AV.undef, AV.undef, AV.undef, AV.undef, AV.undef, AV.undef, AV.undef, AV.undef, AV.undef, AV.undef, AV.undef, AV.undef, AV.undef, AV.undef, AV.undef, AV.undef, AV.undef, AV.undef, AV.undef, AV.undef, AV.undef] [AO.box [AV.bool false, AV.nils 105, AV.nils 105]]
def b76_35 (p0 : ByteArray) (p1 : Int) (c6 : (Int) → (ByteArray) → Option R76) (c15 : (Int) → (ByteArray) → (ByteArray) → Option R76) (c22 : (Bool) → Option R76) (c9 : (Int) → (ByteArray) → Int → Option R76) (c17 : (Int) → (ByteArray) → (ByteArray) → Option R76) (c24 : (Int) → (Bool) → Option R76) (c11 : (Int) → (ByteArray) → (ByteArray) → Int → (Int) → Option R76) (c27 : (Int) → (Bool) → Int → TI → Int → TI → Option R76) (c29 : (Int) → (Bool) → TI → Int → TI → Option R76) (c31 : (Int) → (Bool) → TI → Int → (Int) → Option R76) (c33 : (Int) → (Bool) → TI → Int → TI → Int → Option R76) (c35 : (Int) → (Bool) → TI → TI → Option R76) (v1 : Int) (v2 : Bool) (v3 v4 : TI) : Option R76 :=
  (S88 v2 v3 v4).bind fun r0 =>
  some ((IntKind.i64.wrap (IntKind.i64.wrap (v1 + 1) - p1), r0.fst, r0.snd.fst, r0.snd.snd))
theorem hk76 : ∀ v h' r, k76 v h' = some r → v = out76 r ∧ h' = outh76 r := by
  intro v h' r h
  unfold k76 at h
  split at h
  · injection h with h; subst h; exact ⟨rfl, rfl⟩
  · cases h
abbrev q76 : Prim U R76 := prims X [⟨86, fun _ => true, [.lend, .lend], F86 S86⟩, ⟨87, fun _ => true, [.lend, .lend], F87 S87⟩, ⟨88, fun _ => true, [.lend, .lend, .lend], F88 S88⟩, ⟨89, fun _ => true, [.lend], F89 S89⟩]
theorem s76 (c : Nat → S U → Option R76) (p0 : ByteArray) (p1 : Int) : seg TP X q76 [11, 6, 9, 15, 17, 22, 24, 27, 29, 31, 33, 35] (fun q st => c q (keepD D76 (h76 p0 p1).length q st)) body76 (finH TP Try.f76.results.toList (h76 p0 p1).length false k76) (start [.str p0, .int .i64 p1] Try.f76.ntmps (h76 p0 p1)) = b76 p0 p1 (fun v2 v3 => c 6 (m76_6 p0 p1 v2 v3)) (fun v0 v1 v2 => c 15 (m76_15 p0 p1 v0 v1 v2)) (fun v3 => c 22 (m76_22 p0 p1 v3)) (fun v2 v3 v5 => c 9 (m76_9 p0 p1 v2 v3 v5)) (fun v0 v1 v2 => c 17 (m76_17 p0 p1 v0 v1 v2)) (fun v2 v3 => c 24 (m76_24 p0 p1 v2 v3)) (fun v0 v1 v2 v3 v4 => c 11 (m76_11 p0 p1 v0 v1 v2 v3 v4)) (fun v2 v3 v4 v5 v6 v7 => c 27 (m76_27 p0 p1 v2 v3 v4 v5 v6 v7)) (fun v2 v3 v4 v5 v6 => c 29 (m76_29 p0 p1 v2 v3 v4 v5 v6)) (fun v2 v3 v4 v5 v6 => c 31 (m76_31 p0 p1 v2 v3 v4 v5 v6)) (fun v2 v3 v4 v5 v6 v7 => c 33 (m76_33 p0 p1 v2 v3 v4 v5 v6 v7)) (fun v1 v2 v3 v4 => c 35 (m76_35 p0 p1 v1 v2 v3 v4)) := by kernel_rfl
theorem s76_6 (c : Nat → S U → Option R76) (p0 : ByteArray) (p1 v2 : Int) (v3 : ByteArray) : res TP X q76 [11, 6, 9, 15, 17, 22, 24, 27, 29, 31, 33, 35] (fun q st => c q (keepD D76 (h76 p0 p1).length q st)) 6 body76 (finH TP Try.f76.results.toList (h76 p0 p1).length false k76) (m76_6 p0 p1 v2 v3) = b76_6 p0 p1 (fun v2 v3 => c 6 (m76_6 p0 p1 v2 v3)) (fun v0 v1 v2 => c 15 (m76_15 p0 p1 v0 v1 v2)) (fun v3 => c 22 (m76_22 p0 p1 v3)) (fun v2 v3 v5 => c 9 (m76_9 p0 p1 v2 v3 v5)) (fun v0 v1 v2 => c 17 (m76_17 p0 p1 v0 v1 v2)) (fun v2 v3 => c 24 (m76_24 p0 p1 v2 v3)) (fun v0 v1 v2 v3 v4 => c 11 (m76_11 p0 p1 v0 v1 v2 v3 v4)) (fun v2 v3 v4 v5 v6 v7 => c 27 (m76_27 p0 p1 v2 v3 v4 v5 v6 v7)) (fun v2 v3 v4 v5 v6 => c 29 (m76_29 p0 p1 v2 v3 v4 v5 v6)) (fun v2 v3 v4 v5 v6 => c 31 (m76_31 p0 p1 v2 v3 v4 v5 v6)) (fun v2 v3 v4 v5 v6 v7 => c 33 (m76_33 p0 p1 v2 v3 v4 v5 v6 v7)) (fun v1 v2 v3 v4 => c 35 (m76_35 p0 p1 v1 v2 v3 v4)) v2 v3 := by kernel_rfl
theorem s76_15 (c : Nat → S U → Option R76) (p0 : ByteArray) (p1 v0 : Int) (v1 v2 : ByteArray) : res TP X q76 [11, 6, 9, 15, 17, 22, 24, 27, 29, 31, 33, 35] (fun q st => c q (keepD D76 (h76 p0 p1).length q st)) 15 body76 (finH TP Try.f76.results.toList (h76 p0 p1).length false k76) (m76_15 p0 p1 v0 v1 v2) = b76_15 p0 p1 (fun v2 v3 => c 6 (m76_6 p0 p1 v2 v3)) (fun v0 v1 v2 => c 15 (m76_15 p0 p1 v0 v1 v2)) (fun v3 => c 22 (m76_22 p0 p1 v3)) (fun v2 v3 v5 => c 9 (m76_9 p0 p1 v2 v3 v5)) (fun v0 v1 v2 => c 17 (m76_17 p0 p1 v0 v1 v2)) (fun v2 v3 => c 24 (m76_24 p0 p1 v2 v3)) (fun v0 v1 v2 v3 v4 => c 11 (m76_11 p0 p1 v0 v1 v2 v3 v4)) (fun v2 v3 v4 v5 v6 v7 => c 27 (m76_27 p0 p1 v2 v3 v4 v5 v6 v7)) (fun v2 v3 v4 v5 v6 => c 29 (m76_29 p0 p1 v2 v3 v4 v5 v6)) (fun v2 v3 v4 v5 v6 => c 31 (m76_31 p0 p1 v2 v3 v4 v5 v6)) (fun v2 v3 v4 v5 v6 v7 => c 33 (m76_33 p0 p1 v2 v3 v4 v5 v6 v7)) (fun v1 v2 v3 v4 => c 35 (m76_35 p0 p1 v1 v2 v3 v4)) v0 v1 v2 := by kernel_rfl
theorem s76_22 (c : Nat → S U → Option R76) (p0 : ByteArray) (p1 : Int) (v3 : Bool) : res TP X q76 [11, 6, 9, 15, 17, 22, 24, 27, 29, 31, 33, 35] (fun q st => c q (keepD D76 (h76 p0 p1).length q st)) 22 body76 (finH TP Try.f76.results.toList (h76 p0 p1).length false k76) (m76_22 p0 p1 v3) = b76_22 p0 p1 (fun v2 v3 => c 6 (m76_6 p0 p1 v2 v3)) (fun v0 v1 v2 => c 15 (m76_15 p0 p1 v0 v1 v2)) (fun v3 => c 22 (m76_22 p0 p1 v3)) (fun v2 v3 v5 => c 9 (m76_9 p0 p1 v2 v3 v5)) (fun v0 v1 v2 => c 17 (m76_17 p0 p1 v0 v1 v2)) (fun v2 v3 => c 24 (m76_24 p0 p1 v2 v3)) (fun v0 v1 v2 v3 v4 => c 11 (m76_11 p0 p1 v0 v1 v2 v3 v4)) (fun v2 v3 v4 v5 v6 v7 => c 27 (m76_27 p0 p1 v2 v3 v4 v5 v6 v7)) (fun v2 v3 v4 v5 v6 => c 29 (m76_29 p0 p1 v2 v3 v4 v5 v6)) (fun v2 v3 v4 v5 v6 => c 31 (m76_31 p0 p1 v2 v3 v4 v5 v6)) (fun v2 v3 v4 v5 v6 v7 => c 33 (m76_33 p0 p1 v2 v3 v4 v5 v6 v7)) (fun v1 v2 v3 v4 => c 35 (m76_35 p0 p1 v1 v2 v3 v4)) v3 := by kernel_rfl
theorem s76_9 (c : Nat → S U → Option R76) (p0 : ByteArray) (p1 v2 : Int) (v3 : ByteArray) (v5 : Int) : res TP X q76 [11, 6, 9, 15, 17, 22, 24, 27, 29, 31, 33, 35] (fun q st => c q (keepD D76 (h76 p0 p1).length q st)) 9 body76 (finH TP Try.f76.results.toList (h76 p0 p1).length false k76) (m76_9 p0 p1 v2 v3 v5) = b76_9 p0 p1 (fun v2 v3 => c 6 (m76_6 p0 p1 v2 v3)) (fun v0 v1 v2 => c 15 (m76_15 p0 p1 v0 v1 v2)) (fun v3 => c 22 (m76_22 p0 p1 v3)) (fun v2 v3 v5 => c 9 (m76_9 p0 p1 v2 v3 v5)) (fun v0 v1 v2 => c 17 (m76_17 p0 p1 v0 v1 v2)) (fun v2 v3 => c 24 (m76_24 p0 p1 v2 v3)) (fun v0 v1 v2 v3 v4 => c 11 (m76_11 p0 p1 v0 v1 v2 v3 v4)) (fun v2 v3 v4 v5 v6 v7 => c 27 (m76_27 p0 p1 v2 v3 v4 v5 v6 v7)) (fun v2 v3 v4 v5 v6 => c 29 (m76_29 p0 p1 v2 v3 v4 v5 v6)) (fun v2 v3 v4 v5 v6 => c 31 (m76_31 p0 p1 v2 v3 v4 v5 v6)) (fun v2 v3 v4 v5 v6 v7 => c 33 (m76_33 p0 p1 v2 v3 v4 v5 v6 v7)) (fun v1 v2 v3 v4 => c 35 (m76_35 p0 p1 v1 v2 v3 v4)) v2 v3 v5 := by kernel_rfl
theorem s76_17 (c : Nat → S U → Option R76) (p0 : ByteArray) (p1 v0 : Int) (v1 v2 : ByteArray) : res TP X q76 [11, 6, 9, 15, 17, 22, 24, 27, 29, 31, 33, 35] (fun q st => c q (keepD D76 (h76 p0 p1).length q st)) 17 body76 (finH TP Try.f76.results.toList (h76 p0 p1).length false k76) (m76_17 p0 p1 v0 v1 v2) = b76_17 p0 p1 (fun v2 v3 => c 6 (m76_6 p0 p1 v2 v3)) (fun v0 v1 v2 => c 15 (m76_15 p0 p1 v0 v1 v2)) (fun v3 => c 22 (m76_22 p0 p1 v3)) (fun v2 v3 v5 => c 9 (m76_9 p0 p1 v2 v3 v5)) (fun v0 v1 v2 => c 17 (m76_17 p0 p1 v0 v1 v2)) (fun v2 v3 => c 24 (m76_24 p0 p1 v2 v3)) (fun v0 v1 v2 v3 v4 => c 11 (m76_11 p0 p1 v0 v1 v2 v3 v4)) (fun v2 v3 v4 v5 v6 v7 => c 27 (m76_27 p0 p1 v2 v3 v4 v5 v6 v7)) (fun v2 v3 v4 v5 v6 => c 29 (m76_29 p0 p1 v2 v3 v4 v5 v6)) (fun v2 v3 v4 v5 v6 => c 31 (m76_31 p0 p1 v2 v3 v4 v5 v6)) (fun v2 v3 v4 v5 v6 v7 => c 33 (m76_33 p0 p1 v2 v3 v4 v5 v6 v7)) (fun v1 v2 v3 v4 => c 35 (m76_35 p0 p1 v1 v2 v3 v4)) v0 v1 v2 := by kernel_rfl
theorem s76_24 (c : Nat → S U → Option R76) (p0 : ByteArray) (p1 v2 : Int) (v3 : Bool) : res TP X q76 [11, 6, 9, 15, 17, 22, 24, 27, 29, 31, 33, 35] (fun q st => c q (keepD D76 (h76 p0 p1).length q st)) 24 body76 (finH TP Try.f76.results.toList (h76 p0 p1).length false k76) (m76_24 p0 p1 v2 v3) = b76_24 p0 p1 (fun v2 v3 => c 6 (m76_6 p0 p1 v2 v3)) (fun v0 v1 v2 => c 15 (m76_15 p0 p1 v0 v1 v2)) (fun v3 => c 22 (m76_22 p0 p1 v3)) (fun v2 v3 v5 => c 9 (m76_9 p0 p1 v2 v3 v5)) (fun v0 v1 v2 => c 17 (m76_17 p0 p1 v0 v1 v2)) (fun v2 v3 => c 24 (m76_24 p0 p1 v2 v3)) (fun v0 v1 v2 v3 v4 => c 11 (m76_11 p0 p1 v0 v1 v2 v3 v4)) (fun v2 v3 v4 v5 v6 v7 => c 27 (m76_27 p0 p1 v2 v3 v4 v5 v6 v7)) (fun v2 v3 v4 v5 v6 => c 29 (m76_29 p0 p1 v2 v3 v4 v5 v6)) (fun v2 v3 v4 v5 v6 => c 31 (m76_31 p0 p1 v2 v3 v4 v5 v6)) (fun v2 v3 v4 v5 v6 v7 => c 33 (m76_33 p0 p1 v2 v3 v4 v5 v6 v7)) (fun v1 v2 v3 v4 => c 35 (m76_35 p0 p1 v1 v2 v3 v4)) v2 v3 := by kernel_rfl
theorem s76_11 (c : Nat → S U → Option R76) (p0 : ByteArray) (p1 v0 : Int) (v1 v2 : ByteArray) (v3 v4 : Int) : res TP X q76 [11, 6, 9, 15, 17, 22, 24, 27, 29, 31, 33, 35] (fun q st => c q (keepD D76 (h76 p0 p1).length q st)) 11 body76 (finH TP Try.f76.results.toList (h76 p0 p1).length false k76) (m76_11 p0 p1 v0 v1 v2 v3 v4) = b76_11 p0 p1 (fun v2 v3 => c 6 (m76_6 p0 p1 v2 v3)) (fun v0 v1 v2 => c 15 (m76_15 p0 p1 v0 v1 v2)) (fun v3 => c 22 (m76_22 p0 p1 v3)) (fun v2 v3 v5 => c 9 (m76_9 p0 p1 v2 v3 v5)) (fun v0 v1 v2 => c 17 (m76_17 p0 p1 v0 v1 v2)) (fun v2 v3 => c 24 (m76_24 p0 p1 v2 v3)) (fun v0 v1 v2 v3 v4 => c 11 (m76_11 p0 p1 v0 v1 v2 v3 v4)) (fun v2 v3 v4 v5 v6 v7 => c 27 (m76_27 p0 p1 v2 v3 v4 v5 v6 v7)) (fun v2 v3 v4 v5 v6 => c 29 (m76_29 p0 p1 v2 v3 v4 v5 v6)) (fun v2 v3 v4 v5 v6 => c 31 (m76_31 p0 p1 v2 v3 v4 v5 v6)) (fun v2 v3 v4 v5 v6 v7 => c 33 (m76_33 p0 p1 v2 v3 v4 v5 v6 v7)) (fun v1 v2 v3 v4 => c 35 (m76_35 p0 p1 v1 v2 v3 v4)) v0 v1 v2 v3 v4 := by kernel_rfl
theorem s76_27 (c : Nat → S U → Option R76) (p0 : ByteArray) (p1 v2 : Int) (v3 : Bool) (v4 : Int) (v5 : TI) (v6 : Int) (v7 : TI) : res TP X q76 [11, 6, 9, 15, 17, 22, 24, 27, 29, 31, 33, 35] (fun q st => c q (keepD D76 (h76 p0 p1).length q st)) 27 body76 (finH TP Try.f76.results.toList (h76 p0 p1).length false k76) (m76_27 p0 p1 v2 v3 v4 v5 v6 v7) = b76_27 p0 p1 (fun v2 v3 => c 6 (m76_6 p0 p1 v2 v3)) (fun v0 v1 v2 => c 15 (m76_15 p0 p1 v0 v1 v2)) (fun v3 => c 22 (m76_22 p0 p1 v3)) (fun v2 v3 v5 => c 9 (m76_9 p0 p1 v2 v3 v5)) (fun v0 v1 v2 => c 17 (m76_17 p0 p1 v0 v1 v2)) (fun v2 v3 => c 24 (m76_24 p0 p1 v2 v3)) (fun v0 v1 v2 v3 v4 => c 11 (m76_11 p0 p1 v0 v1 v2 v3 v4)) (fun v2 v3 v4 v5 v6 v7 => c 27 (m76_27 p0 p1 v2 v3 v4 v5 v6 v7)) (fun v2 v3 v4 v5 v6 => c 29 (m76_29 p0 p1 v2 v3 v4 v5 v6)) (fun v2 v3 v4 v5 v6 => c 31 (m76_31 p0 p1 v2 v3 v4 v5 v6)) (fun v2 v3 v4 v5 v6 v7 => c 33 (m76_33 p0 p1 v2 v3 v4 v5 v6 v7)) (fun v1 v2 v3 v4 => c 35 (m76_35 p0 p1 v1 v2 v3 v4)) v2 v3 v4 v5 v6 v7 := by kernel_rfl
theorem s76_29 (c : Nat → S U → Option R76) (p0 : ByteArray) (p1 v2 : Int) (v3 : Bool) (v4 : TI) (v5 : Int) (v6 : TI) : res TP X q76 [11, 6, 9, 15, 17, 22, 24, 27, 29, 31, 33, 35] (fun q st => c q (keepD D76 (h76 p0 p1).length q st)) 29 body76 (finH TP Try.f76.results.toList (h76 p0 p1).length false k76) (m76_29 p0 p1 v2 v3 v4 v5 v6) = b76_29 p0 p1 (fun v2 v3 => c 6 (m76_6 p0 p1 v2 v3)) (fun v0 v1 v2 => c 15 (m76_15 p0 p1 v0 v1 v2)) (fun v3 => c 22 (m76_22 p0 p1 v3)) (fun v2 v3 v5 => c 9 (m76_9 p0 p1 v2 v3 v5)) (fun v0 v1 v2 => c 17 (m76_17 p0 p1 v0 v1 v2)) (fun v2 v3 => c 24 (m76_24 p0 p1 v2 v3)) (fun v0 v1 v2 v3 v4 => c 11 (m76_11 p0 p1 v0 v1 v2 v3 v4)) (fun v2 v3 v4 v5 v6 v7 => c 27 (m76_27 p0 p1 v2 v3 v4 v5 v6 v7)) (fun v2 v3 v4 v5 v6 => c 29 (m76_29 p0 p1 v2 v3 v4 v5 v6)) (fun v2 v3 v4 v5 v6 => c 31 (m76_31 p0 p1 v2 v3 v4 v5 v6)) (fun v2 v3 v4 v5 v6 v7 => c 33 (m76_33 p0 p1 v2 v3 v4 v5 v6 v7)) (fun v1 v2 v3 v4 => c 35 (m76_35 p0 p1 v1 v2 v3 v4)) v2 v3 v4 v5 v6 := by kernel_rfl
theorem s76_31 (c : Nat → S U → Option R76) (p0 : ByteArray) (p1 v2 : Int) (v3 : Bool) (v4 : TI) (v5 v6 : Int) : res TP X q76 [11, 6, 9, 15, 17, 22, 24, 27, 29, 31, 33, 35] (fun q st => c q (keepD D76 (h76 p0 p1).length q st)) 31 body76 (finH TP Try.f76.results.toList (h76 p0 p1).length false k76) (m76_31 p0 p1 v2 v3 v4 v5 v6) = b76_31 p0 p1 (fun v2 v3 => c 6 (m76_6 p0 p1 v2 v3)) (fun v0 v1 v2 => c 15 (m76_15 p0 p1 v0 v1 v2)) (fun v3 => c 22 (m76_22 p0 p1 v3)) (fun v2 v3 v5 => c 9 (m76_9 p0 p1 v2 v3 v5)) (fun v0 v1 v2 => c 17 (m76_17 p0 p1 v0 v1 v2)) (fun v2 v3 => c 24 (m76_24 p0 p1 v2 v3)) (fun v0 v1 v2 v3 v4 => c 11 (m76_11 p0 p1 v0 v1 v2 v3 v4)) (fun v2 v3 v4 v5 v6 v7 => c 27 (m76_27 p0 p1 v2 v3 v4 v5 v6 v7)) (fun v2 v3 v4 v5 v6 => c 29 (m76_29 p0 p1 v2 v3 v4 v5 v6)) (fun v2 v3 v4 v5 v6 => c 31 (m76_31 p0 p1 v2 v3 v4 v5 v6)) (fun v2 v3 v4 v5 v6 v7 => c 33 (m76_33 p0 p1 v2 v3 v4 v5 v6 v7)) (fun v1 v2 v3 v4 => c 35 (m76_35 p0 p1 v1 v2 v3 v4)) v2 v3 v4 v5 v6 := by kernel_rfl
theorem s76_33 (c : Nat → S U → Option R76) (p0 : ByteArray) (p1 v2 : Int) (v3 : Bool) (v4 : TI) (v5 : Int) (v6 : TI) (v7 : Int) : res TP X q76 [11, 6, 9, 15, 17, 22, 24, 27, 29, 31, 33, 35] (fun q st => c q (keepD D76 (h76 p0 p1).length q st)) 33 body76 (finH TP Try.f76.results.toList (h76 p0 p1).length false k76) (m76_33 p0 p1 v2 v3 v4 v5 v6 v7) = b76_33 p0 p1 (fun v2 v3 => c 6 (m76_6 p0 p1 v2 v3)) (fun v0 v1 v2 => c 15 (m76_15 p0 p1 v0 v1 v2)) (fun v3 => c 22 (m76_22 p0 p1 v3)) (fun v2 v3 v5 => c 9 (m76_9 p0 p1 v2 v3 v5)) (fun v0 v1 v2 => c 17 (m76_17 p0 p1 v0 v1 v2)) (fun v2 v3 => c 24 (m76_24 p0 p1 v2 v3)) (fun v0 v1 v2 v3 v4 => c 11 (m76_11 p0 p1 v0 v1 v2 v3 v4)) (fun v2 v3 v4 v5 v6 v7 => c 27 (m76_27 p0 p1 v2 v3 v4 v5 v6 v7)) (fun v2 v3 v4 v5 v6 => c 29 (m76_29 p0 p1 v2 v3 v4 v5 v6)) (fun v2 v3 v4 v5 v6 => c 31 (m76_31 p0 p1 v2 v3 v4 v5 v6)) (fun v2 v3 v4 v5 v6 v7 => c 33 (m76_33 p0 p1 v2 v3 v4 v5 v6 v7)) (fun v1 v2 v3 v4 => c 35 (m76_35 p0 p1 v1 v2 v3 v4)) v2 v3 v4 v5 v6 v7 := by kernel_rfl
theorem s76_35 (c : Nat → S U → Option R76) (p0 : ByteArray) (p1 v1 : Int) (v2 : Bool) (v3 v4 : TI) : res TP X q76 [11, 6, 9, 15, 17, 22, 24, 27, 29, 31, 33, 35] (fun q st => c q (keepD D76 (h76 p0 p1).length q st)) 35 body76 (finH TP Try.f76.results.toList (h76 p0 p1).length false k76) (m76_35 p0 p1 v1 v2 v3 v4) = b76_35 p0 p1 (fun v2 v3 => c 6 (m76_6 p0 p1 v2 v3)) (fun v0 v1 v2 => c 15 (m76_15 p0 p1 v0 v1 v2)) (fun v3 => c 22 (m76_22 p0 p1 v3)) (fun v2 v3 v5 => c 9 (m76_9 p0 p1 v2 v3 v5)) (fun v0 v1 v2 => c 17 (m76_17 p0 p1 v0 v1 v2)) (fun v2 v3 => c 24 (m76_24 p0 p1 v2 v3)) (fun v0 v1 v2 v3 v4 => c 11 (m76_11 p0 p1 v0 v1 v2 v3 v4)) (fun v2 v3 v4 v5 v6 v7 => c 27 (m76_27 p0 p1 v2 v3 v4 v5 v6 v7)) (fun v2 v3 v4 v5 v6 => c 29 (m76_29 p0 p1 v2 v3 v4 v5 v6)) (fun v2 v3 v4 v5 v6 => c 31 (m76_31 p0 p1 v2 v3 v4 v5 v6)) (fun v2 v3 v4 v5 v6 v7 => c 33 (m76_33 p0 p1 v2 v3 v4 v5 v6 v7)) (fun v1 v2 v3 v4 => c 35 (m76_35 p0 p1 v1 v2 v3 v4)) v1 v2 v3 v4 := by kernel_rfl
mutual
def f76_6 (p0 : ByteArray) (p1 : Int) : Nat → Int → (ByteArray) → Option R76
  | 0 => fun _ _ => none
  | k + 1 => b76_6 p0 p1 (f76_6 p0 p1 k) (f76_15 p0 p1 k) (f76_22 p0 p1 k) (f76_9 p0 p1 k) (f76_17 p0 p1 k) (f76_24 p0 p1 k) (f76_11 p0 p1 k) (f76_27 p0 p1 k) (f76_29 p0 p1 k) (f76_31 p0 p1 k) (f76_33 p0 p1 k) (f76_35 p0 p1 k)
def f76_15 (p0 : ByteArray) (p1 : Int) : Nat → Int → (ByteArray) → (ByteArray) → Option R76
  | 0 => fun _ _ _ => none
  | k + 1 => b76_15 p0 p1 (f76_6 p0 p1 k) (f76_15 p0 p1 k) (f76_22 p0 p1 k) (f76_9 p0 p1 k) (f76_17 p0 p1 k) (f76_24 p0 p1 k) (f76_11 p0 p1 k) (f76_27 p0 p1 k) (f76_29 p0 p1 k) (f76_31 p0 p1 k) (f76_33 p0 p1 k) (f76_35 p0 p1 k)
def f76_22 (p0 : ByteArray) (p1 : Int) : Nat → (Bool) → Option R76
  | 0 => fun _ => none
  | k + 1 => b76_22 p0 p1 (f76_6 p0 p1 k) (f76_15 p0 p1 k) (f76_22 p0 p1 k) (f76_9 p0 p1 k) (f76_17 p0 p1 k) (f76_24 p0 p1 k) (f76_11 p0 p1 k) (f76_27 p0 p1 k) (f76_29 p0 p1 k) (f76_31 p0 p1 k) (f76_33 p0 p1 k) (f76_35 p0 p1 k)
def f76_9 (p0 : ByteArray) (p1 : Int) : Nat → Int → (ByteArray) → Int → Option R76
  | 0 => fun _ _ _ => none
  | k + 1 => b76_9 p0 p1 (f76_6 p0 p1 k) (f76_15 p0 p1 k) (f76_22 p0 p1 k) (f76_9 p0 p1 k) (f76_17 p0 p1 k) (f76_24 p0 p1 k) (f76_11 p0 p1 k) (f76_27 p0 p1 k) (f76_29 p0 p1 k) (f76_31 p0 p1 k) (f76_33 p0 p1 k) (f76_35 p0 p1 k)
def f76_17 (p0 : ByteArray) (p1 : Int) : Nat → Int → (ByteArray) → (ByteArray) → Option R76
  | 0 => fun _ _ _ => none
  | k + 1 => b76_17 p0 p1 (f76_6 p0 p1 k) (f76_15 p0 p1 k) (f76_22 p0 p1 k) (f76_9 p0 p1 k) (f76_17 p0 p1 k) (f76_24 p0 p1 k) (f76_11 p0 p1 k) (f76_27 p0 p1 k) (f76_29 p0 p1 k) (f76_31 p0 p1 k) (f76_33 p0 p1 k) (f76_35 p0 p1 k)
def f76_24 (p0 : ByteArray) (p1 : Int) : Nat → Int → (Bool) → Option R76
  | 0 => fun _ _ => none
  | k + 1 => b76_24 p0 p1 (f76_6 p0 p1 k) (f76_15 p0 p1 k) (f76_22 p0 p1 k) (f76_9 p0 p1 k) (f76_17 p0 p1 k) (f76_24 p0 p1 k) (f76_11 p0 p1 k) (f76_27 p0 p1 k) (f76_29 p0 p1 k) (f76_31 p0 p1 k) (f76_33 p0 p1 k) (f76_35 p0 p1 k)
def f76_11 (p0 : ByteArray) (p1 : Int) : Nat → Int → (ByteArray) → (ByteArray) → Int → (Int) → Option R76
  | 0 => fun _ _ _ _ _ => none
  | k + 1 => b76_11 p0 p1 (f76_6 p0 p1 k) (f76_15 p0 p1 k) (f76_22 p0 p1 k) (f76_9 p0 p1 k) (f76_17 p0 p1 k) (f76_24 p0 p1 k) (f76_11 p0 p1 k) (f76_27 p0 p1 k) (f76_29 p0 p1 k) (f76_31 p0 p1 k) (f76_33 p0 p1 k) (f76_35 p0 p1 k)
def f76_27 (p0 : ByteArray) (p1 : Int) : Nat → Int → (Bool) → Int → TI → Int → TI → Option R76
  | 0 => fun _ _ _ _ _ _ => none
  | k + 1 => b76_27 p0 p1 (f76_6 p0 p1 k) (f76_15 p0 p1 k) (f76_22 p0 p1 k) (f76_9 p0 p1 k) (f76_17 p0 p1 k) (f76_24 p0 p1 k) (f76_11 p0 p1 k) (f76_27 p0 p1 k) (f76_29 p0 p1 k) (f76_31 p0 p1 k) (f76_33 p0 p1 k) (f76_35 p0 p1 k)
def f76_29 (p0 : ByteArray) (p1 : Int) : Nat → Int → (Bool) → TI → Int → TI → Option R76
  | 0 => fun _ _ _ _ _ => none
  | k + 1 => b76_29 p0 p1 (f76_6 p0 p1 k) (f76_15 p0 p1 k) (f76_22 p0 p1 k) (f76_9 p0 p1 k) (f76_17 p0 p1 k) (f76_24 p0 p1 k) (f76_11 p0 p1 k) (f76_27 p0 p1 k) (f76_29 p0 p1 k) (f76_31 p0 p1 k) (f76_33 p0 p1 k) (f76_35 p0 p1 k)
def f76_31 (p0 : ByteArray) (p1 : Int) : Nat → Int → (Bool) → TI → Int → (Int) → Option R76
  | 0 => fun _ _ _ _ _ => none
  | k + 1 => b76_31 p0 p1 (f76_6 p0 p1 k) (f76_15 p0 p1 k) (f76_22 p0 p1 k) (f76_9 p0 p1 k) (f76_17 p0 p1 k) (f76_24 p0 p1 k) (f76_11 p0 p1 k) (f76_27 p0 p1 k) (f76_29 p0 p1 k) (f76_31 p0 p1 k) (f76_33 p0 p1 k) (f76_35 p0 p1 k)
def f76_33 (p0 : ByteArray) (p1 : Int) : Nat → Int → (Bool) → TI → Int → TI → Int → Option R76
  | 0 => fun _ _ _ _ _ _ => none
  | k + 1 => b76_33 p0 p1 (f76_6 p0 p1 k) (f76_15 p0 p1 k) (f76_22 p0 p1 k) (f76_9 p0 p1 k) (f76_17 p0 p1 k) (f76_24 p0 p1 k) (f76_11 p0 p1 k) (f76_27 p0 p1 k) (f76_29 p0 p1 k) (f76_31 p0 p1 k) (f76_33 p0 p1 k) (f76_35 p0 p1 k)
def f76_35 (p0 : ByteArray) (p1 : Int) : Nat → Int → (Bool) → TI → TI → Option R76
  | 0 => fun _ _ _ _ => none
  | k + 1 => b76_35 p0 p1 (f76_6 p0 p1 k) (f76_15 p0 p1 k) (f76_22 p0 p1 k) (f76_9 p0 p1 k) (f76_17 p0 p1 k) (f76_24 p0 p1 k) (f76_11 p0 p1 k) (f76_27 p0 p1 k) (f76_29 p0 p1 k) (f76_31 p0 p1 k) (f76_33 p0 p1 k) (f76_35 p0 p1 k)
end
def f76 (k : Nat) (p0 : ByteArray) (p1 : Int) : Option R76 := b76 p0 p1 (f76_6 p0 p1 k) (f76_15 p0 p1 k) (f76_22 p0 p1 k) (f76_9 p0 p1 k) (f76_17 p0 p1 k) (f76_24 p0 p1 k) (f76_11 p0 p1 k) (f76_27 p0 p1 k) (f76_29 p0 p1 k) (f76_31 p0 p1 k) (f76_33 p0 p1 k) (f76_35 p0 p1 k)
theorem e76 (p0 : ByteArray) (p1 : Int) : ∀ k, ((fun v2 v3 => cutG TP X q76 [11, 6, 9, 15, 17, 22, 24, 27, 29, 31, 33, 35] D76 (h76 p0 p1).length body76 (finH TP Try.f76.results.toList (h76 p0 p1).length false k76) k 6 (m76_6 p0 p1 v2 v3)) = f76_6 p0 p1 k) ∧ ((fun v0 v1 v2 => cutG TP X q76 [11, 6, 9, 15, 17, 22, 24, 27, 29, 31, 33, 35] D76 (h76 p0 p1).length body76 (finH TP Try.f76.results.toList (h76 p0 p1).length false k76) k 15 (m76_15 p0 p1 v0 v1 v2)) = f76_15 p0 p1 k) ∧ ((fun v3 => cutG TP X q76 [11, 6, 9, 15, 17, 22, 24, 27, 29, 31, 33, 35] D76 (h76 p0 p1).length body76 (finH TP Try.f76.results.toList (h76 p0 p1).length false k76) k 22 (m76_22 p0 p1 v3)) = f76_22 p0 p1 k) ∧ ((fun v2 v3 v5 => cutG TP X q76 [11, 6, 9, 15, 17, 22, 24, 27, 29, 31, 33, 35] D76 (h76 p0 p1).length body76 (finH TP Try.f76.results.toList (h76 p0 p1).length false k76) k 9 (m76_9 p0 p1 v2 v3 v5)) = f76_9 p0 p1 k) ∧ ((fun v0 v1 v2 => cutG TP X q76 [11, 6, 9, 15, 17, 22, 24, 27, 29, 31, 33, 35] D76 (h76 p0 p1).length body76 (finH TP Try.f76.results.toList (h76 p0 p1).length false k76) k 17 (m76_17 p0 p1 v0 v1 v2)) = f76_17 p0 p1 k) ∧ ((fun v2 v3 => cutG TP X q76 [11, 6, 9, 15, 17, 22, 24, 27, 29, 31, 33, 35] D76 (h76 p0 p1).length body76 (finH TP Try.f76.results.toList (h76 p0 p1).length false k76) k 24 (m76_24 p0 p1 v2 v3)) = f76_24 p0 p1 k) ∧ ((fun v0 v1 v2 v3 v4 => cutG TP X q76 [11, 6, 9, 15, 17, 22, 24, 27, 29, 31, 33, 35] D76 (h76 p0 p1).length body76 (finH TP Try.f76.results.toList (h76 p0 p1).length false k76) k 11 (m76_11 p0 p1 v0 v1 v2 v3 v4)) = f76_11 p0 p1 k) ∧ ((fun v2 v3 v4 v5 v6 v7 => cutG TP X q76 [11, 6, 9, 15, 17, 22, 24, 27, 29, 31, 33, 35] D76 (h76 p0 p1).length body76 (finH TP Try.f76.results.toList (h76 p0 p1).length false k76) k 27 (m76_27 p0 p1 v2 v3 v4 v5 v6 v7)) = f76_27 p0 p1 k) ∧ ((fun v2 v3 v4 v5 v6 => cutG TP X q76 [11, 6, 9, 15, 17, 22, 24, 27, 29, 31, 33, 35] D76 (h76 p0 p1).length body76 (finH TP Try.f76.results.toList (h76 p0 p1).length false k76) k 29 (m76_29 p0 p1 v2 v3 v4 v5 v6)) = f76_29 p0 p1 k) ∧ ((fun v2 v3 v4 v5 v6 => cutG TP X q76 [11, 6, 9, 15, 17, 22, 24, 27, 29, 31, 33, 35] D76 (h76 p0 p1).length body76 (finH TP Try.f76.results.toList (h76 p0 p1).length false k76) k 31 (m76_31 p0 p1 v2 v3 v4 v5 v6)) = f76_31 p0 p1 k) ∧ ((fun v2 v3 v4 v5 v6 v7 => cutG TP X q76 [11, 6, 9, 15, 17, 22, 24, 27, 29, 31, 33, 35] D76 (h76 p0 p1).length body76 (finH TP Try.f76.results.toList (h76 p0 p1).length false k76) k 33 (m76_33 p0 p1 v2 v3 v4 v5 v6 v7)) = f76_33 p0 p1 k) ∧ ((fun v1 v2 v3 v4 => cutG TP X q76 [11, 6, 9, 15, 17, 22, 24, 27, 29, 31, 33, 35] D76 (h76 p0 p1).length body76 (finH TP Try.f76.results.toList (h76 p0 p1).length false k76) k 35 (m76_35 p0 p1 v1 v2 v3 v4)) = f76_35 p0 p1 k)
  | 0 => ⟨rfl, rfl, rfl, rfl, rfl, rfl, rfl, rfl, rfl, rfl, rfl, rfl⟩
  | k + 1 => by
    have ih := e76 p0 p1 k
    refine ⟨?_, ?_, ?_, ?_, ?_, ?_, ?_, ?_, ?_, ?_, ?_, ?_⟩
    · funext v2 v3
      refine (if_pos (by kernel_rfl)).trans ?_
      rw [s76_6]
      simp only [ih]
      rfl
    · funext v0 v1 v2
      refine (if_pos (by kernel_rfl)).trans ?_
      rw [s76_15]
      simp only [ih]
      rfl
    · funext v3
      refine (if_pos (by kernel_rfl)).trans ?_
      rw [s76_22]
      simp only [ih]
      rfl
    · funext v2 v3 v5
      refine (if_pos (by kernel_rfl)).trans ?_
      rw [s76_9]
      simp only [ih]
      rfl
    · funext v0 v1 v2
      refine (if_pos (by kernel_rfl)).trans ?_
      rw [s76_17]
      simp only [ih]
      rfl
    · funext v2 v3
      refine (if_pos (by kernel_rfl)).trans ?_
      rw [s76_24]
      simp only [ih]
      rfl
    · funext v0 v1 v2 v3 v4
      refine (if_pos (by kernel_rfl)).trans ?_
      rw [s76_11]
      simp only [ih]
      rfl
    · funext v2 v3 v4 v5 v6 v7
      refine (if_pos (by kernel_rfl)).trans ?_
      rw [s76_27]
      simp only [ih]
      rfl
    · funext v2 v3 v4 v5 v6
      refine (if_pos (by kernel_rfl)).trans ?_
      rw [s76_29]
      simp only [ih]
      rfl
    · funext v2 v3 v4 v5 v6
      refine (if_pos (by kernel_rfl)).trans ?_
      rw [s76_31]
      simp only [ih]
      rfl
    · funext v2 v3 v4 v5 v6 v7
      refine (if_pos (by kernel_rfl)).trans ?_
      rw [s76_33]
      simp only [ih]
      rfl
    · funext v1 v2 v3 v4
      refine (if_pos (by kernel_rfl)).trans ?_
      rw [s76_35]
      simp only [ih]
      rfl
theorem pure76 (p0 : ByteArray) (p1 : Int) (pok : PrmOK TP X q76) (k : Nat) (r : R76) (h : f76 k p0 p1 = some r) : PureH TP X 76 [.str p0, .int .i64 p1] (h76 p0 p1) (out76 r) (outh76 r) :=
  pure_gen good k (fn := Try.f76) (body := body76) (prim := q76) (D := D76) (cuts := [11, 6, 9, 15, 17, 22, 24, 27, 29, 31, 33, 35]) (h := h76 p0 p1) (own := false) (by kernel_rfl) (by kernel_rfl) (by decide +kernel) pok hk76 (by
    rw [s76]
    have ih := e76 p0 p1 k
    simp only [ih]
    exact h)
def F76 {R : Type} (spec : (ByteArray) → Int → Option R76) : Fn U R := fun args h k => match args, h with | [.str p0, .int .i64 p1], [] => (spec p0 p1).bind fun r => k (out76 r) (outh76 r) | _, _ => none
theorem ok76 {R : Type} (spec : (ByteArray) → Int → Option R76) (hp : ∀ (p0 : ByteArray) (p1 : Int) (r : R76), spec p0 p1 = some r → PureH TP X 76 [.str p0, .int .i64 p1] (h76 p0 p1) (out76 r) (outh76 r)) : FnOK TP X 76 (F76 spec : Fn U R) := by
  intro args h k r hh
  unfold F76 at hh
  split at hh
  · obtain ⟨x, h1, h2⟩ := Option.bind_eq_some_iff.1 hh
    exact ⟨_, _, h2, hp _ _ _ h1⟩
  · cases hh
theorem pok76 : PrmOK TP X q76 := prims_cons good okS86 (prims_cons good okS87 (prims_cons good okS88 (prims_cons good okS89 (prims_nil TP X mixed))))
noncomputable def S76 (p0 : ByteArray) (p1 : Int) : Option R76 := evv fun k => f76 k p0 p1
theorem okS76 {R : Type} : FnOK TP X 76 (F76 S76 : Fn U R) := ok76 S76 fun p0 p1 r h => by
  obtain ⟨k, hk⟩ := evv_fuel h
  exact pure76 p0 p1 pok76 k r hk
end
end Go.Abs.Z
