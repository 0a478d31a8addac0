/- Parts of the proof: MC, MBits, MW, PM1, MV, ML1, ML2, ML3, ML4, ML5, ML6, PM2, ML7, MS1, MS2, MS3, PM3, MG, MR1, MR2, MR3. -/
import Derived.Test.YthjnhkmojljlmaaK2
import Derived.Laws.Bits64b
set_option linter.unusedVariables false
namespace Go.Abs.Z
open Go Go.Abs Limb
def cmpI (x y : Int) : Int := if x < y then -1 else if y < x then 1 else 0
theorem len_lt_val {a b : List Int} (ha : Ok a) (hb : Ok b) (nb : Norm b) (h : a.length < b.length) : val a < val b := by
  have u := (val_bound ha).2
  have l := nb.low hb (fun e => by rw [e] at h; simp at h)
  have := P_mono (show a.length ≤ b.length - 1 from by omega)
  omega
theorem val_lt_at {a b : List Int} (ha : Ok a) (hb : Ok b) {n : Nat} (h1 : n < a.length) (h2 : n < b.length) (hd : a.drop (n + 1) = b.drop (n + 1)) (h : a.getD n 0 < b.getD n 0) : val a < val b := by
  have e1 := val_split a (n + 1) (by omega)
  have e2 := val_split b (n + 1) (by omega)
  rw [hd] at e1
  rw [val_take_succ a n h1] at e1
  rw [val_take_succ b n h2] at e2
  have b1 := (val_bound (ha.take n)).2
  have b2 := (val_bound (hb.take n)).1
  have l1 : (a.take n).length = n := by simp; omega
  rw [l1] at b1
  have := Int.mul_le_mul_of_nonneg_right (show a.getD n 0 + 1 ≤ b.getD n 0 by omega) (Int.le_of_lt (P_pos n))
  have r : (a.getD n 0 + 1) * P n = a.getD n 0 * P n + P n := by rw [Int.add_mul, Int.one_mul]
  omega
theorem loop90 {a b : List Int} (ha : Ok a) (hb : Ok b) (hlen : a.length = b.length) (hl : a.length ≤ 1073741824) : ∀ n : Nat, n ≤ a.length → a.drop n = b.drop n → Evt (fun k => f90_6 a b k ((n : Int) - 1)) (cmpI (val a) (val b))
  | 0, _, hd => by
    have : a = b := by simpa using hd
    subst this
    refine Evt.last fun k => ?_
    show b90_6 a a (f90_6 a a k) (((0 : Nat) : Int) - 1) = _
    unfold b90_6 cmpI
    simp (disch := omega) only [cF]
    rw [if_neg (Int.lt_irrefl _), if_neg (Int.lt_irrefl _)]
  | n + 1, hn, hd => by
    have e1 : (((n + 1 : Nat) : Int) - 1) = (n : Int) := by omega
    have e2 : IntKind.i64.wrap ((n : Int) - 1) = (n : Int) - 1 := by rw [wi64] <;> omega
    rcases Int.lt_trichotomy (a.getD n 0) (b.getD n 0) with h | h | h
    · have hv := val_lt_at ha hb (by omega) (by omega) hd h
      refine Evt.last fun k => ?_
      show b90_6 a b (f90_6 a b k) (((n + 1 : Nat) : Int) - 1) = _
      unfold b90_6 cmpI
      rw [e1, e2, if_pos hv]
      simp only [Int.toNat_natCast, dflt105]
      simp (disch := omega) only [cT, cF]
      exact cT h _ _
    · have hd' : a.drop n = b.drop n := by
        rw [List.drop_eq_getElem_cons (by omega : n < a.length), List.drop_eq_getElem_cons (by omega : n < b.length), hd]
        congr 1
        rw [List.getD_eq_getElem?_getD, List.getD_eq_getElem?_getD, List.getElem?_eq_getElem (by omega), List.getElem?_eq_getElem (by omega)] at h
        exact h
      refine Evt.step (loop90 ha hb hlen hl n (by omega) hd') fun k => ?_
      show b90_6 a b (f90_6 a b k) (((n + 1 : Nat) : Int) - 1) = _
      unfold b90_6
      rw [e1, e2]
      simp only [Int.toNat_natCast, dflt105]
      simp (disch := omega) only [cT, cF]
      exact (cF (by omega) _ _).trans (cF (show ¬ b.getD n 0 < a.getD n 0 by omega) _ _)
    · have hv := val_lt_at hb ha (by omega) (by omega) hd.symm h
      refine Evt.last fun k => ?_
      show b90_6 a b (f90_6 a b k) (((n + 1 : Nat) : Int) - 1) = _
      unfold b90_6 cmpI
      rw [e1, e2, if_neg (by omega), if_pos hv]
      simp only [Int.toNat_natCast, dflt105]
      simp (disch := omega) only [cT, cF]
      exact (cF (by omega) _ _).trans (cT h _ _)
theorem run90 {a b : List Int} {x y : Int} (ha : Is a x) (hb : Is b y) (hl : a.length ≤ 1073741824) : S90 a b = some (cmpI x y) := evv_eq (by
  rw [← ha.val, ← hb.val]
  by_cases h : a.length = b.length
  · refine (loop90 ha.ok hb.ok h hl a.length (Nat.le_refl _) ?_).same fun k => ?_
    · rw [List.drop_length, h, List.drop_length]
    · show b90 a b (f90_6 a b k) = _
      unfold b90
      simp (disch := omega) only [cF, wi64]
  · by_cases h' : a.length < b.length
    · have hv := len_lt_val ha.ok hb.ok hb.norm h'
      refine Evt.now fun k => ?_
      show b90 a b (f90_6 a b k) = _
      unfold b90 cmpI
      simp (disch := omega) only [cT]
      rw [if_pos hv]
    · have hv := len_lt_val hb.ok ha.ok ha.norm (show b.length < a.length by omega)
      refine Evt.now fun k => ?_
      show b90 a b (f90_6 a b k) = _
      unfold b90 cmpI
      simp (disch := omega) only [cT, cF]
      rw [if_neg (by omega), if_pos hv])
def mayL (l : List Int) : Bool := decide (l.length ≤ 2048) && (l.length == 0 || l.getD (l.length - 1) 0 != 0)
theorem run77 (l : List Int) : S77 l = some (mayL l) := evv_eq (Evt.now fun k => by
  show b77 l = _
  unfold b77 mayL
  by_cases h : l.length ≤ 2048
  · by_cases h0 : l.length = 0
    · have : decide (l.length ≤ 2048) = true := by simpa using h
      rw [this]
      simp (disch := omega) only [cT, cE]
      rw [h0]; rfl
    · have e0 : IntKind.i64.wrap ((l.length : Int) - 1) = ((l.length - 1 : Nat) : Int) := by rw [wi64] <;> omega
      rw [e0]
      simp only [Int.toNat_natCast, dflt105]
      simp (disch := omega) only [cT, cN]
      have h1 : decide (l.length ≤ 2048) = true := by simpa using h
      have h2 : (l.length == 0) = false := by simpa using h0
      rw [h1, h2]; rfl
  · have h1 : decide (l.length ≤ 2048) = false := by simpa using h
    rw [h1]
    simp (disch := omega) only [cF]
    rfl)
theorem mayL_is {l : List Int} (h : mayL l = true) : l.length ≤ 2048 ∧ Norm l := by
  unfold mayL at h
  simp only [Bool.and_eq_true, decide_eq_true_eq, Bool.or_eq_true, beq_iff_eq, bne_iff_ne] at h
  refine ⟨h.1, h.2.elim (fun h => .inl (List.eq_nil_of_length_eq_zero h)) .inr⟩
theorem run78 (l : List Int) : S78 l = some (l == [1]) := evv_eq (Evt.now fun k => by
  show b78 l = _
  unfold b78
  by_cases h : l.length = 1
  · obtain ⟨x, rfl⟩ := List.length_eq_one_iff.1 h
    simp only [dflt105]
    simp (disch := simp) only [cT, cE]
    refine congrArg some ?_
    show (x == 1) = ([x] == [1])
    by_cases e : x = 1 <;> simp [e]
  · have : (l == [1]) = false := by
      refine Bool.eq_false_iff.2 fun e => h ?_
      rw [beq_iff_eq] at e; rw [e]; rfl
    rw [this]
    simp (disch := omega) only [cN])
theorem run61 (l : List Int) : S61 l = some (mayL l) := evv_eq (Evt.now fun k => by
  show b61 l = _
  unfold b61 mayL
  by_cases h : l.length ≤ 2048
  · by_cases h0 : l.length = 0
    · have : decide (l.length ≤ 2048) = true := by simpa using h
      rw [this]
      simp (disch := omega) only [cT, cF, cE]
      rw [h0]; rfl
    · have e0 : IntKind.i64.wrap ((l.length : Int) - 1) = ((l.length - 1 : Nat) : Int) := by rw [wi64] <;> omega
      rw [e0]
      simp only [Int.toNat_natCast, dflt105]
      simp (disch := omega) only [cT, cF, cN]
      have h1 : decide (l.length ≤ 2048) = true := by simpa using h
      have h2 : (l.length == 0) = false := by simpa using h0
      rw [h1, h2]; rfl
  · have h1 : decide (l.length ≤ 2048) = false := by simpa using h
    rw [h1]
    simp (disch := omega) only [cT, cF]
    rfl)
end Go.Abs.Z
namespace Go.Abs
open Go
theorem bor64 {a b : Int} (ha : 0 ≤ a) (ha' : a < 18446744073709551616) (hb : 0 ≤ b) (hb' : b < 18446744073709551616) : bits .or .u64 a b = ((a.toNat ||| b.toNat : Nat) : Int) := by
  have := bits_or_u64_nat a.toNat b.toNat (by omega) (by omega)
  rwa [Int.toNat_of_nonneg ha, Int.toNat_of_nonneg hb] at this
theorem band64 {a b : Int} (ha : 0 ≤ a) (ha' : a < 18446744073709551616) (hb : 0 ≤ b) (hb' : b < 18446744073709551616) : bits .and .u64 a b = ((a.toNat &&& b.toNat : Nat) : Int) := by
  have := bits_and_u64_nat a.toNat b.toNat (by omega) (by omega)
  rwa [Int.toNat_of_nonneg ha, Int.toNat_of_nonneg hb] at this
theorem ofInt32 {a : Int} (ha : 0 ≤ a) (ha' : a < 4294967296) : (BitVec.ofInt 32 a).toNat = a.toNat := by
  have : a = ((a.toNat : Nat) : Int) := by omega
  rw [this, BitVec.ofInt_natCast, BitVec.toNat_ofNat]
  simp only [Int.toNat_natCast]
  exact Nat.mod_eq_of_lt (by omega)
theorem bor32 {a b : Int} (ha : 0 ≤ a) (ha' : a < 4294967296) (hb : 0 ≤ b) (hb' : b < 4294967296) : bits .or .u32 a b = ((a.toNat ||| b.toNat : Nat) : Int) := by
  have hx : a.toNat ||| b.toNat < 2 ^ 32 := Nat.or_lt_two_pow (by omega) (by omega)
  show IntKind.u32.wrap ((BitVec.ofInt 32 a ||| BitVec.ofInt 32 b).toNat : Int) = _
  rw [BitVec.toNat_or, ofInt32 ha ha', ofInt32 hb hb', wu32]
  omega
theorem band32 {a b : Int} (ha : 0 ≤ a) (ha' : a < 4294967296) (hb : 0 ≤ b) (hb' : b < 4294967296) : bits .and .u32 a b = ((a.toNat &&& b.toNat : Nat) : Int) := by
  have hx : a.toNat &&& b.toNat < 2 ^ 32 := Nat.and_lt_two_pow _ (by omega)
  show IntKind.u32.wrap ((BitVec.ofInt 32 a &&& BitVec.ofInt 32 b).toNat : Int) = _
  rw [BitVec.toNat_and, ofInt32 ha ha', ofInt32 hb hb', wu32]
  omega
theorem bxor32 {a b : Int} (ha : 0 ≤ a) (ha' : a < 4294967296) (hb : 0 ≤ b) (hb' : b < 4294967296) : bits .xor .u32 a b = ((a.toNat ^^^ b.toNat : Nat) : Int) := by
  have hx : a.toNat ^^^ b.toNat < 2 ^ 32 := Nat.xor_lt_two_pow (by omega) (by omega)
  show IntKind.u32.wrap ((BitVec.ofInt 32 a ^^^ BitVec.ofInt 32 b).toNat : Int) = _
  rw [BitVec.toNat_xor, ofInt32 ha ha', ofInt32 hb hb', wu32]
  omega
theorem or_low {a b : Int} {n : Nat} (ha : 0 ≤ a) (hb : 0 ≤ b) (hb' : b < 2 ^ n) (h : a * 2 ^ n + b < 18446744073709551616) : bits .or .u64 (a * 2 ^ n) b = a * 2 ^ n + b := by
  have hp : (0 : Int) < 2 ^ n := Int.pow_pos (by decide)
  have hm : 0 ≤ a * 2 ^ n := Int.mul_nonneg ha (Int.le_of_lt hp)
  rw [bor64 hm (by omega) hb (by omega)]
  have e1 : (a * 2 ^ n).toNat = 2 ^ n * a.toNat := by
    have : a = (a.toNat : Int) := by omega
    rw [this]
    have : ((a.toNat : Int) * 2 ^ n) = ((2 ^ n * a.toNat : Nat) : Int) := by
      rw [Int.natCast_mul, Int.natCast_pow, Int.mul_comm]; rfl
    rw [this, Int.toNat_natCast, Int.toNat_natCast]
  have hb2 : b.toNat < 2 ^ n := by
    have : ((2 ^ n : Nat) : Int) = (2 : Int) ^ n := by rw [Int.natCast_pow]; rfl
    omega
  rw [e1, ← Nat.two_pow_add_eq_or_of_lt hb2, Int.natCast_add, Int.natCast_mul, Int.natCast_pow]
  have : ((a.toNat : Nat) : Int) = a := by omega
  have h2 : ((b.toNat : Nat) : Int) = b := by omega
  rw [this, h2, Int.mul_comm]; rfl
theorem or_low' {a b : Int} {n : Nat} (ha : 0 ≤ a) (hb : 0 ≤ b) (hb' : b < 2 ^ n) (h : a * 2 ^ n + b < 18446744073709551616) : bits .or .u64 b (a * 2 ^ n) = a * 2 ^ n + b := by
  have hp : (0 : Int) < 2 ^ n := Int.pow_pos (by decide)
  have hm : 0 ≤ a * 2 ^ n := Int.mul_nonneg ha (Int.le_of_lt hp)
  rw [bor64 hb (by omega) hm (by omega), Nat.or_comm, ← bor64 hm (by omega) hb (by omega)]
  exact or_low ha hb hb' h
theorem testBit31 (x : Nat) (h : x < 4294967296) : x.testBit 31 = decide (2147483648 ≤ x) := by
  rw [Nat.testBit_eq_decide_div_mod_eq]
  by_cases hx : 2147483648 ≤ x
  · have : x / 2 ^ 31 % 2 = 1 := by omega
    simp [this, hx]
  · have : x / 2 ^ 31 % 2 = 0 := by omega
    simp [this, hx]
theorem borrow32 {x y b : Int} (hx : 0 ≤ x) (hx' : x < 4294967296) (hy : 0 ≤ y) (hy' : y < 4294967296) (hb : b = 0 ∨ b = 1) :
    shr .u32 (bits .or .u32 (bits .and .u32 (bits .xor .u32 4294967295 x) y) (bits .and .u32 (bits .xor .u32 4294967295 (bits .xor .u32 x y)) ((x - y - b) % 4294967296))) 31 = if x < y + b then 1 else 0 := by
  have hd0 : 0 ≤ (x - y - b) % 4294967296 := Int.emod_nonneg _ (by decide)
  have hd1 : (x - y - b) % 4294967296 < 4294967296 := Int.emod_lt_of_pos _ (by decide)
  have n1 : (4294967295 : Int).toNat = 4294967295 := by omega
  have nx : (4294967295 : Nat) ^^^ x.toNat < 2 ^ 32 := Nat.xor_lt_two_pow (by omega) (by omega)
  have nxy : x.toNat ^^^ y.toNat < 2 ^ 32 := Nat.xor_lt_two_pow (by omega) (by omega)
  have nxy' : (4294967295 : Nat) ^^^ (x.toNat ^^^ y.toNat) < 2 ^ 32 := Nat.xor_lt_two_pow (by omega) nxy
  rw [bxor32 (by omega) (by omega) hx hx', bxor32 hx hx' hy hy', bxor32 (by omega) (by omega) (by omega) (by omega)]
  simp only [Int.toNat_natCast, n1]
  rw [band32 (by omega) (by omega) hy hy', band32 (by omega) (by omega) hd0 hd1]
  have a1 := Nat.and_lt_two_pow (x := 4294967295 ^^^ x.toNat) (y := y.toNat) (n := 32) (by omega)
  have a2 := Nat.and_lt_two_pow (x := 4294967295 ^^^ (x.toNat ^^^ y.toNat)) (y := ((x - y - b) % 4294967296).toNat) (n := 32) (by omega)
  simp only [Int.toNat_natCast]
  rw [bor32 (by omega) (by omega) (by omega) (by omega)]
  simp only [Int.toNat_natCast]
  generalize hD : ((x - y - b) % 4294967296).toNat = D at *
  have a3 : ((4294967295 ^^^ x.toNat) &&& y.toNat ||| (4294967295 ^^^ (x.toNat ^^^ y.toNat)) &&& D) < 2 ^ 32 := Nat.or_lt_two_pow a1 a2
  generalize hE : ((4294967295 ^^^ x.toNat) &&& y.toNat ||| (4294967295 ^^^ (x.toNat ^^^ y.toNat)) &&& D) = E at *
  have ht : E.testBit 31 = decide (2147483648 ≤ E) := testBit31 E (by omega)
  rw [← hE, Nat.testBit_or, Nat.testBit_and, Nat.testBit_and, Nat.testBit_xor, Nat.testBit_xor, Nat.testBit_xor, testBit31 _ (show x.toNat < 4294967296 by omega), testBit31 _ (show y.toNat < 4294967296 by omega), testBit31 _ (show D < 4294967296 by omega), testBit31 4294967295 (by omega)] at ht
  rw [hE] at ht
  have e3 : shr .u32 (E : Int) 31 = if 2147483648 ≤ E then 1 else 0 := by
    show Int.fdiv (E : Int) (2 ^ 31) = _
    rw [Int.fdiv_eq_ediv_of_nonneg _ (by decide)]
    split <;> omega
  rw [e3]
  have hl : decide (2147483648 ≤ 4294967295) = true := decide_eq_true (by omega)
  rw [hl] at ht
  have key : (2147483648 ≤ E) ↔ x < y + b := by
    by_cases c1 : 2147483648 ≤ x.toNat <;> by_cases c2 : 2147483648 ≤ y.toNat <;> by_cases c3 : 2147483648 ≤ D <;> simp [c1, c2, c3] at ht <;> omega
  by_cases c : x < y + b
  · rw [if_pos (key.2 c), if_pos c]
  · rw [if_neg (fun h => c (key.1 h)), if_neg c]
end Go.Abs
namespace Go.Abs.Z
open Go Go.Abs Limb
theorem run127 {x y b : Int} (hx : 0 ≤ x) (hx' : x < 4294967296) (hy : 0 ≤ y) (hy' : y < 4294967296) (hb : b = 0 ∨ b = 1) : S127 x y b = some ((x - y - b) % 4294967296, if x < y + b then 1 else 0) :=
  evv_eq (Evt.now fun k => by
    show b127 x y b = _
    unfold b127
    have em : IntKind.u32.max = 4294967295 := by rfl
    have e1 : (if IntKind.u32.signed = true then (-1 : Int) else IntKind.u32.max) = 4294967295 := by rw [em]; rfl
    have e2 : IntKind.u32.wrap (IntKind.u32.wrap (x - y) - b) = (x - y - b) % 4294967296 := by rw [wu32, wu32]; omega
    rw [e1, e2, borrow32 hx hx' hy hy' hb])
theorem run128 {x y c : Int} (hx : 0 ≤ x) (hx' : x < 4294967296) (hy : 0 ≤ y) (hy' : y < 4294967296) (hb : 0 ≤ c) (hb' : c < 4294967296) : S128 x y c = some ((x + y + c) % 4294967296, (x + y + c) / 4294967296) :=
  evv_eq (Evt.now fun k => by
    show b128 x y c = _
    unfold b128
    have e2 : IntKind.u64.wrap (IntKind.u64.wrap (IntKind.u64.wrap x + IntKind.u64.wrap y) + IntKind.u64.wrap c) = x + y + c := by simp only [wu64]; omega
    rw [e2]
    have e3 : shr .u64 (x + y + c) 32 = (x + y + c) / 4294967296 := by
      show Int.fdiv _ (2 ^ 32) = _
      rw [Int.fdiv_eq_ediv_of_nonneg _ (by decide)]; rfl
    rw [e3, wu32, wu32]
    congr 2
    omega)
theorem run126 {h l d : Int} (hh : 0 ≤ h) (hl : 0 ≤ l) (hl' : l < 4294967296) (hd' : d < 4294967296) (hlt : h < d) : S126 h l d = some ((h * 4294967296 + l) / d, (h * 4294967296 + l) % d) :=
  evv_eq (Evt.now fun k => by
    show b126 h l d = _
    unfold b126
    have e0 : (d != 0) = true := by simp; omega
    have ed : IntKind.u64.wrap d = d := by rw [wu64]; omega
    have eh : IntKind.u64.wrap h = h := by rw [wu64]; omega
    have el : IntKind.u64.wrap l = l := by rw [wu64]; omega
    have es : shl .u64 h 32 = h * 2 ^ 32 := by
      show IntKind.u64.wrap (h * 2 ^ 32) = _
      rw [wu64]; omega
    rw [e0, ed, eh, el, es, or_low hh hl (by omega) (by omega)]
    simp (disch := omega) only [cT, cF, cond_true]
    have hn : 0 ≤ h * 2 ^ 32 + l := by omega
    have e1 : (h * 2 ^ 32 + l).tdiv d = (h * 2 ^ 32 + l) / d := Int.tdiv_eq_ediv_of_nonneg hn
    have e2 : (h * 2 ^ 32 + l).tmod d = (h * 2 ^ 32 + l) % d := Int.tmod_eq_emod_of_nonneg hn
    have p0 : 0 ≤ (h * 2 ^ 32 + l) / d := Int.ediv_nonneg hn (by omega)
    have p1 : (h * 2 ^ 32 + l) / d < 4294967296 := by
      refine Int.ediv_lt_of_lt_mul (by omega) ?_
      have : (h + 1) * 4294967296 ≤ d * 4294967296 := Int.mul_le_mul_of_nonneg_right (by omega) (by decide)
      rw [Int.mul_comm 4294967296 d]
      omega
    have q0 : 0 ≤ (h * 2 ^ 32 + l) % d := Int.emod_nonneg _ (by omega)
    have q1 : (h * 2 ^ 32 + l) % d < d := Int.emod_lt_of_pos _ (by omega)
    rw [e1, e2, wu64, wu32, wu32]
    have k1 : (h * 2 ^ 32 + l) / d % 18446744073709551616 % 4294967296 = (h * 2 ^ 32 + l) / d := by omega
    have k2 : (h * 2 ^ 32 + l) % d % 4294967296 = (h * 2 ^ 32 + l) % d := by omega
    rw [k1, k2]
    rfl)
def BL (x n : Int) : Prop := 0 ≤ n ∧ x < 2 ^ n.toNat ∧ (n = 0 ∨ 2 ^ (n.toNat - 1) ≤ x)
def tab131 : List UInt8 := (([0, 1, 2, 2, 3, 3, 3, 3, 4, 4, 4, 4, 4, 4, 4, 4, 5, 5, 5, 5, 5, 5, 5, 5, 5, 5, 5, 5, 5, 5, 5, 5, 6, 6, 6, 6, 6, 6, 6, 6, 6, 6, 6, 6, 6, 6, 6, 6, 6, 6, 6, 6, 6, 6, 6, 6, 6, 6, 6, 6, 6, 6, 6, 6].append [7, 7, 7, 7, 7, 7, 7, 7, 7, 7, 7, 7, 7, 7, 7, 7, 7, 7, 7, 7, 7, 7, 7, 7, 7, 7, 7, 7, 7, 7, 7, 7, 7, 7, 7, 7, 7, 7, 7, 7, 7, 7, 7, 7, 7, 7, 7, 7, 7, 7, 7, 7, 7, 7, 7, 7, 7, 7, 7, 7, 7, 7, 7, 7]).append ([8, 8, 8, 8, 8, 8, 8, 8, 8, 8, 8, 8, 8, 8, 8, 8, 8, 8, 8, 8, 8, 8, 8, 8, 8, 8, 8, 8, 8, 8, 8, 8, 8, 8, 8, 8, 8, 8, 8, 8, 8, 8, 8, 8, 8, 8, 8, 8, 8, 8, 8, 8, 8, 8, 8, 8, 8, 8, 8, 8, 8, 8, 8, 8].append [8, 8, 8, 8, 8, 8, 8, 8, 8, 8, 8, 8, 8, 8, 8, 8, 8, 8, 8, 8, 8, 8, 8, 8, 8, 8, 8, 8, 8, 8, 8, 8, 8, 8, 8, 8, 8, 8, 8, 8, 8, 8, 8, 8, 8, 8, 8, 8, 8, 8, 8, 8, 8, 8, 8, 8, 8, 8, 8, 8, 8, 8, 8, 8]))
theorem b131_eq (p0 : Int) : b125 p0 = (
  cond (Decidable.decide (p0 ≥ 65536))
  (cond (Decidable.decide (Go.Abs.shr Go.IntKind.u32 p0 16 ≥ 256))
  (cond (Decidable.decide (0 ≤ Go.IntKind.u8.wrap (Go.Abs.shr Go.IntKind.u32 (Go.Abs.shr Go.IntKind.u32 p0 16) 8)))
  (cond (Decidable.decide (Go.IntKind.u8.wrap (Go.Abs.shr Go.IntKind.u32 (Go.Abs.shr Go.IntKind.u32 p0 16) 8) < (↑(ByteArray.mk tab131.toArray).size : Int)))
  (some (Go.IntKind.i64.wrap (Go.IntKind.i64.wrap (16 + 8) + Go.IntKind.i64.wrap (Go.Abs.bt (ByteArray.mk tab131.toArray) (Go.IntKind.u8.wrap (Go.Abs.shr Go.IntKind.u32 (Go.Abs.shr Go.IntKind.u32 p0 16) 8))))))
  (none))
  (none))
  (cond (Decidable.decide (0 ≤ Go.IntKind.u8.wrap (Go.Abs.shr Go.IntKind.u32 p0 16)))
  (cond (Decidable.decide (Go.IntKind.u8.wrap (Go.Abs.shr Go.IntKind.u32 p0 16) < (↑(ByteArray.mk tab131.toArray).size : Int)))
  (some (Go.IntKind.i64.wrap (16 + Go.IntKind.i64.wrap (Go.Abs.bt (ByteArray.mk tab131.toArray) (Go.IntKind.u8.wrap (Go.Abs.shr Go.IntKind.u32 p0 16))))))
  (none))
  (none)))
  (cond (Decidable.decide (p0 ≥ 256))
  (cond (Decidable.decide (0 ≤ Go.IntKind.u8.wrap (Go.Abs.shr Go.IntKind.u32 p0 8)))
  (cond (Decidable.decide (Go.IntKind.u8.wrap (Go.Abs.shr Go.IntKind.u32 p0 8) < (↑(ByteArray.mk tab131.toArray).size : Int)))
  (some (Go.IntKind.i64.wrap (Go.IntKind.i64.wrap (0 + 8) + Go.IntKind.i64.wrap (Go.Abs.bt (ByteArray.mk tab131.toArray) (Go.IntKind.u8.wrap (Go.Abs.shr Go.IntKind.u32 p0 8))))))
  (none))
  (none))
  (cond (Decidable.decide (0 ≤ Go.IntKind.u8.wrap p0))
  (cond (Decidable.decide (Go.IntKind.u8.wrap p0 < (↑(ByteArray.mk tab131.toArray).size : Int)))
  (some (Go.IntKind.i64.wrap (0 + Go.IntKind.i64.wrap (Go.Abs.bt (ByteArray.mk tab131.toArray) (Go.IntKind.u8.wrap p0)))))
  (none))
  (none)))) := rfl
theorem tab131_ok : ∀ x : Nat, x < 256 → (tab131.getD x 0).toNat ≤ 8 ∧ x < 2 ^ (tab131.getD x 0).toNat ∧ ((tab131.getD x 0).toNat = 0 ∨ 2 ^ ((tab131.getD x 0).toNat - 1) ≤ x) := by decide +kernel
theorem bt131 {y : Int} (h0 : 0 ≤ y) (h1 : y < 256) : 0 ≤ bt (ByteArray.mk tab131.toArray) y ∧ bt (ByteArray.mk tab131.toArray) y ≤ 8 ∧ BL y (bt (ByteArray.mk tab131.toArray) y) := by
  obtain ⟨a, b, c⟩ := tab131_ok y.toNat (by omega)
  have e : bt (ByteArray.mk tab131.toArray) y = ((tab131.getD y.toNat 0).toNat : Int) := by
    unfold bt
    rw [Array.getD_eq_getD_getElem?, List.getElem?_toArray, List.getD_eq_getElem?_getD]
  rw [e]
  generalize (tab131.getD y.toNat 0).toNat = t at *
  have p : ((2 ^ t : Nat) : Int) = (2 : Int) ^ t := by rw [Int.natCast_pow]; rfl
  have q : ((2 ^ (t - 1) : Nat) : Int) = (2 : Int) ^ (t - 1) := by rw [Int.natCast_pow]; rfl
  refine ⟨by omega, by omega, by omega, ?_, ?_⟩
  · rw [Int.toNat_natCast]; omega
  · rw [Int.toNat_natCast]; omega
theorem BL.shift {x y n : Int} {s : Nat} (h : BL y n) (hy : 0 < y) (e : y = x / 2 ^ s) : BL x (n + s) := by
  obtain ⟨h0, h1, h2⟩ := h
  have hp : (0 : Int) < 2 ^ s := Int.pow_pos (by decide)
  have hn : n ≠ 0 := fun hn => by rw [hn] at h1; simp at h1; omega
  have en : (n + s).toNat = n.toNat + s := by omega
  refine ⟨by omega, ?_, .inr ?_⟩
  · rw [en, Int.pow_add]
    have : x < (y + 1) * 2 ^ s := by
      have := Int.lt_ediv_add_one_mul_self x hp
      rw [← e] at this; exact this
    have h3 := Int.mul_le_mul_of_nonneg_right (show y + 1 ≤ 2 ^ n.toNat by omega) (Int.le_of_lt hp)
    omega
  · have h2' := h2.resolve_left hn
    have en' : (n + s).toNat - 1 = (n.toNat - 1) + s := by omega
    rw [en', Int.pow_add]
    have h3 := Int.mul_le_mul_of_nonneg_right h2' (Int.le_of_lt hp)
    have h4 : y * 2 ^ s ≤ x := by rw [e]; exact Int.ediv_mul_le x (by omega)
    omega
theorem shr32 {x : Int} (s : Nat) (hs : s ≤ 32) : shr .u32 x (s : Int) = x / 2 ^ s := by
  unfold shr
  have : min (s : Int).toNat IntKind.u32.bits = s := by
    rw [Int.toNat_natCast]
    exact Nat.min_eq_left hs
  rw [this, Int.fdiv_eq_ediv_of_nonneg _ (Int.le_of_lt (Int.pow_pos (by decide)))]
theorem run125 {x : Int} (h0 : 0 ≤ x) (h1 : x < 4294967296) : ∃ n : Int, S125 x = some n ∧ 0 ≤ n ∧ n ≤ 32 ∧ BL x n := by
  have s16 : shr .u32 x 16 = x / 65536 := shr32 16 (by decide)
  have s24 : shr .u32 (shr .u32 x 16) 8 = x / 16777216 := by
    rw [s16]
    refine (shr32 8 (by decide)).trans ?_
    omega
  have s8 : shr .u32 x 8 = x / 256 := shr32 8 (by decide)
  have sz : ((ByteArray.mk tab131.toArray).size : Int) = 256 := by decide +kernel
  by_cases c1 : 65536 ≤ x
  · by_cases c2 : 16777216 ≤ x
    · obtain ⟨b0, b1, b2⟩ := bt131 (y := x / 16777216) (by omega) (by omega)
      refine ⟨24 + bt (ByteArray.mk tab131.toArray) (x / 16777216), evv_eq (Evt.now fun k => ?_), by omega, by omega, ?_⟩
      · show b125 x = _
        rw [b131_eq, s24, s16, sz]
        have e : IntKind.u8.wrap (x / 16777216) = x / 16777216 := by rw [wu8]; omega
        rw [e]
        simp (disch := omega) only [cT, cF, wi64]
        try rfl
        try (congr 1; omega)
      · have := b2.shift (s := 24) (by omega) (x := x) rfl
        rw [Int.add_comm]; exact this
    · obtain ⟨b0, b1, b2⟩ := bt131 (y := x / 65536) (by omega) (by omega)
      refine ⟨16 + bt (ByteArray.mk tab131.toArray) (x / 65536), evv_eq (Evt.now fun k => ?_), by omega, by omega, ?_⟩
      · show b125 x = _
        rw [b131_eq, s24, s16, sz]
        have e : IntKind.u8.wrap (x / 65536) = x / 65536 := by rw [wu8]; omega
        rw [e]
        simp (disch := omega) only [cT, cF, wi64]
      · have := b2.shift (s := 16) (by omega) (x := x) rfl
        rw [Int.add_comm]; exact this
  · by_cases c2 : 256 ≤ x
    · obtain ⟨b0, b1, b2⟩ := bt131 (y := x / 256) (by omega) (by omega)
      refine ⟨8 + bt (ByteArray.mk tab131.toArray) (x / 256), evv_eq (Evt.now fun k => ?_), by omega, by omega, ?_⟩
      · show b125 x = _
        rw [b131_eq, s24, s16, s8, sz]
        have e : IntKind.u8.wrap (x / 256) = x / 256 := by rw [wu8]; omega
        rw [e]
        simp (disch := omega) only [cT, cF, wi64]
        try rfl
        try (congr 1; omega)
      · have := b2.shift (s := 8) (by omega) (x := x) rfl
        rw [Int.add_comm]; exact this
    · obtain ⟨b0, b1, b2⟩ := bt131 (y := x) (by omega) (by omega)
      refine ⟨bt (ByteArray.mk tab131.toArray) x, evv_eq (Evt.now fun k => ?_), by omega, by omega, b2⟩
      show b125 x = _
      rw [b131_eq, s24, s16, s8, sz]
      have e : IntKind.u8.wrap x = x := by rw [wu8]; omega
      rw [e]
      simp (disch := omega) only [cT, cF, wi64, Int.zero_add]
end Go.Abs.Z
namespace Go.Abs.Z
open Go Go.Abs Go.Proofs
noncomputable section
abbrev R95 : Type := TI
noncomputable def body95 : Go.Code := (Try.f95.body).getD Go.Code.skip
def h95 (p0 : Int) : List (AO U) := []
def k95 : AV U → List (AO U) → Option R95 := fun v h => match v, h with | AV.imm 105 x0, [] => some x0 | _, _ => none
def out95 : R95 → AV U := fun x0 => AV.imm 105 x0
def outh95 : R95 → List (AO U) := fun x0 => []
def D95 : Nat → Dir := dirs []
def b95 (p0 : Int)   : Option R95 :=
  (S113 [IntKind.u32.wrap p0, IntKind.u32.wrap (shr IntKind.u64 p0 32)]).bind fun r0 =>
  some (r0)
theorem hk95 : ∀ v h' r, k95 v h' = some r → v = out95 r ∧ h' = outh95 r := by
  intro v h' r h
  unfold k95 at h
  split at h
  · injection h with h; subst h; exact ⟨rfl, rfl⟩
  · cases h
abbrev q95 : Prim U R95 := prims X [⟨113, fun _ => true, [.frz], F113 S113⟩]
theorem s95 (c : Nat → S U → Option R95) (p0 : Int) : seg TP X q95 [] (fun q st => c q (keepD D95 (h95 p0).length q st)) body95 (finH TP Try.f95.results.toList (h95 p0).length false k95) (start [.int .u64 p0] Try.f95.ntmps (h95 p0)) = b95 p0  := by kernel_rfl
def f95 (_ : Nat) (p0 : Int) : Option R95 := b95 p0
theorem pure95 (p0 : Int) (pok : PrmOK TP X q95) (k : Nat) (r : R95) (h : f95 k p0 = some r) : PureH TP X 95 [.int .u64 p0] (h95 p0) (out95 r) (outh95 r) :=
  pure_gen good 0 (fn := Try.f95) (body := body95) (prim := q95) (D := D95) (cuts := []) (h := h95 p0) (own := false) (by kernel_rfl) (by kernel_rfl) (by decide +kernel) pok hk95 (by
    rw [s95]
    exact h)
def F95 {R : Type} (spec : (Int) → Option R95) : Fn U R := fun args h k => match args, h with | [.int .u64 p0], [] => (spec p0).bind fun r => k (out95 r) (outh95 r) | _, _ => none
theorem ok95 {R : Type} (spec : (Int) → Option R95) (hp : ∀ (p0 : Int) (r : R95), spec p0 = some r → PureH TP X 95 [.int .u64 p0] (h95 p0) (out95 r) (outh95 r)) : FnOK TP X 95 (F95 spec : Fn U R) := by
  intro args h k r hh
  unfold F95 at hh
  split at hh
  · obtain ⟨x, h1, h2⟩ := Option.bind_eq_some_iff.1 hh
    exact ⟨_, _, h2, hp _ _ h1⟩
  · cases hh
theorem pok95 : PrmOK TP X q95 := prims_cons good okS113 (prims_nil TP X mixed)
noncomputable def S95 (p0 : Int) : Option R95 := evv fun k => f95 k p0
theorem okS95 {R : Type} : FnOK TP X 95 (F95 S95 : Fn U R) := ok95 S95 fun p0 r h => by
  obtain ⟨k, hk⟩ := evv_fuel h
  exact pure95 p0 pok95 k r hk
abbrev R107 : Type := (Int)
noncomputable def body107 : Go.Code := (Try.f107.body).getD Go.Code.skip
def h107 (p0 : TI) : List (AO U) := []
def k107 : AV U → List (AO U) → Option R107 := fun v h => match v, h with | AV.int IntKind.i64 x0, [] => some x0 | _, _ => none
def out107 : R107 → AV U := fun x0 => AV.int IntKind.i64 x0
def outh107 : R107 → List (AO U) := fun x0 => []
def D107 : Nat → Dir := dirs []
def b107 (p0 : TI)   : Option R107 :=
  cond ((↑p0.length : Int) == 0)
  (some (0))
  (cond (decide (0 ≤ IntKind.i64.wrap ((↑p0.length : Int) - 1)))
  (cond (decide (IntKind.i64.wrap ((↑p0.length : Int) - 1) < (↑p0.length : Int)))
  (cond (decide ((IntKind.i64.wrap ((↑p0.length : Int) - 1)).toNat < p0.length))
  ((S125 (p0.getD (IntKind.i64.wrap ((↑p0.length : Int) - 1)).toNat (X.dflt 105))).bind fun r0 =>
  some (IntKind.i64.wrap (IntKind.i64.wrap (32 * IntKind.i64.wrap ((↑p0.length : Int) - 1)) + r0)))
  (none))
  (none))
  (none))
theorem hk107 : ∀ v h' r, k107 v h' = some r → v = out107 r ∧ h' = outh107 r := by
  intro v h' r h
  unfold k107 at h
  split at h
  · injection h with h; subst h; exact ⟨rfl, rfl⟩
  · cases h
abbrev q107 : Prim U R107 := prims X [⟨125, fun _ => true, [], F125 S125⟩]
theorem s107 (c : Nat → S U → Option R107) (p0 : TI) : seg TP X q107 [] (fun q st => c q (keepD D107 (h107 p0).length q st)) body107 (finH TP Try.f107.results.toList (h107 p0).length false k107) (start [.imm 105 p0] Try.f107.ntmps (h107 p0)) = b107 p0  := by kernel_rfl
def f107 (_ : Nat) (p0 : TI) : Option R107 := b107 p0
theorem pure107 (p0 : TI) (pok : PrmOK TP X q107) (k : Nat) (r : R107) (h : f107 k p0 = some r) : PureH TP X 107 [.imm 105 p0] (h107 p0) (out107 r) (outh107 r) :=
  pure_gen good 0 (fn := Try.f107) (body := body107) (prim := q107) (D := D107) (cuts := []) (h := h107 p0) (own := false) (by kernel_rfl) (by kernel_rfl) (by decide +kernel) pok hk107 (by
    rw [s107]
    exact h)
def F107 {R : Type} (spec : TI → Option R107) : Fn U R := fun args h k => match args, h with | [.imm 105 p0], [] => (spec p0).bind fun r => k (out107 r) (outh107 r) | _, _ => none
theorem ok107 {R : Type} (spec : TI → Option R107) (hp : ∀ (p0 : TI) (r : R107), spec p0 = some r → PureH TP X 107 [.imm 105 p0] (h107 p0) (out107 r) (outh107 r)) : FnOK TP X 107 (F107 spec : Fn U R) := by
  intro args h k r hh
  unfold F107 at hh
  split at hh
  · obtain ⟨x, h1, h2⟩ := Option.bind_eq_some_iff.1 hh
    exact ⟨_, _, h2, hp _ _ h1⟩
  · cases hh
theorem pok107 : PrmOK TP X q107 := prims_cons good okS125 (prims_nil TP X mixed)
noncomputable def S107 (p0 : TI) : Option R107 := evv fun k => f107 k p0
theorem okS107 {R : Type} : FnOK TP X 107 (F107 S107 : Fn U R) := ok107 S107 fun p0 r h => by
  obtain ⟨k, hk⟩ := evv_fuel h
  exact pure107 p0 pok107 k r hk
abbrev R110 : Type := (Int)
noncomputable def body110 : Go.Code := (Try.f110.body).getD Go.Code.skip
def h110 (p0 : Int) : List (AO U) := []
def k110 : AV U → List (AO U) → Option R110 := fun v h => match v, h with | AV.int IntKind.i64 x0, [] => some x0 | _, _ => none
def out110 : R110 → AV U := fun x0 => AV.int IntKind.i64 x0
def outh110 : R110 → List (AO U) := fun x0 => []
def D110 : Nat → Dir := dirs []
def b110 (p0 : Int)   : Option R110 :=
  (S125 p0).bind fun r0 =>
  some (IntKind.i64.wrap (32 - r0))
theorem hk110 : ∀ v h' r, k110 v h' = some r → v = out110 r ∧ h' = outh110 r := by
  intro v h' r h
  unfold k110 at h
  split at h
  · injection h with h; subst h; exact ⟨rfl, rfl⟩
  · cases h
abbrev q110 : Prim U R110 := prims X [⟨125, fun _ => true, [], F125 S125⟩]
theorem s110 (c : Nat → S U → Option R110) (p0 : Int) : seg TP X q110 [] (fun q st => c q (keepD D110 (h110 p0).length q st)) body110 (finH TP Try.f110.results.toList (h110 p0).length false k110) (start [.int .u32 p0] Try.f110.ntmps (h110 p0)) = b110 p0  := by kernel_rfl
def f110 (_ : Nat) (p0 : Int) : Option R110 := b110 p0
theorem pure110 (p0 : Int) (pok : PrmOK TP X q110) (k : Nat) (r : R110) (h : f110 k p0 = some r) : PureH TP X 110 [.int .u32 p0] (h110 p0) (out110 r) (outh110 r) :=
  pure_gen good 0 (fn := Try.f110) (body := body110) (prim := q110) (D := D110) (cuts := []) (h := h110 p0) (own := false) (by kernel_rfl) (by kernel_rfl) (by decide +kernel) pok hk110 (by
    rw [s110]
    exact h)
def F110 {R : Type} (spec : (Int) → Option R110) : Fn U R := fun args h k => match args, h with | [.int .u32 p0], [] => (spec p0).bind fun r => k (out110 r) (outh110 r) | _, _ => none
theorem ok110 {R : Type} (spec : (Int) → Option R110) (hp : ∀ (p0 : Int) (r : R110), spec p0 = some r → PureH TP X 110 [.int .u32 p0] (h110 p0) (out110 r) (outh110 r)) : FnOK TP X 110 (F110 spec : Fn U R) := by
  intro args h k r hh
  unfold F110 at hh
  split at hh
  · obtain ⟨x, h1, h2⟩ := Option.bind_eq_some_iff.1 hh
    exact ⟨_, _, h2, hp _ _ h1⟩
  · cases hh
theorem pok110 : PrmOK TP X q110 := prims_cons good okS125 (prims_nil TP X mixed)
noncomputable def S110 (p0 : Int) : Option R110 := evv fun k => f110 k p0
theorem okS110 {R : Type} : FnOK TP X 110 (F110 S110 : Fn U R) := ok110 S110 fun p0 r h => by
  obtain ⟨k, hk⟩ := evv_fuel h
  exact pure110 p0 pok110 k r hk
abbrev R111 : Type := TI
noncomputable def body111 : Go.Code := (Try.f111.body).getD Go.Code.skip
def h111 (p0 : TI) (p1 : Int) : List (AO U) := []
def k111 : AV U → List (AO U) → Option R111 := fun v h => match v, h with | AV.row 0 105, [AO.row 105 x0] => some x0 | _, _ => none
def out111 : R111 → AV U := fun x0 => AV.row 0 105
def outh111 : R111 → List (AO U) := fun x0 => [AO.row 105 x0]
def D111 : Nat → Dir := dirs [(5, ⟨[1, 5, 19, 20, 21], [], [], []⟩)]
def b111 (p0 : TI) (p1 : Int) (c5 : (Int) → TI → Option R111)  : Option R111 :=
  cond ((↑p0.length : Int) == 0)
  (some ([]))
  (cond (decide (0 ≤ IntKind.i64.wrap (IntKind.i64.wrap (IntKind.i64.wrap (p1.tdiv 32) + (↑p0.length : Int)) + 1)))
  (cond (decide (IntKind.i64.wrap (IntKind.i64.wrap (IntKind.i64.wrap (p1.tdiv 32) + (↑p0.length : Int)) + 1) ≤ IntKind.i64.wrap (IntKind.i64.wrap (IntKind.i64.wrap (p1.tdiv 32) + (↑p0.length : Int)) + 1)))
  (cond (decide (IntKind.i64.wrap (IntKind.i64.wrap (IntKind.i64.wrap (p1.tdiv 32) + (↑p0.length : Int)) + 1) * (↑4 : Int) ≤ 140737488355328))
  (c5 (0) (repI (IntKind.i64.wrap (IntKind.i64.wrap (IntKind.i64.wrap (p1.tdiv 32) + (↑p0.length : Int)) + 1)).toNat 0))
  (none))
  (none))
  (none))
def m111_5 (p0 : TI) (p1 v3 : Int) (v4 : TI) : S U := S.mk [AV.undef, AV.int IntKind.i64 p1, AV.undef, AV.undef, AV.undef, AV.row 0 105, AV.undef, AV.undef, AV.undef, AV.undef, AV.undef, AV.undef, AV.undef, AV.undef, AV.undef, AV.undef, AV.undef, AV.undef, AV.undef, AV.imm 105 p0, AV.int IntKind.i64 (↑p0.length : Int), AV.int IntKind.i64 v3, AV.undef, AV.undef, AV.undef, AV.undef, AV.undef, AV.undef, AV.undef, AV.undef, AV.undef, AV.undef, AV.undef, AV.undef, AV.undef, AV.undef, AV.undef, AV.undef, AV.undef, AV.undef, AV.undef, AV.undef, AV.undef, AV.undef, AV.undef, AV.undef, AV.undef, AV.undef, AV.undef, AV.undef, AV.undef, AV.undef, AV.undef, AV.undef, AV.undef] [AO.row 105 v4]
def b111_5 (p0 : TI) (p1 : Int) (c5 : (Int) → TI → Option R111) (v3 : Int) (v4 : TI) : Option R111 :=
  cond (decide (v3 < (↑p0.length : Int)))
  (cond (decide (0 ≤ v3))
  (cond (decide (v3 < (↑p0.length : Int)))
  (cond (decide (v3.toNat < p0.length))
  (cond (decide (0 ≤ p1.tmod 32))
  (cond (decide (0 ≤ IntKind.i64.wrap (IntKind.i64.wrap (p1.tdiv 32) + v3)))
  (cond (decide (IntKind.i64.wrap (IntKind.i64.wrap (p1.tdiv 32) + v3) < (↑v4.length : Int)))
  (cond (decide ((IntKind.i64.wrap (IntKind.i64.wrap (p1.tdiv 32) + v3)).toNat < v4.length))
  (cond (decide (0 ≤ IntKind.i64.wrap (IntKind.i64.wrap (p1.tdiv 32) + v3)))
  (cond (decide (IntKind.i64.wrap (IntKind.i64.wrap (p1.tdiv 32) + v3) < (↑v4.length : Int)))
  (cond (decide ((IntKind.i64.wrap (IntKind.i64.wrap (p1.tdiv 32) + v3)).toNat < v4.length))
  (cond (decide (0 ≤ IntKind.i64.wrap (IntKind.i64.wrap (IntKind.i64.wrap (p1.tdiv 32) + v3) + 1)))
  (cond (decide (IntKind.i64.wrap (IntKind.i64.wrap (IntKind.i64.wrap (p1.tdiv 32) + v3) + 1) < (↑(v4.set (IntKind.i64.wrap (IntKind.i64.wrap (p1.tdiv 32) + v3)).toNat (Go.bits Go.BinOp.or IntKind.u32 (v4.getD (IntKind.i64.wrap (IntKind.i64.wrap (p1.tdiv 32) + v3)).toNat (X.dflt 105)) (IntKind.u32.wrap (shl IntKind.u64 (IntKind.u64.wrap (p0.getD v3.toNat (X.dflt 105))) (p1.tmod 32))))).length : Int)))
  (cond (decide ((IntKind.i64.wrap (IntKind.i64.wrap (IntKind.i64.wrap (p1.tdiv 32) + v3) + 1)).toNat < (v4.set (IntKind.i64.wrap (IntKind.i64.wrap (p1.tdiv 32) + v3)).toNat (Go.bits Go.BinOp.or IntKind.u32 (v4.getD (IntKind.i64.wrap (IntKind.i64.wrap (p1.tdiv 32) + v3)).toNat (X.dflt 105)) (IntKind.u32.wrap (shl IntKind.u64 (IntKind.u64.wrap (p0.getD v3.toNat (X.dflt 105))) (p1.tmod 32))))).length))
  (c5 (IntKind.i64.wrap (v3 + 1)) ((v4.set (IntKind.i64.wrap (IntKind.i64.wrap (p1.tdiv 32) + v3)).toNat (Go.bits Go.BinOp.or IntKind.u32 (v4.getD (IntKind.i64.wrap (IntKind.i64.wrap (p1.tdiv 32) + v3)).toNat (X.dflt 105)) (IntKind.u32.wrap (shl IntKind.u64 (IntKind.u64.wrap (p0.getD v3.toNat (X.dflt 105))) (p1.tmod 32))))).set (IntKind.i64.wrap (IntKind.i64.wrap (IntKind.i64.wrap (p1.tdiv 32) + v3) + 1)).toNat (IntKind.u32.wrap (shr IntKind.u64 (shl IntKind.u64 (IntKind.u64.wrap (p0.getD v3.toNat (X.dflt 105))) (p1.tmod 32)) 32))))
  (none))
  (none))
  (none))
  (none))
  (none))
  (none))
  (none))
  (none))
  (none))
  (none))
  (none))
  (none))
  (none))
  ((S113h v4).bind fun r0 =>
  some (r0))
theorem hk111 : ∀ v h' r, k111 v h' = some r → v = out111 r ∧ h' = outh111 r := by
  intro v h' r h
  unfold k111 at h
  split at h
  · injection h with h; subst h; exact ⟨rfl, rfl⟩
  · cases h
abbrev q111 : Prim U R111 := prims X [⟨113, fun _ => true, [.hand], F113h S113h⟩]
theorem s111 (c : Nat → S U → Option R111) (p0 : TI) (p1 : Int) : seg TP X q111 [5] (fun q st => c q (keepD D111 (h111 p0 p1).length q st)) body111 (finH TP Try.f111.results.toList (h111 p0 p1).length true k111) (start [.imm 105 p0, .int .i64 p1] Try.f111.ntmps (h111 p0 p1)) = b111 p0 p1 (fun v3 v4 => c 5 (m111_5 p0 p1 v3 v4)) := by kernel_rfl
theorem s111_5 (c : Nat → S U → Option R111) (p0 : TI) (p1 v3 : Int) (v4 : TI) : res TP X q111 [5] (fun q st => c q (keepD D111 (h111 p0 p1).length q st)) 5 body111 (finH TP Try.f111.results.toList (h111 p0 p1).length true k111) (m111_5 p0 p1 v3 v4) = b111_5 p0 p1 (fun v3 v4 => c 5 (m111_5 p0 p1 v3 v4)) v3 v4 := by kernel_rfl
def f111_5 (p0 : TI) (p1 : Int) : Nat → Int → TI → Option R111
  | 0 => fun _ _ => none
  | k + 1 => b111_5 p0 p1 (f111_5 p0 p1 k)
def f111 (k : Nat) (p0 : TI) (p1 : Int) : Option R111 := b111 p0 p1 (f111_5 p0 p1 k)
theorem e111 (p0 : TI) (p1 : Int) : ∀ k, ((fun v3 v4 => cutG TP X q111 [5] D111 (h111 p0 p1).length body111 (finH TP Try.f111.results.toList (h111 p0 p1).length true k111) k 5 (m111_5 p0 p1 v3 v4)) = f111_5 p0 p1 k)
  | 0 => rfl
  | k + 1 => by
    have ih := e111 p0 p1 k
    · funext v3 v4
      refine (if_pos (by kernel_rfl)).trans ?_
      rw [s111_5]
      simp only [ih]
      rfl
theorem pure111 (p0 : TI) (p1 : Int) (pok : PrmOK TP X q111) (k : Nat) (r : R111) (h : f111 k p0 p1 = some r) : PureH TP X 111 [.imm 105 p0, .int .i64 p1] (h111 p0 p1) (out111 r) (outh111 r) :=
  pure_gen good k (fn := Try.f111) (body := body111) (prim := q111) (D := D111) (cuts := [5]) (h := h111 p0 p1) (own := true) (by kernel_rfl) (by kernel_rfl) (by decide +kernel) pok hk111 (by
    rw [s111]
    have ih := e111 p0 p1 k
    simp only [ih]
    exact h)
def F111 {R : Type} (spec : TI → Int → Option R111) : Fn U R := fun args h k => match args, h with | [.imm 105 p0, .int .i64 p1], [] => (spec p0 p1).bind fun r => k (out111 r) (outh111 r) | _, _ => none
theorem ok111 {R : Type} (spec : TI → Int → Option R111) (hp : ∀ (p0 : TI) (p1 : Int) (r : R111), spec p0 p1 = some r → PureH TP X 111 [.imm 105 p0, .int .i64 p1] (h111 p0 p1) (out111 r) (outh111 r)) : FnOK TP X 111 (F111 spec : Fn U R) := by
  intro args h k r hh
  unfold F111 at hh
  split at hh
  · obtain ⟨x, h1, h2⟩ := Option.bind_eq_some_iff.1 hh
    exact ⟨_, _, h2, hp _ _ _ h1⟩
  · cases hh
theorem pok111 : PrmOK TP X q111 := prims_cons good okS113h (prims_nil TP X mixed)
noncomputable def S111 (p0 : TI) (p1 : Int) : Option R111 := evv fun k => f111 k p0 p1
theorem okS111 {R : Type} : FnOK TP X 111 (F111 S111 : Fn U R) := ok111 S111 fun p0 p1 r h => by
  obtain ⟨k, hk⟩ := evv_fuel h
  exact pure111 p0 p1 pok111 k r hk
abbrev R109 : Type := TI × (Int)
noncomputable def body109 : Go.Code := (Try.f109.body).getD Go.Code.skip
def h109 (p0 : TI) (p1 : Int) : List (AO U) := []
def k109 : AV U → List (AO U) → Option R109 := fun v h => match v, h with | AV.tup [AV.imm 105 x0, AV.int IntKind.u32 x1], [] => some (x0, x1) | _, _ => none
def out109 : R109 → AV U := fun (x0, x1) => AV.tup [AV.imm 105 x0, AV.int IntKind.u32 x1]
def outh109 : R109 → List (AO U) := fun (x0, x1) => []
def D109 : Nat → Dir := dirs [(4, ⟨[0, 1, 6, 7, 8], [], [], []⟩)]
def b109 (p0 : TI) (p1 : Int) (c4 : (Int) → Int → TI → Option R109)  : Option R109 :=
  cond (decide ((↑p0.length : Int) ≤ (↑p0.length : Int)))
  (cond (decide ((↑p0.length : Int) * (↑4 : Int) ≤ 140737488355328))
  (c4 (0) (IntKind.i64.wrap ((↑p0.length : Int) - 1)) (repI (↑p0.length : Int).toNat 0))
  (none))
  (none)
def m109_4 (p0 : TI) (p1 v2 v3 : Int) (v4 : TI) : S U := S.mk [AV.imm 105 p0, AV.int IntKind.u32 p1, AV.undef, AV.undef, AV.undef, AV.undef, AV.row 0 105, AV.int IntKind.u32 v2, AV.int IntKind.i64 v3, AV.undef, AV.undef, AV.undef, AV.undef, AV.undef, AV.undef, AV.undef, AV.undef, AV.undef, AV.undef, AV.undef, AV.undef, AV.undef, AV.undef, AV.undef, AV.undef, AV.undef, AV.undef, AV.undef, AV.undef, AV.undef, AV.undef, AV.undef, AV.undef, AV.undef, AV.undef] [AO.row 105 v4]
def b109_4 (p0 : TI) (p1 : Int) (c4 : (Int) → Int → TI → Option R109) (v2 v3 : Int) (v4 : TI) : Option R109 :=
  cond (decide (v3 ≥ 0))
  (cond (decide (0 ≤ v3))
  (cond (decide (v3 < (↑p0.length : Int)))
  (cond (decide (v3.toNat < p0.length))
  ((S126 v2 (p0.getD v3.toNat (X.dflt 105)) p1).bind fun r0 =>
  cond (decide (0 ≤ v3))
  (cond (decide (v3 < (↑v4.length : Int)))
  (cond (decide (v3.toNat < v4.length))
  (c4 (r0.snd) (IntKind.i64.wrap (v3 - 1)) (v4.set v3.toNat r0.fst))
  (none))
  (none))
  (none))
  (none))
  (none))
  (none))
  ((S113 v4).bind fun r1 =>
  some ((r1, v2)))
theorem hk109 : ∀ v h' r, k109 v h' = some r → v = out109 r ∧ h' = outh109 r := by
  intro v h' r h
  unfold k109 at h
  split at h
  · injection h with h; subst h; exact ⟨rfl, rfl⟩
  · cases h
abbrev q109 : Prim U R109 := prims X [⟨113, fun _ => true, [.frz], F113 S113⟩, ⟨126, fun _ => true, [], F126 S126⟩]
theorem s109 (c : Nat → S U → Option R109) (p0 : TI) (p1 : Int) : seg TP X q109 [4] (fun q st => c q (keepD D109 (h109 p0 p1).length q st)) body109 (finH TP Try.f109.results.toList (h109 p0 p1).length false k109) (start [.imm 105 p0, .int .u32 p1] Try.f109.ntmps (h109 p0 p1)) = b109 p0 p1 (fun v2 v3 v4 => c 4 (m109_4 p0 p1 v2 v3 v4)) := by kernel_rfl
theorem s109_4 (c : Nat → S U → Option R109) (p0 : TI) (p1 v2 v3 : Int) (v4 : TI) : res TP X q109 [4] (fun q st => c q (keepD D109 (h109 p0 p1).length q st)) 4 body109 (finH TP Try.f109.results.toList (h109 p0 p1).length false k109) (m109_4 p0 p1 v2 v3 v4) = b109_4 p0 p1 (fun v2 v3 v4 => c 4 (m109_4 p0 p1 v2 v3 v4)) v2 v3 v4 := by kernel_rfl
def f109_4 (p0 : TI) (p1 : Int) : Nat → Int → (Int) → TI → Option R109
  | 0 => fun _ _ _ => none
  | k + 1 => b109_4 p0 p1 (f109_4 p0 p1 k)
def f109 (k : Nat) (p0 : TI) (p1 : Int) : Option R109 := b109 p0 p1 (f109_4 p0 p1 k)
theorem e109 (p0 : TI) (p1 : Int) : ∀ k, ((fun v2 v3 v4 => cutG TP X q109 [4] D109 (h109 p0 p1).length body109 (finH TP Try.f109.results.toList (h109 p0 p1).length false k109) k 4 (m109_4 p0 p1 v2 v3 v4)) = f109_4 p0 p1 k)
  | 0 => rfl
  | k + 1 => by
    have ih := e109 p0 p1 k
    · funext v2 v3 v4
      refine (if_pos (by kernel_rfl)).trans ?_
      rw [s109_4]
      simp only [ih]
      rfl
theorem pure109 (p0 : TI) (p1 : Int) (pok : PrmOK TP X q109) (k : Nat) (r : R109) (h : f109 k p0 p1 = some r) : PureH TP X 109 [.imm 105 p0, .int .u32 p1] (h109 p0 p1) (out109 r) (outh109 r) :=
  pure_gen good k (fn := Try.f109) (body := body109) (prim := q109) (D := D109) (cuts := [4]) (h := h109 p0 p1) (own := false) (by kernel_rfl) (by kernel_rfl) (by decide +kernel) pok hk109 (by
    rw [s109]
    have ih := e109 p0 p1 k
    simp only [ih]
    exact h)
def F109 {R : Type} (spec : TI → Int → Option R109) : Fn U R := fun args h k => match args, h with | [.imm 105 p0, .int .u32 p1], [] => (spec p0 p1).bind fun r => k (out109 r) (outh109 r) | _, _ => none
theorem ok109 {R : Type} (spec : TI → Int → Option R109) (hp : ∀ (p0 : TI) (p1 : Int) (r : R109), spec p0 p1 = some r → PureH TP X 109 [.imm 105 p0, .int .u32 p1] (h109 p0 p1) (out109 r) (outh109 r)) : FnOK TP X 109 (F109 spec : Fn U R) := by
  intro args h k r hh
  unfold F109 at hh
  split at hh
  · obtain ⟨x, h1, h2⟩ := Option.bind_eq_some_iff.1 hh
    exact ⟨_, _, h2, hp _ _ _ h1⟩
  · cases hh
theorem pok109 : PrmOK TP X q109 := prims_cons good okS113 (prims_cons good okS126 (prims_nil TP X mixed))
noncomputable def S109 (p0 : TI) (p1 : Int) : Option R109 := evv fun k => f109 k p0 p1
theorem okS109 {R : Type} : FnOK TP X 109 (F109 S109 : Fn U R) := ok109 S109 fun p0 p1 r h => by
  obtain ⟨k, hk⟩ := evv_fuel h
  exact pure109 p0 p1 pok109 k r hk
abbrev R112 : Type := Int × TI
noncomputable def body112 : Go.Code := (Try.f112.body).getD Go.Code.skip
def h112 (p0 p1 : Nat) (p2 p3 : TI) : List (AO U) := [.row 105 p2]
def k112 : AV U → List (AO U) → Option R112 := fun v h => match v, h with | AV.int IntKind.u32 x0, [AO.row 105 x1] => some (x0, x1) | _, _ => none
def out112 : R112 → AV U := fun (x0, x1) => AV.int IntKind.u32 x0
def outh112 : R112 → List (AO U) := fun (x0, x1) => [AO.row 105 x1]
def D112 : Nat → Dir := dirs [(7, ⟨[0, 1, 5, 7, 8], [], [], []⟩), (12, ⟨[0, 1, 5, 7, 9, 10, 100, 101, 102], [], [], []⟩), (23, ⟨[0, 5, 7, 14, 148, 149, 150], [], [], []⟩)]
def b112 (p0 p1 : Nat) (p2 p3 : TI) (c7 : (Int) → Int → Option R112) (c12 : (Int) → Int → (Int) → Int → TI → Option R112) (c23 : (Int) → Int → (Int) → TI → Option R112)  : Option R112 :=
  cond (decide ((↑p3.length : Int) < (↑p1 : Int)))
  (cond (decide (p0 + (↑p3.length : Int).toNat < p2.length))
  (cond (decide (0 ≤ IntKind.i64.wrap ((↑p3.length : Int) - 1)))
  (cond (decide (IntKind.i64.wrap ((↑p3.length : Int) - 1) < (↑p1 : Int)))
  (cond (decide (p0 + (IntKind.i64.wrap ((↑p3.length : Int) - 1)).toNat < p2.length))
  (cond (decide ((↑p3.length : Int) < (↑p1 : Int)))
  (cond (decide (p0 + (↑p3.length : Int).toNat < p2.length))
  (cond (decide (0 ≤ IntKind.i64.wrap ((↑p3.length : Int) - 1)))
  (cond (decide (IntKind.i64.wrap ((↑p3.length : Int) - 1) < (↑p3.length : Int)))
  (cond (decide ((IntKind.i64.wrap ((↑p3.length : Int) - 1)).toNat < p3.length))
  (cond (decide (p2.getD (p0 + (↑p3.length : Int).toNat) (X.dflt 105) < p3.getD (IntKind.i64.wrap ((↑p3.length : Int) - 1)).toNat (X.dflt 105)))
  (cond (decide (0 ≤ IntKind.i64.wrap ((↑p3.length : Int) - 1)))
  (cond (decide (IntKind.i64.wrap ((↑p3.length : Int) - 1) < (↑p3.length : Int)))
  (cond (decide ((IntKind.i64.wrap ((↑p3.length : Int) - 1)).toNat < p3.length))
  (cond (decide (IntKind.u64.wrap (p3.getD (IntKind.i64.wrap ((↑p3.length : Int) - 1)).toNat (X.dflt 105)) = 0))
  (none)
  (cond (decide (0 ≤ IntKind.i64.wrap ((↑p3.length : Int) - 1)))
  (cond (decide (IntKind.i64.wrap ((↑p3.length : Int) - 1) < (↑p3.length : Int)))
  (cond (decide ((IntKind.i64.wrap ((↑p3.length : Int) - 1)).toNat < p3.length))
  (cond (decide (IntKind.u64.wrap (p3.getD (IntKind.i64.wrap ((↑p3.length : Int) - 1)).toNat (X.dflt 105)) = 0))
  (none)
  (c7 (IntKind.u64.wrap ((Go.bits Go.BinOp.or IntKind.u64 (shl IntKind.u64 (IntKind.u64.wrap (p2.getD (p0 + (↑p3.length : Int).toNat) (X.dflt 105))) 32) (IntKind.u64.wrap (p2.getD (p0 + (IntKind.i64.wrap ((↑p3.length : Int) - 1)).toNat) (X.dflt 105)))).tdiv (IntKind.u64.wrap (p3.getD (IntKind.i64.wrap ((↑p3.length : Int) - 1)).toNat (X.dflt 105))))) ((Go.bits Go.BinOp.or IntKind.u64 (shl IntKind.u64 (IntKind.u64.wrap (p2.getD (p0 + (↑p3.length : Int).toNat) (X.dflt 105))) 32) (IntKind.u64.wrap (p2.getD (p0 + (IntKind.i64.wrap ((↑p3.length : Int) - 1)).toNat) (X.dflt 105)))).tmod (IntKind.u64.wrap (p3.getD (IntKind.i64.wrap ((↑p3.length : Int) - 1)).toNat (X.dflt 105))))))
  (none))
  (none))
  (none)))
  (none))
  (none))
  (none))
  (cond (decide (0 ≤ IntKind.i64.wrap ((↑p3.length : Int) - 1)))
  (cond (decide (IntKind.i64.wrap ((↑p3.length : Int) - 1) < (↑p3.length : Int)))
  (cond (decide ((IntKind.i64.wrap ((↑p3.length : Int) - 1)).toNat < p3.length))
  (c7 (4294967295) (IntKind.u64.wrap (Go.bits Go.BinOp.or IntKind.u64 (shl IntKind.u64 (IntKind.u64.wrap (p2.getD (p0 + (↑p3.length : Int).toNat) (X.dflt 105))) 32) (IntKind.u64.wrap (p2.getD (p0 + (IntKind.i64.wrap ((↑p3.length : Int) - 1)).toNat) (X.dflt 105))) - IntKind.u64.wrap (4294967295 * IntKind.u64.wrap (p3.getD (IntKind.i64.wrap ((↑p3.length : Int) - 1)).toNat (X.dflt 105))))))
  (none))
  (none))
  (none)))
  (none))
  (none))
  (none))
  (none))
  (none))
  (none))
  (none))
  (none))
  (none))
  (none)
def m112_7 (p0 p1 : Nat) (p2 p3 : TI) (v4 v5 : Int) : S U := S.mk [AV.view 0 105 p0 p1, AV.imm 105 p3, AV.undef, AV.undef, AV.undef, AV.int IntKind.i64 (↑p3.length : Int), AV.undef, AV.int IntKind.u64 v4, AV.int IntKind.u64 v5, AV.undef, AV.undef, AV.undef, AV.undef, AV.undef, AV.undef, AV.undef, AV.undef, AV.undef, AV.undef, AV.undef, AV.undef, AV.undef, AV.undef, AV.undef, AV.undef, AV.undef, AV.undef, AV.undef, AV.undef, AV.undef, AV.undef, AV.undef, AV.undef, AV.undef, AV.undef, AV.undef, AV.undef, AV.undef, AV.undef, AV.undef, AV.undef, AV.undef, AV.undef, AV.undef, AV.undef, AV.undef, AV.undef, AV.undef, AV.undef, AV.undef, AV.undef, AV.undef, AV.undef, AV.undef, AV.undef, AV.undef, AV.undef, AV.undef, AV.undef, AV.undef, AV.undef, AV.undef, AV.undef, AV.undef, AV.undef, AV.undef, AV.undef, AV.undef, AV.undef, AV.undef, AV.undef, AV.undef, AV.undef, AV.undef, AV.undef, AV.undef, AV.undef, AV.undef, AV.undef, AV.undef, AV.undef, AV.undef, AV.undef, AV.undef, AV.undef, AV.undef, AV.undef, AV.undef, AV.undef, AV.undef, AV.undef, AV.undef, AV.undef, AV.undef, AV.undef, AV.undef, AV.undef, AV.undef, AV.undef, AV.undef, AV.undef, AV.undef, AV.undef, AV.undef, AV.undef, AV.undef, AV.undef, AV.undef, AV.undef, AV.undef, AV.undef, AV.undef, AV.undef, AV.undef, AV.undef, AV.undef, AV.undef, AV.undef, AV.undef, AV.undef, AV.undef, AV.undef, AV.undef, AV.undef, AV.undef, AV.undef, AV.undef, AV.undef, AV.undef, AV.undef, AV.undef, AV.undef, AV.undef, AV.undef, AV.undef, AV.undef, AV.undef, AV.undef, AV.undef, AV.undef, AV.undef, AV.undef, AV.undef, AV.undef, AV.undef, AV.undef, AV.undef, AV.undef, AV.undef, AV.undef, AV.undef, AV.undef, AV.undef, AV.undef, AV.undef, AV.undef, AV.undef, AV.undef, AV.undef, AV.undef, AV.undef, AV.undef, AV.undef, AV.undef, AV.undef, AV.undef, AV.undef, AV.undef, AV.undef, AV.undef, AV.undef, AV.undef, AV.undef, AV.undef, AV.undef, AV.undef, AV.undef, AV.undef, AV.undef] [AO.row 105 p2]
def b112_7 (p0 p1 : Nat) (p2 p3 : TI) (c7 : (Int) → Int → Option R112) (c12 : (Int) → Int → (Int) → Int → TI → Option R112) (c23 : (Int) → Int → (Int) → TI → Option R112) (v4 v5 : Int) : Option R112 :=
  cond (decide (v5 < 4294967296))
  (cond (decide (0 ≤ IntKind.i64.wrap ((↑p3.length : Int) - 2)))
  (cond (decide (IntKind.i64.wrap ((↑p3.length : Int) - 2) < (↑p3.length : Int)))
  (cond (decide ((IntKind.i64.wrap ((↑p3.length : Int) - 2)).toNat < p3.length))
  (cond (decide (0 ≤ IntKind.i64.wrap ((↑p3.length : Int) - 2)))
  (cond (decide (IntKind.i64.wrap ((↑p3.length : Int) - 2) < (↑p1 : Int)))
  (cond (decide (p0 + (IntKind.i64.wrap ((↑p3.length : Int) - 2)).toNat < p2.length))
  (cond (decide (IntKind.u64.wrap (v4 * IntKind.u64.wrap (p3.getD (IntKind.i64.wrap ((↑p3.length : Int) - 2)).toNat (X.dflt 105))) > Go.bits Go.BinOp.or IntKind.u64 (shl IntKind.u64 v5 32) (IntKind.u64.wrap (p2.getD (p0 + (IntKind.i64.wrap ((↑p3.length : Int) - 2)).toNat) (X.dflt 105)))))
  (cond (decide (0 ≤ IntKind.i64.wrap ((↑p3.length : Int) - 1)))
  (cond (decide (IntKind.i64.wrap ((↑p3.length : Int) - 1) < (↑p3.length : Int)))
  (cond (decide ((IntKind.i64.wrap ((↑p3.length : Int) - 1)).toNat < p3.length))
  (c7 (IntKind.u64.wrap (v4 - 1)) (IntKind.u64.wrap (v5 + IntKind.u64.wrap (p3.getD (IntKind.i64.wrap ((↑p3.length : Int) - 1)).toNat (X.dflt 105)))))
  (none))
  (none))
  (none))
  (c12 (v4) (0) (0) (0) (p2)))
  (none))
  (none))
  (none))
  (none))
  (none))
  (none))
  (c12 (v4) (0) (0) (0) (p2))
def m112_12 (p0 p1 : Nat) (p2 p3 : TI) (v4 v5 v6 v9 : Int) (v10 : TI) : S U := S.mk [AV.view 0 105 p0 p1, AV.imm 105 p3, AV.undef, AV.undef, AV.undef, AV.int IntKind.i64 (↑p3.length : Int), AV.undef, AV.int IntKind.u64 v4, AV.undef, AV.int IntKind.u64 v5, AV.int IntKind.u32 v6, AV.undef, AV.undef, AV.undef, AV.undef, AV.undef, AV.undef, AV.undef, AV.undef, AV.undef, AV.undef, AV.undef, AV.undef, AV.undef, AV.undef, AV.undef, AV.undef, AV.undef, AV.undef, AV.undef, AV.undef, AV.undef, AV.undef, AV.undef, AV.undef, AV.undef, AV.undef, AV.undef, AV.undef, AV.undef, AV.undef, AV.undef, AV.undef, AV.undef, AV.undef, AV.undef, AV.undef, AV.undef, AV.undef, AV.undef, AV.undef, AV.undef, AV.undef, AV.undef, AV.undef, AV.undef, AV.undef, AV.undef, AV.undef, AV.undef, AV.undef, AV.undef, AV.undef, AV.undef, AV.undef, AV.undef, AV.undef, AV.undef, AV.undef, AV.undef, AV.undef, AV.undef, AV.undef, AV.undef, AV.undef, AV.undef, AV.undef, AV.undef, AV.undef, AV.undef, AV.undef, AV.undef, AV.undef, AV.undef, AV.undef, AV.undef, AV.undef, AV.undef, AV.undef, AV.undef, AV.undef, AV.undef, AV.undef, AV.undef, AV.undef, AV.undef, AV.undef, AV.undef, AV.undef, AV.undef, AV.imm 105 p3, AV.int IntKind.i64 (↑p3.length : Int), AV.int IntKind.i64 v9, AV.undef, AV.undef, AV.undef, AV.undef, AV.undef, AV.undef, AV.undef, AV.undef, AV.undef, AV.undef, AV.undef, AV.undef, AV.undef, AV.undef, AV.undef, AV.undef, AV.undef, AV.undef, AV.undef, AV.undef, AV.undef, AV.undef, AV.undef, AV.undef, AV.undef, AV.undef, AV.undef, AV.undef, AV.undef, AV.undef, AV.undef, AV.undef, AV.undef, AV.undef, AV.undef, AV.undef, AV.undef, AV.undef, AV.undef, AV.undef, AV.undef, AV.undef, AV.undef, AV.undef, AV.undef, AV.undef, AV.undef, AV.undef, AV.undef, AV.undef, AV.undef, AV.undef, AV.undef, AV.undef, AV.undef, AV.undef, AV.undef, AV.undef, AV.undef, AV.undef, AV.undef, AV.undef, AV.undef, AV.undef, AV.undef, AV.undef, AV.undef, AV.undef, AV.undef, AV.undef, AV.undef, AV.undef, AV.undef, AV.undef, AV.undef, AV.undef] [AO.row 105 v10]
def b112_12 (p0 p1 : Nat) (p2 p3 : TI) (c7 : (Int) → Int → Option R112) (c12 : (Int) → Int → (Int) → Int → TI → Option R112) (c23 : (Int) → Int → (Int) → TI → Option R112) (v4 v5 v6 v9 : Int) (v10 : TI) : Option R112 :=
  cond (decide (v9 < (↑p3.length : Int)))
  (cond (decide (0 ≤ v9))
  (cond (decide (v9 < (↑p3.length : Int)))
  (cond (decide (v9.toNat < p3.length))
  (cond (decide (0 ≤ v9))
  (cond (decide (v9 < (↑p1 : Int)))
  (cond (decide (p0 + v9.toNat < v10.length))
  ((S127 (v10.getD (p0 + v9.toNat) (X.dflt 105)) (IntKind.u32.wrap (IntKind.u64.wrap (IntKind.u64.wrap (v4 * IntKind.u64.wrap (p3.getD v9.toNat (X.dflt 105))) + v5))) v6).bind fun r0 =>
  cond (decide (0 ≤ v9))
  (cond (decide (v9 < (↑p1 : Int)))
  (cond (decide (p0 + v9.toNat < v10.length))
  (c12 (v4) (shr IntKind.u64 (IntKind.u64.wrap (IntKind.u64.wrap (v4 * IntKind.u64.wrap (p3.getD v9.toNat (X.dflt 105))) + v5)) 32) (r0.snd) (IntKind.i64.wrap (v9 + 1)) (v10.set (p0 + v9.toNat) r0.fst))
  (none))
  (none))
  (none))
  (none))
  (none))
  (none))
  (none))
  (none))
  (none))
  (cond (decide ((↑p3.length : Int) < (↑p1 : Int)))
  (cond (decide (p0 + (↑p3.length : Int).toNat < v10.length))
  ((S127 (v10.getD (p0 + (↑p3.length : Int).toNat) (X.dflt 105)) (IntKind.u32.wrap v5) v6).bind fun r1 =>
  cond (decide ((↑p3.length : Int) < (↑p1 : Int)))
  (cond (decide (p0 + (↑p3.length : Int).toNat < v10.length))
  (cond (r1.snd == 0)
  (some ((IntKind.u32.wrap v4, v10.set (p0 + (↑p3.length : Int).toNat) r1.fst)))
  (c23 (v4) (0) (0) (v10.set (p0 + (↑p3.length : Int).toNat) r1.fst)))
  (none))
  (none))
  (none))
  (none))
def m112_23 (p0 p1 : Nat) (p2 p3 : TI) (v3 v4 v7 : Int) (v8 : TI) : S U := S.mk [AV.view 0 105 p0 p1, AV.undef, AV.undef, AV.undef, AV.undef, AV.int IntKind.i64 (↑p3.length : Int), AV.undef, AV.int IntKind.u64 v3, AV.undef, AV.undef, AV.undef, AV.undef, AV.undef, AV.undef, AV.int IntKind.u32 v4, AV.undef, AV.undef, AV.undef, AV.undef, AV.undef, AV.undef, AV.undef, AV.undef, AV.undef, AV.undef, AV.undef, AV.undef, AV.undef, AV.undef, AV.undef, AV.undef, AV.undef, AV.undef, AV.undef, AV.undef, AV.undef, AV.undef, AV.undef, AV.undef, AV.undef, AV.undef, AV.undef, AV.undef, AV.undef, AV.undef, AV.undef, AV.undef, AV.undef, AV.undef, AV.undef, AV.undef, AV.undef, AV.undef, AV.undef, AV.undef, AV.undef, AV.undef, AV.undef, AV.undef, AV.undef, AV.undef, AV.undef, AV.undef, AV.undef, AV.undef, AV.undef, AV.undef, AV.undef, AV.undef, AV.undef, AV.undef, AV.undef, AV.undef, AV.undef, AV.undef, AV.undef, AV.undef, AV.undef, AV.undef, AV.undef, AV.undef, AV.undef, AV.undef, AV.undef, AV.undef, AV.undef, AV.undef, AV.undef, AV.undef, AV.undef, AV.undef, AV.undef, AV.undef, AV.undef, AV.undef, AV.undef, AV.undef, AV.undef, AV.undef, AV.undef, AV.undef, AV.undef, AV.undef, AV.undef, AV.undef, AV.undef, AV.undef, AV.undef, AV.undef, AV.undef, AV.undef, AV.undef, AV.undef, AV.undef, AV.undef, AV.undef, AV.undef, AV.undef, AV.undef, AV.undef, AV.undef, AV.undef, AV.undef, AV.undef, AV.undef, AV.undef, AV.undef, AV.undef, AV.undef, AV.undef, AV.undef, AV.undef, AV.undef, AV.undef, AV.undef, AV.undef, AV.undef, AV.undef, AV.undef, AV.undef, AV.undef, AV.undef, AV.undef, AV.undef, AV.undef, AV.undef, AV.undef, AV.undef, AV.imm 105 p3, AV.int IntKind.i64 (↑p3.length : Int), AV.int IntKind.i64 v7, AV.undef, AV.undef, AV.undef, AV.undef, AV.undef, AV.undef, AV.undef, AV.undef, AV.undef, AV.undef, AV.undef, AV.undef, AV.undef, AV.undef, AV.undef, AV.undef, AV.undef, AV.undef, AV.undef, AV.undef, AV.undef, AV.undef, AV.undef, AV.undef, AV.undef, AV.undef, AV.undef, AV.undef] [AO.row 105 v8]
def b112_23 (p0 p1 : Nat) (p2 p3 : TI) (c7 : (Int) → Int → Option R112) (c12 : (Int) → Int → (Int) → Int → TI → Option R112) (c23 : (Int) → Int → (Int) → TI → Option R112) (v3 v4 v7 : Int) (v8 : TI) : Option R112 :=
  cond (decide (v7 < (↑p3.length : Int)))
  (cond (decide (0 ≤ v7))
  (cond (decide (v7 < (↑p3.length : Int)))
  (cond (decide (v7.toNat < p3.length))
  (cond (decide (0 ≤ v7))
  (cond (decide (v7 < (↑p1 : Int)))
  (cond (decide (p0 + v7.toNat < v8.length))
  ((S128 (v8.getD (p0 + v7.toNat) (X.dflt 105)) (p3.getD v7.toNat (X.dflt 105)) v4).bind fun r0 =>
  cond (decide (0 ≤ v7))
  (cond (decide (v7 < (↑p1 : Int)))
  (cond (decide (p0 + v7.toNat < v8.length))
  (c23 (v3) (r0.snd) (IntKind.i64.wrap (v7 + 1)) (v8.set (p0 + v7.toNat) r0.fst))
  (none))
  (none))
  (none))
  (none))
  (none))
  (none))
  (none))
  (none))
  (none))
  (cond (decide ((↑p3.length : Int) < (↑p1 : Int)))
  (cond (decide (p0 + (↑p3.length : Int).toNat < v8.length))
  (cond (decide ((↑p3.length : Int) < (↑p1 : Int)))
  (cond (decide (p0 + (↑p3.length : Int).toNat < v8.length))
  (some ((IntKind.u32.wrap (IntKind.u32.wrap v3 - 1), v8.set (p0 + (↑p3.length : Int).toNat) (IntKind.u32.wrap (v8.getD (p0 + (↑p3.length : Int).toNat) (X.dflt 105) + v4)))))
  (none))
  (none))
  (none))
  (none))
theorem hk112 : ∀ v h' r, k112 v h' = some r → v = out112 r ∧ h' = outh112 r := by
  intro v h' r h
  unfold k112 at h
  split at h
  · injection h with h; subst h; exact ⟨rfl, rfl⟩
  · cases h
abbrev q112 : Prim U R112 := prims X [⟨127, fun _ => true, [], F127 S127⟩, ⟨128, fun _ => true, [], F128 S128⟩]
theorem s112 (c : Nat → S U → Option R112) (p0 p1 : Nat) (p2 p3 : TI) : seg TP X q112 [7, 12, 23] (fun q st => c q (keepD D112 (h112 p0 p1 p2 p3).length q st)) body112 (finH TP Try.f112.results.toList (h112 p0 p1 p2 p3).length false k112) (start [.view 0 105 p0 p1, .imm 105 p3] Try.f112.ntmps (h112 p0 p1 p2 p3)) = b112 p0 p1 p2 p3 (fun v4 v5 => c 7 (m112_7 p0 p1 p2 p3 v4 v5)) (fun v4 v5 v6 v9 v10 => c 12 (m112_12 p0 p1 p2 p3 v4 v5 v6 v9 v10)) (fun v3 v4 v7 v8 => c 23 (m112_23 p0 p1 p2 p3 v3 v4 v7 v8)) := by kernel_rfl
theorem s112_7 (c : Nat → S U → Option R112) (p0 p1 : Nat) (p2 p3 : TI) (v4 v5 : Int) : res TP X q112 [7, 12, 23] (fun q st => c q (keepD D112 (h112 p0 p1 p2 p3).length q st)) 7 body112 (finH TP Try.f112.results.toList (h112 p0 p1 p2 p3).length false k112) (m112_7 p0 p1 p2 p3 v4 v5) = b112_7 p0 p1 p2 p3 (fun v4 v5 => c 7 (m112_7 p0 p1 p2 p3 v4 v5)) (fun v4 v5 v6 v9 v10 => c 12 (m112_12 p0 p1 p2 p3 v4 v5 v6 v9 v10)) (fun v3 v4 v7 v8 => c 23 (m112_23 p0 p1 p2 p3 v3 v4 v7 v8)) v4 v5 := by kernel_rfl
theorem s112_12 (c : Nat → S U → Option R112) (p0 p1 : Nat) (p2 p3 : TI) (v4 v5 v6 v9 : Int) (v10 : TI) : res TP X q112 [7, 12, 23] (fun q st => c q (keepD D112 (h112 p0 p1 p2 p3).length q st)) 12 body112 (finH TP Try.f112.results.toList (h112 p0 p1 p2 p3).length false k112) (m112_12 p0 p1 p2 p3 v4 v5 v6 v9 v10) = b112_12 p0 p1 p2 p3 (fun v4 v5 => c 7 (m112_7 p0 p1 p2 p3 v4 v5)) (fun v4 v5 v6 v9 v10 => c 12 (m112_12 p0 p1 p2 p3 v4 v5 v6 v9 v10)) (fun v3 v4 v7 v8 => c 23 (m112_23 p0 p1 p2 p3 v3 v4 v7 v8)) v4 v5 v6 v9 v10 := by kernel_rfl
theorem s112_23 (c : Nat → S U → Option R112) (p0 p1 : Nat) (p2 p3 : TI) (v3 v4 v7 : Int) (v8 : TI) : res TP X q112 [7, 12, 23] (fun q st => c q (keepD D112 (h112 p0 p1 p2 p3).length q st)) 23 body112 (finH TP Try.f112.results.toList (h112 p0 p1 p2 p3).length false k112) (m112_23 p0 p1 p2 p3 v3 v4 v7 v8) = b112_23 p0 p1 p2 p3 (fun v4 v5 => c 7 (m112_7 p0 p1 p2 p3 v4 v5)) (fun v4 v5 v6 v9 v10 => c 12 (m112_12 p0 p1 p2 p3 v4 v5 v6 v9 v10)) (fun v3 v4 v7 v8 => c 23 (m112_23 p0 p1 p2 p3 v3 v4 v7 v8)) v3 v4 v7 v8 := by kernel_rfl
mutual
def f112_7 (p0 p1 : Nat) (p2 p3 : TI) : Nat → Int → (Int) → Option R112
  | 0 => fun _ _ => none
  | k + 1 => b112_7 p0 p1 p2 p3 (f112_7 p0 p1 p2 p3 k) (f112_12 p0 p1 p2 p3 k) (f112_23 p0 p1 p2 p3 k)
def f112_12 (p0 p1 : Nat) (p2 p3 : TI) : Nat → Int → (Int) → Int → (Int) → TI → Option R112
  | 0 => fun _ _ _ _ _ => none
  | k + 1 => b112_12 p0 p1 p2 p3 (f112_7 p0 p1 p2 p3 k) (f112_12 p0 p1 p2 p3 k) (f112_23 p0 p1 p2 p3 k)
def f112_23 (p0 p1 : Nat) (p2 p3 : TI) : Nat → Int → (Int) → Int → TI → Option R112
  | 0 => fun _ _ _ _ => none
  | k + 1 => b112_23 p0 p1 p2 p3 (f112_7 p0 p1 p2 p3 k) (f112_12 p0 p1 p2 p3 k) (f112_23 p0 p1 p2 p3 k)
end
def f112 (k p0 p1 : Nat) (p2 p3 : TI) : Option R112 := b112 p0 p1 p2 p3 (f112_7 p0 p1 p2 p3 k) (f112_12 p0 p1 p2 p3 k) (f112_23 p0 p1 p2 p3 k)
theorem e112 (p0 p1 : Nat) (p2 p3 : TI) : ∀ k, ((fun v4 v5 => cutG TP X q112 [7, 12, 23] D112 (h112 p0 p1 p2 p3).length body112 (finH TP Try.f112.results.toList (h112 p0 p1 p2 p3).length false k112) k 7 (m112_7 p0 p1 p2 p3 v4 v5)) = f112_7 p0 p1 p2 p3 k) ∧ ((fun v4 v5 v6 v9 v10 => cutG TP X q112 [7, 12, 23] D112 (h112 p0 p1 p2 p3).length body112 (finH TP Try.f112.results.toList (h112 p0 p1 p2 p3).length false k112) k 12 (m112_12 p0 p1 p2 p3 v4 v5 v6 v9 v10)) = f112_12 p0 p1 p2 p3 k) ∧ ((fun v3 v4 v7 v8 => cutG TP X q112 [7, 12, 23] D112 (h112 p0 p1 p2 p3).length body112 (finH TP Try.f112.results.toList (h112 p0 p1 p2 p3).length false k112) k 23 (m112_23 p0 p1 p2 p3 v3 v4 v7 v8)) = f112_23 p0 p1 p2 p3 k)
  | 0 => ⟨rfl, rfl, rfl⟩
  | k + 1 => by
    have ih := e112 p0 p1 p2 p3 k
    refine ⟨?_, ?_, ?_⟩
    · funext v4 v5
      refine (if_pos (by kernel_rfl)).trans ?_
      rw [s112_7]
      simp only [ih]
      rfl
    · funext v4 v5 v6 v9 v10
      refine (if_pos (by kernel_rfl)).trans ?_
      rw [s112_12]
      simp only [ih]
      rfl
    · funext v3 v4 v7 v8
      refine (if_pos (by kernel_rfl)).trans ?_
      rw [s112_23]
      simp only [ih]
      rfl
theorem pure112 (p0 p1 : Nat) (p2 p3 : TI) (pok : PrmOK TP X q112) (k : Nat) (r : R112) (h : f112 k p0 p1 p2 p3 = some r) : PureH TP X 112 [.view 0 105 p0 p1, .imm 105 p3] (h112 p0 p1 p2 p3) (out112 r) (outh112 r) :=
  pure_gen good k (fn := Try.f112) (body := body112) (prim := q112) (D := D112) (cuts := [7, 12, 23]) (h := h112 p0 p1 p2 p3) (own := false) (by kernel_rfl) (by kernel_rfl) (by decide +kernel) pok hk112 (by
    rw [s112]
    have ih := e112 p0 p1 p2 p3 k
    simp only [ih]
    exact h)
def F112 {R : Type} (spec : (Nat) → (Nat) → TI → TI → Option R112) : Fn U R := fun args h k => match args, h with | [.view 0 105 p0 p1, .imm 105 p3], [.row 105 p2] => (spec p0 p1 p2 p3).bind fun r => k (out112 r) (outh112 r) | _, _ => none
theorem ok112 {R : Type} (spec : (Nat) → (Nat) → TI → TI → Option R112) (hp : ∀ (p0 : Nat) (p1 : Nat) (p2 : TI) (p3 : TI) (r : R112), spec p0 p1 p2 p3 = some r → PureH TP X 112 [.view 0 105 p0 p1, .imm 105 p3] (h112 p0 p1 p2 p3) (out112 r) (outh112 r)) : FnOK TP X 112 (F112 spec : Fn U R) := by
  intro args h k r hh
  unfold F112 at hh
  split at hh
  · obtain ⟨x, h1, h2⟩ := Option.bind_eq_some_iff.1 hh
    exact ⟨_, _, h2, hp _ _ _ _ _ h1⟩
  · cases hh
theorem pok112 : PrmOK TP X q112 := prims_cons good okS127 (prims_cons good okS128 (prims_nil TP X mixed))
noncomputable def S112 (p0 p1 : Nat) (p2 p3 : TI) : Option R112 := evv fun k => f112 k p0 p1 p2 p3
theorem okS112 {R : Type} : FnOK TP X 112 (F112 S112 : Fn U R) := ok112 S112 fun p0 p1 p2 p3 r h => by
  obtain ⟨k, hk⟩ := evv_fuel h
  exact pure112 p0 p1 p2 p3 pok112 k r hk
abbrev R114 : Type := TI
noncomputable def body114 : Go.Code := (Try.f114.body).getD Go.Code.skip
def h114 (p0 : TI) (p1 : Int) : List (AO U) := []
def k114 : AV U → List (AO U) → Option R114 := fun v h => match v, h with | AV.imm 105 x0, [] => some x0 | _, _ => none
def out114 : R114 → AV U := fun x0 => AV.imm 105 x0
def outh114 : R114 → List (AO U) := fun x0 => []
def D114 : Nat → Dir := dirs [(3, ⟨[0, 1, 5, 11, 12, 13], [], [], []⟩)]
def b114 (p0 : TI) (p1 : Int) (c3 : (Int) → TI → Option R114)  : Option R114 :=
  cond (decide ((↑p0.length : Int) ≤ (↑p0.length : Int)))
  (cond (decide ((↑p0.length : Int) * (↑4 : Int) ≤ 140737488355328))
  (c3 (0) (repI (↑p0.length : Int).toNat 0))
  (none))
  (none)
def m114_3 (p0 : TI) (p1 v4 : Int) (v5 : TI) : S U := S.mk [AV.imm 105 p0, AV.int IntKind.i64 p1, AV.undef, AV.undef, AV.undef, AV.row 0 105, AV.undef, AV.undef, AV.undef, AV.undef, AV.undef, AV.imm 105 p0, AV.int IntKind.i64 (↑p0.length : Int), AV.int IntKind.i64 v4, AV.undef, AV.undef, AV.undef, AV.undef, AV.undef, AV.undef, AV.undef, AV.undef, AV.undef, AV.undef, AV.undef, AV.undef, AV.undef, AV.undef, AV.undef, AV.undef, AV.undef, AV.undef, AV.undef, AV.undef, AV.undef, AV.undef, AV.undef, AV.undef, AV.undef, AV.undef, AV.undef, AV.undef, AV.undef, AV.undef, AV.undef, AV.undef, AV.undef, AV.undef, AV.undef, AV.undef] [AO.row 105 v5]
def b114_3 (p0 : TI) (p1 : Int) (c3 : (Int) → TI → Option R114) (v4 : Int) (v5 : TI) : Option R114 :=
  cond (decide (v4 < (↑p0.length : Int)))
  (cond (decide (0 ≤ v4))
  (cond (decide (v4 < (↑p0.length : Int)))
  (cond (decide (v4.toNat < p0.length))
  (cond (decide (0 ≤ p1))
  (cond (decide (0 ≤ v4))
  (cond (decide (v4 < (↑v5.length : Int)))
  (cond (decide (v4.toNat < v5.length))
  (cond (decide (IntKind.i64.wrap (v4 + 1) < (↑p0.length : Int)))
  (cond (decide (p1 > 0))
  (cond (decide (0 ≤ v4))
  (cond (decide (v4 < (↑(v5.set v4.toNat (shr IntKind.u32 (p0.getD v4.toNat (X.dflt 105)) p1)).length : Int)))
  (cond (decide (v4.toNat < (v5.set v4.toNat (shr IntKind.u32 (p0.getD v4.toNat (X.dflt 105)) p1)).length))
  (cond (decide (0 ≤ IntKind.i64.wrap (v4 + 1)))
  (cond (decide (IntKind.i64.wrap (v4 + 1) < (↑p0.length : Int)))
  (cond (decide ((IntKind.i64.wrap (v4 + 1)).toNat < p0.length))
  (cond (decide (0 ≤ IntKind.i64.wrap (32 - p1)))
  (cond (decide (0 ≤ v4))
  (cond (decide (v4 < (↑(v5.set v4.toNat (shr IntKind.u32 (p0.getD v4.toNat (X.dflt 105)) p1)).length : Int)))
  (cond (decide (v4.toNat < (v5.set v4.toNat (shr IntKind.u32 (p0.getD v4.toNat (X.dflt 105)) p1)).length))
  (c3 (IntKind.i64.wrap (v4 + 1)) ((v5.set v4.toNat (shr IntKind.u32 (p0.getD v4.toNat (X.dflt 105)) p1)).set v4.toNat (Go.bits Go.BinOp.or IntKind.u32 ((v5.set v4.toNat (shr IntKind.u32 (p0.getD v4.toNat (X.dflt 105)) p1)).getD v4.toNat (X.dflt 105)) (shl IntKind.u32 (p0.getD (IntKind.i64.wrap (v4 + 1)).toNat (X.dflt 105)) (IntKind.i64.wrap (32 - p1))))))
  (none))
  (none))
  (none))
  (none))
  (none))
  (none))
  (none))
  (none))
  (none))
  (none))
  (c3 (IntKind.i64.wrap (v4 + 1)) (v5.set v4.toNat (shr IntKind.u32 (p0.getD v4.toNat (X.dflt 105)) p1))))
  (c3 (IntKind.i64.wrap (v4 + 1)) (v5.set v4.toNat (shr IntKind.u32 (p0.getD v4.toNat (X.dflt 105)) p1))))
  (none))
  (none))
  (none))
  (none))
  (none))
  (none))
  (none))
  ((S113 v5).bind fun r0 =>
  some (r0))
theorem hk114 : ∀ v h' r, k114 v h' = some r → v = out114 r ∧ h' = outh114 r := by
  intro v h' r h
  unfold k114 at h
  split at h
  · injection h with h; subst h; exact ⟨rfl, rfl⟩
  · cases h
abbrev q114 : Prim U R114 := prims X [⟨113, fun _ => true, [.frz], F113 S113⟩]
theorem s114 (c : Nat → S U → Option R114) (p0 : TI) (p1 : Int) : seg TP X q114 [3] (fun q st => c q (keepD D114 (h114 p0 p1).length q st)) body114 (finH TP Try.f114.results.toList (h114 p0 p1).length false k114) (start [.imm 105 p0, .int .i64 p1] Try.f114.ntmps (h114 p0 p1)) = b114 p0 p1 (fun v4 v5 => c 3 (m114_3 p0 p1 v4 v5)) := by kernel_rfl
theorem s114_3 (c : Nat → S U → Option R114) (p0 : TI) (p1 v4 : Int) (v5 : TI) : res TP X q114 [3] (fun q st => c q (keepD D114 (h114 p0 p1).length q st)) 3 body114 (finH TP Try.f114.results.toList (h114 p0 p1).length false k114) (m114_3 p0 p1 v4 v5) = b114_3 p0 p1 (fun v4 v5 => c 3 (m114_3 p0 p1 v4 v5)) v4 v5 := by kernel_rfl
def f114_3 (p0 : TI) (p1 : Int) : Nat → Int → TI → Option R114
  | 0 => fun _ _ => none
  | k + 1 => b114_3 p0 p1 (f114_3 p0 p1 k)
def f114 (k : Nat) (p0 : TI) (p1 : Int) : Option R114 := b114 p0 p1 (f114_3 p0 p1 k)
theorem e114 (p0 : TI) (p1 : Int) : ∀ k, ((fun v4 v5 => cutG TP X q114 [3] D114 (h114 p0 p1).length body114 (finH TP Try.f114.results.toList (h114 p0 p1).length false k114) k 3 (m114_3 p0 p1 v4 v5)) = f114_3 p0 p1 k)
  | 0 => rfl
  | k + 1 => by
    have ih := e114 p0 p1 k
    · funext v4 v5
      refine (if_pos (by kernel_rfl)).trans ?_
      rw [s114_3]
      simp only [ih]
      rfl
theorem pure114 (p0 : TI) (p1 : Int) (pok : PrmOK TP X q114) (k : Nat) (r : R114) (h : f114 k p0 p1 = some r) : PureH TP X 114 [.imm 105 p0, .int .i64 p1] (h114 p0 p1) (out114 r) (outh114 r) :=
  pure_gen good k (fn := Try.f114) (body := body114) (prim := q114) (D := D114) (cuts := [3]) (h := h114 p0 p1) (own := false) (by kernel_rfl) (by kernel_rfl) (by decide +kernel) pok hk114 (by
    rw [s114]
    have ih := e114 p0 p1 k
    simp only [ih]
    exact h)
def F114 {R : Type} (spec : TI → Int → Option R114) : Fn U R := fun args h k => match args, h with | [.imm 105 p0, .int .i64 p1], [] => (spec p0 p1).bind fun r => k (out114 r) (outh114 r) | _, _ => none
theorem ok114 {R : Type} (spec : TI → Int → Option R114) (hp : ∀ (p0 : TI) (p1 : Int) (r : R114), spec p0 p1 = some r → PureH TP X 114 [.imm 105 p0, .int .i64 p1] (h114 p0 p1) (out114 r) (outh114 r)) : FnOK TP X 114 (F114 spec : Fn U R) := by
  intro args h k r hh
  unfold F114 at hh
  split at hh
  · obtain ⟨x, h1, h2⟩ := Option.bind_eq_some_iff.1 hh
    exact ⟨_, _, h2, hp _ _ _ h1⟩
  · cases hh
theorem pok114 : PrmOK TP X q114 := prims_cons good okS113 (prims_nil TP X mixed)
noncomputable def S114 (p0 : TI) (p1 : Int) : Option R114 := evv fun k => f114 k p0 p1
theorem okS114 {R : Type} : FnOK TP X 114 (F114 S114 : Fn U R) := ok114 S114 fun p0 p1 r h => by
  obtain ⟨k, hk⟩ := evv_fuel h
  exact pure114 p0 p1 pok114 k r hk
abbrev R93 : Type := TI
noncomputable def body93 : Go.Code := (Try.f93.body).getD Go.Code.skip
def h93 (p0 p1 : TI) (p2 p3 : Int) : List (AO U) := []
def k93 : AV U → List (AO U) → Option R93 := fun v h => match v, h with | AV.imm 105 x0, [] => some x0 | _, _ => none
def out93 : R93 → AV U := fun x0 => AV.imm 105 x0
def outh93 : R93 → List (AO U) := fun x0 => []
def D93 : Nat → Dir := dirs [(4, ⟨[0, 1, 2, 3, 9, 10, 19, 20], [], [], []⟩)]
def b93 (p0 p1 : TI) (p2 p3 : Int) (c4 : (Int) → Int → TI → Option R93)  : Option R93 :=
  cond (decide (0 ≤ IntKind.i64.wrap ((↑p0.length : Int) + 1)))
  (cond (decide (IntKind.i64.wrap ((↑p0.length : Int) + 1) ≤ IntKind.i64.wrap ((↑p0.length : Int) + 1)))
  (cond (decide (IntKind.i64.wrap ((↑p0.length : Int) + 1) * (↑4 : Int) ≤ 140737488355328))
  (c4 (0) (0) (repI (IntKind.i64.wrap ((↑p0.length : Int) + 1)).toNat 0))
  (none))
  (none))
  (none)
def m93_4 (p0 p1 : TI) (p2 p3 v4 v6 : Int) (v7 : TI) : S U := S.mk [AV.imm 105 p0, AV.imm 105 p1, AV.int IntKind.i64 p2, AV.int IntKind.i64 p3, AV.undef, AV.undef, AV.undef, AV.undef, AV.undef, AV.row 0 105, AV.int IntKind.i64 v4, AV.undef, AV.undef, AV.undef, AV.undef, AV.undef, AV.undef, AV.undef, AV.undef, AV.int IntKind.i64 (↑(repI (IntKind.i64.wrap ((↑p0.length : Int) + 1)).toNat 0).length : Int), AV.int IntKind.i64 v6, AV.undef, AV.undef, AV.undef, AV.undef, AV.undef, AV.undef, AV.undef, AV.undef, AV.undef, AV.undef, AV.undef, AV.undef, AV.undef, AV.undef, AV.undef, AV.undef, AV.undef, AV.undef, AV.undef, AV.undef, AV.undef, AV.undef, AV.undef, AV.undef, AV.undef, AV.undef, AV.undef, AV.undef, AV.undef, AV.undef, AV.undef, AV.undef, AV.undef, AV.undef, AV.undef, AV.undef, AV.undef, AV.undef, AV.undef] [AO.row 105 v7]
def b93_4 (p0 p1 : TI) (p2 p3 : Int) (c4 : (Int) → Int → TI → Option R93) (v4 v6 : Int) (v7 : TI) : Option R93 :=
  cond (decide (v6 < (↑(repI (IntKind.i64.wrap ((↑p0.length : Int) + 1)).toNat 0).length : Int)))
  (cond (decide (v6 < (↑p0.length : Int)))
  (cond (decide (0 ≤ v6))
  (cond (decide (v6 < (↑p0.length : Int)))
  (cond (decide (v6.toNat < p0.length))
  (cond (decide (v6 < (↑p1.length : Int)))
  (cond (decide (0 ≤ v6))
  (cond (decide (v6 < (↑p1.length : Int)))
  (cond (decide (v6.toNat < p1.length))
  (cond (decide (0 ≤ v6))
  (cond (decide (v6 < (↑v7.length : Int)))
  (cond (decide (v6.toNat < v7.length))
  (c4 (shr IntKind.i64 (IntKind.i64.wrap (v4 + IntKind.i64.wrap (IntKind.i64.wrap (p2 * IntKind.i64.wrap (p0.getD v6.toNat (X.dflt 105))) + IntKind.i64.wrap (p3 * IntKind.i64.wrap (p1.getD v6.toNat (X.dflt 105)))))) 32) (IntKind.i64.wrap (v6 + 1)) (v7.set v6.toNat (IntKind.u32.wrap (IntKind.i64.wrap (v4 + IntKind.i64.wrap (IntKind.i64.wrap (p2 * IntKind.i64.wrap (p0.getD v6.toNat (X.dflt 105))) + IntKind.i64.wrap (p3 * IntKind.i64.wrap (p1.getD v6.toNat (X.dflt 105)))))))))
  (none))
  (none))
  (none))
  (none))
  (none))
  (none))
  (cond (decide (0 ≤ v6))
  (cond (decide (v6 < (↑v7.length : Int)))
  (cond (decide (v6.toNat < v7.length))
  (c4 (shr IntKind.i64 (IntKind.i64.wrap (v4 + IntKind.i64.wrap (IntKind.i64.wrap (p2 * IntKind.i64.wrap (p0.getD v6.toNat (X.dflt 105))) + IntKind.i64.wrap (p3 * 0)))) 32) (IntKind.i64.wrap (v6 + 1)) (v7.set v6.toNat (IntKind.u32.wrap (IntKind.i64.wrap (v4 + IntKind.i64.wrap (IntKind.i64.wrap (p2 * IntKind.i64.wrap (p0.getD v6.toNat (X.dflt 105))) + IntKind.i64.wrap (p3 * 0)))))))
  (none))
  (none))
  (none)))
  (none))
  (none))
  (none))
  (cond (decide (v6 < (↑p1.length : Int)))
  (cond (decide (0 ≤ v6))
  (cond (decide (v6 < (↑p1.length : Int)))
  (cond (decide (v6.toNat < p1.length))
  (cond (decide (0 ≤ v6))
  (cond (decide (v6 < (↑v7.length : Int)))
  (cond (decide (v6.toNat < v7.length))
  (c4 (shr IntKind.i64 (IntKind.i64.wrap (v4 + IntKind.i64.wrap (IntKind.i64.wrap (p2 * 0) + IntKind.i64.wrap (p3 * IntKind.i64.wrap (p1.getD v6.toNat (X.dflt 105)))))) 32) (IntKind.i64.wrap (v6 + 1)) (v7.set v6.toNat (IntKind.u32.wrap (IntKind.i64.wrap (v4 + IntKind.i64.wrap (IntKind.i64.wrap (p2 * 0) + IntKind.i64.wrap (p3 * IntKind.i64.wrap (p1.getD v6.toNat (X.dflt 105)))))))))
  (none))
  (none))
  (none))
  (none))
  (none))
  (none))
  (cond (decide (0 ≤ v6))
  (cond (decide (v6 < (↑v7.length : Int)))
  (cond (decide (v6.toNat < v7.length))
  (c4 (shr IntKind.i64 (IntKind.i64.wrap (v4 + IntKind.i64.wrap (IntKind.i64.wrap (p2 * 0) + IntKind.i64.wrap (p3 * 0)))) 32) (IntKind.i64.wrap (v6 + 1)) (v7.set v6.toNat (IntKind.u32.wrap (IntKind.i64.wrap (v4 + IntKind.i64.wrap (IntKind.i64.wrap (p2 * 0) + IntKind.i64.wrap (p3 * 0)))))))
  (none))
  (none))
  (none))))
  ((S113 v7).bind fun r0 =>
  some (r0))
theorem hk93 : ∀ v h' r, k93 v h' = some r → v = out93 r ∧ h' = outh93 r := by
  intro v h' r h
  unfold k93 at h
  split at h
  · injection h with h; subst h; exact ⟨rfl, rfl⟩
  · cases h
abbrev q93 : Prim U R93 := prims X [⟨113, fun _ => true, [.frz], F113 S113⟩]
theorem s93 (c : Nat → S U → Option R93) (p0 p1 : TI) (p2 p3 : Int) : seg TP X q93 [4] (fun q st => c q (keepD D93 (h93 p0 p1 p2 p3).length q st)) body93 (finH TP Try.f93.results.toList (h93 p0 p1 p2 p3).length false k93) (start [.imm 105 p0, .imm 105 p1, .int .i64 p2, .int .i64 p3] Try.f93.ntmps (h93 p0 p1 p2 p3)) = b93 p0 p1 p2 p3 (fun v4 v6 v7 => c 4 (m93_4 p0 p1 p2 p3 v4 v6 v7)) := by kernel_rfl
theorem s93_4 (c : Nat → S U → Option R93) (p0 p1 : TI) (p2 p3 v4 v6 : Int) (v7 : TI) : res TP X q93 [4] (fun q st => c q (keepD D93 (h93 p0 p1 p2 p3).length q st)) 4 body93 (finH TP Try.f93.results.toList (h93 p0 p1 p2 p3).length false k93) (m93_4 p0 p1 p2 p3 v4 v6 v7) = b93_4 p0 p1 p2 p3 (fun v4 v6 v7 => c 4 (m93_4 p0 p1 p2 p3 v4 v6 v7)) v4 v6 v7 := by kernel_rfl
def f93_4 (p0 p1 : TI) (p2 p3 : Int) : Nat → Int → (Int) → TI → Option R93
  | 0 => fun _ _ _ => none
  | k + 1 => b93_4 p0 p1 p2 p3 (f93_4 p0 p1 p2 p3 k)
def f93 (k : Nat) (p0 p1 : TI) (p2 p3 : Int) : Option R93 := b93 p0 p1 p2 p3 (f93_4 p0 p1 p2 p3 k)
theorem e93 (p0 p1 : TI) (p2 p3 : Int) : ∀ k, ((fun v4 v6 v7 => cutG TP X q93 [4] D93 (h93 p0 p1 p2 p3).length body93 (finH TP Try.f93.results.toList (h93 p0 p1 p2 p3).length false k93) k 4 (m93_4 p0 p1 p2 p3 v4 v6 v7)) = f93_4 p0 p1 p2 p3 k)
  | 0 => rfl
  | k + 1 => by
    have ih := e93 p0 p1 p2 p3 k
    · funext v4 v6 v7
      refine (if_pos (by kernel_rfl)).trans ?_
      rw [s93_4]
      simp only [ih]
      rfl
theorem pure93 (p0 p1 : TI) (p2 p3 : Int) (pok : PrmOK TP X q93) (k : Nat) (r : R93) (h : f93 k p0 p1 p2 p3 = some r) : PureH TP X 93 [.imm 105 p0, .imm 105 p1, .int .i64 p2, .int .i64 p3] (h93 p0 p1 p2 p3) (out93 r) (outh93 r) :=
  pure_gen good k (fn := Try.f93) (body := body93) (prim := q93) (D := D93) (cuts := [4]) (h := h93 p0 p1 p2 p3) (own := false) (by kernel_rfl) (by kernel_rfl) (by decide +kernel) pok hk93 (by
    rw [s93]
    have ih := e93 p0 p1 p2 p3 k
    simp only [ih]
    exact h)
def F93 {R : Type} (spec : TI → TI → Int → (Int) → Option R93) : Fn U R := fun args h k => match args, h with | [.imm 105 p0, .imm 105 p1, .int .i64 p2, .int .i64 p3], [] => (spec p0 p1 p2 p3).bind fun r => k (out93 r) (outh93 r) | _, _ => none
theorem ok93 {R : Type} (spec : TI → TI → Int → (Int) → Option R93) (hp : ∀ (p0 : TI) (p1 : TI) (p2 : Int) (p3 : Int) (r : R93), spec p0 p1 p2 p3 = some r → PureH TP X 93 [.imm 105 p0, .imm 105 p1, .int .i64 p2, .int .i64 p3] (h93 p0 p1 p2 p3) (out93 r) (outh93 r)) : FnOK TP X 93 (F93 spec : Fn U R) := by
  intro args h k r hh
  unfold F93 at hh
  split at hh
  · obtain ⟨x, h1, h2⟩ := Option.bind_eq_some_iff.1 hh
    exact ⟨_, _, h2, hp _ _ _ _ _ h1⟩
  · cases hh
theorem pok93 : PrmOK TP X q93 := prims_cons good okS113 (prims_nil TP X mixed)
noncomputable def S93 (p0 p1 : TI) (p2 p3 : Int) : Option R93 := evv fun k => f93 k p0 p1 p2 p3
theorem okS93 {R : Type} : FnOK TP X 93 (F93 S93 : Fn U R) := ok93 S93 fun p0 p1 p2 p3 r h => by
  obtain ⟨k, hk⟩ := evv_fuel h
  exact pure93 p0 p1 p2 p3 pok93 k r hk
abbrev R99 : Type := (Int)
noncomputable def body99 : Go.Code := (Try.f99.body).getD Go.Code.skip
def h99 (p0 : TI) (p1 : Int) : List (AO U) := []
def k99 : AV U → List (AO U) → Option R99 := fun v h => match v, h with | AV.int IntKind.i64 x0, [] => some x0 | _, _ => none
def out99 : R99 → AV U := fun x0 => AV.int IntKind.i64 x0
def outh99 : R99 → List (AO U) := fun x0 => []
def D99 : Nat → Dir := dirs []
def b99 (p0 : TI) (p1 : Int)   : Option R99 :=
  (S61 p0).bind fun r0 =>
  cond (!r0)
  (some (0))
  (cond (decide (p1 < 0))
  (some (0))
  (cond (decide (IntKind.i64.wrap (p1.tdiv 32) ≥ (↑p0.length : Int)))
  (some (0))
  (cond (decide (0 ≤ IntKind.i64.wrap (p1.tdiv 32)))
  (cond (decide (IntKind.i64.wrap (p1.tdiv 32) < (↑p0.length : Int)))
  (cond (decide ((IntKind.i64.wrap (p1.tdiv 32)).toNat < p0.length))
  (cond (decide (0 ≤ IntKind.u64.wrap (p1.tmod 32)))
  (some (IntKind.i64.wrap (Go.bits Go.BinOp.and IntKind.u32 (shr IntKind.u32 (p0.getD (IntKind.i64.wrap (p1.tdiv 32)).toNat (X.dflt 105)) (IntKind.u64.wrap (p1.tmod 32))) 1)))
  (none))
  (none))
  (none))
  (none))))
theorem hk99 : ∀ v h' r, k99 v h' = some r → v = out99 r ∧ h' = outh99 r := by
  intro v h' r h
  unfold k99 at h
  split at h
  · injection h with h; subst h; exact ⟨rfl, rfl⟩
  · cases h
abbrev q99 : Prim U R99 := prims X [⟨61, fun _ => true, [.lend], F61 S61⟩]
theorem s99 (c : Nat → S U → Option R99) (p0 : TI) (p1 : Int) : seg TP X q99 [] (fun q st => c q (keepD D99 (h99 p0 p1).length q st)) body99 (finH TP Try.f99.results.toList (h99 p0 p1).length false k99) (start [.imm 105 p0, .int .i64 p1] Try.f99.ntmps (h99 p0 p1)) = b99 p0 p1  := by kernel_rfl
def f99 (_ : Nat) (p0 : TI) (p1 : Int) : Option R99 := b99 p0 p1
theorem pure99 (p0 : TI) (p1 : Int) (pok : PrmOK TP X q99) (k : Nat) (r : R99) (h : f99 k p0 p1 = some r) : PureH TP X 99 [.imm 105 p0, .int .i64 p1] (h99 p0 p1) (out99 r) (outh99 r) :=
  pure_gen good 0 (fn := Try.f99) (body := body99) (prim := q99) (D := D99) (cuts := []) (h := h99 p0 p1) (own := false) (by kernel_rfl) (by kernel_rfl) (by decide +kernel) pok hk99 (by
    rw [s99]
    exact h)
def F99 {R : Type} (spec : TI → Int → Option R99) : Fn U R := fun args h k => match args, h with | [.imm 105 p0, .int .i64 p1], [] => (spec p0 p1).bind fun r => k (out99 r) (outh99 r) | _, _ => none
theorem ok99 {R : Type} (spec : TI → Int → Option R99) (hp : ∀ (p0 : TI) (p1 : Int) (r : R99), spec p0 p1 = some r → PureH TP X 99 [.imm 105 p0, .int .i64 p1] (h99 p0 p1) (out99 r) (outh99 r)) : FnOK TP X 99 (F99 spec : Fn U R) := by
  intro args h k r hh
  unfold F99 at hh
  split at hh
  · obtain ⟨x, h1, h2⟩ := Option.bind_eq_some_iff.1 hh
    exact ⟨_, _, h2, hp _ _ _ h1⟩
  · cases hh
theorem pok99 : PrmOK TP X q99 := prims_cons good okS61 (prims_nil TP X mixed)
noncomputable def S99 (p0 : TI) (p1 : Int) : Option R99 := evv fun k => f99 k p0 p1
theorem okS99 {R : Type} : FnOK TP X 99 (F99 S99 : Fn U R) := ok99 S99 fun p0 p1 r h => by
  obtain ⟨k, hk⟩ := evv_fuel h
  exact pure99 p0 p1 pok99 k r hk
abbrev R100 : Type := Bool × TI
noncomputable def body100 : Go.Code := (Try.f100.body).getD Go.Code.skip
def h100 (p0 p1 : TI) : List (AO U) := [.row 105 p1]
def k100 : AV U → List (AO U) → Option R100 := fun v h => match v, h with | AV.bool x0, [AO.row 105 x1] => some (x0, x1) | _, _ => none
def out100 : R100 → AV U := fun (x0, x1) => AV.bool x0
def outh100 : R100 → List (AO U) := fun (x0, x1) => [AO.row 105 x1]
def D100 : Nat → Dir := dirs [(3, ⟨[0, 1, 5], [], [], []⟩), (9, ⟨[0, 1, 6, 7], [], [], []⟩)]
def b100 (p0 p1 : TI) (c3 : (Int) → Option R100) (c9 : (Int) → Int → TI → Option R100)  : Option R100 :=
  cond (decide ((↑p0.length : Int) < (↑p1.length : Int)))
  (cond (decide ((↑p0.length : Int).toNat < p1.length))
  (cond (p1.getD (↑p0.length : Int).toNat (X.dflt 105) == 0)
  (c3 (IntKind.i64.wrap ((↑p0.length : Int) - 1)))
  (c9 (0) (0) (p1)))
  (none))
  (none)
def m100_3 (p0 p1 : TI) (v1 : Int) : S U := S.mk [AV.row 0 105, AV.imm 105 p0, AV.undef, AV.undef, AV.undef, AV.int IntKind.i64 v1, AV.undef, AV.undef, AV.undef, AV.undef, AV.undef, AV.undef, AV.undef, AV.undef, AV.undef, AV.undef, AV.undef, AV.undef, AV.undef, AV.undef, AV.undef, AV.undef, AV.undef, AV.undef, AV.undef, AV.undef, AV.undef, AV.undef, AV.undef, AV.undef, AV.undef, AV.undef, AV.undef, AV.undef, AV.undef, AV.undef, AV.undef, AV.undef, AV.undef, AV.undef, AV.undef, AV.undef, AV.undef, AV.undef, AV.undef, AV.undef, AV.undef, AV.undef, AV.undef, AV.undef, AV.undef, AV.undef, AV.undef, AV.undef, AV.undef, AV.undef, AV.undef, AV.undef, AV.undef, AV.undef, AV.undef, AV.undef, AV.undef, AV.undef, AV.undef, AV.undef, AV.undef, AV.undef, AV.undef, AV.undef, AV.undef, AV.undef] [AO.row 105 p1]
def b100_3 (p0 p1 : TI) (c3 : (Int) → Option R100) (c9 : (Int) → Int → TI → Option R100) (v1 : Int) : Option R100 :=
  cond (decide (v1 ≥ 0))
  (cond (decide (0 ≤ v1))
  (cond (decide (v1 < (↑p1.length : Int)))
  (cond (decide (v1.toNat < p1.length))
  (cond (decide (0 ≤ v1))
  (cond (decide (v1 < (↑p0.length : Int)))
  (cond (decide (v1.toNat < p0.length))
  (cond (p1.getD v1.toNat (X.dflt 105) == p0.getD v1.toNat (X.dflt 105))
  (c3 (IntKind.i64.wrap (v1 - 1)))
  (cond (decide (v1 ≥ 0))
  (cond (decide (0 ≤ v1))
  (cond (decide (v1 < (↑p1.length : Int)))
  (cond (decide (v1.toNat < p1.length))
  (cond (decide (0 ≤ v1))
  (cond (decide (v1 < (↑p0.length : Int)))
  (cond (decide (v1.toNat < p0.length))
  (cond (decide (p1.getD v1.toNat (X.dflt 105) < p0.getD v1.toNat (X.dflt 105)))
  (some ((false, p1)))
  (c9 (0) (0) (p1)))
  (none))
  (none))
  (none))
  (none))
  (none))
  (none))
  (c9 (0) (0) (p1))))
  (none))
  (none))
  (none))
  (none))
  (none))
  (none))
  (cond (decide (v1 ≥ 0))
  (cond (decide (0 ≤ v1))
  (cond (decide (v1 < (↑p1.length : Int)))
  (cond (decide (v1.toNat < p1.length))
  (cond (decide (0 ≤ v1))
  (cond (decide (v1 < (↑p0.length : Int)))
  (cond (decide (v1.toNat < p0.length))
  (cond (decide (p1.getD v1.toNat (X.dflt 105) < p0.getD v1.toNat (X.dflt 105)))
  (some ((false, p1)))
  (c9 (0) (0) (p1)))
  (none))
  (none))
  (none))
  (none))
  (none))
  (none))
  (c9 (0) (0) (p1)))
def m100_9 (p0 p1 : TI) (v1 v2 : Int) (v3 : TI) : S U := S.mk [AV.row 0 105, AV.imm 105 p0, AV.undef, AV.undef, AV.undef, AV.undef, AV.int IntKind.u64 v1, AV.int IntKind.i64 v2, AV.undef, AV.undef, AV.undef, AV.undef, AV.undef, AV.undef, AV.undef, AV.undef, AV.undef, AV.undef, AV.undef, AV.undef, AV.undef, AV.undef, AV.undef, AV.undef, AV.undef, AV.undef, AV.undef, AV.undef, AV.undef, AV.undef, AV.undef, AV.undef, AV.undef, AV.undef, AV.undef, AV.undef, AV.undef, AV.undef, AV.undef, AV.undef, AV.undef, AV.undef, AV.undef, AV.undef, AV.undef, AV.undef, AV.undef, AV.undef, AV.undef, AV.undef, AV.undef, AV.undef, AV.undef, AV.undef, AV.undef, AV.undef, AV.undef, AV.undef, AV.undef, AV.undef, AV.undef, AV.undef, AV.undef, AV.undef, AV.undef, AV.undef, AV.undef, AV.undef, AV.undef, AV.undef, AV.undef, AV.undef] [AO.row 105 v3]
def b100_9 (p0 p1 : TI) (c3 : (Int) → Option R100) (c9 : (Int) → Int → TI → Option R100) (v1 v2 : Int) (v3 : TI) : Option R100 :=
  cond (decide (v2 < (↑v3.length : Int)))
  (cond (decide (0 ≤ v2))
  (cond (decide (v2 < (↑v3.length : Int)))
  (cond (decide (v2.toNat < v3.length))
  ((S115 p0 v2).bind fun r0 =>
  cond (decide (0 ≤ v2))
  (cond (decide (v2 < (↑v3.length : Int)))
  (cond (decide (v2.toNat < v3.length))
  (c9 (IntKind.u64.wrap (1 - shr IntKind.u64 (IntKind.u64.wrap (IntKind.u64.wrap (IntKind.u64.wrap (4294967296 + IntKind.u64.wrap (v3.getD v2.toNat (X.dflt 105))) - r0) - v1)) 32)) (IntKind.i64.wrap (v2 + 1)) (v3.set v2.toNat (IntKind.u32.wrap (IntKind.u64.wrap (IntKind.u64.wrap (IntKind.u64.wrap (4294967296 + IntKind.u64.wrap (v3.getD v2.toNat (X.dflt 105))) - r0) - v1)))))
  (none))
  (none))
  (none))
  (none))
  (none))
  (none))
  (some ((true, v3)))
theorem hk100 : ∀ v h' r, k100 v h' = some r → v = out100 r ∧ h' = outh100 r := by
  intro v h' r h
  unfold k100 at h
  split at h
  · injection h with h; subst h; exact ⟨rfl, rfl⟩
  · cases h
abbrev q100 : Prim U R100 := prims X [⟨115, fun _ => true, [.lend, .lend], F115 S115⟩]
theorem s100 (c : Nat → S U → Option R100) (p0 p1 : TI) : seg TP X q100 [3, 9] (fun q st => c q (keepD D100 (h100 p0 p1).length q st)) body100 (finH TP Try.f100.results.toList (h100 p0 p1).length false k100) (start [.row 0 105, .imm 105 p0] Try.f100.ntmps (h100 p0 p1)) = b100 p0 p1 (fun v1 => c 3 (m100_3 p0 p1 v1)) (fun v1 v2 v3 => c 9 (m100_9 p0 p1 v1 v2 v3)) := by kernel_rfl
theorem s100_3 (c : Nat → S U → Option R100) (p0 p1 : TI) (v1 : Int) : res TP X q100 [3, 9] (fun q st => c q (keepD D100 (h100 p0 p1).length q st)) 3 body100 (finH TP Try.f100.results.toList (h100 p0 p1).length false k100) (m100_3 p0 p1 v1) = b100_3 p0 p1 (fun v1 => c 3 (m100_3 p0 p1 v1)) (fun v1 v2 v3 => c 9 (m100_9 p0 p1 v1 v2 v3)) v1 := by kernel_rfl
theorem s100_9 (c : Nat → S U → Option R100) (p0 p1 : TI) (v1 v2 : Int) (v3 : TI) : res TP X q100 [3, 9] (fun q st => c q (keepD D100 (h100 p0 p1).length q st)) 9 body100 (finH TP Try.f100.results.toList (h100 p0 p1).length false k100) (m100_9 p0 p1 v1 v2 v3) = b100_9 p0 p1 (fun v1 => c 3 (m100_3 p0 p1 v1)) (fun v1 v2 v3 => c 9 (m100_9 p0 p1 v1 v2 v3)) v1 v2 v3 := by kernel_rfl
mutual
def f100_3 (p0 p1 : TI) : Nat → Int → Option R100
  | 0 => fun _ => none
  | k + 1 => b100_3 p0 p1 (f100_3 p0 p1 k) (f100_9 p0 p1 k)
def f100_9 (p0 p1 : TI) : Nat → Int → (Int) → TI → Option R100
  | 0 => fun _ _ _ => none
  | k + 1 => b100_9 p0 p1 (f100_3 p0 p1 k) (f100_9 p0 p1 k)
end
def f100 (k : Nat) (p0 p1 : TI) : Option R100 := b100 p0 p1 (f100_3 p0 p1 k) (f100_9 p0 p1 k)
theorem e100 (p0 p1 : TI) : ∀ k, ((fun v1 => cutG TP X q100 [3, 9] D100 (h100 p0 p1).length body100 (finH TP Try.f100.results.toList (h100 p0 p1).length false k100) k 3 (m100_3 p0 p1 v1)) = f100_3 p0 p1 k) ∧ ((fun v1 v2 v3 => cutG TP X q100 [3, 9] D100 (h100 p0 p1).length body100 (finH TP Try.f100.results.toList (h100 p0 p1).length false k100) k 9 (m100_9 p0 p1 v1 v2 v3)) = f100_9 p0 p1 k)
  | 0 => ⟨rfl, rfl⟩
  | k + 1 => by
    have ih := e100 p0 p1 k
    refine ⟨?_, ?_⟩
    · funext v1
      refine (if_pos (by kernel_rfl)).trans ?_
      rw [s100_3]
      simp only [ih]
      rfl
    · funext v1 v2 v3
      refine (if_pos (by kernel_rfl)).trans ?_
      rw [s100_9]
      simp only [ih]
      rfl
theorem pure100 (p0 p1 : TI) (pok : PrmOK TP X q100) (k : Nat) (r : R100) (h : f100 k p0 p1 = some r) : PureH TP X 100 [.row 0 105, .imm 105 p0] (h100 p0 p1) (out100 r) (outh100 r) :=
  pure_gen good k (fn := Try.f100) (body := body100) (prim := q100) (D := D100) (cuts := [3, 9]) (h := h100 p0 p1) (own := false) (by kernel_rfl) (by kernel_rfl) (by decide +kernel) pok hk100 (by
    rw [s100]
    have ih := e100 p0 p1 k
    simp only [ih]
    exact h)
def F100 {R : Type} (spec : TI → TI → Option R100) : Fn U R := fun args h k => match args, h with | [.row 0 105, .imm 105 p0], [.row 105 p1] => (spec p0 p1).bind fun r => k (out100 r) (outh100 r) | _, _ => none
theorem ok100 {R : Type} (spec : TI → TI → Option R100) (hp : ∀ (p0 : TI) (p1 : TI) (r : R100), spec p0 p1 = some r → PureH TP X 100 [.row 0 105, .imm 105 p0] (h100 p0 p1) (out100 r) (outh100 r)) : FnOK TP X 100 (F100 spec : Fn U R) := by
  intro args h k r hh
  unfold F100 at hh
  split at hh
  · obtain ⟨x, h1, h2⟩ := Option.bind_eq_some_iff.1 hh
    exact ⟨_, _, h2, hp _ _ _ h1⟩
  · cases hh
theorem pok100 : PrmOK TP X q100 := prims_cons good okS115 (prims_nil TP X mixed)
noncomputable def S100 (p0 p1 : TI) : Option R100 := evv fun k => f100 k p0 p1
theorem okS100 {R : Type} : FnOK TP X 100 (F100 S100 : Fn U R) := ok100 S100 fun p0 p1 r h => by
  obtain ⟨k, hk⟩ := evv_fuel h
  exact pure100 p0 p1 pok100 k r hk
abbrev R116 : Type := TI × (Int)
noncomputable def body116 : Go.Code := (Try.f116.body).getD Go.Code.skip
def h116 (p0 : TI) : List (AO U) := []
def k116 : AV U → List (AO U) → Option R116 := fun v h => match v, h with | AV.tup [AV.imm 105 x0, AV.int IntKind.i64 x1], [] => some (x0, x1) | _, _ => none
def out116 : R116 → AV U := fun (x0, x1) => AV.tup [AV.imm 105 x0, AV.int IntKind.i64 x1]
def outh116 : R116 → List (AO U) := fun (x0, x1) => []
def D116 : Nat → Dir := dirs []
def b116 (p0 : TI)   : Option R116 :=
  (S81 p0).bind fun r0 =>
  cond (decide ((↑(List.length r0) : Int) > 2048))
  (some (([], 2)))
  (some ((r0, 0)))
theorem hk116 : ∀ v h' r, k116 v h' = some r → v = out116 r ∧ h' = outh116 r := by
  intro v h' r h
  unfold k116 at h
  split at h
  · injection h with h; subst h; exact ⟨rfl, rfl⟩
  · cases h
abbrev q116 : Prim U R116 := prims X [⟨81, fun _ => true, [.lend], F81 S81⟩]
theorem s116 (c : Nat → S U → Option R116) (p0 : TI) : seg TP X q116 [] (fun q st => c q (keepD D116 (h116 p0).length q st)) body116 (finH TP Try.f116.results.toList (h116 p0).length false k116) (start [.imm 105 p0] Try.f116.ntmps (h116 p0)) = b116 p0  := by kernel_rfl
def f116 (_ : Nat) (p0 : TI) : Option R116 := b116 p0
theorem pure116 (p0 : TI) (pok : PrmOK TP X q116) (k : Nat) (r : R116) (h : f116 k p0 = some r) : PureH TP X 116 [.imm 105 p0] (h116 p0) (out116 r) (outh116 r) :=
  pure_gen good 0 (fn := Try.f116) (body := body116) (prim := q116) (D := D116) (cuts := []) (h := h116 p0) (own := false) (by kernel_rfl) (by kernel_rfl) (by decide +kernel) pok hk116 (by
    rw [s116]
    exact h)
def F116 {R : Type} (spec : TI → Option R116) : Fn U R := fun args h k => match args, h with | [.imm 105 p0], [] => (spec p0).bind fun r => k (out116 r) (outh116 r) | _, _ => none
theorem ok116 {R : Type} (spec : TI → Option R116) (hp : ∀ (p0 : TI) (r : R116), spec p0 = some r → PureH TP X 116 [.imm 105 p0] (h116 p0) (out116 r) (outh116 r)) : FnOK TP X 116 (F116 spec : Fn U R) := by
  intro args h k r hh
  unfold F116 at hh
  split at hh
  · obtain ⟨x, h1, h2⟩ := Option.bind_eq_some_iff.1 hh
    exact ⟨_, _, h2, hp _ _ h1⟩
  · cases hh
theorem pok116 : PrmOK TP X q116 := prims_cons good okS81 (prims_nil TP X mixed)
noncomputable def S116 (p0 : TI) : Option R116 := evv fun k => f116 k p0
theorem okS116 {R : Type} : FnOK TP X 116 (F116 S116 : Fn U R) := ok116 S116 fun p0 r h => by
  obtain ⟨k, hk⟩ := evv_fuel h
  exact pure116 p0 pok116 k r hk
end
end Go.Abs.Z
namespace Go.Abs.Z
open Go Go.Abs Limb
theorem loop113h (p0 : List Int) (h : p0.length < 4611686018427387904) : ∀ n : Nat, n ≤ p0.length → Evt (fun k => f113h_2 p0 k (n : Int)) (p0.take (tn p0 n))
  | 0, _ => Evt.last fun k => by
    show b113h_2 p0 (f113h_2 p0 k) ((0 : Nat) : Int) = _
    unfold b113h_2
    simp (disch := omega) only [cT, cF]
    rfl
  | n + 1, hn => by
    have e0 : IntKind.i64.wrap (((n + 1 : Nat) : Int) - 1) = (n : Int) := by rw [wi64] <;> omega
    by_cases hz : p0.getD n 0 = 0
    · have et : tn p0 (n + 1) = tn p0 n := by show (if _ then _ else _) = _; rw [if_pos hz]
      rw [et]
      refine Evt.step (loop113h p0 h n (by omega)) fun k => ?_
      show b113h_2 p0 (f113h_2 p0 k) ((n + 1 : Nat) : Int) = _
      unfold b113h_2
      rw [e0]
      simp only [Int.toNat_natCast, dflt105]
      simp (disch := omega) only [cT, cF, cE]
    · have et : tn p0 (n + 1) = n + 1 := by show (if _ then _ else _) = _; rw [if_neg hz]
      rw [et]
      refine Evt.last fun k => ?_
      show b113h_2 p0 (f113h_2 p0 k) ((n + 1 : Nat) : Int) = _
      unfold b113h_2
      rw [e0]
      simp only [Int.toNat_natCast, dflt105]
      simp (disch := omega) only [cT, cF, cN]
      rfl
theorem run113h {p0 : List Int} (h : p0.length < 4611686018427387904) : S113h p0 = some (trimL p0) := evv_eq (loop113h p0 h p0.length (Nat.le_refl _))
theorem trimmed {l : List Int} (h : Ok l) (hl : l.length < 4611686018427387904) : ∃ r, S113 l = some r ∧ Is r (val l) := ⟨_, run113 hl, trim_is h⟩
theorem trimmedH {l : List Int} (h : Ok l) (hl : l.length < 4611686018427387904) : ∃ r, S113h l = some r ∧ Is r (val l) := ⟨_, run113h hl, trim_is h⟩
theorem shr64 {x : Int} (s : Nat) (hs : s ≤ 64) : shr .u64 x (s : Int) = x / 2 ^ s := by
  unfold shr
  have : min (s : Int).toNat IntKind.u64.bits = s := by
    rw [Int.toNat_natCast]
    exact Nat.min_eq_left hs
  rw [this, Int.fdiv_eq_ediv_of_nonneg _ (Int.le_of_lt (Int.pow_pos (by decide)))]
theorem shl64 {x : Int} (s : Nat) (hs : s ≤ 64) : shl .u64 x (s : Int) = x * 2 ^ s % 18446744073709551616 := by
  unfold shl
  have : min (s : Int).toNat IntKind.u64.bits = s := by
    rw [Int.toNat_natCast]
    exact Nat.min_eq_left hs
  rw [this, wu64]
theorem run95 {x : Int} (h0 : 0 ≤ x) (h1 : x < 18446744073709551616) : ∃ r, S95 x = some r ∧ Is r x := by
  have e : shr .u64 x 32 = x / 4294967296 := shr64 32 (by decide)
  obtain ⟨r, h2, h3⟩ := trimmed (l := [x % 4294967296, x / 4294967296 % 4294967296]) (Ok.mk (by omega) (by omega) (Ok.mk (by omega) (by omega) Ok.nil)) (by simp)
  refine ⟨r, evv_eq (Evt.now fun k => ?_), ?_⟩
  · show b95 x = _
    unfold b95
    rw [e, wu32, wu32, h2]; rfl
  · have : val [x % 4294967296, x / 4294967296 % 4294967296] = x := by simp only [val]; omega
    rw [this] at h3; exact h3
theorem P_two (n : Nat) : P n = 2 ^ (32 * n) := by
  unfold P
  rw [Int.pow_mul]; rfl
theorem top_split {l : List Int} (h : l ≠ []) : val l = val (l.take (l.length - 1)) + l.getD (l.length - 1) 0 * P (l.length - 1) := by
  have hl : 0 < l.length := List.length_pos_iff.2 h
  have e := val_take_succ l (l.length - 1) (by omega)
  rwa [show l.length - 1 + 1 = l.length from by omega, List.take_length] at e
theorem top_div {l : List Int} (ho : Ok l) (h : l ≠ []) : l.getD (l.length - 1) 0 = val l / P (l.length - 1) := by
  have e := top_split h
  have b := val_bound (ho.take (l.length - 1))
  have hlen : (l.take (l.length - 1)).length = l.length - 1 := by simp
  rw [hlen] at b
  rw [e, Int.add_mul_ediv_right _ _ (by have := P_pos (l.length - 1); omega), Int.ediv_eq_zero_of_lt b.1 b.2]
  omega
theorem getD_ok {l : List Int} (h : Ok l) (i : Nat) : 0 ≤ l.getD i 0 ∧ l.getD i 0 < 4294967296 := by
  have := h.rd (i : Int)
  unfold Limb.rd at this
  simpa using this
theorem run107 {a : List Int} {v : Int} (ha : Is a v) (hl : a.length ≤ 1073741824) : ∃ n : Int, S107 a = some n ∧ BL v n ∧ n ≤ 32 * a.length := by
  by_cases h : a = []
  · refine ⟨0, evv_eq (Evt.now fun k => ?_), ?_, ?_⟩
    · show b107 a = _
      unfold b107
      rw [h]; rfl
    · have : v = 0 := by rw [← ha.val, h]; rfl
      rw [this]; exact ⟨by decide, by decide, .inl rfl⟩
    · omega
  · have hlen : 0 < a.length := List.length_pos_iff.2 h
    have ht := getD_ok ha.ok (a.length - 1)
    obtain ⟨n, h1, h2, h3, h4⟩ := run125 ht.1 ht.2
    have e0 : IntKind.i64.wrap ((a.length : Int) - 1) = ((a.length - 1 : Nat) : Int) := by rw [wi64] <;> omega
    refine ⟨n + (32 * (a.length - 1) : Nat), evv_eq (Evt.now fun k => ?_), ?_, by omega⟩
    · show b107 a = _
      unfold b107
      rw [e0]
      simp only [Int.toNat_natCast, dflt105]
      rw [h1]
      simp (disch := omega) only [cT, cF, cN, Option.bind_some, wi64]
      refine congrArg some ?_
      show 32 * ((a.length - 1 : Nat) : Int) + n = n + ((32 * (a.length - 1) : Nat) : Int)
      omega
    · refine h4.shift (s := 32 * (a.length - 1)) ?_ ?_
      · rcases ha.norm with h' | h'
        · exact absurd h' h
        · omega
      · rw [← P_two, ← ha.val]; exact top_div ha.ok h
theorem run110 {x : Int} (h0 : 0 ≤ x) (h1 : x < 4294967296) : ∃ n : Int, S110 x = some (32 - n) ∧ 0 ≤ n ∧ n ≤ 32 ∧ BL x n := by
  obtain ⟨n, a, b, c, d⟩ := run125 h0 h1
  refine ⟨n, evv_eq (Evt.now fun k => ?_), b, c, d⟩
  show b110 x = _
  unfold b110
  rw [a]
  simp (disch := omega) only [Option.bind_some, wi64]
theorem drop_val (l : List Int) (i : Nat) (h : i < l.length) : val (l.drop i) = l.getD i 0 + 4294967296 * val (l.drop (i + 1)) := by
  rw [List.drop_eq_getElem_cons h, List.getD_eq_getElem?_getD, List.getElem?_eq_getElem h]; rfl
theorem loop94 {p0 : List Int} (ho : Ok p0) (hl : p0.length ≤ 2) : ∀ n : Nat, n ≤ p0.length → Evt (fun k => f94_3 p0 k (val (p0.drop n)) ((n : Int) - 1)) (val p0)
  | 0, _ => Evt.last fun k => by
    show b94_3 p0 (f94_3 p0 k) (val (p0.drop 0)) (((0 : Nat) : Int) - 1) = _
    unfold b94_3
    simp (disch := omega) only [cF]
    rfl
  | n + 1, hn => by
    refine Evt.step (loop94 ho hl n (by omega)) fun k => ?_
    show b94_3 p0 (f94_3 p0 k) (val (p0.drop (n + 1))) (((n + 1 : Nat) : Int) - 1) = _
    unfold b94_3
    have e1 : (((n + 1 : Nat) : Int) - 1) = (n : Int) := by omega
    have e2 : IntKind.i64.wrap ((n : Int) - 1) = (n : Int) - 1 := by rw [wi64] <;> omega
    rw [e1, e2]
    simp only [Int.toNat_natCast, dflt105]
    simp (disch := omega) only [cT, cF]
    have b := val_bound (ho.drop (n + 1))
    have hb : val (p0.drop (n + 1)) < 4294967296 := by
      have hp := P_mono (m := (p0.drop (n + 1)).length) (n := 1) (by simp; omega)
      have : P 1 = 4294967296 := by rfl
      omega
    have g := getD_ok ho n
    have es : shl .u64 (val (p0.drop (n + 1))) 32 = val (p0.drop (n + 1)) * 2 ^ 32 := by
      refine (shl64 32 (by decide)).trans ?_
      omega
    have ew : IntKind.u64.wrap (p0.getD n 0) = p0.getD n 0 := by rw [wu64]; omega
    rw [es, ew, or_low b.1 g.1 (by omega) (by omega), drop_val p0 n (by omega)]
    congr 1
    omega
theorem run94 {p0 : List Int} (ho : Ok p0) (hl : p0.length ≤ 2) : S94 p0 = some (val p0) := evv_eq (by
  refine (loop94 ho hl p0.length (Nat.le_refl _)).same fun k => ?_
  show b94 p0 (f94_3 p0 k) = _
  unfold b94
  have e2 : IntKind.i64.wrap ((p0.length : Int) - 1) = (p0.length : Int) - 1 := by rw [wi64] <;> omega
  rw [e2, List.drop_length]; rfl)
end Go.Abs.Z
namespace Limb
theorem drop_set_lt (l : List Int) (i j : Nat) (x : Int) (h : i < j) : (l.set i x).drop j = l.drop j := by
  apply List.ext_getElem?
  intro k
  rw [List.getElem?_drop, List.getElem?_drop, List.getElem?_set_ne (by omega)]
theorem getD_set_self (l : List Int) (i : Nat) (x : Int) (h : i < l.length) : (l.set i x).getD i 0 = x := by
  rw [List.getD_eq_getElem?_getD, List.getElem?_set_self h]; rfl
theorem getD_set_other (l : List Int) (i j : Nat) (x : Int) (h : i ≠ j) : (l.set i x).getD j 0 = l.getD j 0 := by
  rw [List.getD_eq_getElem?_getD, List.getElem?_set_ne h, ← List.getD_eq_getElem?_getD]
theorem getD_replicate (n i : Nat) : (List.replicate n (0 : Int)).getD i 0 = 0 := by
  rw [List.getD_eq_getElem?_getD, List.getElem?_replicate]; split <;> rfl
end Limb
namespace Go.Abs.Z
open Go Go.Abs Limb
theorem loop109 {a : List Int} {d : Int} (ha : Ok a) (hl : a.length ≤ 1073741824) (hd : 0 < d) (hd' : d < 4294967296) : ∀ (n : Nat) (q : List Int) (r : Int), n ≤ a.length → Ok q → q.length = a.length → 0 ≤ r → r < d → val (a.drop n) = val (q.drop n) * d + r →
    ∃ rq, Evt (fun k => f109_4 a d k r ((n : Int) - 1) q) (rq, val a % d) ∧ Is rq (val a / d)
  | 0, q, r, _, hq, hql, h0, h1, he => by
    obtain ⟨rq, h2, h3⟩ := trimmed hq (by omega)
    rw [List.drop_zero, List.drop_zero] at he
    have e1 : val a / d = val q := by rw [he, Int.add_comm, Int.add_mul_ediv_right _ _ (by omega), Int.ediv_eq_zero_of_lt h0 h1]; omega
    have e2 : val a % d = r := by rw [he, Int.add_comm, Int.add_mul_emod_self_right, Int.emod_eq_of_lt h0 h1]
    refine ⟨rq, ?_, by rw [e1]; exact h3⟩
    rw [e2]
    refine Evt.last fun k => ?_
    show b109_4 a d (f109_4 a d k) r (((0 : Nat) : Int) - 1) q = _
    unfold b109_4
    simp (disch := omega) only [cF]
    rw [h2]; rfl
  | n + 1, q, r, hn, hq, hql, h0, h1, he => by
    have e1 : (((n + 1 : Nat) : Int) - 1) = (n : Int) := by omega
    have e2 : IntKind.i64.wrap ((n : Int) - 1) = (n : Int) - 1 := by rw [wi64] <;> omega
    have g := getD_ok ha n
    have p0 : 0 ≤ (r * 4294967296 + a.getD n 0) / d := Int.ediv_nonneg (by omega) (by omega)
    have p1 : (r * 4294967296 + a.getD n 0) / d < 4294967296 := by
      refine Int.ediv_lt_of_lt_mul (by omega) ?_
      have : (r + 1) * 4294967296 ≤ d * 4294967296 := Int.mul_le_mul_of_nonneg_right (by omega) (by decide)
      rw [Int.mul_comm 4294967296 d]
      omega
    have q0 : 0 ≤ (r * 4294967296 + a.getD n 0) % d := Int.emod_nonneg _ (by omega)
    have q1 : (r * 4294967296 + a.getD n 0) % d < d := Int.emod_lt_of_pos _ (by omega)
    have em := Int.mul_ediv_add_emod (r * 4294967296 + a.getD n 0) d
    obtain ⟨rq, h2, h3⟩ := loop109 ha hl hd hd' n (q.set n ((r * 4294967296 + a.getD n 0) / d)) ((r * 4294967296 + a.getD n 0) % d) (by omega) (hq.set n p0 p1) (by simpa using hql) q0 q1 (by
      rw [drop_val a n (by omega), drop_val _ n (by simp; omega), drop_set_lt _ _ _ _ (by omega), getD_set_self _ _ _ (by omega), he]
      generalize (r * 4294967296 + a.getD n 0) / d = Q at *
      generalize (r * 4294967296 + a.getD n 0) % d = M at *
      generalize val (q.drop (n + 1)) = V at *
      grind)
    refine ⟨rq, h2.step fun k => ?_, h3⟩
    show b109_4 a d (f109_4 a d k) r (((n + 1 : Nat) : Int) - 1) q = _
    unfold b109_4
    rw [e1, e2]
    simp only [Int.toNat_natCast, dflt105]
    rw [run126 h0 g.1 g.2 hd' h1]
    simp (disch := omega) only [cT, cF, Option.bind_some]
theorem run109 {a : List Int} {d : Int} (ha : Ok a) (hl : a.length ≤ 1073741824) (hd : 0 < d) (hd' : d < 4294967296) : ∃ rq, S109 a d = some (rq, val a % d) ∧ Is rq (val a / d) := by
  obtain ⟨rq, h1, h2⟩ := loop109 ha hl hd hd' a.length (List.replicate a.length 0) 0 (Nat.le_refl _) (Ok.replicate _) (by simp) (by omega) hd (by rw [List.drop_length, List.drop_eq_nil_of_le (by simp)]; simp [val])
  refine ⟨rq, evv_eq (h1.same fun k => ?_), h2⟩
  show b109 a d (f109_4 a d k) = _
  unfold b109
  have e2 : IntKind.i64.wrap ((a.length : Int) - 1) = (a.length : Int) - 1 := by rw [wi64] <;> omega
  rw [e2]
  simp (disch := omega) only [cT, Int.toNat_natCast]
end Go.Abs.Z
namespace Go.Abs
theorem or32_low {a b : Int} {n : Nat} (ha : 0 ≤ a) (hb : 0 ≤ b) (hb' : b < 2 ^ n) (h : a * 2 ^ n + b < 4294967296) : bits .or .u32 (a * 2 ^ n) b = a * 2 ^ n + b := by
  have hp : (0 : Int) < 2 ^ n := Int.pow_pos (by decide)
  have hm : 0 ≤ a * 2 ^ n := Int.mul_nonneg ha (Int.le_of_lt hp)
  have h64 := or_low ha hb hb' (by omega)
  rw [bor64 hm (by omega) hb (by omega)] at h64
  rw [bor32 hm (by omega) hb (by omega)]
  exact h64
theorem or32_low' {a b : Int} {n : Nat} (ha : 0 ≤ a) (hb : 0 ≤ b) (hb' : b < 2 ^ n) (h : a * 2 ^ n + b < 4294967296) : bits .or .u32 b (a * 2 ^ n) = a * 2 ^ n + b := by
  have hp : (0 : Int) < 2 ^ n := Int.pow_pos (by decide)
  have hm : 0 ≤ a * 2 ^ n := Int.mul_nonneg ha (Int.le_of_lt hp)
  rw [bor32 hb (by omega) hm (by omega), Nat.or_comm, ← bor32 hm (by omega) hb (by omega)]
  exact or32_low ha hb hb' h
theorem shl32 {x : Int} (s : Nat) (hs : s ≤ 32) : shl .u32 x (s : Int) = x * 2 ^ s % 4294967296 := by
  unfold shl
  have : min (s : Int).toNat IntKind.u32.bits = s := by
    rw [Int.toNat_natCast]
    exact Nat.min_eq_left hs
  rw [this, wu32]
theorem pow32 {k : Nat} (h : k ≤ 32) : (2 : Int) ^ (32 - k) * 2 ^ k = 4294967296 := by
  rw [← Int.pow_add, show 32 - k + k = 32 from by omega]; rfl
theorem mod_shift {x : Int} {k : Nat} (h : k ≤ 32) : x * 2 ^ k % 4294967296 = (x % 2 ^ (32 - k)) * 2 ^ k := by
  rw [← pow32 h, Int.mul_comm x, Int.mul_comm (2 ^ (32 - k)), Int.mul_emod_mul_of_pos _ _ (Int.pow_pos (by decide)), Int.mul_comm]
theorem div_shift {x : Int} {k : Nat} (h : k ≤ 32) : x * 2 ^ k / 4294967296 = x / 2 ^ (32 - k) := by
  rw [← pow32 h, Int.mul_comm x, Int.mul_comm (2 ^ (32 - k)), Int.mul_ediv_mul_of_pos _ _ (Int.pow_pos (by decide))]
end Go.Abs
namespace Go.Abs.Z
open Go Go.Abs Limb
theorem loop111 {a : List Int} {k : Nat} (ha : Ok a) (hl : a.length ≤ 1073741824) (hk : k < 32) : ∀ (m i : Nat) (l : List Int), i + m = a.length → Ok l → l.length = a.length + 1 → l.getD i 0 < 2 ^ k → (∀ j, i < j → l.getD j 0 = 0) → val l = val (a.take i) * 2 ^ k →
    ∃ r, Evt (fun f => f111_5 a (k : Int) f (i : Int) l) r ∧ Is r (val a * 2 ^ k)
  | 0, i, l, hi, hlo, hll, hc, hz, hv => by
    obtain ⟨r, h2, h3⟩ := trimmedH hlo (by omega)
    have ei : i = a.length := by omega
    subst ei
    rw [List.take_length] at hv
    refine ⟨r, ?_, by rw [← hv]; exact h3⟩
    refine Evt.last fun f => ?_
    show b111_5 a (k : Int) (f111_5 a (k : Int) f) (a.length : Int) l = _
    unfold b111_5
    simp (disch := omega) only [cF]
    rw [h2]; rfl
  | m + 1, i, l, hi, hlo, hll, hc, hz, hv => by
    have g := getD_ok ha i
    have gl := getD_ok hlo i
    have hp : (0 : Int) < 2 ^ k := Int.pow_pos (by decide)
    have hp2 : (0 : Int) < 2 ^ (32 - k) := Int.pow_pos (by decide)
    have ep := pow32 (k := k) (by omega)
    have t1 : Int.tdiv (k : Int) 32 = 0 := Int.tdiv_eq_zero_of_lt (by omega) (by omega)
    have t2 : Int.tmod (k : Int) 32 = (k : Int) := Int.tmod_eq_of_lt (by omega) (by omega)
    have e0 : IntKind.i64.wrap (IntKind.i64.wrap 0 + (i : Int)) = (i : Int) := by rw [wi64 (x := 0), wi64] <;> omega
    have e1 : IntKind.i64.wrap ((i : Int) + 1) = ((i + 1 : Nat) : Int) := by rw [wi64] <;> omega
    have ew : IntKind.u64.wrap (a.getD i 0) = a.getD i 0 := by rw [wu64]; omega
    have ebig : a.getD i 0 * 2 ^ k < 18446744073709551616 := by
      have h1 := Int.mul_lt_mul_of_pos_right g.2 hp
      have h2 : (2 : Int) ^ k ≤ 4294967296 := by
        have h3 := Int.mul_le_mul_of_nonneg_right (show (1 : Int) ≤ 2 ^ (32 - k) by omega) (Int.le_of_lt hp)
        omega
      omega
    have epos : 0 ≤ a.getD i 0 * 2 ^ k := Int.mul_nonneg g.1 (Int.le_of_lt hp)
    have es : shl .u64 (a.getD i 0) (k : Int) = a.getD i 0 * 2 ^ k := by
      rw [shl64 k (by omega), Int.emod_eq_of_lt epos ebig]
    have ed : IntKind.u32.wrap (shr .u64 (a.getD i 0 * 2 ^ k) 32) = a.getD i 0 / 2 ^ (32 - k) := by
      have : shr .u64 (a.getD i 0 * 2 ^ k) 32 = a.getD i 0 * 2 ^ k / 4294967296 := shr64 32 (by decide)
      rw [this, wu32, div_shift (by omega)]
      have h1 : 0 ≤ a.getD i 0 / 2 ^ (32 - k) := Int.ediv_nonneg g.1 (Int.le_of_lt hp2)
      have h2 : a.getD i 0 / 2 ^ (32 - k) ≤ a.getD i 0 := Int.ediv_le_self _ g.1
      omega
    have em : IntKind.u32.wrap (a.getD i 0 * 2 ^ k) = (a.getD i 0 % 2 ^ (32 - k)) * 2 ^ k := by rw [wu32, mod_shift (by omega)]
    have m0 : 0 ≤ a.getD i 0 % 2 ^ (32 - k) := Int.emod_nonneg _ (by omega)
    have m1 : a.getD i 0 % 2 ^ (32 - k) < 2 ^ (32 - k) := Int.emod_lt_of_pos _ hp2
    have mt : (a.getD i 0 % 2 ^ (32 - k)) * 2 ^ k + l.getD i 0 < 4294967296 := by
      have h1 := Int.mul_le_mul_of_nonneg_right (show a.getD i 0 % 2 ^ (32 - k) + 1 ≤ 2 ^ (32 - k) by omega) (Int.le_of_lt hp)
      rw [Int.add_mul, Int.one_mul] at h1
      omega
    have eo := or32_low' m0 gl.1 hc mt
    have d0 : 0 ≤ a.getD i 0 / 2 ^ (32 - k) := Int.ediv_nonneg g.1 (Int.le_of_lt hp2)
    have d1 : a.getD i 0 / 2 ^ (32 - k) < 2 ^ k := Int.ediv_lt_of_lt_mul hp2 (by rw [Int.mul_comm, ep]; exact g.2)
    have d2 : a.getD i 0 / 2 ^ (32 - k) < 4294967296 := by
      have : a.getD i 0 / 2 ^ (32 - k) ≤ a.getD i 0 := Int.ediv_le_self _ g.1
      omega
    have mm : 0 ≤ (a.getD i 0 % 2 ^ (32 - k)) * 2 ^ k := Int.mul_nonneg m0 (Int.le_of_lt hp)
    have hset : Ok ((l.set i ((a.getD i 0 % 2 ^ (32 - k)) * 2 ^ k + l.getD i 0)).set (i + 1) (a.getD i 0 / 2 ^ (32 - k))) := (hlo.set i (by omega) mt).set (i + 1) d0 d2
    obtain ⟨r, h2, h3⟩ := loop111 ha hl hk m (i + 1) _ (by omega) hset (by simpa using hll) (by rw [Limb.getD_set_self _ _ _ (by simp; omega)]; exact d1) (fun j hj => by
      rw [Limb.getD_set_other _ _ _ _ (by omega), Limb.getD_set_other _ _ _ _ (by omega)]; exact hz j (by omega)) (by
      rw [val_set _ _ _ (by simp; omega), val_set _ _ _ (by omega), Limb.getD_set_other _ _ _ _ (by omega), hz (i + 1) (by omega), hv, val_take_succ a i (by omega), P_succ]
      have ee := Int.mul_ediv_add_emod (a.getD i 0) (2 ^ (32 - k))
      generalize a.getD i 0 / 2 ^ (32 - k) = D at *
      generalize a.getD i 0 % 2 ^ (32 - k) = M at *
      generalize (2 : Int) ^ (32 - k) = B at *
      generalize (2 : Int) ^ k = K at *
      generalize l.getD i 0 = C at *
      generalize P i = Q at *
      generalize val (a.take i) = V at *
      rw [← ee]
      have : (B * D + M) * Q * K = (B * K) * (D * Q) + M * K * Q := by grind
      rw [Int.add_mul, this, ep]
      grind)
    refine ⟨r, h2.step fun f => ?_, h3⟩
    show b111_5 a (k : Int) (f111_5 a (k : Int) f) (i : Int) l = _
    unfold b111_5
    rw [t1, t2, e0, e1]
    simp only [Int.toNat_natCast, dflt105]
    simp only [ew, es, ed, em, eo, e1, Int.toNat_natCast, List.length_set]
    simp (disch := omega) only [cT]
theorem run111 {a : List Int} {v : Int} {k : Nat} (ha : Is a v) (hl : a.length ≤ 1073741000) (hk : k < 32) : ∃ r, S111 a (k : Int) = some r ∧ Is r (v * 2 ^ k) := by
  have t1 : Int.tdiv (k : Int) 32 = 0 := Int.tdiv_eq_zero_of_lt (by omega) (by omega)
  by_cases h : a.length = 0
  · have hn : a = [] := List.eq_nil_of_length_eq_zero h
    have h0 : v = 0 := ha.nil_iff.1 hn
    refine ⟨[], evv_eq (Evt.now fun f => ?_), by rw [h0, Int.zero_mul]; exact Is.nil⟩
    show b111 a (k : Int) (f111_5 a (k : Int) f) = _
    unfold b111
    simp (disch := omega) only [cE]
  · obtain ⟨r, h1, h2⟩ := loop111 ha.ok (by omega) hk a.length 0 (List.replicate (a.length + 1) 0) (by omega) (Ok.replicate _) (by simp) (by rw [getD_replicate]; exact Int.pow_pos (by decide)) (fun j _ => getD_replicate _ _) (by rw [val_replicate]; simp [val])
    rw [← ha.val]
    refine ⟨r, evv_eq (h1.same fun f => ?_), h2⟩
    show b111 a (k : Int) (f111_5 a (k : Int) f) = _
    unfold b111
    have e0 : IntKind.i64.wrap (IntKind.i64.wrap (IntKind.i64.wrap 0 + (a.length : Int)) + 1) = ((a.length + 1 : Nat) : Int) := by rw [wi64 (x := 0), wi64 (x := 0 + (a.length : Int)), wi64] <;> omega
    rw [t1, e0]
    simp (disch := omega) only [cT, cN, Int.toNat_natCast]
    rfl
end Go.Abs.Z
namespace Go.Abs.Z
open Go Go.Abs Limb
theorem getD_out {l : List Int} {i : Nat} (h : l.length ≤ i) : l.getD i 0 = 0 := by
  rw [List.getD_eq_getElem?_getD, List.getElem?_eq_none h]; rfl
def halfAt (a : List Int) (k i : Nat) : Int := a.getD i 0 / 2 ^ k + (a.getD (i + 1) 0 % 2 ^ k) * 2 ^ (32 - k)
theorem halfAt_ok {a : List Int} (ha : Ok a) {k : Nat} (hk : k < 32) (i : Nat) : 0 ≤ halfAt a k i ∧ halfAt a k i < 4294967296 ∧ a.getD i 0 / 2 ^ k < 2 ^ (32 - k) := by
  have g := getD_ok ha i
  have hp : (0 : Int) < 2 ^ k := Int.pow_pos (by decide)
  have hp2 : (0 : Int) < 2 ^ (32 - k) := Int.pow_pos (by decide)
  have ep := pow32 (k := k) (by omega)
  have d0 : 0 ≤ a.getD i 0 / 2 ^ k := Int.ediv_nonneg g.1 (Int.le_of_lt hp)
  have d1 : a.getD i 0 / 2 ^ k < 2 ^ (32 - k) := Int.ediv_lt_of_lt_mul hp (by rw [ep]; exact g.2)
  have m0 : 0 ≤ a.getD (i + 1) 0 % 2 ^ k := Int.emod_nonneg _ (by omega)
  have m1 : a.getD (i + 1) 0 % 2 ^ k < 2 ^ k := Int.emod_lt_of_pos _ hp
  have m2 := Int.mul_nonneg m0 (Int.le_of_lt hp2)
  have m3 := Int.mul_le_mul_of_nonneg_right (show a.getD (i + 1) 0 % 2 ^ k + 1 ≤ 2 ^ k by omega) (Int.le_of_lt hp2)
  rw [Int.add_mul, Int.one_mul, Int.mul_comm (2 ^ k), ep] at m3
  unfold halfAt
  exact ⟨by omega, by omega, d1⟩
theorem loop114 {a : List Int} {k : Nat} (ha : Ok a) (hl : a.length ≤ 1073741824) (hk : k < 32) : ∀ (m i : Nat) (l : List Int), i + m = a.length → Ok l → l.length = a.length → (∀ j, i ≤ j → l.getD j 0 = 0) → val (l.take i) * 2 ^ k + a.getD 0 0 % 2 ^ k = val (a.take i) + (a.getD i 0 % 2 ^ k) * P i →
    ∃ r, Evt (fun f => f114_3 a (k : Int) f (i : Int) l) r ∧ Is r (val a / 2 ^ k)
  | 0, i, l, hi, hlo, hll, hz, hv => by
    obtain ⟨r, h2, h3⟩ := trimmed hlo (by omega)
    have hp : (0 : Int) < 2 ^ k := Int.pow_pos (by decide)
    have ei : i = a.length := by omega
    subst ei
    rw [List.take_length, ← hll, List.take_length, hll, getD_out (Nat.le_refl _), Int.zero_emod, Int.zero_mul, Int.add_zero] at hv
    have hval : val a / 2 ^ k = val l := by
      rw [← hv, Int.add_comm, Int.add_mul_ediv_right _ _ (by omega), Int.ediv_eq_zero_of_lt (Int.emod_nonneg _ (by omega)) (Int.emod_lt_of_pos _ hp)]
      omega
    refine ⟨r, ?_, by rw [hval]; exact h3⟩
    refine Evt.last fun f => ?_
    show b114_3 a (k : Int) (f114_3 a (k : Int) f) (a.length : Int) l = _
    unfold b114_3
    simp (disch := omega) only [cF]
    rw [h2]; rfl
  | m + 1, i, l, hi, hlo, hll, hz, hv => by
    have g := getD_ok ha i
    have hp : (0 : Int) < 2 ^ k := Int.pow_pos (by decide)
    have hp2 : (0 : Int) < 2 ^ (32 - k) := Int.pow_pos (by decide)
    have ep := pow32 (k := k) (by omega)
    obtain ⟨o0, o1, o2⟩ := halfAt_ok ha hk i
    have e1 : IntKind.i64.wrap ((i : Int) + 1) = ((i + 1 : Nat) : Int) := by rw [wi64] <;> omega
    have hset : Ok (l.set i (halfAt a k i)) := hlo.set i o0 o1
    obtain ⟨r, h2, h3⟩ := loop114 ha hl hk m (i + 1) (l.set i (halfAt a k i)) (by omega) hset (by simpa using hll) (fun j hj => by rw [Limb.getD_set_other _ _ _ _ (by omega)]; exact hz j (by omega)) (by
      rw [val_take_succ _ i (by simp; omega), Limb.getD_set_self _ _ _ (by omega), List.take_set_of_le (Nat.le_refl i), val_take_succ a i (by omega), P_succ]
      have ee := Int.mul_ediv_add_emod (a.getD i 0) (2 ^ k)
      unfold halfAt
      have e4 : (val (l.take i) + (a.getD i 0 / 2 ^ k + a.getD (i + 1) 0 % 2 ^ k * 2 ^ (32 - k)) * P i) * 2 ^ k = val (l.take i) * 2 ^ k + 2 ^ k * (a.getD i 0 / 2 ^ k) * P i + (a.getD (i + 1) 0 % 2 ^ k) * P i * (2 ^ (32 - k) * 2 ^ k) := by
        generalize (2 : Int) ^ (32 - k) = B
        generalize a.getD i 0 / 2 ^ k = D
        generalize a.getD (i + 1) 0 % 2 ^ k = M
        generalize (2 : Int) ^ k = K
        grind
      rw [e4, ep]
      have e5 : val (a.take i) + a.getD i 0 * P i = val (a.take i) + 2 ^ k * (a.getD i 0 / 2 ^ k) * P i + (a.getD i 0 % 2 ^ k) * P i := by
        have : a.getD i 0 * P i = (2 ^ k * (a.getD i 0 / 2 ^ k) + a.getD i 0 % 2 ^ k) * P i := by rw [ee]
        rw [this, Int.add_mul]; omega
      rw [e5]
      generalize a.getD (i + 1) 0 % 2 ^ k = M at *
      generalize a.getD i 0 % 2 ^ k = M1 at *
      generalize a.getD i 0 / 2 ^ k = M2 at *
      grind)
    refine ⟨r, h2.step fun f => ?_, h3⟩
    show b114_3 a (k : Int) (f114_3 a (k : Int) f) (i : Int) l = _
    have es : shr .u32 (a.getD i 0) (k : Int) = a.getD i 0 / 2 ^ k := shr32 k (by omega)
    have eg : (l.set i (a.getD i 0 / 2 ^ k)).getD i 0 = a.getD i 0 / 2 ^ k := Limb.getD_set_self _ _ _ (by omega)
    have ess : ∀ x y : Int, (l.set i x).set i y = l.set i y := fun x y => List.set_set x
    unfold b114_3
    simp only [e1, Int.toNat_natCast, dflt105, es, eg, ess, List.length_set]
    by_cases hlast : i + 1 < a.length
    · by_cases hk0 : 0 < k
      · have ek : IntKind.i64.wrap (32 - (k : Int)) = ((32 - k : Nat) : Int) := by rw [wi64] <;> omega
        have el : shl .u32 (a.getD (i + 1) 0) ((32 - k : Nat) : Int) = a.getD (i + 1) 0 % 2 ^ k * 2 ^ (32 - k) := by
          rw [shl32 (32 - k) (by omega), mod_shift (by omega), show 32 - (32 - k) = k from by omega]
        have eo : bits .or .u32 (a.getD i 0 / 2 ^ k) (a.getD (i + 1) 0 % 2 ^ k * 2 ^ (32 - k)) = halfAt a k i := by
          have m0 : 0 ≤ a.getD (i + 1) 0 % 2 ^ k := Int.emod_nonneg _ (by omega)
          rw [or32_low' m0 (Int.ediv_nonneg g.1 (Int.le_of_lt hp)) o2 (by unfold halfAt at o1; omega)]
          unfold halfAt; omega
        simp only [ek, el, eo]
        simp (disch := omega) only [cT]
      · have hk1 : k = 0 := by omega
        have eh : halfAt a k i = a.getD i 0 / 2 ^ k := by
          unfold halfAt
          rw [hk1]; simp [Int.emod_one]
        rw [eh]
        simp (disch := omega) only [cT, cF]
    · have eh : halfAt a k i = a.getD i 0 / 2 ^ k := by
        unfold halfAt
        rw [getD_out (by omega : a.length ≤ i + 1)]; simp
      rw [eh]
      simp (disch := omega) only [cT, cF]
theorem run114 {a : List Int} {v : Int} {k : Nat} (ha : Is a v) (hl : a.length ≤ 1073741824) (hk : k < 32) : ∃ r, S114 a (k : Int) = some r ∧ Is r (v / 2 ^ k) := by
  obtain ⟨r, h1, h2⟩ := loop114 ha.ok hl hk a.length 0 (List.replicate a.length 0) (by omega) (Ok.replicate _) (by simp) (fun j _ => getD_replicate _ _) (by rw [List.take_zero, List.take_zero, P_zero]; simp [val])
  rw [← ha.val]
  refine ⟨r, evv_eq (h1.same fun f => ?_), h2⟩
  show b114 a (k : Int) (f114_3 a (k : Int) f) = _
  unfold b114
  simp (disch := omega) only [cT, Int.toNat_natCast]
  rfl
end Go.Abs.Z
namespace Limb
theorem val_take_any (l : List Int) (i : Nat) : val (l.take (i + 1)) = val (l.take i) + l.getD i 0 * P i := by
  by_cases h : i < l.length
  · exact val_take_succ l i h
  · rw [List.take_of_length_le (by omega), List.take_of_length_le (by omega), List.getD_eq_getElem?_getD, List.getElem?_eq_none (by omega)]
    simp
theorem mul_bound {p x M N : Int} (h0 : 0 ≤ p) (h1 : p ≤ M) (h2 : 0 ≤ x) (h3 : x ≤ N) : 0 ≤ p * x ∧ p * x ≤ M * N := by
  have e1 := Int.mul_le_mul_of_nonneg_right h1 h2
  have e2 := Int.mul_le_mul_of_nonneg_left h3 (show 0 ≤ M by omega)
  exact ⟨Int.mul_nonneg h0 h2, by omega⟩
end Limb
namespace Go.Abs.Z
open Go Go.Abs Limb
def Unlike (p q : Int) : Prop := (0 ≤ p ∧ p ≤ 2147483647 ∧ -2147483647 ≤ q ∧ q ≤ 0) ∨ (0 ≤ q ∧ q ≤ 2147483647 ∧ -2147483647 ≤ p ∧ p ≤ 0)
theorem Unlike.prods {p q x y : Int} (h : Unlike p q) (hx : 0 ≤ x ∧ x < 4294967296) (hy : 0 ≤ y ∧ y < 4294967296) :
    -9223372030412324865 ≤ p * x ∧ p * x ≤ 9223372030412324865 ∧ -9223372030412324865 ≤ q * y ∧ q * y ≤ 9223372030412324865 ∧ -9223372030412324865 ≤ p * x + q * y ∧ p * x + q * y ≤ 9223372030412324865 := by
  rcases h with ⟨h1, h2, h3, h4⟩ | ⟨h1, h2, h3, h4⟩
  · have a1 := mul_bound h1 h2 hx.1 (show x ≤ 4294967295 by omega)
    have a2 := mul_bound (p := -q) (M := 2147483647) (by omega) (by omega) hy.1 (show y ≤ 4294967295 by omega)
    rw [Int.neg_mul] at a2
    omega
  · have a1 := mul_bound h1 h2 hy.1 (show y ≤ 4294967295 by omega)
    have a2 := mul_bound (p := -p) (M := 2147483647) (by omega) (by omega) hx.1 (show x ≤ 4294967295 by omega)
    rw [Int.neg_mul] at a2
    omega
theorem shri64 {x : Int} : shr .i64 x 32 = x / 4294967296 := by
  show Int.fdiv x (2 ^ 32) = _
  rw [Int.fdiv_eq_ediv_of_nonneg _ (by decide)]; rfl
theorem loop93 {a b : List Int} {p q V : Int} (ha : Ok a) (hb : Ok b) (hl : a.length ≤ 1073741824) (hlb : b.length ≤ a.length + 1) (hu : Unlike p q) (hV : p * val a + q * val b = V) (h0 : 0 ≤ V) (h1 : V < P (a.length + 1)) :
    ∀ (m i : Nat) (c : Int) (l : List Int), i + m = a.length + 1 → Ok l → l.length = a.length + 1 → -2147483648 ≤ c → c ≤ 2147483648 → val (l.take i) + c * P i = p * val (a.take i) + q * val (b.take i) →
    ∃ r, Evt (fun f => f93_4 a b p q f c (i : Int) l) r ∧ Is r V
  | 0, i, c, l, hi, hlo, hll, c0, c1, hv => by
    obtain ⟨r, h2, h3⟩ := trimmed hlo (by omega)
    rw [show i = a.length + 1 from by omega, ← hll, List.take_length, hll, List.take_of_length_le (by omega : a.length ≤ a.length + 1), List.take_of_length_le hlb, hV] at hv
    have bd := val_bound hlo
    rw [hll] at bd
    have hc : c = 0 := by
      rcases Int.lt_trichotomy c 0 with h | h | h
      · have := Int.mul_le_mul_of_nonneg_right (show c ≤ -1 by omega) (Int.le_of_lt (P_pos (a.length + 1)))
        omega
      · exact h
      · have := Int.mul_le_mul_of_nonneg_right (show 1 ≤ c by omega) (Int.le_of_lt (P_pos (a.length + 1)))
        omega
    have hval : V = val l := by rw [hc] at hv; omega
    refine ⟨r, ?_, by rw [hval]; exact h3⟩
    refine Evt.last fun f => ?_
    show b93_4 a b p q (f93_4 a b p q f) c (i : Int) l = _
    unfold b93_4
    have e0 : ((List.replicate (IntKind.i64.wrap ((a.length : Int) + 1)).toNat (0 : Int)).length : Int) = (a.length : Int) + 1 := by
      rw [wi64 (by omega) (by omega), List.length_replicate]; omega
    rw [cF (by show ¬ (i : Int) < ((List.replicate (IntKind.i64.wrap ((a.length : Int) + 1)).toNat (0 : Int)).length : Int); rw [e0]; omega), h2]; rfl
  | m + 1, i, c, l, hi, hlo, hll, c0, c1, hv => by
    have gx := getD_ok ha i
    have gy := getD_ok hb i
    obtain ⟨u1, u2, u3, u4, u5, u6⟩ := hu.prods gx gy
    have e1 : IntKind.i64.wrap ((i : Int) + 1) = ((i + 1 : Nat) : Int) := by rw [wi64] <;> omega
    have m0 : 0 ≤ (c + (p * a.getD i 0 + q * b.getD i 0)) % 4294967296 := Int.emod_nonneg _ (by decide)
    have m1 : (c + (p * a.getD i 0 + q * b.getD i 0)) % 4294967296 < 4294967296 := Int.emod_lt_of_pos _ (by decide)
    obtain ⟨r, h2, h3⟩ := loop93 ha hb hl hlb hu hV h0 h1 m (i + 1) ((c + (p * a.getD i 0 + q * b.getD i 0)) / 4294967296) (l.set i ((c + (p * a.getD i 0 + q * b.getD i 0)) % 4294967296)) (by omega) (hlo.set i m0 m1) (by simpa using hll) (by omega) (by omega) (by
      rw [val_take_succ _ i (by simp; omega), Limb.getD_set_self _ _ _ (by omega), List.take_set_of_le (Nat.le_refl i), val_take_any a, val_take_any b, P_succ]
      have ee := Int.mul_ediv_add_emod (c + (p * a.getD i 0 + q * b.getD i 0)) 4294967296
      generalize (c + (p * a.getD i 0 + q * b.getD i 0)) / 4294967296 = D at *
      generalize (c + (p * a.getD i 0 + q * b.getD i 0)) % 4294967296 = M at *
      generalize a.getD i 0 = x at *
      generalize b.getD i 0 = y at *
      generalize P i = Q at *
      generalize val (l.take i) = V1 at *
      generalize val (a.take i) = V2 at *
      generalize val (b.take i) = V3 at *
      have h5 : (4294967296 * D + M) * Q = (c + (p * x + q * y)) * Q := by rw [ee]
      grind)
    refine ⟨r, h2.step fun f => ?_, h3⟩
    show b93_4 a b p q (f93_4 a b p q f) c (i : Int) l = _
    unfold b93_4
    have e0 : ((List.replicate (IntKind.i64.wrap ((a.length : Int) + 1)).toNat (0 : Int)).length : Int) = (a.length : Int) + 1 := by
      rw [wi64 (by omega) (by omega), List.length_replicate]; omega
    rw [cT (by show (i : Int) < ((List.replicate (IntKind.i64.wrap ((a.length : Int) + 1)).toNat (0 : Int)).length : Int); rw [e0]; omega)]
    have wx : IntKind.i64.wrap (a.getD i 0) = a.getD i 0 := by rw [wi64] <;> omega
    have wy : IntKind.i64.wrap (b.getD i 0) = b.getD i 0 := by rw [wi64] <;> omega
    have wpx : IntKind.i64.wrap (p * a.getD i 0) = p * a.getD i 0 := by rw [wi64] <;> omega
    have wqy : IntKind.i64.wrap (q * b.getD i 0) = q * b.getD i 0 := by rw [wi64] <;> omega
    have ws : IntKind.i64.wrap (p * a.getD i 0 + q * b.getD i 0) = p * a.getD i 0 + q * b.getD i 0 := by rw [wi64] <;> omega
    have wt : IntKind.i64.wrap (c + (p * a.getD i 0 + q * b.getD i 0)) = c + (p * a.getD i 0 + q * b.getD i 0) := by rw [wi64] <;> omega
    have w0 : IntKind.i64.wrap 0 = 0 := rfl
    by_cases hxa : i < a.length
    · by_cases hyb : i < b.length
      · simp only [Int.toNat_natCast, dflt105, wx, wy, wpx, wqy, ws, wt, e1, shri64, wu32]
        simp (disch := omega) only [cT]
      · have hy0 : b.getD i 0 = 0 := getD_out (by omega)
        simp only [hy0, Int.mul_zero, Int.add_zero] at *
        simp only [Int.toNat_natCast, dflt105, wx, wpx, wt, w0, Int.add_zero, e1, shri64, wu32]
        simp (disch := omega) only [cT, cF]
    · have hx0 : a.getD i 0 = 0 := getD_out (by omega)
      by_cases hyb : i < b.length
      · simp only [hx0, Int.mul_zero, Int.zero_add] at *
        simp only [Int.toNat_natCast, dflt105, wy, wqy, wt, w0, Int.zero_add, e1, shri64, wu32]
        simp (disch := omega) only [cT, cF]
      · have hy0 : b.getD i 0 = 0 := getD_out (by omega)
        simp only [hx0, hy0, Int.mul_zero, Int.add_zero] at *
        simp only [Int.toNat_natCast, dflt105, wt, w0, Int.add_zero, e1, shri64, wu32]
        simp (disch := omega) only [cT, cF]
theorem run93 {a b : List Int} {p q A B V : Int} (ha : Is a A) (hb : Is b B) (hl : a.length ≤ 1073741824) (hlb : b.length ≤ a.length + 1) (hu : Unlike p q) (hV : p * A + q * B = V) (h0 : 0 ≤ V) (h1 : V < P (a.length + 1)) : ∃ r, S93 a b p q = some r ∧ Is r V := by
  have e1 : IntKind.i64.wrap ((a.length : Int) + 1) = (a.length : Int) + 1 := by rw [wi64] <;> omega
  obtain ⟨r, h2, h3⟩ := loop93 ha.ok hb.ok hl hlb hu (by rw [ha.val, hb.val]; exact hV) h0 h1 (a.length + 1) 0 0 (List.replicate (a.length + 1) 0) (by omega) (Ok.replicate _) (by simp) (by omega) (by omega) (by simp [val])
  refine ⟨r, evv_eq (h2.same fun f => ?_), h3⟩
  show b93 a b p q (f93_4 a b p q f) = _
  unfold b93
  have e2 : ((a.length : Int) + 1).toNat = a.length + 1 := by omega
  simp only [e1, e2]
  simp (disch := omega) only [cT]
  rfl
end Go.Abs.Z
namespace Limb
theorem getD_mid (pre W post : List Int) (i : Nat) (h : i < W.length) : (pre ++ (W ++ post)).getD (pre.length + i) 0 = W.getD i 0 := by
  rw [List.getD_eq_getElem?_getD, List.getElem?_append_right (by omega), Nat.add_sub_cancel_left, List.getElem?_append_left h, ← List.getD_eq_getElem?_getD]
theorem set_mid (pre W post : List Int) (i : Nat) (x : Int) (h : i < W.length) : (pre ++ (W ++ post)).set (pre.length + i) x = pre ++ (W.set i x ++ post) := by
  rw [List.set_append_right _ _ (by omega), Nat.add_sub_cancel_left, List.set_append_left _ _ h]
theorem drop_getD {l l' : List Int} {i : Nat} (h : l.drop i = l'.drop i) (j : Nat) (hj : i ≤ j) : l.getD j 0 = l'.getD j 0 := by
  have e : j = i + (j - i) := by omega
  rw [List.getD_eq_getElem?_getD, List.getD_eq_getElem?_getD, e, ← List.getElem?_drop, ← List.getElem?_drop, h]
theorem drop_next {l l' : List Int} {i : Nat} {x : Int} (h : l.drop i = l'.drop i) : (l.set i x).drop (i + 1) = l'.drop (i + 1) := by
  rw [drop_set_lt _ _ _ _ (by omega), ← List.drop_drop, ← List.drop_drop, h]
end Limb
namespace Go.Abs.Z
open Go Go.Abs Limb
theorem loop112_23 {pre post v Y : List Int} {p2 : List Int} {g : Int} (hv : Ok v) (hl : v.length ≤ 1073741824) (hlp : pre.length ≤ 1073741824) (hY : Ok Y) (hYl : Y.length = v.length + 1) (hg : 0 ≤ g) (hg' : g < 4294967296) :
    ∀ (m i : Nat) (c : Int) (W : List Int), i + m = v.length → Ok W → W.length = v.length + 1 → 0 ≤ c → c ≤ 1 → W.drop i = Y.drop i → val (W.take i) + c * P i = val (Y.take i) + val (v.take i) →
    ∃ (Z : List Int) (o : Int), Evt (fun f => f112_23 pre.length (v.length + 1) p2 v f g c (i : Int) (pre ++ (W ++ post))) ((g - 1) % 4294967296, pre ++ (Z ++ post)) ∧ Ok Z ∧ Z.length = v.length + 1 ∧ val Z + o * P (v.length + 1) = val Y + val v
  | 0, i, c, W, hi, hW, hWl, c0, c1, hd, he => by
    have ei : i = v.length := by omega
    subst ei
    rw [List.take_length] at he
    have gy := getD_ok hY v.length
    have eY := drop_getD hd v.length (Nat.le_refl _)
    have m0 : 0 ≤ (Y.getD v.length 0 + c) % 4294967296 := Int.emod_nonneg _ (by decide)
    have m1 : (Y.getD v.length 0 + c) % 4294967296 < 4294967296 := Int.emod_lt_of_pos _ (by decide)
    refine ⟨W.set v.length ((Y.getD v.length 0 + c) % 4294967296), (Y.getD v.length 0 + c) / 4294967296, ?_, hW.set _ m0 m1, by simpa using hWl, ?_⟩
    · refine Evt.last fun f => ?_
      show b112_23 pre.length (v.length + 1) p2 v (f112_7 pre.length (v.length + 1) p2 v f) (f112_12 pre.length (v.length + 1) p2 v f) (f112_23 pre.length (v.length + 1) p2 v f) g c (v.length : Int) (pre ++ (W ++ post)) = _
      unfold b112_23
      have eg : (pre ++ (W ++ post)).getD (pre.length + v.length) 0 = Y.getD v.length 0 := by rw [getD_mid _ _ _ _ (by omega), eY]
      have eS : ∀ x, (pre ++ (W ++ post)).set (pre.length + v.length) x = pre ++ (W.set v.length x ++ post) := fun x => set_mid _ _ _ _ _ (by omega)
      have hlen : pre.length + v.length < (pre ++ (W ++ post)).length := by simp; omega
      simp only [Int.toNat_natCast, dflt105, eg, eS, wu32]
      have ew : (g % 4294967296 - 1) % 4294967296 = (g - 1) % 4294967296 := by omega
      rw [ew]
      simp (disch := omega) only [cT, cF]
    · have ee := Int.mul_ediv_add_emod (Y.getD v.length 0 + c) 4294967296
      have t1 : val (W.set v.length ((Y.getD v.length 0 + c) % 4294967296)) = val (W.take v.length) + ((Y.getD v.length 0 + c) % 4294967296) * P v.length := by
        have h1 := val_take_succ (W.set v.length ((Y.getD v.length 0 + c) % 4294967296)) v.length (by simp; omega)
        rw [List.take_of_length_le (by simp; omega), Limb.getD_set_self _ _ _ (by omega), List.take_set_of_le (Nat.le_refl _)] at h1
        exact h1
      have t2 : val Y = val (Y.take v.length) + Y.getD v.length 0 * P v.length := by
        have h1 := val_take_succ Y v.length (by omega)
        rwa [List.take_of_length_le (by omega)] at h1
      rw [t1, t2, P_succ]
      generalize (Y.getD v.length 0 + c) / 4294967296 = D at *
      generalize (Y.getD v.length 0 + c) % 4294967296 = M at *
      generalize Y.getD v.length 0 = y at *
      generalize P v.length = Q at *
      generalize val (W.take v.length) = V1 at *
      generalize val (Y.take v.length) = V2 at *
      have h5 : (4294967296 * D + M) * Q = (y + c) * Q := by rw [ee]
      grind
  | m + 1, i, c, W, hi, hW, hWl, c0, c1, hd, he => by
    have gy := getD_ok hY i
    have gv := getD_ok hv i
    have eY := drop_getD hd i (Nat.le_refl _)
    have e1 : IntKind.i64.wrap ((i : Int) + 1) = ((i + 1 : Nat) : Int) := by rw [wi64] <;> omega
    have m0 : 0 ≤ (Y.getD i 0 + v.getD i 0 + c) % 4294967296 := Int.emod_nonneg _ (by decide)
    have m1 : (Y.getD i 0 + v.getD i 0 + c) % 4294967296 < 4294967296 := Int.emod_lt_of_pos _ (by decide)
    obtain ⟨Z, o, h2, h3, h4, h5⟩ := loop112_23 (pre := pre) (post := post) (p2 := p2) hv hl hlp hY hYl hg hg' m (i + 1) ((Y.getD i 0 + v.getD i 0 + c) / 4294967296) (W.set i ((Y.getD i 0 + v.getD i 0 + c) % 4294967296)) (by omega) (hW.set i m0 m1) (by simpa using hWl) (by omega) (by omega) (drop_next hd) (by
      rw [val_take_succ _ i (by simp; omega), Limb.getD_set_self _ _ _ (by omega), List.take_set_of_le (Nat.le_refl i), val_take_any Y, val_take_any v, P_succ]
      have ee := Int.mul_ediv_add_emod (Y.getD i 0 + v.getD i 0 + c) 4294967296
      generalize (Y.getD i 0 + v.getD i 0 + c) / 4294967296 = D at *
      generalize (Y.getD i 0 + v.getD i 0 + c) % 4294967296 = M at *
      generalize Y.getD i 0 = x at *
      generalize v.getD i 0 = y at *
      generalize P i = Q at *
      generalize val (W.take i) = V1 at *
      generalize val (Y.take i) = V2 at *
      generalize val (v.take i) = V3 at *
      have h5 : (4294967296 * D + M) * Q = (x + y + c) * Q := by rw [ee]
      grind)
    refine ⟨Z, o, h2.step fun f => ?_, h3, h4, h5⟩
    show b112_23 pre.length (v.length + 1) p2 v (f112_7 pre.length (v.length + 1) p2 v f) (f112_12 pre.length (v.length + 1) p2 v f) (f112_23 pre.length (v.length + 1) p2 v f) g c (i : Int) (pre ++ (W ++ post)) = _
    unfold b112_23
    have eg : (pre ++ (W ++ post)).getD (pre.length + i) 0 = Y.getD i 0 := by rw [getD_mid _ _ _ _ (by omega), eY]
    have eS : ∀ x, (pre ++ (W ++ post)).set (pre.length + i) x = pre ++ (W.set i x ++ post) := fun x => set_mid _ _ _ _ _ (by omega)
    have hlen : pre.length + i < (pre ++ (W ++ post)).length := by simp; omega
    simp only [Int.toNat_natCast, dflt105, eg, eS, e1]
    rw [run128 gy.1 gy.2 gv.1 gv.2 c0 (by omega)]
    simp (disch := omega) only [cT, Option.bind_some]
theorem loop112_12 {pre post v Y : List Int} {p2 : List Int} {g U : Int} (hv : Ok v) (hl : v.length ≤ 1073741824) (hlp : pre.length ≤ 1073741824) (hY : Ok Y) (hYl : Y.length = v.length + 1) (hg : 0 ≤ g) (hg' : g < 4294967296)
    (hU : val Y = U) (b0 : -val v ≤ U - g * val v) (b1 : U - g * val v < val v) (hV : val v < P v.length) :
    ∀ (m i : Nat) (c w : Int) (W : List Int), i + m = v.length → Ok W → W.length = v.length + 1 → 0 ≤ c → c < 4294967296 → (w = 0 ∨ w = 1) → W.drop i = Y.drop i → val (W.take i) + g * val (v.take i) = val (Y.take i) + c * P i + w * P i →
    ∃ (Z : List Int), Evt (fun f => f112_12 pre.length (v.length + 1) p2 v f g c w (i : Int) (pre ++ (W ++ post))) (U / val v, pre ++ (Z ++ post)) ∧ Ok Z ∧ Z.length = v.length + 1 ∧ val Z = U % val v
  | 0, i, c, w, W, hi, hW, hWl, c0, c1, hw, hd, he => by
    have ei : i = v.length := by omega
    subst ei
    rw [List.take_length] at he
    have gy := getD_ok hY v.length
    have eY := drop_getD hd v.length (Nat.le_refl _)
    have m0 : 0 ≤ (Y.getD v.length 0 - c - w) % 4294967296 := Int.emod_nonneg _ (by decide)
    have m1 : (Y.getD v.length 0 - c - w) % 4294967296 < 4294967296 := Int.emod_lt_of_pos _ (by decide)
    have hset : Ok (W.set v.length ((Y.getD v.length 0 - c - w) % 4294967296)) := hW.set _ m0 m1
    have t1 : val (W.set v.length ((Y.getD v.length 0 - c - w) % 4294967296)) = val (W.take v.length) + ((Y.getD v.length 0 - c - w) % 4294967296) * P v.length := by
      have h1 := val_take_succ (W.set v.length ((Y.getD v.length 0 - c - w) % 4294967296)) v.length (by simp; omega)
      rw [List.take_of_length_le (by simp; omega), Limb.getD_set_self _ _ _ (by omega), List.take_set_of_le (Nat.le_refl _)] at h1
      exact h1
    have t2 : val Y = val (Y.take v.length) + Y.getD v.length 0 * P v.length := by
      have h1 := val_take_succ Y v.length (by omega)
      rwa [List.take_of_length_le (by omega)] at h1
    have hb := val_bound hset
    have hlen2 : (W.set v.length ((Y.getD v.length 0 - c - w) % 4294967296)).length = v.length + 1 := by simpa using hWl
    rw [hlen2] at hb
    have hvb := val_bound hv
    have key : val (W.set v.length ((Y.getD v.length 0 - c - w) % 4294967296)) = U - g * val v + (if Y.getD v.length 0 < c + w then 1 else 0) * P (v.length + 1) := by
      rw [t1, ← hU, t2, P_succ]
      have hm : (Y.getD v.length 0 - c - w) % 4294967296 = Y.getD v.length 0 - c - w + (if Y.getD v.length 0 < c + w then 1 else 0) * 4294967296 := by
        split <;> omega
      rw [hm]
      generalize (if Y.getD v.length 0 < c + w then (1 : Int) else 0) = o at *
      generalize Y.getD v.length 0 = y at *
      generalize P v.length = Q at *
      generalize val (W.take v.length) = V1 at *
      generalize val (Y.take v.length) = V2 at *
      generalize val v = V at *
      grind
    generalize hWW : W.set v.length ((Y.getD v.length 0 - c - w) % 4294967296) = WW at *
    have eg : (pre ++ (W ++ post)).getD (pre.length + v.length) 0 = Y.getD v.length 0 := by rw [getD_mid _ _ _ _ (by omega), eY]
    have eS : (pre ++ (W ++ post)).set (pre.length + v.length) ((Y.getD v.length 0 - c - w) % 4294967296) = pre ++ (WW ++ post) := by rw [← hWW]; exact set_mid _ _ _ _ _ (by omega)
    have hlen : pre.length + v.length < (pre ++ (W ++ post)).length := by simp; omega
    have ec : c % 4294967296 = c := by omega
    by_cases hlt : Y.getD v.length 0 < c + w
    · rw [if_pos hlt] at key
      have hneg : U - g * val v < 0 := by omega
      have hP1 := P_mono (show v.length ≤ v.length + 1 by omega)
      obtain ⟨Z, o, h2, h3, h4, h5⟩ := loop112_23 (pre := pre) (post := post) (p2 := p2) hv hl hlp hset hlen2 hg hg' v.length 0 0 WW (by omega) hset hlen2 (by omega) (by omega) rfl (by simp [val])
      have hz := val_bound h3
      rw [h4] at hz
      have ho : o = 1 := by
        rcases Int.lt_trichotomy o 1 with h | h | h
        · have := Int.mul_le_mul_of_nonneg_right (show o ≤ 0 by omega) (Int.le_of_lt (P_pos (v.length + 1)))
          omega
        · exact h
        · have := Int.mul_le_mul_of_nonneg_right (show 2 ≤ o by omega) (Int.le_of_lt (P_pos (v.length + 1)))
          omega
      rw [ho] at h5
      have hq : U = (g - 1) * val v + val Z := by rw [Int.sub_mul]; omega
      have hr0 : 0 ≤ val Z := hz.1
      have hr1 : val Z < val v := by omega
      have hgp : 1 ≤ g := by
        refine Classical.byContradiction fun hg0 => ?_
        have : g = 0 := by omega
        rw [this, Int.zero_mul] at hneg
        have := (val_bound hY).1
        omega
      have e1 : U / val v = g - 1 := by rw [hq, Int.add_comm, Int.add_mul_ediv_right _ _ (by omega), Int.ediv_eq_zero_of_lt hr0 hr1]; omega
      have e2 : U % val v = val Z := by rw [hq, Int.add_comm, Int.add_mul_emod_self_right, Int.emod_eq_of_lt hr0 hr1]
      have eg1 : (g - 1) % 4294967296 = g - 1 := by omega
      rw [eg1] at h2
      refine ⟨Z, ?_, h3, h4, e2.symm⟩
      rw [e1]
      refine h2.step fun f => ?_
      show b112_12 pre.length (v.length + 1) p2 v (f112_7 pre.length (v.length + 1) p2 v f) (f112_12 pre.length (v.length + 1) p2 v f) (f112_23 pre.length (v.length + 1) p2 v f) g c w (v.length : Int) (pre ++ (W ++ post)) = _
      unfold b112_12
      simp only [Int.toNat_natCast, dflt105, eg, wu32, ec]
      rw [run127 gy.1 gy.2 c0 c1 hw, if_pos hlt]
      simp only [Option.bind_some, eS]
      simp (disch := omega) only [cT, cF, cN]
      rfl
    · rw [if_neg hlt, Int.zero_mul, Int.add_zero] at key
      have hq : U = g * val v + val WW := by omega
      have hr0 : 0 ≤ val WW := hb.1
      have hr1 : val WW < val v := by omega
      have e1 : U / val v = g := by rw [hq, Int.add_comm, Int.add_mul_ediv_right _ _ (by omega), Int.ediv_eq_zero_of_lt hr0 hr1]; omega
      have e2 : U % val v = val WW := by rw [hq, Int.add_comm, Int.add_mul_emod_self_right, Int.emod_eq_of_lt hr0 hr1]
      refine ⟨WW, ?_, hset, hlen2, e2.symm⟩
      rw [e1]
      refine Evt.last fun f => ?_
      show b112_12 pre.length (v.length + 1) p2 v (f112_7 pre.length (v.length + 1) p2 v f) (f112_12 pre.length (v.length + 1) p2 v f) (f112_23 pre.length (v.length + 1) p2 v f) g c w (v.length : Int) (pre ++ (W ++ post)) = _
      unfold b112_12
      have eg1 : g % 4294967296 = g := by omega
      simp only [Int.toNat_natCast, dflt105, eg, wu32, ec, eg1]
      rw [run127 gy.1 gy.2 c0 c1 hw, if_neg hlt]
      simp only [Option.bind_some, eS]
      simp (disch := omega) only [cT, cF, cE]
  | m + 1, i, c, w, W, hi, hW, hWl, c0, c1, hw, hd, he => by
    have gy := getD_ok hY i
    have gv := getD_ok hv i
    have eY := drop_getD hd i (Nat.le_refl _)
    have e1 : IntKind.i64.wrap ((i : Int) + 1) = ((i + 1 : Nat) : Int) := by rw [wi64] <;> omega
    have pb := mul_bound hg (show g ≤ 4294967295 by omega) gv.1 (show v.getD i 0 ≤ 4294967295 by omega)
    have ewv : IntKind.u64.wrap (v.getD i 0) = v.getD i 0 := by rw [wu64]; omega
    have ewp : IntKind.u64.wrap (g * v.getD i 0) = g * v.getD i 0 := by rw [wu64]; omega
    have ewt : IntKind.u64.wrap (g * v.getD i 0 + c) = g * v.getD i 0 + c := by rw [wu64]; omega
    have es : shr .u64 (g * v.getD i 0 + c) 32 = (g * v.getD i 0 + c) / 4294967296 := shr64 32 (by decide)
    generalize hpv : g * v.getD i 0 = pv at *
    have y0 : 0 ≤ (pv + c) % 4294967296 := Int.emod_nonneg _ (by decide)
    have y1 : (pv + c) % 4294967296 < 4294967296 := Int.emod_lt_of_pos _ (by decide)
    have m0 : 0 ≤ (Y.getD i 0 - (pv + c) % 4294967296 - w) % 4294967296 := Int.emod_nonneg _ (by decide)
    have m1 : (Y.getD i 0 - (pv + c) % 4294967296 - w) % 4294967296 < 4294967296 := Int.emod_lt_of_pos _ (by decide)
    obtain ⟨Z, h2, h3, h4, h5⟩ := loop112_12 (pre := pre) (post := post) (p2 := p2) hv hl hlp hY hYl hg hg' hU b0 b1 hV m (i + 1) ((pv + c) / 4294967296) (if Y.getD i 0 < (pv + c) % 4294967296 + w then 1 else 0) (W.set i ((Y.getD i 0 - (pv + c) % 4294967296 - w) % 4294967296)) (by omega) (hW.set i m0 m1) (by simpa using hWl) (by omega) (by omega) (by split; exact .inr rfl; exact .inl rfl) (drop_next hd) (by
      rw [val_take_succ _ i (by simp; omega), Limb.getD_set_self _ _ _ (by omega), List.take_set_of_le (Nat.le_refl i), val_take_any Y, val_take_any v, P_succ]
      have hm : (Y.getD i 0 - (pv + c) % 4294967296 - w) % 4294967296 = Y.getD i 0 - (pv + c) % 4294967296 - w + (if Y.getD i 0 < (pv + c) % 4294967296 + w then 1 else 0) * 4294967296 := by
        rcases hw with hw | hw <;> split <;> omega
      rw [hm]
      have ee := Int.mul_ediv_add_emod (pv + c) 4294967296
      generalize (if Y.getD i 0 < (pv + c) % 4294967296 + w then (1 : Int) else 0) = o at *
      generalize (pv + c) / 4294967296 = D at *
      generalize (pv + c) % 4294967296 = M at *
      generalize Y.getD i 0 = x at *
      generalize v.getD i 0 = y at *
      generalize P i = Q at *
      generalize val (W.take i) = V1 at *
      generalize val (Y.take i) = V2 at *
      generalize val (v.take i) = V3 at *
      have h5 : (4294967296 * D + M) * Q = (pv + c) * Q := by rw [ee]
      have h6 : g * y * Q = pv * Q := by rw [hpv]
      grind)
    refine ⟨Z, h2.step fun f => ?_, h3, h4, h5⟩
    show b112_12 pre.length (v.length + 1) p2 v (f112_7 pre.length (v.length + 1) p2 v f) (f112_12 pre.length (v.length + 1) p2 v f) (f112_23 pre.length (v.length + 1) p2 v f) g c w (i : Int) (pre ++ (W ++ post)) = _
    unfold b112_12
    have eg : (pre ++ (W ++ post)).getD (pre.length + i) 0 = Y.getD i 0 := by rw [getD_mid _ _ _ _ (by omega), eY]
    have eS : ∀ x, (pre ++ (W ++ post)).set (pre.length + i) x = pre ++ (W.set i x ++ post) := fun x => set_mid _ _ _ _ _ (by omega)
    have hlen : pre.length + i < (pre ++ (W ++ post)).length := by simp; omega
    simp only [Int.toNat_natCast, dflt105, eg, eS, e1, ewv, hpv, ewp, ewt, es, wu32]
    rw [run127 gy.1 gy.2 y0 y1 hw]
    simp (disch := omega) only [cT, Option.bind_some]
end Go.Abs.Z
namespace Go.Abs.Z
open Go Go.Abs Limb
theorem loop112_7 {pre post v W : List Int} (hv : Ok v) (hW : Ok W) (hn : 2 ≤ v.length) (hl : v.length ≤ 1073741824) (hlp : pre.length ≤ 1073741824) (hWl : W.length = v.length + 1) {top : Int} (R : R112)
    (fin : ∀ g : Int, 0 ≤ g → g < 4294967296 → g * (v.getD (v.length - 1) 0 * 4294967296 + v.getD (v.length - 2) 0) ≤ top * 4294967296 + W.getD (v.length - 2) 0 → (g = 4294967295 ∨ top * 4294967296 + W.getD (v.length - 2) 0 < (g + 1) * (v.getD (v.length - 1) 0 * 4294967296 + v.getD (v.length - 2) 0)) →
      Evt (fun f => f112_12 pre.length (v.length + 1) (pre ++ (W ++ post)) v f g 0 0 0 (pre ++ (W ++ post))) R) :
    ∀ (G : Nat) (g rest : Int), g.toNat = G → 0 ≤ g → g < 4294967296 → 0 ≤ rest → rest < 8589934592 → g * v.getD (v.length - 1) 0 + rest = top → (g = 4294967295 ∨ top * 4294967296 + W.getD (v.length - 2) 0 < (g + 1) * (v.getD (v.length - 1) 0 * 4294967296 + v.getD (v.length - 2) 0)) →
      Evt (fun f => f112_7 pre.length (v.length + 1) (pre ++ (W ++ post)) v f g rest) R := by
  intro G
  induction G with
  | zero => ?_
  | succ G ih => ?_
  all_goals
    intro g rest hG g0 g1 r0 r1 ht hx
    have gv1 := getD_ok hv (v.length - 1)
    have gv2 := getD_ok hv (v.length - 2)
    have gu2 := getD_ok hW (v.length - 2)
    have en1 : IntKind.i64.wrap ((v.length : Int) - 1) = ((v.length - 1 : Nat) : Int) := by rw [wi64] <;> omega
    have en2 : IntKind.i64.wrap ((v.length : Int) - 2) = ((v.length - 2 : Nat) : Int) := by rw [wi64] <;> omega
    have eg : (pre ++ (W ++ post)).getD (pre.length + (v.length - 2)) 0 = W.getD (v.length - 2) 0 := getD_mid _ _ _ _ (by omega)
    have hlen : pre.length + (v.length - 2) < (pre ++ (W ++ post)).length := by simp; omega
    have pb := mul_bound g0 (show g ≤ 4294967295 by omega) gv2.1 (show v.getD (v.length - 2) 0 ≤ 4294967295 by omega)
    have ew2 : IntKind.u64.wrap (v.getD (v.length - 2) 0) = v.getD (v.length - 2) 0 := by rw [wu64]; omega
    have ew1 : IntKind.u64.wrap (v.getD (v.length - 1) 0) = v.getD (v.length - 1) 0 := by rw [wu64]; omega
    have ewu : IntKind.u64.wrap (W.getD (v.length - 2) 0) = W.getD (v.length - 2) 0 := by rw [wu64]; omega
    have ewp : IntKind.u64.wrap (g * v.getD (v.length - 2) 0) = g * v.getD (v.length - 2) 0 := by rw [wu64]; omega
    have split2 : g * (v.getD (v.length - 1) 0 * 4294967296 + v.getD (v.length - 2) 0) = (top - rest) * 4294967296 + g * v.getD (v.length - 2) 0 := by
      have : top - rest = g * v.getD (v.length - 1) 0 := by omega
      rw [this]; grind
    by_cases hr : rest < 4294967296
    · have eor : bits .or .u64 (shl .u64 rest 32) (W.getD (v.length - 2) 0) = rest * 4294967296 + W.getD (v.length - 2) 0 := by
        have es : shl .u64 rest 32 = rest * 2 ^ 32 := by
          refine (shl64 32 (by decide)).trans ?_
          omega
        rw [es]
        exact or_low r0 gu2.1 (by omega) (by omega)
      by_cases hc : rest * 4294967296 + W.getD (v.length - 2) 0 < g * v.getD (v.length - 2) 0
      · -- one less
        have hgp : 0 < g := by
          refine Classical.byContradiction fun hh => ?_
          have : g = 0 := by omega
          rw [this, Int.zero_mul] at hc
          omega
        first
        | (exfalso; omega)
        | (refine (ih (g - 1) (rest + v.getD (v.length - 1) 0) (by omega) (by omega) (by omega) (by omega) (by omega) (by rw [Int.sub_mul]; omega) (.inr (by rw [show g - 1 + 1 = g from by omega, split2]; omega))).step fun f => ?_
           show b112_7 pre.length (v.length + 1) (pre ++ (W ++ post)) v (f112_7 pre.length (v.length + 1) (pre ++ (W ++ post)) v f) (f112_12 pre.length (v.length + 1) (pre ++ (W ++ post)) v f) (f112_23 pre.length (v.length + 1) (pre ++ (W ++ post)) v f) g rest = _
           unfold b112_7
           have e1 : IntKind.u64.wrap (g - 1) = g - 1 := by rw [wu64]; omega
           have e2 : IntKind.u64.wrap (rest + v.getD (v.length - 1) 0) = rest + v.getD (v.length - 1) 0 := by rw [wu64]; omega
           simp only [en1, en2, Int.toNat_natCast, dflt105, eg, ew1, ew2, ewu, ewp, eor, e1, e2]
           simp (disch := omega) only [cT])
      · refine (fin g g0 g1 (by rw [split2]; omega) hx).step fun f => ?_
        show b112_7 pre.length (v.length + 1) (pre ++ (W ++ post)) v (f112_7 pre.length (v.length + 1) (pre ++ (W ++ post)) v f) (f112_12 pre.length (v.length + 1) (pre ++ (W ++ post)) v f) (f112_23 pre.length (v.length + 1) (pre ++ (W ++ post)) v f) g rest = _
        unfold b112_7
        simp only [en1, en2, Int.toNat_natCast, dflt105, eg, ew1, ew2, ewu, ewp, eor]
        simp (disch := omega) only [cT, cF]
    · refine (fin g g0 g1 (by rw [split2]; omega) hx).step fun f => ?_
      show b112_7 pre.length (v.length + 1) (pre ++ (W ++ post)) v (f112_7 pre.length (v.length + 1) (pre ++ (W ++ post)) v f) (f112_12 pre.length (v.length + 1) (pre ++ (W ++ post)) v f) (f112_23 pre.length (v.length + 1) (pre ++ (W ++ post)) v f) g rest = _
      unfold b112_7
      simp (disch := omega) only [cF]
theorem top2 {v : List Int} (hn : 2 ≤ v.length) : val v = (v.getD (v.length - 1) 0 * 4294967296 + v.getD (v.length - 2) 0) * P (v.length - 2) + val (v.take (v.length - 2)) := by
  have h1 := val_take_any v (v.length - 1)
  have h2 := val_take_any v (v.length - 2)
  rw [show v.length - 1 + 1 = v.length from by omega, List.take_length] at h1
  rw [show v.length - 2 + 1 = v.length - 1 from by omega] at h2
  have hp : P (v.length - 1) = 4294967296 * P (v.length - 2) := by rw [← P_succ, show v.length - 2 + 1 = v.length - 1 from by omega]
  rw [h1, h2, hp]
  grind
theorem top3 {v W : List Int} (hn : 2 ≤ v.length) (hWl : W.length = v.length + 1) : val W = ((W.getD v.length 0 * 4294967296 + W.getD (v.length - 1) 0) * 4294967296 + W.getD (v.length - 2) 0) * P (v.length - 2) + val (W.take (v.length - 2)) := by
  have h0 := val_take_any W v.length
  have h1 := val_take_any W (v.length - 1)
  have h2 := val_take_any W (v.length - 2)
  rw [List.take_of_length_le (by omega)] at h0
  rw [show v.length - 1 + 1 = v.length from by omega] at h1
  rw [show v.length - 2 + 1 = v.length - 1 from by omega] at h2
  have hp : P (v.length - 1) = 4294967296 * P (v.length - 2) := by rw [← P_succ, show v.length - 2 + 1 = v.length - 1 from by omega]
  have hp2 : P v.length = 4294967296 * P (v.length - 1) := by rw [← P_succ, show v.length - 1 + 1 = v.length from by omega]
  rw [h0, h1, h2, hp2, hp]
  grind
theorem run112 {pre post v W : List Int} (hv : Ok v) (hW : Ok W) (hn : 2 ≤ v.length) (hl : v.length ≤ 1073741824) (hlp : pre.length ≤ 1073741824) (hWl : W.length = v.length + 1) (htop : 2147483648 ≤ v.getD (v.length - 1) 0) (hU : val W < val v * 4294967296) :
    ∃ Z, S112 pre.length (v.length + 1) (pre ++ (W ++ post)) v = some (val W / val v, pre ++ (Z ++ post)) ∧ Ok Z ∧ Z.length = v.length + 1 ∧ val Z = val W % val v := by
  have gv1 := getD_ok hv (v.length - 1)
  have gv2 := getD_ok hv (v.length - 2)
  have gu0 := getD_ok hW v.length
  have gu1 := getD_ok hW (v.length - 1)
  have gu2 := getD_ok hW (v.length - 2)
  have hvb := val_bound hv
  have hM := P_pos (v.length - 2)
  have hul := val_bound (hW.take (v.length - 2))
  have hvl := val_bound (hv.take (v.length - 2))
  rw [show (W.take (v.length - 2)).length = v.length - 2 from by simp; omega] at hul
  rw [show (v.take (v.length - 2)).length = v.length - 2 from by simp] at hvl
  have eW := top3 hn hWl
  have eV := top2 hn
  have hle : W.getD v.length 0 ≤ v.getD (v.length - 1) 0 := by
    refine Classical.byContradiction fun hh => ?_
    have h1 : v.getD (v.length - 1) 0 + 1 ≤ W.getD v.length 0 := by omega
    have h2 : (v.getD (v.length - 1) 0 * 4294967296 + v.getD (v.length - 2) 0 + 1) * 4294967296 ≤ (W.getD v.length 0 * 4294967296 + W.getD (v.length - 1) 0) * 4294967296 + W.getD (v.length - 2) 0 := by omega
    have h3 := Int.mul_le_mul_of_nonneg_right h2 (Int.le_of_lt hM)
    have h4 : val v * 4294967296 ≤ (v.getD (v.length - 1) 0 * 4294967296 + v.getD (v.length - 2) 0 + 1) * 4294967296 * P (v.length - 2) := by
      rw [eV]
      generalize v.getD (v.length - 1) 0 * 4294967296 + v.getD (v.length - 2) 0 = x at *
      generalize P (v.length - 2) = Q at *
      have : (x + 1) * 4294967296 * Q = (x * Q + Q) * 4294967296 := by grind
      rw [this]; omega
    omega
  have fin : ∀ Wc, Wc = W → ∃ Z, (∀ g : Int, 0 ≤ g → g < 4294967296 → g * (v.getD (v.length - 1) 0 * 4294967296 + v.getD (v.length - 2) 0) ≤ (W.getD v.length 0 * 4294967296 + W.getD (v.length - 1) 0) * 4294967296 + W.getD (v.length - 2) 0 → (g = 4294967295 ∨ (W.getD v.length 0 * 4294967296 + W.getD (v.length - 1) 0) * 4294967296 + W.getD (v.length - 2) 0 < (g + 1) * (v.getD (v.length - 1) 0 * 4294967296 + v.getD (v.length - 2) 0)) →
      Evt (fun f => f112_12 pre.length (v.length + 1) (pre ++ (W ++ post)) v f g 0 0 0 (pre ++ (W ++ post))) (val W / val v, pre ++ (Z ++ post))) ∧ Ok Z ∧ Z.length = v.length + 1 ∧ val Z = val W % val v := by
    intro _ _
    have one : ∀ g : Int, 0 ≤ g → g < 4294967296 → g * (v.getD (v.length - 1) 0 * 4294967296 + v.getD (v.length - 2) 0) ≤ (W.getD v.length 0 * 4294967296 + W.getD (v.length - 1) 0) * 4294967296 + W.getD (v.length - 2) 0 → (g = 4294967295 ∨ (W.getD v.length 0 * 4294967296 + W.getD (v.length - 1) 0) * 4294967296 + W.getD (v.length - 2) 0 < (g + 1) * (v.getD (v.length - 1) 0 * 4294967296 + v.getD (v.length - 2) 0)) →
        ∃ Z, Evt (fun f => f112_12 pre.length (v.length + 1) (pre ++ (W ++ post)) v f g 0 0 0 (pre ++ (W ++ post))) (val W / val v, pre ++ (Z ++ post)) ∧ Ok Z ∧ Z.length = v.length + 1 ∧ val Z = val W % val v := by
      intro g g0 g1 h1 h2
      obtain ⟨b0, b1⟩ := Num.guess_ok (b := 4294967296) (M := P (v.length - 2)) (U := val W) (V := val v) (by decide) hM eW hul.1 hul.2 eV hvl.1 hvl.2 (by omega) hU g0 g1 h1 (h2.imp (fun h => by omega) id)
      exact loop112_12 (pre := pre) (post := post) (p2 := pre ++ (W ++ post)) hv hl hlp hW hWl g0 g1 rfl b0 b1 hvb.2 v.length 0 0 0 W (by omega) hW hWl (by omega) (by omega) (.inl rfl) rfl (by simp [val])
    have hmod0 : 0 ≤ val W % val v := Int.emod_nonneg _ (by
      have := Int.mul_le_mul_of_nonneg_right (show 1 ≤ v.getD (v.length - 1) 0 * 4294967296 + v.getD (v.length - 2) 0 by omega) (Int.le_of_lt hM)
      omega)
    by_cases hex : ∃ g : Int, 0 ≤ g ∧ g < 4294967296 ∧ g * (v.getD (v.length - 1) 0 * 4294967296 + v.getD (v.length - 2) 0) ≤ (W.getD v.length 0 * 4294967296 + W.getD (v.length - 1) 0) * 4294967296 + W.getD (v.length - 2) 0 ∧ (g = 4294967295 ∨ (W.getD v.length 0 * 4294967296 + W.getD (v.length - 1) 0) * 4294967296 + W.getD (v.length - 2) 0 < (g + 1) * (v.getD (v.length - 1) 0 * 4294967296 + v.getD (v.length - 2) 0))
    · obtain ⟨g, g0, g1, h1, h2⟩ := hex
      obtain ⟨Z, z1, z2, z3, z4⟩ := one g g0 g1 h1 h2
      refine ⟨Z, fun g' g0' g1' h1' h2' => ?_, z2, z3, z4⟩
      obtain ⟨Z', y1, y2, y3, y4⟩ := one g' g0' g1' h1' h2'
      have : Z' = Z := val_inj y2 z2 (y3.trans z3.symm) (y4.trans z4.symm)
      rw [this] at y1; exact y1
    · obtain ⟨Z, z1, z2, z3⟩ : ∃ Z : List Int, Ok Z ∧ Z.length = v.length + 1 ∧ val Z = val W % val v := by
        exfalso
        refine hex ?_
        have hvv : 0 < v.getD (v.length - 1) 0 * 4294967296 + v.getD (v.length - 2) 0 := by omega
        generalize v.getD (v.length - 1) 0 * 4294967296 + v.getD (v.length - 2) 0 = d at *
        generalize (W.getD v.length 0 * 4294967296 + W.getD (v.length - 1) 0) * 4294967296 + W.getD (v.length - 2) 0 = u at *
        have u0 : 0 ≤ u := by
          refine Classical.byContradiction fun hh => ?_
          have := Int.mul_le_mul_of_nonneg_right (show u ≤ -1 by omega) (Int.le_of_lt hM)
          have := (val_bound hW).1
          omega
        have q0 := Int.ediv_nonneg u0 (Int.le_of_lt hvv)
        have q1 := Int.ediv_mul_le u (b := d) (by omega)
        have q2 := Int.lt_ediv_add_one_mul_self u hvv
        by_cases hb : u / d < 4294967296
        · exact ⟨u / d, q0, hb, q1, .inr q2⟩
        · refine ⟨4294967295, by decide, by decide, ?_, .inl rfl⟩
          have := Int.mul_le_mul_of_nonneg_right (show 4294967295 ≤ u / d by omega) (Int.le_of_lt hvv)
          omega
      exact ⟨Z, fun g g0 g1 h1 h2 => absurd ⟨g, g0, g1, h1, h2⟩ hex, z1, z2, z3⟩
  obtain ⟨Z, f1, z1, z2, z3⟩ := fin W rfl
  refine ⟨Z, evv_eq ?_, z1, z2, z3⟩
  have l7 := loop112_7 (pre := pre) (post := post) hv hW hn hl hlp hWl (top := W.getD v.length 0 * 4294967296 + W.getD (v.length - 1) 0) _ f1
  have en1 : IntKind.i64.wrap ((v.length : Int) - 1) = ((v.length - 1 : Nat) : Int) := by rw [wi64] <;> omega
  have eg0 : (pre ++ (W ++ post)).getD (pre.length + v.length) 0 = W.getD v.length 0 := getD_mid _ _ _ _ (by omega)
  have eg1 : (pre ++ (W ++ post)).getD (pre.length + (v.length - 1)) 0 = W.getD (v.length - 1) 0 := getD_mid _ _ _ _ (by omega)
  have hlen : pre.length + v.length < (pre ++ (W ++ post)).length := by simp; omega
  have ew0 : IntKind.u64.wrap (W.getD v.length 0) = W.getD v.length 0 := by rw [wu64]; omega
  have ew1 : IntKind.u64.wrap (W.getD (v.length - 1) 0) = W.getD (v.length - 1) 0 := by rw [wu64]; omega
  have ewv : IntKind.u64.wrap (v.getD (v.length - 1) 0) = v.getD (v.length - 1) 0 := by rw [wu64]; omega
  have eor : bits .or .u64 (shl .u64 (W.getD v.length 0) 32) (W.getD (v.length - 1) 0) = W.getD v.length 0 * 4294967296 + W.getD (v.length - 1) 0 := by
    have es : shl .u64 (W.getD v.length 0) 32 = W.getD v.length 0 * 2 ^ 32 := by
      refine (shl64 32 (by decide)).trans ?_
      omega
    rw [es]
    exact or_low gu0.1 gu1.1 (by omega) (by omega)
  by_cases hlt : W.getD v.length 0 < v.getD (v.length - 1) 0
  · have t0 : 0 ≤ W.getD v.length 0 * 4294967296 + W.getD (v.length - 1) 0 := by omega
    have d0 := Int.ediv_nonneg t0 gv1.1
    have d1 : (W.getD v.length 0 * 4294967296 + W.getD (v.length - 1) 0) / v.getD (v.length - 1) 0 < 4294967296 := Int.ediv_lt_of_lt_mul (by omega) (by omega)
    have m0 : 0 ≤ (W.getD v.length 0 * 4294967296 + W.getD (v.length - 1) 0) % v.getD (v.length - 1) 0 := Int.emod_nonneg _ (by omega)
    have m1 : (W.getD v.length 0 * 4294967296 + W.getD (v.length - 1) 0) % v.getD (v.length - 1) 0 < v.getD (v.length - 1) 0 := Int.emod_lt_of_pos _ (by omega)
    have ee := Int.mul_ediv_add_emod (W.getD v.length 0 * 4294967296 + W.getD (v.length - 1) 0) (v.getD (v.length - 1) 0)
    refine (l7 _ ((W.getD v.length 0 * 4294967296 + W.getD (v.length - 1) 0) / v.getD (v.length - 1) 0) ((W.getD v.length 0 * 4294967296 + W.getD (v.length - 1) 0) % v.getD (v.length - 1) 0) rfl d0 d1 m0 (by omega) (by rw [Int.mul_comm]; exact ee) (.inr ?_)).same fun f => ?_
    · have h1 := Int.lt_ediv_add_one_mul_self (W.getD v.length 0 * 4294967296 + W.getD (v.length - 1) 0) (b := v.getD (v.length - 1) 0) (by omega)
      have h2 := mul_bound (p := (W.getD v.length 0 * 4294967296 + W.getD (v.length - 1) 0) / v.getD (v.length - 1) 0 + 1) (M := 4294967296) (by omega) (by omega) gv2.1 (show v.getD (v.length - 2) 0 ≤ 4294967295 by omega)
      generalize (W.getD v.length 0 * 4294967296 + W.getD (v.length - 1) 0) / v.getD (v.length - 1) 0 = D at *
      have h3 : (D + 1) * (v.getD (v.length - 1) 0 * 4294967296 + v.getD (v.length - 2) 0) = (D + 1) * v.getD (v.length - 1) 0 * 4294967296 + (D + 1) * v.getD (v.length - 2) 0 := by grind
      rw [h3]; omega
    · show b112 pre.length (v.length + 1) (pre ++ (W ++ post)) v _ _ _ = _
      unfold b112
      have et : (W.getD v.length 0 * 4294967296 + W.getD (v.length - 1) 0).tdiv (v.getD (v.length - 1) 0) = (W.getD v.length 0 * 4294967296 + W.getD (v.length - 1) 0) / v.getD (v.length - 1) 0 := Int.tdiv_eq_ediv_of_nonneg t0
      have em : (W.getD v.length 0 * 4294967296 + W.getD (v.length - 1) 0).tmod (v.getD (v.length - 1) 0) = (W.getD v.length 0 * 4294967296 + W.getD (v.length - 1) 0) % v.getD (v.length - 1) 0 := Int.tmod_eq_emod_of_nonneg t0
      have ewd : IntKind.u64.wrap ((W.getD v.length 0 * 4294967296 + W.getD (v.length - 1) 0) / v.getD (v.length - 1) 0) = (W.getD v.length 0 * 4294967296 + W.getD (v.length - 1) 0) / v.getD (v.length - 1) 0 := by rw [wu64]; omega
      simp only [en1, Int.toNat_natCast, dflt105, eg0, eg1, ew0, ew1, ewv, eor, et, em, ewd]
      simp (disch := omega) only [cT, cF]
  · have heq : W.getD v.length 0 = v.getD (v.length - 1) 0 := by omega
    refine (l7 _ 4294967295 (v.getD (v.length - 1) 0 + W.getD (v.length - 1) 0) rfl (by decide) (by decide) (by omega) (by omega) (by rw [heq]; omega) (.inl rfl)).same fun f => ?_
    show b112 pre.length (v.length + 1) (pre ++ (W ++ post)) v _ _ _ = _
    unfold b112
    have e1 : IntKind.u64.wrap (W.getD v.length 0 * 4294967296 + W.getD (v.length - 1) 0 - IntKind.u64.wrap (4294967295 * v.getD (v.length - 1) 0)) = v.getD (v.length - 1) 0 + W.getD (v.length - 1) 0 := by
      rw [wu64, wu64, heq]; omega
    simp only [en1, Int.toNat_natCast, dflt105, eg0, eg1, ew0, ew1, ewv, eor, e1]
    simp (disch := omega) only [cT, cF]
end Go.Abs.Z
namespace Go.Abs.Z
open Go Go.Abs Go.Proofs
noncomputable section
abbrev R91 : Type := Int × Int × Int × (Int)
noncomputable def body91 : Go.Code := (Try.f91.body).getD Go.Code.skip
def h91 (p0 p1 : TI) : List (AO U) := []
def k91 : AV U → List (AO U) → Option R91 := fun v h => match v, h with | AV.tup [AV.int IntKind.i64 x0, AV.int IntKind.i64 x1, AV.int IntKind.i64 x2, AV.int IntKind.i64 x3], [] => some (x0, x1, x2, x3) | _, _ => none
def out91 : R91 → AV U := fun (x0, x1, x2, x3) => AV.tup [AV.int IntKind.i64 x0, AV.int IntKind.i64 x1, AV.int IntKind.i64 x2, AV.int IntKind.i64 x3]
def outh91 : R91 → List (AO U) := fun (x0, x1, x2, x3) => []
def D91 : Nat → Dir := dirs [(4, ⟨[9, 10, 11, 12, 13, 14], [], [], []⟩)]
def b91 (p0 p1 : TI) (c4 : (Int) → Int → (Int) → Int → (Int) → Int → Option R91)  : Option R91 :=
  (S107 p0).bind fun r0 =>
  (S108 p0 (bif true then List.foldl imax 0 [IntKind.i64.wrap (r0 - 62)] else List.foldl imin 0 [IntKind.i64.wrap (r0 - 62)])).bind fun r1 =>
  (S108 p1 (bif true then List.foldl imax 0 [IntKind.i64.wrap (r0 - 62)] else List.foldl imin 0 [IntKind.i64.wrap (r0 - 62)])).bind fun r2 =>
  c4 (r1) (r2) (1) (0) (0) (1)
def m91_4 (p0 p1 : TI) (v0 v1 v2 v3 v4 v5 : Int) : S U := S.mk [AV.undef, AV.undef, AV.undef, AV.undef, AV.undef, AV.undef, AV.undef, AV.undef, AV.undef, AV.int IntKind.i64 v0, AV.int IntKind.i64 v1, AV.int IntKind.i64 v2, AV.int IntKind.i64 v3, AV.int IntKind.i64 v4, AV.int IntKind.i64 v5, AV.undef, AV.undef, AV.undef, AV.undef, AV.undef, AV.undef, AV.undef, AV.undef, AV.undef, AV.undef, AV.undef, AV.undef, AV.undef, AV.undef, AV.undef, AV.undef, AV.undef, AV.undef, AV.undef, AV.undef, AV.undef, AV.undef, AV.undef, AV.undef, AV.undef, AV.undef, AV.undef, AV.undef, AV.undef, AV.undef, AV.undef, AV.undef, AV.undef, AV.undef, AV.undef, AV.undef, AV.undef, AV.undef, AV.undef, AV.undef, AV.undef, AV.undef, AV.undef, AV.undef, AV.undef, AV.undef, AV.undef, AV.undef, AV.undef, AV.undef, AV.undef, AV.undef, AV.undef, AV.undef, AV.undef, AV.undef, AV.undef, AV.undef, AV.undef, AV.undef, AV.undef, AV.undef, AV.undef, AV.undef, AV.undef, AV.undef, AV.undef, AV.undef, AV.undef, AV.undef, AV.undef] []
def b91_4 (p0 p1 : TI) (c4 : (Int) → Int → (Int) → Int → (Int) → Int → Option R91) (v0 v1 v2 v3 v4 v5 : Int) : Option R91 :=
  cond (IntKind.i64.wrap (v1 + v4) != 0)
  (cond (IntKind.i64.wrap (v1 + v5) != 0)
  (cond (decide (IntKind.i64.wrap (v1 + v4) = 0))
  (none)
  (cond (decide (IntKind.i64.wrap (v1 + v5) = 0))
  (none)
  (cond (IntKind.i64.wrap ((IntKind.i64.wrap (v0 + v2)).tdiv (IntKind.i64.wrap (v1 + v4))) != IntKind.i64.wrap ((IntKind.i64.wrap (v0 + v3)).tdiv (IntKind.i64.wrap (v1 + v5))))
  (some ((v2, v3, v4, v5)))
  (cond (decide ((bif true then List.foldl imax (IntKind.i64.wrap (v2 - IntKind.i64.wrap (IntKind.i64.wrap ((IntKind.i64.wrap (v0 + v2)).tdiv (IntKind.i64.wrap (v1 + v4))) * v4))) [IntKind.i64.wrap (0 - IntKind.i64.wrap (v2 - IntKind.i64.wrap (IntKind.i64.wrap ((IntKind.i64.wrap (v0 + v2)).tdiv (IntKind.i64.wrap (v1 + v4))) * v4))), IntKind.i64.wrap (v3 - IntKind.i64.wrap (IntKind.i64.wrap ((IntKind.i64.wrap (v0 + v2)).tdiv (IntKind.i64.wrap (v1 + v4))) * v5)), IntKind.i64.wrap (0 - IntKind.i64.wrap (v3 - IntKind.i64.wrap (IntKind.i64.wrap ((IntKind.i64.wrap (v0 + v2)).tdiv (IntKind.i64.wrap (v1 + v4))) * v5)))] else List.foldl imin (IntKind.i64.wrap (v2 - IntKind.i64.wrap (IntKind.i64.wrap ((IntKind.i64.wrap (v0 + v2)).tdiv (IntKind.i64.wrap (v1 + v4))) * v4))) [IntKind.i64.wrap (0 - IntKind.i64.wrap (v2 - IntKind.i64.wrap (IntKind.i64.wrap ((IntKind.i64.wrap (v0 + v2)).tdiv (IntKind.i64.wrap (v1 + v4))) * v4))), IntKind.i64.wrap (v3 - IntKind.i64.wrap (IntKind.i64.wrap ((IntKind.i64.wrap (v0 + v2)).tdiv (IntKind.i64.wrap (v1 + v4))) * v5)), IntKind.i64.wrap (0 - IntKind.i64.wrap (v3 - IntKind.i64.wrap (IntKind.i64.wrap ((IntKind.i64.wrap (v0 + v2)).tdiv (IntKind.i64.wrap (v1 + v4))) * v5)))]) ≥ 2147483648))
  (some ((v2, v3, v4, v5)))
  (c4 (v1) (IntKind.i64.wrap (v0 - IntKind.i64.wrap (IntKind.i64.wrap ((IntKind.i64.wrap (v0 + v2)).tdiv (IntKind.i64.wrap (v1 + v4))) * v1))) (v4) (v5) (IntKind.i64.wrap (v2 - IntKind.i64.wrap (IntKind.i64.wrap ((IntKind.i64.wrap (v0 + v2)).tdiv (IntKind.i64.wrap (v1 + v4))) * v4))) (IntKind.i64.wrap (v3 - IntKind.i64.wrap (IntKind.i64.wrap ((IntKind.i64.wrap (v0 + v2)).tdiv (IntKind.i64.wrap (v1 + v4))) * v5))))))))
  (some ((v2, v3, v4, v5))))
  (some ((v2, v3, v4, v5)))
theorem hk91 : ∀ v h' r, k91 v h' = some r → v = out91 r ∧ h' = outh91 r := by
  intro v h' r h
  unfold k91 at h
  split at h
  · injection h with h; subst h; exact ⟨rfl, rfl⟩
  · cases h
abbrev q91 : Prim U R91 := prims X [⟨107, fun _ => true, [.lend], F107 S107⟩, ⟨108, fun _ => true, [.lend], F108 S108⟩]
theorem s91 (c : Nat → S U → Option R91) (p0 p1 : TI) : seg TP X q91 [4] (fun q st => c q (keepD D91 (h91 p0 p1).length q st)) body91 (finH TP Try.f91.results.toList (h91 p0 p1).length false k91) (start [.imm 105 p0, .imm 105 p1] Try.f91.ntmps (h91 p0 p1)) = b91 p0 p1 (fun v0 v1 v2 v3 v4 v5 => c 4 (m91_4 p0 p1 v0 v1 v2 v3 v4 v5)) := by kernel_rfl
theorem s91_4 (c : Nat → S U → Option R91) (p0 p1 : TI) (v0 v1 v2 v3 v4 v5 : Int) : res TP X q91 [4] (fun q st => c q (keepD D91 (h91 p0 p1).length q st)) 4 body91 (finH TP Try.f91.results.toList (h91 p0 p1).length false k91) (m91_4 p0 p1 v0 v1 v2 v3 v4 v5) = b91_4 p0 p1 (fun v0 v1 v2 v3 v4 v5 => c 4 (m91_4 p0 p1 v0 v1 v2 v3 v4 v5)) v0 v1 v2 v3 v4 v5 := by kernel_rfl
def f91_4 (p0 p1 : TI) : Nat → Int → (Int) → Int → (Int) → Int → (Int) → Option R91
  | 0 => fun _ _ _ _ _ _ => none
  | k + 1 => b91_4 p0 p1 (f91_4 p0 p1 k)
def f91 (k : Nat) (p0 p1 : TI) : Option R91 := b91 p0 p1 (f91_4 p0 p1 k)
theorem e91 (p0 p1 : TI) : ∀ k, ((fun v0 v1 v2 v3 v4 v5 => cutG TP X q91 [4] D91 (h91 p0 p1).length body91 (finH TP Try.f91.results.toList (h91 p0 p1).length false k91) k 4 (m91_4 p0 p1 v0 v1 v2 v3 v4 v5)) = f91_4 p0 p1 k)
  | 0 => rfl
  | k + 1 => by
    have ih := e91 p0 p1 k
    · funext v0 v1 v2 v3 v4 v5
      refine (if_pos (by kernel_rfl)).trans ?_
      rw [s91_4]
      simp only [ih]
      rfl
theorem pure91 (p0 p1 : TI) (pok : PrmOK TP X q91) (k : Nat) (r : R91) (h : f91 k p0 p1 = some r) : PureH TP X 91 [.imm 105 p0, .imm 105 p1] (h91 p0 p1) (out91 r) (outh91 r) :=
  pure_gen good k (fn := Try.f91) (body := body91) (prim := q91) (D := D91) (cuts := [4]) (h := h91 p0 p1) (own := false) (by kernel_rfl) (by kernel_rfl) (by decide +kernel) pok hk91 (by
    rw [s91]
    have ih := e91 p0 p1 k
    simp only [ih]
    exact h)
def F91 {R : Type} (spec : TI → TI → Option R91) : Fn U R := fun args h k => match args, h with | [.imm 105 p0, .imm 105 p1], [] => (spec p0 p1).bind fun r => k (out91 r) (outh91 r) | _, _ => none
theorem ok91 {R : Type} (spec : TI → TI → Option R91) (hp : ∀ (p0 : TI) (p1 : TI) (r : R91), spec p0 p1 = some r → PureH TP X 91 [.imm 105 p0, .imm 105 p1] (h91 p0 p1) (out91 r) (outh91 r)) : FnOK TP X 91 (F91 spec : Fn U R) := by
  intro args h k r hh
  unfold F91 at hh
  split at hh
  · obtain ⟨x, h1, h2⟩ := Option.bind_eq_some_iff.1 hh
    exact ⟨_, _, h2, hp _ _ _ h1⟩
  · cases hh
theorem pok91 : PrmOK TP X q91 := prims_cons good okS107 (prims_cons good okS108 (prims_nil TP X mixed))
noncomputable def S91 (p0 p1 : TI) : Option R91 := evv fun k => f91 k p0 p1
theorem okS91 {R : Type} : FnOK TP X 91 (F91 S91 : Fn U R) := ok91 S91 fun p0 p1 r h => by
  obtain ⟨k, hk⟩ := evv_fuel h
  exact pure91 p0 p1 pok91 k r hk
abbrev R92 : Type := TI × TI
noncomputable def body92 : Go.Code := (Try.f92.body).getD Go.Code.skip
def h92 (p0 p1 : TI) : List (AO U) := []
def k92 : AV U → List (AO U) → Option R92 := fun v h => match v, h with | AV.tup [AV.imm 105 x0, AV.imm 105 x1], [] => some (x0, x1) | _, _ => none
def out92 : R92 → AV U := fun (x0, x1) => AV.tup [AV.imm 105 x0, AV.imm 105 x1]
def outh92 : R92 → List (AO U) := fun (x0, x1) => []
def D92 : Nat → Dir := dirs [(14, ⟨[8, 9, 10, 11, 12, 13], [], [], []⟩)]
def b92 (p0 p1 : TI) (c14 : (Int) → Int → (Int) → TI → TI → TI → Option R92)  : Option R92 :=
  (S90 p0 p1).bind fun r0 =>
  cond (decide (r0 < 0))
  (cond (decide ((0 + p0.length) * 4 ≤ 140737488355328))
  (some (([], [] ++ p0)))
  (none))
  (cond ((↑p1.length : Int) == 1)
  (cond (decide (0 < (↑p1.length : Int)))
  (cond (decide (Int.toNat 0 < p1.length))
  ((S109 p0 (p1.getD (Int.toNat 0) (X.dflt 105))).bind fun r1 =>
  (S95 (IntKind.u64.wrap r1.snd)).bind fun r2 =>
  some ((r1.fst, r2)))
  (none))
  (none))
  (cond (decide (0 ≤ IntKind.i64.wrap ((↑p1.length : Int) - 1)))
  (cond (decide (IntKind.i64.wrap ((↑p1.length : Int) - 1) < (↑p1.length : Int)))
  (cond (decide ((IntKind.i64.wrap ((↑p1.length : Int) - 1)).toNat < p1.length))
  ((S110 (p1.getD (IntKind.i64.wrap ((↑p1.length : Int) - 1)).toNat (X.dflt 105))).bind fun r3 =>
  (S111 p1 r3).bind fun r4 =>
  (S111 p0 r3).bind fun r5 =>
  cond (decide ((List.length r5 + 1) * 4 ≤ 140737488355328))
  (cond ((↑(r5 ++ [0]).length : Int) == (↑p0.length : Int))
  (cond (decide (((r5 ++ [0]).length + 1) * 4 ≤ 140737488355328))
  (cond (decide (0 ≤ IntKind.i64.wrap ((↑(r5 ++ [0] ++ [0]).length : Int) - (↑(List.length r4) : Int))))
  (cond (decide (IntKind.i64.wrap ((↑(r5 ++ [0] ++ [0]).length : Int) - (↑(List.length r4) : Int)) ≤ IntKind.i64.wrap ((↑(r5 ++ [0] ++ [0]).length : Int) - (↑(List.length r4) : Int))))
  (cond (decide (IntKind.i64.wrap ((↑(r5 ++ [0] ++ [0]).length : Int) - (↑(List.length r4) : Int)) * (↑4 : Int) ≤ 140737488355328))
  (c14 (r3) ((↑(List.length r4) : Int)) (IntKind.i64.wrap (IntKind.i64.wrap ((↑(r5 ++ [0] ++ [0]).length : Int) - (↑(List.length r4) : Int)) - 1)) (r4) (r5 ++ [0] ++ [0]) (repI (IntKind.i64.wrap ((↑(r5 ++ [0] ++ [0]).length : Int) - (↑(List.length r4) : Int))).toNat 0))
  (none))
  (none))
  (none))
  (none))
  (cond (decide (0 ≤ IntKind.i64.wrap ((↑(r5 ++ [0]).length : Int) - (↑(List.length r4) : Int))))
  (cond (decide (IntKind.i64.wrap ((↑(r5 ++ [0]).length : Int) - (↑(List.length r4) : Int)) ≤ IntKind.i64.wrap ((↑(r5 ++ [0]).length : Int) - (↑(List.length r4) : Int))))
  (cond (decide (IntKind.i64.wrap ((↑(r5 ++ [0]).length : Int) - (↑(List.length r4) : Int)) * (↑4 : Int) ≤ 140737488355328))
  (c14 (r3) ((↑(List.length r4) : Int)) (IntKind.i64.wrap (IntKind.i64.wrap ((↑(r5 ++ [0]).length : Int) - (↑(List.length r4) : Int)) - 1)) (r4) (r5 ++ [0]) (repI (IntKind.i64.wrap ((↑(r5 ++ [0]).length : Int) - (↑(List.length r4) : Int))).toNat 0))
  (none))
  (none))
  (none)))
  (none))
  (none))
  (none))
  (none)))
def m92_14 (p0 p1 : TI) (v0 v1 v2 : Int) (v3 v4 v5 : TI) : S U := S.mk [AV.undef, AV.undef, AV.undef, AV.undef, AV.undef, AV.undef, AV.undef, AV.undef, AV.int IntKind.i64 v0, AV.row 0 105, AV.row 1 105, AV.int IntKind.i64 v1, AV.row 2 105, AV.int IntKind.i64 v2, AV.undef, AV.undef, AV.undef, AV.undef, AV.undef, AV.undef, AV.undef, AV.undef, AV.undef, AV.undef, AV.undef, AV.undef, AV.undef, AV.undef, AV.undef, AV.undef, AV.undef, AV.undef, AV.undef, AV.undef, AV.undef, AV.undef, AV.undef, AV.undef, AV.undef, AV.undef, AV.undef, AV.undef, AV.undef, AV.undef, AV.undef, AV.undef, AV.undef, AV.undef, AV.undef, AV.undef, AV.undef, AV.undef, AV.undef, AV.undef, AV.undef, AV.undef, AV.undef, AV.undef, AV.undef, AV.undef, AV.undef, AV.undef, AV.undef, AV.undef, AV.undef, AV.undef, AV.undef, AV.undef, AV.undef, AV.undef, AV.undef, AV.undef, AV.undef, AV.undef, AV.undef, AV.undef, AV.undef, AV.undef, AV.undef, AV.undef, AV.undef, AV.undef, AV.undef, AV.undef, AV.undef, AV.undef, AV.undef, AV.undef, AV.undef, AV.undef, AV.undef, AV.undef, AV.undef, AV.undef] [AO.row 105 v3, AO.row 105 v4, AO.row 105 v5]
def b92_14 (p0 p1 : TI) (c14 : (Int) → Int → (Int) → TI → TI → TI → Option R92) (v0 v1 v2 : Int) (v3 v4 v5 : TI) : Option R92 :=
  cond (decide (v2 ≥ 0))
  (cond (decide (0 ≤ v2))
  (cond (decide (v2 ≤ IntKind.i64.wrap (IntKind.i64.wrap (v2 + v1) + 1)))
  (cond (decide (IntKind.i64.wrap (IntKind.i64.wrap (v2 + v1) + 1) ≤ (↑v4.length : Int)))
  ((S112 v2.toNat ((IntKind.i64.wrap (IntKind.i64.wrap (v2 + v1) + 1)).toNat - v2.toNat) v4 v3).bind fun r0 =>
  cond (decide (0 ≤ v2))
  (cond (decide (v2 < (↑v5.length : Int)))
  (cond (decide (v2.toNat < v5.length))
  (c14 (v0) (v1) (IntKind.i64.wrap (v2 - 1)) (v3) (r0.snd) (v5.set v2.toNat r0.fst))
  (none))
  (none))
  (none))
  (none))
  (none))
  (none))
  ((S113 v5).bind fun r1 =>
  cond (decide (0 ≤ v1))
  (cond (decide (v1 ≤ (↑v4.length : Int)))
  ((S113 (List.take (v1.toNat - 0) (List.drop 0 v4))).bind fun r2 =>
  (S114 r2 v0).bind fun r3 =>
  some ((r1, r3)))
  (none))
  (none))
theorem hk92 : ∀ v h' r, k92 v h' = some r → v = out92 r ∧ h' = outh92 r := by
  intro v h' r h
  unfold k92 at h
  split at h
  · injection h with h; subst h; exact ⟨rfl, rfl⟩
  · cases h
abbrev q92 : Prim U R92 := prims X [⟨90, fun _ => true, [.lend, .lend], F90 S90⟩, ⟨95, fun _ => true, [], F95 S95⟩, ⟨109, fun _ => true, [.lend], F109 S109⟩, ⟨110, fun _ => true, [], F110 S110⟩, ⟨111, fun _ => true, [.lend], F111 S111⟩, ⟨112, fun _ => true, [.hand, .lend], F112 S112⟩, ⟨113, fun _ => true, [.frz], F113 S113⟩, ⟨114, fun _ => true, [.frz], F114 S114⟩]
theorem s92 (c : Nat → S U → Option R92) (p0 p1 : TI) : seg TP X q92 [14] (fun q st => c q (keepD D92 (h92 p0 p1).length q st)) body92 (finH TP Try.f92.results.toList (h92 p0 p1).length false k92) (start [.imm 105 p0, .imm 105 p1] Try.f92.ntmps (h92 p0 p1)) = b92 p0 p1 (fun v0 v1 v2 v3 v4 v5 => c 14 (m92_14 p0 p1 v0 v1 v2 v3 v4 v5)) := by kernel_rfl
theorem s92_14 (c : Nat → S U → Option R92) (p0 p1 : TI) (v0 v1 v2 : Int) (v3 v4 v5 : TI) : res TP X q92 [14] (fun q st => c q (keepD D92 (h92 p0 p1).length q st)) 14 body92 (finH TP Try.f92.results.toList (h92 p0 p1).length false k92) (m92_14 p0 p1 v0 v1 v2 v3 v4 v5) = b92_14 p0 p1 (fun v0 v1 v2 v3 v4 v5 => c 14 (m92_14 p0 p1 v0 v1 v2 v3 v4 v5)) v0 v1 v2 v3 v4 v5 := by kernel_rfl
def f92_14 (p0 p1 : TI) : Nat → Int → (Int) → Int → TI → TI → TI → Option R92
  | 0 => fun _ _ _ _ _ _ => none
  | k + 1 => b92_14 p0 p1 (f92_14 p0 p1 k)
def f92 (k : Nat) (p0 p1 : TI) : Option R92 := b92 p0 p1 (f92_14 p0 p1 k)
theorem e92 (p0 p1 : TI) : ∀ k, ((fun v0 v1 v2 v3 v4 v5 => cutG TP X q92 [14] D92 (h92 p0 p1).length body92 (finH TP Try.f92.results.toList (h92 p0 p1).length false k92) k 14 (m92_14 p0 p1 v0 v1 v2 v3 v4 v5)) = f92_14 p0 p1 k)
  | 0 => rfl
  | k + 1 => by
    have ih := e92 p0 p1 k
    · funext v0 v1 v2 v3 v4 v5
      refine (if_pos (by kernel_rfl)).trans ?_
      rw [s92_14]
      simp only [ih]
      rfl
theorem pure92 (p0 p1 : TI) (pok : PrmOK TP X q92) (k : Nat) (r : R92) (h : f92 k p0 p1 = some r) : PureH TP X 92 [.imm 105 p0, .imm 105 p1] (h92 p0 p1) (out92 r) (outh92 r) :=
  pure_gen good k (fn := Try.f92) (body := body92) (prim := q92) (D := D92) (cuts := [14]) (h := h92 p0 p1) (own := false) (by kernel_rfl) (by kernel_rfl) (by decide +kernel) pok hk92 (by
    rw [s92]
    have ih := e92 p0 p1 k
    simp only [ih]
    exact h)
def F92 {R : Type} (spec : TI → TI → Option R92) : Fn U R := fun args h k => match args, h with | [.imm 105 p0, .imm 105 p1], [] => (spec p0 p1).bind fun r => k (out92 r) (outh92 r) | _, _ => none
theorem ok92 {R : Type} (spec : TI → TI → Option R92) (hp : ∀ (p0 : TI) (p1 : TI) (r : R92), spec p0 p1 = some r → PureH TP X 92 [.imm 105 p0, .imm 105 p1] (h92 p0 p1) (out92 r) (outh92 r)) : FnOK TP X 92 (F92 spec : Fn U R) := by
  intro args h k r hh
  unfold F92 at hh
  split at hh
  · obtain ⟨x, h1, h2⟩ := Option.bind_eq_some_iff.1 hh
    exact ⟨_, _, h2, hp _ _ _ h1⟩
  · cases hh
theorem pok92 : PrmOK TP X q92 := prims_cons good okS90 (prims_cons good okS95 (prims_cons good okS109 (prims_cons good okS110 (prims_cons good okS111 (prims_cons good okS112 (prims_cons good okS113 (prims_cons good okS114 (prims_nil TP X mixed))))))))
noncomputable def S92 (p0 p1 : TI) : Option R92 := evv fun k => f92 k p0 p1
theorem okS92 {R : Type} : FnOK TP X 92 (F92 S92 : Fn U R) := ok92 S92 fun p0 p1 r h => by
  obtain ⟨k, hk⟩ := evv_fuel h
  exact pure92 p0 p1 pok92 k r hk
abbrev R97 : Type := TI × (Int)
noncomputable def body97 : Go.Code := (Try.f97.body).getD Go.Code.skip
def h97 (p0 : TI) (p1 : Int) : List (AO U) := []
def k97 : AV U → List (AO U) → Option R97 := fun v h => match v, h with | AV.tup [AV.imm 105 x0, AV.int IntKind.i64 x1], [] => some (x0, x1) | _, _ => none
def out97 : R97 → AV U := fun (x0, x1) => AV.tup [AV.imm 105 x0, AV.int IntKind.i64 x1]
def outh97 : R97 → List (AO U) := fun (x0, x1) => []
def D97 : Nat → Dir := dirs [(7, ⟨[0, 1, 6, 7], [(6, none)], [], []⟩)]
def b97 (p0 : TI) (p1 : Int) (c7 : (Int) → TI → Option R97)  : Option R97 :=
  (S61 p0).bind fun r0 =>
  cond (!r0)
  (some (([], 20)))
  (cond (decide (p1 < 0))
  (some (([], 1)))
  (cond (decide (p1 > 65536))
  (some (([], 1)))
  (c7 (IntKind.i64.wrap (p1.tdiv 32)) ([]))))
def m97_7 (p0 : TI) (p1 v2 : Int) (v3 : TI) : S U := S.mk [AV.imm 105 p0, AV.int IntKind.i64 p1, AV.undef, AV.undef, AV.undef, AV.undef, AV.row 0 105, AV.int IntKind.i64 v2, AV.undef, AV.undef, AV.undef, AV.undef, AV.undef, AV.undef, AV.undef, AV.undef, AV.undef, AV.undef, AV.undef, AV.undef, AV.undef, AV.undef, AV.undef, AV.undef, AV.undef, AV.undef, AV.undef, AV.undef, AV.undef, AV.undef, AV.undef, AV.undef, AV.undef, AV.undef, AV.undef, AV.undef, AV.undef, AV.undef, AV.undef, AV.undef, AV.undef, AV.undef, AV.undef, AV.undef, AV.undef, AV.undef, AV.undef, AV.undef] [AO.row 105 v3]
def b97_7 (p0 : TI) (p1 : Int) (c7 : (Int) → TI → Option R97) (v2 : Int) (v3 : TI) : Option R97 :=
  cond (decide (v2 < (↑p0.length : Int)))
  ((S115 p0 v2).bind fun r0 =>
  (S115 p0 (IntKind.i64.wrap (v2 + 1))).bind fun r1 =>
  cond (decide (0 ≤ IntKind.u64.wrap (p1.tmod 32)))
  (cond (decide ((v3.length + 1) * 4 ≤ 140737488355328))
  (c7 (IntKind.i64.wrap (v2 + 1)) (v3 ++ [IntKind.u32.wrap (shr IntKind.u64 (Go.bits Go.BinOp.or IntKind.u64 r0 (shl IntKind.u64 r1 32)) (IntKind.u64.wrap (p1.tmod 32)))]))
  (none))
  (none))
  ((S116 v3).bind fun r2 =>
  some ((r2.fst, r2.snd)))
theorem hk97 : ∀ v h' r, k97 v h' = some r → v = out97 r ∧ h' = outh97 r := by
  intro v h' r h
  unfold k97 at h
  split at h
  · injection h with h; subst h; exact ⟨rfl, rfl⟩
  · cases h
abbrev q97 : Prim U R97 := prims X [⟨61, fun _ => true, [.lend], F61 S61⟩, ⟨115, fun _ => true, [.lend], F115 S115⟩, ⟨116, fun _ => true, [.frz], F116 S116⟩]
theorem s97 (c : Nat → S U → Option R97) (p0 : TI) (p1 : Int) : seg TP X q97 [7] (fun q st => c q (keepD D97 (h97 p0 p1).length q st)) body97 (finH TP Try.f97.results.toList (h97 p0 p1).length false k97) (start [.imm 105 p0, .int .i64 p1] Try.f97.ntmps (h97 p0 p1)) = b97 p0 p1 (fun v2 v3 => c 7 (m97_7 p0 p1 v2 v3)) := by kernel_rfl
theorem s97_7 (c : Nat → S U → Option R97) (p0 : TI) (p1 v2 : Int) (v3 : TI) : res TP X q97 [7] (fun q st => c q (keepD D97 (h97 p0 p1).length q st)) 7 body97 (finH TP Try.f97.results.toList (h97 p0 p1).length false k97) (m97_7 p0 p1 v2 v3) = b97_7 p0 p1 (fun v2 v3 => c 7 (m97_7 p0 p1 v2 v3)) v2 v3 := by kernel_rfl
def f97_7 (p0 : TI) (p1 : Int) : Nat → Int → TI → Option R97
  | 0 => fun _ _ => none
  | k + 1 => b97_7 p0 p1 (f97_7 p0 p1 k)
def f97 (k : Nat) (p0 : TI) (p1 : Int) : Option R97 := b97 p0 p1 (f97_7 p0 p1 k)
theorem e97 (p0 : TI) (p1 : Int) : ∀ k, ((fun v2 v3 => cutG TP X q97 [7] D97 (h97 p0 p1).length body97 (finH TP Try.f97.results.toList (h97 p0 p1).length false k97) k 7 (m97_7 p0 p1 v2 v3)) = f97_7 p0 p1 k)
  | 0 => rfl
  | k + 1 => by
    have ih := e97 p0 p1 k
    · funext v2 v3
      refine (if_pos (by kernel_rfl)).trans ?_
      rw [s97_7]
      simp only [ih]
      rfl
theorem pure97 (p0 : TI) (p1 : Int) (pok : PrmOK TP X q97) (k : Nat) (r : R97) (h : f97 k p0 p1 = some r) : PureH TP X 97 [.imm 105 p0, .int .i64 p1] (h97 p0 p1) (out97 r) (outh97 r) :=
  pure_gen good k (fn := Try.f97) (body := body97) (prim := q97) (D := D97) (cuts := [7]) (h := h97 p0 p1) (own := false) (by kernel_rfl) (by kernel_rfl) (by decide +kernel) pok hk97 (by
    rw [s97]
    have ih := e97 p0 p1 k
    simp only [ih]
    exact h)
def F97 {R : Type} (spec : TI → Int → Option R97) : Fn U R := fun args h k => match args, h with | [.imm 105 p0, .int .i64 p1], [] => (spec p0 p1).bind fun r => k (out97 r) (outh97 r) | _, _ => none
theorem ok97 {R : Type} (spec : TI → Int → Option R97) (hp : ∀ (p0 : TI) (p1 : Int) (r : R97), spec p0 p1 = some r → PureH TP X 97 [.imm 105 p0, .int .i64 p1] (h97 p0 p1) (out97 r) (outh97 r)) : FnOK TP X 97 (F97 spec : Fn U R) := by
  intro args h k r hh
  unfold F97 at hh
  split at hh
  · obtain ⟨x, h1, h2⟩ := Option.bind_eq_some_iff.1 hh
    exact ⟨_, _, h2, hp _ _ _ h1⟩
  · cases hh
theorem pok97 : PrmOK TP X q97 := prims_cons good okS61 (prims_cons good okS115 (prims_cons good okS116 (prims_nil TP X mixed)))
noncomputable def S97 (p0 : TI) (p1 : Int) : Option R97 := evv fun k => f97 k p0 p1
theorem okS97 {R : Type} : FnOK TP X 97 (F97 S97 : Fn U R) := ok97 S97 fun p0 p1 r h => by
  obtain ⟨k, hk⟩ := evv_fuel h
  exact pure97 p0 p1 pok97 k r hk
abbrev R96 : Type := (Int)
noncomputable def body96 : Go.Code := (Try.f96.body).getD Go.Code.skip
def h96 (p0 : TI) : List (AO U) := []
def k96 : AV U → List (AO U) → Option R96 := fun v h => match v, h with | AV.int IntKind.i64 x0, [] => some x0 | _, _ => none
def out96 : R96 → AV U := fun x0 => AV.int IntKind.i64 x0
def outh96 : R96 → List (AO U) := fun x0 => []
def D96 : Nat → Dir := dirs [(4, ⟨[0, 3], [], [], []⟩)]
def b96 (p0 : TI) (c4 : (Int) → Option R96)  : Option R96 :=
  (S61 p0).bind fun r0 =>
  cond (!r0)
  (some (0))
  (c4 (IntKind.i64.wrap (IntKind.i64.wrap (32 * (↑p0.length : Int)) - 1)))
def m96_4 (p0 : TI) (v1 : Int) : S U := S.mk [AV.imm 105 p0, AV.undef, AV.undef, AV.int IntKind.i64 v1, AV.undef, AV.undef, AV.undef, AV.undef, AV.undef, AV.undef, AV.undef, AV.undef, AV.undef, AV.undef, AV.undef, AV.undef, AV.undef, AV.undef, AV.undef, AV.undef, AV.undef] []
def b96_4 (p0 : TI) (c4 : (Int) → Option R96) (v1 : Int) : Option R96 :=
  cond (decide (v1 ≥ 0))
  ((S99 p0 v1).bind fun r0 =>
  cond (r0 == 1)
  (some (IntKind.i64.wrap (v1 + 1)))
  (c4 (IntKind.i64.wrap (v1 - 1))))
  (some (0))
theorem hk96 : ∀ v h' r, k96 v h' = some r → v = out96 r ∧ h' = outh96 r := by
  intro v h' r h
  unfold k96 at h
  split at h
  · injection h with h; subst h; exact ⟨rfl, rfl⟩
  · cases h
abbrev q96 : Prim U R96 := prims X [⟨61, fun _ => true, [.lend], F61 S61⟩, ⟨99, fun _ => true, [.lend], F99 S99⟩]
theorem s96 (c : Nat → S U → Option R96) (p0 : TI) : seg TP X q96 [4] (fun q st => c q (keepD D96 (h96 p0).length q st)) body96 (finH TP Try.f96.results.toList (h96 p0).length false k96) (start [.imm 105 p0] Try.f96.ntmps (h96 p0)) = b96 p0 (fun v1 => c 4 (m96_4 p0 v1)) := by kernel_rfl
theorem s96_4 (c : Nat → S U → Option R96) (p0 : TI) (v1 : Int) : res TP X q96 [4] (fun q st => c q (keepD D96 (h96 p0).length q st)) 4 body96 (finH TP Try.f96.results.toList (h96 p0).length false k96) (m96_4 p0 v1) = b96_4 p0 (fun v1 => c 4 (m96_4 p0 v1)) v1 := by kernel_rfl
def f96_4 (p0 : TI) : Nat → Int → Option R96
  | 0 => fun _ => none
  | k + 1 => b96_4 p0 (f96_4 p0 k)
def f96 (k : Nat) (p0 : TI) : Option R96 := b96 p0 (f96_4 p0 k)
theorem e96 (p0 : TI) : ∀ k, ((fun v1 => cutG TP X q96 [4] D96 (h96 p0).length body96 (finH TP Try.f96.results.toList (h96 p0).length false k96) k 4 (m96_4 p0 v1)) = f96_4 p0 k)
  | 0 => rfl
  | k + 1 => by
    have ih := e96 p0 k
    · funext v1
      refine (if_pos (by kernel_rfl)).trans ?_
      rw [s96_4]
      simp only [ih]
      rfl
theorem pure96 (p0 : TI) (pok : PrmOK TP X q96) (k : Nat) (r : R96) (h : f96 k p0 = some r) : PureH TP X 96 [.imm 105 p0] (h96 p0) (out96 r) (outh96 r) :=
  pure_gen good k (fn := Try.f96) (body := body96) (prim := q96) (D := D96) (cuts := [4]) (h := h96 p0) (own := false) (by kernel_rfl) (by kernel_rfl) (by decide +kernel) pok hk96 (by
    rw [s96]
    have ih := e96 p0 k
    simp only [ih]
    exact h)
def F96 {R : Type} (spec : TI → Option R96) : Fn U R := fun args h k => match args, h with | [.imm 105 p0], [] => (spec p0).bind fun r => k (out96 r) (outh96 r) | _, _ => none
theorem ok96 {R : Type} (spec : TI → Option R96) (hp : ∀ (p0 : TI) (r : R96), spec p0 = some r → PureH TP X 96 [.imm 105 p0] (h96 p0) (out96 r) (outh96 r)) : FnOK TP X 96 (F96 spec : Fn U R) := by
  intro args h k r hh
  unfold F96 at hh
  split at hh
  · obtain ⟨x, h1, h2⟩ := Option.bind_eq_some_iff.1 hh
    exact ⟨_, _, h2, hp _ _ h1⟩
  · cases hh
theorem pok96 : PrmOK TP X q96 := prims_cons good okS61 (prims_cons good okS99 (prims_nil TP X mixed))
noncomputable def S96 (p0 : TI) : Option R96 := evv fun k => f96 k p0
theorem okS96 {R : Type} : FnOK TP X 96 (F96 S96 : Fn U R) := ok96 S96 fun p0 r h => by
  obtain ⟨k, hk⟩ := evv_fuel h
  exact pure96 p0 pok96 k r hk
end
end Go.Abs.Z
namespace Limb
theorem val_lt_zero_top {l : List Int} (h : Ok l) {n : Nat} (hv : val l < P n) : val (l.take n) = val l ∧ val (l.drop n) = 0 := by
  by_cases hn : n ≤ l.length
  · have e := val_split l n hn
    have b1 := val_bound (h.take n)
    have b2 := val_bound (h.drop n)
    have h0 : val (l.drop n) = 0 := by
      refine Classical.byContradiction fun hh => ?_
      have := Int.mul_le_mul_of_nonneg_left (show 1 ≤ val (l.drop n) by omega) (Int.le_of_lt (P_pos n))
      omega
    rw [h0] at e
    exact ⟨by omega, h0⟩
  · rw [List.take_of_length_le (by omega), List.drop_eq_nil_of_le (by omega)]
    exact ⟨rfl, rfl⟩
theorem len_of_ge {a : List Int} (ha : Ok a) {n : Nat} (h : P n ≤ val a) : n < a.length := by
  refine Nat.lt_of_not_le fun hle => ?_
  have := (val_bound ha).2
  have := P_mono hle
  omega
end Limb
namespace Go.Abs.Z
open Go Go.Abs Limb
theorem loop92 {a b v : List Int} {k : Nat} {A B V X : Int} (hv : Ok v) (hvV : val v = V) (hn : 2 ≤ v.length) (hl : v.length ≤ 1073741824) (htop : 2147483648 ≤ v.getD (v.length - 1) 0) (hk : k < 32) {L : Nat} (hL : L ≤ 1073741824)
    (hV0 : 0 < V) (hVP : V < P v.length) (eX : X = A * 2 ^ k) (eV : V = B * 2 ^ k) (hA : 0 ≤ A) (hB : 0 < B) :
    ∀ (m : Nat) (u q : List Int), m + v.length ≤ L → u.length = L → q.length = L - v.length → Ok u → Ok q → val (u.drop m) < V → val (q.drop m) * P m * V + val u = X →
    ∃ r1 r2, Evt (fun f => f92_14 a b f (k : Int) (v.length : Int) ((m : Int) - 1) v u q) (r1, r2) ∧ Is r1 (A / B) ∧ Is r2 (A % B)
  | 0, u, q, hm, hul, hql, hu, hq, hd, he => by
    rw [List.drop_zero] at hd
    rw [List.drop_zero, P_zero, Int.mul_one] at he
    have hub := val_bound hu
    obtain ⟨z1, z2⟩ := val_lt_zero_top hu (show val u < P v.length by omega)
    obtain ⟨r1, g1, g2⟩ := trimmed hq (by omega)
    obtain ⟨r, g3, g4⟩ := trimmed (hu.take v.length) (by simp; omega)
    rw [z1] at g4
    have hrl : r.length ≤ 1073741824 := by
      have := len_of_val g4.ok g4.norm L (by rw [g4.val, ← hul]; exact hub.2)
      omega
    obtain ⟨r2, g5, g6⟩ := run114 g4 hrl hk
    have hp : (0 : Int) < 2 ^ k := Int.pow_pos (by decide)
    have e1 : val q = X / V := by rw [← he, Int.add_comm, Int.add_mul_ediv_right _ _ (by omega), Int.ediv_eq_zero_of_lt hub.1 hd]; omega
    have e2 : val u = X % V := by rw [← he, Int.add_comm, Int.add_mul_emod_self_right, Int.emod_eq_of_lt hub.1 hd]
    have e3 : X / V = A / B := by rw [eX, eV, Int.mul_comm A, Int.mul_comm B, Int.mul_ediv_mul_of_pos _ _ hp]
    have e4 : X % V = (A % B) * 2 ^ k := by rw [eX, eV, Int.mul_comm A, Int.mul_comm B, Int.mul_emod_mul_of_pos _ _ hp, Int.mul_comm]
    rw [e1, e3] at g2
    rw [e2, e4, Int.mul_ediv_cancel _ (by omega)] at g6
    refine ⟨r1, r2, ?_, g2, g6⟩
    refine Evt.last fun f => ?_
    show b92_14 a b (f92_14 a b f) (k : Int) (v.length : Int) (((0 : Nat) : Int) - 1) v u q = _
    unfold b92_14
    simp only [Int.toNat_natCast, Nat.sub_zero, List.drop_zero]
    rw [g1, g3]
    simp (disch := omega) only [cT, cF, Option.bind_some, g5]
  | m + 1, u, q, hm, hul, hql, hu, hq, hd, he => by
    have ei : (((m + 1 : Nat) : Int) - 1) = (m : Int) := by omega
    have e1 : IntKind.i64.wrap ((m : Int) - 1) = (m : Int) - 1 := by rw [wi64] <;> omega
    have e2 : IntKind.i64.wrap (IntKind.i64.wrap ((m : Int) + (v.length : Int)) + 1) = ((m + v.length + 1 : Nat) : Int) := by rw [wi64 (x := (m : Int) + (v.length : Int)), wi64] <;> omega
    have hsplit : u = u.take m ++ ((u.drop m).take (v.length + 1) ++ u.drop (m + (v.length + 1))) := by
      rw [← List.drop_drop, List.take_append_drop, List.take_append_drop]
    have hpl : (u.take m).length = m := by simp; omega
    have hWl : ((u.drop m).take (v.length + 1)).length = v.length + 1 := by simp; omega
    have hW : Ok ((u.drop m).take (v.length + 1)) := (hu.drop m).take _
    have gm := getD_ok hu m
    have edm := drop_val u m (by omega)
    have hdm0 := val_bound (hu.drop (m + 1))
    have hdm : val (u.drop m) < V * 4294967296 := by omega
    have hPn : P (v.length + 1) = 4294967296 * P v.length := P_succ _
    obtain ⟨z1, z2⟩ := val_lt_zero_top (hu.drop m) (n := v.length + 1) (by omega)
    rw [List.drop_drop] at z2
    obtain ⟨Z, s1, s2, s3, s4⟩ := run112 (pre := u.take m) (post := u.drop (m + (v.length + 1))) hv hW hn hl (by omega) hWl htop (by rw [z1, hvV]; exact hdm)
    rw [← hsplit, hpl] at s1
    rw [z1, hvV] at s1 s4
    have hr := Int.emod_nonneg (val (u.drop m)) (b := V) (by omega)
    have hr2 := Int.emod_lt_of_pos (val (u.drop m)) hV0
    have em := Int.mul_ediv_add_emod (val (u.drop m)) V
    have hd0 := (val_bound (hu.drop m)).1
    have q0 : 0 ≤ val (u.drop m) / V := Int.ediv_nonneg hd0 (by omega)
    have q1 : val (u.drop m) / V < 4294967296 := Int.ediv_lt_of_lt_mul hV0 (by omega)
    have hnew : Ok (u.take m ++ (Z ++ u.drop (m + (v.length + 1)))) := (hu.take m).append (s2.append (hu.drop _))
    have hnd : (u.take m ++ (Z ++ u.drop (m + (v.length + 1)))).drop m = Z ++ u.drop (m + (v.length + 1)) := by
      rw [List.drop_append_of_le_length (by omega), List.drop_eq_nil_of_le (by omega), List.nil_append]
    have hzv : val (Z ++ u.drop (m + (v.length + 1))) = val Z := by rw [val_append, z2]; simp
    obtain ⟨r1, r2, h2, h3, h4⟩ := loop92 (a := a) (b := b) hv hvV hn hl htop hk hL hV0 hVP eX eV hA hB m (u.take m ++ (Z ++ u.drop (m + (v.length + 1)))) (q.set m (val (u.drop m) / V)) (by omega) (by simp [s3]; omega) (by simpa using hql) hnew (hq.set m q0 q1) (by rw [hnd, hzv, s4]; exact hr2) (by
      rw [drop_val _ m (by simp; omega), Limb.getD_set_self _ _ _ (by omega), drop_set_lt _ _ _ _ (by omega), val_append, hzv, hpl, s4]
      rw [val_split u m (by omega)] at he
      rw [P_succ] at he
      generalize val (u.drop m) / V = D at *
      generalize val (u.drop m) % V = M at *
      generalize val (u.drop m) = W at *
      generalize val (q.drop (m + 1)) = Q at *
      generalize val (u.take m) = T at *
      generalize P m = p at *
      rw [← he, ← em]
      grind)
    refine ⟨r1, r2, h2.step fun f => ?_, h3, h4⟩
    show b92_14 a b (f92_14 a b f) (k : Int) (v.length : Int) (((m + 1 : Nat) : Int) - 1) v u q = _
    unfold b92_14
    rw [ei]
    have et : m + v.length + 1 - m = v.length + 1 := by omega
    simp only [e1, e2, Int.toNat_natCast, et]
    rw [s1]
    simp (disch := omega) only [cT, Option.bind_some]
theorem run92 {a b : List Int} {A B : Int} (ha : Is a A) (hb : Is b B) (hB : 0 < B) (hla : a.length ≤ 536870912) (hlb : b.length ≤ 536870912) : ∃ r1 r2, S92 a b = some (r1, r2) ∧ Is r1 (A / B) ∧ Is r2 (A % B) := by
  have hA := ha.nonneg
  have hc := run90 ha hb (by omega)
  by_cases hlt : A < B
  · refine ⟨[], a, evv_eq (Evt.now fun f => ?_), by rw [Int.ediv_eq_zero_of_lt hA hlt]; exact Is.nil, by rw [Int.emod_eq_of_lt hA hlt]; exact ha⟩
    show b92 a b (f92_14 a b f) = _
    unfold b92
    rw [hc]
    unfold cmpI
    rw [if_pos hlt]
    simp only [Option.bind_some, List.nil_append]
    refine (cT (show ((-1 : Int) < 0) by decide) _ _).trans ?_
    simp (disch := omega) only [cT]
  · have hcc : ¬ cmpI A B < 0 := by unfold cmpI; rw [if_neg hlt]; split <;> decide
    have hbn : b ≠ [] := fun h => by have := hb.nil_iff.1 h; omega
    have hbl : 0 < b.length := List.length_pos_iff.2 hbn
    by_cases h1 : b.length = 1
    · have hB2 : B = b.getD 0 0 := by
        rw [← hb.val]
        have := top_split hbn
        rw [h1] at this
        rw [this]; simp [val, P_zero]
      have gb := getD_ok hb.ok 0
      obtain ⟨r1, g1, g2⟩ := run109 (d := b.getD 0 0) ha.ok (by omega) (by omega) gb.2
      have m0 := Int.emod_nonneg A (b := B) (by omega)
      have m1 := Int.emod_lt_of_pos A hB
      rw [ha.val, ← hB2] at g1 g2
      obtain ⟨r2, g3, g4⟩ := run95 (x := A % B) m0 (by omega)
      refine ⟨r1, r2, evv_eq (Evt.now fun f => ?_), g2, g4⟩
      show b92 a b (f92_14 a b f) = _
      unfold b92
      rw [hc]
      simp only [Option.bind_some]
      have z : Int.toNat 0 = 0 := rfl
      have ew : IntKind.u64.wrap (A % B) = A % B := by rw [wu64]; omega
      simp only [z, dflt105, ← hB2]
      rw [g1]
      simp only [Option.bind_some, ew]
      rw [g3]
      simp (disch := omega) only [cT, cF, cE, Option.bind_some]
    · have hn : 2 ≤ b.length := by omega
      have gt := getD_ok hb.ok (b.length - 1)
      have ht0 : b.getD (b.length - 1) 0 ≠ 0 := hb.norm.elim (fun h => absurd h hbn) id
      obtain ⟨n, g1, n0, n1, hBL⟩ := run110 gt.1 gt.2
      obtain ⟨bl0, bl1, bl2⟩ := hBL
      have hn0 : n ≠ 0 := fun h => by
        rw [h] at bl1
        have e1 : (2 : Int) ^ (0 : Int).toNat = 1 := rfl
        rw [e1] at bl1; omega
      have bl2 := bl2.resolve_left hn0
      obtain ⟨k, hk⟩ : ∃ k : Nat, (k : Int) = 32 - n := ⟨(32 - n).toNat, by omega⟩
      have hk25 : k < 32 := by omega
      rw [← hk] at g1
      have en : n.toNat = 32 - k := by omega
      have hp : (0 : Int) < 2 ^ k := Int.pow_pos (by decide)
      have ep := pow32 (k := k) (by omega)
      obtain ⟨v, g2, g3⟩ := run111 hb (by omega) hk25
      obtain ⟨x, g4, g5⟩ := run111 ha (by omega) hk25
      have eB := top_split hbn
      rw [hb.val] at eB
      have hlow := val_bound (hb.ok.take (b.length - 1))
      rw [show (b.take (b.length - 1)).length = b.length - 1 from by simp] at hlow
      have hPp := P_pos (b.length - 1)
      rw [en] at bl1 bl2
      have tk1 : (b.getD (b.length - 1) 0 + 1) * 2 ^ k ≤ 4294967296 := by
        have := Int.mul_le_mul_of_nonneg_right (show b.getD (b.length - 1) 0 + 1 ≤ 2 ^ (32 - k) by omega) (Int.le_of_lt hp)
        omega
      have tk0 : 2147483648 ≤ b.getD (b.length - 1) 0 * 2 ^ k := by
        have h3 := Int.mul_le_mul_of_nonneg_right bl2 (Int.le_of_lt hp)
        rw [← Int.pow_add, show 32 - k - 1 + k = 31 from by omega] at h3
        exact h3
      have hVlo : 2147483648 * P (b.length - 1) ≤ B * 2 ^ k := by
        have h3 := Int.mul_le_mul_of_nonneg_right tk0 (Int.le_of_lt hPp)
        have h4 := Int.mul_nonneg hlow.1 (Int.le_of_lt hp)
        have h5 : B * 2 ^ k = val (b.take (b.length - 1)) * 2 ^ k + b.getD (b.length - 1) 0 * 2 ^ k * P (b.length - 1) := by rw [eB]; grind
        omega
      have hVhi : B * 2 ^ k < 4294967296 * P (b.length - 1) := by
        have h3 := Int.mul_le_mul_of_nonneg_right tk1 (Int.le_of_lt hPp)
        have h4 := Int.mul_lt_mul_of_pos_right hlow.2 hp
        have h5 : B * 2 ^ k = val (b.take (b.length - 1)) * 2 ^ k + b.getD (b.length - 1) 0 * 2 ^ k * P (b.length - 1) := by rw [eB]; grind
        have h6 : (b.getD (b.length - 1) 0 + 1) * 2 ^ k * P (b.length - 1) = b.getD (b.length - 1) 0 * 2 ^ k * P (b.length - 1) + P (b.length - 1) * 2 ^ k := by grind
        omega
      have hPn : P b.length = 4294967296 * P (b.length - 1) := by rw [← P_succ, show b.length - 1 + 1 = b.length from by omega]
      have hvl : v.length = b.length := by
        have h3 := len_of_val g3.ok g3.norm b.length (by rw [g3.val]; omega)
        have h4 := len_of_ge g3.ok (n := b.length - 1) (by rw [g3.val]; omega)
        omega
      have hvn : v ≠ [] := fun h => by rw [h] at hvl; simp at hvl; omega
      have htop : 2147483648 ≤ v.getD (v.length - 1) 0 := by
        rw [top_div g3.ok hvn, g3.val, hvl]
        exact Int.le_ediv_of_mul_le hPp hVlo
      have hAB : B * 2 ^ k ≤ A * 2 ^ k := Int.mul_le_mul_of_nonneg_right (by omega) (Int.le_of_lt hp)
      have hxl : b.length ≤ x.length := by
        have h4 := len_of_ge g5.ok (n := b.length - 1) (by rw [g5.val]; omega)
        omega
      have hxa : a.length ≤ x.length := by
        refine Nat.le_of_not_lt fun hh => ?_
        have h3 := len_lt_val g5.ok ha.ok ha.norm hh
        rw [g5.val, ha.val] at h3
        have h4 := Int.mul_le_mul_of_nonneg_left (show (1 : Int) ≤ 2 ^ k by omega) hA
        omega
      have hxa2 : x.length ≤ a.length + 1 := by
        refine len_of_val g5.ok g5.norm _ ?_
        rw [g5.val, P_succ]
        have h3 := (val_bound ha.ok).2
        rw [ha.val] at h3
        have h4 := Int.mul_lt_mul_of_pos_right h3 hp
        have h5 : (2 : Int) ^ k ≤ 4294967296 := by
          have h6 := Int.mul_le_mul_of_nonneg_right (show (1 : Int) ≤ 2 ^ (32 - k) by have : (0 : Int) < 2 ^ (32 - k) := Int.pow_pos (by decide); omega) (Int.le_of_lt hp)
          omega
        have h6 := Int.mul_le_mul_of_nonneg_left h5 (Int.le_of_lt (P_pos a.length))
        omega
      have hu0 : Ok (x ++ [0]) := g5.ok.append (Ok.mk (by decide) (by decide) Ok.nil)
      have hul : (x ++ [0]).length = x.length + 1 := by simp
      have huv : val (x ++ [0]) = A * 2 ^ k := by rw [val_append, g5.val]; simp [val]
      have hdrop : val ((x ++ [0]).drop (x.length + 1 - b.length)) < B * 2 ^ k := by
        rw [List.drop_append_of_le_length (by omega), val_append]
        have h3 := (val_bound (g5.ok.drop (x.length + 1 - b.length))).2
        have h4 : (x.drop (x.length + 1 - b.length)).length = b.length - 1 := by simp; omega
        rw [h4] at h3 ⊢
        simp only [val]
        omega
      obtain ⟨r1, r2, h2, h3, h4⟩ := loop92 (a := a) (b := b) (A := A) (B := B) g3.ok g3.val (by omega) (by omega) htop hk25 (L := x.length + 1) (by omega) (by omega) (by rw [hvl]; omega) rfl rfl hA hB (x.length + 1 - b.length) (x ++ [0]) (List.replicate (x.length + 1 - b.length) 0) (by omega) hul (by simp [hvl]) hu0 (Ok.replicate _) hdrop (by rw [List.drop_eq_nil_of_le (by simp)]; simp only [val, Int.zero_mul, Int.zero_add]; exact huv)
      refine ⟨r1, r2, evv_eq (h2.same fun f => ?_), h3, h4⟩
      show b92 a b (f92_14 a b f) = _
      unfold b92
      rw [hc]
      have en1 : IntKind.i64.wrap ((b.length : Int) - 1) = ((b.length - 1 : Nat) : Int) := by rw [wi64] <;> omega
      simp only [Option.bind_some, en1, Int.toNat_natCast, dflt105]
      rw [g1]
      simp only [Option.bind_some]
      rw [g2, g4]
      simp only [Option.bind_some]
      have e3 : IntKind.i64.wrap (((x ++ [0]).length : Int) - (v.length : Int)) = ((x.length + 1 - b.length : Nat) : Int) := by rw [wi64] <;> omega
      have e4 : IntKind.i64.wrap (((x.length + 1 - b.length : Nat) : Int) - 1) = ((x.length + 1 - b.length : Nat) : Int) - 1 := by rw [wi64] <;> omega
      have e5 : List.length x = x.length := rfl
      simp only [e3, e4, Int.toNat_natCast]
      simp (disch := omega) only [cT, cF, cN]
end Go.Abs.Z
namespace Go.Abs.Z
open Go Go.Abs Limb
theorem step108 {a : List Int} (ha : Ok a) {m s : Nat} (hm : m ≤ 1073741824) (hs : s < 32) (hl : a.length ≤ 1073741824) {R : Int} (i : Nat) (hi : i ≤ 2) {x x' : Int}
    (h1 : s ≤ 32 * i → bits .or .u64 x (shl .u64 (a.getD (m + i) 0) ((32 * i - s : Nat) : Int)) = x')
    (h2 : ¬ s ≤ 32 * i → bits .or .u64 x (shr .u64 (a.getD (m + i) 0) ((s - 32 * i : Nat) : Int)) = x')
    (h3 : a.length ≤ m + i → x = x')
    (h : Evt (fun f => f108_3 a ((32 * m + s : Nat) : Int) f x' ((i : Int) - 1)) R) : Evt (fun f => f108_3 a ((32 * m + s : Nat) : Int) f x (i : Int)) R := by
  refine h.step fun f => ?_
  show b108_3 a ((32 * m + s : Nat) : Int) (f108_3 a ((32 * m + s : Nat) : Int) f) x (i : Int) = _
  unfold b108_3
  have g := getD_ok ha (m + i)
  have t1 : Int.tdiv ((32 * m + s : Nat) : Int) 32 = (m : Int) := by rw [Int.tdiv_eq_ediv_of_nonneg (by omega)]; omega
  have t2 : Int.tmod ((32 * m + s : Nat) : Int) 32 = (s : Int) := by rw [Int.tmod_eq_emod_of_nonneg (by omega)]; omega
  have e1 : IntKind.i64.wrap (IntKind.i64.wrap (m : Int) + (i : Int)) = ((m + i : Nat) : Int) := by rw [wi64 (x := (m : Int)), wi64] <;> omega
  have e2 : IntKind.i64.wrap (32 * (i : Int)) = 32 * (i : Int) := by rw [wi64] <;> omega
  have e3 : IntKind.i64.wrap (32 * (i : Int) - (s : Int)) = 32 * (i : Int) - (s : Int) := by rw [wi64] <;> omega
  have e4 : IntKind.i64.wrap ((i : Int) - 1) = (i : Int) - 1 := by rw [wi64] <;> omega
  have e5 : IntKind.i64.wrap (0 - (32 * (i : Int) - (s : Int))) = 0 - (32 * (i : Int) - (s : Int)) := by rw [wi64] <;> omega
  have ew : IntKind.u64.wrap (a.getD (m + i) 0) = a.getD (m + i) 0 := by rw [wu64]; omega
  simp only [t1, t2, e1, e2, e3, e4, e5, Int.toNat_natCast, dflt105, ew]
  by_cases hk : m + i < a.length
  · by_cases hsh : s ≤ 32 * i
    · have e6 : 32 * (i : Int) - (s : Int) = ((32 * i - s : Nat) : Int) := by omega
      rw [e6, h1 hsh]
      simp (disch := omega) only [cT, cF]
    · have e6 : 0 - (32 * (i : Int) - (s : Int)) = ((s - 32 * i : Nat) : Int) := by omega
      rw [e6, h2 hsh]
      simp (disch := omega) only [cT, cF]
  · rw [h3 (by omega)]
    simp (disch := omega) only [cT, cF]
theorem bor_zero {x : Int} (h0 : 0 ≤ x) (h1 : x < 18446744073709551616) : bits .or .u64 0 x = x := by
  rw [bor64 (by decide) (by decide) h0 h1]
  show ((0 ||| x.toNat : Nat) : Int) = x
  rw [Nat.zero_or]; omega
theorem bor_zero' {x : Int} (h0 : 0 ≤ x) (h1 : x < 18446744073709551616) : bits .or .u64 x 0 = x := by
  rw [bor64 h0 h1 (by decide) (by decide)]
  show ((x.toNat ||| 0 : Nat) : Int) = x
  rw [Nat.or_zero]; omega
theorem run108 {a : List Int} {A : Int} {n : Nat} (ha : Ok a) (hA : val a = A) (hl : a.length ≤ 1073741824) (hn : n ≤ 34359738368) (hb : A < 2 ^ (n + 62)) : S108 a (n : Int) = some (A / 2 ^ n) := by
  obtain ⟨m, s, rfl, hs⟩ : ∃ m s, n = 32 * m + s ∧ s < 32 := ⟨n / 32, n % 32, by omega, by omega⟩
  have g0 := getD_ok ha m
  have g1 := getD_ok ha (m + 1)
  have g2 := getD_ok ha (m + 2)
  have hps : (0 : Int) < 2 ^ s := Int.pow_pos (by decide)
  have hp32 : (0 : Int) < 2 ^ (32 - s) := Int.pow_pos (by decide)
  have hp64 : (0 : Int) < 2 ^ (64 - s) := Int.pow_pos (by decide)
  have ep := pow32 (k := s) (by omega)
  have ep64 : (2 : Int) ^ (64 - s) = 4294967296 * 2 ^ (32 - s) := by rw [show 64 - s = 32 + (32 - s) from by omega, Int.pow_add]; rfl
  have hA0 := (val_bound ha).1
  have hval : A = val (a.take m) + P m * val (a.drop m) := by
    rw [← hA]
    by_cases h : m ≤ a.length
    · exact val_split a m h
    · rw [List.take_of_length_le (by omega), List.drop_eq_nil_of_le (by omega)]; simp [val]
  have hlow : 0 ≤ val (a.take m) ∧ val (a.take m) < P m := by
    have h1 := val_bound (ha.take m)
    have h2 := P_mono (show (a.take m).length ≤ m by simp; omega)
    omega
  have hD0 := (val_bound (ha.drop m)).1
  have hPm := P_pos m
  have hD1 : val (a.drop m) < 2 ^ (s + 62) := by
    refine Classical.byContradiction fun hh => ?_
    have h1 := Int.mul_le_mul_of_nonneg_left (show 2 ^ (s + 62) ≤ val (a.drop m) by omega) (Int.le_of_lt hPm)
    rw [P_two, ← Int.pow_add, show 32 * m + (s + 62) = 32 * m + s + 62 from by omega, ← P_two] at h1
    omega
  have dv : ∀ i, val (a.drop i) = a.getD i 0 + 4294967296 * val (a.drop (i + 1)) := fun i => by
    by_cases h : i < a.length
    · exact drop_val a i h
    · rw [List.drop_eq_nil_of_le (by omega), List.drop_eq_nil_of_le (by omega), getD_out (by omega)]; simp [val]
  have d0 := dv m
  have d1 : val (a.drop (m + 1)) = a.getD (m + 1) 0 + 4294967296 * val (a.drop (m + 2)) := dv (m + 1)
  have d2 : val (a.drop (m + 2)) = a.getD (m + 2) 0 + 4294967296 * val (a.drop (m + 3)) := dv (m + 2)
  have hs62 : (2 : Int) ^ (s + 62) = 2 ^ s * 4611686018427387904 := by rw [Int.pow_add]; rfl
  have hs31 : (2 : Int) ^ s ≤ 2147483648 := by
    have h1 := Int.mul_le_mul_of_nonneg_right (show (2 : Int) ≤ 2 ^ (32 - s) by
      rw [show 32 - s = (31 - s) + 1 from by omega, Int.pow_succ]
      have : (0 : Int) < 2 ^ (31 - s) := Int.pow_pos (by decide)
      omega) (Int.le_of_lt hps)
    omega
  have hrest : val (a.drop (m + 3)) = 0 := by
    have h3 := (val_bound (ha.drop (m + 3))).1
    refine Classical.byContradiction fun hh => ?_
    omega
  have hD : val (a.drop m) = (a.getD (m + 2) 0 * 4294967296 + a.getD (m + 1) 0) * 4294967296 + a.getD m 0 := by
    rw [d0, d1, d2, hrest]; omega
  have c2 : a.getD (m + 2) 0 * 2 ^ (64 - s) < 4611686018427387904 := by
    rw [ep64]
    refine Classical.byContradiction fun hh => ?_
    have h1 := Int.mul_le_mul_of_nonneg_right (show 4611686018427387904 ≤ a.getD (m + 2) 0 * (4294967296 * 2 ^ (32 - s)) by omega) (Int.le_of_lt hps)
    have h2 : a.getD (m + 2) 0 * (4294967296 * 2 ^ (32 - s)) * 2 ^ s = a.getD (m + 2) 0 * 4294967296 * (2 ^ (32 - s) * 2 ^ s) := by grind
    rw [h2, ep] at h1
    omega
  have c2n : 0 ≤ a.getD (m + 2) 0 * 2 ^ (64 - s) := Int.mul_nonneg g2.1 (Int.le_of_lt hp64)
  have c1n : 0 ≤ a.getD (m + 1) 0 * 2 ^ (32 - s) := Int.mul_nonneg g1.1 (Int.le_of_lt hp32)
  have c1 : a.getD (m + 1) 0 * 2 ^ (32 - s) < 2 ^ (64 - s) := by
    rw [ep64]
    exact Int.mul_lt_mul_of_pos_right g1.2 hp32
  have c0n : 0 ≤ a.getD m 0 / 2 ^ s := Int.ediv_nonneg g0.1 (Int.le_of_lt hps)
  have c0 : a.getD m 0 / 2 ^ s < 2 ^ (32 - s) := Int.ediv_lt_of_lt_mul hps (by rw [ep]; exact g0.2)
  have hx1 : a.getD (m + 2) 0 * 2 ^ (64 - s) + a.getD (m + 1) 0 * 2 ^ (32 - s) = (a.getD (m + 2) 0 * 4294967296 + a.getD (m + 1) 0) * 2 ^ (32 - s) := by
    rw [ep64]; grind
  have hT : val (a.drop m) / 2 ^ s = (a.getD (m + 2) 0 * 4294967296 + a.getD (m + 1) 0) * 2 ^ (32 - s) + a.getD m 0 / 2 ^ s := by
    rw [hD]
    have : (a.getD (m + 2) 0 * 4294967296 + a.getD (m + 1) 0) * 4294967296 = (a.getD (m + 2) 0 * 4294967296 + a.getD (m + 1) 0) * 2 ^ (32 - s) * 2 ^ s := by rw [← ep]; grind
    rw [this, Int.add_comm, Int.add_mul_ediv_right _ _ (by omega)]
    omega
  have hT1 : val (a.drop m) / 2 ^ s < 4611686018427387904 := Int.ediv_lt_of_lt_mul hps (by rw [Int.mul_comm]; omega)
  have hT0 : 0 ≤ val (a.drop m) / 2 ^ s := Int.ediv_nonneg hD0 (Int.le_of_lt hps)
  have hAT : A / 2 ^ (32 * m + s) = val (a.drop m) / 2 ^ s := by
    rw [Int.pow_add, ← P_two, ← Int.ediv_ediv_of_nonneg (Int.le_of_lt hPm), hval, Int.add_mul_ediv_left _ _ (by omega), Int.ediv_eq_zero_of_lt hlow.1 hlow.2, Int.zero_add]
  rw [hAT]
  refine evv_eq ?_
  have last : Evt (fun f => f108_3 a ((32 * m + s : Nat) : Int) f (val (a.drop m) / 2 ^ s) (((0 : Nat) : Int) - 1)) (val (a.drop m) / 2 ^ s) := Evt.last fun f => by
    show b108_3 a ((32 * m + s : Nat) : Int) (f108_3 a ((32 * m + s : Nat) : Int) f) (val (a.drop m) / 2 ^ s) (((0 : Nat) : Int) - 1) = _
    unfold b108_3
    have hand : bits .and .u64 (val (a.drop m) / 2 ^ s) 4611686018427387903 = val (a.drop m) / 2 ^ s := by
      rw [band64 hT0 (by omega) (by decide) (by decide)]
      have e1 : (4611686018427387903 : Int).toNat = 2 ^ 62 - 1 := by decide
      rw [e1, Nat.and_two_pow_sub_one_eq_mod, Nat.mod_eq_of_lt (by omega)]
      omega
    simp (disch := omega) only [cF]
    rw [hand, wi64 (by omega) (by omega)]
  have s0 := step108 ha (m := m) (s := s) (by omega) hs hl 0 (by omega) (x := (a.getD (m + 2) 0 * 4294967296 + a.getD (m + 1) 0) * 2 ^ (32 - s)) (x' := val (a.drop m) / 2 ^ s) (fun h => by
      have hs0 : s = 0 := by omega
      subst hs0
      have es : shl .u64 (a.getD (m + 0) 0) ((32 * 0 - 0 : Nat) : Int) = a.getD m 0 / 2 ^ 0 := by
        refine (shl64 0 (by decide)).trans ?_
        simp only [Nat.add_zero]
        omega
      rw [es, or_low (by omega) c0n c0 (by rw [← hT]; omega), hT]) (fun h => by
      have es : shr .u64 (a.getD (m + 0) 0) ((s - 32 * 0 : Nat) : Int) = a.getD m 0 / 2 ^ s := shr64 s (by omega)
      rw [es, or_low (by omega) c0n c0 (by rw [← hT]; omega), hT]) (fun h => by
      rw [hT, getD_out (by omega : a.length ≤ m)]; simp) last
  have s1 := step108 ha (m := m) (s := s) (by omega) hs hl 1 (by omega) (x := a.getD (m + 2) 0 * 2 ^ (64 - s)) (x' := (a.getD (m + 2) 0 * 4294967296 + a.getD (m + 1) 0) * 2 ^ (32 - s)) (fun h => by
      have es : shl .u64 (a.getD (m + 1) 0) ((32 * 1 - s : Nat) : Int) = a.getD (m + 1) 0 * 2 ^ (32 - s) := by
        refine (shl64 (32 - s) (by omega)).trans ?_
        have : (2 : Int) ^ (64 - s) ≤ 18446744073709551616 := by
          rw [ep64]
          have : (2 : Int) ^ (32 - s) ≤ 4294967296 := by
            have h1 := Int.mul_le_mul_of_nonneg_left (show (1 : Int) ≤ 2 ^ s by omega) (Int.le_of_lt hp32)
            omega
          omega
        exact Int.emod_eq_of_lt c1n (by omega)
      rw [es, or_low g2.1 c1n c1 (by rw [hx1]; omega), hx1]) (fun h => absurd (by omega) h) (fun h => by
      rw [← hx1, getD_out (by omega : a.length ≤ m + 1)]; simp) s0
  have s2 := step108 ha (m := m) (s := s) (by omega) hs hl 2 (by omega) (x := 0) (x' := a.getD (m + 2) 0 * 2 ^ (64 - s)) (fun h => by
      have es : shl .u64 (a.getD (m + 2) 0) ((32 * 2 - s : Nat) : Int) = a.getD (m + 2) 0 * 2 ^ (64 - s) := by
        refine (shl64 (64 - s) (by omega)).trans ?_
        exact Int.emod_eq_of_lt c2n (by omega)
      rw [es, bor_zero c2n (by omega)]) (fun h => absurd (by omega) h) (fun h => by
      rw [getD_out (by omega : a.length ≤ m + 2)]; simp) s1
  exact s2.same fun f => rfl
end Go.Abs.Z
namespace Num
def CD (a b A B : Int) : Prop := ∀ d : Int, (d ∣ a ∧ d ∣ b) ↔ (d ∣ A ∧ d ∣ B)
theorem CD.refl (a b : Int) : CD a b a b := fun _ => Iff.rfl
theorem CD.step {a b A B : Int} (h : CD a b A B) (t : Int) : CD b (a - t * b) A B := fun d => by
  rw [← h d]
  constructor
  · rintro ⟨h1, h2⟩
    refine ⟨?_, h1⟩
    have := Int.dvd_add h2 (Int.dvd_mul_of_dvd_right (b := t) h1)
    rwa [Int.sub_add_cancel] at this
  · rintro ⟨h1, h2⟩
    exact ⟨h2, Int.dvd_sub h1 (Int.dvd_mul_of_dvd_right (b := t) h2)⟩
theorem CD.trans {a b c d A B : Int} (h : CD a b c d) (h' : CD c d A B) : CD a b A B := fun x => (h x).trans (h' x)
theorem CD.swap (a b : Int) : CD b a a b := fun d => And.comm
def IsG (g A B : Int) : Prop := 0 ≤ g ∧ ∀ d : Int, d ∣ g ↔ (d ∣ A ∧ d ∣ B)
theorem IsG.of_zero {a A B : Int} (h0 : 0 ≤ a) (h : CD a 0 A B) : IsG a A B := ⟨h0, fun d => by rw [← h d]; exact ⟨fun h => ⟨h, Int.dvd_zero d⟩, fun h => h.1⟩⟩
theorem IsG.one {g g' A B : Int} (h : IsG g A B) (h' : IsG g' A B) : g = g' :=
  Int.dvd_antisymm h.1 h'.1 ((h'.2 g).2 ((h.2 g).1 (Int.dvd_refl g))) ((h.2 g').2 ((h'.2 g').1 (Int.dvd_refl g')))
theorem IsG.cd {g a b A B : Int} (h : IsG g a b) (h' : CD a b A B) : IsG g A B := ⟨h.1, fun d => (h.2 d).trans (h' d)⟩
theorem between {N A B x0 y0 al be p q : Int} (hN : 0 < N) (eA : A = N * x0 + al) (eB : B = N * y0 + be) (a0 : 0 ≤ al) (a1 : al < N) (b0 : 0 ≤ be) (b1 : be < N) (hp : 0 ≤ p) (hq : q ≤ 0) :
    N * (p * x0 + q * y0 + q) ≤ p * A + q * B ∧ p * A + q * B ≤ N * (p * x0 + q * y0 + p) := by
  have h1 := Int.mul_nonneg hp a0
  have h2 := Int.mul_le_mul_of_nonneg_left (Int.le_of_lt a1) hp
  have h3 := Int.mul_nonneg (show 0 ≤ -q by omega) b0
  have h4 := Int.mul_le_mul_of_nonneg_left (Int.le_of_lt b1) (show 0 ≤ -q by omega)
  rw [Int.neg_mul] at h3
  rw [Int.neg_mul, Int.neg_mul] at h4
  have e : p * A + q * B = N * (p * x0 + q * y0) + p * al + q * be := by rw [eA, eB]; grind
  have e2 : N * (p * x0 + q * y0 + q) = N * (p * x0 + q * y0) + q * N := by grind
  have e3 : N * (p * x0 + q * y0 + p) = N * (p * x0 + q * y0) + p * N := by grind
  omega
end Num
namespace Go.Abs.Z
open Go Go.Abs Limb Num
def Signs (p q r s : Int) : Prop := (0 ≤ p ∧ q ≤ 0 ∧ r ≤ 0 ∧ 0 ≤ s) ∨ (p ≤ 0 ∧ 0 ≤ q ∧ 0 ≤ r ∧ s ≤ 0)
def Small (p : Int) : Prop := -2147483647 ≤ p ∧ p ≤ 2147483647
structure Heads (N A B x0 y0 x y p q r s : Int) : Prop where
  sg : Signs p q r s
  sp : Small p
  sq : Small q
  sr : Small r
  ss : Small s
  ex : x = p * x0 + q * y0
  ey : y = r * x0 + s * y0
  xp : 0 ≤ x + p
  xq : 0 ≤ x + q
  yr : 0 ≤ y + r
  ys : 0 ≤ y + s
  xb : x < 4611686018427387904
  yb : y < 4611686018427387904
  b0 : 0 ≤ r * A + s * B
  bB : r * A + s * B ≤ B
  fl : q = 0 ∨ (p * A + q * B ≤ B ∧ r * A + s * B < p * A + q * B)
  cd : CD (p * A + q * B) (r * A + s * B) A B
def Told (A B p q r s : Int) : Prop := q = 0 ∨ (Unlike p q ∧ Unlike r s ∧ 0 ≤ r * A + s * B ∧ r * A + s * B < p * A + q * B ∧ p * A + q * B ≤ B ∧ CD (p * A + q * B) (r * A + s * B) A B)
theorem Heads.told {N A B x0 y0 x y p q r s : Int} (h : Heads N A B x0 y0 x y p q r s) : Told A B p q r s := by
  rcases h.fl with hq | ⟨h1, h2⟩
  · exact .inl hq
  · have sp := h.sp; have sq := h.sq; have sr := h.sr; have ss := h.ss
    unfold Small at sp sq sr ss
    refine .inr ⟨?_, ?_, h.b0, h2, h1, h.cd⟩
    · rcases h.sg with g | g
      · exact .inl ⟨by omega, by omega, by omega, by omega⟩
      · exact .inr ⟨by omega, by omega, by omega, by omega⟩
    · rcases h.sg with g | g
      · exact .inr ⟨by omega, by omega, by omega, by omega⟩
      · exact .inl ⟨by omega, by omega, by omega, by omega⟩
theorem Heads.sizes {N A B x0 y0 x y p q r s t : Int} (h : Heads N A B x0 y0 x y p q r s) (hr : 0 < y + r) (hs : 0 < y + s) (h1 : t = (x + p) / (y + r)) (h2 : t = (x + q) / (y + s)) :
    0 ≤ t ∧ t ≤ 4611686020574871552 ∧ 0 ≤ t * y ∧ t * y ≤ 4611686020574871552 ∧ -4611686020574871552 ≤ t * r ∧ t * r ≤ 4611686020574871552 ∧ -4611686020574871552 ≤ t * s ∧ t * s ≤ 4611686020574871552 ∧
      t * (y + r) ≤ x + p ∧ x + p < t * (y + r) + (y + r) ∧ t * (y + s) ≤ x + q ∧ x + q < t * (y + s) + (y + s) := by
  have sp := h.sp; have sq := h.sq
  unfold Small at sp sq
  have xp := h.xp; have xq := h.xq; have xb := h.xb
  have t0 : 0 ≤ t := by rw [h1]; exact Int.ediv_nonneg xp (by omega)
  have l1 : t * (y + r) ≤ x + p := by rw [h1]; exact Int.ediv_mul_le _ (by omega)
  have l2 : x + p < (t + 1) * (y + r) := by rw [h1]; exact Int.lt_ediv_add_one_mul_self _ hr
  have l3 : t * (y + s) ≤ x + q := by rw [h2]; exact Int.ediv_mul_le _ (by omega)
  have l4 : x + q < (t + 1) * (y + s) := by rw [h2]; exact Int.lt_ediv_add_one_mul_self _ hs
  have tle : t ≤ t * (y + r) := by
    have := Int.mul_le_mul_of_nonneg_left (show 1 ≤ y + r by omega) t0
    omega
  rw [Int.add_mul, Int.one_mul] at l2 l4
  have er : t * (y + r) = t * y + t * r := Int.mul_add ..
  have es : t * (y + s) = t * y + t * s := Int.mul_add ..
  have hy : 0 ≤ y := by rcases h.sg with g | g <;> omega
  have ty := Int.mul_nonneg t0 hy
  rcases h.sg with ⟨g1, g2, g3, g4⟩ | ⟨g1, g2, g3, g4⟩
  · have m1 := Int.mul_nonneg t0 g4
    have m2 := Int.mul_nonneg t0 (show 0 ≤ -r by omega)
    rw [Int.mul_neg] at m2
    have m3 := Int.mul_nonneg t0 (show 0 ≤ y + r by omega)
    refine ⟨t0, by omega, ty, by omega, by omega, by omega, by omega, by omega, l1, l2, l3, l4⟩
  · have m1 := Int.mul_nonneg t0 g3
    have m2 := Int.mul_nonneg t0 (show 0 ≤ -s by omega)
    rw [Int.mul_neg] at m2
    have m3 := Int.mul_nonneg t0 (show 0 ≤ y + s by omega)
    refine ⟨t0, by omega, ty, by omega, by omega, by omega, by omega, by omega, l1, l2, l3, l4⟩
theorem Heads.next {N A B x0 y0 x y p q r s t al be : Int} (hN : 0 < N) (eA : A = N * x0 + al) (eB : B = N * y0 + be) (a0 : 0 ≤ al) (a1 : al < N) (b0 : 0 ≤ be) (b1 : be < N)
    (h : Heads N A B x0 y0 x y p q r s) (hr : 0 < y + r) (hs : 0 < y + s) (h1 : t = (x + p) / (y + r)) (h2 : t = (x + q) / (y + s)) (su : Small (p - t * r)) (sv : Small (q - t * s)) :
    Heads N A B x0 y0 y (x - t * y) r s (p - t * r) (q - t * s) ∧ x - t * y + (q - t * s) < y + s := by
  obtain ⟨t0, _, ty, _, _, _, _, _, l1, l2, l3, l4⟩ := h.sizes hr hs h1 h2
  have er : t * (y + r) = t * y + t * r := Int.mul_add ..
  have es : t * (y + s) = t * y + t * s := Int.mul_add ..
  have eb : (p - t * r) * A + (q - t * s) * B = (p * A + q * B) - t * (r * A + s * B) := by grind
  have euc : 0 ≤ (p * A + q * B) - t * (r * A + s * B) ∧ (p * A + q * B) - t * (r * A + s * B) < r * A + s * B := by
    rcases h.sg with ⟨g1, g2, g3, g4⟩ | ⟨g1, g2, g3, g4⟩
    · obtain ⟨c1, c2⟩ := between hN eA eB a0 a1 b0 b1 g1 g2
      obtain ⟨c3, c4⟩ := between hN eB eA b0 b1 a0 a1 g4 g3
      rw [← h.ex] at c1 c2
      have e1 : s * y0 + r * x0 = y := by rw [h.ey]; omega
      have e2 : s * B + r * A = r * A + s * B := Int.add_comm ..
      rw [e1, e2] at c3 c4
      exact euclid_step hN c1 c2 c3 c4 t0 l3 (by rw [Int.add_mul, Int.one_mul]; exact l2)
    · obtain ⟨c1, c2⟩ := between hN eB eA b0 b1 a0 a1 g2 g1
      obtain ⟨c3, c4⟩ := between hN eA eB a0 a1 b0 b1 g3 g4
      have e1 : q * y0 + p * x0 = x := by rw [h.ex]; omega
      have e2 : q * B + p * A = p * A + q * B := Int.add_comm ..
      rw [e1, e2] at c1 c2
      rw [← h.ey] at c3 c4
      exact euclid_step hN c1 c2 c3 c4 t0 l1 (by rw [Int.add_mul, Int.one_mul]; exact l4)
  refine ⟨⟨?_, h.sr, h.ss, su, sv, h.ey, ?_, by omega, by omega, by omega, by omega, h.yb, by have := h.xb; omega, by rw [eb]; exact euc.1, ?_, .inr ⟨h.bB, by rw [eb]; exact euc.2⟩, ?_⟩, by omega⟩
  · rcases h.sg with ⟨g1, g2, g3, g4⟩ | ⟨g1, g2, g3, g4⟩
    · have m1 := Int.mul_nonneg t0 g4
      have m2 := Int.mul_nonneg t0 (show 0 ≤ -r by omega)
      rw [Int.mul_neg] at m2
      exact .inr ⟨g3, g4, by omega, by omega⟩
    · have m1 := Int.mul_nonneg t0 g3
      have m2 := Int.mul_nonneg t0 (show 0 ≤ -s by omega)
      rw [Int.mul_neg] at m2
      exact .inl ⟨g3, g4, by omega, by omega⟩
  · rw [h.ex, h.ey]; grind
  · rw [eb]; have := h.bB; omega
  · rw [eb]; exact h.cd.step t
end Go.Abs.Z
namespace Go.Abs.Z
open Go Go.Abs Limb Num
theorem bneT {a b : Int} (h : a ≠ b) {α : Type} (x y : α) : cond (a != b) x y = x := by
  have : (a != b) = true := by simpa using h
  rw [this]; rfl
theorem bneF {a b : Int} (h : a = b) {α : Type} (x y : α) : cond (a != b) x y = y := by
  subst h; simp
theorem max4 (u v : Int) : (bif true then List.foldl imax u [0 - u, v, 0 - v] else List.foldl imin u [0 - u, v, 0 - v]) < 2147483648 ↔ (Small u ∧ Small v) := by
  simp only [cond_true, List.foldl_cons, List.foldl_nil]
  unfold imax Small
  split <;> split <;> split <;> omega
theorem loop91 {a b : List Int} {N A B x0 y0 al be : Int} (hN : 0 < N) (eA : A = N * x0 + al) (eB : B = N * y0 + be) (a0 : 0 ≤ al) (a1 : al < N) (b0 : 0 ≤ be) (b1 : be < N) :
    ∀ (G : Nat) (x y p q r s : Int), (y + s).toNat ≤ G → Heads N A B x0 y0 x y p q r s →
    ∃ p' q' r' s' : Int, Evt (fun f => f91_4 a b f x y p q r s) (p', q', r', s') ∧ Told A B p' q' r' s' := by
  intro G
  induction G with
  | zero => ?_
  | succ G ih => ?_
  all_goals
    intro x y p q r s hG h
    have sp := h.sp; have sq := h.sq; have sr := h.sr; have ss := h.ss
    have xp := h.xp; have xq := h.xq; have yr := h.yr; have ys := h.ys; have xb := h.xb; have yb := h.yb
    unfold Small at sp sq sr ss
    have w1 : IntKind.i64.wrap (y + r) = y + r := by rw [wi64] <;> omega
    have w2 : IntKind.i64.wrap (y + s) = y + s := by rw [wi64] <;> omega
    have w3 : IntKind.i64.wrap (x + p) = x + p := by rw [wi64] <;> omega
    have w4 : IntKind.i64.wrap (x + q) = x + q := by rw [wi64] <;> omega
    by_cases hr : y + r = 0
    · refine ⟨p, q, r, s, Evt.last fun f => ?_, h.told⟩
      show b91_4 a b (f91_4 a b f) x y p q r s = _
      unfold b91_4
      rw [w1]
      exact bneF hr _ _
    by_cases hs : y + s = 0
    · refine ⟨p, q, r, s, Evt.last fun f => ?_, h.told⟩
      show b91_4 a b (f91_4 a b f) x y p q r s = _
      unfold b91_4
      rw [w1, w2]
      exact (bneT hr _ _).trans (bneF hs _ _)
    have hx : 0 ≤ x := by rcases h.sg with g | g <;> omega
    have q1 : 0 ≤ (x + p) / (y + r) := Int.ediv_nonneg xp (by omega)
    have q2 : 0 ≤ (x + q) / (y + s) := Int.ediv_nonneg xq (by omega)
    have q3 : (x + p) / (y + r) ≤ x + p := Int.ediv_le_self _ xp
    have q4 : (x + q) / (y + s) ≤ x + q := Int.ediv_le_self _ xq
    have t1 : IntKind.i64.wrap ((x + p).tdiv (y + r)) = (x + p) / (y + r) := by rw [Int.tdiv_eq_ediv_of_nonneg xp, wi64] <;> omega
    have t2 : IntKind.i64.wrap ((x + q).tdiv (y + s)) = (x + q) / (y + s) := by rw [Int.tdiv_eq_ediv_of_nonneg xq, wi64] <;> omega
    by_cases ht : (x + p) / (y + r) = (x + q) / (y + s)
    · obtain ⟨z0, z1, z2, z3, z4, z5, z6, z7, z8, z9, z10, z11⟩ := h.sizes (t := (x + p) / (y + r)) (by omega) (by omega) rfl ht
      generalize hT : (x + p) / (y + r) = t at *
      have v1 : IntKind.i64.wrap (t * r) = t * r := by rw [wi64] <;> omega
      have v2 : IntKind.i64.wrap (t * s) = t * s := by rw [wi64] <;> omega
      have v3 : IntKind.i64.wrap (t * y) = t * y := by rw [wi64] <;> omega
      have v4 : IntKind.i64.wrap (p - t * r) = p - t * r := by rw [wi64] <;> omega
      have v5 : IntKind.i64.wrap (q - t * s) = q - t * s := by rw [wi64] <;> omega
      have v6 : IntKind.i64.wrap (x - t * y) = x - t * y := by rw [wi64] <;> omega
      have v7 : IntKind.i64.wrap (0 - (p - t * r)) = 0 - (p - t * r) := by rw [wi64] <;> omega
      have v8 : IntKind.i64.wrap (0 - (q - t * s)) = 0 - (q - t * s) := by rw [wi64] <;> omega
      have m4 := max4 (p - t * r) (q - t * s)
      by_cases hm : Small (p - t * r) ∧ Small (q - t * s)
      · obtain ⟨hn, hd⟩ := h.next hN eA eB a0 a1 b0 b1 (t := t) (by omega) (by omega) hT.symm ht hm.1 hm.2
        have yn := hn.ys
        first
        | (exfalso; omega)
        | (obtain ⟨p', q', r', s', g1, g2⟩ := ih _ _ _ _ _ _ (by omega) hn
           refine ⟨p', q', r', s', g1.step fun f => ?_, g2⟩
           show b91_4 a b (f91_4 a b f) x y p q r s = _
           unfold b91_4
           simp only [w1, w2, w3, w4, t1, t2, hT, ← ht, v1, v2, v3, v4, v5, v6, v7, v8]
           rw [bneT hr, bneT hs, cF hr, cF hs, bneF rfl, cF (by rw [ge_iff_le, Int.not_le]; exact m4.2 hm)])
      · refine ⟨p, q, r, s, Evt.last fun f => ?_, h.told⟩
        show b91_4 a b (f91_4 a b f) x y p q r s = _
        unfold b91_4
        simp only [w1, w2, w3, w4, t1, t2, hT, ← ht, v1, v2, v3, v4, v5, v6, v7, v8]
        rw [bneT hr, bneT hs, cF hr, cF hs, bneF rfl, cT (by rw [ge_iff_le, ← Int.not_lt]; exact fun hh => hm (m4.1 hh))]
    · refine ⟨p, q, r, s, Evt.last fun f => ?_, h.told⟩
      show b91_4 a b (f91_4 a b f) x y p q r s = _
      unfold b91_4
      simp only [w1, w2, w3, w4, t1, t2]
      rw [bneT hr, bneT hs, cF hr, cF hs, bneT ht]
theorem run91 {a b : List Int} {A B : Int} (ha : Is a A) (hb : Is b B) (hla : a.length ≤ 1073741824) (hlb : b.length ≤ 1073741824) (hAB : B ≤ A) : ∃ p q r s : Int, S91 a b = some (p, q, r, s) ∧ Told A B p q r s := by
  have hB := hb.nonneg
  obtain ⟨n, g1, ⟨g2, g3, _⟩, g4⟩ := run107 ha hla
  obtain ⟨m, hm⟩ : ∃ m : Nat, (bif true then List.foldl imax 0 [IntKind.i64.wrap (n - 62)] else List.foldl imin 0 [IntKind.i64.wrap (n - 62)]) = (m : Int) ∧ n.toNat ≤ m + 62 ∧ m ≤ 34359738368 := by
    rw [wi64 (by omega) (by omega)]
    simp only [cond_true, List.foldl_cons, List.foldl_nil]
    unfold imax
    by_cases h : n - 62 > 0
    · rw [if_pos h]; exact ⟨(n - 62).toNat, by omega, by omega, by omega⟩
    · rw [if_neg h]; exact ⟨0, rfl, by omega, by omega⟩
  have hlt : A < 2 ^ (m + 62) := by
    have : (2 : Int) ^ n.toNat ≤ 2 ^ (m + 62) := by
      obtain ⟨k, hk⟩ := Nat.exists_eq_add_of_le hm.2.1
      rw [hk, Int.pow_add]
      have h1 : (0 : Int) < 2 ^ n.toNat := Int.pow_pos (by decide)
      have h2 : (0 : Int) < 2 ^ k := Int.pow_pos (by decide)
      have := Int.mul_le_mul_of_nonneg_left (show (1 : Int) ≤ 2 ^ k by omega) (Int.le_of_lt h1)
      omega
    omega
  have hp : (0 : Int) < 2 ^ m := Int.pow_pos (by decide)
  have e1 := run108 ha.ok ha.val hla hm.2.2 hlt
  have e2 := run108 hb.ok hb.val hlb hm.2.2 (show B < 2 ^ (m + 62) by omega)
  have d1 := Int.mul_ediv_add_emod A (2 ^ m)
  have d2 := Int.mul_ediv_add_emod B (2 ^ m)
  have hx1 : A / 2 ^ m < 4611686018427387904 := Int.ediv_lt_of_lt_mul hp (by
    rw [Int.pow_add] at hlt; rw [Int.mul_comm]; exact hlt)
  have hx0 : 0 ≤ A / 2 ^ m := Int.ediv_nonneg (by omega) (Int.le_of_lt hp)
  have hy0 : 0 ≤ B / 2 ^ m := Int.ediv_nonneg hB (Int.le_of_lt hp)
  have hy1 : B / 2 ^ m ≤ A / 2 ^ m := Int.ediv_le_ediv hp hAB
  have start : Heads (2 ^ m) A B (A / 2 ^ m) (B / 2 ^ m) (A / 2 ^ m) (B / 2 ^ m) 1 0 0 1 :=
    ⟨.inl ⟨by decide, by decide, by decide, by decide⟩, ⟨by decide, by decide⟩, ⟨by decide, by decide⟩, ⟨by decide, by decide⟩, ⟨by decide, by decide⟩, by omega, by omega, by omega, by omega, by omega, by omega, hx1, by omega, by omega, by omega, .inl rfl, by
      have h1 : 1 * A + 0 * B = A := by omega
      have h2 : 0 * A + 1 * B = B := by omega
      rw [h1, h2]; exact CD.refl A B⟩
  obtain ⟨p, q, r, s, k1, k2⟩ := loop91 (a := a) (b := b) hp d1.symm d2.symm (Int.emod_nonneg _ (by omega)) (Int.emod_lt_of_pos _ hp) (Int.emod_nonneg _ (by omega)) (Int.emod_lt_of_pos _ hp) _ _ _ _ _ _ _ (Nat.le_refl _) start
  refine ⟨p, q, r, s, evv_eq (k1.same fun f => ?_), k2⟩
  show b91 a b (f91_4 a b f) = _
  unfold b91
  rw [g1]
  simp only [Option.bind_some]
  rw [hm.1, e1, e2]
  rfl
end Go.Abs.Z
namespace Go.Abs.Z
open Go Go.Abs Go.Proofs
noncomputable section
abbrev R82 : Type := TI × TI × (Int)
noncomputable def body82 : Go.Code := (Try.f82.body).getD Go.Code.skip
def h82 (p0 p1 : TI) : List (AO U) := []
def k82 : AV U → List (AO U) → Option R82 := fun v h => match v, h with | AV.tup [AV.imm 105 x0, AV.imm 105 x1, AV.int IntKind.i64 x2], [] => some (x0, x1, x2) | _, _ => none
def out82 : R82 → AV U := fun (x0, x1, x2) => AV.tup [AV.imm 105 x0, AV.imm 105 x1, AV.int IntKind.i64 x2]
def outh82 : R82 → List (AO U) := fun (x0, x1, x2) => []
def D82 : Nat → Dir := dirs [(12, ⟨[0, 1, 7, 8, 9, 10, 12], [], [], []⟩), (16, ⟨[0, 1, 8, 9, 13], [], [], []⟩)]
def b82 (p0 p1 : TI) (c12 : (Int) → TI → Int → TI → Option R82) (c16 : (Int) → TI → TI → Option R82)  : Option R82 :=
  (S61 p0).bind fun r0 =>
  cond (!r0)
  (some (([], [], 20)))
  ((S61 p1).bind fun r1 =>
  cond (!r1)
  (some (([], [], 20)))
  (cond ((↑p1.length : Int) == 0)
  (some (([], [], 3)))
  ((S96 p0).bind fun r2 =>
  (S96 p1).bind fun r3 =>
  cond (decide (IntKind.i64.wrap (r2 - r3) < 0))
  ((S81 p0).bind fun r4 =>
  some (([], r4, 0)))
  (cond (decide ((↑p0.length : Int) ≤ (↑p0.length : Int)))
  (cond (decide ((↑p0.length : Int) * (↑4 : Int) ≤ 140737488355328))
  (cond (decide (0 ≤ IntKind.i64.wrap ((↑p1.length : Int) + 1)))
  (cond (decide (IntKind.i64.wrap ((↑p1.length : Int) + 1) ≤ IntKind.i64.wrap ((↑p1.length : Int) + 1)))
  (cond (decide (IntKind.i64.wrap ((↑p1.length : Int) + 1) * (↑4 : Int) ≤ 140737488355328))
  ((S97 p0 (IntKind.i64.wrap (IntKind.i64.wrap (r2 - r3) + 1))).bind fun r5 =>
  c12 (IntKind.i64.wrap (r2 - r3)) (r5.fst) (0) (repI (IntKind.i64.wrap ((↑p1.length : Int) + 1)).toNat 0))
  (none))
  (none))
  (none))
  (none))
  (none)))))
def m82_12 (p0 p1 : TI) (v2 : Int) (v3 : TI) (v4 : Int) (v6 : TI) : S U := S.mk [AV.imm 105 p0, AV.imm 105 p1, AV.undef, AV.undef, AV.undef, AV.undef, AV.undef, AV.int IntKind.i64 v2, AV.row 0 105, AV.row 1 105, AV.imm 105 v3, AV.undef, AV.int IntKind.i64 v4, AV.undef, AV.undef, AV.undef, AV.undef, AV.undef, AV.undef, AV.undef, AV.undef, AV.undef, AV.undef, AV.undef, AV.undef, AV.undef, AV.undef, AV.undef, AV.undef, AV.undef, AV.undef, AV.undef, AV.undef, AV.undef, AV.undef, AV.undef, AV.undef, AV.undef, AV.undef, AV.undef, AV.undef, AV.undef, AV.undef, AV.undef, AV.undef, AV.undef, AV.undef, AV.undef, AV.undef, AV.undef, AV.undef, AV.undef, AV.undef, AV.undef, AV.undef, AV.undef, AV.undef, AV.undef, AV.undef, AV.undef, AV.undef, AV.undef, AV.undef, AV.undef, AV.undef, AV.undef, AV.undef, AV.undef, AV.undef, AV.undef, AV.undef, AV.undef, AV.undef, AV.undef, AV.undef, AV.undef, AV.undef, AV.undef, AV.undef, AV.undef, AV.undef, AV.undef, AV.undef, AV.undef, AV.undef, AV.undef, AV.undef, AV.undef, AV.undef, AV.undef, AV.undef, AV.undef] [AO.row 105 (repI (↑p0.length : Int).toNat 0), AO.row 105 v6]
def b82_12 (p0 p1 : TI) (c12 : (Int) → TI → Int → TI → Option R82) (c16 : (Int) → TI → TI → Option R82) (v2 : Int) (v3 : TI) (v4 : Int) (v6 : TI) : Option R82 :=
  cond (decide (v4 < (↑v3.length : Int)))
  (cond (decide (0 ≤ v4))
  (cond (decide (v4 < (↑v3.length : Int)))
  (cond (decide (v4.toNat < v3.length))
  (cond (decide (0 ≤ v4))
  (cond (decide (v4 < (↑v6.length : Int)))
  (cond (decide (v4.toNat < v6.length))
  (c12 (v2) (v3) (IntKind.i64.wrap (v4 + 1)) (v6.set v4.toNat (v3.getD v4.toNat (X.dflt 105))))
  (none))
  (none))
  (none))
  (none))
  (none))
  (none))
  (c16 (v2) (repI (↑p0.length : Int).toNat 0) (v6))
def m82_16 (p0 p1 : TI) (v2 : Int) (v3 v4 : TI) : S U := S.mk [AV.imm 105 p0, AV.imm 105 p1, AV.undef, AV.undef, AV.undef, AV.undef, AV.undef, AV.undef, AV.row 0 105, AV.row 1 105, AV.undef, AV.undef, AV.undef, AV.int IntKind.i64 v2, AV.undef, AV.undef, AV.undef, AV.undef, AV.undef, AV.undef, AV.undef, AV.undef, AV.undef, AV.undef, AV.undef, AV.undef, AV.undef, AV.undef, AV.undef, AV.undef, AV.undef, AV.undef, AV.undef, AV.undef, AV.undef, AV.undef, AV.undef, AV.undef, AV.undef, AV.undef, AV.undef, AV.undef, AV.undef, AV.undef, AV.undef, AV.undef, AV.undef, AV.undef, AV.undef, AV.undef, AV.undef, AV.undef, AV.undef, AV.undef, AV.undef, AV.undef, AV.undef, AV.undef, AV.undef, AV.undef, AV.undef, AV.undef, AV.undef, AV.undef, AV.undef, AV.undef, AV.undef, AV.undef, AV.undef, AV.undef, AV.undef, AV.undef, AV.undef, AV.undef, AV.undef, AV.undef, AV.undef, AV.undef, AV.undef, AV.undef, AV.undef, AV.undef, AV.undef, AV.undef, AV.undef, AV.undef, AV.undef, AV.undef, AV.undef, AV.undef, AV.undef, AV.undef] [AO.row 105 v3, AO.row 105 v4]
def b82_16 (p0 p1 : TI) (c12 : (Int) → TI → Int → TI → Option R82) (c16 : (Int) → TI → TI → Option R82) (v2 : Int) (v3 v4 : TI) : Option R82 :=
  cond (decide (v2 ≥ 0))
  ((S99 p0 v2).bind fun r0 =>
  (S98 r0 v4).bind fun r1 =>
  (S100 p1 r1).bind fun r2 =>
  cond (r2.fst)
  (cond (decide (0 ≤ IntKind.i64.wrap (v2.tdiv 32)))
  (cond (decide (IntKind.i64.wrap (v2.tdiv 32) < (↑v3.length : Int)))
  (cond (decide ((IntKind.i64.wrap (v2.tdiv 32)).toNat < v3.length))
  (cond (decide (0 ≤ IntKind.u64.wrap (v2.tmod 32)))
  (cond (decide (0 ≤ IntKind.i64.wrap (v2.tdiv 32)))
  (cond (decide (IntKind.i64.wrap (v2.tdiv 32) < (↑v3.length : Int)))
  (cond (decide ((IntKind.i64.wrap (v2.tdiv 32)).toNat < v3.length))
  (c16 (IntKind.i64.wrap (v2 - 1)) (v3.set (IntKind.i64.wrap (v2.tdiv 32)).toNat (Go.bits Go.BinOp.or IntKind.u32 (v3.getD (IntKind.i64.wrap (v2.tdiv 32)).toNat (X.dflt 105)) (shl IntKind.u32 1 (IntKind.u64.wrap (v2.tmod 32))))) (r2.snd))
  (none))
  (none))
  (none))
  (none))
  (none))
  (none))
  (none))
  (c16 (IntKind.i64.wrap (v2 - 1)) (v3) (r2.snd)))
  ((S81 v3).bind fun r3 =>
  (S81 v4).bind fun r4 =>
  some ((r3, r4, 0)))
theorem hk82 : ∀ v h' r, k82 v h' = some r → v = out82 r ∧ h' = outh82 r := by
  intro v h' r h
  unfold k82 at h
  split at h
  · injection h with h; subst h; exact ⟨rfl, rfl⟩
  · cases h
abbrev q82 : Prim U R82 := prims X [⟨61, fun _ => true, [.lend], F61 S61⟩, ⟨81, fun _ => true, [.frz], F81 S81⟩, ⟨96, fun _ => true, [.lend], F96 S96⟩, ⟨97, fun _ => true, [.lend], F97 S97⟩, ⟨98, fun _ => true, [.hand], F98 S98⟩, ⟨99, fun _ => true, [.lend], F99 S99⟩, ⟨100, fun _ => true, [.hand, .lend], F100 S100⟩]
theorem s82 (c : Nat → S U → Option R82) (p0 p1 : TI) : seg TP X q82 [12, 16] (fun q st => c q (keepD D82 (h82 p0 p1).length q st)) body82 (finH TP Try.f82.results.toList (h82 p0 p1).length false k82) (start [.imm 105 p0, .imm 105 p1] Try.f82.ntmps (h82 p0 p1)) = b82 p0 p1 (fun v2 v3 v4 v6 => c 12 (m82_12 p0 p1 v2 v3 v4 v6)) (fun v2 v3 v4 => c 16 (m82_16 p0 p1 v2 v3 v4)) := by kernel_rfl
theorem s82_12 (c : Nat → S U → Option R82) (p0 p1 : TI) (v2 : Int) (v3 : TI) (v4 : Int) (v6 : TI) : res TP X q82 [12, 16] (fun q st => c q (keepD D82 (h82 p0 p1).length q st)) 12 body82 (finH TP Try.f82.results.toList (h82 p0 p1).length false k82) (m82_12 p0 p1 v2 v3 v4 v6) = b82_12 p0 p1 (fun v2 v3 v4 v6 => c 12 (m82_12 p0 p1 v2 v3 v4 v6)) (fun v2 v3 v4 => c 16 (m82_16 p0 p1 v2 v3 v4)) v2 v3 v4 v6 := by kernel_rfl
theorem s82_16 (c : Nat → S U → Option R82) (p0 p1 : TI) (v2 : Int) (v3 v4 : TI) : res TP X q82 [12, 16] (fun q st => c q (keepD D82 (h82 p0 p1).length q st)) 16 body82 (finH TP Try.f82.results.toList (h82 p0 p1).length false k82) (m82_16 p0 p1 v2 v3 v4) = b82_16 p0 p1 (fun v2 v3 v4 v6 => c 12 (m82_12 p0 p1 v2 v3 v4 v6)) (fun v2 v3 v4 => c 16 (m82_16 p0 p1 v2 v3 v4)) v2 v3 v4 := by kernel_rfl
mutual
def f82_12 (p0 p1 : TI) : Nat → Int → TI → Int → TI → Option R82
  | 0 => fun _ _ _ _ => none
  | k + 1 => b82_12 p0 p1 (f82_12 p0 p1 k) (f82_16 p0 p1 k)
def f82_16 (p0 p1 : TI) : Nat → Int → TI → TI → Option R82
  | 0 => fun _ _ _ => none
  | k + 1 => b82_16 p0 p1 (f82_12 p0 p1 k) (f82_16 p0 p1 k)
end
def f82 (k : Nat) (p0 p1 : TI) : Option R82 := b82 p0 p1 (f82_12 p0 p1 k) (f82_16 p0 p1 k)
theorem e82 (p0 p1 : TI) : ∀ k, ((fun v2 v3 v4 v6 => cutG TP X q82 [12, 16] D82 (h82 p0 p1).length body82 (finH TP Try.f82.results.toList (h82 p0 p1).length false k82) k 12 (m82_12 p0 p1 v2 v3 v4 v6)) = f82_12 p0 p1 k) ∧ ((fun v2 v3 v4 => cutG TP X q82 [12, 16] D82 (h82 p0 p1).length body82 (finH TP Try.f82.results.toList (h82 p0 p1).length false k82) k 16 (m82_16 p0 p1 v2 v3 v4)) = f82_16 p0 p1 k)
  | 0 => ⟨rfl, rfl⟩
  | k + 1 => by
    have ih := e82 p0 p1 k
    refine ⟨?_, ?_⟩
    · funext v2 v3 v4 v6
      refine (if_pos (by kernel_rfl)).trans ?_
      rw [s82_12]
      simp only [ih]
      rfl
    · funext v2 v3 v4
      refine (if_pos (by kernel_rfl)).trans ?_
      rw [s82_16]
      simp only [ih]
      rfl
theorem pure82 (p0 p1 : TI) (pok : PrmOK TP X q82) (k : Nat) (r : R82) (h : f82 k p0 p1 = some r) : PureH TP X 82 [.imm 105 p0, .imm 105 p1] (h82 p0 p1) (out82 r) (outh82 r) :=
  pure_gen good k (fn := Try.f82) (body := body82) (prim := q82) (D := D82) (cuts := [12, 16]) (h := h82 p0 p1) (own := false) (by kernel_rfl) (by kernel_rfl) (by decide +kernel) pok hk82 (by
    rw [s82]
    have ih := e82 p0 p1 k
    simp only [ih]
    exact h)
def F82 {R : Type} (spec : TI → TI → Option R82) : Fn U R := fun args h k => match args, h with | [.imm 105 p0, .imm 105 p1], [] => (spec p0 p1).bind fun r => k (out82 r) (outh82 r) | _, _ => none
theorem ok82 {R : Type} (spec : TI → TI → Option R82) (hp : ∀ (p0 : TI) (p1 : TI) (r : R82), spec p0 p1 = some r → PureH TP X 82 [.imm 105 p0, .imm 105 p1] (h82 p0 p1) (out82 r) (outh82 r)) : FnOK TP X 82 (F82 spec : Fn U R) := by
  intro args h k r hh
  unfold F82 at hh
  split at hh
  · obtain ⟨x, h1, h2⟩ := Option.bind_eq_some_iff.1 hh
    exact ⟨_, _, h2, hp _ _ _ h1⟩
  · cases hh
theorem pok82 : PrmOK TP X q82 := prims_cons good okS61 (prims_cons good okS81 (prims_cons good okS96 (prims_cons good okS97 (prims_cons good okS98 (prims_cons good okS99 (prims_cons good okS100 (prims_nil TP X mixed)))))))
noncomputable def S82 (p0 p1 : TI) : Option R82 := evv fun k => f82 k p0 p1
theorem okS82 {R : Type} : FnOK TP X 82 (F82 S82 : Fn U R) := ok82 S82 fun p0 p1 r h => by
  obtain ⟨k, hk⟩ := evv_fuel h
  exact pure82 p0 p1 pok82 k r hk
abbrev R79 : Type := TI
noncomputable def body79 : Go.Code := (Try.f79.body).getD Go.Code.skip
def h79 (p0 p1 : TI) : List (AO U) := []
def k79 : AV U → List (AO U) → Option R79 := fun v h => match v, h with | AV.imm 105 x0, [] => some x0 | _, _ => none
def out79 : R79 → AV U := fun x0 => AV.imm 105 x0
def outh79 : R79 → List (AO U) := fun x0 => []
def D79 : Nat → Dir := dirs [(3, ⟨[0, 1], [], [], []⟩), (13, ⟨[13, 14], [], [], []⟩)]
def b79 (p0 p1 : TI) (c3 : TI → TI → Option R79) (c13 : (Int) → Int → Option R79)  : Option R79 :=
  (S90 p0 p1).bind fun r0 =>
  cond (decide (r0 < 0))
  (c3 (p1) (p0))
  (c3 (p0) (p1))
def m79_3 (p0 p1 v0 v1 : TI) : S U := S.mk [AV.imm 105 v0, AV.imm 105 v1, AV.undef, AV.undef, AV.undef, AV.undef, AV.undef, AV.undef, AV.undef, AV.undef, AV.undef, AV.undef, AV.undef, AV.undef, AV.undef, AV.undef, AV.undef, AV.undef, AV.undef, AV.undef, AV.undef, AV.undef, AV.undef, AV.undef, AV.undef, AV.undef, AV.undef, AV.undef, AV.undef, AV.undef, AV.undef, AV.undef, AV.undef, AV.undef, AV.undef, AV.undef, AV.undef, AV.undef, AV.undef, AV.undef, AV.undef, AV.undef, AV.undef, AV.undef, AV.undef, AV.undef, AV.undef, AV.undef, AV.undef, AV.undef, AV.undef, AV.undef, AV.undef, AV.undef, AV.undef, AV.undef, AV.undef, AV.undef, AV.undef, AV.undef, AV.undef, AV.undef, AV.undef, AV.undef, AV.undef, AV.undef, AV.undef, AV.undef, AV.undef, AV.undef, AV.undef, AV.undef, AV.undef, AV.undef, AV.undef] []
def b79_3 (p0 p1 : TI) (c3 : TI → TI → Option R79) (c13 : (Int) → Int → Option R79) (v0 v1 : TI) : Option R79 :=
  cond (decide ((↑v1.length : Int) > 2))
  ((S91 v0 v1).bind fun r0 =>
  cond (r0.snd.fst == 0)
  ((S92 v0 v1).bind fun r1 =>
  c3 (v1) (r1.snd))
  ((S93 v0 v1 r0.fst r0.snd.fst).bind fun r2 =>
  (S93 v0 v1 r0.snd.snd.fst r0.snd.snd.snd).bind fun r3 =>
  c3 (r2) (r3)))
  (cond ((↑v1.length : Int) == 0)
  (cond (decide ((0 + v0.length) * 4 ≤ 140737488355328))
  (some ([] ++ v0))
  (none))
  ((S92 v0 v1).bind fun r4 =>
  (S94 v1).bind fun r5 =>
  (S94 r4.snd).bind fun r6 =>
  c13 (r5) (r6)))
def m79_13 (p0 p1 : TI) (v0 v1 : Int) : S U := S.mk [AV.undef, AV.undef, AV.undef, AV.undef, AV.undef, AV.undef, AV.undef, AV.undef, AV.undef, AV.undef, AV.undef, AV.undef, AV.undef, AV.int IntKind.u64 v0, AV.int IntKind.u64 v1, AV.undef, AV.undef, AV.undef, AV.undef, AV.undef, AV.undef, AV.undef, AV.undef, AV.undef, AV.undef, AV.undef, AV.undef, AV.undef, AV.undef, AV.undef, AV.undef, AV.undef, AV.undef, AV.undef, AV.undef, AV.undef, AV.undef, AV.undef, AV.undef, AV.undef, AV.undef, AV.undef, AV.undef, AV.undef, AV.undef, AV.undef, AV.undef, AV.undef, AV.undef, AV.undef, AV.undef, AV.undef, AV.undef, AV.undef, AV.undef, AV.undef, AV.undef, AV.undef, AV.undef, AV.undef, AV.undef, AV.undef, AV.undef, AV.undef, AV.undef, AV.undef, AV.undef, AV.undef, AV.undef, AV.undef, AV.undef, AV.undef, AV.undef, AV.undef, AV.undef] []
def b79_13 (p0 p1 : TI) (c3 : TI → TI → Option R79) (c13 : (Int) → Int → Option R79) (v0 v1 : Int) : Option R79 :=
  cond (decide (v1 > 0))
  (cond (decide (v1 = 0))
  (none)
  (c13 (v1) (v0.tmod v1)))
  ((S95 v0).bind fun r0 =>
  some (r0))
theorem hk79 : ∀ v h' r, k79 v h' = some r → v = out79 r ∧ h' = outh79 r := by
  intro v h' r h
  unfold k79 at h
  split at h
  · injection h with h; subst h; exact ⟨rfl, rfl⟩
  · cases h
abbrev q79 : Prim U R79 := prims X [⟨90, fun _ => true, [.lend, .lend], F90 S90⟩, ⟨91, fun _ => true, [.lend, .lend], F91 S91⟩, ⟨92, fun _ => true, [.lend, .lend], F92 S92⟩, ⟨93, fun _ => true, [.lend, .lend], F93 S93⟩, ⟨94, fun _ => true, [.lend], F94 S94⟩, ⟨95, fun _ => true, [], F95 S95⟩]
theorem s79 (c : Nat → S U → Option R79) (p0 p1 : TI) : seg TP X q79 [3, 13] (fun q st => c q (keepD D79 (h79 p0 p1).length q st)) body79 (finH TP Try.f79.results.toList (h79 p0 p1).length false k79) (start [.imm 105 p0, .imm 105 p1] Try.f79.ntmps (h79 p0 p1)) = b79 p0 p1 (fun v0 v1 => c 3 (m79_3 p0 p1 v0 v1)) (fun v0 v1 => c 13 (m79_13 p0 p1 v0 v1)) := by kernel_rfl
theorem s79_3 (c : Nat → S U → Option R79) (p0 p1 v0 v1 : TI) : res TP X q79 [3, 13] (fun q st => c q (keepD D79 (h79 p0 p1).length q st)) 3 body79 (finH TP Try.f79.results.toList (h79 p0 p1).length false k79) (m79_3 p0 p1 v0 v1) = b79_3 p0 p1 (fun v0 v1 => c 3 (m79_3 p0 p1 v0 v1)) (fun v0 v1 => c 13 (m79_13 p0 p1 v0 v1)) v0 v1 := by kernel_rfl
theorem s79_13 (c : Nat → S U → Option R79) (p0 p1 : TI) (v0 v1 : Int) : res TP X q79 [3, 13] (fun q st => c q (keepD D79 (h79 p0 p1).length q st)) 13 body79 (finH TP Try.f79.results.toList (h79 p0 p1).length false k79) (m79_13 p0 p1 v0 v1) = b79_13 p0 p1 (fun v0 v1 => c 3 (m79_3 p0 p1 v0 v1)) (fun v0 v1 => c 13 (m79_13 p0 p1 v0 v1)) v0 v1 := by kernel_rfl
mutual
def f79_3 (p0 p1 : TI) : Nat → TI → TI → Option R79
  | 0 => fun _ _ => none
  | k + 1 => b79_3 p0 p1 (f79_3 p0 p1 k) (f79_13 p0 p1 k)
def f79_13 (p0 p1 : TI) : Nat → Int → (Int) → Option R79
  | 0 => fun _ _ => none
  | k + 1 => b79_13 p0 p1 (f79_3 p0 p1 k) (f79_13 p0 p1 k)
end
def f79 (k : Nat) (p0 p1 : TI) : Option R79 := b79 p0 p1 (f79_3 p0 p1 k) (f79_13 p0 p1 k)
theorem e79 (p0 p1 : TI) : ∀ k, ((fun v0 v1 => cutG TP X q79 [3, 13] D79 (h79 p0 p1).length body79 (finH TP Try.f79.results.toList (h79 p0 p1).length false k79) k 3 (m79_3 p0 p1 v0 v1)) = f79_3 p0 p1 k) ∧ ((fun v0 v1 => cutG TP X q79 [3, 13] D79 (h79 p0 p1).length body79 (finH TP Try.f79.results.toList (h79 p0 p1).length false k79) k 13 (m79_13 p0 p1 v0 v1)) = f79_13 p0 p1 k)
  | 0 => ⟨rfl, rfl⟩
  | k + 1 => by
    have ih := e79 p0 p1 k
    refine ⟨?_, ?_⟩
    · funext v0 v1
      refine (if_pos (by kernel_rfl)).trans ?_
      rw [s79_3]
      simp only [ih]
      rfl
    · funext v0 v1
      refine (if_pos (by kernel_rfl)).trans ?_
      rw [s79_13]
      simp only [ih]
      rfl
theorem pure79 (p0 p1 : TI) (pok : PrmOK TP X q79) (k : Nat) (r : R79) (h : f79 k p0 p1 = some r) : PureH TP X 79 [.imm 105 p0, .imm 105 p1] (h79 p0 p1) (out79 r) (outh79 r) :=
  pure_gen good k (fn := Try.f79) (body := body79) (prim := q79) (D := D79) (cuts := [3, 13]) (h := h79 p0 p1) (own := false) (by kernel_rfl) (by kernel_rfl) (by decide +kernel) pok hk79 (by
    rw [s79]
    have ih := e79 p0 p1 k
    simp only [ih]
    exact h)
def F79 {R : Type} (spec : TI → TI → Option R79) : Fn U R := fun args h k => match args, h with | [.imm 105 p0, .imm 105 p1], [] => (spec p0 p1).bind fun r => k (out79 r) (outh79 r) | _, _ => none
theorem ok79 {R : Type} (spec : TI → TI → Option R79) (hp : ∀ (p0 : TI) (p1 : TI) (r : R79), spec p0 p1 = some r → PureH TP X 79 [.imm 105 p0, .imm 105 p1] (h79 p0 p1) (out79 r) (outh79 r)) : FnOK TP X 79 (F79 spec : Fn U R) := by
  intro args h k r hh
  unfold F79 at hh
  split at hh
  · obtain ⟨x, h1, h2⟩ := Option.bind_eq_some_iff.1 hh
    exact ⟨_, _, h2, hp _ _ _ h1⟩
  · cases hh
theorem pok79 : PrmOK TP X q79 := prims_cons good okS90 (prims_cons good okS91 (prims_cons good okS92 (prims_cons good okS93 (prims_cons good okS94 (prims_cons good okS95 (prims_nil TP X mixed))))))
noncomputable def S79 (p0 p1 : TI) : Option R79 := evv fun k => f79 k p0 p1
theorem okS79 {R : Type} : FnOK TP X 79 (F79 S79 : Fn U R) := ok79 S79 fun p0 p1 r h => by
  obtain ⟨k, hk⟩ := evv_fuel h
  exact pure79 p0 p1 pok79 k r hk
end
end Go.Abs.Z
namespace Go.Abs.Z
open Go Go.Abs Limb Num
theorem loop79_13 {a b : List Int} {A B : Int} : ∀ (G : Nat) (x y : Int), y.toNat ≤ G → 0 ≤ x → x < 18446744073709551616 → 0 ≤ y → y < 18446744073709551616 → CD x y A B →
    ∃ r g, Evt (fun f => f79_13 a b f x y) r ∧ Is r g ∧ IsG g A B := by
  intro G
  induction G with
  | zero => ?_
  | succ G ih => ?_
  all_goals
    intro x y hG x0 x1 y0 y1 hcd
    by_cases hy : 0 < y
    · have m0 := Int.emod_nonneg x (b := y) (by omega)
      have m1 := Int.emod_lt_of_pos x hy
      first
      | (exfalso; omega)
      | (have e : x - x / y * y = x % y := by have := Int.mul_ediv_add_emod x y; rw [Int.mul_comm] at this; omega
         obtain ⟨r, g, h1, h2, h3⟩ := ih y (x % y) (by omega) y0 y1 m0 (by omega) (by have := hcd.step (x / y); rwa [e] at this)
         refine ⟨r, g, h1.step fun f => ?_, h2, h3⟩
         show b79_13 a b (f79_3 a b f) (f79_13 a b f) x y = _
         unfold b79_13
         rw [Int.tmod_eq_emod_of_nonneg x0]
         simp (disch := omega) only [cT, cF])
    · have h0 : y = 0 := by omega
      subst h0
      obtain ⟨r, h1, h2⟩ := run95 x0 x1
      refine ⟨r, x, Evt.last fun f => ?_, h2, .of_zero x0 hcd⟩
      show b79_13 a b (f79_3 a b f) (f79_13 a b f) x 0 = _
      unfold b79_13
      rw [h1]
      simp (disch := omega) only [cF, Option.bind_some]
theorem two_limbs {v : List Int} {V : Int} (h : Is v V) (hl : v.length ≤ 2) : V < 18446744073709551616 := by
  have h1 := (val_bound h.ok).2
  have h2 := P_mono hl
  have h3 : P 2 = 18446744073709551616 := by rfl
  rw [h.val] at h1
  omega
theorem loop79 {p0 p1 : List Int} {A B : Int} {L : Nat} (hL : L ≤ 536870912) : ∀ (G : Nat) (a b : List Int) (A' B' : Int), B'.toNat ≤ G → Is a A' → Is b B' → B' ≤ A' → A' < P L → CD A' B' A B →
    ∃ r g, Evt (fun f => f79_3 p0 p1 f a b) r ∧ Is r g ∧ IsG g A B := by
  intro G
  induction G with
  | zero => ?_
  | succ G ih => ?_
  all_goals
    intro a b A' B' hG ha hb hle hP hcd
    have hA0 := ha.nonneg
    have hB0 := hb.nonneg
    have hla := len_of_val ha.ok ha.norm L (by rw [ha.val]; exact hP)
    have hlb := len_of_val hb.ok hb.norm L (by rw [hb.val]; omega)
    have em := Int.mul_ediv_add_emod A' B'
    by_cases h2 : 2 < b.length
    · have hbn : b ≠ [] := fun h => by rw [h] at h2; simp at h2
      have hBp : 0 < B' := by
        have : B' ≠ 0 := fun h => hbn (hb.nil_iff.2 h)
        omega
      first
      | (exfalso; omega)
      | (obtain ⟨p, q, r, s, g1, g2⟩ := run91 ha hb (by omega) (by omega) hle
         by_cases hq : q = 0
         · obtain ⟨r1, r2, g3, g4, g5⟩ := run92 ha hb hBp (by omega) (by omega)
           have m0 := Int.emod_nonneg A' (b := B') (by omega)
           have m1 := Int.emod_lt_of_pos A' hBp
           have e : A' - A' / B' * B' = A' % B' := by rw [Int.mul_comm] at em; omega
           obtain ⟨z, g, k1, k2, k3⟩ := ih b r2 B' (A' % B') (by omega) hb g5 (by omega) (by omega) (by have := hcd.step (A' / B'); rwa [e] at this)
           refine ⟨z, g, k1.step fun f => ?_, k2, k3⟩
           show b79_3 p0 p1 (f79_3 p0 p1 f) (f79_13 p0 p1 f) a b = _
           unfold b79_3
           rw [g1, g3]
           simp only [Option.bind_some]
           rw [cE hq]
           simp (disch := omega) only [cT]
         · obtain ⟨u1, u2, t0, t1, t2, t3⟩ := g2.resolve_left hq
           have hval := (val_bound ha.ok).2
           rw [ha.val] at hval
           have hPa := P_mono (show a.length ≤ a.length + 1 by omega)
           have hlab : b.length ≤ a.length := len_le_of_val hb.ok hb.norm ha.ok (by rw [hb.val, ha.val]; exact hle)
           obtain ⟨x, g3, g4⟩ := run93 ha hb (by omega) (by omega) u1 rfl (by omega) (by omega)
           obtain ⟨y, g5, g6⟩ := run93 ha hb (by omega) (by omega) u2 rfl (by omega) (by omega)
           obtain ⟨z, g, k1, k2, k3⟩ := ih x y _ _ (by omega) g4 g6 (by omega) (by omega) (t3.trans hcd)
           refine ⟨z, g, k1.step fun f => ?_, k2, k3⟩
           show b79_3 p0 p1 (f79_3 p0 p1 f) (f79_13 p0 p1 f) a b = _
           unfold b79_3
           rw [g1]
           simp only [Option.bind_some]
           rw [cN hq, g3, g5]
           simp (disch := omega) only [cT, Option.bind_some])
    · by_cases h0 : b.length = 0
      · have hbz : B' = 0 := hb.nil_iff.1 (List.eq_nil_of_length_eq_zero h0)
        subst hbz
        refine ⟨a, A', Evt.last fun f => ?_, ha, .of_zero hA0 hcd⟩
        show b79_3 p0 p1 (f79_3 p0 p1 f) (f79_13 p0 p1 f) a b = _
        unfold b79_3
        rw [List.nil_append]
        simp (disch := omega) only [cT, cF, cE]
      · have hbn : b ≠ [] := fun h => by rw [h] at h0; simp at h0
        have hBp : 0 < B' := by
          have : B' ≠ 0 := fun h => hbn (hb.nil_iff.2 h)
          omega
        obtain ⟨r1, r2, g3, g4, g5⟩ := run92 ha hb hBp (by omega) (by omega)
        have m0 := Int.emod_nonneg A' (b := B') (by omega)
        have m1 := Int.emod_lt_of_pos A' hBp
        have e : A' - A' / B' * B' = A' % B' := by rw [Int.mul_comm] at em; omega
        have hl2 : r2.length ≤ b.length := len_le_of_val g5.ok g5.norm hb.ok (by rw [g5.val, hb.val]; omega)
        have l1 := run94 hb.ok (by omega)
        have l2 := run94 g5.ok (by omega)
        rw [hb.val] at l1
        rw [g5.val] at l2
        have hB2 := two_limbs hb (by omega)
        obtain ⟨z, g, k1, k2, k3⟩ := loop79_13 (a := p0) (b := p1) (A := A) (B := B) _ B' (A' % B') (Nat.le_refl _) hB0 hB2 m0 (by omega) (by have := hcd.step (A' / B'); rwa [e] at this)
        refine ⟨z, g, k1.step fun f => ?_, k2, k3⟩
        show b79_3 p0 p1 (f79_3 p0 p1 f) (f79_13 p0 p1 f) a b = _
        unfold b79_3
        rw [g3]
        simp only [Option.bind_some]
        rw [l1, l2]
        simp (disch := omega) only [cF, cN, Option.bind_some]
theorem run79 {a b : List Int} {A B : Int} (ha : Is a A) (hb : Is b B) (hla : a.length ≤ 536870912) (hlb : b.length ≤ 536870912) : ∃ r g, S79 a b = some r ∧ Is r g ∧ IsG g A B := by
  have hc := run90 ha hb (by omega)
  have hA := (val_bound ha.ok).2
  have hB := (val_bound hb.ok).2
  rw [ha.val] at hA
  rw [hb.val] at hB
  have pA := P_mono hla
  have pB := P_mono hlb
  by_cases h : A < B
  · obtain ⟨r, g, h1, h2, h3⟩ := loop79 (p0 := a) (p1 := b) (A := A) (B := B) (L := 536870912) (by omega) _ b a B A (Nat.le_refl _) hb ha (by omega) (by omega) (CD.swap A B)
    refine ⟨r, g, evv_eq (h1.same fun f => ?_), h2, h3⟩
    show b79 a b (f79_3 a b f) (f79_13 a b f) = _
    unfold b79
    rw [hc]
    simp only [Option.bind_some]
    exact cT (by unfold cmpI; rw [if_pos h]; decide) _ _
  · obtain ⟨r, g, h1, h2, h3⟩ := loop79 (p0 := a) (p1 := b) (A := A) (B := B) (L := 536870912) (by omega) _ a b A B (Nat.le_refl _) ha hb (by omega) (by omega) (CD.refl A B)
    refine ⟨r, g, evv_eq (h1.same fun f => ?_), h2, h3⟩
    show b79 a b (f79_3 a b f) (f79_13 a b f) = _
    unfold b79
    rw [hc]
    simp only [Option.bind_some]
    exact cF (by unfold cmpI; rw [if_neg h]; split <;> decide) _ _
end Go.Abs.Z
namespace Go.Abs.Z
open Go Go.Abs Limb Num
theorem loop81_6 {p0 : List Int} (hl : p0.length ≤ 1073741824) {n : Nat} (hn : n ≤ p0.length) : ∀ (m i : Nat) (l : List Int), i + m = n → l.length = n → l.take i = p0.take i → Evt (fun f => f81_6 p0 f (n : Int) (i : Int) l) (p0.take n)
  | 0, i, l, hi, hll, he => Evt.last fun f => by
    show b81_6 p0 (f81_2 p0 f) (f81_6 p0 f) (n : Int) (i : Int) l = _
    unfold b81_6
    have : i = n := by omega
    subst this
    rw [List.take_of_length_le (by omega)] at he
    rw [he]
    simp (disch := omega) only [cF]
  | m + 1, i, l, hi, hll, he => by
    have e1 : IntKind.i64.wrap ((i : Int) + 1) = ((i + 1 : Nat) : Int) := by rw [wi64] <;> omega
    refine (loop81_6 hl hn m (i + 1) (l.set i (p0.getD i 0)) (by omega) (by simpa using hll) ?_).step fun f => ?_
    · apply List.ext_getElem?
      intro j
      rw [List.getElem?_take, List.getElem?_take]
      by_cases hj : j < i + 1
      · rw [if_pos hj, if_pos hj]
        by_cases e : i = j
        · subst e
          rw [List.getElem?_set_self (by omega), List.getD_eq_getElem?_getD, List.getElem?_eq_getElem (by omega)]; rfl
        · rw [List.getElem?_set_ne e]
          have := congrArg (·[j]?) he
          simp only [List.getElem?_take, if_pos (show j < i by omega)] at this
          exact this
      · rw [if_neg hj, if_neg hj]
    · show b81_6 p0 (f81_2 p0 f) (f81_6 p0 f) (n : Int) (i : Int) l = _
      unfold b81_6
      simp only [e1, Int.toNat_natCast, dflt105]
      simp (disch := omega) only [cT]
theorem loop81 {p0 : List Int} (hl : p0.length ≤ 1073741824) : ∀ n : Nat, n ≤ p0.length → Evt (fun k => f81_2 p0 k (n : Int)) (p0.take (tn p0 n))
  | 0, _ => by
    refine (loop81_6 hl (n := 0) (by omega) 0 0 [] rfl rfl rfl).step fun k => ?_
    show b81_2 p0 (f81_2 p0 k) (f81_6 p0 k) ((0 : Nat) : Int) = _
    unfold b81_2
    simp (disch := omega) only [cT, cF]
    rfl
  | n + 1, hn => by
    have e0 : IntKind.i64.wrap (((n + 1 : Nat) : Int) - 1) = (n : Int) := by rw [wi64] <;> omega
    by_cases hz : p0.getD n 0 = 0
    · have et : tn p0 (n + 1) = tn p0 n := by show (if _ then _ else _) = _; rw [if_pos hz]
      rw [et]
      refine Evt.step (loop81 hl n (by omega)) fun k => ?_
      show b81_2 p0 (f81_2 p0 k) (f81_6 p0 k) ((n + 1 : Nat) : Int) = _
      unfold b81_2
      rw [e0]
      simp only [Int.toNat_natCast, dflt105]
      simp (disch := omega) only [cT, cF, cE]
    · have et : tn p0 (n + 1) = n + 1 := by show (if _ then _ else _) = _; rw [if_neg hz]
      rw [et]
      refine (loop81_6 hl (n := n + 1) hn (n + 1) 0 (List.replicate (n + 1) 0) (by omega) (by simp) rfl).step fun k => ?_
      show b81_2 p0 (f81_2 p0 k) (f81_6 p0 k) ((n + 1 : Nat) : Int) = _
      unfold b81_2
      rw [e0]
      simp only [Int.toNat_natCast, dflt105]
      simp (disch := omega) only [cT, cF, cN]
      rfl
theorem run81 {l : List Int} (h : Ok l) (hl : l.length ≤ 1073741824) : ∃ r, S81 l = some r ∧ Is r (val l) :=
  ⟨trimL l, evv_eq (loop81 hl l.length (Nat.le_refl _)), trim_is h⟩
theorem run115 {l : List Int} (h : Ok l) {i : Nat} : S115 l (i : Int) = some (l.getD i 0) := evv_eq (Evt.now fun f => by
  show b115 l (i : Int) = _
  unfold b115
  have g := getD_ok h i
  have ew : IntKind.u64.wrap (l.getD i 0) = l.getD i 0 := by rw [wu64]; omega
  by_cases hi : i < l.length
  · simp only [Int.toNat_natCast, dflt105, ew]
    simp (disch := omega) only [cT]
  · rw [getD_out (by omega)]
    simp (disch := omega) only [cF])
theorem run116 {l : List Int} (h : Ok l) (hl : l.length ≤ 2048) : ∃ r, S116 l = some (r, 0) ∧ Is r (val l) := by
  obtain ⟨r, h1, h2⟩ := run81 h (by omega)
  have hlen := len_of_val h2.ok h2.norm l.length (by rw [h2.val]; exact (val_bound h).2)
  refine ⟨r, evv_eq (Evt.now fun f => ?_), h2⟩
  show b116 l = _
  unfold b116
  rw [h1]
  simp only [Option.bind_some]
  exact cF (by show ¬ ((r.length : Int) > 2048); omega) _ _
theorem limb_bit {a : List Int} (h : Ok a) {i : Nat} : a.getD (i / 32) 0 / 2 ^ (i % 32) % 2 = val a / 2 ^ i % 2 := by
  have hp : (0 : Int) < 2 ^ (i % 32) := Int.pow_pos (by decide)
  have hPp := P_pos (i / 32)
  have hval : val a = val (a.take (i / 32)) + P (i / 32) * val (a.drop (i / 32)) := by
    by_cases h : i / 32 ≤ a.length
    · exact val_split a (i / 32) h
    · rw [List.take_of_length_le (by omega), List.drop_eq_nil_of_le (by omega)]; simp [val]
  have hlow : 0 ≤ val (a.take (i / 32)) ∧ val (a.take (i / 32)) < P (i / 32) := by
    have h1 := val_bound (h.take (i / 32))
    have h2 := P_mono (show (a.take (i / 32)).length ≤ i / 32 by simp; omega)
    omega
  have dv : val (a.drop (i / 32)) = a.getD (i / 32) 0 + 4294967296 * val (a.drop (i / 32 + 1)) := by
    by_cases h : i / 32 < a.length
    · exact drop_val a _ h
    · rw [List.drop_eq_nil_of_le (by omega), List.drop_eq_nil_of_le (by omega), getD_out (by omega)]; simp [val]
  have e1 : (2 : Int) ^ i = P (i / 32) * 2 ^ (i % 32) := by
    rw [P_two, ← Int.pow_add, show 32 * (i / 32) + i % 32 = i from by omega]
  rw [e1, ← Int.ediv_ediv_of_nonneg (Int.le_of_lt hPp), hval, Int.add_mul_ediv_left _ _ (by omega), Int.ediv_eq_zero_of_lt hlow.1 hlow.2, Int.zero_add, dv]
  have e2 : (4294967296 : Int) * val (a.drop (i / 32 + 1)) = (2 ^ (31 - i % 32) * val (a.drop (i / 32 + 1)) * 2) * 2 ^ (i % 32) := by
    have : (4294967296 : Int) = 2 ^ (31 - i % 32) * 2 * 2 ^ (i % 32) := by
      rw [← Int.pow_succ, ← Int.pow_add, show 31 - i % 32 + 1 + i % 32 = 32 from by omega]; rfl
    rw [this]; grind
  rw [e2, Int.add_mul_ediv_right _ _ (by omega), Int.add_mul_emod_self_right]
theorem run99 {a : List Int} (h : Ok a) (hm : mayL a = true) {i : Nat} (hi : i ≤ 1073741824) : S99 a (i : Int) = some (val a / 2 ^ i % 2) := evv_eq (Evt.now fun f => by
  show b99 a (i : Int) = _
  unfold b99
  rw [run61, hm]
  simp only [Option.bind_some]
  rw [cNF rfl, ← limb_bit h]
  have t1 : Int.tdiv (i : Int) 32 = ((i / 32 : Nat) : Int) := by rw [Int.tdiv_eq_ediv_of_nonneg (by omega)]; omega
  have t2 : Int.tmod (i : Int) 32 = ((i % 32 : Nat) : Int) := by rw [Int.tmod_eq_emod_of_nonneg (by omega)]; omega
  have w1 : IntKind.i64.wrap ((i / 32 : Nat) : Int) = ((i / 32 : Nat) : Int) := by rw [wi64] <;> omega
  have w2 : IntKind.u64.wrap ((i % 32 : Nat) : Int) = ((i % 32 : Nat) : Int) := by rw [wu64]; omega
  have g := getD_ok h (i / 32)
  have es : shr .u32 (a.getD (i / 32) 0) ((i % 32 : Nat) : Int) = a.getD (i / 32) 0 / 2 ^ (i % 32) := shr32 (i % 32) (by omega)
  have hp : (0 : Int) < 2 ^ (i % 32) := Int.pow_pos (by decide)
  have d0 : 0 ≤ a.getD (i / 32) 0 / 2 ^ (i % 32) := Int.ediv_nonneg g.1 (Int.le_of_lt hp)
  have d1 : a.getD (i / 32) 0 / 2 ^ (i % 32) ≤ a.getD (i / 32) 0 := Int.ediv_le_self _ g.1
  have ea : bits .and .u32 (a.getD (i / 32) 0 / 2 ^ (i % 32)) 1 = a.getD (i / 32) 0 / 2 ^ (i % 32) % 2 := by
    rw [band32 d0 (by omega) (by decide) (by decide)]
    show ((_ &&& 1 : Nat) : Int) = _
    rw [Nat.and_one_is_mod]; omega
  simp only [t1, t2, w1, w2, Int.toNat_natCast, dflt105, es, ea]
  have m0 : 0 ≤ a.getD (i / 32) 0 / 2 ^ (i % 32) % 2 := Int.emod_nonneg _ (by decide)
  have m1 : a.getD (i / 32) 0 / 2 ^ (i % 32) % 2 < 2 := Int.emod_lt_of_pos _ (by decide)
  have w3 : IntKind.i64.wrap (a.getD (i / 32) 0 / 2 ^ (i % 32) % 2) = a.getD (i / 32) 0 / 2 ^ (i % 32) % 2 := by rw [wi64] <;> omega
  rw [w3]
  by_cases hk : i / 32 < a.length
  · simp (disch := omega) only [cT, cF]
  · rw [getD_out (by omega)]
    simp (disch := omega) only [cT, cF]
    simp)
end Go.Abs.Z
namespace Go.Abs.Z
open Go Go.Abs Limb Num
theorem loop96 {a : List Int} (h : Ok a) (hm : mayL a = true) : ∀ n : Nat, n ≤ 65536 → val a < 2 ^ n → ∃ r : Int, Evt (fun f => f96_4 a f ((n : Int) - 1)) r ∧ BL (val a) r ∧ r ≤ n
  | 0, _, hlt => by
    have h0 := (val_bound h).1
    refine ⟨0, Evt.last fun f => ?_, ⟨by decide, hlt, .inl rfl⟩, by omega⟩
    show b96_4 a (f96_4 a f) (((0 : Nat) : Int) - 1) = _
    unfold b96_4
    simp (disch := omega) only [cF]
  | n + 1, hn, hlt => by
    have h0 := (val_bound h).1
    have ei : (((n + 1 : Nat) : Int) - 1) = (n : Int) := by omega
    have e1 : IntKind.i64.wrap ((n : Int) - 1) = (n : Int) - 1 := by rw [wi64] <;> omega
    have e2 : IntKind.i64.wrap ((n : Int) + 1) = (n : Int) + 1 := by rw [wi64] <;> omega
    have hp : (0 : Int) < 2 ^ n := Int.pow_pos (by decide)
    have d0 : 0 ≤ val a / 2 ^ n := Int.ediv_nonneg h0 (Int.le_of_lt hp)
    have d1 : val a / 2 ^ n < 2 := Int.ediv_lt_of_lt_mul hp (by rw [Int.mul_comm, ← Int.pow_succ]; exact hlt)
    have hb := run99 h hm (i := n) (by omega)
    have em := Int.mul_ediv_add_emod (val a) (2 ^ n)
    have m0 := Int.emod_nonneg (val a) (b := 2 ^ n) (by omega)
    have m1 := Int.emod_lt_of_pos (val a) hp
    by_cases hd : val a / 2 ^ n = 1
    · refine ⟨(n : Int) + 1, Evt.last fun f => ?_, ⟨by omega, ?_, .inr ?_⟩, by omega⟩
      · show b96_4 a (f96_4 a f) (((n + 1 : Nat) : Int) - 1) = _
        unfold b96_4
        rw [ei, e1, e2, hb, hd]
        simp (disch := omega) only [cT, Option.bind_some]
        exact cE rfl _ _
      · rw [show ((n : Int) + 1).toNat = n + 1 from by omega]; exact hlt
      · rw [show ((n : Int) + 1).toNat - 1 = n from by omega]
        rw [hd] at em; omega
    · have hz : val a / 2 ^ n = 0 := by omega
      rw [hz] at em
      obtain ⟨r, g1, g2, g3⟩ := loop96 h hm n (by omega) (by omega)
      refine ⟨r, g1.step fun f => ?_, g2, by omega⟩
      show b96_4 a (f96_4 a f) (((n + 1 : Nat) : Int) - 1) = _
      unfold b96_4
      rw [ei, e1, hb, hz]
      simp (disch := omega) only [cT, Option.bind_some]
      exact cN (by decide) _ _
theorem run96 {a : List Int} (h : Ok a) (hm : mayL a = true) : ∃ r : Int, S96 a = some r ∧ BL (val a) r ∧ r ≤ 32 * a.length := by
  have hl := (mayL_is hm).1
  have hb := (val_bound h).2
  rw [P_two] at hb
  obtain ⟨r, g1, g2, g3⟩ := loop96 h hm (32 * a.length) (by omega) hb
  refine ⟨r, evv_eq (g1.same fun f => ?_), g2, by omega⟩
  show b96 a (f96_4 a f) = _
  unfold b96
  rw [run61, hm]
  simp only [Option.bind_some]
  rw [cNF rfl, wi64 (x := 32 * (a.length : Int)) (by omega) (by omega), wi64 (by omega) (by omega)]
  rfl
theorem shr_limb {x y : Int} {s : Nat} (hs : s < 32) (hx : 0 ≤ x ∧ x < 4294967296) (hy : 0 ≤ y ∧ y < 4294967296) : (y * 2 ^ 32 + x) / 2 ^ s % 4294967296 = x / 2 ^ s + (y % 2 ^ s) * 2 ^ (32 - s) := by
  have hp : (0 : Int) < 2 ^ s := Int.pow_pos (by decide)
  have hp2 : (0 : Int) < 2 ^ (32 - s) := Int.pow_pos (by decide)
  have ep := pow32 (k := s) (by omega)
  have e1 : y * 2 ^ 32 + x = x + (y * 2 ^ (32 - s)) * 2 ^ s := by
    have : y * 2 ^ (32 - s) * 2 ^ s = y * (2 ^ (32 - s) * 2 ^ s) := by grind
    rw [this, ep]; omega
  rw [e1, Int.add_mul_ediv_right _ _ (by omega)]
  have em := Int.mul_ediv_add_emod y (2 ^ s)
  have e2 : y * 2 ^ (32 - s) = (y % 2 ^ s) * 2 ^ (32 - s) + (y / 2 ^ s) * 4294967296 := by
    rw [← ep]
    have : y * 2 ^ (32 - s) = (2 ^ s * (y / 2 ^ s) + y % 2 ^ s) * 2 ^ (32 - s) := by rw [em]
    rw [this]; grind
  have o := halfAt_ok (a := [x, y]) (Ok.mk hx.1 hx.2 (Ok.mk hy.1 hy.2 Ok.nil)) hs 0
  have eh : halfAt [x, y] s 0 = x / 2 ^ s + (y % 2 ^ s) * 2 ^ (32 - s) := rfl
  rw [eh] at o
  rw [e2, ← Int.add_assoc, Int.add_mul_emod_self_right, Int.emod_eq_of_lt o.1 o.2.1]
theorem loop97 {a : List Int} (h : Ok a) (hl : a.length ≤ 2048) {m s : Nat} (hm : m ≤ 2048) (hs : s < 32) : ∀ (c j : Nat) (l : List Int), m + j + c = max m a.length → Ok l → l.length = j → val l * 2 ^ s + (a.drop m).getD 0 0 % 2 ^ s = val ((a.drop m).take j) + ((a.drop m).getD j 0 % 2 ^ s) * P j →
    ∃ r, Evt (fun f => f97_7 a ((32 * m + s : Nat) : Int) f ((m + j : Nat) : Int) l) (r, 0) ∧ Is r (val (a.drop m) / 2 ^ s)
  | 0, j, l, hj, hlo, hll, he => by
    have hp : (0 : Int) < 2 ^ s := Int.pow_pos (by decide)
    obtain ⟨r, g1, g2⟩ := run116 hlo (by omega)
    have hd : (a.drop m).length ≤ j := by simp; omega
    rw [List.take_of_length_le hd, getD_out hd, Int.zero_emod, Int.zero_mul, Int.add_zero] at he
    have hv : val (a.drop m) / 2 ^ s = val l := by
      rw [← he, Int.add_comm, Int.add_mul_ediv_right _ _ (by omega), Int.ediv_eq_zero_of_lt (Int.emod_nonneg _ (by omega)) (Int.emod_lt_of_pos _ hp)]
      omega
    refine ⟨r, Evt.last fun f => ?_, by rw [hv]; exact g2⟩
    show b97_7 a ((32 * m + s : Nat) : Int) (f97_7 a ((32 * m + s : Nat) : Int) f) ((m + j : Nat) : Int) l = _
    unfold b97_7
    rw [g1]
    simp (disch := omega) only [cF, Option.bind_some]
  | c + 1, j, l, hj, hlo, hll, he => by
    have hp : (0 : Int) < 2 ^ s := Int.pow_pos (by decide)
    have gx := getD_ok h (m + j)
    have gy := getD_ok h (m + j + 1)
    have dg : ∀ i, (a.drop m).getD i 0 = a.getD (m + i) 0 := fun i => by rw [List.getD_eq_getElem?_getD, List.getElem?_drop, ← List.getD_eq_getElem?_getD]
    have eh : (a.getD (m + j + 1) 0 * 2 ^ 32 + a.getD (m + j) 0) / 2 ^ s % 4294967296 = halfAt (a.drop m) s j := by
      rw [shr_limb hs gx gy]
      unfold halfAt
      rw [dg, dg]; rfl
    have o := halfAt_ok (h.drop m) hs j
    obtain ⟨r, g1, g2⟩ := loop97 h hl hm hs c (j + 1) (l ++ [halfAt (a.drop m) s j]) (by omega) (hlo.append (Ok.mk o.1 o.2.1 Ok.nil)) (by simp [hll]) (by
      rw [val_append, hll, val_take_any, P_succ]
      have ee := Int.mul_ediv_add_emod ((a.drop m).getD j 0) (2 ^ s)
      have ep := pow32 (k := s) (by omega)
      simp only [val]
      unfold halfAt
      have e4 : (val l + P j * ((a.drop m).getD j 0 / 2 ^ s + (a.drop m).getD (j + 1) 0 % 2 ^ s * 2 ^ (32 - s) + 4294967296 * 0)) * 2 ^ s = val l * 2 ^ s + 2 ^ s * ((a.drop m).getD j 0 / 2 ^ s) * P j + ((a.drop m).getD (j + 1) 0 % 2 ^ s) * P j * (2 ^ (32 - s) * 2 ^ s) := by
        generalize (2 : Int) ^ (32 - s) = B
        generalize (a.drop m).getD j 0 / 2 ^ s = D
        generalize (a.drop m).getD (j + 1) 0 % 2 ^ s = M
        generalize (2 : Int) ^ s = K
        grind
      rw [e4, ep]
      have e5 : val ((a.drop m).take j) + (a.drop m).getD j 0 * P j = val ((a.drop m).take j) + 2 ^ s * ((a.drop m).getD j 0 / 2 ^ s) * P j + ((a.drop m).getD j 0 % 2 ^ s) * P j := by
        have : (a.drop m).getD j 0 * P j = (2 ^ s * ((a.drop m).getD j 0 / 2 ^ s) + (a.drop m).getD j 0 % 2 ^ s) * P j := by rw [ee]
        rw [this, Int.add_mul]; omega
      rw [e5]
      generalize (a.drop m).getD (j + 1) 0 % 2 ^ s = M at *
      generalize (a.drop m).getD j 0 % 2 ^ s = M1 at *
      generalize (a.drop m).getD j 0 / 2 ^ s = M2 at *
      grind)
    refine ⟨r, g1.step fun f => ?_, g2⟩
    show b97_7 a ((32 * m + s : Nat) : Int) (f97_7 a ((32 * m + s : Nat) : Int) f) ((m + j : Nat) : Int) l = _
    unfold b97_7
    have t2 : Int.tmod ((32 * m + s : Nat) : Int) 32 = (s : Int) := by rw [Int.tmod_eq_emod_of_nonneg (by omega)]; omega
    have w1 : IntKind.i64.wrap (((m + j : Nat) : Int) + 1) = ((m + j + 1 : Nat) : Int) := by rw [wi64] <;> omega
    have w2 : IntKind.u64.wrap (s : Int) = (s : Int) := by rw [wu64]; omega
    have es : shl .u64 (a.getD (m + j + 1) 0) 32 = a.getD (m + j + 1) 0 * 2 ^ 32 := by
      refine (shl64 32 (by decide)).trans ?_
      omega
    have eo : bits .or .u64 (a.getD (m + j) 0) (a.getD (m + j + 1) 0 * 2 ^ 32) = a.getD (m + j + 1) 0 * 2 ^ 32 + a.getD (m + j) 0 := or_low' gy.1 gx.1 (by omega) (by omega)
    have er : ∀ x : Int, shr .u64 x (s : Int) = x / 2 ^ s := fun x => shr64 s (by omega)
    rw [t2, w1, w2, run115 h, run115 h]
    simp only [Option.bind_some, es, eo, er, wu32, eh]
    have ej : m + (j + 1) = m + j + 1 := by omega
    rw [ej]
    simp (disch := omega) only [cT]
theorem run97 {a : List Int} (h : Ok a) (hm : mayL a = true) {k : Nat} (hk : k ≤ 65536) : ∃ r, S97 a (k : Int) = some (r, 0) ∧ Is r (val a / 2 ^ k) := by
  have hl := (mayL_is hm).1
  obtain ⟨r, g1, g2⟩ := loop97 h hl (m := k / 32) (s := k % 32) (by omega) (by omega) (max (k / 32) a.length - k / 32) 0 [] (by omega) Ok.nil rfl (by
    rw [List.take_zero, P_zero]; simp [val])
  have ek : 32 * (k / 32) + k % 32 = k := by omega
  rw [ek] at g1
  refine ⟨r, evv_eq (g1.same fun f => ?_), ?_⟩
  · show b97 a (k : Int) (f97_7 a (k : Int) f) = _
    unfold b97
    have t1 : Int.tdiv (k : Int) 32 = ((k / 32 : Nat) : Int) := by rw [Int.tdiv_eq_ediv_of_nonneg (by omega)]; omega
    have w1 : IntKind.i64.wrap ((k / 32 : Nat) : Int) = ((k / 32 : Nat) : Int) := by rw [wi64] <;> omega
    rw [run61, hm, t1, w1]
    simp only [Option.bind_some]
    rw [cNF rfl]
    simp (disch := omega) only [cF]
    rfl
  · have hPm := P_pos (k / 32)
    have hval : val a = val (a.take (k / 32)) + P (k / 32) * val (a.drop (k / 32)) := by
      by_cases h : k / 32 ≤ a.length
      · exact val_split a _ h
      · rw [List.take_of_length_le (by omega), List.drop_eq_nil_of_le (by omega)]; simp [val]
    have hlow : 0 ≤ val (a.take (k / 32)) ∧ val (a.take (k / 32)) < P (k / 32) := by
      have h1 := val_bound (h.take (k / 32))
      have h2 := P_mono (show (a.take (k / 32)).length ≤ k / 32 by simp; omega)
      omega
    have : val a / 2 ^ k = val (a.drop (k / 32)) / 2 ^ (k % 32) := by
      have e1 : (2 : Int) ^ k = P (k / 32) * 2 ^ (k % 32) := by rw [P_two, ← Int.pow_add, ek]
      rw [e1, ← Int.ediv_ediv_of_nonneg (Int.le_of_lt hPm), hval, Int.add_mul_ediv_left _ _ (by omega), Int.ediv_eq_zero_of_lt hlow.1 hlow.2, Int.zero_add]
    rw [this]; exact g2
end Go.Abs.Z
namespace Go.Abs.Z
open Go Go.Abs Limb Num
theorem loop98 {p1 l : List Int} {bit : Int} (hl : l.length ≤ 1073741824) (ho : Ok l) : ∀ (m i : Nat) (c : Int) (W : List Int), i + m = l.length → Ok W → W.length = l.length → (c = 0 ∨ c = 1) → W.drop i = l.drop i → val (W.take i) + c * P i = 2 * val (l.take i) + bit →
    ∃ (Z : List Int) (o : Int), Evt (fun f => f98_2 bit p1 f c (i : Int) W) Z ∧ Ok Z ∧ Z.length = l.length ∧ (o = 0 ∨ o = 1) ∧ val Z + o * P l.length = 2 * val l + bit
  | 0, i, c, W, hi, hW, hWl, hc, hd, he => by
    refine ⟨W, c, Evt.last fun f => ?_, hW, hWl, hc, ?_⟩
    · show b98_2 bit p1 (f98_2 bit p1 f) c (i : Int) W = _
      unfold b98_2
      simp (disch := omega) only [cF]
    · rw [show i = l.length from by omega, List.take_of_length_le (by omega), List.take_length] at he
      exact he
  | m + 1, i, c, W, hi, hW, hWl, hc, hd, he => by
    have g := getD_ok ho i
    have eY := drop_getD hd i (Nat.le_refl _)
    have e1 : IntKind.i64.wrap ((i : Int) + 1) = ((i + 1 : Nat) : Int) := by rw [wi64] <;> omega
    have es : shl .u32 (l.getD i 0) 1 = (l.getD i 0 % 2147483648) * 2 ^ 1 := by
      refine (shl32 1 (by decide)).trans ?_
      omega
    have eo : bits .or .u32 ((l.getD i 0 % 2147483648) * 2 ^ 1) c = (l.getD i 0 % 2147483648) * 2 ^ 1 + c := or32_low (by omega) (by omega) (by omega) (by omega)
    have er : shr .u32 (l.getD i 0) 31 = l.getD i 0 / 2147483648 := shr32 31 (by decide)
    obtain ⟨Z, o, h2, h3, h4, h5, h6⟩ := loop98 (p1 := p1) (bit := bit) hl ho m (i + 1) (l.getD i 0 / 2147483648) (W.set i ((l.getD i 0 % 2147483648) * 2 ^ 1 + c)) (by omega) (hW.set i (by omega) (by omega)) (by simpa using hWl) (by omega) (drop_next hd) (by
      rw [val_take_succ _ i (by simp; omega), Limb.getD_set_self _ _ _ (by omega), List.take_set_of_le (Nat.le_refl i), val_take_any l, P_succ]
      have ee := Int.mul_ediv_add_emod (l.getD i 0) 2147483648
      generalize l.getD i 0 / 2147483648 = D at *
      generalize l.getD i 0 % 2147483648 = M at *
      generalize l.getD i 0 = x at *
      generalize P i = Q at *
      generalize val (W.take i) = V1 at *
      generalize val (l.take i) = V2 at *
      have h5 : (2147483648 * D + M) * Q = x * Q := by rw [ee]
      have h6 : (2 : Int) ^ 1 = 2 := rfl
      rw [h6]
      grind)
    refine ⟨Z, o, h2.step fun f => ?_, h3, h4, h5, h6⟩
    show b98_2 bit p1 (f98_2 bit p1 f) c (i : Int) W = _
    unfold b98_2
    simp only [e1, Int.toNat_natCast, dflt105, eY, es, eo, er]
    simp (disch := omega) only [cT]
theorem run98 {l : List Int} {bit : Int} (ho : Ok l) (hl : l.length ≤ 1073741824) (hb : bit = 0 ∨ bit = 1) (hP : 2 * val l + bit < P l.length) : ∃ Z, S98 bit l = some Z ∧ Ok Z ∧ Z.length = l.length ∧ val Z = 2 * val l + bit := by
  obtain ⟨Z, o, h2, h3, h4, h5, h6⟩ := loop98 (p1 := l) (bit := bit) hl ho l.length 0 bit l (by omega) ho rfl hb rfl (by simp [val, P_zero])
  have ho0 : o = 0 := by
    rcases h5 with h | h
    · exact h
    · rw [h, Int.one_mul] at h6
      have := (val_bound h3).1
      omega
  rw [ho0] at h6
  refine ⟨Z, evv_eq (h2.same fun f => ?_), h3, h4, by omega⟩
  show b98 bit l (f98_2 bit l f) = _
  unfold b98
  have : IntKind.u32.wrap bit = bit := by rw [wu32]; omega
  rw [this]; rfl
theorem loop100_9 {b r p1 : List Int} (hb : Ok b) (hl : r.length ≤ 1073741824) (ho : Ok r) (hlb : b.length ≤ r.length) (hle : val b ≤ val r) : ∀ (m i : Nat) (w : Int) (W : List Int), i + m = r.length → Ok W → W.length = r.length → (w = 0 ∨ w = 1) → W.drop i = r.drop i → val (W.take i) + val (b.take i) = val (r.take i) + w * P i →
    ∃ (Z : List Int), Evt (fun f => f100_9 b p1 f w (i : Int) W) (true, Z) ∧ Ok Z ∧ Z.length = r.length ∧ val Z = val r - val b
  | 0, i, w, W, hi, hW, hWl, hw, hd, he => by
    rw [show i = r.length from by omega, List.take_of_length_le (by omega), List.take_of_length_le hlb, List.take_length] at he
    have hbd := val_bound hW
    rw [hWl] at hbd
    have hw0 : w = 0 := by
      rcases hw with h | h
      · exact h
      · rw [h, Int.one_mul] at he
        omega
    rw [hw0] at he
    refine ⟨W, Evt.last fun f => ?_, hW, hWl, by omega⟩
    show b100_9 b p1 (f100_3 b p1 f) (f100_9 b p1 f) w (i : Int) W = _
    unfold b100_9
    simp (disch := omega) only [cF]
  | m + 1, i, w, W, hi, hW, hWl, hw, hd, he => by
    have g := getD_ok ho i
    have gb := getD_ok hb i
    have eY := drop_getD hd i (Nat.le_refl _)
    have e1 : IntKind.i64.wrap ((i : Int) + 1) = ((i + 1 : Nat) : Int) := by rw [wi64] <;> omega
    have w0 : IntKind.u64.wrap (r.getD i 0) = r.getD i 0 := by rw [wu64]; omega
    have w1 : IntKind.u64.wrap (4294967296 + r.getD i 0) = 4294967296 + r.getD i 0 := by rw [wu64]; omega
    have w2 : IntKind.u64.wrap (4294967296 + r.getD i 0 - b.getD i 0) = 4294967296 + r.getD i 0 - b.getD i 0 := by rw [wu64]; omega
    have w3 : IntKind.u64.wrap (4294967296 + r.getD i 0 - b.getD i 0 - w) = 4294967296 + r.getD i 0 - b.getD i 0 - w := by rw [wu64]; omega
    have er : shr .u64 (4294967296 + r.getD i 0 - b.getD i 0 - w) 32 = (4294967296 + r.getD i 0 - b.getD i 0 - w) / 4294967296 := shr64 32 (by decide)
    have w4 : IntKind.u64.wrap (1 - (4294967296 + r.getD i 0 - b.getD i 0 - w) / 4294967296) = 1 - (4294967296 + r.getD i 0 - b.getD i 0 - w) / 4294967296 := by rw [wu64]; omega
    have m0 : 0 ≤ (4294967296 + r.getD i 0 - b.getD i 0 - w) % 4294967296 := Int.emod_nonneg _ (by decide)
    have m1 : (4294967296 + r.getD i 0 - b.getD i 0 - w) % 4294967296 < 4294967296 := Int.emod_lt_of_pos _ (by decide)
    obtain ⟨Z, h2, h3, h4, h5⟩ := loop100_9 (p1 := p1) hb hl ho hlb hle m (i + 1) (1 - (4294967296 + r.getD i 0 - b.getD i 0 - w) / 4294967296) (W.set i ((4294967296 + r.getD i 0 - b.getD i 0 - w) % 4294967296)) (by omega) (hW.set i m0 m1) (by simpa using hWl) (by omega) (drop_next hd) (by
      rw [val_take_succ _ i (by simp; omega), Limb.getD_set_self _ _ _ (by omega), List.take_set_of_le (Nat.le_refl i), val_take_any r, val_take_any b, P_succ]
      have ee := Int.mul_ediv_add_emod (4294967296 + r.getD i 0 - b.getD i 0 - w) 4294967296
      generalize (4294967296 + r.getD i 0 - b.getD i 0 - w) / 4294967296 = D at *
      generalize (4294967296 + r.getD i 0 - b.getD i 0 - w) % 4294967296 = M at *
      generalize r.getD i 0 = x at *
      generalize b.getD i 0 = y at *
      generalize P i = Q at *
      generalize val (W.take i) = V1 at *
      generalize val (r.take i) = V2 at *
      generalize val (b.take i) = V3 at *
      have h5 : (4294967296 * D + M) * Q = (4294967296 + x - y - w) * Q := by rw [ee]
      grind)
    refine ⟨Z, h2.step fun f => ?_, h3, h4, h5⟩
    show b100_9 b p1 (f100_3 b p1 f) (f100_9 b p1 f) w (i : Int) W = _
    unfold b100_9
    rw [run115 hb]
    simp only [e1, Int.toNat_natCast, dflt105, eY, w0, w1, w2, w3, er, w4, wu32, Option.bind_some]
    simp (disch := omega) only [cT]
theorem sub100 {b r : List Int} (hb : Ok b) (hl : r.length ≤ 1073741824) (ho : Ok r) (hlb : b.length ≤ r.length) (hle : val b ≤ val r) : ∃ (Z : List Int), Evt (fun f => f100_9 b r f 0 0 r) (true, Z) ∧ Ok Z ∧ Z.length = r.length ∧ val Z = val r - val b :=
  loop100_9 (p1 := r) hb hl ho hlb hle r.length 0 0 r (by omega) ho rfl (.inl rfl) rfl (by simp [val])
theorem loop100_3 {b r : List Int} (hb : Ok b) (hl : r.length ≤ 1073741824) (ho : Ok r) (hlb : b.length + 1 = r.length) (hz : r.getD b.length 0 = 0) : ∀ n : Nat, n ≤ b.length → b.drop n = (r.take b.length).drop n →
    (val b ≤ val r ∧ ∃ (Z : List Int), Evt (fun f => f100_3 b r f ((n : Int) - 1)) (true, Z) ∧ Ok Z ∧ Z.length = r.length ∧ val Z = val r - val b) ∨ (val r < val b ∧ Evt (fun f => f100_3 b r f ((n : Int) - 1)) (false, r))
  | 0, _, hd => by
    have hvr : val (r.take b.length) = val r := by
      have := val_take_any r b.length
      rw [hz, Int.zero_mul, List.take_of_length_le (by omega)] at this
      omega
    have hbr : b = r.take b.length := by simpa using hd
    have hle : val b ≤ val r := by rw [← hvr, ← hbr]; exact Int.le_refl _
    obtain ⟨Z, h2, h3⟩ := sub100 hb hl ho (by omega) hle
    refine .inl ⟨hle, Z, h2.step fun f => ?_, h3⟩
    show b100_3 b r (f100_3 b r f) (f100_9 b r f) (((0 : Nat) : Int) - 1) = _
    unfold b100_3
    simp (disch := omega) only [cF]
  | n + 1, hn, hd => by
    have hvr : val (r.take b.length) = val r := by
      have := val_take_any r b.length
      rw [hz, Int.zero_mul, List.take_of_length_le (by omega)] at this
      omega
    have ei : (((n + 1 : Nat) : Int) - 1) = (n : Int) := by omega
    have e1 : IntKind.i64.wrap ((n : Int) - 1) = (n : Int) - 1 := by rw [wi64] <;> omega
    have gt : (r.take b.length).getD n 0 = r.getD n 0 := by
      rw [List.getD_eq_getElem?_getD, List.getElem?_take, if_pos (by omega), ← List.getD_eq_getElem?_getD]
    have hlt : (r.take b.length).length = b.length := by simp; omega
    rcases Int.lt_trichotomy (r.getD n 0) (b.getD n 0) with h | h | h
    · have hv := val_lt_at (ho.take b.length) hb (by omega) (by omega) hd.symm (by rw [gt]; exact h)
      rw [hvr] at hv
      refine .inr ⟨hv, Evt.last fun f => ?_⟩
      show b100_3 b r (f100_3 b r f) (f100_9 b r f) (((n + 1 : Nat) : Int) - 1) = _
      unfold b100_3
      rw [ei]
      simp only [Int.toNat_natCast, dflt105]
      simp (disch := omega) only [cT]
      exact (cN (by omega) _ _).trans (cT h _ _)
    · have hd' : b.drop n = (r.take b.length).drop n := by
        rw [List.drop_eq_getElem_cons (by omega : n < b.length), List.drop_eq_getElem_cons (by omega : n < (r.take b.length).length), hd]
        congr 1
        have h1 : b.getD n 0 = (r.take b.length).getD n 0 := by rw [gt, h]
        rw [List.getD_eq_getElem?_getD, List.getD_eq_getElem?_getD, List.getElem?_eq_getElem (by omega), List.getElem?_eq_getElem (by omega)] at h1
        exact h1
      have step : ∀ f, f100_3 b r (f + 1) (((n + 1 : Nat) : Int) - 1) = f100_3 b r f ((n : Int) - 1) := fun f => by
        show b100_3 b r (f100_3 b r f) (f100_9 b r f) (((n + 1 : Nat) : Int) - 1) = _
        unfold b100_3
        rw [ei]
        simp only [e1, Int.toNat_natCast, dflt105]
        simp (disch := omega) only [cT]
        exact cE h _ _
      rcases loop100_3 hb hl ho hlb hz n (by omega) hd' with ⟨h1, Z, h2, h3⟩ | ⟨h1, h2⟩
      · exact .inl ⟨h1, Z, h2.step step, h3⟩
      · exact .inr ⟨h1, h2.step step⟩
    · have hv := val_lt_at hb (ho.take b.length) (by omega) (by omega) hd (by rw [gt]; exact h)
      rw [hvr] at hv
      obtain ⟨Z, h2, h3⟩ := sub100 hb hl ho (by omega) (Int.le_of_lt hv)
      refine .inl ⟨Int.le_of_lt hv, Z, h2.step fun f => ?_, h3⟩
      show b100_3 b r (f100_3 b r f) (f100_9 b r f) (((n + 1 : Nat) : Int) - 1) = _
      unfold b100_3
      rw [ei]
      simp only [Int.toNat_natCast, dflt105]
      simp (disch := omega) only [cT]
      exact (cN (by omega) _ _).trans (cF (by omega) _ _)
theorem run100 {b r : List Int} (hb : Ok b) (hl : r.length ≤ 1073741824) (ho : Ok r) (hlb : b.length + 1 = r.length) :
    (val b ≤ val r ∧ ∃ (Z : List Int), S100 b r = some (true, Z) ∧ Ok Z ∧ Z.length = r.length ∧ val Z = val r - val b) ∨ (val r < val b ∧ S100 b r = some (false, r)) := by
  have e1 : IntKind.i64.wrap ((b.length : Int) - 1) = (b.length : Int) - 1 := by rw [wi64] <;> omega
  by_cases hz : r.getD b.length 0 = 0
  · have step : ∀ f, f100 f b r = f100_3 b r f ((b.length : Int) - 1) := fun f => by
      show b100 b r (f100_3 b r f) (f100_9 b r f) = _
      unfold b100
      simp only [e1, Int.toNat_natCast, dflt105]
      simp (disch := omega) only [cT, cE]
    rcases loop100_3 hb hl ho hlb hz b.length (Nat.le_refl _) (by rw [List.drop_length, List.drop_eq_nil_of_le (by simp; omega)]) with ⟨h1, Z, h2, h3⟩ | ⟨h1, h2⟩
    · exact .inl ⟨h1, Z, evv_eq (h2.same step), h3⟩
    · exact .inr ⟨h1, evv_eq (h2.same step)⟩
  · have hle : val b ≤ val r := by
      have h1 := val_take_any r b.length
      rw [List.take_of_length_le (by omega)] at h1
      have g := getD_ok ho b.length
      have h2 := (val_bound (ho.take b.length)).1
      have h3 := (val_bound hb).2
      have h4 := Int.mul_le_mul_of_nonneg_right (show 1 ≤ r.getD b.length 0 by omega) (Int.le_of_lt (P_pos b.length))
      omega
    obtain ⟨Z, h2, h3⟩ := sub100 hb hl ho (by omega) hle
    refine .inl ⟨hle, Z, evv_eq (h2.same fun f => ?_), h3⟩
    show b100 b r (f100_3 b r f) (f100_9 b r f) = _
    unfold b100
    simp only [e1, Int.toNat_natCast, dflt105]
    simp (disch := omega) only [cT, cN]
end Go.Abs.Z
