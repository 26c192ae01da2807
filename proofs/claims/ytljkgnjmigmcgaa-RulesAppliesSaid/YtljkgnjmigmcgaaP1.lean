/- Plain law: numbers, bits, lists. -/
import Derived.Test.YtljkgnjmigmcgaaFA
namespace Go.Proofs.Ytljkgnjmigmcgaa
open Go Go.RowKit Kx

theorem w64 {i : Int} (h0 : -4611686018427387904 ≤ i) (h1 : i < 4611686018427387904) : IntKind.i64.wrap i = i := by
  have e64 : (2 ^ IntKind.i64.bits : Int) = 18446744073709551616 := rfl
  have e63 : (2 ^ (IntKind.i64.bits - 1) : Int) = 9223372036854775808 := rfl
  unfold IntKind.wrap
  simp only [e64, e63, show IntKind.i64.signed = true from rfl, Bool.true_and, decide_eq_true_eq]
  split <;> omega
theorem wi (i : Nat) (h : i < 4000000000000000000) : IntKind.i64.wrap ((i : Int) + 1) = ((i + 1 : Nat) : Int) := by
  rw [w64 (i := (i : Int) + 1) (by omega) (by omega)]; omega
theorem wu {x : Nat} (h : x < 18446744073709551616) : IntKind.u64.wrap (x : Int) = (x : Int) := by
  have e64 : (2 ^ IntKind.u64.bits : Int) = 18446744073709551616 := rfl
  unfold IntKind.wrap
  simp only [e64, show IntKind.u64.signed = false from rfl, Bool.false_and]
  rw [if_neg (by decide)]
  omega
theorem geti_k {α : Type} (l : List α) (k : Nat) : geti l (k : Int) = l[k]? := by simp [geti]
theorem geti_0 {α : Type} (l : List α) : geti l 0 = l[0]? := by simp [geti]
theorem ass_t {α : Type} {b : Bool} {x : Option α} (h : b = true) : ass b x = x := by subst h; rfl
theorem app_1 {α : Type} (l : List α) (x : α) (h : l.length < 2147483648) : app l [x] = some (l ++ [x]) := by
  unfold app; rw [show decide (l.length + [x].length ≤ 2147483648) = true from decide_eq_true (by simp; omega)]; rfl

/-! ### Sets of rows -/
theorem tb_div (s i : Nat) : s / 2 ^ i % 2 = if s.testBit i then 1 else 0 := by
  rw [Nat.testBit_eq_decide_div_mod_eq]
  by_cases h : s / 2 ^ i % 2 = 1
  · simp [h]
  · simp [h]; omega
theorem toNat_u (x : Nat) : (BitVec.ofInt IntKind.u64.bits (x : Int)) = BitVec.ofNat 64 x := by
  show BitVec.ofInt 64 (x : Int) = BitVec.ofNat 64 x
  simp
theorem bit_eq {s i : Nat} (hs : s < 18446744073709551616) (hi : i < 64) :
    (IntKind.u64.wrap (BitVec.ofInt IntKind.u64.bits (Int.fdiv (s : Int) (2 ^ (min (Int.toNat (i : Int)) IntKind.u64.bits))) &&& BitVec.ofInt IntKind.u64.bits 1).toNat) = if s.testBit i then 1 else 0 := by
  have h1 : Int.fdiv (s : Int) (2 ^ (min (Int.toNat (i : Int)) IntKind.u64.bits)) = ((s / 2 ^ i : Nat) : Int) := by
    have : min (Int.toNat (i : Int)) IntKind.u64.bits = i := by simp [IntKind.bits]; omega
    rw [this, Int.fdiv_eq_ediv_of_nonneg _ (by exact_mod_cast Nat.zero_le _)]
    norm_cast
  have h2 : BitVec.ofInt IntKind.u64.bits 1 = BitVec.ofNat 64 1 := rfl
  rw [h1, toNat_u, h2]
  have h3 : (BitVec.ofNat 64 (s / 2 ^ i) &&& BitVec.ofNat 64 1).toNat = if s.testBit i then 1 else 0 := by
    have h4 : s / 2 ^ i < 2 ^ 64 := Nat.lt_of_le_of_lt (Nat.div_le_self _ _) hs
    rw [BitVec.toNat_and, BitVec.toNat_ofNat, BitVec.toNat_ofNat, Nat.mod_eq_of_lt h4, show (1 : Nat) % 2 ^ 64 = 1 from rfl, Nat.and_one_is_mod]
    exact tb_div s i
  have h5 : ((BitVec.ofNat 64 (s / 2 ^ i) &&& BitVec.ofNat 64 1).toNat : Int) = if s.testBit i then 1 else 0 := by
    rw [h3]; split <;> rfl
  have key : IntKind.u64.wrap ((BitVec.ofNat 64 (s / 2 ^ i) &&& BitVec.ofNat 64 1).toNat : Int) = if s.testBit i then 1 else 0 := by
    rw [wu (BitVec.isLt _), h5]
  exact key
theorem pow_eq {i : Nat} (hi : i < 62) : IntKind.u64.wrap (1 * 2 ^ (min (Int.toNat (i : Int)) IntKind.u64.bits)) = ((2 ^ i : Nat) : Int) := by
  have : min (Int.toNat (i : Int)) IntKind.u64.bits = i := by simp [IntKind.bits]; omega
  rw [this]
  have h : (2 ^ i : Nat) < 18446744073709551616 := Nat.lt_of_lt_of_le (Nat.pow_lt_pow_right (by omega) hi) (by decide)
  have e : (1 * 2 ^ i : Int) = ((2 ^ i : Nat) : Int) := by simp
  rw [e, wu h]
theorem or_eq {a b : Nat} (ha : a < 18446744073709551616) (hb : b < 18446744073709551616) :
    (IntKind.u64.wrap (BitVec.ofInt IntKind.u64.bits (a : Int) ||| BitVec.ofInt IntKind.u64.bits (b : Int)).toNat) = ((a ||| b : Nat) : Int) := by
  have key : IntKind.u64.wrap ((BitVec.ofNat 64 a ||| BitVec.ofNat 64 b).toNat : Int) = ((a ||| b : Nat) : Int) := by
    rw [wu (BitVec.isLt _), BitVec.toNat_or, BitVec.toNat_ofNat, BitVec.toNat_ofNat, Nat.mod_eq_of_lt ha, Nat.mod_eq_of_lt hb]
  rw [toNat_u, toNat_u]
  exact key
/-- What is left of a. -/
def sd (a b : Nat) : Nat := (BitVec.ofNat 64 a &&& ~~~ BitVec.ofNat 64 b).toNat
theorem sd_lt (a b : Nat) : sd a b < 18446744073709551616 := BitVec.isLt _
theorem sd_eq (a b : Nat) : (IntKind.u64.wrap (BitVec.ofInt IntKind.u64.bits (a : Int) &&& ~~~ BitVec.ofInt IntKind.u64.bits (b : Int)).toNat) = (sd a b : Int) := by
  rw [toNat_u, toNat_u]
  exact wu (BitVec.isLt _)
theorem sd_bit {a b i : Nat} (ha : a < 18446744073709551616) (hb : b < 18446744073709551616) : (sd a b).testBit i = (a.testBit i && !b.testBit i) := by
  unfold sd
  rw [← BitVec.getLsbD, BitVec.getLsbD_and, BitVec.getLsbD_not, BitVec.getLsbD_ofNat, BitVec.getLsbD_ofNat]
  by_cases h : i < 64
  · simp [h]
  · have h64 : a.testBit i = false := Nat.testBit_lt_two_pow (Nat.lt_of_lt_of_le ha (Nat.le_trans (by decide : 18446744073709551616 ≤ 2 ^ 64) (Nat.pow_le_pow_right (by omega) (by omega))))
    simp [h, h64]
theorem bits_ext {a b : Nat} (h : ∀ i, a.testBit i = b.testBit i) : a = b := Nat.eq_of_testBit_eq h
theorem bit_of_ne {a : Nat} (h : a ≠ 0) : ∃ i, a.testBit i = true := by
  by_cases hx : ∃ i, a.testBit i = true
  · exact hx
  · exfalso
    apply h
    refine bits_ext fun i => ?_
    rw [Nat.zero_testBit]
    cases hb : a.testBit i with
    | false => rfl
    | true => exact absurd ⟨i, hb⟩ hx
theorem bit_lt {a n i : Nat} (h : a < 2 ^ n) (hb : a.testBit i = true) : i < n := by
  cases Nat.lt_or_ge i n with
  | inl h => exact h
  | inr hge =>
    rw [Nat.testBit_lt_two_pow (Nat.lt_of_lt_of_le h (Nat.pow_le_pow_right (by omega) hge))] at hb
    cases hb
theorem lt_of_bits {a n : Nat} (h : ∀ i, a.testBit i = true → i < n) : a < 2 ^ n := by
  refine Nat.lt_pow_two_of_testBit a fun i hi => ?_
  cases hb : a.testBit i with
  | false => rfl
  | true => have := h i hb; omega
theorem full_bit (n i : Nat) : (2 ^ n - 1).testBit i = decide (i < n) := Nat.testBit_two_pow_sub_one n i
end Go.Proofs.Ytljkgnjmigmcgaa
