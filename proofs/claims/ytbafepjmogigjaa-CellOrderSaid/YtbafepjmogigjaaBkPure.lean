/- Buckets of numbers, in plain Lean. -/
import Derived.Below
import Derived.Lib.BitFns
namespace Go.Proofs.Ytbafepjmogigjaa
set_option linter.unusedSimpArgs false
set_option linter.unusedVariables false

/-- How many bits go behind the first ones. -/
def bE (k m : Nat) : Nat := Nat.log2 m - k
/-- The bucket of how far a number is from 0. -/
def bOf (k m : Nat) : Nat := bE k m * 2 ^ k + m / 2 ^ (bE k m)
/-- The bucket of a number. -/
def bkOf (k : Nat) (n : Int) : Int := if n < 0 then -(bOf k n.natAbs : Int) else (bOf k n.natAbs : Int)
/-- How many bits a number has. -/
def bitLen (m : Nat) : Nat := if m = 0 then 0 else Nat.log2 m + 1

theorem bitLenAux_eq : ∀ (f x : Nat), x < 2 ^ f → Lib.bitLenAux f x = bitLen x
  | 0, x, h => by
    have : x = 0 := by simpa using h
    subst this; rfl
  | f + 1, x, h => by
    unfold Lib.bitLenAux bitLen
    by_cases hx : x = 0
    · simp [hx]
    · rw [if_neg hx, if_neg hx, bitLenAux_eq f (x / 2) (by rw [Nat.pow_succ] at h; omega)]
      unfold bitLen
      by_cases h1 : x = 1
      · subst h1; decide
      · rw [if_neg (by omega)]
        rw [Nat.log2_def x, if_pos (by omega)]
        omega

theorem lib_bitLen {x : Nat} (h : x < 2 ^ 64) : Lib.bitLen x = bitLen x := bitLenAux_eq 64 x h

theorem bitLen_le {x : Nat} (h : x < 2 ^ 64) : bitLen x ≤ 64 := by
  unfold bitLen
  split
  · omega
  · have := (Nat.log2_lt (n := x) (k := 64) (by omega)).2 h; omega

theorem log2_le {x : Nat} (h : x < 2 ^ 64) : Nat.log2 x ≤ 63 := by
  by_cases hx : x = 0
  · subst hx; decide
  · have := (Nat.log2_lt (n := x) (k := 64) hx).2 h; omega

theorem bE_le {k m : Nat} (h : m < 2 ^ 64) : bE k m ≤ 63 := by unfold bE; have := log2_le h; omega

theorem lt_two_pow_log2 (m : Nat) : m < 2 ^ (Nat.log2 m + 1) := by
  by_cases hx : m = 0
  · subst hx; decide
  · exact (Nat.log2_lt hx).1 (Nat.lt_succ_self _)

theorem div_bE_lt (k m : Nat) : m / 2 ^ bE k m < 2 ^ (k + 1) := by
  rw [Nat.div_lt_iff_lt_mul (Nat.two_pow_pos _), ← Nat.pow_add]
  refine Nat.lt_of_lt_of_le (lt_two_pow_log2 m) (Nat.pow_le_pow_right (by omega) ?_)
  unfold bE; omega

theorem bOf_le {k m : Nat} (hk : k ≤ 4) (h : m < 2 ^ 64) : bOf k m ≤ 1040 := by
  unfold bOf
  have h1 := bE_le (k := k) h
  have h2 := div_bE_lt k m
  have h3 : 2 ^ (k + 1) ≤ 2 ^ 5 := Nat.pow_le_pow_right (by omega) (by omega)
  have h4 : 2 ^ k ≤ 2 ^ 4 := Nat.pow_le_pow_right (by omega) hk
  have h5 : bE k m * 2 ^ k ≤ 63 * 2 ^ 4 := Nat.mul_le_mul h1 h4
  omega

/-- The greatest bucket. -/
def bMost (k : Nat) : Nat := bOf k 9223372036854775807

theorem bMost_eq {k : Nat} (hk : k ≤ 4) : bMost k = (64 - k) * 2 ^ k - 1 := by
  have : k = 0 ∨ k = 1 ∨ k = 2 ∨ k = 3 ∨ k = 4 := by omega
  rcases this with rfl | rfl | rfl | rfl | rfl <;> decide

/-- The least number that is as far from 0 as those of a bucket. -/
def bFirst (k m : Nat) : Nat := (m - (m / 2 ^ k - 1) * 2 ^ k) * 2 ^ (m / 2 ^ k - 1)
/-- The greatest such. -/
def bLast (k m : Nat) : Nat := bFirst k m + (2 ^ (m / 2 ^ k - 1) - 1)

/-- May there be a number in that bucket? -/
def bIn (k : Nat) (at_ : Int) : Bool := decide (-(bMost k : Int) - 1 ≤ at_) && decide (at_ ≤ (bMost k : Int))

/-- The bounds of a bucket that may be. -/
def bLow (k : Nat) (at_ : Int) : Int := if at_ < 0 then -(min (bLast k at_.natAbs) 9223372036854775808 : Nat) else (bFirst k at_.natAbs : Int)
def bHigh (k : Nat) (at_ : Int) : Int := if at_ < 0 then -(bFirst k at_.natAbs : Int) else (bLast k at_.natAbs : Int)

theorem log2_mono {a b : Nat} (h : a ≤ b) : Nat.log2 a ≤ Nat.log2 b := by
  by_cases ha : a = 0
  · subst ha; have : Nat.log2 0 = 0 := by decide
    omega
  · exact (Nat.le_log2 (by omega)).2 (Nat.le_trans (Nat.log2_self_le ha) h)

theorem bOf_mono {k a b : Nat} (h : a ≤ b) : bOf k a ≤ bOf k b := by
  have hl := log2_mono h
  by_cases he : bE k a = bE k b
  · unfold bOf
    rw [he]
    exact Nat.add_le_add_left (Nat.div_le_div_right h) _
  · have hlt : bE k a < bE k b := by unfold bE at *; omega
    have h1 := div_bE_lt k a
    have hb0 : b ≠ 0 := by
      intro e; subst e
      have : Nat.log2 0 = 0 := by decide
      unfold bE at hlt; omega
    have h2 : 2 ^ k ≤ b / 2 ^ bE k b := by
      rw [Nat.le_div_iff_mul_le (Nat.two_pow_pos _), ← Nat.pow_add]
      refine Nat.le_trans (Nat.pow_le_pow_right (by omega) ?_) (Nat.log2_self_le hb0)
      unfold bE at *; omega
    have h3 : (bE k a + 1) * 2 ^ k ≤ bE k b * 2 ^ k := Nat.mul_le_mul_right _ hlt
    rw [Nat.add_mul] at h3
    rw [Nat.pow_succ] at h1
    unfold bOf
    generalize bE k a * 2 ^ k = p at *
    generalize bE k b * 2 ^ k = q at *
    generalize 2 ^ k = t at *
    omega

theorem bOf_two63 {k : Nat} (hk : k ≤ 4) : bOf k 9223372036854775808 = bMost k + 1 := by
  have : k = 0 ∨ k = 1 ∨ k = 2 ∨ k = 3 ∨ k = 4 := by omega
  rcases this with rfl | rfl | rfl | rfl | rfl <;> decide

/-- Buckets rise with the numbers. -/
theorem bkOf_mono {k : Nat} {a b : Int} (h : a ≤ b) : bkOf k a ≤ bkOf k b := by
  unfold bkOf
  by_cases ha : a < 0
  · rw [if_pos ha]
    by_cases hb : b < 0
    · rw [if_pos hb]
      have := bOf_mono (k := k) (a := b.natAbs) (b := a.natAbs) (by omega)
      omega
    · rw [if_neg hb]; omega
  · rw [if_neg ha, if_neg (by omega)]
    have := bOf_mono (k := k) (a := a.natAbs) (b := b.natAbs) (by omega)
    omega

theorem bkOf_in {k : Nat} {n : Int} (hk : k ≤ 4) (h1 : -9223372036854775808 ≤ n) (h2 : n ≤ 9223372036854775807) : bIn k (bkOf k n) = true := by
  have e := bOf_two63 hk
  unfold bIn bkOf
  by_cases hn : n < 0
  · have := bOf_mono (k := k) (a := n.natAbs) (b := 9223372036854775808) (by omega)
    rw [if_pos hn]
    simp only [Bool.and_eq_true, decide_eq_true_eq]
    omega
  · have : bOf k n.natAbs ≤ bMost k := bOf_mono (k := k) (a := n.natAbs) (b := 9223372036854775807) (by omega)
    rw [if_neg hn]
    simp only [Bool.and_eq_true, decide_eq_true_eq]
    omega

end Go.Proofs.Ytbafepjmogigjaa
