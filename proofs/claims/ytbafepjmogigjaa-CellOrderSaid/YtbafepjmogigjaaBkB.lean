/- The walk of bucket.Bounds. -/
import Derived.Test.YtbafepjmogigjaaBk
namespace Go.Proofs.Ytbafepjmogigjaa
set_option linter.unusedSimpArgs false
set_option linter.unusedVariables false
open Go.RowKit

theorem bMost_le {k : Nat} (hk : k ≤ 4) : bMost k ≤ 959 := by
  have : k = 0 ∨ k = 1 ∨ k = 2 ∨ k = 3 ∨ k = 4 := by omega
  rcases this with rfl | rfl | rfl | rfl | rfl <;> decide

theorem Bounds_out (k : Nat) (a : Int) (hk : k ≤ 4) (h : bIn k a = false) (W w : World) (F : List Chunk) (hO : Own W w F) :
    Calls Try.prog 88 #[.int .i64 (k : Int), .int .i64 a] w fun e w' => e = .returned (.tuple #[.int .i64 0, .int .i64 0, .bool false]) ∧ Own W w' F := by
  have H := Lib.hid hO
  clear hO
  have hm := bMost_le hk
  have hmn : (0 : Int) ≤ (bMost k : Int) := Int.natCast_nonneg _
  have hm' : (bMost k : Int) ≤ 959 := by omega
  have hd : a < -(bMost k : Int) - 1 ∨ (bMost k : Int) < a := by simp only [bIn, Bool.and_eq_false_iff, decide_eq_false_iff_not] at h; omega
  clear h hm
  rcases hd with h | h
  · have h2 : decide ((bMost k : Int) < a) = false := by simp; omega
    go_enter Try.func88, Try.ntmps88
    go_wp2_with fail
    refine (Most_any k hk W _ F H.out).mono ?_
    rintro e w' ⟨rfl, hO1⟩
    have H1 := Lib.hid hO1
    clear hO1 H
    go_wp2
    go_ret3
    exact ⟨rfl, H1.out⟩
  · go_enter Try.func88, Try.ntmps88
    go_wp2_with fail
    refine (Most_any k hk W _ F H.out).mono ?_
    rintro e w' ⟨rfl, hO1⟩
    have H1 := Lib.hid hO1
    clear hO1 H
    go_wp2
    go_ret3
    exact ⟨rfl, H1.out⟩

theorem ret3_ints {k : IntKind} {a b c d : Int} {v : Value} (h1 : a = c) (h2 : b = d) : Ending.returned (.tuple #[.int k a, .int k b, v]) = .returned (.tuple #[.int k c, .int k d, v]) := by rw [h1, h2]

def xE (k m : Nat) : Int := wrap64 (wrap64 ((m : Int) / 2 ^ k) - 1)
def xF (k m : Nat) : Int := IntKind.u64.wrap (IntKind.u64.wrap ((m : Int) - IntKind.u64.wrap (IntKind.u64.wrap (wrap64 (wrap64 ((m : Int) / 2 ^ k) - 1)) * 2 ^ k)) * 2 ^ min (wrap64 (wrap64 ((m : Int) / 2 ^ k) - 1)).toNat 64)
def xL (k m : Nat) : Int := IntKind.u64.wrap (IntKind.u64.wrap (IntKind.u64.wrap ((m : Int) - IntKind.u64.wrap (IntKind.u64.wrap (wrap64 (wrap64 ((m : Int) / 2 ^ k) - 1)) * 2 ^ k)) * 2 ^ min (wrap64 (wrap64 ((m : Int) / 2 ^ k) - 1)).toNat 64) +
  IntKind.u64.wrap (IntKind.u64.wrap (2 ^ min (wrap64 (wrap64 ((m : Int) / 2 ^ k) - 1)).toNat 64) - 1))

theorem bnd_all : ∀ (k : Fin 5) (m : Fin 961), m.val ≤ bMost k.val + 1 →
    (xE k.val m.val < 0 → bFirst k.val m.val = m.val ∧ bLast k.val m.val = m.val) ∧
    (0 ≤ xE k.val m.val → xF k.val m.val = (bFirst k.val m.val : Int) ∧ xL k.val m.val = (bLast k.val m.val : Int)) ∧
    bFirst k.val m.val ≤ 9223372036854775808 ∧ (m.val ≤ bMost k.val → bFirst k.val m.val ≤ 9223372036854775807 ∧ bLast k.val m.val ≤ 9223372036854775807) := by decide +kernel

theorem bnd_at {k m : Nat} (hk : k ≤ 4) (h : m ≤ bMost k + 1) :
    (xE k m < 0 → bFirst k m = m ∧ bLast k m = m) ∧ (0 ≤ xE k m → xF k m = (bFirst k m : Int) ∧ xL k m = (bLast k m : Int)) ∧
    bFirst k m ≤ 9223372036854775808 ∧ (m ≤ bMost k → bFirst k m ≤ 9223372036854775807 ∧ bLast k m ≤ 9223372036854775807) :=
  bnd_all ⟨k, by omega⟩ ⟨m, by have := bMost_le hk; omega⟩ h

theorem wrap_neg {n : Nat} (h : n ≤ 9223372036854775808) : wrap64 (-wrap64 (n : Int)) = -(n : Int) := by unfold wrap64; omega
theorem wrap_pos {n : Nat} (h : n ≤ 9223372036854775807) : wrap64 (n : Int) = (n : Int) := by unfold wrap64; omega

theorem low_neg (k m : Nat) (hm : 1 ≤ m) : bLow k (-(m : Int)) = -((min (bLast k m) 9223372036854775808 : Nat) : Int) := by
  unfold bLow; rw [if_pos (by omega), show (-(m : Int)).natAbs = m by omega]
theorem high_neg (k m : Nat) (hm : 1 ≤ m) : bHigh k (-(m : Int)) = -(bFirst k m : Int) := by
  unfold bHigh; rw [if_pos (by omega), show (-(m : Int)).natAbs = m by omega]
theorem low_pos (k m : Nat) : bLow k (m : Int) = (bFirst k m : Int) := by
  unfold bLow; rw [if_neg (by omega), Int.natAbs_natCast]
theorem high_pos (k m : Nat) : bHigh k (m : Int) = (bLast k m : Int) := by
  unfold bHigh; rw [if_neg (by omega), Int.natAbs_natCast]

theorem Bounds_neg (k m : Nat) (hk : k ≤ 4) (hm0 : 1 ≤ m) (h : m ≤ bMost k + 1) (W w : World) (F : List Chunk) (hO : Own W w F) :
    Calls Try.prog 88 #[.int .i64 (k : Int), .int .i64 (-(m : Int))] w fun e w' => e = .returned (.tuple #[.int .i64 (bLow k (-(m : Int))), .int .i64 (bHigh k (-(m : Int))), .bool true]) ∧ Own W w' F := by
  have H := Lib.hid hO
  clear hO
  have hm := bMost_le hk
  have hmn : (0 : Int) ≤ (bMost k : Int) := Int.natCast_nonneg _
  have hm' : (bMost k : Int) ≤ 959 := by omega
  have h1 : (m : Int) ≤ bMost k + 1 := by omega
  have h1' : (1 : Int) ≤ (m : Int) := by omega
  have h3 : decide ((bMost k : Int) < -(m : Int)) = false := decide_eq_false (by omega)
  have h4 : decide (-(m : Int) < -(bMost k : Int) - 1) = false := decide_eq_false (by omega)
  have Hh := Lib.hid h
  have Hm := Lib.hid hm
  clear h hm
  go_enter Try.func88, Try.ntmps88
  go_wp2_with fail
  refine (Most_any k hk W _ F H.out).mono ?_
  rintro e w' ⟨rfl, hO1⟩
  have H1 := Lib.hid hO1
  clear hO1 H
  go_wp2_with fail
  refine (far_any (-(m : Int)) (by omega) (by omega) _).mono ?_
  rintro e w' ⟨rfl, rfl⟩
  rw [show (-(m : Int)).natAbs = m by omega]
  have hm9 : m ≤ 960 := by have := Hm.out; have := Hh.out; omega
  clear h3 h4 hmn
  go_wp2
  all_goals (go_ret3; refine ⟨ret3_ints ?_ ?_, H1.out⟩)
  · obtain ⟨g1, g2⟩ := (bnd_at hk Hh.out).1 (by assumption)
    rw [low_neg k m hm0, g2, Nat.min_eq_left (by omega)]
  · obtain ⟨g1, g2⟩ := (bnd_at hk Hh.out).1 (by assumption)
    rw [high_neg k m hm0, g1]
  · have h : 9223372036854775808 < xL k m := by assumption
    obtain ⟨g1, g2⟩ := (bnd_at hk Hh.out).2.1 (by assumption)
    rw [g2] at h
    rw [low_neg k m hm0, Nat.min_eq_right (by omega)]
    exact wrap_neg (n := 9223372036854775808) (Nat.le_refl _)
  · obtain ⟨g1, g2⟩ := (bnd_at hk Hh.out).2.1 (by assumption)
    show wrap64 (-wrap64 (xF k m)) = _
    rw [high_neg k m hm0, g1, wrap_neg (bnd_at hk Hh.out).2.2.1]
  · have h : xL k m ≤ 9223372036854775808 := by assumption
    obtain ⟨g1, g2⟩ := (bnd_at hk Hh.out).2.1 (by assumption)
    show wrap64 (-wrap64 (xL k m)) = _
    rw [g2] at h ⊢
    rw [low_neg k m hm0, Nat.min_eq_left (by omega), wrap_neg (by omega)]
  · obtain ⟨g1, g2⟩ := (bnd_at hk Hh.out).2.1 (by assumption)
    show wrap64 (-wrap64 (xF k m)) = _
    rw [high_neg k m hm0, g1, wrap_neg (bnd_at hk Hh.out).2.2.1]

theorem Bounds_pos (k m : Nat) (hk : k ≤ 4) (h : m ≤ bMost k) (W w : World) (F : List Chunk) (hO : Own W w F) :
    Calls Try.prog 88 #[.int .i64 (k : Int), .int .i64 (m : Int)] w fun e w' => e = .returned (.tuple #[.int .i64 (bLow k (m : Int)), .int .i64 (bHigh k (m : Int)), .bool true]) ∧ Own W w' F := by
  have H := Lib.hid hO
  clear hO
  have hm := bMost_le hk
  have hmn : (0 : Int) ≤ (bMost k : Int) := Int.natCast_nonneg _
  have hm' : (bMost k : Int) ≤ 959 := by omega
  have h1 : (m : Int) ≤ bMost k := by omega
  have h1' : (0 : Int) ≤ (m : Int) := by omega
  have h3 : decide ((bMost k : Int) < (m : Int)) = false := decide_eq_false (by omega)
  have h4 : decide ((m : Int) < -(bMost k : Int) - 1) = false := decide_eq_false (by omega)
  have Hh := Lib.hid h
  have Hm := Lib.hid hm
  clear h hm
  go_enter Try.func88, Try.ntmps88
  go_wp2_with fail
  refine (Most_any k hk W _ F H.out).mono ?_
  rintro e w' ⟨rfl, hO1⟩
  have H1 := Lib.hid hO1
  clear hO1 H
  go_wp2_with fail
  refine (far_any (m : Int) (by omega) (by omega) _).mono ?_
  rintro e w' ⟨rfl, rfl⟩
  rw [Int.natAbs_natCast]
  have hm9 : m ≤ 960 := by have := Hm.out; have := Hh.out; omega
  clear h3 h4 hmn
  go_wp2
  all_goals (go_ret3; refine ⟨ret3_ints ?_ ?_, H1.out⟩)
  · obtain ⟨g1, g2⟩ := (bnd_at hk (Nat.le_succ_of_le Hh.out)).1 (by assumption)
    rw [low_pos, g1]; omega
  · obtain ⟨g1, g2⟩ := (bnd_at hk (Nat.le_succ_of_le Hh.out)).1 (by assumption)
    rw [high_pos, g2]
  · obtain ⟨g1, g2⟩ := (bnd_at hk (Nat.le_succ_of_le Hh.out)).2.1 (by assumption)
    show wrap64 (xF k m) = _
    rw [low_pos, g1, wrap_pos ((bnd_at hk (Nat.le_succ_of_le Hh.out)).2.2.2 Hh.out).1]
  · obtain ⟨g1, g2⟩ := (bnd_at hk (Nat.le_succ_of_le Hh.out)).2.1 (by assumption)
    show wrap64 (xL k m) = _
    rw [high_pos, g2, wrap_pos ((bnd_at hk (Nat.le_succ_of_le Hh.out)).2.2.2 Hh.out).2]

/-- bucket.Bounds at a bucket that may be. -/
theorem Bounds_in (k : Nat) (a : Int) (hk : k ≤ 4) (h : bIn k a = true) (W w : World) (F : List Chunk) (hO : Own W w F) :
    Calls Try.prog 88 #[.int .i64 (k : Int), .int .i64 a] w fun e w' => e = .returned (.tuple #[.int .i64 (bLow k a), .int .i64 (bHigh k a), .bool true]) ∧ Own W w' F := by
  have hd : -(bMost k : Int) - 1 ≤ a ∧ a ≤ (bMost k : Int) := by simpa [bIn] using h
  by_cases hn : a < 0
  · obtain ⟨m, rfl⟩ : ∃ m : Nat, a = -(m : Int) := ⟨a.natAbs, by omega⟩
    exact Bounds_neg k m hk (by omega) (by omega) W w F hO
  · obtain ⟨m, rfl⟩ : ∃ m : Nat, a = (m : Int) := ⟨a.natAbs, by omega⟩
    exact Bounds_pos k m hk (by omega) W w F hO

end Go.Proofs.Ytbafepjmogigjaa
