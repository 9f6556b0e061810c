/- slices.BinarySearchFunc over rows of the call's own. -/
import Derived.Test.YtbafepjmogigjaaRow
import Derived.Test.YtbafepjmogigjaaBk
import Derived.LoopTactic
namespace Go.Proofs.Ytbafepjmogigjaa
set_option linter.unusedSimpArgs false
set_option linter.unusedVariables false
open Go.RowKit

/-- -1, 0, 1. -/
def cmp3 (a b : Int) : Int := if a < b then -1 else if b < a then 1 else 0

/-- What a search comes to: how many keys lie below, whether the next one is it. -/
def Found (n : Nat) (key : Nat → Int) (t : Int) (i : Nat) : Prop := i ≤ n ∧ (∀ j, j < i → key j < t) ∧ (∀ j, i ≤ j → j < n → t ≤ key j)

def RetFound (n : Nat) (key : Nat → Int) (t : Int) (W : World) (X : List Chunk) (e : Ending) (w' : World) : Prop :=
  ∃ i fnd, Found n key t i ∧ Hid (fnd = decide (i < n ∧ key i = t)) ∧ e = .returned (.tuple #[.int .i64 (i : Int), .bool fnd]) ∧ Own W w' X

theorem cmp3_neg {a b : Int} : (cmp3 a b < 0) = (a < b) := by unfold cmp3; split <;> (try split) <;> simp_all
theorem cmp3_zero {a b : Int} : (cmp3 a b = 0) = (a = b) := by
  unfold cmp3
  apply propext
  constructor
  · intro h; split at h <;> (try split at h) <;> omega
  · intro h; rw [if_neg (by omega), if_neg (by omega)]

theorem beq_of_cmp3 (a b : Int) : (cmp3 a b == 0) = decide (a = b) := by
  rw [Bool.eq_iff_iff]; simp [cmp3_zero]

theorem compare_int (a b : Int) (w : World) : Calls Try.prog 119 #[.int .i64 a, .int .i64 b] w fun e w' => e = .returned (.int .i64 (cmp3 a b)) ∧ w = w' := by
  unfold cmp3
  by_cases h : a < b
  · rw [if_pos h]
    go_enter Try.func119, Try.ntmps119
    go_wp2
    go_ret
    exact ⟨rfl, rfl⟩
  · rw [if_neg h]
    by_cases h2 : b < a
    · rw [if_pos h2]
      have hd : decide (a < b) = false := decide_eq_false h
      go_enter Try.func119, Try.ntmps119
      go_wp2
      go_ret
      exact ⟨rfl, rfl⟩
    · rw [if_neg h2]
      have hd : decide (a < b) = false := decide_eq_false h
      have hd2 : decide (b < a) = false := decide_eq_false h2
      go_enter Try.func119, Try.ntmps119
      go_wp2
      go_ret
      exact ⟨rfl, rfl⟩

/-- The closure of more. -/
theorem more1_walk (a b m : Int) (W w : World) (X : List Chunk) (hO : Own W w X) :
    Calls Try.prog 118 #[.agg #[.int .i64 a, .int .u64 m], .int .i64 b] w fun e w' => e = .returned (.int .i64 (cmp3 a b)) ∧ Own W w' X := by
  have H := Lib.hid (hO.alloc (.cells #[.int .i64 a, .int .u64 m] 35 (0, 0)))
  clear hO
  go_enter Try.func118, Try.ntmps118
  go_wp2_with fail
  refine (compare_int a b _).mono ?_
  rintro e w' ⟨rfl, rfl⟩
  go_wp2
  go_ret
  exact ⟨rfl, H.out.le (fun a => by simp only [cnt_cons]; omega)⟩

set_option maxRecDepth 100000 in
theorem BSItem (v : Value) (n : Nat) (xs : List Value) (L F : List Chunk) (key : Nat → Int) (many : Nat → Int) (t : Int) (W w : World) (hR : RowC 35 2 v n xs L)
    (hk : ∀ j, j < n → xs[j * 2]? = some (.int .i64 (key j)) ∧ xs[j * 2 + 1]? = some (.int .u64 (many j)))
    (hs : ∀ i j, i < j → j < n → key i < key j) (hn : n ≤ 1099511627776) (hO : Own W w (L ++ F)) :
    Calls Try.prog 117 #[v, .int .i64 t, .func (.func 118) #[] #[]] w (RetFound n key t W (L ++ F)) := by
  have hT := hR.two
  have hcell : ∀ r o cap, v = .slice (some ⟨r, o, none⟩) n cap → ∀ w', Own W w' (L ++ F) → ∀ j, j < n → w'.cell? ⟨r, o + j * 2, none⟩ = some (.int .i64 (key j)) ∧ w'.cell? ⟨r, o + j * 2 + 1, none⟩ = some (.int .u64 (many j)) := by
    rintro r o cap rfl w' hO' j hj
    have := hR.cell hO' _ rfl
    exact ⟨by have h := this _ _ (hk j hj).1; rwa [Addr.add_lit] at h, by have h := this _ _ (hk j hj).2; rw [Addr.add_lit] at h; rw [Nat.add_assoc]; exact h⟩
  have HC := Lib.hid hcell
  have HS := Lib.hid hs
  have H := Lib.hid hO
  clear hcell hs hO hk hR
  rcases hT with ⟨rfl, rfl, rfl, rfl⟩ | ⟨r, o, cap, rfl, hnc, hcm⟩
  · go_enter Try.func117, Try.ntmps117
    go_wp2_with fail
    go_loop [9, 10] (fun i j => i = .int .i64 0 ∧ j = .int .i64 0) (fun _ _ => 0)
    case atStart => exact ⟨rfl, rfl⟩
    case round =>
      obtain ⟨rfl, rfl⟩ := hrel
      go_wp2
      go_ret2
      exact ⟨0, false, ⟨Nat.le_refl _, by omega, by omega⟩, by show false = _; simp, rfl, H.out⟩
  · have hcm' : cap ≤ 9223372036854775807 := by unfold maxLen at hcm; omega
    clear hcm
    go_enter Try.func117, Try.ntmps117
    go_wp2_with fail
    go_loopw [9, 10] (fun i j wr => ∃ a b : Nat, i = .int .i64 a ∧ j = .int .i64 b ∧ a ≤ b ∧ b ≤ n ∧ Hid ((∀ k, k < a → key k < t) ∧ (∀ k, b ≤ k → k < n → t ≤ key k) ∧ Own W wr (L ++ F))) (fun i j _ => (intOf j - intOf i).toNat)
    case atStart => exact ⟨0, n, rfl, rfl, by omega, by omega, by omega, by omega, H.out⟩
    case round =>
      obtain ⟨a, b, rfl, rfl, hab, hbn, hq⟩ := hrel
      by_cases hlt : a < b
      · obtain ⟨m, hm⟩ : ∃ m, (a + b) / 2 = m := ⟨_, rfl⟩
        have hmi : ((a : Int) + (b : Int)) / 2 = (m : Int) := by omega
        have hm1 : a ≤ m := by omega
        have hm2 : m < b := by omega
        have hm3 : (m : Int) < (n : Int) := by omega
        obtain ⟨c1, c2⟩ := HC.out r o cap rfl _ hq.out.2.2 m (by omega)
        clear hm
        go_wp2_with (go_at_call 118; refine (more1_walk _ _ _ W _ _ hq.out.2.2).mono ?_; rintro e w' ⟨rfl, hO1⟩; have H1 := Lib.hid hO1; clear hO1)
        · have hc : cmp3 (key m) t < 0 := by assumption
          rw [cmp3_neg] at hc
          refine ⟨⟨m + 1, b, by go_num, rfl, by omega, by omega, fun k hk => ?_, hq.out.2.1, H1.out⟩, by simp [intOf]; omega⟩
          by_cases hkm : k = m
          · rw [hkm]; exact hc
          · exact Int.lt_trans (HS.out k m (by omega) (by omega)) hc
        · have hc : 0 ≤ cmp3 (key m) t := by assumption
          have hc' : t ≤ key m := by
            have : ¬ (key m < t) := by rw [← cmp3_neg]; omega
            omega
          refine ⟨⟨a, m, rfl, rfl, by omega, by omega, hq.out.1, fun k hk1 hk2 => ?_, H1.out⟩, by simp [intOf]; omega⟩
          by_cases hkm : k = m
          · rw [hkm]; exact hc'
          · exact Int.le_trans hc' (Int.le_of_lt (HS.out m k (by omega) hk2))
      · obtain rfl : a = b := by omega
        clear hlt
        by_cases han : a < n
        · have hani : (a : Int) < (n : Int) := by omega
          obtain ⟨c1, c2⟩ := HC.out r o cap rfl _ hq.out.2.2 a han
          go_wp2_with (go_at_call 118; refine (more1_walk _ _ _ W _ _ hq.out.2.2).mono ?_; rintro e w' ⟨rfl, hO1⟩; have H1 := Lib.hid hO1; clear hO1)
          go_ret2
          refine ⟨a, _, ⟨hbn, hq.out.1, hq.out.2.1⟩, ?_, rfl, H1.out⟩
          show _ = decide _
          simp only [beq_of_cmp3, han, true_and]
        · go_wp2
          go_ret2
          refine ⟨a, _, ⟨hbn, hq.out.1, hq.out.2.1⟩, ?_, rfl, hq.out.2.2⟩
          show _ = decide _
          simp only [han, false_and, decide_false]

end Go.Proofs.Ytbafepjmogigjaa
