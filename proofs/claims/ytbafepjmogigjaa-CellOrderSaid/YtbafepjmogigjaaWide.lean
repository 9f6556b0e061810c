/- The walks of package wide: Of, Add, Neg, Less. -/
import Derived.Test.YtbafepjmogigjaaCellPure
import Derived.Test.YtbafepjmogigjaaBS
import Derived.Shelf.Spec.BitsCarry
namespace Go.Proofs.Ytbafepjmogigjaa
set_option linter.unusedSimpArgs false
set_option linter.unusedVariables false
open Go.RowKit

def sumV (s : Int) : Value := .agg #[.int .i64 (hiOf s), .int .u64 (loOf s)]

theorem add64_0 (x y : Int) (hx : 0 ≤ x) (hy : 0 ≤ y) (w : World) : (callFunc 113 #[.int .u64 x, .int .u64 y, .int .u64 0]).run Try.prog w =
    .ok (.value (.tuple #[.int .u64 ((x + y) % 18446744073709551616), .int .u64 ((x + y) / 18446744073709551616)])) w := by
  rw [run_callFunc_extern Try.func113 (by kernel_rfl) (by kernel_rfl) (by kernel_rfl) (e := add64Entry) (by kernel_rfl), run_add64 x y 0 hx hy (by omega) (by omega)]
  simp only [Result.andThen, Int.add_zero]

theorem add64 (x y c : Int) (hx : 0 ≤ x) (hy : 0 ≤ y) (hc : 0 ≤ c) (hc1 : c ≤ 1) (w : World) : (callFunc 113 #[.int .u64 x, .int .u64 y, .int .u64 c]).run Try.prog w =
    .ok (.value (.tuple #[.int .u64 ((x + y + c) % 18446744073709551616), .int .u64 ((x + y + c) / 18446744073709551616)])) w := by
  rw [run_callFunc_extern Try.func113 (by kernel_rfl) (by kernel_rfl) (by kernel_rfl) (e := add64Entry) (by kernel_rfl), run_add64 x y c hx hy hc hc1]
  simp only [Result.andThen]

def bor (x y b : Int) : Int := if x < y + b then 1 else 0

theorem sub64 (x y b : Int) (hx : 0 ≤ x) (hx1 : x < 18446744073709551616) (hy : 0 ≤ y) (hy1 : y < 18446744073709551616) (hc : 0 ≤ b) (hc1 : b ≤ 1) (w : World) : (callFunc 143 #[.int .u64 x, .int .u64 y, .int .u64 b]).run Try.prog w =
    .ok (.value (.tuple #[.int .u64 ((x - y - b) % 18446744073709551616), .int .u64 (bor x y b)])) w := by
  obtain ⟨X, rfl⟩ := Int.eq_ofNat_of_zero_le hx
  obtain ⟨Y, rfl⟩ := Int.eq_ofNat_of_zero_le hy
  obtain ⟨B, rfl⟩ := Int.eq_ofNat_of_zero_le hc
  rw [run_callFunc_extern Try.func143 (by kernel_rfl) (by kernel_rfl) (by kernel_rfl) (e := sub64Entry) (by kernel_rfl), run_sub64 X Y B (by omega)]
  simp only [Result.andThen]
  have e1 : (((X + 18446744073709551616 - Y - B) % 18446744073709551616 : Nat) : Int) = ((X : Int) - Y - B) % 18446744073709551616 := by omega
  have e2 : ((if X < Y + B then 1 else 0 : Nat) : Int) = bor X Y B := by
    unfold bor
    by_cases h : X < Y + B
    · rw [if_pos h, if_pos (by omega)]; rfl
    · rw [if_neg h, if_neg (by omega)]; rfl
  rw [e1, e2]

theorem WOf (n : Int) (h : I64 n) (W w : World) (F : List Chunk) (hO : Own W w F) :
    Calls Try.prog 64 #[.int .i64 n] w fun e w' => e = .returned (sumV n) ∧ Own W w' F := by
  have H := Lib.hid hO
  clear hO
  have e1 : n / 9223372036854775808 = hiOf n := by rw [hiOf_num h]; unfold I64 at h; split <;> omega
  have e2 : IntKind.u64.wrap n = loOf n := (loOf_num h).symm
  have E1 := Lib.hid e1
  have E2 := Lib.hid e2
  clear e1 e2 h
  go_enter Try.func64, Try.ntmps64
  go_wp2
  rw [E1.out, E2.out]
  exact bodyPost_ret (v := sumV n) (by simp [sumV, results, Try.results64, go_sem]) rfl ⟨rfl, (H.out.alloc _).le (fun a => by simp only [cnt_append, cnt_cons, cnt_nil]; omega)⟩

theorem WAdd (s t : Int) (W w : World) (F : List Chunk) (hO : Own W w F) :
    Calls Try.prog 63 #[.agg #[.int .i64 (hiOf s), .int .u64 (loOf s)], .agg #[.int .i64 (hiOf t), .int .u64 (loOf t)]] w fun e w' => e = .returned (sumV (s + t)) ∧ Own W w' F := by
  have H := Lib.hid hO
  clear hO
  have e1 := hiOf_add s t
  have e2 := loOf_add s t
  have a1 := loOf_nn s
  have a2 := loOf_nn t
  have a3 := loOf_lt s
  have a4 := loOf_lt t
  rw [sumV, e1, e2]
  generalize hiOf s = hs at *
  generalize hiOf t = ht at *
  generalize loOf s = ls at *
  generalize loOf t = lt at *
  have k0 : 0 ≤ (ls + lt) / 18446744073709551616 := by omega
  have k1 : (ls + lt) / 18446744073709551616 ≤ 1 := by omega
  have b1 : 0 ≤ IntKind.u64.wrap hs := by rw [IntKind.wrap_u64]; omega
  have b2 : 0 ≤ IntKind.u64.wrap ht := by rw [IntKind.wrap_u64]; omega
  have E1 := Lib.hid a3
  have E2 := Lib.hid a4
  clear a3 a4 e1 e2
  go_enter Try.func63, Try.ntmps63
  go_wp2_with (first | simp only [add64_0 ls lt a1 a2] | simp only [add64 _ _ _ b1 b2 k0 k1])
  exact bodyPost_ret (by simp [results, Try.results63, go_sem]; unfold wrap64; omega) rfl ⟨rfl, (((H.out.alloc _).alloc _).alloc _).le (fun a => by simp only [cnt_append, cnt_cons, cnt_nil]; omega)⟩

theorem compare_i64 (a b : Int) (w : World) : Calls Try.prog 125 #[.int .i64 a, .int .i64 b] w fun e w' => e = .returned (.int .i64 (cmp3 a b)) ∧ w = w' := by
  unfold cmp3
  by_cases h : a < b
  · rw [if_pos h]
    go_enter Try.func125, Try.ntmps125
    go_wp2
    go_ret
    exact ⟨rfl, rfl⟩
  · rw [if_neg h]
    by_cases h2 : b < a
    · rw [if_pos h2]
      have hd : decide (a < b) = false := decide_eq_false h
      go_enter Try.func125, Try.ntmps125
      go_wp2
      go_ret
      exact ⟨rfl, rfl⟩
    · rw [if_neg h2]
      have hd : decide (a < b) = false := decide_eq_false h
      have hd2 : decide (b < a) = false := decide_eq_false h2
      go_enter Try.func125, Try.ntmps125
      go_wp2
      go_ret
      exact ⟨rfl, rfl⟩

theorem compare_u64 (a b : Int) (w : World) : Calls Try.prog 154 #[.int .u64 a, .int .u64 b] w fun e w' => e = .returned (.int .i64 (cmp3 a b)) ∧ w = w' := by
  unfold cmp3
  by_cases h : a < b
  · rw [if_pos h]
    go_enter Try.func154, Try.ntmps154
    go_wp2
    go_ret
    exact ⟨rfl, rfl⟩
  · rw [if_neg h]
    by_cases h2 : b < a
    · rw [if_pos h2]
      have hd : decide (a < b) = false := decide_eq_false h
      go_enter Try.func154, Try.ntmps154
      go_wp2
      go_ret
      exact ⟨rfl, rfl⟩
    · rw [if_neg h2]
      have hd : decide (a < b) = false := decide_eq_false h
      have hd2 : decide (b < a) = false := decide_eq_false h2
      go_enter Try.func154, Try.ntmps154
      go_wp2
      go_ret
      exact ⟨rfl, rfl⟩

def orN (a b : Int) : Int := if a = 0 then b else a

theorem Or_two (a b : Int) (r : Nat) (w : World) (c0 : w.cell? ⟨r, 0, none⟩ = some (.int .i64 a)) (c1 : w.cell? ⟨r, 1, none⟩ = some (.int .i64 b)) :
    Calls Try.prog 153 #[.slice (some ⟨r, 0, none⟩) 2 2] w fun e w' => e = .returned (.int .i64 (orN a b)) ∧ w = w' := by
  generalize hr : orN a b = res
  unfold orN at hr
  have HR := Lib.hid hr
  clear hr
  go_enter Try.func153, Try.ntmps153
  go_wp2_with fail
  go_loop [8] (fun i => ∃ j : Nat, j ≤ 2 ∧ i = .int .i64 (j : Int) ∧ Hid ((1 ≤ j → a = 0) ∧ (2 ≤ j → b = 0))) (fun i => 2 - (intOf i).toNat)
  case atStart => exact ⟨0, by omega, rfl, fun h => by omega, fun h => by omega⟩
  case round =>
    obtain ⟨j, hj, rfl, hq⟩ := hrel
    have hj3 : j = 0 ∨ j = 1 ∨ j = 2 := by omega
    rcases hj3 with rfl | rfl | rfl
    · by_cases h : a = 0
      · have hb : (a != 0) = false := by simpa using h
        have HA := Lib.hid h
        clear h
        go_wp2
        exact ⟨⟨1, by omega, rfl, fun _ => HA.out, fun h => by omega⟩, by simp [intOf]⟩
      · have hb : (a != 0) = true := by simpa using h
        have HA := Lib.hid h
        clear h
        go_wp2
        go_ret
        exact ⟨by rw [← HR.out, if_neg HA.out]; rfl, rfl⟩
    · by_cases h : b = 0
      · have hb : (b != 0) = false := by simpa using h
        have HA := Lib.hid h
        clear h
        go_wp2
        exact ⟨⟨2, by omega, rfl, fun _ => hq.out.1 (by omega), fun _ => HA.out⟩, by simp [intOf]⟩
      · have hb : (b != 0) = true := by simpa using h
        have HA := Lib.hid h
        clear h
        go_wp2
        go_ret
        exact ⟨by rw [← HR.out, if_pos (hq.out.1 (by omega))]; rfl, rfl⟩
    · go_wp2
      go_ret
      exact ⟨by rw [← HR.out, if_pos (hq.out.1 (by omega)), hq.out.2 (by omega)]; rfl, rfl⟩

theorem cmp_words {s t : Int} (hs : I128 s) (ht : I128 t) : orN (cmp3 (hiOf s) (hiOf t)) (cmp3 (loOf s) (loOf t)) = cmp3 s t := by
  unfold orN
  have e1 := sum_of_words hs
  have e2 := sum_of_words ht
  have a1 := loOf_nn s
  have a2 := loOf_nn t
  have a3 := loOf_lt s
  have a4 := loOf_lt t
  unfold cmp3
  generalize hiOf s = x at *
  generalize hiOf t = y at *
  generalize loOf s = u at *
  generalize loOf t = v at *
  by_cases h1 : x < y
  · rw [if_pos h1, if_neg (by omega), if_pos (by omega)]
  · by_cases h2 : y < x
    · rw [if_neg h1, if_pos h2, if_neg (by omega), if_neg (by omega), if_pos (by omega)]
    · obtain rfl : x = y := by omega
      simp only [Int.lt_irrefl, ↓reduceIte]
      by_cases h3 : u < v
      · rw [if_pos h3, if_pos (by omega)]
      · rw [if_neg h3, if_neg (show ¬ s < t by omega)]
        by_cases h4 : v < u
        · rw [if_pos h4, if_pos (by omega)]
        · rw [if_neg h4, if_neg (by omega)]

theorem WCompare (s t : Int) (hs : I128 s) (ht : I128 t) (W w : World) (F : List Chunk) (hO : Own W w F) :
    Calls Try.prog 149 #[.agg #[.int .i64 (hiOf s), .int .u64 (loOf s)], .agg #[.int .i64 (hiOf t), .int .u64 (loOf t)]] w fun e w' => e = .returned (.int .i64 (cmp3 s t)) ∧ Own W w' F := by
  have hO3 := (((hO.alloc (.cells #[.int .i64 (hiOf s), .int .u64 (loOf s)] 82)).alloc (.cells #[.int .i64 (hiOf t), .int .u64 (loOf t)] 82)).alloc (.cells #[.int .i64 (cmp3 (hiOf s) (hiOf t)), .int .i64 (cmp3 (loOf s) (loOf t))] 3)).drew
  simp only [World.size_alloc] at hO3
  have c0 := hO3.cell (i := 0) (.head _) rfl
  have c1 := hO3.cell (i := 1) (.head _) rfl
  have H := Lib.hid (hO3.le (L' := F) (fun a => by simp only [cnt_append, cnt_cons, cnt_nil]; omega))
  have E := Lib.hid (cmp_words hs ht)
  clear hs ht hO hO3
  go_enter Try.func149, Try.ntmps149
  go_wp2_with fail
  go_region_held3 (fun w' => w'.cell? ⟨w.heap.size, 0, none⟩ = some (.int .i64 (hiOf s)) ∧ w'.cell? ⟨w.heap.size, 1, none⟩ = some (.int .u64 (loOf s)) ∧ w'.cell? ⟨w.heap.size + 1, 0, none⟩ = some (.int .i64 (hiOf t)) ∧ w'.cell? ⟨w.heap.size + 1, 1, none⟩ = some (.int .u64 (loOf t))) (go_keep)
    (first
      | (go_at_call 125; refine (compare_i64 _ _ _).mono ?_; rintro e w2 ⟨rfl, rfl⟩)
      | (go_at_call 154; refine (compare_u64 _ _ _).mono ?_; rintro e w2 ⟨rfl, rfl⟩)
      | (go_at_call 153; refine (Or_two _ _ _ _ c0 c1).mono ?_; rintro e w2 ⟨rfl, rfl⟩))
  go_wp2
  rw [E.out]
  go_ret
  exact ⟨rfl, H.out⟩

theorem WLess (s t : Int) (hs : I128 s) (ht : I128 t) (W w : World) (F : List Chunk) (hO : Own W w F) :
    Calls Try.prog 145 #[.agg #[.int .i64 (hiOf s), .int .u64 (loOf s)], .agg #[.int .i64 (hiOf t), .int .u64 (loOf t)]] w fun e w' => e = .returned (.bool (decide (s < t))) ∧ Own W w' F := by
  have H := Lib.hid hO
  have HS := Lib.hid hs
  have HT := Lib.hid ht
  have hc : decide (cmp3 s t < 0) = decide (s < t) := by rw [decide_eq_decide, cmp3_neg]
  have HC := Lib.hid hc
  clear hO hs ht hc
  go_enter Try.func145, Try.ntmps145
  go_wp2_with fail
  refine (WCompare s t HS.out HT.out W _ F (((H.out.alloc _).alloc _).le (fun a => by simp only [cnt_append, cnt_cons, cnt_nil]; omega))).mono ?_
  rintro e w' ⟨rfl, hO1⟩
  have H1 := Lib.hid hO1
  clear hO1
  go_wp2
  rw [HC.out]
  go_ret
  exact ⟨rfl, H1.out⟩

theorem neg_words (s : Int) : loOf (-s) = (-loOf s) % 18446744073709551616 ∧ hiOf (-s) = wrap64 ((-IntKind.u64.wrap (hiOf s) - bor 0 (loOf s) 0) % 18446744073709551616) := by
  unfold bor hiOf loOf
  rw [IntKind.wrap_u64]
  unfold wrap64
  constructor
  · omega
  · split <;> omega

theorem WNeg (s : Int) (W w : World) (F : List Chunk) (hO : Own W w F) :
    Calls Try.prog 128 #[.agg #[.int .i64 (hiOf s), .int .u64 (loOf s)]] w fun e w' => e = .returned (sumV (-s)) ∧ Own W w' F := by
  have H := Lib.hid hO
  clear hO
  have e1 := Lib.hid (neg_words s)
  have a1 := loOf_nn s
  have a3 := loOf_lt s
  generalize hiOf s = hs at *
  generalize loOf s = ls at *
  have b1 : 0 ≤ IntKind.u64.wrap hs := by rw [IntKind.wrap_u64]; omega
  have b2 : IntKind.u64.wrap hs < 18446744073709551616 := by rw [IntKind.wrap_u64]; omega
  have k0 : 0 ≤ bor 0 ls 0 := by unfold bor; split <;> omega
  have k1 : bor 0 ls 0 ≤ 1 := by unfold bor; split <;> omega
  have s1 := sub64 0 ls 0 (by omega) (by omega) a1 a3 (by omega) (by omega)
  have s2 := sub64 0 (IntKind.u64.wrap hs) (bor 0 ls 0) (by omega) (by omega) b1 b2 k0 k1
  clear a3 b2
  go_enter Try.func128, Try.ntmps128
  go_wp2_with (first | simp only [s1] | simp only [s2])
  exact bodyPost_ret (v := sumV (-s)) (by simp [sumV, results, Try.results128, go_sem, e1.out.1, e1.out.2]) rfl ⟨rfl, ((H.out.alloc _).alloc _).le (fun a => by simp only [cnt_append, cnt_cons, cnt_nil]; omega)⟩

end Go.Proofs.Ytbafepjmogigjaa
