/- The walks of package cell: times, right; bits.Mul64. -/
import Derived.Test.YtbafepjmogigjaaCellG
import Derived.Lib.Mul64
import Derived.Laws.Bits64b
namespace Go.Proofs.Ytbafepjmogigjaa
set_option linter.unusedSimpArgs false
set_option linter.unusedVariables false
open Go.RowKit

theorem maskN (a : Nat) (ha : a < 18446744073709551616) : bits .and .u64 (a : Int) 4294967295 = ((a % 4294967296 : Nat) : Int) := by
  have h := bits_and_u64_nat a 4294967295 ha (by omega)
  have e : a &&& 4294967295 = a % 4294967296 := Nat.and_two_pow_sub_one_eq_mod a 32
  rw [e] at h
  exact h
theorem divN (a : Nat) : (a : Int) / 4294967296 = ((a / 4294967296 : Nat) : Int) := by omega
theorem mulN (a b : Nat) : (a : Int) * (b : Int) = ((a * b : Nat) : Int) := (Int.natCast_mul a b).symm
theorem plusN (a b : Nat) : (a : Int) + (b : Int) = ((a + b : Nat) : Int) := (Int.natCast_add a b).symm
theorem wrapN (a : Nat) (ha : a < 18446744073709551616) : IntKind.u64.wrap (a : Int) = (a : Int) := by rw [IntKind.wrap_u64]; omega
theorem wrapM (a : Nat) : IntKind.u64.wrap (a : Int) = ((a % 18446744073709551616 : Nat) : Int) := by rw [IntKind.wrap_u64]; omega

set_option maxHeartbeats 1000000 in
theorem mul64_any (x y : Nat) (hx : x < 18446744073709551616) (hy : y < 18446744073709551616) (w : World) :
    Calls Try.prog 150 #[.int .u64 x, .int .u64 y] w fun e w' => e = .returned (.tuple #[.int .u64 ((x * y / 18446744073709551616 : Nat) : Int), .int .u64 ((x * y % 18446744073709551616 : Nat) : Int)]) ∧ w = w' := by
  obtain ⟨bd, bt, bw, hhi⟩ := Lib.mul64_hi x y hx hy
  have ba := Lib.half_mul_le (a := x / 4294967296) (b := y / 4294967296) (by omega) (by omega)
  have bb := Lib.half_mul_le (a := x / 4294967296) (b := y % 4294967296) (by omega) (by omega)
  have bc := Lib.half_mul_le (a := x % 4294967296) (b := y / 4294967296) (by omega) (by omega)
  have ba' : x / 4294967296 * (y / 4294967296) < 18446744073709551616 := by omega
  have bb' : x / 4294967296 * (y % 4294967296) < 18446744073709551616 := by omega
  have bc' : x % 4294967296 * (y / 4294967296) < 18446744073709551616 := by omega
  have bh1 : x / 4294967296 * (y / 4294967296) + (x / 4294967296 * (y % 4294967296) + x % 4294967296 * (y % 4294967296) / 4294967296) / 4294967296 < 18446744073709551616 := by omega
  have bh : x / 4294967296 * (y / 4294967296) + (x / 4294967296 * (y % 4294967296) + x % 4294967296 * (y % 4294967296) / 4294967296) / 4294967296 + ((x / 4294967296 * (y % 4294967296) + x % 4294967296 * (y % 4294967296) / 4294967296) % 4294967296 + x % 4294967296 * (y / 4294967296)) / 4294967296 < 18446744073709551616 := by omega
  have HX := Lib.hid hx
  have HY := Lib.hid hy
  have Hbd := Lib.hid bd
  have Hbt := Lib.hid bt
  have Hbw := Lib.hid bw
  have Hh := Lib.hid hhi
  have Hba := Lib.hid ba'
  have Hbb := Lib.hid bb'
  have Hbc := Lib.hid bc'
  have Hb1 := Lib.hid bh1
  have Hbh := Lib.hid bh
  clear hx hy bd bt bw hhi ba bb bc ba' bb' bc' bh1 bh
  go_enter Try.func150, Try.ntmps150
  go_wp2
  simp only [maskN x HX.out, maskN y HY.out, divN, mulN, plusN, wrapN _ Hbd.out, wrapN _ Hbb.out, wrapN _ Hbt.out, maskN _ Hbt.out, wrapN _ Hbc.out, wrapN _ Hbw.out, wrapN _ Hba.out, wrapN _ Hb1.out, wrapN _ Hbh.out, wrapM (x * y)]
  rw [Hh.out]
  go_ret2
  exact ⟨rfl, rfl⟩

theorem prod_words {m many : Nat} (hm : m ≤ 9223372036854775808) (hy : many ≤ 1099511627776) :
    wrap64 ((m : Int) * (many : Int) / 18446744073709551616) = hiOf ((m : Int) * (many : Int)) ∧ (m : Int) * (many : Int) % 18446744073709551616 = loOf ((m : Int) * (many : Int)) := by
  have h : m * many ≤ 9223372036854775808 * 1099511627776 := Nat.mul_le_mul hm hy
  rw [← Int.natCast_mul]
  generalize m * many = p at *
  unfold hiOf loOf wrap64
  omega

theorem prod_neg {n : Int} {many : Nat} (hn : n < 0) : -((n.natAbs : Int) * (many : Int)) = n * many := by
  rw [← Int.neg_mul]; congr 1; omega
theorem prod_pos {n : Int} {many : Nat} (hn : ¬ n < 0) : (n.natAbs : Int) * (many : Int) = n * many := by
  congr 1; omega

set_option maxRecDepth 100000 in
theorem CTimes (n : Int) (many : Nat) (hn : I64 n) (hm : many ≤ 1099511627776) (W w : World) (F : List Chunk) (hO : Own W w F) :
    Calls Try.prog 146 #[.int .i64 n, .int .u64 (many : Int)] w fun e w' => e = .returned (sumV (n * many)) ∧ Own W w' F := by
  have H := Lib.hid hO
  clear hO
  obtain ⟨m, hme⟩ : ∃ m, n.natAbs = m := ⟨_, rfl⟩
  have hml : m ≤ 9223372036854775808 := by unfold I64 at hn; omega
  have hw := prod_words hml hm
  have HW := Lib.hid hw
  have HM := Lib.hid hm
  have HL := Lib.hid hml
  by_cases hneg : n < 0
  · have hu : IntKind.u64.wrap (-IntKind.u64.wrap n) = (m : Int) := by rw [wrap_u64_neg hn.1 hneg, hme]
    have hp := prod_neg (many := many) hneg
    rw [hme] at hp
    have HP := Lib.hid hp
    clear hn hm hml hw hp hme
    go_enter Try.func146, Try.ntmps146
    go_wp2_with fail
    refine (mul64_any m many (by have := HL.out; omega) (by have := HM.out; omega) _).mono ?_
    rintro e w1 ⟨rfl, rfl⟩
    go_wp2_with fail
    rw [HW.out.1, HW.out.2]
    have hO2 := (H.out.alloc (.cells #[.int .i64 0, .int .u64 0] 82 (0, 0))).alloc (.cells #[.int .i64 (hiOf ((m : Int) * (many : Int))), .int .u64 (loOf ((m : Int) * (many : Int)))] 82 (0, 0))
    simp only [World.size_alloc] at hO2
    refine (WNeg ((m : Int) * (many : Int)) W _ _ hO2).mono ?_
    rintro e w2 ⟨rfl, hO3⟩
    have d0 := hO3.cell (i := 0) (.tail _ (.head _)) rfl
    have d1 := hO3.cell (i := 1) (.tail _ (.head _)) rfl
    have f0 := hO3.free (.tail _ (.head _)) 0
    have f1 := hO3.free (.tail _ (.head _)) 1
    rw [HP.out]
    simp only [sumV]
    have HO3 := Lib.hid (((hO3.le (L' := (w.heap.size, .cells #[.int .i64 0, .int .u64 0] 82 (0, 0)) :: F) (fun a => by simp only [cnt_append, cnt_cons, cnt_nil]; omega)).set0 0 (.int .i64 (hiOf (n * many)))).set0 1 (.int .u64 (loOf (n * many))))
    clear hO2 hO3
    go_wp2
    have k0 := HO3.out.cell (i := 0) (.head _) rfl
    have k1 := HO3.out.cell (i := 1) (.head _) rfl
    exact bodyPost_ret (v := sumV (n * many)) (by simp [sumV, results, Try.results146, go_sem, k0, k1]) rfl ⟨rfl, HO3.out.le (fun a => by simp only [cnt_append, cnt_cons, cnt_nil]; omega)⟩
  · have hu : IntKind.u64.wrap n = (m : Int) := by rw [IntKind.wrap_u64]; unfold I64 at hn; omega
    have hp := prod_pos (many := many) hneg
    rw [hme] at hp
    have HP := Lib.hid hp
    clear hn hm hml hw hp hme
    go_enter Try.func146, Try.ntmps146
    go_wp2_with fail
    refine (mul64_any m many (by have := HL.out; omega) (by have := HM.out; omega) _).mono ?_
    rintro e w1 ⟨rfl, rfl⟩
    go_wp2
    rw [HW.out.1, HW.out.2, HP.out]
    exact bodyPost_ret (v := sumV (n * many)) (by simp [sumV, results, Try.results146, go_sem]) rfl ⟨rfl, ((H.out.alloc _).alloc _).le (fun a => by simp only [cnt_append, cnt_cons, cnt_nil]; omega)⟩

/-- What a cell that was read may tell. -/
structure CRaw (c : PCell) : Prop where
  h : HOk c.k c.l
  fr : I64 c.fr
  lo : I64 c.lo
  hi : I64 c.hi
  s : I128 c.s

end Go.Proofs.Ytbafepjmogigjaa
