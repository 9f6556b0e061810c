/- scantlinglaw15: examples. -/
import Derived.Test.YtbafepjmogigjaaCellQ
import Derived.Test.YtbafepjmogigjaaText
namespace Go.Proofs.Ytbafepjmogigjaa
set_option linter.unusedSimpArgs false
set_option linter.unusedVariables false
open Go.RowKit

def ex15_0 : PCell := newC 5 1
def ex15_1 : PCell := addC ex15_0 3
def ex15_2 : PCell := addC ex15_1 (-4)

theorem ex15_k0 : COk ex15_0 := COk.new (by unfold I64; omega) (by omega)
theorem ex15_k1 : COk ex15_1 := ex15_k0.add (by unfold I64; omega) (by decide)
theorem ex15_k2 : COk ex15_2 := ex15_k1.add (by unfold I64; omega) (by decide +kernel)
theorem ex15_l : ex15_2.l.length ≤ 65535 := by decide +kernel
theorem ex15_t : total ex15_2.l = 2 := by decide +kernel
theorem ex15_v : ex15_2.s = -1 ∧ ex15_2.lo = -4 ∧ ex15_2.hi = 3 ∧ ex15_2.fr = 5 := by decide +kernel
theorem ex15_t0 : total ex15_0.l = 0 := rfl
theorem ex15_z : (cellBytes ex15_2 ++ [120]).length ≤ 1000 := by decide +kernel

theorem CCount (c : PCell) (b : Nat) (L F : List Chunk) (W w : World) (hR : CellC c b L) (hO : Own W w (L ++ F)) :
    ∃ hb, w.cell? ⟨b, 0, none⟩ = some (.pointer (some ⟨hb, 0, none⟩)) ∧ Calls Try.prog 22 #[.pointer (some ⟨hb, 0, none⟩)] w fun e w' => e = .returned (.int .u64 (total c.l : Int)) ∧ w = w' := by
  obtain ⟨hb, Hc, hH, rfl⟩ := hR
  exact ⟨hb, hO.cell (.head _) rfl, Count_C (F := (b, cellObj hb c.fr c.s c.lo c.hi) :: F) hH (hO.le (fun a => by simp only [cnt_append, cnt_cons, cnt_nil]; omega))⟩

set_option maxRecDepth 100000 in
set_option maxHeartbeats 4000000 in
theorem examples15 (W w : World) (F : List Chunk) (hO : Own W w F) :
    Calls Try.prog 52 #[] w fun e w' => e = .returned (.bool true) ∧ Own W w' F := by
  have H := Lib.hid hO
  clear hO
  go_enter Try.func52, Try.ntmps52
  go_wp2_with fail
  refine (CNew_no 0 9 (.inr (by omega)) _).mono ?_
  rintro e w1 ⟨rfl, rfl⟩
  go_wp2_with fail
  refine (CNew_yes 5 1 (by omega) W _ _ H.out).mono ?_
  rintro e w1 ⟨b, L1, rfl, hC1, hO1⟩
  have H1 := Lib.hid hO1
  have hc1 : Hid (CellC ex15_0 b L1) := hC1
  clear hO1 hC1
  go_wp2_with fail
  refine (CBounds ex15_0 b L1 F W _ ex15_k0 hc1.out H1.out).mono ?_
  rintro e w2 ⟨rfl, hO2⟩
  rw [ex15_t0]
  have H2 := Lib.hid hO2
  clear hO2
  go_wp2_with fail
  refine (CAdd_walk ex15_0 3 b L1 F W _ ex15_k0 (by unfold I64; omega) (by decide) hc1.out H2.out).mono ?_
  rintro e w3 ⟨rfl, L3, hC3, hO3⟩
  have H3 := Lib.hid hO3
  have hc3 : Hid (CellC ex15_1 b L3) := hC3
  clear hO3 hC3
  go_wp2_with fail
  refine (CAdd_walk ex15_1 (-4) b L3 F W _ ex15_k1 (by unfold I64; omega) (by decide +kernel) hc3.out H3.out).mono ?_
  rintro e w4 ⟨rfl, L4, hC4, hO4⟩
  have H4 := Lib.hid hO4
  have hc4 : Hid (CellC ex15_2 b L4) := hC4
  clear hO4 hC4
  have kt := ex15_t
  obtain ⟨v1, v2, v3, v4⟩ := ex15_v
  go_wp2_with fail
  refine (CBounds ex15_2 b L4 F W _ ex15_k2 hc4.out H4.out).mono ?_
  rintro e w5 ⟨rfl, hO5⟩
  rw [kt, v2, v3]
  have H5 := Lib.hid hO5
  clear hO5
  go_wp2_with fail
  refine (CPut ex15_2 b L4 F W _ ex15_k2 ex15_l hc4.out H5.out).mono ?_
  rintro e w6 ⟨rfl, hO6⟩
  have H6 := Lib.hid hO6
  clear hO6
  go_wp2_with fail
  have hcat : ((⟨(cellBytes ex15_2).toArray⟩ ++ ⟨#[120]⟩ : ByteArray)).data.toList = cellBytes ex15_2 ++ [120] := by simp
  refine (CGet_yes _ (by have := ex15_z; simp only [ByteArray.size_append]; simp only [List.length_append] at this; simp [ByteArray.size]; simp at this; omega) ex15_2 [120] (by rw [hcat]; exact getCell_back ex15_k2 ex15_l [120]) W _ _ H6.out).mono ?_
  rintro e w7 ⟨b', L', rfl, hC7, hk7, hO7⟩
  have H7 := Lib.hid hO7
  have hc7 := Lib.hid hC7
  clear hO7 hC7 hk7 hcat
  go_wp2_with fail
  obtain ⟨hb4, Hc4, hH4, hL4⟩ := hc4.out
  refine (CSum b hb4 ex15_2.fr ex15_2.s ex15_2.lo ex15_2.hi W _ _ H7.out (by rw [hL4]; exact List.mem_append_right _ (.head _))).mono ?_
  rw [v1]
  rintro e w8 ⟨rfl, hO8⟩
  have H8 := Lib.hid hO8
  have HL4 := Lib.hid hL4
  have HH4 := Lib.hid hH4
  clear hO8 hL4 hH4
  simp only [sumV]
  go_wp2_with fail
  refine (WText_digit 1 (by omega) (by omega) 49 (by decide) W _ _ H8.out).mono ?_
  rintro e w9 ⟨rfl, hO9⟩
  have H9 := Lib.hid hO9
  have c0 : w9.cell? ⟨b, 0, none⟩ = some (.pointer (some ⟨hb4, 0, none⟩)) := hO9.cell (i := 0) (by rw [HL4.out]; exact List.mem_append_right _ (.head _)) rfl
  clear hO9
  go_wp2_with fail
  refine (Count_C (F := (b, cellObj hb4 ex15_2.fr ex15_2.s ex15_2.lo ex15_2.hi) :: (L' ++ F)) HH4.out (H9.out.le (by rw [HL4.out]; exact (fun a => by simp only [cnt_append, cnt_cons, cnt_nil]; omega)))).mono ?_
  rintro e w10 ⟨rfl, rfl⟩
  rw [kt]
  go_wp2_with fail
  refine (CSame ex15_2 b b' L4 L' F W _ ex15_k2 ex15_l hc4.out hc7.out (H9.out.le (fun a => by simp only [cnt_append, cnt_cons, cnt_nil]; omega))).mono ?_
  rintro e w11 ⟨rfl, hO11⟩
  have H11 := Lib.hid hO11
  have g0 := hO11.get (b := b) (o := cellObj hb4 ex15_2.fr ex15_2.s ex15_2.lo ex15_2.hi) (by rw [HL4.out]; exact .head _)
  clear hO11 c0
  go_wp2_with fail
  refine (CFrom b hb4 ex15_2.fr ex15_2.s ex15_2.lo ex15_2.hi _ g0).mono ?_
  rintro e w12 ⟨rfl, rfl⟩
  rw [v4]
  clear g0
  go_wp2_with fail
  refine (CMove ex15_2 9 b L4 (L' ++ F) W _ ex15_k2 hc4.out (H11.out.le (fun a => by simp only [cnt_append, cnt_cons, cnt_nil]; omega))).mono ?_
  rintro e w13 ⟨b3, L5, rfl, hC5, hO13⟩
  obtain ⟨hb5, g5⟩ := hC5.block hO13
  have H13 := Lib.hid hO13
  clear hO13 hC5
  go_wp2_with fail
  refine (CFrom b3 hb5 9 ex15_2.s ex15_2.lo ex15_2.hi _ g5).mono ?_
  rintro e w14 ⟨rfl, rfl⟩
  clear g5
  go_wp2_with fail
  refine (Spread_walk ex15_2 b L4 (L5 ++ (L' ++ F)) W _ ex15_k2 hc4.out (H13.out.le (fun a => by simp only [cnt_append, cnt_cons, cnt_nil]; omega))).mono ?_
  rintro e w15 ⟨hb6, H6', rfl, hH6, hO15⟩
  have H15 := Lib.hid hO15
  have hh6 := Lib.hid hH6
  clear hO15 hH6
  go_wp2_with fail
  refine (Count_C (F := L4 ++ (L5 ++ (L' ++ F))) hh6.out H15.out).mono ?_
  rintro e w16 ⟨rfl, rfl⟩
  rw [kt]
  go_wp2
  go_ret
  exact ⟨rfl, H15.out.le (fun a => by simp only [cnt_append, cnt_cons, cnt_nil]; omega)⟩

end Go.Proofs.Ytbafepjmogigjaa
