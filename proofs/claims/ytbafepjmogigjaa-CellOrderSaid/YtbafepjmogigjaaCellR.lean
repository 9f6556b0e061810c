/- The walk of cell.right. -/
import Derived.Test.YtbafepjmogigjaaCellH
namespace Go.Proofs.Ytbafepjmogigjaa
set_option linter.unusedSimpArgs false
set_option linter.unusedVariables false
open Go.RowKit

def RetRight (c : PCell) (W : World) (F : List Chunk) (e : Ending) (w' : World) : Prop :=
  e = (if rightC c = true then .returned (.tuple #[]) else .panicked [{ v := .iface 40 (.int .i64 2), recovered := false }]) ∧ Own W w' F

theorem sum_zero {s : Int} (h : I128 s) : s = 0 ↔ hiOf s = 0 ∧ loOf s = 0 := by
  have := sum_of_words h
  constructor
  · rintro rfl; exact ⟨by unfold hiOf wrap64; omega, by unfold loOf; omega⟩
  · rintro ⟨h1, h2⟩; rw [h1, h2] at this; omega

/-- The cells that right reads. -/
def RCells (w : World) (b hb r o n1 : Nat) (c : PCell) : Prop :=
  w.cell? ⟨b, 0, none⟩ = some (.pointer (some ⟨hb, 0, none⟩)) ∧ w.cell? ⟨b, 2, none⟩ = some (.int .i64 (hiOf c.s)) ∧ w.cell? ⟨b, 3, none⟩ = some (.int .u64 (loOf c.s)) ∧ w.cell? ⟨b, 4, none⟩ = some (.int .i64 c.lo) ∧ w.cell? ⟨b, 5, none⟩ = some (.int .i64 c.hi) ∧
  w.cell? ⟨r, o, none⟩ = some (.int .i64 (keyAt c.l 0)) ∧ w.cell? ⟨r, o + n1 * 2, none⟩ = some (.int .i64 (keyAt c.l n1))

theorem rcells {b hb r o n1 cap : Nat} {c : PCell} {L1 Hc F : List Chunk} {W w : World} (hR : RowC 35 2 (.slice (some ⟨r, o, none⟩) c.l.length cap) c.l.length (itemCells c.l) L1) (hn : c.l.length = n1 + 1)
    (hO : Own W w (L1 ++ (Hc ++ (b, cellObj hb c.fr c.s c.lo c.hi) :: F))) : RCells w b hb r o n1 c := by
  obtain ⟨d0, d1, d2, d3, d4, d5⟩ := cellcells hO (List.mem_append_right _ (List.mem_append_right _ (.head _)))
  have hc := hR.cell hO _ rfl
  have h1 := hc _ _ (itemCells_at c.l 0 (by omega)).1
  have h2 := hc _ _ (itemCells_at c.l n1 (by omega)).1
  rw [Addr.add_lit] at h1 h2
  exact ⟨d0, d2, d3, d4, d5, h1, h2⟩

set_option maxRecDepth 100000 in
set_option maxHeartbeats 2000000 in
theorem CRight_yes (c : PCell) (b : Nat) (L F : List Chunk) (W w : World) (hc : CRaw c) (hr : rightC c = true) (hR : CellC c b L) (hO : Own W w (L ++ F)) :
    Calls Try.prog 133 #[.pointer (some ⟨b, 0, none⟩)] w (RetRight c W (L ++ F)) := by
  obtain ⟨hb, Hc, hH, rfl⟩ := hR
  obtain ⟨c0, c1, c2, c3, c4, c5⟩ := cellcells hO (.head _)
  have H := Lib.hid hO
  have HH := Lib.hid hH
  have HC := Lib.hid hc
  have HRI := Lib.hid hr
  clear hO hH hc hr
  obtain ⟨ok0, hok0⟩ : ∃ ok0, decide (c.lo ≤ c.hi) = ok0 := ⟨_, rfl⟩
  go_enter Try.func133, Try.ntmps133
  go_wp2_with fail
  refine (Items_walk c.k c.l hb Hc ((b, cellObj hb c.fr c.s c.lo c.hi) :: F) W _ HC.out.h HH.out (H.out.le (fun a => by simp only [cnt_append, cnt_cons, cnt_nil]; omega))).mono ?_
  rintro e w1 ⟨v1, L1, rfl, hR1, hO1⟩
  obtain ⟨a2, cap2, rfl, hq1, hq2, hq3, hq4⟩ := hR1.form
  have hcm : cap2 ≤ 9223372036854775807 := by unfold maxLen at hq2; omega
  go_wp2_with fail
  obtain ⟨d0, d1, d2, d3, d4, d5⟩ := cellcells hO1 (List.mem_append_right _ (List.mem_append_right _ (.head _)))
  have HR1 := Lib.hid hR1
  have HO1 := Lib.hid hO1
  have HQ3 := Lib.hid hq3
  have HQ4 := Lib.hid hq4
  clear c0 c1 c2 c3 c4 c5 hR1 hO1 hq2 hq3 hq4
  go_quiet (fail)
  have HO2 := Lib.hid (HO1.out.drewN nq)
  generalize w1.drewN nq = wd at *
  clear d0 d1 d2 d3 d4 d5
  obtain ⟨d0, d1, d2, d3, d4, d5⟩ := cellcells HO2.out (List.mem_append_right _ (List.mem_append_right _ (.head _)))
  go_upto_if 24 with fail
  go_cut [3] (fun okv wx => okv = .bool (rightC c) ∧ Hid (Own W wx ((b, cellObj hb c.fr c.s c.lo c.hi) :: Hc ++ F)))
  case first =>
    by_cases e : c.l = []
    · have hl0 : ((c.l.length : Int) == 0) = true := by rw [e]; rfl
      have hz : rightC c = ((c.lo == 0) && ((c.hi == 0) && ((hiOf c.s == 0) && (loOf c.s == 0)))) := by
        unfold rightC
        rw [if_pos e, Bool.eq_iff_iff]
        simp only [decide_eq_true_eq, Bool.and_eq_true, beq_iff_eq]
        rw [sum_zero HC.out.s]
      have hzz := HRI.out
      rw [hz] at hzz
      simp only [Bool.and_eq_true] at hzz
      obtain ⟨hb1, hb2, hb3, hb4⟩ := hzz
      clear hz
      go_wp2_with fail
      go_meet
      exact ⟨by rw [HRI.out], (HO2.out.le (fun a => by simp only [cnt_append, cnt_cons, cnt_nil]; omega))⟩
    · obtain ⟨n1, hn1⟩ : ∃ n1, c.l.length = n1 + 1 := ⟨c.l.length - 1, by have := List.length_pos_iff.2 e; omega⟩
      cases a2 with
      | none => have := (HQ3.out rfl).1; omega
      | some q =>
        obtain ⟨r, o, sp⟩ := q
        obtain rfl : sp = none := HQ4.out _ rfl
        have hl0 : ((c.l.length : Int) == 0) = false := by simp; omega
        have hz : rightC c = (decide (c.lo ≤ c.hi) && ((bkOf c.k c.lo == keyAt c.l 0) && ((bkOf c.k c.hi == keyAt c.l n1) && (!decide (c.s < c.lo * total c.l) && !decide (c.hi * total c.l < c.s))))) := by
          unfold rightC
          rw [if_neg e, Bool.eq_iff_iff, hn1]
          simp only [decide_eq_true_eq, Bool.and_eq_true, beq_iff_eq, Bool.not_eq_true', decide_eq_false_iff_not, Int.not_lt, Nat.add_sub_cancel]
        have hl1 : (c.l.length : Int) - 1 = (n1 : Int) := by omega
        have hl2 : IntKind.i64.wrap ((c.l.length : Int) - 1) = (n1 : Int) := by rw [hl1, IntKind.wrap_i64]; omega
        have hl3 : (n1 : Int) < (c.l.length : Int) := by omega
        have hl7 : IntKind.i64.wrap (n1 : Int) = (n1 : Int) := by rw [IntKind.wrap_i64]; omega
        have hl4 : (0 : Int) < (c.l.length : Int) := by omega
        have hl5 : 0 < c.l.length := by omega
        have hl6 : n1 < c.l.length := by omega
        have HN := Lib.hid hn1
        have HL1 := Lib.hid HC.out.lo.1
        have HL2 := Lib.hid HC.out.lo.2
        have HI1 := Lib.hid HC.out.hi.1
        have HI2 := Lib.hid HC.out.hi.2
        have HE := Lib.hid e
        have HZ := Lib.hid hz
        clear hn1 e hz
        clear d0 d1 d2 d3 d4 d5
        obtain ⟨d0, d2, d3, d4, d5, d6, d7⟩ := rcells HR1.out HN.out HO2.out
        go_wp2_with fail
        go_region_held3 (fun w' => w'.cell? ⟨b, 0, none⟩ = some (.pointer (some ⟨hb, 0, none⟩)) ∧ w'.cell? ⟨b, 2, none⟩ = some (.int .i64 (hiOf c.s)) ∧ w'.cell? ⟨b, 3, none⟩ = some (.int .u64 (loOf c.s)) ∧ w'.cell? ⟨b, 4, none⟩ = some (.int .i64 c.lo) ∧ w'.cell? ⟨b, 5, none⟩ = some (.int .i64 c.hi) ∧ w'.cell? ⟨r, o, none⟩ = some (.int .i64 (keyAt c.l 0)) ∧ w'.cell? ⟨r, o + n1 * 2, none⟩ = some (.int .i64 (keyAt c.l n1)))
          (first | go_keep | exact rcells HR1.out HN.out hO3)
          (first
            | (go_at_call 76; ((with_reducible refine (Bits_C (F := (b, cellObj hb c.fr c.s c.lo c.hi) :: (L1 ++ F)) HH.out (by exact (HO2.out.drew.le (fun a => by simp only [cnt_append, cnt_cons, cnt_nil]; omega)))).mono ?_); rintro e w2 ⟨rfl, rfl⟩))
            | (go_at_call 18; ((with_reducible refine (Of_any c.k c.lo HC.out.h.bits HL1.out HL2.out W _ (L1 ++ (Hc ++ (b, cellObj hb c.fr c.s c.lo c.hi) :: F)) (by exact HO2.out.drew)).mono ?_); rintro e w2 ⟨rfl, hO3⟩)))
        rename_i hS
        clear hS
        have HO3 := Lib.hid hO3
        clear d0 d2 d3 d4 d5 d6 d7 hO3
        obtain ⟨d0, d2, d3, d4, d5, d6, d7⟩ := rcells HR1.out HN.out HO3.out
        go_wp2_with fail
        go_region_held3 (fun w' => w'.cell? ⟨b, 0, none⟩ = some (.pointer (some ⟨hb, 0, none⟩)) ∧ w'.cell? ⟨b, 2, none⟩ = some (.int .i64 (hiOf c.s)) ∧ w'.cell? ⟨b, 3, none⟩ = some (.int .u64 (loOf c.s)) ∧ w'.cell? ⟨b, 4, none⟩ = some (.int .i64 c.lo) ∧ w'.cell? ⟨b, 5, none⟩ = some (.int .i64 c.hi) ∧ w'.cell? ⟨r, o, none⟩ = some (.int .i64 (keyAt c.l 0)) ∧ w'.cell? ⟨r, o + n1 * 2, none⟩ = some (.int .i64 (keyAt c.l n1)))
          (first | go_keep | exact rcells HR1.out HN.out hO4)
          (first
            | (go_at_call 76; ((with_reducible refine (Bits_C (F := (b, cellObj hb c.fr c.s c.lo c.hi) :: (L1 ++ F)) HH.out (by exact (HO3.out.drew.le (fun a => by simp only [cnt_append, cnt_cons, cnt_nil]; omega)))).mono ?_); rintro e w3 ⟨rfl, rfl⟩))
            | (go_at_call 18; ((with_reducible refine (Of_any c.k c.hi HC.out.h.bits HI1.out HI2.out W _ (L1 ++ (Hc ++ (b, cellObj hb c.fr c.s c.lo c.hi) :: F)) (by exact HO3.out.drew)).mono ?_); rintro e w3 ⟨rfl, hO4⟩)))
        rename_i hS
        clear hS
        have HO4 := Lib.hid hO4
        clear d0 d2 d3 d4 d5 d6 d7 hO4
        obtain ⟨d0, d2, d3, d4, d5, d6, d7⟩ := rcells HR1.out HN.out HO4.out
        go_wp2_with fail
        have hm1 := mul_bounds HC.out.lo HC.out.h.most
        have hm2 := mul_bounds HC.out.hi HC.out.h.most
        have HX1 : Hid (I128 (c.lo * total c.l)) := by unfold Hid I128; omega
        have HX2 : Hid (I128 (c.hi * total c.l)) := by unfold Hid I128; omega
        clear hm1 hm2
        have hzz := HRI.out
        rw [HZ.out] at hzz
        simp only [Bool.and_eq_true, Bool.not_eq_true'] at hzz
        obtain ⟨h1, h2, h3, h4, h5⟩ := hzz
        rw [hok0] at h1
        subst h1
        go_region_held3 (fun w' => w'.cell? ⟨b, 0, none⟩ = some (.pointer (some ⟨hb, 0, none⟩)) ∧ w'.cell? ⟨b, 2, none⟩ = some (.int .i64 (hiOf c.s)) ∧ w'.cell? ⟨b, 3, none⟩ = some (.int .u64 (loOf c.s)) ∧ w'.cell? ⟨b, 4, none⟩ = some (.int .i64 c.lo) ∧ w'.cell? ⟨b, 5, none⟩ = some (.int .i64 c.hi) ∧ w'.cell? ⟨r, o, none⟩ = some (.int .i64 (keyAt c.l 0)) ∧ w'.cell? ⟨r, o + n1 * 2, none⟩ = some (.int .i64 (keyAt c.l n1)))
          (first | go_keep | exact rcells HR1.out HN.out hO5 | exact rcells HR1.out HN.out hO6 | exact rcells HR1.out HN.out hO7 | exact rcells HR1.out HN.out hO8)
          (first
          | (go_at_call 22; ((with_reducible refine (Count_C (F := (b, cellObj hb c.fr c.s c.lo c.hi) :: (L1 ++ F)) HH.out (by exact (HO4.out.drew.le (fun a => by simp only [cnt_append, cnt_cons, cnt_nil]; omega)))).mono ?_); rintro e w4 ⟨rfl, rfl⟩))
          | (go_at_call 146; ((with_reducible refine (CTimes c.lo (total c.l) HC.out.lo HC.out.h.most W _ (L1 ++ (Hc ++ (b, cellObj hb c.fr c.s c.lo c.hi) :: F)) (by exact HO4.out.drew)).mono ?_); rintro e w5 ⟨rfl, hO5⟩; simp only [sumV]))
          | (go_at_call 145; ((with_reducible refine (WLess c.s (c.lo * total c.l) HC.out.s HX1.out W _ (L1 ++ (Hc ++ (b, cellObj hb c.fr c.s c.lo c.hi) :: F)) (by exact hO5)).mono ?_); rintro e w6 ⟨rfl, hO6⟩; simp only [h4]))
          | (go_at_call 22; ((with_reducible refine (Count_C (F := (b, cellObj hb c.fr c.s c.lo c.hi) :: (L1 ++ F)) HH.out (by exact (hO6.le (fun a => by simp only [cnt_append, cnt_cons, cnt_nil]; omega)))).mono ?_); rintro e w7 ⟨rfl, rfl⟩))
          | (go_at_call 146; ((with_reducible refine (CTimes c.hi (total c.l) HC.out.hi HC.out.h.most W _ (L1 ++ (Hc ++ (b, cellObj hb c.fr c.s c.lo c.hi) :: F)) (by exact hO6)).mono ?_); rintro e w8 ⟨rfl, hO7⟩; simp only [sumV]))
          | (go_at_call 145; ((with_reducible refine (WLess (c.hi * total c.l) c.s HX2.out HC.out.s W _ (L1 ++ (Hc ++ (b, cellObj hb c.fr c.s c.lo c.hi) :: F)) (by exact hO7)).mono ?_); rintro e w9 ⟨rfl, hO8⟩; simp only [h5])))
        go_wp2_with fail
        go_meet
        exact ⟨by rw [HRI.out], (hO8.le (fun a => by simp only [cnt_append, cnt_cons, cnt_nil]; omega))⟩
  case rest =>
    obtain ⟨rfl, hO3⟩ := hcut
    rw [HRI.out]
    go_wp2
    go_end0
    exact ⟨by rw [HRI.out]; rfl, hO3.out⟩

end Go.Proofs.Ytbafepjmogigjaa
