/- The walk of HistOrder. -/
import Derived.Test.YtbafepjmogigjaaLHistCount
namespace Go.Proofs.Ytbafepjmogigjaa
set_option linter.unusedSimpArgs false
set_option linter.unusedVariables false
open Go.RowKit

theorem addN_zero {k : Nat} {l : Items} {n : Int} : True := trivial

set_option maxRecDepth 100000 in
set_option maxHeartbeats 4000000 in
theorem HistOrder_walk (a0 : Int) (h0 : 0 ≤ a0) (h0' : a0 ≤ 255) (a : Option Addr) (n cap : Nat) (xs0 : List Int) (a' : Option Addr) (n' cap' : Nat) (ys0 : List Int) (w : World)
    (hr : Reads .i64 w [] a n cap xs0) (hx : ∀ z ∈ xs0, I64 z) (hr' : Reads .i64 w [] a' n' cap' ys0) (hy : ∀ z ∈ ys0, I64 z) :
    Calls Try.prog 5 #[.int .u8 a0, .slice a n cap, .slice a' n' cap'] w fun e w' => e = .returned (.bool true) ∧ Below w.heap.size w w' := by
  obtain ⟨k, hk, hk4⟩ : ∃ k : Nat, a0 % 5 = (k : Int) ∧ k ≤ 4 := ⟨(a0 % 5).toNat, by omega, by omega⟩
  have hcm : cap ≤ 9223372036854775807 := by have := hr.mx; unfold maxLen at this; omega
  have hlc := hr.le
  have hcm' : cap' ≤ 9223372036854775807 := by have := hr'.mx; unfold maxLen at this; omega
  have hlc' := hr'.le
  obtain ⟨m, hm⟩ : ∃ m, min n 40 = m := ⟨_, rfl⟩
  obtain ⟨m', hm'⟩ : ∃ m', min n' 40 = m' := ⟨_, rfl⟩
  have hmi : min (n : Int) 40 = (m : Int) := by omega
  have hmi' : min (n' : Int) 40 = (m' : Int) := by omega
  have hmn : m ≤ n := by omega
  have hmn' : m' ≤ n' := by omega
  have hm40 : m ≤ 40 := by omega
  have hm40' : m' ≤ 40 := by omega
  have hmc : m ≤ cap := by omega
  have hmc' : m' ≤ cap' := by omega
  have hrt := hr.take hmn
  have hrt' := hr'.take hmn'
  have hxt : ∀ z ∈ xs0.take m, I64 z := fun z hz => hx z (List.mem_of_mem_take hz)
  have hyt : ∀ z ∈ ys0.take m', I64 z := fun z hz => hy z (List.mem_of_mem_take hz)
  have hxlen := hrt.len
  have hylen := hrt'.len
  generalize xs0.take m = xs at *
  generalize ys0.take m' = ys at *
  have HR := Lib.hid hrt
  have HR' := Lib.hid hrt'
  have HX := Lib.hid hxt
  have HY := Lib.hid hyt
  clear hr hr' hx hy hrt hrt' hxt hyt hm hm'
  go_enter Try.func5, Try.ntmps5
  go_wp2_with fail
  refine (examples06 w w [] (Own.refl w)).mono ?_
  rintro e w1 ⟨rfl, hO1⟩
  have H1 := Lib.hid hO1
  clear hO1
  go_wp2_with fail
  rw [hk]
  clear hk h0 h0'
  go_loopw [9, 10] (fun v i wr => ∃ j : Nat, j ≤ m' ∧ i = .int .i64 ((m' : Int) - 1 - (j : Int)) ∧ Hid (∃ L, RowC 2 1 v (ys.reverse.take j).length (i64C (ys.reverse.take j)) L ∧ Own w wr L)) (fun _ i _ => (intOf i + 1).toNat)
  case atStart => exact ⟨0, Nat.zero_le _, by go_num, [], by simpa [i64C] using RowC.nil _ _, H1.out⟩
  case round =>
    obtain ⟨j, hj, rfl, hq⟩ := hrel
    by_cases hlt : j < m'
    · obtain ⟨L, hRj, hOj⟩ := hq.out
      obtain ⟨p, hp⟩ : ∃ p, m' - 1 - j = p := ⟨_, rfl⟩
      have hpi : (m' : Int) - 1 - (j : Int) = (p : Int) := by omega
      rw [hpi]
      cases a' with
      | none => have := (HR'.out.nil rfl).1; omega
      | some q =>
        obtain ⟨r, o, sp⟩ := q
        obtain rfl : sp = none := HR'.out.spot _ rfl (by omega)
        have hc := HR'.out.cell _ rfl wr L (hOj.le (fun a => by simp only [cnt_append, cnt_cons, cnt_nil]; omega)) p (by omega)
        rw [Addr.add_lit] at hc
        have hnext := reverse_take_succ (ys := ys) (j := j) (by omega)
        rw [HR'.out.len, hp] at hnext
        have hpl : p < m' := by omega
        have hpi2 : (p : Int) < (m' : Int) := by omega
        generalize hzz : ys.getD p 0 = z at *
        have htl : (ys.reverse.take j).length ≤ 1099511627776 := by rw [List.length_take]; omega
        obtain ⟨v', w', L', hrun, hR', hO'⟩ := append_i64 _ _ z L [] w wr hRj (hOj.le (fun a => by simp only [cnt_append, cnt_cons, cnt_nil]; omega)) htl
        rw [← hnext] at hR'
        have HRN := Lib.hid hrun
        have HRj' := Lib.hid hR'
        have HO' := Lib.hid hO'
        have HP := Lib.hid hpi
        clear hRj hOj hrun hR' hO' hq hnext htl hp hpi hzz
        have hpn : (p : Int) - 1 = (m' : Int) - 1 - ((j + 1 : Nat) : Int) := by have := HP.out; omega
        have HPN := Lib.hid hpn
        clear hpn
        go_wp2_with (at_builtin; refine Lib.wpList_append_run _ rfl _ _ _ _ rfl _ _ rfl rfl _ _ (HRN.out _) ?_)
        exact ⟨⟨j + 1, by omega, by rw [← HPN.out], L', HRj'.out, HO'.out.le (fun a => by simp only [cnt_append, cnt_cons, cnt_nil]; omega)⟩, by simp [intOf]⟩
    · obtain rfl : j = m' := by omega
      obtain ⟨L, hRj, hOj⟩ := hq.out
      rw [show (j : Int) - 1 - (j : Int) = -1 by omega]
      have hfull : ys.reverse.take j = ys.reverse := by rw [List.take_of_length_le]; simp [hylen]
      rw [hfull] at hRj
      have HRB := Lib.hid hRj
      have HOB := Lib.hid hOj
      clear hRj hOj hq hfull hlt hj
      go_wp2_with fail
      go_loopw [9, 11] (fun v i wr => ∃ i' : Nat, i' ≤ m ∧ i = .int .i64 ((m : Int) - 1 - (i' : Int)) ∧ Hid (∃ L, RowC 2 1 v (ys.reverse ++ xs.reverse.take i').length (i64C (ys.reverse ++ xs.reverse.take i')) L ∧ Own w wr L)) (fun _ i _ => (intOf i + 1).toNat)
      case atStart => exact ⟨0, Nat.zero_le _, by go_num, L, by simpa using HRB.out, HOB.out⟩
      case round =>
        obtain ⟨i, hi, rfl, hq⟩ := hrel
        by_cases hlt : i < m
        · obtain ⟨Li, hRi, hOi⟩ := hq.out
          obtain ⟨p, hp⟩ : ∃ p, m - 1 - i = p := ⟨_, rfl⟩
          have hpi : (m : Int) - 1 - (i : Int) = (p : Int) := by omega
          rw [hpi]
          cases a with
          | none => have := (HR.out.nil rfl).1; omega
          | some q =>
            obtain ⟨r, o, sp⟩ := q
            obtain rfl : sp = none := HR.out.spot _ rfl (by omega)
            have hc := HR.out.cell _ rfl wr Li (hOi.le (fun a => by simp only [cnt_append, cnt_cons, cnt_nil]; omega)) p (by omega)
            rw [Addr.add_lit] at hc
            have hnext := reverse_take_succ (ys := xs) (j := i) (by omega)
            rw [HR.out.len, hp] at hnext
            have hpl : p < m := by omega
            have hpi2 : (p : Int) < (m : Int) := by omega
            generalize hzz : xs.getD p 0 = z at *
            have htl : (ys.reverse ++ xs.reverse.take i).length ≤ 1099511627776 := by rw [List.length_append, List.length_take, List.length_reverse, List.length_reverse]; omega
            obtain ⟨v', w', L', hrun, hR', hO'⟩ := append_i64 _ _ z Li [] w wr hRi (hOi.le (fun a => by simp only [cnt_append, cnt_cons, cnt_nil]; omega)) htl
            rw [List.append_assoc, ← hnext] at hR'
            have HRN := Lib.hid hrun
            have HRj' := Lib.hid hR'
            have HO' := Lib.hid hO'
            have HP := Lib.hid hpi
            clear hRi hOi hrun hR' hO' hq hnext htl hp hpi hzz
            have hpn : (p : Int) - 1 = (m : Int) - 1 - ((i + 1 : Nat) : Int) := by have := HP.out; omega
            have HPN := Lib.hid hpn
            clear hpn
            go_wp2_with (at_builtin; refine Lib.wpList_append_run _ rfl _ _ _ _ rfl _ _ rfl rfl _ _ (HRN.out _) ?_)
            exact ⟨⟨i + 1, by omega, by rw [← HPN.out], L', HRj'.out, HO'.out.le (fun a => by simp only [cnt_append, cnt_cons, cnt_nil]; omega)⟩, by simp [intOf]⟩
        · obtain rfl : i = m := by omega
          obtain ⟨Li, hRi, hOi⟩ := hq.out
          rw [show (i : Int) - 1 - (i : Int) = -1 by omega]
          have hfull : xs.reverse.take i = xs.reverse := by rw [List.take_of_length_le]; simp [hxlen]
          rw [hfull] at hRi
          obtain ⟨a9, cap9, rfl, hq1, hq2, hq3, hq4⟩ := hRi.form
          have hrd := reads_row (k := .i64) (W := w) hRi
          have hlen : (ys.reverse ++ xs.reverse).length = i + j := by simp [hxlen, hylen]; omega
          rw [hlen] at hrd hq1
          rw [hlen]
          have hB : ∀ z ∈ ys.reverse ++ xs.reverse, I64 z := fun z hz => by
            rcases List.mem_append.1 hz with h | h
            · exact HY.out z (List.mem_reverse.1 h)
            · exact HX.out z (List.mem_reverse.1 h)
          have hord := order_eq (k := k) hk4 HX.out HY.out (by omega) (by omega)
          have ht1 : total (addsN k [] xs) = i := by rw [total_adds (by simp [total]; omega), hxlen]; simp [total]
          have ht2 : total (addsN k [] ys) = j := by rw [total_adds (by simp [total]; omega), hylen]; simp [total]
          have hk1 : HOk k (addsN k [] xs) := HOk.adds (HOk.nil hk4) HX.out
          have hk2 : HOk k (addsN k [] ys) := HOk.adds (HOk.nil hk4) HY.out
          have hk3 : HOk k (addsN k [] (ys.reverse ++ xs.reverse)) := HOk.adds (HOk.nil hk4) hB
          have hmg : mergeN k (addsN k [] xs) k (addsN k [] ys) = (addAll (addsN k [] xs) (addsN k [] ys), 0) := by
            unfold mergeN
            rw [if_neg (by simp), if_neg (by omega)]
          rw [hord] at hmg
          have ht3 : total (addsN k [] (ys.reverse ++ xs.reverse)) = i + j := by rw [total_adds (by rw [hlen]; simp [total]; omega), hlen]; simp [total]
          generalize hBe : ys.reverse ++ xs.reverse = B at *
          have HB := Lib.hid hB
          have HRd := Lib.hid hrd
          have HO2 := Lib.hid hOi
          generalize hl1 : addsN k [] xs = l1 at *
          generalize hl2 : addsN k [] ys = l2 at *
          generalize hl3 : addsN k [] B = l3 at *
          have HL1 := Lib.hid hl1
          have HL2 := Lib.hid hl2
          have HL3 := Lib.hid hl3
          have HK1 := Lib.hid hk1
          have HK2 := Lib.hid hk2
          have HK3 := Lib.hid hk3
          have HT2 := Lib.hid ht2
          have HT3 := Lib.hid ht3
          have HMN := Lib.hid hmg
          clear hB hrd hOi hl1 hl2 hl3 hk1 hk2 hk3 ht1 ht2 ht3 hmg hord hq hfull hlt hi hRi hq1 hq2 hq3 hq4 hBe hlen HRB HOB hm40 hm40' hmn hmn'
          go_wp2_with fail
          refine (of06 k hk4 a i cap xs w _ Li (HR.out.more (fun a => by simp only [cnt_append, cnt_cons, cnt_nil]; omega)) HX.out HO2.out).mono ?_
          rw [HL1.out]
          rintro e w4 ⟨b1, L1, rfl, hC1, hO1⟩
          have HC1 := Lib.hid hC1
          have H3 := Lib.hid hO1
          clear hC1 hO1
          go_wp2_with fail
          refine (of06 k hk4 a' j cap' ys w _ (L1 ++ Li) (HR'.out.more (fun a => by simp only [cnt_append, cnt_cons, cnt_nil]; omega)) HY.out H3.out).mono ?_
          rw [HL2.out]
          rintro e w5 ⟨b2, L2, rfl, hC2, hO1⟩
          have HC2 := Lib.hid hC2
          have H4 := Lib.hid hO1
          clear hC2 hO1
          go_wp2_with fail
          refine (of06 k hk4 a9 (i + j) cap9 B w _ (L2 ++ (L1 ++ Li)) (HRd.out.more (fun a => by simp only [cnt_append, cnt_cons, cnt_nil]; omega)) HB.out H4.out).mono ?_
          rw [HL3.out]
          rintro e w6 ⟨b3, L3, rfl, hC3, hO1⟩
          have HC3 := Lib.hid hC3
          have H5 := Lib.hid hO1
          clear hC3 hO1
          go_wp2_with fail
          refine (Merge_walk k k l1 l2 b1 b2 L1 L2 (L3 ++ Li) w _ HK1.out HK2.out HC1.out HC2.out (H5.out.le (fun a => by simp only [cnt_append, cnt_cons, cnt_nil]; omega))).mono ?_
          rw [HMN.out]
          rintro e w7 ⟨rfl, L1', hC1', hO1⟩
          have HC1' := Lib.hid hC1'
          have H6 := Lib.hid hO1
          clear hC1' hO1
          have hpos : ∀ q, q < l3.length → 1 ≤ manyAt l3 q := fun q hq => HK3.out.pos _ (by rw [List.getD_eq_getElem?_getD, List.getElem?_eq_getElem hq]; exact List.getElem_mem hq)
          have hrise := rising_lt HK3.out.rising
          have hnl : l3.length ≤ 80 := by have := length_le_total HK3.out.pos; have := HT3.out; omega
          have HPOS := Lib.hid hpos
          have HRISE := Lib.hid hrise
          clear hpos hrise
          go_wp2_with fail
          refine (Items_walk k l3 b1 L1' (L2 ++ (L3 ++ Li)) w _ HK3.out HC1'.out H6.out).mono ?_
          rintro e w8 ⟨v5, L5, rfl, hR5, hO5⟩
          obtain ⟨a5, cap5, rfl, hq1, hq2, hq3, hq4⟩ := hR5.form
          have H7 := Lib.hid hO5
          have HR5 := Lib.hid hR5
          have HQ3 := Lib.hid hq3
          have HQ4 := Lib.hid hq4
          have hcm5 : cap5 ≤ 9223372036854775807 := by unfold maxLen at hq2; omega
          clear hO5 hR5 hq2 hq3 hq4
          go_wp2_with fail
          go_loopw [16, 18] (fun g i wr => ∃ q : Nat, q ≤ l3.length ∧ i = .int .i64 (q : Int) ∧ g = .int .u64 ((total (l3.take q) : Nat) : Int) ∧ Hid (Own w wr (L5 ++ (L1' ++ (L2 ++ (L3 ++ Li)))))) (fun _ i _ => l3.length - (intOf i).toNat)
          case atStart => exact ⟨0, Nat.zero_le _, rfl, rfl, H7.out⟩
          case round =>
            obtain ⟨q, hq, rfl, rfl, hO⟩ := hrel
            by_cases hlt : q < l3.length
            · cases a5 with
              | none => have := (HQ3.out rfl).1; omega
              | some p =>
                obtain ⟨r, o, sp⟩ := p
                obtain rfl : sp = none := HQ4.out _ rfl
                have hc := HR5.out.cell hO.out _ rfl
                have hc1 := hc _ _ (itemCells_at l3 q hlt).1
                have hc2 := hc _ _ (itemCells_at l3 q hlt).2
                rw [Addr.add_lit] at hc1 hc2
                rw [← Nat.add_assoc] at hc2
                have hqi : (q : Int) < (l3.length : Int) := by omega
                have hnext : total (l3.take (q + 1)) = total (l3.take q) + manyAt l3 q := by
                  rw [take_succ_at hlt, total_append, total_cons]; simp [total]
                have hle : total (l3.take q) + manyAt l3 q ≤ 80 := by
                  have := total_take_le l3 (q + 1); have := HT3.out; omega
                have hp1 := HPOS.out q hlt
                have hz : ((manyAt l3 q : Int) == 0) = false := by simp; omega
                have HN := Lib.hid hnext
                clear hnext hp1
                generalize total (l3.take q) = s at *
                by_cases hq0 : q = 0
                · subst hq0
                  clear hc
                  go_wp2_with fail
                  go_quiet (fail)
                  go_wp2
                  exact ⟨⟨1, by omega, rfl, by rw [HN.out]; go_num, hO.out.drewN _⟩, by simp [intOf]; omega⟩
                · obtain ⟨q1, hq1e⟩ : ∃ q1, q1 + 1 = q := ⟨q - 1, by omega⟩
                  have hd1 := hc _ _ (itemCells_at l3 q1 (by omega)).1
                  rw [Addr.add_lit] at hd1
                  have hqq : (q : Int) - 1 = (q1 : Int) := by omega
                  have hqq2 : IntKind.i64.wrap ((q : Int) - 1) = (q1 : Int) := by rw [hqq, IntKind.wrap_i64]; omega
                  have hgt : decide (keyAt l3 q1 ≥ keyAt l3 q) = false := decide_eq_false (by have := HRISE.out q1 q (by omega) hlt; omega)
                  have hgt2 : decide (keyAt l3 q ≤ keyAt l3 q1) = false := hgt
                  have hg0 : decide (0 < q) = true := decide_eq_true (by omega)
                  have hg1 : decide ((0 : Int) < (q : Int)) = true := decide_eq_true (by omega)
                  have hqi1 : (q1 : Int) < (l3.length : Int) := by omega
                  have HQE := Lib.hid hq1e
                  clear hc hq1e hq0
                  go_wp2_with fail
                  go_quiet (fail)
                  go_wp2
                  exact ⟨⟨q + 1, by omega, by go_num, by rw [HN.out]; go_num, hO.out.drewN _⟩, by simp [intOf]; omega⟩
            · obtain rfl : q = l3.length := by omega
              rw [List.take_length, HT3.out]
              clear hlt
              obtain ⟨k2, hk2e, hk2, hkn⟩ : ∃ k2 : Nat, ((k : Int) + 1) % 5 = (k2 : Int) ∧ k2 ≤ 4 ∧ k2 ≠ k := ⟨(((k : Int) + 1) % 5).toNat, by omega, by omega, by omega⟩
              have hmg2 : ∀ l : Items, mergeN k l3 k2 l = (l3, 1) := fun l => by unfold mergeN; rw [if_pos hkn]
              have HMG := Lib.hid hmg2
              have hK4 : HOk k2 (addsN k2 [] xs) := HOk.adds (HOk.nil hk2) HX.out
              have HK4 := Lib.hid hK4
              clear hmg2 hK4 hkn
              go_wp2_with fail
              refine (of06 k2 hk2 a i cap xs w _ (L5 ++ (L1' ++ (L2 ++ (L3 ++ Li)))) (HR.out.more (fun a => by simp only [cnt_append, cnt_cons, cnt_nil]; omega)) HX.out hO.out).mono ?_
              generalize addsN k2 [] xs = l4 at *
              rintro e w9 ⟨b4, L4, rfl, hC4, hO1⟩
              have HC4 := Lib.hid hC4
              have H8 := Lib.hid hO1
              clear hC4 hO1
              go_wp2_with fail
              refine (Put_walk k l3 b1 L1' (L5 ++ (L4 ++ (L2 ++ (L3 ++ Li)))) w _ HK3.out (by omega) HC1'.out (H8.out.le (fun a => by simp only [cnt_append, cnt_cons, cnt_nil]; omega))).mono ?_
              rintro e w10 ⟨rfl, hO1⟩
              have H9 := Lib.hid hO1
              clear hO1
              go_wp2_with fail
              refine (Put_walk k l3 b3 L3 (L1' ++ (L5 ++ (L4 ++ (L2 ++ Li)))) w _ HK3.out (by omega) HC3.out (H9.out.le (fun a => by simp only [cnt_append, cnt_cons, cnt_nil]; omega))).mono ?_
              rintro e w11 ⟨rfl, hO1⟩
              have H10 := Lib.hid hO1
              clear hO1
              generalize (⟨(histBytes k l3).toArray⟩ : ByteArray) = S at *
              go_wp2_with fail
              refine (Count_C (F := L5 ++ (L4 ++ (L3 ++ (L2 ++ Li)))) HC1'.out (H10.out.le (fun a => by simp only [cnt_append, cnt_cons, cnt_nil]; omega))).mono ?_
              rintro e w12 ⟨rfl, rfl⟩
              rw [HT3.out]
              go_wp2_with fail
              refine (Count_C (F := L5 ++ (L4 ++ (L3 ++ (L1' ++ Li)))) HC2.out (H10.out.le (fun a => by simp only [cnt_append, cnt_cons, cnt_nil]; omega))).mono ?_
              rintro e w13 ⟨rfl, rfl⟩
              rw [HT2.out]
              go_wp2_with fail
              refine (Merge_walk k k2 l3 l4 b1 b4 L1' L4 (L5 ++ (L2 ++ (L3 ++ Li))) w _ HK3.out HK4.out HC1'.out HC4.out (H10.out.le (fun a => by simp only [cnt_append, cnt_cons, cnt_nil]; omega))).mono ?_
              rw [HMG.out]
              rintro e w14 ⟨rfl, L9, hC9, hO1⟩
              have H11 := Lib.hid hO1
              clear hO1 hC9
              go_wp2
              go_ret
              exact ⟨rfl, H11.out.below⟩

end Go.Proofs.Ytbafepjmogigjaa
