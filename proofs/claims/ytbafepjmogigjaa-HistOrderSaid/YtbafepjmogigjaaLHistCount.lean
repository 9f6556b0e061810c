/- The walk of HistCount. -/
import Derived.Test.YtbafepjmogigjaaHistLPure
namespace Go.Proofs.Ytbafepjmogigjaa
set_option linter.unusedSimpArgs false
set_option linter.unusedVariables false
open Go.RowKit

/-- Numbers as cells. -/
def i64C (l : List Int) : List Value := l.map fun n => .int .i64 n
theorem i64C_append (l m : List Int) : i64C (l ++ m) = i64C l ++ i64C m := by simp [i64C]
theorem i64C_len (l : List Int) : (i64C l).length = l.length := by simp [i64C]

theorem Try.infoI64 : (Try.prog.info? 2).map (fun i => (i.zero, i.size, i.bytes)) = some (some (.int .i64 0), 1, 8) := by kernel_rfl

/-- append of one number that lies in a block of its own, at a row of numbers. -/
theorem append_i64 (v : Value) (l : List Int) (b : Int) (L F : List Chunk) (W w : World) (hR : RowC 2 1 v l.length (i64C l) L) (hO : Own W w (L ++ F)) (hl : l.length ≤ 1099511627776) :
    ∃ v' w' L', (∀ ty, (Builtin.append_ #[25, 25] ty #[v, .slice (some ⟨w.heap.size, 0, none⟩) 1 1]).run Try.prog (w.alloc (.cells #[.int .i64 b] 2)) = .ok v' w') ∧
      RowC 2 1 v' (l ++ [b]).length (i64C (l ++ [b])) L' ∧ Own W w' (L' ++ F) := by
  obtain ⟨i0, hi, hz, hz1, hz2⟩ := info_parts Try.infoI64
  have hO1 := hO.alloc (.cells #[.int .i64 b] 2 (0, 0))
  have hsrc : Src Try.prog 1 25 (.slice (some ⟨w.heap.size, 0, none⟩) 1 1) 1 [.int .i64 b] (w.alloc (.cells #[.int .i64 b] 2)) :=
    Src.ofSlice _ Try.underlying25 ⟨w.heap.size, 0, none⟩ 1 1 _ rfl (fun j u hj => by rw [Addr.add_lit]; exact hO1.cell (i := 0 + j) (.head _) (by simpa using hj)) (by simp [Value.oneCell'])
  obtain ⟨v', w', L', hrun, hR', hO'⟩ := run_append_row (P := Try.prog) 25 25 25 2 i0 _ 1 8 Try.underlying25 hi hz hz1 hz2 rfl hR (F := (w.heap.size, .cells #[.int .i64 b] 2 (0, 0)) :: F) (hO1.le (fun a => by simp only [cnt_append, cnt_cons, cnt_nil]; omega)) hsrc (by unfold maxLen; omega) (by omega)
  refine ⟨v', w', L', fun ty => hrun, ?_, hO'.le (fun a => by simp only [cnt_append, cnt_cons, cnt_nil]; omega)⟩
  rw [i64C_append, List.length_append]
  exact hR'

/-- A row of numbers of the call's own can be read. -/
theorem reads_row {k : IntKind} {E : TypeId} {a : Option Addr} {n cap : Nat} {xs : List Int} {L : List Chunk} {W : World} (h : RowC E 1 (.slice a n cap) n (xs.map fun n => .int k n) L) : Reads k W L a n cap xs := by
  have hl := h.len
  obtain ⟨a', cap', e, h1, h2, h3, h4⟩ := h.form
  cases e
  refine ⟨by simpa using hl, h1, h2, h3, fun x hx _ => h4 x hx, fun x hx w' L' hO j hj => ?_⟩
  exact h.cell (F := L') (hO.le (fun a => by simp only [cnt_append, cnt_cons, cnt_nil]; omega)) x hx j _ (by
    have hj' : j < xs.length := by simp at hl; omega
    rw [List.getElem?_map, List.getElem?_eq_getElem hj', List.getD_eq_getElem?_getD, List.getElem?_eq_getElem hj']; rfl)

theorem Reads.more {k : IntKind} {W : World} {F F' : List Chunk} {a : Option Addr} {n cap : Nat} {xs : List Int} (h : Reads k W F a n cap xs) (hF : ∀ c, cnt c F ≤ cnt c F') : Reads k W F' a n cap xs :=
  ⟨h.len, h.le, h.mx, h.nil, h.spot, fun x hx w' L' hO => h.cell x hx w' L' (hO.le (fun c => by simp only [cnt_append]; have := hF c; omega))⟩

set_option maxRecDepth 100000 in
set_option maxHeartbeats 2000000 in
theorem HistCount_walk (a0 : Int) (h0 : 0 ≤ a0) (h0' : a0 ≤ 255) (a : Option Addr) (n cap : Nat) (zs : List Int) (a2 : Int) (h2 : -128 ≤ a2) (h2' : a2 ≤ 127) (w : World)
    (hr : Reads .i8 w [] a n cap zs) (hz : ∀ z ∈ zs, -128 ≤ z ∧ z ≤ 127) :
    Calls Try.prog 3 #[.int .u8 a0, .slice a n cap, .int .i8 a2] w fun e w' => e = .returned (.bool true) ∧ Below w.heap.size w w' := by
  obtain ⟨k, hk, hk4⟩ : ∃ k : Nat, a0 % 5 = (k : Int) ∧ k ≤ 4 := ⟨(a0 % 5).toNat, by omega, by omega⟩
  have hcm : cap ≤ 9223372036854775807 := by have := hr.mx; unfold maxLen at this; omega
  have hlc := hr.le
  have HR := Lib.hid hr
  have HZ := Lib.hid hz
  clear hr hz
  go_enter Try.func3, Try.ntmps3
  go_wp2_with fail
  refine (examples06 w w [] (Own.refl w)).mono ?_
  rintro e w1 ⟨rfl, hO1⟩
  have H1 := Lib.hid hO1
  clear hO1
  go_wp2_with fail
  refine (Of_any k a2 hk4 (by omega) (by omega) w _ _ H1.out).mono ?_
  rintro e w2 ⟨rfl, hO2⟩
  have H2 := Lib.hid hO2
  clear hO2
  obtain ⟨m, hm⟩ : ∃ m, m = min n 60 := ⟨_, rfl⟩
  have hmn : m ≤ n := by omega
  have hm60 : m ≤ 60 := by omega
  have HM := Lib.hid hm
  clear hm
  go_wp2_with fail
  go_loopw [9, 10, 13] (fun v c i wr => ∃ j : Nat, j ≤ m ∧ i = .int .i64 (j : Int) ∧ c = .int .u64 ((((zs.take j).filter fun z => bkOf k z == bkOf k a2).length : Nat) : Int) ∧
    Hid (∃ L, RowC 2 1 v (zs.take j).length (i64C (zs.take j)) L ∧ Own w wr L)) (fun _ _ i _ => m - (intOf i).toNat)
  case atStart => exact ⟨0, Nat.zero_le _, rfl, by simp, [], by simpa [i64C] using RowC.nil _ _, H2.out⟩
  case round =>
    obtain ⟨j, hj, rfl, rfl, hq⟩ := hrel
    by_cases hlt : j < m
    · obtain ⟨L, hRj, hOj⟩ := hq.out
      have hjn : j < n := by omega
      cases a with
      | none => have := (HR.out.nil rfl).1; omega
      | some q =>
        obtain ⟨r, o, sp⟩ := q
        obtain rfl : sp = none := HR.out.spot _ rfl (by omega)
        have hc := HR.out.cell _ rfl wr L (hOj.le (fun a => by simp only [cnt_append, cnt_cons, cnt_nil]; omega)) j hjn
        rw [Addr.add_lit] at hc
        have hjl : j < zs.length := by rw [HR.out.len]; exact hjn
        have hzb := HZ.out _ (getD_mem hjl)
        have hnext := take_succ_getD hjl
        have hji : (j : Int) < (n : Int) := by omega
        have hji2 : (j : Int) < 60 := by omega
        generalize hzz : zs.getD j 0 = z at *
        have hcl : ((zs.take j).filter fun z => bkOf k z == bkOf k a2).length ≤ 60 := Nat.le_trans (List.length_filter_le _ _) (by rw [List.length_take]; omega)
        have hcnt : ((zs.take (j + 1)).filter fun z => bkOf k z == bkOf k a2).length = ((zs.take j).filter fun z => bkOf k z == bkOf k a2).length + if bkOf k z == bkOf k a2 then 1 else 0 := by
          rw [hnext, List.filter_append, List.length_append]
          by_cases e : (bkOf k z == bkOf k a2) = true
          · rw [if_pos e]; simp only [List.filter_cons, e, if_true, List.filter_nil, List.length_singleton]
          · rw [if_neg e]; simp only [List.filter_cons, e, if_false, List.filter_nil, List.length_nil, Bool.false_eq_true]
        have htl : (zs.take j).length ≤ 1099511627776 := by rw [List.length_take]; omega
        generalize ((zs.take j).filter fun z => bkOf k z == bkOf k a2).length = c at *
        obtain ⟨v', w', L', hrun, hR', hO'⟩ := append_i64 _ _ z L [] w wr hRj (hOj.le (fun a => by simp only [cnt_append, cnt_cons, cnt_nil]; omega)) htl
        rw [← hnext] at hR'
        have hz1 := hzb.1
        have hz2 := hzb.2
        have hc' := HR.out.cell _ rfl w' L' (hO'.le (fun a => by simp only [cnt_append, cnt_cons, cnt_nil]; omega)) j hjn
        rw [Addr.add_lit, hzz] at hc'
        have HRN := Lib.hid hrun
        have HR' := Lib.hid hR'
        have HO' := Lib.hid hO'
        have HC := Lib.hid hcnt
        have HZZ := Lib.hid hzz
        clear hRj hOj hrun hR' hO' hq hzb hnext hcnt htl hzz
        go_wp2_with (at_builtin; refine Lib.wpList_append_run _ rfl _ _ _ _ rfl _ _ rfl rfl _ _ (HRN.out _) ?_)
        refine (Near_any k z a2 hk4 (by omega) (by omega) (by omega) (by omega) w _ _ HO'.out).mono ?_
        rintro e w3 ⟨rfl, hO3⟩
        have H3 := Lib.hid hO3
        clear hO3
        cases hnear : bkOf k z == bkOf k a2 with
        | true =>
          rw [hnear, if_pos rfl] at HC
          clear hnear
          go_wp2
          exact ⟨⟨j + 1, by omega, by go_num, by rw [HC.out]; go_num, L', HR'.out, H3.out.le (fun a => by simp only [cnt_append, cnt_cons, cnt_nil]; omega)⟩, by simp [intOf]; omega⟩
        | false =>
          rw [hnear, if_neg (by simp)] at HC
          clear hnear
          go_wp2
          exact ⟨⟨j + 1, by omega, by go_num, by rw [HC.out]; go_num, L', HR'.out, H3.out.le (fun a => by simp only [cnt_append, cnt_cons, cnt_nil]; omega)⟩, by simp [intOf]; omega⟩
    · obtain rfl : j = m := by omega
      obtain ⟨L, hRj, hOj⟩ := hq.out
      have hlen : (zs.take j).length = j := by rw [List.length_take, HR.out.len]; omega
      obtain ⟨a9, cap9, rfl, hq1, hq2, hq3, hq4⟩ := hRj.form
      have hI : ∀ x ∈ zs.take j, I64 x := fun x hx => by have := HZ.out x (List.mem_of_mem_take hx); unfold I64; omega
      have hrd := reads_row (k := .i64) (W := w) hRj
      rw [hlen] at hrd hq1
      have hcn : cntAt (addsN k [] (zs.take j)) (bkOf k a2) = ((zs.take j).filter fun z => bkOf k z == bkOf k a2).length := by
        rw [cntAt_adds _ (by rw [hlen]; simp [total]; omega)]; simp [cntAt, total]
      have htn : total (addsN k [] (zs.take j)) = j := by rw [total_adds (by rw [hlen]; simp [total]; omega), hlen]; simp [total]
      have hok : HOk k (addsN k [] (zs.take j)) := HOk.adds (HOk.nil hk4) hI
      rw [← hcn]
      rw [hlen]
      generalize hl : addsN k [] (zs.take j) = l at *
      have HL := Lib.hid hl
      clear hl
      have HOj := Lib.hid hOj
      have HRd := Lib.hid hrd
      have HI := Lib.hid hI
      have HK := Lib.hid hok
      have HCN := Lib.hid hcn
      have HTN := Lib.hid htn
      clear hRj hOj hq hq1 hq2 hq3 hq4 hrd hI hok hcn htn
      have hm := HM.out
      have hex : decide (j < n) = false ∨ ((j : Int) < (n : Int) ∧ decide ((j : Int) < 60) = false) := by
        by_cases hjn : j < n
        · exact .inr ⟨by omega, decide_eq_false (by omega)⟩
        · exact .inl (decide_eq_false hjn)
      have HJ : Hid (j ≤ 60) := hm60
      clear hm hlt hj hmn hm60
      rcases hex with hd | ⟨hji, hd⟩
      all_goals
        go_wp2_with fail
        refine (of06 k hk4 a9 j cap9 (zs.take j) w _ _ HRd.out HI.out HOj.out).mono ?_
        rw [HL.out]
        rintro e w4 ⟨b, L4, rfl, hC4, hO4⟩
        have H4 := Lib.hid hO4
        have HC4 := Lib.hid hC4
        clear hO4 hC4
        go_wp2_with fail
        refine (Items_walk k l b L4 L w _ HK.out HC4.out H4.out).mono ?_
        rintro e w5 ⟨v5, L5, rfl, hR5, hO5⟩
        obtain ⟨a5, cap5, rfl, hq1, hq2, hq3, hq4⟩ := hR5.form
        have H5 := Lib.hid hO5
        have HR5 := Lib.hid hR5
        have HQ3 := Lib.hid hq3
        have HQ4 := Lib.hid hq4
        have hcm5 : cap5 ≤ 9223372036854775807 := by unfold maxLen at hq2; omega
        clear hO5 hR5 hq2 hq3 hq4
        have hnl := HK.out.len
        have HNL := Lib.hid hnl
        clear hnl
        go_wp2_with fail
        go_loopw [15, 17] (fun g i wr => ∃ q : Nat, q ≤ l.length ∧ i = .int .i64 (q : Int) ∧ g = .int .u64 ((lastAt (l.take q) (bkOf k a2) : Nat) : Int) ∧ Hid (Own w wr (L5 ++ (L4 ++ L)))) (fun _ i _ => l.length - (intOf i).toNat)
        case atStart => exact ⟨0, Nat.zero_le _, rfl, rfl, H5.out⟩
        case round =>
          obtain ⟨q, hq, rfl, rfl, hO⟩ := hrel
          by_cases hlt : q < l.length
          · cases a5 with
            | none => have := (HQ3.out rfl).1; omega
            | some p =>
              obtain ⟨r, o, sp⟩ := p
              obtain rfl : sp = none := HQ4.out _ rfl
              have hc := HR5.out.cell hO.out _ rfl
              have hc1 := hc _ _ (itemCells_at l q hlt).1
              have hc2 := hc _ _ (itemCells_at l q hlt).2
              rw [Addr.add_lit] at hc1 hc2
              rw [← Nat.add_assoc] at hc2
              have hqi : (q : Int) < (l.length : Int) := by omega
              have hnext : lastAt (l.take (q + 1)) (bkOf k a2) = if keyAt l q = bkOf k a2 then manyAt l q else lastAt (l.take q) (bkOf k a2) := by
                rw [take_succ_at hlt, lastAt_snoc]
              have HN := Lib.hid hnext
              have HNL2 := HNL.out
              clear hc hnext
              by_cases hk2 : keyAt l q = bkOf k a2
              · have hb : (keyAt l q == bkOf k a2) = true := by simpa using hk2
                have hnx := HN.out
                rw [if_pos hk2] at hnx
                have HN2 := Lib.hid hnx
                clear hk2 hnx
                go_wp2
                exact ⟨⟨q + 1, by omega, by go_num, by rw [HN2.out], hO⟩, by simp [intOf]; omega⟩
              · have hb : (keyAt l q == bkOf k a2) = false := by simpa using hk2
                have hnx := HN.out
                rw [if_neg hk2] at hnx
                have HN2 := Lib.hid hnx
                clear hk2 hnx
                go_wp2
                exact ⟨⟨q + 1, by omega, by go_num, by rw [HN2.out], hO⟩, by simp [intOf]; omega⟩
          · obtain rfl : q = l.length := by omega
            rw [List.take_length, lastAt_eq _ HK.out.rising]
            clear hlt
            go_wp2_with fail
            refine (Count_C (F := L5 ++ L) HC4.out (hO.out.le (fun a => by simp only [cnt_append, cnt_cons, cnt_nil]; omega))).mono ?_
            rintro e w6 ⟨rfl, rfl⟩
            rw [HTN.out]
            have hj60 := HJ.out
            go_wp2
            go_ret
            exact ⟨rfl, hO.out.below⟩

end Go.Proofs.Ytbafepjmogigjaa
