/- The walks of package hist: Rank, Quantile. -/
import Derived.Test.YtbafepjmogigjaaHistA
import Derived.Test.YtbafepjmogigjaaBkB
namespace Go.Proofs.Ytbafepjmogigjaa
set_option linter.unusedSimpArgs false
set_option linter.unusedVariables false
open Go.RowKit

def boxU (r : Nat) : Obj := .cells #[.int .u64 (r : Int)] 26 (0, 0)

theorem Own.boxU {W w : World} {L R : List Chunk} {b c : Nat} (h : Own W w L) (hL : ∀ a, cnt a ((b, boxU c) :: R) ≤ cnt a L) (c' : Nat) :
    Own W (w.setCell ⟨b, 0, none⟩ (.int .u64 (c' : Int))) ((b, Go.Proofs.Ytbafepjmogigjaa.boxU c') :: R) := (h.le hL).set0 0 _

/-- The closure of Rank. -/
theorem rank1_walk (x : Int) (m r bx : Nat) (hm : m ≤ 1099511627776) (hr : r < 18446744073709551616) (W w : World) (F : List Chunk) (hO : Own W w ((bx, boxU r) :: F)) :
    Calls Try.prog 87 #[.agg #[.int .i64 x, .int .u64 (m : Int)], .pointer (some ⟨bx, 0, none⟩)] w fun e w' => e = .returned (.bool (decide (r ≤ m))) ∧ Own W w' ((bx, boxU (if r ≤ m then r else r - m)) :: F) := by
  have hlt : bx < w.heap.size := hO.lt (.head _)
  have hne : bx ≠ w.heap.size := by omega
  have hO1 := hO.alloc (.cells #[.int .i64 x, .int .u64 (m : Int)] 35 (0, 0))
  have c0 := hO.cell (i := 0) (.head _) rfl
  have f0 := hO.free (.head _) 0
  have H := Lib.hid hO1
  have H0 := Lib.hid hO
  have HM := Lib.hid hm
  have HR := Lib.hid hr
  clear hO hO1 hm hr
  by_cases h : r ≤ m
  · rw [if_pos h, decide_eq_true h]
    have hd : decide ((r : Int) ≤ (m : Int)) = true := decide_eq_true (by omega)
    go_enter Try.func87, Try.ntmps87
    go_wp2
    go_ret
    exact ⟨rfl, H.out.le (fun a => by simp only [cnt_append, cnt_cons, cnt_nil]; omega)⟩
  · rw [if_neg h, decide_eq_false h]
    have hd : decide ((r : Int) ≤ (m : Int)) = false := decide_eq_false (by omega)
    have hw : IntKind.u64.wrap ((r : Int) - (m : Int)) = (r : Int) - (m : Int) := by rw [IntKind.wrap_u64]; have := HR.out; omega
    have he : (r : Int) - (m : Int) = ((r - m : Nat) : Int) := by omega
    have HE := Lib.hid he
    clear he
    go_enter Try.func87, Try.ntmps87
    go_wp2
    go_ret
    rw [HE.out]
    exact ⟨rfl, ((H0.out.boxU (b := bx) (c := r) (R := F) (fun a => by simp only [cnt_append, cnt_cons, cnt_nil]; omega) (r - m)).alloc _).le (fun a => by simp only [cnt_append, cnt_cons, cnt_nil]; omega)⟩

/-- What the search of a rank comes to. -/
def RankEnd (l : Items) (r bx : Nat) (W : World) (X : List Chunk) (e : Ending) (w' : World) : Prop :=
  (∃ j, j < l.length ∧ (j = 0 ∨ total (l.take j) < r) ∧ r - total (l.take j) ≤ manyAt l j ∧ e = .returned (.int .i64 (j : Int)) ∧ Own W w' ((bx, boxU (r - total (l.take j))) :: X)) ∨
  ((l = [] ∨ total l < r) ∧ e = .returned (.int .i64 (-1)) ∧ ∃ r', Own W w' ((bx, boxU r') :: X))

set_option maxRecDepth 100000 in
theorem IndexRank (v : Value) (l : Items) (L F : List Chunk) (r bx : Nat) (W w : World) (hR : RowC 35 2 v l.length (itemCells l) L) (hl : total l ≤ 1099511627776) (hn : l.length ≤ 1099511627776) (hr : r < 18446744073709551616)
    (hO : Own W w ((bx, boxU r) :: (L ++ F))) :
    Calls Try.prog 86 #[v, .func (.func 87) #[] #[.pointer (some ⟨bx, 0, none⟩)]] w (RankEnd l r bx W (L ++ F)) := by
  obtain ⟨a, cap, rfl, hq1, hq2, hq3, hq4⟩ := hR.form
  have H := Lib.hid hO
  have HR := Lib.hid hR
  have HQ3 := Lib.hid hq3
  have HQ4 := Lib.hid hq4
  have HL := Lib.hid hl
  have HRr := Lib.hid hr
  have hcm : cap ≤ 9223372036854775807 := by unfold maxLen at hq2; omega
  clear hO hR hq2 hq3 hq4 hl hr
  go_enter Try.func86, Try.ntmps86
  go_wp2_with fail
  go_loopw [8] (fun i wr => ∃ j : Nat, i = .int .i64 (j : Int) ∧ j ≤ l.length ∧ Hid ((j = 0 ∨ total (l.take j) < r) ∧ Own W wr ((bx, boxU (r - total (l.take j))) :: (L ++ F)))) (fun i _ => l.length - (intOf i).toNat)
  case atStart => exact ⟨0, rfl, Nat.zero_le _, .inl rfl, H.out⟩
  case round =>
    obtain ⟨j, rfl, hj, hq⟩ := hrel
    by_cases hlt : j < l.length
    · cases a with
      | none => have := (HQ3.out rfl).1; omega
      | some q =>
        obtain ⟨rr, o, sp⟩ := q
        obtain rfl : sp = none := HQ4.out _ rfl
        have hc := HR.out.cell (F := (bx, boxU (r - total (l.take j))) :: F) (hq.out.2.le (fun a => by simp only [cnt_append, cnt_cons, cnt_nil]; omega)) _ rfl
        have hc1 := hc _ _ (itemCells_at l j hlt).1
        have hc2 := hc _ _ (itemCells_at l j hlt).2
        rw [Addr.add_lit] at hc1 hc2
        rw [← Nat.add_assoc] at hc2
        have hji : (j : Int) < (l.length : Int) := by omega
        clear hc
        go_wp2_with fail
        refine (rank1_walk (keyAt l j) (manyAt l j) (r - total (l.take j)) bx (by have := manyAt_le l j; have := HL.out; omega) (by have := HRr.out; omega) W _ _ hq.out.2).mono ?_
        rintro e w1 ⟨rfl, hO1⟩
        by_cases hd : r - total (l.take j) ≤ manyAt l j
        · rw [if_pos hd] at hO1
          rw [decide_eq_true hd]
          have H1 := Lib.hid hO1
          clear hO1
          go_wp2
          go_ret
          exact .inl ⟨j, hlt, hq.out.1, hd, rfl, H1.out⟩
        · rw [if_neg hd] at hO1
          rw [decide_eq_false hd]
          have H1 := Lib.hid hO1
          clear hO1
          go_wp2
          have ht : total (l.take (j + 1)) = total (l.take j) + manyAt l j := by
            rw [take_succ_at hlt, total_append, total_cons, show total ([] : Items) = 0 from rfl]; simp
          refine ⟨⟨j + 1, by go_num, by omega, .inr (by rw [ht]; omega), ?_⟩, by simp [intOf]; omega⟩
          rw [ht, ← Nat.sub_sub]
          exact H1.out
    · obtain rfl : j = l.length := by omega
      go_wp2
      go_ret
      refine .inr ⟨?_, rfl, _, hq.out.2⟩
      rcases hq.out.1 with h | h
      · exact .inl (List.length_eq_zero_iff.1 h)
      · rw [List.take_length] at h; exact .inr h

def rankVal (o : Option Int) : Value := .tuple #[.int .i64 (o.getD 0), .bool o.isSome]

set_option maxRecDepth 100000 in
theorem Rank_walk (k : Nat) (l : Items) (r b : Nat) (L F : List Chunk) (W w : World) (hk : HOk k l) (hr : r < 18446744073709551616) (hR : HistC k l b L) (hO : Own W w (L ++ F)) :
    Calls Try.prog 31 #[.pointer (some ⟨b, 0, none⟩), .int .u64 (r : Int)] w fun e w' => e = .returned (rankVal (rankAt l r)) ∧ Own W w' (L ++ F) := by
  obtain ⟨sv, L', hrow, rfl⟩ := hR
  have hO1 := hO.alloc (boxU r)
  have n1 : w.heap.size ≠ b := hO1.ne_mem (.head _)
  have c1 := hO.cell (i := 1) (.head _) rfl
  have hlt : b < w.heap.size := hO.lt (.head _)
  have H := Lib.hid hO1
  have HRow := Lib.hid hrow
  have hn := hk.len
  have hm := hk.most
  have HN := Lib.hid hn
  have HM := Lib.hid hm
  have HRr := Lib.hid hr
  clear hO hO1 hrow hk hn hm hr
  go_enter Try.func31, Try.ntmps31
  go_wp2_with fail
  refine (IndexRank sv l L' ((b, histObj k sv (total l)) :: F) r w.heap.size W _ HRow.out HM.out HN.out HRr.out (H.out.le (fun a => by simp only [cnt_append, cnt_cons, cnt_nil]; omega))).mono ?_
  generalize w.heap.size = bx at *
  rintro e w1 (⟨j, hj, h1, h2, rfl, hO2⟩ | ⟨h1, rfl, r', hO2⟩)
  · have hfind := rankAt_found l r j hj h1 h2
    generalize r - total (l.take j) = q at *
    have d0 := hO2.cell (i := 0) (.head _) rfl
    have d1 := hO2.cell (i := 1) (.tail _ (List.mem_append_right _ (.head _))) rfl
    have HF := Lib.hid hfind
    have HH := Lib.hid h2
    clear h1 hfind h2
    by_cases hq : q = 0
    · have hb : ((q : Int) == 0) = true := by simp; omega
      have H2 := Lib.hid hO2
      clear hO2
      go_wp2
      go_ret2
      exact ⟨by rw [HF.out, if_pos hq]; rfl, H2.out.le (fun a => by simp only [cnt_append, cnt_cons, cnt_nil]; omega)⟩
    · have hb : ((q : Int) == 0) = false := by simp; omega
      rcases HRow.out with ⟨_, h, _⟩ | ⟨rr, o, cap, c, rfl, g1, g2, g3, g4, g5, rfl⟩
      · omega
      have hcell := (itemCells_at l j hj).1
      have d2 := hO2.cell (i := o + j * 2) (.tail _ (.head _)) (by rw [g5 _ (by omega)]; exact hcell)
      have hji : (j : Int) < (l.length : Int) := by omega
      have H2 := Lib.hid hO2
      clear hO2 g1 g2 g3 g4 g5 hcell
      go_wp2
      go_ret2
      exact ⟨by rw [HF.out, if_neg hq]; rfl, H2.out.le (fun a => by simp only [cnt_append, cnt_cons, cnt_nil]; omega)⟩
  · have HF := Lib.hid (rankAt_none l r h1)
    have d0 := hO2.cell (i := 0) (.head _) rfl
    have d1 := hO2.cell (i := 1) (.tail _ (List.mem_append_right _ (.head _))) rfl
    have H2 := Lib.hid hO2
    clear hO2 h1
    by_cases hq : r' = 0
    · have hb : ((r' : Int) == 0) = true := by simp; omega
      go_wp2
      go_ret2
      exact ⟨by rw [HF.out]; rfl, H2.out.le (fun a => by simp only [cnt_append, cnt_cons, cnt_nil]; omega)⟩
    · have hb : ((r' : Int) == 0) = false := by simp; omega
      go_wp2
      go_ret2
      exact ⟨by rw [HF.out]; rfl, H2.out.le (fun a => by simp only [cnt_append, cnt_cons, cnt_nil]; omega)⟩

def quantVal (q : Int × Int × Int) : Value := .tuple #[.int .i64 q.1, .int .i64 q.2.1, .int .i64 q.2.2]

set_option maxRecDepth 100000 in
theorem Quantile_walk (k : Nat) (l : Items) (num den b : Nat) (L F : List Chunk) (W w : World) (hk : HOk k l) (h1 : num < 18446744073709551616) (h2 : den < 18446744073709551616) (hR : HistC k l b L) (hO : Own W w (L ++ F)) :
    Calls Try.prog 33 #[.pointer (some ⟨b, 0, none⟩), .int .u64 (num : Int), .int .u64 (den : Int)] w fun e w' => e = .returned (quantVal (quantN k l num den)) ∧ Own W w' (L ++ F) := by
  obtain ⟨sv, hb⟩ := hR.block hO
  have c0 := cell_at (i := 0) hb rfl
  have c2 := cell_at (i := 2) hb rfl
  have H := Lib.hid hO
  have HR := Lib.hid hR
  have HK := Lib.hid hk
  clear hO hR hb hk
  unfold quantN
  by_cases hd : den < 1 ∨ 1000000 < den ∨ den < num
  · rw [if_pos hd]
    by_cases g1 : den < 1
    · have b1 : decide ((den : Int) < 1) = true := decide_eq_true (by omega)
      clear hd
      go_enter Try.func33, Try.ntmps33
      go_wp2
      go_ret3
      exact ⟨rfl, H.out⟩
    · have b1 : decide ((den : Int) < 1) = false := decide_eq_false (by omega)
      by_cases g2 : 1000000 < den
      · have b2 : decide ((1000000 : Int) < (den : Int)) = true := decide_eq_true (by omega)
        clear hd
        go_enter Try.func33, Try.ntmps33
        go_wp2
        go_ret3
        exact ⟨rfl, H.out⟩
      · have b2 : decide ((1000000 : Int) < (den : Int)) = false := decide_eq_false (by omega)
        have b3 : decide (den < num) = true := decide_eq_true (by omega)
        clear hd
        go_enter Try.func33, Try.ntmps33
        go_wp2
        go_ret3
        exact ⟨rfl, H.out⟩
  · rw [if_neg hd]
    have b1 : decide ((den : Int) < 1) = false := decide_eq_false (by omega)
    have b2 : decide ((1000000 : Int) < (den : Int)) = false := decide_eq_false (by omega)
    have b3 : decide (den < num) = false := decide_eq_false (by omega)
    have hden : 1 ≤ den ∧ den ≤ 1000000 ∧ num ≤ den := by omega
    clear hd
    by_cases ht : total l = 0
    · rw [if_pos ht]
      have b4 : ((total l : Int) == 0) = true := by simp; omega
      clear ht
      go_enter Try.func33, Try.ntmps33
      go_wp2
      go_ret3
      exact ⟨rfl, H.out⟩
    · rw [if_neg ht]
      have b4 : ((total l : Int) == 0) = false := by simp; omega
      have hk4 := HK.out.bits
      have htm := HK.out.most
      have hp : total l * num ≤ 1099511627776 * 1000000 := Nat.mul_le_mul htm (by omega)
      obtain ⟨p, hpe⟩ : ∃ p, p = total l * num := ⟨_, rfl⟩
      rw [← hpe] at hp
      have hpi : (total l : Int) * (num : Int) = (p : Int) := by rw [hpe, Int.natCast_mul]
      obtain ⟨q, hqe⟩ : ∃ q, q = (p + den - 1) / den := ⟨_, rfl⟩
      have hqi : ((p : Int) + (den : Int) - 1) / (den : Int) = (q : Int) := by
        rw [hqe, Int.natCast_ediv]; congr 1; omega
      have hql : q ≤ 1100511627776000000 := by rw [hqe]; exact Nat.le_trans (Nat.div_le_self _ _) (by omega)
      have hd1 : (1 : Int) ≤ (den : Int) := by omega
      have hd2 : (den : Int) ≤ 1000000 := by omega
      have hp0 : (p : Int) ≤ 1099511627776000000 := by omega
      have hq0 : (q : Int) ≤ 1100511627776000000 := by omega
      have HP := Lib.hid hpe
      have HQ := Lib.hid hqe
      have HT := Lib.hid ht
      have hdn := Lib.hid hden
      clear ht hpe hqe hp hql htm hden
      go_enter Try.func33, Try.ntmps33
      go_wp2_with fail
      have hmx : max (q : Int) 1 = ((max q 1 : Nat) : Int) := by omega
      rw [hmx]
      have hr1 : max q 1 ≤ total l := by
        have := part_le (t := total l) hdn.out.1 hdn.out.2.2
        rw [← HP.out, ← HQ.out] at this
        have := HT.out; omega
      have hr2 : max q 1 < 18446744073709551616 := by have := HK.out.most; omega
      refine (Rank_walk k l (max q 1) b L F W _ HK.out hr2 HR.out H.out).mono ?_
      obtain ⟨a, ha⟩ := rankAt_some (l := l) (r := max q 1) (by omega) hr1
      have hin : bIn k a = true := by
        obtain ⟨x, hx, e⟩ := rankAt_mem ha
        rw [← e]; exact HK.out.inn x hx
      have HA := Lib.hid ha
      rintro e w1 ⟨rfl, hO1⟩
      rw [ha]
      simp only [rankVal, Option.getD_some, Option.isSome_some]
      obtain ⟨sv1, hb1⟩ := HR.out.block hO1
      have e0 := cell_at (i := 0) hb1 rfl
      have H1 := Lib.hid hO1
      have HI := Lib.hid hin
      clear hO1 hb1 hin ha hr1 hr2 hmx
      go_wp2_with fail
      refine (Bounds_in k a hk4 HI.out W _ _ H1.out).mono ?_
      rintro e w2 ⟨rfl, hO2⟩
      have H2 := Lib.hid hO2
      clear hO2
      go_wp2
      go_ret3
      refine ⟨?_, H2.out⟩
      rw [← HP.out, ← HQ.out, HA.out]
      rfl

end Go.Proofs.Ytbafepjmogigjaa
