/- The walks of package hist: New, Bits, Count, Add, Items, Merge. -/
import Derived.Test.YtbafepjmogigjaaHist
namespace Go.Proofs.Ytbafepjmogigjaa
set_option linter.unusedSimpArgs false
set_option linter.unusedVariables false
open Go.RowKit

theorem New_yes (k : Nat) (hk : k ≤ 4) (W w : World) (F : List Chunk) (hO : Own W w F) :
    Calls Try.prog 23 #[.int .i64 (k : Int)] w fun e w' => ∃ b, e = .returned (.tuple #[.pointer (some ⟨b, 0, none⟩), .int .i64 0]) ∧ Own W w' ((b, histObj k (.slice none 0 0) 0) :: F) := by
  have hk4 : (k : Int) ≤ 4 := by omega
  have hd : decide ((4 : Int) < (k : Int)) = false := decide_eq_false (by omega)
  have H := Lib.hid hO
  clear hO
  go_enter Try.func23, Try.ntmps23
  go_wp2
  go_ret2
  exact ⟨_, rfl, H.out.alloc _⟩

theorem New_no (k : Int) (hk : k < 0 ∨ 4 < k) (w : World) :
    Calls Try.prog 23 #[.int .i64 k] w fun e w' => e = .returned (.tuple #[.pointer none, .int .i64 1]) ∧ w = w' := by
  rcases hk with h | h
  · go_enter Try.func23, Try.ntmps23
    go_wp2
    go_ret2
    exact ⟨rfl, rfl⟩
  · have h0 : 0 ≤ k := by omega
    have hd : decide (4 < k) = true := decide_eq_true h
    go_enter Try.func23, Try.ntmps23
    go_wp2
    go_ret2
    exact ⟨rfl, rfl⟩

theorem Bits_any (k : Nat) (sv : Value) (c b : Nat) (w : World) (h : w.heap[b]? = some (histObj k sv c)) :
    Calls Try.prog 76 #[.pointer (some ⟨b, 0, none⟩)] w fun e w' => e = .returned (.int .i64 (k : Int)) ∧ w = w' := by
  have c0 := cell_at (i := 0) h rfl
  clear h
  go_enter Try.func76, Try.ntmps76
  go_wp2
  go_ret
  exact ⟨rfl, rfl⟩

theorem Count_any (k : Nat) (sv : Value) (c b : Nat) (w : World) (h : w.heap[b]? = some (histObj k sv c)) :
    Calls Try.prog 22 #[.pointer (some ⟨b, 0, none⟩)] w fun e w' => e = .returned (.int .u64 (c : Int)) ∧ w = w' := by
  have c0 := cell_at (i := 2) h rfl
  clear h
  go_enter Try.func22, Try.ntmps22
  go_wp2
  go_ret
  exact ⟨rfl, rfl⟩

/-- What Add tells, and leaves. -/
def addN (k : Nat) (l : Items) (n : Int) : Items × Int := if 1099511627776 ≤ total l then (l, 7) else (addItem l (bkOf k n) 1, 0)

def RetAdd (k : Nat) (r : Items × Int) (b : Nat) (W : World) (F : List Chunk) (e : Ending) (w' : World) : Prop :=
  e = .returned (.int .i64 r.2) ∧ ∃ L', HistC k r.1 b L' ∧ Own W w' (L' ++ F)

theorem HistC.block {k b : Nat} {l : Items} {L F : List Chunk} {W w : World} (h : HistC k l b L) (hO : Own W w (L ++ F)) : ∃ sv, w.heap[b]? = some (histObj k sv (total l)) := by
  obtain ⟨sv, L', _, rfl⟩ := h
  exact ⟨sv, hO.get (.head _)⟩

set_option maxRecDepth 100000 in
theorem Add_walk (k : Nat) (l : Items) (n : Int) (b : Nat) (L F : List Chunk) (h1 : -9223372036854775808 ≤ n) (h2 : n ≤ 9223372036854775807) (W w : World) (hk : HOk k l) (hR : HistC k l b L) (hO : Own W w (L ++ F)) :
    Calls Try.prog 25 #[.pointer (some ⟨b, 0, none⟩), .int .i64 n] w (RetAdd k (addN k l n) b W F) := by
  obtain ⟨sv, hb⟩ := hR.block hO
  have c0 := cell_at (i := 0) hb rfl
  have c2 := cell_at (i := 2) hb rfl
  have H := Lib.hid hO
  have HR := Lib.hid hR
  have HK := Lib.hid hk
  have hk4 := hk.bits
  have htm := hk.most
  clear hO hR hb hk
  unfold addN
  by_cases ht : 1099511627776 ≤ total l
  · rw [if_pos ht]
    have ht' : (1099511627776 : Int) ≤ (total l : Int) := by omega
    go_enter Try.func25, Try.ntmps25
    go_wp2
    go_ret
    exact ⟨rfl, L, HR.out, H.out⟩
  · rw [if_neg ht]
    have ht' : decide ((1099511627776 : Int) ≤ (total l : Int)) = false := decide_eq_false (by omega)
    have ht1 : total l + 1 ≤ 1099511627776 := by omega
    have HT := Lib.hid ht1
    clear ht htm ht1
    go_enter Try.func25, Try.ntmps25
    go_wp2_with fail
    refine (Of_any k n hk4 h1 h2 W _ _ H.out).mono ?_
    rintro e w1 ⟨rfl, hO1⟩
    have H1 := Lib.hid hO1
    clear hO1
    go_wp2_with fail
    refine (more_walk k l b L F (bkOf k n) 1 W _ HK.out HT.out HR.out H1.out).mono ?_
    rintro e w2 ⟨rfl, L2, hR2, hO2⟩
    have HR2 := Lib.hid hR2
    have H2 := Lib.hid hO2
    clear hR2 hO2
    go_wp2
    go_ret
    exact ⟨rfl, L2, HR2.out, H2.out⟩

theorem HOk.addN {k : Nat} {l : Items} (h : HOk k l) {n : Int} (h1 : -9223372036854775808 ≤ n) (h2 : n ≤ 9223372036854775807) : HOk k (addN k l n).1 := by
  unfold Go.Proofs.Ytbafepjmogigjaa.addN
  split
  · exact h
  · exact h.add (Nat.le_refl _) (bkOf_in h.bits h1 h2) (by omega)

set_option maxRecDepth 100000 in
theorem CloneItem (v : Value) (n : Nat) (xs : List Value) (L F : List Chunk) (W w : World) (hR : RowC 35 2 v n xs L) (h1 : ∀ u ∈ xs, u.oneCell' = true) (hO : Own W w (L ++ F)) (hb : n ≤ 1099511627776) :
    Calls Try.prog 81 #[v] w (RetRow 35 2 n xs W (L ++ F)) := by
  have hnil := @Lib.run_eql_slice_nil Try.prog
  rcases hR.two with ⟨rfl, rfl, rfl, rfl⟩ | ⟨r, o, cap, rfl, hnc, hcm⟩
  · have H := Lib.hid hO
    clear hO
    go_enter Try.func81, Try.ntmps81
    go_wp2
    go_ret
    exact ⟨_, [], rfl, RowC.nil _ _, H.out⟩
  · obtain ⟨i0, hi, hz, hz1, hz2⟩ := info_parts Try.infoItem
    have hO1 := hO.alloc (.cells #[] 35 (0, 0))
    have hE : RowC 35 2 (.slice (some ⟨w.heap.size, 0, none⟩) 0 0) 0 [] [(w.heap.size, .cells #[] 35 (0, 0))] := .inr ⟨w.heap.size, 0, 0, #[], rfl, Nat.le_refl _, by unfold maxLen; omega, by simp, by simp, by simp, rfl⟩
    have hsrc : Src Try.prog 2 32 (.slice (some ⟨r, o, none⟩) n cap) n xs (w.alloc (.cells #[] 35 (0, 0))) :=
      Src.ofSlice _ Try.underlying32 ⟨r, o, none⟩ n cap xs hR.len (hR.cell (hO1.le (L' := L ++ (w.heap.size, .cells #[] 35 (0, 0)) :: F) (fun a => by simp only [cnt_append, cnt_cons, cnt_nil]; omega)) _ rfl) h1
    obtain ⟨v', w', L', hrun, hR', hO'⟩ := run_append_row (P := Try.prog) 32 32 32 35 i0 _ 2 16 Try.underlying32 hi hz hz1 hz2 rfl hE (F := L ++ F) hO1 hsrc (by unfold maxLen; omega) (by omega)
    rw [Nat.zero_add, List.nil_append] at hR'
    have H := Lib.hid hO'
    have HR := Lib.hid hR'
    have HN := Lib.hid hrun
    clear hO hO1 hE hsrc hrun hR' hO' hR h1 hi hz hz1 hz2
    go_enter Try.func81, Try.ntmps81
    go_wp2_with (at_builtin; refine Lib.wpList_append_run _ rfl _ _ _ _ rfl _ _ rfl rfl _ _ HN.out ?_)
    go_ret
    exact ⟨v', L', rfl, HR.out, H.out⟩

theorem Items_walk (k : Nat) (l : Items) (b : Nat) (L F : List Chunk) (W w : World) (hk : HOk k l) (hR : HistC k l b L) (hO : Own W w (L ++ F)) :
    Calls Try.prog 21 #[.pointer (some ⟨b, 0, none⟩)] w (RetRow 35 2 l.length (itemCells l) W (L ++ F)) := by
  obtain ⟨sv, L', hrow, rfl⟩ := hR
  have c1 := hO.cell (i := 1) (.head _) rfl
  have H := Lib.hid hO
  have HRow := Lib.hid hrow
  have hn := hk.len
  clear hO hrow hk
  go_enter Try.func21, Try.ntmps21
  go_wp2_with fail
  refine (CloneItem sv l.length (itemCells l) L' ((b, histObj k sv (total l)) :: F) W _ HRow.out (itemCells_one l) (H.out.le (fun a => by simp only [cnt_append, cnt_cons, cnt_nil]; omega)) hn).mono ?_
  rintro e w1 ⟨v', L2, rfl, hR2, hO2⟩
  have HR2 := Lib.hid hR2
  have H2 := Lib.hid hO2
  clear hR2 hO2
  go_wp2
  go_ret
  exact ⟨v', L2, rfl, HR2.out, H2.out.le (fun a => by simp only [cnt_append, cnt_cons, cnt_nil]; omega)⟩

/-- What Merge leaves: the one merged into; the other one as it was. -/
def RetMerge (k : Nat) (r : Items × Int) (b : Nat) (W : World) (F : List Chunk) (e : Ending) (w' : World) : Prop :=
  e = .returned (.int .i64 r.2) ∧ ∃ L', HistC k r.1 b L' ∧ Own W w' (L' ++ F)

set_option maxRecDepth 100000 in
set_option maxHeartbeats 1000000 in
theorem Merge_walk (k k' : Nat) (l m : Items) (b b' : Nat) (L M F : List Chunk) (W w : World) (hk : HOk k l) (hk' : HOk k' m) (hR : HistC k l b L) (hM : HistC k' m b' M) (hO : Own W w (L ++ M ++ F)) :
    Calls Try.prog 28 #[.pointer (some ⟨b, 0, none⟩), .pointer (some ⟨b', 0, none⟩)] w (RetMerge k (mergeN k l k' m) b W (M ++ F)) := by
  obtain ⟨sv, hb⟩ := hR.block (F := M ++ F) (hO.le (fun a => by simp only [cnt_append, cnt_cons, cnt_nil]; omega))
  obtain ⟨sv', hb'⟩ := hM.block (F := L ++ F) (hO.le (fun a => by simp only [cnt_append, cnt_cons, cnt_nil]; omega))
  have c0 := cell_at (i := 0) hb rfl
  have c2 := cell_at (i := 2) hb rfl
  have d0 := cell_at (i := 0) hb' rfl
  have d2 := cell_at (i := 2) hb' rfl
  have H := Lib.hid hO
  have HR := Lib.hid hR
  have HM := Lib.hid hM
  have HK := Lib.hid hk
  have HK' := Lib.hid hk'
  have htm := hk.most
  have htm' := hk'.most
  clear hO hR hM hb hb' hk hk'
  unfold mergeN
  by_cases hkk : k' ≠ k
  · rw [if_pos hkk]
    have hd : (!((k' : Int) == (k : Int))) = true := by simp; omega
    have hd2 : ((k' : Int) != (k : Int)) = true := by simp; omega
    clear htm htm'
    go_enter Try.func28, Try.ntmps28
    go_wp2_with fail
    go_quiet (fail)
    go_wp2
    go_ret
    exact ⟨rfl, L, HR.out, (H.out.le (fun a => by simp only [cnt_append, cnt_cons, cnt_nil]; omega)).drewN _⟩
  · rw [if_neg hkk]
    obtain rfl : k' = k := by omega
    clear hkk
    by_cases ht : 1099511627776 - total l < total m
    · rw [if_pos ht]
      have hd : decide ((1099511627776 : Int) - (total l : Int) < (total m : Int)) = true := decide_eq_true (by omega)
      have hw : IntKind.u64.wrap ((1099511627776 : Int) - (total l : Int)) = (1099511627776 : Int) - (total l : Int) := by rw [IntKind.wrap_u64]; omega
      clear htm htm' ht
      go_enter Try.func28, Try.ntmps28
      go_wp2_with fail
      go_quiet (fail)
      go_wp2_with fail
      go_quiet (fail)
      go_wp2
      go_ret
      exact ⟨rfl, L, HR.out, ((H.out.drewN _).drewN _).le (fun a => by simp only [cnt_append, cnt_cons, cnt_nil]; omega)⟩
    · rw [if_neg ht]
      have hd : decide ((1099511627776 : Int) - (total l : Int) < (total m : Int)) = false := decide_eq_false (by omega)
      have hw : IntKind.u64.wrap ((1099511627776 : Int) - (total l : Int)) = (1099511627776 : Int) - (total l : Int) := by rw [IntKind.wrap_u64]; omega
      have htt : total l + total m ≤ 1099511627776 := by omega
      have HT := Lib.hid htt
      clear htm htm' ht htt
      go_enter Try.func28, Try.ntmps28
      go_wp2_with fail
      go_quiet (fail)
      go_wp2_with fail
      go_quiet (fail)
      go_wp2_with fail
      refine (Items_walk k' m b' M (L ++ F) W _ HK'.out HM.out ((H.out.drewN _).le (fun a => by simp only [cnt_append, cnt_cons, cnt_nil]; omega))).mono ?_
      rintro e w1 ⟨v', L2, rfl, hR2, hO2⟩
      obtain ⟨a2, cap2, rfl, hq1, hq2, hq3, hq4⟩ := hR2.form
      have H2 := Lib.hid hO2
      have HR2 := Lib.hid hR2
      have HQ3 := Lib.hid hq3
      have HQ4 := Lib.hid hq4
      have hml := HK'.out.len
      clear hO2 hR2 hq3 hq4 c0 c2 d0 d2 hd hw
      unfold maxLen at hq2
      have hcm : cap2 ≤ 9223372036854775807 := by omega
      clear hq2
      go_wp2_with fail
      go_loopw [31] (fun i wr => ∃ j : Nat, i = .int .i64 (j : Int) ∧ j ≤ m.length ∧ Hid (∃ Lj, HistC k' (addAll l (m.take j)) b Lj ∧ Own W wr (Lj ++ (L2 ++ M ++ F)))) (fun i _ => m.length - (intOf i).toNat)
      case atStart => exact ⟨0, rfl, Nat.zero_le _, L, by simpa [addAll] using HR.out, H2.out.le (fun a => by simp only [cnt_append, cnt_cons, cnt_nil]; omega)⟩
      case round =>
        obtain ⟨j, rfl, hj, hq⟩ := hrel
        by_cases hlt : j < m.length
        · obtain ⟨Lj, hCj, hOj⟩ := hq.out
          cases a2 with
          | none => have := (HQ3.out rfl).1; omega
          | some q =>
            obtain ⟨r, o, sp⟩ := q
            obtain rfl : sp = none := HQ4.out _ rfl
            have hc := HR2.out.cell (F := Lj ++ M ++ F) (hOj.le (fun a => by simp only [cnt_append, cnt_cons, cnt_nil]; omega)) _ rfl
            have hc1 := hc _ _ (itemCells_at m j hlt).1
            have hc2 := hc _ _ (itemCells_at m j hlt).2
            rw [Addr.add_lit] at hc1 hc2
            rw [← Nat.add_assoc] at hc2
            have hji : (j : Int) < (m.length : Int) := by omega
            have HC := Lib.hid hCj
            have HO := Lib.hid hOj
            clear hCj hOj hc hq
            go_wp2_with fail
            have hkj : HOk k' (addAll l (m.take j)) := HOk.addAll HK.out (fun x hx => ⟨HK'.out.pos x (mem_take_of hx), HK'.out.inn x (mem_take_of hx)⟩) (by have := total_take_le m j; have := HT.out; omega)
            have htj : total (addAll l (m.take j)) + manyAt m j ≤ 1099511627776 := by
              have h1 := total_take_le m (j + 1)
              rw [take_succ_at hlt, total_append, total_cons, show total ([] : Items) = 0 from rfl] at h1
              have := HT.out
              rw [total_addAll]
              simp only at h1
              omega
            refine (more_walk k' (addAll l (m.take j)) b Lj (L2 ++ M ++ F) (keyAt m j) (manyAt m j) W _ hkj htj HC.out ((HO.out.alloc (.cells #[.int .i64 (keyAt m j), .int .u64 (manyAt m j : Int)] 35 (0, 0))).le (fun a => by simp only [cnt_append, cnt_cons, cnt_nil]; omega))).mono ?_
            rintro e w3 ⟨rfl, L3, hC3, hO3⟩
            rw [← addAll_snoc' l m j hlt] at hC3
            have HC3 := Lib.hid hC3
            have HO3 := Lib.hid hO3
            clear hC3 hO3 hkj htj
            go_wp2
            exact ⟨⟨j + 1, by go_num, by omega, L3, HC3.out, HO3.out⟩, by simp [intOf]; omega⟩
        · obtain rfl : j = m.length := by omega
          go_wp2
          go_ret
          obtain ⟨Lj, hCj, hOj⟩ := hq.out
          rw [List.take_length] at hCj
          exact ⟨rfl, Lj, hCj, hOj.le (fun a => by simp only [cnt_append, cnt_cons, cnt_nil]; omega)⟩

end Go.Proofs.Ytbafepjmogigjaa
