/- The walks of package hist: more, Add, Count, Bits, New. -/
import Derived.Test.YtbafepjmogigjaaHistPure
import Derived.Test.YtbafepjmogigjaaIns
import Derived.Test.YtbafepjmogigjaaBS
import Derived.Deep.DeepCutAuto
import Derived.BigRegion
namespace Go.Proofs.Ytbafepjmogigjaa
set_option linter.unusedSimpArgs false
set_option linter.unusedVariables false
open Go.RowKit

/-- Items as cells. -/
def itemCells (l : Items) : List Value := l.flatMap fun x => [.int .i64 x.1, .int .u64 (x.2 : Int)]

theorem itemCells_cons (x : Int × Nat) (l : Items) : itemCells (x :: l) = .int .i64 x.1 :: .int .u64 (x.2 : Int) :: itemCells l := rfl
theorem itemCells_append (l m : Items) : itemCells (l ++ m) = itemCells l ++ itemCells m := by simp [itemCells]
theorem itemCells_len : ∀ l : Items, (itemCells l).length = l.length * 2
  | [] => rfl
  | x :: l => by rw [itemCells_cons]; simp only [List.length_cons, itemCells_len l]; omega
theorem itemCells_one : ∀ (l : Items), ∀ u ∈ itemCells l, u.oneCell' = true
  | [], u, h => by simp [itemCells] at h
  | x :: l, u, h => by
    rw [itemCells_cons] at h
    rcases List.mem_cons.1 h with rfl | h
    · rfl
    · rcases List.mem_cons.1 h with rfl | h
      · rfl
      · exact itemCells_one l u h
theorem itemCells_at : ∀ (l : Items) (j : Nat), j < l.length → (itemCells l)[j * 2]? = some (.int .i64 (keyAt l j)) ∧ (itemCells l)[j * 2 + 1]? = some (.int .u64 (manyAt l j : Int))
  | [], j, h => by simp at h
  | x :: l, 0, _ => ⟨rfl, rfl⟩
  | x :: l, j + 1, h => by
    rw [itemCells_cons, show (j + 1) * 2 = j * 2 + 1 + 1 by omega]
    simp only [List.getElem?_cons_succ]
    exact itemCells_at l j (by simpa using h)
theorem itemCells_take : ∀ (l : Items) (i : Nat), (itemCells l).take (i * 2) = itemCells (l.take i)
  | [], i => by simp [itemCells]
  | x :: l, 0 => by simp [itemCells]
  | x :: l, i + 1 => by
    rw [itemCells_cons, show (i + 1) * 2 = i * 2 + 1 + 1 by omega]
    simp only [List.take_succ_cons]
    rw [itemCells_cons, itemCells_take l i]
theorem itemCells_drop : ∀ (l : Items) (i : Nat), (itemCells l).drop (i * 2) = itemCells (l.drop i)
  | [], i => by simp [itemCells]
  | x :: l, 0 => by simp
  | x :: l, i + 1 => by
    rw [itemCells_cons, show (i + 1) * 2 = i * 2 + 1 + 1 by omega]
    simp only [List.drop_succ_cons]
    rw [itemCells_drop l i]

theorem itemCells_set : ∀ (l : Items) (i c : Nat), i < l.length → (itemCells l).set (i * 2 + 1) (.int .u64 (c : Int)) = itemCells (l.set i (keyAt l i, c))
  | [], i, c, h => by simp at h
  | x :: l, 0, c, _ => rfl
  | x :: l, i + 1, c, h => by
    rw [itemCells_cons, show (i + 1) * 2 + 1 = (i * 2 + 1) + 1 + 1 by omega]
    simp only [List.set_cons_succ]
    rw [itemCells_set l i c (by simpa using h), itemCells_cons]
    rfl

/-- The block of a histogram. -/
def histObj (k : Nat) (sv : Value) (c : Nat) : Obj := .cells #[.int .i64 (k : Int), sv, .int .u64 (c : Int)] 143 (0, 0)

theorem Own.hist1 {W w : World} {L R : List Chunk} {b k c : Nat} {sv : Value} (h : Own W w L) (hL : ∀ a, cnt a ((b, histObj k sv c) :: R) ≤ cnt a L) (v : Value) :
    Own W (w.setCell ⟨b, 1, none⟩ v) ((b, histObj k v c) :: R) := (h.le hL).set0 1 v
theorem Own.hist2 {W w : World} {L R : List Chunk} {b k c : Nat} {sv : Value} (h : Own W w L) (hL : ∀ a, cnt a ((b, histObj k sv c) :: R) ≤ cnt a L) (c' : Nat) :
    Own W (w.setCell ⟨b, 2, none⟩ (.int .u64 (c' : Int))) ((b, histObj k sv c') :: R) := (h.le hL).set0 2 _

/-- A histogram's chunks. -/
def HistC (k : Nat) (l : Items) (b : Nat) (L : List Chunk) : Prop :=
  ∃ sv L', RowC 35 2 sv l.length (itemCells l) L' ∧ L = (b, histObj k sv (total l)) :: L'

/-- A cell of an element of the row is written. -/
theorem RowC.setAt {E : TypeId} {size : Nat} {r o cap n : Nat} {xs : List Value} {c : Array Value} (h : RowC E size (.slice (some ⟨r, o, none⟩) n cap) n xs [(r, .cells c E (0, 0))]) (j : Nat) (v : Value) (hj : j < n * size) :
    RowC E size (.slice (some ⟨r, o, none⟩) n cap) n (xs.set j v) [(r, .cells (c.setIfInBounds (o + j) v) E (0, 0))] := by
  rcases h with ⟨h, _⟩ | ⟨r', o', cap', c', h, h1, h2, h3, h4, h5, h6⟩
  · cases h
  · cases h
    simp only [List.cons.injEq, Prod.mk.injEq, Obj.cells.injEq, and_true, true_and] at h6
    subst h6
    refine .inr ⟨r, o, cap, _, rfl, h1, h2, by rw [Array.size_setIfInBounds]; exact h3, by rw [List.length_set]; exact h4, ?_, rfl⟩
    intro k hk
    by_cases e : k = j
    · subst e
      have hcs : n * size ≤ cap * size := Nat.mul_le_mul_right _ h1
      rw [Array.getElem?_setIfInBounds_self_of_lt (by omega), List.getElem?_set_self (by omega)]
    · rw [Array.getElem?_setIfInBounds_ne (by omega), List.getElem?_set_ne (by omega)]
      exact h5 k hk

def RetMore (k : Nat) (l : Items) (b : Nat) (W : World) (F : List Chunk) (e : Ending) (w' : World) : Prop :=
  e = .returned (.tuple #[]) ∧ ∃ L', HistC k l b L' ∧ Own W w' (L' ++ F)

/-- Between: the bucket is there. -/
def MoreMid (k : Nat) (l : Items) (b bx i : Nat) (at_ : Int) (m : Nat) (W : World) (F : List Chunk) (wx : World) : Prop :=
  ∃ sv1 l1 L1, RowC 35 2 sv1 l1.length (itemCells l1) L1 ∧ i < l1.length ∧ keyAt l1 i = at_ ∧ l1.set i (at_, manyAt l1 i + m) = addItem l at_ m ∧ manyAt l1 i + m ≤ 1099511627776 ∧
    Own W wx (L1 ++ (bx, .cells #[.int .i64 at_, .int .u64 (m : Int)] 35 (0, 0)) :: (b, histObj k sv1 (total l)) :: F)

set_option maxRecDepth 100000 in
set_option maxHeartbeats 2000000 in
theorem more_walk (k : Nat) (l : Items) (b : Nat) (L F : List Chunk) (at_ : Int) (m : Nat) (W w : World) (hk : HOk k l) (hm : total l + m ≤ 1099511627776) (hR : HistC k l b L) (hO : Own W w (L ++ F)) :
    Calls Try.prog 82 #[.pointer (some ⟨b, 0, none⟩), .agg #[.int .i64 at_, .int .u64 (m : Int)]] w (RetMore k (addItem l at_ m) b W F) := by
  obtain ⟨sv, L', hrow, rfl⟩ := hR
  have hn := hk.len
  have hO0 := hO.alloc (.cells #[.int .i64 at_, .int .u64 (m : Int)] 35 (0, 0))
  clear hO
  go_enter Try.func82, Try.ntmps82
  go_wp2_with fail
  generalize w.alloc (.cells #[.int .i64 at_, .int .u64 (m : Int)] 35) = w0 at *
  generalize w.heap.size = bx at *
  have n1 : bx ≠ b := hO0.ne_mem (.head _)
  have n2 := n1.symm
  have c0 := hO0.cell (i := 0) (.head _) rfl
  have c1 := hO0.cell (i := 1) (.head _) rfl
  have c2 := hO0.cell (i := 1) (.tail _ (.head _)) rfl
  have H0 := Lib.hid hO0
  have HRow := Lib.hid hrow
  have HK := Lib.hid hk
  clear hO0 hrow hk
  go_region_held3 (fun w' => w'.cell? ⟨b, 1, none⟩ = some sv ∧ w'.cell? ⟨bx, 0, none⟩ = some (.int .i64 at_))
    (first | go_keep | exact ⟨hO1.cell (i := 1) (List.mem_append_right _ (.tail _ (.head _))) rfl, hO1.cell (i := 0) (List.mem_append_right _ (.head _)) rfl⟩)
    ((go_at_call 117; refine (BSItem sv l.length (itemCells l) L' ((bx, .cells #[.int .i64 at_, .int .u64 (m : Int)] 35 (0, 0)) :: (b, histObj k sv (total l)) :: F) (keyAt l) (fun j => (manyAt l j : Int)) at_ W _ HRow.out (itemCells_at l) (rising_lt HK.out.rising) hn (H0.out.drew.le (fun a => by simp only [cnt_cons, cnt_append]; omega))).mono ?_; rintro e w1 ⟨i, fnd, hF, hfnd, rfl, hO1⟩))
  have H1 := Lib.hid hO1
  have HF := Lib.hid hF
  clear hO1 hF
  rename_i hS
  clear hS
  go_upto_if 17 with fail
  go_cut [] (fun wx => MoreMid k l b bx i at_ m W F wx)
  case first =>
    cases fnd with
    | false =>
      have c1 := H1.out.cell (i := 1) (List.mem_append_right _ (.tail _ (.head _))) rfl
      have c2 := H1.out.cell (i := 0) (List.mem_append_right _ (.head _)) rfl
      have f1 := H1.out.free (List.mem_append_right _ (.tail _ (.head _))) 1
      have l1 : b < w1.heap.size := H1.out.lt (List.mem_append_right _ (.tail _ (.head _)))
      have l2 : bx < w1.heap.size := H1.out.lt (List.mem_append_right _ (.head _))
      have k1 : b ≠ w1.heap.size := by omega
      have k2 : bx ≠ w1.heap.size := by omega
      go_wp2_with fail
      go_region_with ((go_at_call 120; refine (InsItem_any sv l.length i _ (itemCells l) [.int .i64 at_, .int .u64 0] L' ((bx, .cells #[.int .i64 at_, .int .u64 (m : Int)] 35 (0, 0)) :: (b, histObj k sv (total l)) :: F) W _ HF.out.1 HRow.out rfl (itemCells_one l) (by simp [Value.oneCell']) ((H1.out.drew.alloc (.cells #[.int .i64 at_, .int .u64 0] 35 (0, 0))).le (fun a => by simp only [cnt_cons, cnt_append]; show _ ≤ one a (w1.heap.size, _) + _; omega)) (by omega)).mono ?_; rintro e w2 ⟨sv', L2, rfl, hR2, hO2⟩; obtain ⟨a2, cap2, rfl, hq1, hq2, hq3, hq4⟩ := hR2.form; clear hq3 hq4; have H2 := Lib.hid hO2; have HR2 := Lib.hid hR2; clear hO2 hR2; have d1 := H2.out.cell (i := 1) (List.mem_append_right _ (.tail _ (.head _))) rfl; have g1 := H2.out.free (List.mem_append_right _ (.tail _ (.head _))) 1))
      all_goals go_wp2_with fail
      all_goals go_meet
      all_goals
        have hnf : ¬ (i < l.length ∧ keyAt l i = at_) := of_decide_eq_false hfnd.out.symm
        have hadd := addItem_at at_ m i HK.out.rising HF.out.1 HF.out.2.1 HF.out.2.2
        rw [if_neg hnf] at hadd
        have hmany : manyAt (l.take i ++ (at_, 0) :: l.drop i) i = 0 := by unfold manyAt; rw [insert_get HF.out.1]
        have hlen : (l.take i ++ (at_, 0) :: l.drop i).length = l.length + 1 := by have := HF.out.1; simp; omega
        have hO3 := H2.out.hist1 (b := b) (k := k) (c := total l) (sv := sv) (R := L2 ++ (bx, .cells #[.int .i64 at_, .int .u64 (m : Int)] 35 (0, 0)) :: F) (fun a => by simp only [cnt_append, cnt_cons, cnt_nil]; omega) (.slice a2 (l.length + 1) cap2)
        refine ⟨.slice a2 (l.length + 1) cap2, l.take i ++ (at_, 0) :: l.drop i, L2, ?_, by rw [hlen]; have := HF.out.1; omega, by unfold keyAt; rw [insert_get HF.out.1], ?_, by rw [hmany]; omega, hO3.le (fun a => by simp only [cnt_append, cnt_cons, cnt_nil]; omega)⟩
        · rw [hlen, itemCells_append, itemCells_cons, ← itemCells_take, ← itemCells_drop]
          have := HR2.out
          simpa using this
        · rw [hmany, insert_set HF.out.1, hadd, Nat.zero_add]
    | true =>
      go_wp2_with fail
      go_meet
      have hf : i < l.length ∧ keyAt l i = at_ := of_decide_eq_true hfnd.out.symm
      have hadd := addItem_at at_ m i HK.out.rising HF.out.1 HF.out.2.1 HF.out.2.2
      rw [if_pos hf] at hadd
      exact ⟨sv, l, L', HRow.out, hf.1, hf.2, by rw [hadd, set_at hf.1], by have := manyAt_le l i; omega, H1.out⟩
  case rest =>
    obtain ⟨sv1, l1, L1, hrow1, hil, hkey, hset, hmany, hO2⟩ := hcut
    rcases hrow1 with ⟨_, h, _⟩ | ⟨r, o, cap, c, rfl, h1, h2, h3, h4, h5, rfl⟩
    · omega
    have hcell := (itemCells_at l1 i hil).2
    have d1 := hO2.cell (i := 1) (.tail _ (.tail _ (.head _))) rfl
    have d2 := hO2.cell (i := 2) (.tail _ (.tail _ (.head _))) rfl
    have d3 := hO2.cell (i := 1) (.tail _ (.head _)) rfl
    have d4 := hO2.cell (i := o + (i * 2 + 1)) (.head _) (by rw [h5 _ (by omega)]; exact hcell)
    have f2 := hO2.free (.tail _ (.tail _ (.head _))) 2
    have f4 := hO2.free (.head _) (o + (i * 2 + 1))
    rw [← Nat.add_assoc] at d4 f4
    have n3 : r ≠ bx := hO2.ne_mem (.head _)
    have n4 : r ≠ b := hO2.ne_mem (.tail _ (.head _))
    have n5 := n3.symm
    have n6 := n4.symm
    have hq1 : (0 : Int) ≤ (i : Int) := Int.natCast_nonneg _
    have hq2 : (i : Int) < (l1.length : Int) := by omega
    have HR1 := Lib.hid h5
    have H2 := Lib.hid hO2
    have HS := Lib.hid hset
    have HL := Lib.hid h4
    have HKey := Lib.hid hkey
    have H3 := Lib.hid h3
    have H2' := Lib.hid h2
    clear hO2 h5 hset hkey hcell h4 c0 c1 c2 h3 h2
    go_wp2_with fail
    go_region
    go_wp2_with fail
    go_region
    go_wp2
    go_end0
    have e1 : ((manyAt l1 i : Int) + (m : Int)) = ((manyAt l1 i + m : Nat) : Int) := by omega
    have e2 : ((total l : Int) + (m : Int)) = ((total l + m : Nat) : Int) := by omega
    rw [e1, e2]
    have hrow : RowC 35 2 (.slice (some ⟨r, o, none⟩) l1.length cap) l1.length (itemCells l1) [(r, .cells c 35 (0, 0))] := .inr ⟨r, o, cap, c, rfl, h1, H2'.out, H3.out, HL.out, HR1.out, rfl⟩
    have hrow' := hrow.setAt (i * 2 + 1) (.int .u64 ((manyAt l1 i + m : Nat) : Int)) (by omega)
    rw [itemCells_set l1 i _ hil, HKey.out, HS.out, ← Nat.add_assoc] at hrow'
    have hlen : (addItem l at_ m).length = l1.length := by rw [← HS.out, List.length_set]
    have hO3 : Own W _ ((r, .cells (c.setIfInBounds (o + i * 2 + 1) (.int .u64 ((manyAt l1 i + m : Nat) : Int))) 35 (0, 0)) :: (bx, .cells #[.int .i64 at_, .int .u64 (m : Int)] 35 (0, 0)) :: (b, histObj k (.slice (some ⟨r, o, none⟩) l1.length cap) (total l)) :: F) :=
      H2.out.set0 (o + i * 2 + 1) (.int .u64 ((manyAt l1 i + m : Nat) : Int))
    have hO4 := (hO3.hist2 (b := b) (k := k) (c := total l) (sv := .slice (some ⟨r, o, none⟩) l1.length cap) (R := (r, .cells (c.setIfInBounds (o + i * 2 + 1) (.int .u64 ((manyAt l1 i + m : Nat) : Int))) 35 (0, 0)) :: F) (fun a => by simp only [cnt_append, cnt_cons, cnt_nil]; omega) (total l + m)).drew.drew
    refine ⟨rfl, (b, histObj k (.slice (some ⟨r, o, none⟩) l1.length cap) (total (addItem l at_ m))) :: [(r, .cells (c.setIfInBounds (o + i * 2 + 1) (.int .u64 ((manyAt l1 i + m : Nat) : Int))) 35 (0, 0))], ⟨.slice (some ⟨r, o, none⟩) l1.length cap, _, ?_, rfl⟩, ?_⟩
    · rw [hlen]; exact hrow'
    · rw [total_addItem]; exact hO4

end Go.Proofs.Ytbafepjmogigjaa
