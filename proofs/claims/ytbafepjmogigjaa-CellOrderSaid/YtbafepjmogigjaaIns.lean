/- slices.Insert of one element into a row of the call's own. -/
import Derived.Test.YtbafepjmogigjaaRow
import Derived.Test.YtbafepjmogigjaaProg
import Derived.Lib.Overlaps
import Derived.Shelf.Spec.SlicesInsert
import Derived.Outline
import Derived.Deep.RegionLaw
namespace Go.Proofs.Ytbafepjmogigjaa
set_option linter.unusedSimpArgs false
set_option linter.unusedVariables false
open Go.RowKit

theorem Try.infoItem : (Try.prog.info? 35).map (fun i => (i.zero, i.size, i.bytes)) = some (some (.agg #[.int .i64 0, .int .u64 0]), 2, 16) := by kernel_rfl

set_option maxRecDepth 100000 in
theorem InsItem_end (v : Value) (n vb : Nat) (xs vs : List Value) (L F : List Chunk) (W w : World) (hR : RowC 35 2 v n xs L) (hv : vs.length = 2) (h1 : ∀ u ∈ vs, u.oneCell' = true)
    (hO : Own W w (L ++ (vb, .cells vs.toArray 35 (0, 0)) :: F)) (hb : (n + 1) * 16 ≤ 140737488355328) :
    Calls Try.prog 120 #[v, .int .i64 (n : Int), .slice (some ⟨vb, 0, none⟩) 1 1] w
      (RetRow 35 2 (n + 1) (xs ++ vs) W F) := by
  obtain ⟨i0, hi, hz, hz1, hz2⟩ := info_parts Try.infoItem
  have hsrc : Src Try.prog 2 32 (.slice (some ⟨vb, 0, none⟩) 1 1) 1 vs w :=
    Src.ofSlice w Try.underlying32 ⟨vb, 0, none⟩ 1 1 vs (by omega) (fun j u hj => by rw [Addr.add_lit]; exact hO.cell (i := 0 + j) (List.mem_append_right _ (.head _)) (by simpa using hj)) h1
  have hm : n + 1 ≤ maxLen := by unfold maxLen; omega
  have hrun := fun ty => run_append_row (P := Try.prog) 32 32 ty 35 i0 _ 2 16 Try.underlying32 hi hz hz1 hz2 rfl hR hO hsrc hm hb
  obtain ⟨v', w', L', hrun', hR', hO'⟩ := hrun 32
  clear hrun
  have hT := hR.two
  have H := Lib.hid hO'
  have HR := Lib.hid hR'
  have HN := Lib.hid hrun'
  have hn : (n : Int) ≤ 9223372036854775807 := by unfold maxLen at hm; omega
  clear hO hO' hR hR' hrun' hsrc
  rcases hT with ⟨rfl, rfl, rfl, rfl⟩ | ⟨r, o, cap, rfl, hnc, hcm⟩
  · go_enter Try.func120, Try.ntmps120
    go_wp2_with (at_builtin; go_loud (refine Lib.wpList_append_run _ rfl _ _ _ _ rfl _ _ rfl rfl _ _ HN.out ?_))
    go_ret
    exact ⟨v', L', rfl, HR.out, H.out.le (fun a => by simp only [cnt_append, cnt_cons]; omega)⟩
  · have hcm' : cap ≤ 9223372036854775807 := by unfold maxLen at hcm; omega
    clear hcm
    by_cases hcn : cap = n
    · subst hcn
      go_enter Try.func120, Try.ntmps120
      go_wp2_with (at_builtin; go_loud (refine Lib.wpList_append_run _ rfl _ _ _ _ rfl _ _ rfl rfl _ _ HN.out ?_))
      go_ret
      exact ⟨v', L', rfl, HR.out, H.out.le (fun a => by simp only [cnt_append, cnt_cons]; omega)⟩
    · go_enter Try.func120, Try.ntmps120
      go_wp2_with (at_builtin; go_loud (refine Lib.wpList_append_run _ rfl _ _ _ _ rfl _ _ rfl rfl _ _ HN.out ?_))
      go_ret
      exact ⟨v', L', rfl, HR.out, H.out.le (fun a => by simp only [cnt_append, cnt_cons]; omega)⟩

theorem zItem (w : World) : (Go.sizeOf 35).run Try.prog w = .ok 2 w := by kernel_rfl

set_option maxRecDepth 100000 in
theorem InsItem_shift (r o n cap i vb : Nat) (c : Array Value) (xs vs : List Value) (F : List Chunk) (W w : World) (hin : i < n) (hroom : n + 1 ≤ cap) (hcap : cap ≤ 9223372036854775807)
    (hsz : o + cap * 2 ≤ c.size) (hxl : xs.length = n * 2) (hxc : ∀ j, j < n * 2 → c[o + j]? = xs[j]?) (h1x : ∀ u ∈ xs, u.oneCell' = true)
    (hv : vs.length = 2) (h1 : ∀ u ∈ vs, u.oneCell' = true)
    (hO : Own W w ((r, .cells c 35 (0, 0)) :: (vb, .cells vs.toArray 35 (0, 0)) :: F)) :
    Calls Try.prog 120 #[.slice (some ⟨r, o, none⟩) n cap, .int .i64 (i : Int), .slice (some ⟨vb, 0, none⟩) 1 1] w
      fun e w' => e = .returned (.slice (some ⟨r, o, none⟩) (n + 1) cap) ∧ Own W w' ((r, .cells (putA (putA c (o + (i + 1) * 2) (xs.drop (i * 2))) (o + i * 2) vs) 35 (0, 0)) :: (vb, .cells vs.toArray 35 (0, 0)) :: F) := by
  obtain ⟨i0, hi, hz, hz1, hz2⟩ := info_parts Try.infoItem
  have hsize : (Try.prog.info? 35).map (·.size) = some 2 := by rw [hi]; simp [hz1]
  have hvb : vb ≠ r := fun e => hO.ne_mem (.head _) e.symm
  have hdl : (xs.drop (i * 2)).length = (n - i) * 2 := by rw [List.length_drop, hxl]; omega
  have hov : ∀ lb cb oo, (callFunc 137 #[.slice (some ⟨vb, 0, none⟩) 1 1, .slice (some ⟨r, oo, none⟩) lb cb]).run Try.prog w = .ok (.value (.bool false)) w := fun lb cb oo => by
    rw [run_callFunc_extern Try.func137 (by kernel_rfl) (by kernel_rfl) (by kernel_rfl) (e := Extern.SlicesOverlaps.overlaps #[32, 32] #[4]) (by kernel_rfl),
      run_overlaps_own 32 4 35 Try.underlying32 2 zItem vb r 0 oo 1 1 lb cb hvb _ _ (hO.get (.tail _ (.head _))) (hO.get (.head _)) (by omega)]
    rfl
  have hO1 := (hO.drew).setCells (A := []) (xs.drop (i * 2)) _ _ (o + (i + 1) * 2)
  have hO2 := hO1.setCells (A := []) vs _ _ (o + i * 2)
  have hcp1 : ∀ ty dc sc, (Builtin.copy_ #[32, 32] ty #[.slice (some ⟨r, o + (i + 1) * 2, none⟩) (n - i) dc, .slice (some ⟨r, o + i * 2, none⟩) (n + 1 - i) sc]).run Try.prog w.drew =
      .ok (goInt (Nat.min (n + 1 - i) (n - i))) (w.drew.setCells r (o + (i + 1) * 2) (xs.drop (i * 2))) := fun ty dc sc =>
    run_copy_cellsK w.drew _ _ ty 35 2 r (o + (i + 1) * 2) (n - i) dc ⟨r, o + i * 2, none⟩ (n + 1 - i) sc (xs.drop (i * 2)) Try.underlying32 hsize
      (by rw [hdl]; simp only [Nat.min_def]; split <;> omega)
      (fun j v hj => by
        rw [List.getElem?_drop] at hj
        have hlt : i * 2 + j < n * 2 := by rw [← hxl]; exact (List.getElem?_eq_some_iff.1 hj).1
        rw [Addr.add_lit, Nat.add_assoc]
        exact hO.drew.cell (.head _) (by rw [hxc _ hlt]; exact hj))
      (fun j hj => by
        have hlt : o + (i + 1) * 2 + j < c.size := by omega
        rw [hO.drew.cell (i := o + (i + 1) * 2 + j) (.head _) (Array.getElem?_eq_getElem hlt)]; rfl)
      (fun j _ => hO.drew.free (.head _) _) (fun v hv => h1x v (List.mem_of_mem_drop hv))
  obtain ⟨W1, hW1⟩ : ∃ W1, W1 = w.drew.setCells r (o + (i + 1) * 2) (xs.drop (i * 2)) := ⟨_, rfl⟩
  rw [← hW1] at hcp1 hO1 hO2
  have hcp2 : ∀ ty dc, (Builtin.copy_ #[32, 32] ty #[.slice (some ⟨r, o + i * 2, none⟩) (n + 1 - i) dc, .slice (some ⟨vb, 0, none⟩) 1 1]).run Try.prog W1 =
      .ok (goInt (Nat.min 1 (n + 1 - i))) (W1.setCells r (o + i * 2) vs) := fun ty dc =>
    run_copy_cellsK W1 _ _ ty 35 2 r (o + i * 2) (n + 1 - i) dc ⟨vb, 0, none⟩ 1 1 vs Try.underlying32 hsize
      (by rw [hv]; simp only [Nat.min_def]; split <;> omega)
      (fun j v hj => by rw [Addr.add_lit]; exact hO1.cell (i := 0 + j) (.tail _ (.head _)) (by simpa using hj))
      (fun j hj => by
        have hlt : o + i * 2 + j < (putA c (o + (i + 1) * 2) (xs.drop (i * 2))).size := by rw [putA_size]; omega
        rw [hO1.cell (i := o + i * 2 + j) (.head _) (Array.getElem?_eq_getElem hlt)]; rfl)
      (fun j _ => hO1.free (.head _) _) h1
  have H := Lib.hid hO2
  have C1 := Lib.hid hcp1
  have C2 := Lib.hid hcp2
  have hi0 : (i : Int) < (n : Int) := by omega
  have hi1 : (i : Int) ≤ (n : Int) + 1 := by omega
  have htn : ((i : Int) + 1).toNat = i + 1 := by omega

  have hd : ((i : Int) == (n : Int)) = false := by simp; omega
  have hb2 : ¬ (cap = i + 1) := by omega
  have hb4 : ¬ (cap = i) := by omega
  clear hO hO1 hO2 hcp1 hcp2 hW1 hdl hxc hxl hsz hi hz hz1 hz2 hsize
  go_enter Try.func120, Try.ntmps120
  go_wp2_with (simp only [hov])
  clear hov
  have hw1 : IntKind.i64.wrap ((i : Int) + 1) = (i : Int) + 1 := by rw [IntKind.wrap_i64]; omega
  have hb1 : (0 : Int) ≤ (i : Int) + 1 := by omega
  have hb3 : (i : Int) ≤ (n : Int) := by omega
  go_region_law (refine step_copy_runI rfl _ _ 32 32 rfl (.slice (some ⟨r, o + (i + 1) * 2, none⟩) (n - i) (cap - (i + 1))) (.slice (some ⟨r, o + i * 2, none⟩) (n + 1 - i) (cap - i)) (by simp [Act.eval, Act.put]) (by simp [Act.eval, Act.put]) (C1.out 3 (cap - (i + 1)) (cap - i)) ?_)
  go_wp2_with (refine wpList_copy_runI _ rfl (.tmp 80) (.tmp 81) 32 32 rfl (.slice (some ⟨r, o + i * 2, none⟩) (n + 1 - i) (cap - i)) (.slice (some ⟨vb, 0, none⟩) 1 1) rfl rfl (C2.out 3 (cap - i)) ?_)
  go_ret
  exact ⟨rfl, H.out⟩

set_option maxRecDepth 100000 in
theorem InsItem_grow (r o n cap i vb : Nat) (c : Array Value) (xs vs : List Value) (F : List Chunk) (W w : World) (hin : i < n) (hnc : n ≤ cap) (hroom : cap < n + 1)
    (hxl : xs.length = n * 2) (hxc : ∀ j, j < n * 2 → c[o + j]? = xs[j]?) (h1x : ∀ u ∈ xs, u.oneCell' = true)
    (hv : vs.length = 2) (h1 : ∀ u ∈ vs, u.oneCell' = true) (hb : (n + 1) * 16 ≤ 140737488355328)
    (hO : Own W w ((r, .cells c 35 (0, 0)) :: (vb, .cells vs.toArray 35 (0, 0)) :: F)) :
    Calls Try.prog 120 #[.slice (some ⟨r, o, none⟩) n cap, .int .i64 (i : Int), .slice (some ⟨vb, 0, none⟩) 1 1] w
      (RetRow 35 2 (n + 1) (xs.take (i * 2) ++ vs ++ xs.drop (i * 2)) W F) := by
  obtain ⟨i0, hi, hz, hz1, hz2⟩ := info_parts Try.infoItem
  have hsize : (Try.prog.info? 35).map (·.size) = some 2 := by rw [hi]; simp [hz1]
  have hdl : (xs.drop (i * 2)).length = (n - i) * 2 := by rw [List.length_drop, hxl]; omega
  have htl : (xs.take (i * 2)).length = i * 2 := by simp only [List.length_take, hxl]; omega
  have hcap : cap = n := by omega
  subst hcap
  have hold : (Builtin.firstCells i0.size i (.slice (some ⟨r, o, none⟩) i cap)).run Try.prog w.drew = .ok (xs.take (i * 2)).toArray w.drew := by
    rw [hz1]
    exact run_firstCells_some w.drew 2 i ⟨r, o, none⟩ i cap (xs.take (i * 2)) (by omega) (fun j v hj => by
      have hj' : j < i * 2 := by rw [← htl]; exact (List.getElem?_eq_some_iff.1 hj).1
      rw [List.getElem?_take_of_lt hj'] at hj
      rw [Addr.add_lit]
      exact hO.drew.cell (i := o + j) (.head _) (by rw [hxc _ (by omega)]; exact hj))
  have hap := fun ty => Lib.run_append_grow_zeros w 32 3 ty 35 i0 _ .i64 .i64 Try.underlying32 Try.underlying3 hi hz (some ⟨r, o, none⟩) i cap (xs.take (i * 2)) hold (cap + 1 - i) (by omega) (by omega) (by omega) (by omega)
    (by rw [hz2]; omega) (by rw [hz2, show i + (cap + 1 - i) = cap + 1 by omega]; exact growslice_fits (by omega) hb)
  rw [show i + (cap + 1 - i) = cap + 1 by omega] at hap
  have hG := grownCap_le (w := w) (old := cap) (e := 35) (need := cap + 1) (by unfold maxLen; omega)
  generalize grownCap w (cap + 1) cap 35 = G at hap hG
  obtain ⟨hG1, hG2⟩ := hG
  obtain ⟨C1, hC1⟩ : ∃ C1, C1 = (xs.take (i * 2)).toArray ++ Builtin.zeroCells (Value.agg #[.int .i64 0, .int .u64 0]).cells (cap + 1 - i) ++ Builtin.zeroCells (Value.agg #[.int .i64 0, .int .u64 0]).cells (G - (cap + 1)) := ⟨_, rfl⟩
  rw [← hC1] at hap
  have hcs : C1.size = G * 2 := by
    rw [hC1]
    simp only [Array.size_append, List.size_toArray, zeroCells_size, htl]
    show i * 2 + (cap + 1 - i) * 2 + (G - (cap + 1)) * 2 = G * 2
    omega
  have hct : ∀ j, j < i * 2 → C1[j]? = xs[j]? := fun j hj => by
    rw [hC1, Array.append_assoc, Array.getElem?_append_left (by simp only [List.size_toArray]; omega)]
    rw [List.getElem?_toArray, List.getElem?_take_of_lt hj]
  obtain ⟨nb, hnb⟩ : ∃ nb, nb = w.heap.size := ⟨_, rfl⟩
  obtain ⟨W1, hW1⟩ : ∃ W1, W1 = w.drew.alloc (.cells C1 35) := ⟨_, rfl⟩
  rw [← hnb, ← hW1] at hap
  have hO1 : Own W W1 ((nb, .cells C1 35 (0, 0)) :: (r, .cells c 35 (0, 0)) :: (vb, .cells vs.toArray 35 (0, 0)) :: F) := by
    rw [hW1, hnb]; exact hO.drew.alloc _
  clear hC1 hW1 hnb hold hi hz hz1 hz2
  have hO2 := hO1.setCells (A := []) vs _ _ (i * 2)
  have hcp1 : ∀ ty dc, (Builtin.copy_ #[32, 32] ty #[.slice (some ⟨nb, i * 2, none⟩) (cap + 1 - i) dc, .slice (some ⟨vb, 0, none⟩) 1 1]).run Try.prog W1 =
      .ok (goInt (Nat.min 1 (cap + 1 - i))) (W1.setCells nb (i * 2) vs) := fun ty dc =>
    run_copy_cellsK W1 _ _ ty 35 2 nb (i * 2) (cap + 1 - i) dc ⟨vb, 0, none⟩ 1 1 vs Try.underlying32 hsize
      (by rw [hv]; simp only [Nat.min_def]; split <;> omega)
      (fun j v hj => by rw [Addr.add_lit]; exact hO1.cell (i := 0 + j) (.tail _ (.tail _ (.head _))) (by simpa using hj))
      (fun j hj => by
        have hlt : i * 2 + j < C1.size := by omega
        rw [hO1.cell (i := i * 2 + j) (.head _) (Array.getElem?_eq_getElem hlt)]; rfl)
      (fun j _ => hO1.free (.head _) _) h1
  obtain ⟨W2, hW2⟩ : ∃ W2, W2 = W1.setCells nb (i * 2) vs := ⟨_, rfl⟩
  rw [← hW2] at hcp1 hO2
  clear hW2
  have hO3 := hO2.drew.setCells (A := []) (xs.drop (i * 2)) _ _ ((i + 1) * 2)
  have hcp2 : ∀ ty dc sc, (Builtin.copy_ #[32, 32] ty #[.slice (some ⟨nb, (i + 1) * 2, none⟩) (cap - i) dc, .slice (some ⟨r, o + i * 2, none⟩) (cap - i) sc]).run Try.prog W2.drew =
      .ok (goInt (Nat.min (cap - i) (cap - i))) (W2.drew.setCells nb ((i + 1) * 2) (xs.drop (i * 2))) := fun ty dc sc =>
    run_copy_cellsK W2.drew _ _ ty 35 2 nb ((i + 1) * 2) (cap - i) dc ⟨r, o + i * 2, none⟩ (cap - i) sc (xs.drop (i * 2)) Try.underlying32 hsize
      (by rw [hdl]; simp only [Nat.min_def]; split <;> omega)
      (fun j v hj => by
        rw [List.getElem?_drop] at hj
        have hlt : i * 2 + j < cap * 2 := by rw [← hxl]; exact (List.getElem?_eq_some_iff.1 hj).1
        rw [Addr.add_lit, Nat.add_assoc]
        exact hO2.drew.cell (.tail _ (.head _)) (by rw [hxc _ hlt]; exact hj))
      (fun j hj => by
        have hlt : (i + 1) * 2 + j < (putA C1 (i * 2) vs).size := by rw [putA_size]; omega
        rw [hO2.drew.cell (i := (i + 1) * 2 + j) (.head _) (Array.getElem?_eq_getElem hlt)]; rfl)
      (fun j _ => hO2.drew.free (.head _) _) (fun v hv => h1x v (List.mem_of_mem_drop hv))
  have hfin : RowC 35 2 (.slice (some ⟨nb, 0, none⟩) (cap + 1) G) (cap + 1) (xs.take (i * 2) ++ vs ++ xs.drop (i * 2)) [(nb, .cells (putA (putA C1 (i * 2) vs) ((i + 1) * 2) (xs.drop (i * 2))) 35 (0, 0))] := by
    refine .inr ⟨nb, 0, G, _, rfl, hG1, hG2, by rw [putA_size, putA_size, hcs]; omega, by simp only [List.length_append, htl, hv, hdl]; omega, ?_, rfl⟩
    intro j hj
    rw [Nat.zero_add]
    by_cases hj1 : j < i * 2
    · rw [putA_out _ _ _ _ (by omega), putA_out _ _ _ _ (by omega), hct j hj1, List.append_assoc, List.getElem?_append_left (by omega), List.getElem?_take_of_lt hj1]
    · by_cases hj2 : j < (i + 1) * 2
      · rw [putA_out _ _ _ _ (by omega), List.getElem?_append_left (by simp only [List.length_append, htl, hv]; omega), List.getElem?_append_right (by omega), htl, show j = i * 2 + (j - i * 2) by omega,
          putA_in _ _ _ _ (by omega) (by omega)]
        congr 1; omega
      · rw [show j = (i + 1) * 2 + (j - (i + 1) * 2) by omega, putA_in _ _ _ _ (by rw [putA_size, hcs, hdl]; omega) (by omega), List.getElem?_append_right (by simp only [List.length_append, htl, hv]; omega)]
        congr 1
        simp only [List.length_append, htl, hv]; omega
  have H := Lib.hid hO3
  have HF := Lib.hid hfin
  have HA := Lib.hid hap
  have C1' := Lib.hid hcp1
  have C2' := Lib.hid hcp2
  have hi0 : (i : Int) < (cap : Int) := by omega
  have hi1 : (i : Int) ≤ (cap : Int) + 1 := by omega
  have hn : (cap : Int) ≤ 140737488355328 := by omega
  have hd : ((i : Int) == (cap : Int)) = false := by simp; omega
  have hb2 : ¬ (cap = i) := by omega
  have hb4 : ¬ (G = i) := by omega
  have hb5 : ¬ (G = i + 1) := by omega
  clear hO hO1 hO2 hO3 hcp1 hcp2 hdl hxc hxl hct hcs htl hfin hap hsize hG2 h1 h1x hv hb
  go_enter Try.func120, Try.ntmps120
  have hx39 : (Value.int .i64 ((cap : Int) + 1 - (i : Int))) = Value.int .i64 ((cap + 1 - i : Nat) : Int) := by congr 1; omega
  have HX := Lib.hid hx39
  clear hx39
  go_wp2_with (first | (at_builtin; refine Lib.wpList_append_run _ rfl _ _ _ _ rfl (.slice (some ⟨r, o, none⟩) i cap) (.int .i64 ((cap + 1 - i : Nat) : Int)) rfl HX.out _ _ (HA.out _) ?_) | (refine wpList_copy_runI _ rfl (.tmp 43) (.tmp 44) 32 32 rfl (.slice (some ⟨nb, i * 2, none⟩) (cap + 1 - i) (G - i)) (.slice (some ⟨vb, 0, none⟩) 1 1) rfl rfl (C1'.out 3 (G - i)) ?_))
  have hw1 : IntKind.i64.wrap ((i : Int) + 1) = (i : Int) + 1 := by rw [IntKind.wrap_i64]; omega
  have hb1 : (0 : Int) ≤ (i : Int) + 1 := by omega
  have hb3 : (i : Int) ≤ (cap : Int) := by omega
  have htn : ((i : Int) + 1).toNat = i + 1 := by omega
  go_region_law (refine step_copy_runI rfl _ _ 32 32 rfl (.slice (some ⟨nb, (i + 1) * 2, none⟩) (cap - i) (G - (i + 1))) (.slice (some ⟨r, o + i * 2, none⟩) (cap - i) (cap - i)) (by simp [Act.eval, Act.put]) (by simp [Act.eval, Act.put]) (C2'.out 3 (G - (i + 1)) (cap - i)) ?_)
  go_wp2
  go_ret
  exact ⟨_, _, rfl, HF.out, H.out.le (fun a => by simp only [cnt_append, cnt_cons, cnt_nil]; omega)⟩

theorem InsItem_any (v : Value) (n i vb : Nat) (xs vs : List Value) (L F : List Chunk) (W w : World) (hin : i ≤ n) (hR : RowC 35 2 v n xs L) (hv : vs.length = 2)
    (h1x : ∀ u ∈ xs, u.oneCell' = true) (h1 : ∀ u ∈ vs, u.oneCell' = true) (hO : Own W w (L ++ (vb, .cells vs.toArray 35 (0, 0)) :: F)) (hb : (n + 1) * 16 ≤ 140737488355328) :
    Calls Try.prog 120 #[v, .int .i64 (i : Int), .slice (some ⟨vb, 0, none⟩) 1 1] w
      (RetRow 35 2 (n + 1) (xs.take (i * 2) ++ vs ++ xs.drop (i * 2)) W F) := by
  by_cases hie : i = n
  · subst hie
    rw [List.take_of_length_le (by have := hR.len; omega), List.drop_of_length_le (by have := hR.len; omega), List.append_nil]
    exact InsItem_end v i vb xs vs L F W w hR hv h1 hO hb
  · rcases hR with ⟨_, h, _, _⟩ | ⟨r, o, cap, c, rfl, h2, h3, h4, h5, h6, rfl⟩
    · omega
    · by_cases hroom : n + 1 ≤ cap
      · refine (InsItem_shift r o n cap i vb c xs vs F W w (by omega) hroom (by unfold maxLen at h3; omega) h4 h5 h6 h1x hv h1 hO).mono ?_
        rintro e w' ⟨rfl, hO'⟩
        have htl : (xs.take (i * 2)).length = i * 2 := by simp only [List.length_take, h5]; omega
        have hdl : (xs.drop (i * 2)).length = (n - i) * 2 := by rw [List.length_drop, h5]; omega
        refine ⟨_, _, rfl, .inr ⟨r, o, cap, putA (putA c (o + (i + 1) * 2) (xs.drop (i * 2))) (o + i * 2) vs, rfl, hroom, h3, by rw [putA_size, putA_size]; exact h4, by simp only [List.length_append, htl, hv, hdl]; omega, ?_, rfl⟩, hO'.le (fun a => by simp only [cnt_append, cnt_cons, cnt_nil]; omega)⟩
        intro j hj
        by_cases hj1 : j < i * 2
        · rw [putA_out _ _ _ _ (by omega), putA_out _ _ _ _ (by omega), h6 j (by omega), List.append_assoc, List.getElem?_append_left (by omega), List.getElem?_take_of_lt hj1]
        · by_cases hj2 : j < (i + 1) * 2
          · rw [List.getElem?_append_left (by simp only [List.length_append, htl, hv]; omega), List.getElem?_append_right (by omega), htl, show o + j = o + i * 2 + (j - i * 2) by omega,
              putA_in vs _ (o + i * 2) _ (by rw [putA_size]; omega) (by omega)]
          · rw [putA_out vs _ _ _ (by omega), show o + j = o + (i + 1) * 2 + (j - (i + 1) * 2) by omega, putA_in (xs.drop (i * 2)) c (o + (i + 1) * 2) _ (by omega) (by omega), List.getElem?_append_right (by simp only [List.length_append, htl, hv]; omega)]
            have hla : (xs.take (i * 2) ++ vs).length = i * 2 + 2 := by simp only [List.length_append, htl, hv]
            congr 1; omega
      · exact InsItem_grow r o n cap i vb c xs vs F W w (by omega) h2 (by omega) h5 h6 h1x hv h1 hb hO

theorem Try.infoCell : (Try.prog.info? 77).map (fun i => (i.zero, i.size, i.bytes)) = some (some (.pointer none), 1, 8) := by kernel_rfl

set_option maxRecDepth 100000 in
theorem InsCell_end (v : Value) (n vb : Nat) (xs vs : List Value) (L F : List Chunk) (W w : World) (hR : RowC 77 1 v n xs L) (hv : vs.length = 1) (h1 : ∀ u ∈ vs, u.oneCell' = true)
    (hO : Own W w (L ++ (vb, .cells vs.toArray 77 (0, 0)) :: F)) (hb : (n + 1) * 8 ≤ 140737488355328) :
    Calls Try.prog 126 #[v, .int .i64 (n : Int), .slice (some ⟨vb, 0, none⟩) 1 1] w
      (RetRow 77 1 (n + 1) (xs ++ vs) W F) := by
  obtain ⟨i0, hi, hz, hz1, hz2⟩ := info_parts Try.infoCell
  have hsrc : Src Try.prog 1 92 (.slice (some ⟨vb, 0, none⟩) 1 1) 1 vs w :=
    Src.ofSlice w Try.underlying92 ⟨vb, 0, none⟩ 1 1 vs (by omega) (fun j u hj => by rw [Addr.add_lit]; exact hO.cell (i := 0 + j) (List.mem_append_right _ (.head _)) (by simpa using hj)) h1
  have hm : n + 1 ≤ maxLen := by unfold maxLen; omega
  have hrun := fun ty => run_append_row (P := Try.prog) 92 92 ty 77 i0 _ 1 8 Try.underlying92 hi hz hz1 hz2 rfl hR hO hsrc hm hb
  obtain ⟨v', w', L', hrun', hR', hO'⟩ := hrun 92
  clear hrun
  have hT := hR.two
  have H := Lib.hid hO'
  have HR := Lib.hid hR'
  have HN := Lib.hid hrun'
  have hn : (n : Int) ≤ 9223372036854775807 := by unfold maxLen at hm; omega
  clear hO hO' hR hR' hrun' hsrc
  rcases hT with ⟨rfl, rfl, rfl, rfl⟩ | ⟨r, o, cap, rfl, hnc, hcm⟩
  · go_enter Try.func126, Try.ntmps126
    go_wp2_with (at_builtin; go_loud (refine Lib.wpList_append_run _ rfl _ _ _ _ rfl _ _ rfl rfl _ _ HN.out ?_))
    go_ret
    exact ⟨v', L', rfl, HR.out, H.out.le (fun a => by simp only [cnt_append, cnt_cons]; omega)⟩
  · have hcm' : cap ≤ 9223372036854775807 := by unfold maxLen at hcm; omega
    clear hcm
    by_cases hcn : cap = n
    · subst hcn
      go_enter Try.func126, Try.ntmps126
      go_wp2_with (at_builtin; go_loud (refine Lib.wpList_append_run _ rfl _ _ _ _ rfl _ _ rfl rfl _ _ HN.out ?_))
      go_ret
      exact ⟨v', L', rfl, HR.out, H.out.le (fun a => by simp only [cnt_append, cnt_cons]; omega)⟩
    · go_enter Try.func126, Try.ntmps126
      go_wp2_with (at_builtin; go_loud (refine Lib.wpList_append_run _ rfl _ _ _ _ rfl _ _ rfl rfl _ _ HN.out ?_))
      go_ret
      exact ⟨v', L', rfl, HR.out, H.out.le (fun a => by simp only [cnt_append, cnt_cons]; omega)⟩

theorem zCell (w : World) : (Go.sizeOf 77).run Try.prog w = .ok 1 w := by kernel_rfl

set_option maxRecDepth 100000 in
theorem InsCell_shift (r o n cap i vb : Nat) (c : Array Value) (xs vs : List Value) (F : List Chunk) (W w : World) (hin : i < n) (hroom : n + 1 ≤ cap) (hcap : cap ≤ 9223372036854775807)
    (hsz : o + cap * 1 ≤ c.size) (hxl : xs.length = n * 1) (hxc : ∀ j, j < n * 1 → c[o + j]? = xs[j]?) (h1x : ∀ u ∈ xs, u.oneCell' = true)
    (hv : vs.length = 1) (h1 : ∀ u ∈ vs, u.oneCell' = true)
    (hO : Own W w ((r, .cells c 77 (0, 0)) :: (vb, .cells vs.toArray 77 (0, 0)) :: F)) :
    Calls Try.prog 126 #[.slice (some ⟨r, o, none⟩) n cap, .int .i64 (i : Int), .slice (some ⟨vb, 0, none⟩) 1 1] w
      fun e w' => e = .returned (.slice (some ⟨r, o, none⟩) (n + 1) cap) ∧ Own W w' ((r, .cells (putA (putA c (o + (i + 1)) (xs.drop (i))) (o + i) vs) 77 (0, 0)) :: (vb, .cells vs.toArray 77 (0, 0)) :: F) := by
  obtain ⟨i0, hi, hz, hz1, hz2⟩ := info_parts Try.infoCell
  have hsize : (Try.prog.info? 77).map (·.size) = some 1 := by rw [hi]; simp [hz1]
  have hvb : vb ≠ r := fun e => hO.ne_mem (.head _) e.symm
  have hdl : (xs.drop (i)).length = (n - i) * 1 := by rw [List.length_drop, hxl]; omega
  have hov : ∀ lb cb oo, (callFunc 141 #[.slice (some ⟨vb, 0, none⟩) 1 1, .slice (some ⟨r, oo, none⟩) lb cb]).run Try.prog w = .ok (.value (.bool false)) w := fun lb cb oo => by
    rw [run_callFunc_extern Try.func141 (by kernel_rfl) (by kernel_rfl) (by kernel_rfl) (e := Extern.SlicesOverlaps.overlaps #[92, 92] #[4]) (by kernel_rfl),
      run_overlaps_own 92 4 77 Try.underlying92 1 zCell vb r 0 oo 1 1 lb cb hvb _ _ (hO.get (.tail _ (.head _))) (hO.get (.head _)) (by omega)]
    rfl
  have hO1 := (hO.drew).setCells (A := []) (xs.drop (i)) _ _ (o + (i + 1))
  have hO2 := hO1.setCells (A := []) vs _ _ (o + i)
  have hcp1 : ∀ ty dc sc, (Builtin.copy_ #[92, 92] ty #[.slice (some ⟨r, o + (i + 1), none⟩) (n - i) dc, .slice (some ⟨r, o + i, none⟩) (n + 1 - i) sc]).run Try.prog w.drew =
      .ok (goInt (Nat.min (n + 1 - i) (n - i))) (w.drew.setCells r (o + (i + 1)) (xs.drop (i))) := fun ty dc sc =>
    run_copy_cellsK w.drew _ _ ty 77 1 r (o + (i + 1)) (n - i) dc ⟨r, o + i, none⟩ (n + 1 - i) sc (xs.drop (i)) Try.underlying92 hsize
      (by rw [hdl]; simp only [Nat.min_def]; split <;> omega)
      (fun j v hj => by
        rw [List.getElem?_drop] at hj
        have hlt : i + j < n * 1 := by rw [← hxl]; exact (List.getElem?_eq_some_iff.1 hj).1
        rw [Addr.add_lit, Nat.add_assoc]
        exact hO.drew.cell (.head _) (by rw [hxc _ hlt]; exact hj))
      (fun j hj => by
        have hlt : o + (i + 1) + j < c.size := by omega
        rw [hO.drew.cell (i := o + (i + 1) + j) (.head _) (Array.getElem?_eq_getElem hlt)]; rfl)
      (fun j _ => hO.drew.free (.head _) _) (fun v hv => h1x v (List.mem_of_mem_drop hv))
  obtain ⟨W1, hW1⟩ : ∃ W1, W1 = w.drew.setCells r (o + (i + 1)) (xs.drop (i)) := ⟨_, rfl⟩
  rw [← hW1] at hcp1 hO1 hO2
  have hcp2 : ∀ ty dc, (Builtin.copy_ #[92, 92] ty #[.slice (some ⟨r, o + i, none⟩) (n + 1 - i) dc, .slice (some ⟨vb, 0, none⟩) 1 1]).run Try.prog W1 =
      .ok (goInt (Nat.min 1 (n + 1 - i))) (W1.setCells r (o + i) vs) := fun ty dc =>
    run_copy_cellsK W1 _ _ ty 77 1 r (o + i) (n + 1 - i) dc ⟨vb, 0, none⟩ 1 1 vs Try.underlying92 hsize
      (by rw [hv]; simp only [Nat.min_def]; split <;> omega)
      (fun j v hj => by rw [Addr.add_lit]; exact hO1.cell (i := 0 + j) (.tail _ (.head _)) (by simpa using hj))
      (fun j hj => by
        have hlt : o + i + j < (putA c (o + (i + 1)) (xs.drop (i))).size := by rw [putA_size]; omega
        rw [hO1.cell (i := o + i + j) (.head _) (Array.getElem?_eq_getElem hlt)]; rfl)
      (fun j _ => hO1.free (.head _) _) h1
  have H := Lib.hid hO2
  have C1 := Lib.hid hcp1
  have C2 := Lib.hid hcp2
  have hi0 : (i : Int) < (n : Int) := by omega
  have hi1 : (i : Int) ≤ (n : Int) + 1 := by omega
  have htn : ((i : Int) + 1).toNat = i + 1 := by omega

  have hd : ((i : Int) == (n : Int)) = false := by simp; omega
  have hb2 : ¬ (cap = i + 1) := by omega
  have hb4 : ¬ (cap = i) := by omega
  clear hO hO1 hO2 hcp1 hcp2 hW1 hdl hxc hxl hsz hi hz hz1 hz2 hsize
  go_enter Try.func126, Try.ntmps126
  go_wp2_with (simp only [hov])
  clear hov
  have hw1 : IntKind.i64.wrap ((i : Int) + 1) = (i : Int) + 1 := by rw [IntKind.wrap_i64]; omega
  have hb1 : (0 : Int) ≤ (i : Int) + 1 := by omega
  have hb3 : (i : Int) ≤ (n : Int) := by omega
  go_region_law (refine step_copy_runI rfl _ _ 92 92 rfl (.slice (some ⟨r, o + (i + 1), none⟩) (n - i) (cap - (i + 1))) (.slice (some ⟨r, o + i, none⟩) (n + 1 - i) (cap - i)) (by simp [Act.eval, Act.put]) (by simp [Act.eval, Act.put]) (C1.out 3 (cap - (i + 1)) (cap - i)) ?_)
  go_wp2_with (refine wpList_copy_runI _ rfl (.tmp 80) (.tmp 81) 92 92 rfl (.slice (some ⟨r, o + i, none⟩) (n + 1 - i) (cap - i)) (.slice (some ⟨vb, 0, none⟩) 1 1) rfl rfl (C2.out 3 (cap - i)) ?_)
  go_ret
  exact ⟨rfl, H.out⟩

set_option maxRecDepth 100000 in
theorem InsCell_grow (r o n cap i vb : Nat) (c : Array Value) (xs vs : List Value) (F : List Chunk) (W w : World) (hin : i < n) (hnc : n ≤ cap) (hroom : cap < n + 1)
    (hxl : xs.length = n * 1) (hxc : ∀ j, j < n * 1 → c[o + j]? = xs[j]?) (h1x : ∀ u ∈ xs, u.oneCell' = true)
    (hv : vs.length = 1) (h1 : ∀ u ∈ vs, u.oneCell' = true) (hb : (n + 1) * 8 ≤ 140737488355328)
    (hO : Own W w ((r, .cells c 77 (0, 0)) :: (vb, .cells vs.toArray 77 (0, 0)) :: F)) :
    Calls Try.prog 126 #[.slice (some ⟨r, o, none⟩) n cap, .int .i64 (i : Int), .slice (some ⟨vb, 0, none⟩) 1 1] w
      (RetRow 77 1 (n + 1) (xs.take (i) ++ vs ++ xs.drop (i)) W F) := by
  obtain ⟨i0, hi, hz, hz1, hz2⟩ := info_parts Try.infoCell
  have hsize : (Try.prog.info? 77).map (·.size) = some 1 := by rw [hi]; simp [hz1]
  have hdl : (xs.drop (i)).length = (n - i) * 1 := by rw [List.length_drop, hxl]; omega
  have htl : (xs.take (i)).length = i := by simp only [List.length_take, hxl]; omega
  have hcap : cap = n := by omega
  subst hcap
  have hold : (Builtin.firstCells i0.size i (.slice (some ⟨r, o, none⟩) i cap)).run Try.prog w.drew = .ok (xs.take (i)).toArray w.drew := by
    rw [hz1]
    exact run_firstCells_some w.drew 1 i ⟨r, o, none⟩ i cap (xs.take (i)) (by omega) (fun j v hj => by
      have hj' : j < i := by rw [← htl]; exact (List.getElem?_eq_some_iff.1 hj).1
      rw [List.getElem?_take_of_lt hj'] at hj
      rw [Addr.add_lit]
      exact hO.drew.cell (i := o + j) (.head _) (by rw [hxc _ (by omega)]; exact hj))
  have hap := fun ty => Lib.run_append_grow_zeros w 92 3 ty 77 i0 _ .i64 .i64 Try.underlying92 Try.underlying3 hi hz (some ⟨r, o, none⟩) i cap (xs.take (i)) hold (cap + 1 - i) (by omega) (by omega) (by omega) (by omega)
    (by rw [hz2]; omega) (by rw [hz2, show i + (cap + 1 - i) = cap + 1 by omega]; exact growslice_fits (by omega) hb)
  rw [show i + (cap + 1 - i) = cap + 1 by omega] at hap
  have hG := grownCap_le (w := w) (old := cap) (e := 77) (need := cap + 1) (by unfold maxLen; omega)
  generalize grownCap w (cap + 1) cap 77 = G at hap hG
  obtain ⟨hG1, hG2⟩ := hG
  obtain ⟨C1, hC1⟩ : ∃ C1, C1 = (xs.take (i)).toArray ++ Builtin.zeroCells (Value.pointer none).cells (cap + 1 - i) ++ Builtin.zeroCells (Value.pointer none).cells (G - (cap + 1)) := ⟨_, rfl⟩
  rw [← hC1] at hap
  have hcs : C1.size = G * 1 := by
    rw [hC1]
    simp only [Array.size_append, List.size_toArray, zeroCells_size, htl]
    show i + (cap + 1 - i) * 1 + (G - (cap + 1)) * 1 = G * 1
    omega
  have hct : ∀ j, j < i → C1[j]? = xs[j]? := fun j hj => by
    rw [hC1, Array.append_assoc, Array.getElem?_append_left (by simp only [List.size_toArray]; omega)]
    rw [List.getElem?_toArray, List.getElem?_take_of_lt hj]
  obtain ⟨nb, hnb⟩ : ∃ nb, nb = w.heap.size := ⟨_, rfl⟩
  obtain ⟨W1, hW1⟩ : ∃ W1, W1 = w.drew.alloc (.cells C1 77) := ⟨_, rfl⟩
  rw [← hnb, ← hW1] at hap
  have hO1 : Own W W1 ((nb, .cells C1 77 (0, 0)) :: (r, .cells c 77 (0, 0)) :: (vb, .cells vs.toArray 77 (0, 0)) :: F) := by
    rw [hW1, hnb]; exact hO.drew.alloc _
  clear hC1 hW1 hnb hold hi hz hz1 hz2
  have hO2 := hO1.setCells (A := []) vs _ _ (i)
  have hcp1 : ∀ ty dc, (Builtin.copy_ #[92, 92] ty #[.slice (some ⟨nb, i, none⟩) (cap + 1 - i) dc, .slice (some ⟨vb, 0, none⟩) 1 1]).run Try.prog W1 =
      .ok (goInt (Nat.min 1 (cap + 1 - i))) (W1.setCells nb (i) vs) := fun ty dc =>
    run_copy_cellsK W1 _ _ ty 77 1 nb (i) (cap + 1 - i) dc ⟨vb, 0, none⟩ 1 1 vs Try.underlying92 hsize
      (by rw [hv]; simp only [Nat.min_def]; split <;> omega)
      (fun j v hj => by rw [Addr.add_lit]; exact hO1.cell (i := 0 + j) (.tail _ (.tail _ (.head _))) (by simpa using hj))
      (fun j hj => by
        have hlt : i + j < C1.size := by omega
        rw [hO1.cell (i := i + j) (.head _) (Array.getElem?_eq_getElem hlt)]; rfl)
      (fun j _ => hO1.free (.head _) _) h1
  obtain ⟨W2, hW2⟩ : ∃ W2, W2 = W1.setCells nb (i) vs := ⟨_, rfl⟩
  rw [← hW2] at hcp1 hO2
  clear hW2
  have hO3 := hO2.drew.setCells (A := []) (xs.drop (i)) _ _ ((i + 1))
  have hcp2 : ∀ ty dc sc, (Builtin.copy_ #[92, 92] ty #[.slice (some ⟨nb, (i + 1), none⟩) (cap - i) dc, .slice (some ⟨r, o + i, none⟩) (cap - i) sc]).run Try.prog W2.drew =
      .ok (goInt (Nat.min (cap - i) (cap - i))) (W2.drew.setCells nb ((i + 1)) (xs.drop (i))) := fun ty dc sc =>
    run_copy_cellsK W2.drew _ _ ty 77 1 nb ((i + 1)) (cap - i) dc ⟨r, o + i, none⟩ (cap - i) sc (xs.drop (i)) Try.underlying92 hsize
      (by rw [hdl]; simp only [Nat.min_def]; split <;> omega)
      (fun j v hj => by
        rw [List.getElem?_drop] at hj
        have hlt : i + j < cap * 1 := by rw [← hxl]; exact (List.getElem?_eq_some_iff.1 hj).1
        rw [Addr.add_lit, Nat.add_assoc]
        exact hO2.drew.cell (.tail _ (.head _)) (by rw [hxc _ hlt]; exact hj))
      (fun j hj => by
        have hlt : (i + 1) + j < (putA C1 (i) vs).size := by rw [putA_size]; omega
        rw [hO2.drew.cell (i := (i + 1) + j) (.head _) (Array.getElem?_eq_getElem hlt)]; rfl)
      (fun j _ => hO2.drew.free (.head _) _) (fun v hv => h1x v (List.mem_of_mem_drop hv))
  have hfin : RowC 77 1 (.slice (some ⟨nb, 0, none⟩) (cap + 1) G) (cap + 1) (xs.take (i) ++ vs ++ xs.drop (i)) [(nb, .cells (putA (putA C1 (i) vs) ((i + 1)) (xs.drop (i))) 77 (0, 0))] := by
    refine .inr ⟨nb, 0, G, _, rfl, hG1, hG2, by rw [putA_size, putA_size, hcs]; omega, by simp only [List.length_append, htl, hv, hdl]; omega, ?_, rfl⟩
    intro j hj
    rw [Nat.zero_add]
    by_cases hj1 : j < i
    · rw [putA_out _ _ _ _ (by omega), putA_out _ _ _ _ (by omega), hct j hj1, List.append_assoc, List.getElem?_append_left (by omega), List.getElem?_take_of_lt hj1]
    · by_cases hj2 : j < (i + 1)
      · rw [putA_out _ _ _ _ (by omega), List.getElem?_append_left (by simp only [List.length_append, htl, hv]; omega), List.getElem?_append_right (by omega), htl, show j = i + (j - i) by omega,
          putA_in _ _ _ _ (by omega) (by omega)]
        congr 1; omega
      · rw [show j = (i + 1) + (j - (i + 1)) by omega, putA_in _ _ _ _ (by rw [putA_size, hcs, hdl]; omega) (by omega), List.getElem?_append_right (by simp only [List.length_append, htl, hv]; omega)]
        congr 1
        simp only [List.length_append, htl, hv]; omega
  have H := Lib.hid hO3
  have HF := Lib.hid hfin
  have HA := Lib.hid hap
  have C1' := Lib.hid hcp1
  have C2' := Lib.hid hcp2
  have hi0 : (i : Int) < (cap : Int) := by omega
  have hi1 : (i : Int) ≤ (cap : Int) + 1 := by omega
  have hn : (cap : Int) ≤ 140737488355328 := by omega
  have hd : ((i : Int) == (cap : Int)) = false := by simp; omega
  have hb2 : ¬ (cap = i) := by omega
  have hb4 : ¬ (G = i) := by omega
  have hb5 : ¬ (G = i + 1) := by omega
  clear hO hO1 hO2 hO3 hcp1 hcp2 hdl hxc hxl hct hcs htl hfin hap hsize hG2 h1 h1x hv hb
  go_enter Try.func126, Try.ntmps126
  have hx39 : (Value.int .i64 ((cap : Int) + 1 - (i : Int))) = Value.int .i64 ((cap + 1 - i : Nat) : Int) := by congr 1; omega
  have HX := Lib.hid hx39
  clear hx39
  go_wp2_with (first | (at_builtin; refine Lib.wpList_append_run _ rfl _ _ _ _ rfl (.slice (some ⟨r, o, none⟩) i cap) (.int .i64 ((cap + 1 - i : Nat) : Int)) rfl HX.out _ _ (HA.out _) ?_) | (refine wpList_copy_runI _ rfl (.tmp 43) (.tmp 44) 92 92 rfl (.slice (some ⟨nb, i, none⟩) (cap + 1 - i) (G - i)) (.slice (some ⟨vb, 0, none⟩) 1 1) rfl rfl (C1'.out 3 (G - i)) ?_))
  have hw1 : IntKind.i64.wrap ((i : Int) + 1) = (i : Int) + 1 := by rw [IntKind.wrap_i64]; omega
  have hb1 : (0 : Int) ≤ (i : Int) + 1 := by omega
  have hb3 : (i : Int) ≤ (cap : Int) := by omega
  have htn : ((i : Int) + 1).toNat = i + 1 := by omega
  go_region_law (refine step_copy_runI rfl _ _ 92 92 rfl (.slice (some ⟨nb, (i + 1), none⟩) (cap - i) (G - (i + 1))) (.slice (some ⟨r, o + i, none⟩) (cap - i) (cap - i)) (by simp [Act.eval, Act.put]) (by simp [Act.eval, Act.put]) (C2'.out 3 (G - (i + 1)) (cap - i)) ?_)
  go_wp2
  go_ret
  exact ⟨_, _, rfl, HF.out, H.out.le (fun a => by simp only [cnt_append, cnt_cons, cnt_nil]; omega)⟩

theorem InsCell_any (v : Value) (n i vb : Nat) (xs vs : List Value) (L F : List Chunk) (W w : World) (hin : i ≤ n) (hR : RowC 77 1 v n xs L) (hv : vs.length = 1)
    (h1x : ∀ u ∈ xs, u.oneCell' = true) (h1 : ∀ u ∈ vs, u.oneCell' = true) (hO : Own W w (L ++ (vb, .cells vs.toArray 77 (0, 0)) :: F)) (hb : (n + 1) * 8 ≤ 140737488355328) :
    Calls Try.prog 126 #[v, .int .i64 (i : Int), .slice (some ⟨vb, 0, none⟩) 1 1] w
      (RetRow 77 1 (n + 1) (xs.take (i) ++ vs ++ xs.drop (i)) W F) := by
  by_cases hie : i = n
  · subst hie
    rw [List.take_of_length_le (by have := hR.len; omega), List.drop_of_length_le (by have := hR.len; omega), List.append_nil]
    exact InsCell_end v i vb xs vs L F W w hR hv h1 hO hb
  · rcases hR with ⟨_, h, _, _⟩ | ⟨r, o, cap, c, rfl, h2, h3, h4, h5, h6, rfl⟩
    · omega
    · by_cases hroom : n + 1 ≤ cap
      · refine (InsCell_shift r o n cap i vb c xs vs F W w (by omega) hroom (by unfold maxLen at h3; omega) h4 h5 h6 h1x hv h1 hO).mono ?_
        rintro e w' ⟨rfl, hO'⟩
        have htl : (xs.take (i)).length = i := by simp only [List.length_take, h5]; omega
        have hdl : (xs.drop (i)).length = (n - i) * 1 := by rw [List.length_drop, h5]; omega
        refine ⟨_, _, rfl, .inr ⟨r, o, cap, putA (putA c (o + (i + 1)) (xs.drop (i))) (o + i) vs, rfl, hroom, h3, by rw [putA_size, putA_size]; exact h4, by simp only [List.length_append, htl, hv, hdl]; omega, ?_, rfl⟩, hO'.le (fun a => by simp only [cnt_append, cnt_cons, cnt_nil]; omega)⟩
        intro j hj
        by_cases hj1 : j < i
        · rw [putA_out _ _ _ _ (by omega), putA_out _ _ _ _ (by omega), h6 j (by omega), List.append_assoc, List.getElem?_append_left (by omega), List.getElem?_take_of_lt hj1]
        · by_cases hj2 : j < (i + 1)
          · rw [List.getElem?_append_left (by simp only [List.length_append, htl, hv]; omega), List.getElem?_append_right (by omega), htl, show o + j = o + i + (j - i) by omega,
              putA_in vs _ (o + i) _ (by rw [putA_size]; omega) (by omega)]
          · rw [putA_out vs _ _ _ (by omega), show o + j = o + (i + 1) + (j - (i + 1)) by omega, putA_in (xs.drop (i)) c (o + (i + 1)) _ (by omega) (by omega), List.getElem?_append_right (by simp only [List.length_append, htl, hv]; omega)]
            have hla : (xs.take (i) ++ vs).length = i + 1 := by simp only [List.length_append, htl, hv]
            congr 1; omega
      · exact InsCell_grow r o n cap i vb c xs vs F W w (by omega) h2 (by omega) h5 h6 h1x hv h1 hb hO

end Go.Proofs.Ytbafepjmogigjaa
