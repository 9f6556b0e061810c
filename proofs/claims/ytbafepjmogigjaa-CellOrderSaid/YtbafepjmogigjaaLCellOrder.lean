/- The walk of CellOrder; PRINTED BY wip/gen/cellorder.py out of gen/cellorder.master. -/
import Derived.Test.YtbafepjmogigjaaLCell
namespace Go.Proofs.Ytbafepjmogigjaa
set_option linter.unusedSimpArgs false
set_option linter.unusedVariables false
open Go.RowKit

def lmin (l : List Int) : Int := l.foldl min 9223372036854775807
def lmax (l : List Int) : Int := l.foldl max (-9223372036854775808)
theorem lmin_snoc (l : List Int) (x : Int) : lmin (l ++ [x]) = min (lmin l) x := by simp [lmin]
theorem lmax_snoc (l : List Int) (x : Int) : lmax (l ++ [x]) = max (lmax l) x := by simp [lmax]

theorem foldl_min : ∀ (l : List Int) (a : Int), l.foldl min a ≤ a ∧ (∀ z ∈ l, l.foldl min a ≤ z) ∧ (l.foldl min a = a ∨ l.foldl min a ∈ l)
  | [], a => ⟨Int.le_refl _, by simp, .inl rfl⟩
  | x :: l, a => by
    obtain ⟨h1, h2, h3⟩ := foldl_min l (min a x)
    rw [List.foldl_cons]
    refine ⟨by omega, fun z hz => ?_, ?_⟩
    · rcases List.mem_cons.1 hz with rfl | hz
      · omega
      · exact h2 z hz
    · rcases h3 with h | h
      · rcases Int.le_total a x with g | g
        · left; rw [h]; omega
        · right; rw [h, Int.min_eq_right g]; simp
      · right; simp [h]
theorem foldl_max : ∀ (l : List Int) (a : Int), a ≤ l.foldl max a ∧ (∀ z ∈ l, z ≤ l.foldl max a) ∧ (l.foldl max a = a ∨ l.foldl max a ∈ l)
  | [], a => ⟨Int.le_refl _, by simp, .inl rfl⟩
  | x :: l, a => by
    obtain ⟨h1, h2, h3⟩ := foldl_max l (max a x)
    rw [List.foldl_cons]
    refine ⟨by omega, fun z hz => ?_, ?_⟩
    · rcases List.mem_cons.1 hz with rfl | hz
      · omega
      · exact h2 z hz
    · rcases h3 with h | h
      · rcases Int.le_total a x with g | g
        · right; rw [h, Int.max_eq_right g]; simp
        · left; rw [h]; omega
      · right; simp [h]

theorem lmin_is {l : List Int} (hl : l ≠ []) (h : ∀ z ∈ l, I64 z) : lmin l ∈ l ∧ ∀ z ∈ l, lmin l ≤ z := by
  obtain ⟨h1, h2, h3⟩ := foldl_min l 9223372036854775807
  refine ⟨?_, h2⟩
  rcases h3 with h3 | h3
  · obtain ⟨x, l', rfl⟩ := List.exists_cons_of_ne_nil hl
    have hx := h x (by simp)
    have := h2 x (by simp)
    unfold I64 at hx
    have e : lmin (x :: l') = x := by unfold lmin; omega
    rw [e]; simp
  · exact h3
theorem lmax_is {l : List Int} (hl : l ≠ []) (h : ∀ z ∈ l, I64 z) : lmax l ∈ l ∧ ∀ z ∈ l, z ≤ lmax l := by
  obtain ⟨h1, h2, h3⟩ := foldl_max l (-9223372036854775808)
  refine ⟨?_, h2⟩
  rcases h3 with h3 | h3
  · obtain ⟨x, l', rfl⟩ := List.exists_cons_of_ne_nil hl
    have hx := h x (by simp)
    have := h2 x (by simp)
    unfold I64 at hx
    have e : lmax (x :: l') = x := by unfold lmax; omega
    rw [e]; simp
  · exact h3

theorem lmin_I64 (l : List Int) (h : ∀ z ∈ l, I64 z) : I64 (lmin l) := by
  by_cases e : l = []
  · subst e; unfold I64 lmin; simp
  · exact h _ (lmin_is e h).1
theorem lmax_I64 (l : List Int) (h : ∀ z ∈ l, I64 z) : I64 (lmax l) := by
  by_cases e : l = []
  · subst e; unfold I64 lmax; simp
  · exact h _ (lmax_is e h).1

/-- What comes of two lots, merged, and of both, added from the back. -/
theorem order15 {k : Nat} (hk : k ≤ 4) {xs ys : List Int} (hx : ∀ n ∈ xs, I64 n) (hy : ∀ n ∈ ys, I64 n) (hxl : xs.length ≤ 1000) (hyl : ys.length ≤ 1000) (f1 f2 : Int) (hf1 : I64 f1) (hf2 : I64 f2) :
    mergeC (addsC (newC f1 k) xs) (addsC (newC f2 k) ys) = addsC (newC f1 k) (xs ++ ys).reverse ∧
    (mergeC (addsC (newC f1 k) xs) (addsC (newC f2 k) ys)).s = (xs ++ ys).reverse.sum ∧
    ((xs ++ ys) ≠ [] → (mergeC (addsC (newC f1 k) xs) (addsC (newC f2 k) ys)).lo = lmin (xs ++ ys).reverse ∧ (mergeC (addsC (newC f1 k) xs) (addsC (newC f2 k) ys)).hi = lmax (xs ++ ys).reverse) := by
  have z : total (newC f1 k).l = 0 := rfl
  have z2 : total (newC f2 k).l = 0 := rfl
  have hall : ∀ n ∈ (xs ++ ys).reverse, I64 n := fun n hn => by
    rcases List.mem_append.1 (List.mem_reverse.1 hn) with h | h
    · exact hx n h
    · exact hy n h
  have ca := COk.adds (COk.new hf1 hk) hx (by rw [z]; omega)
  have cb := COk.adds (COk.new hf2 hk) hy (by rw [z2]; omega)
  have cc := COk.adds (COk.new hf1 hk) hall (by rw [z]; simp; omega)
  have ta := (Tells.nil f1 k).adds (ms := xs)
  have tb := (Tells.nil f2 k).adds (ms := ys)
  have tc := (Tells.nil f1 k).adds (ms := (xs ++ ys).reverse)
  rw [List.nil_append] at ta tb tc
  have ka : (addsC (newC f1 k) xs).k = k := addsC_k _ _
  have kb : (addsC (newC f2 k) ys).k = k := addsC_k _ _
  have cm := ca.merge cb (by rw [ka, kb]) (by rw [ta.many, tb.many]; omega)
  have tm := ta.merge tb (by rw [ka, kb])
  have e := tells_same cm cc tm tc (List.reverse_perm _).symm (by rw [mergeC_k, ka, addsC_k]; rfl) (by rw [mergeC_fr, addsC_fr, addsC_fr])
  refine ⟨e, by rw [e]; exact tc.sum, fun hne => ?_⟩
  have hne' : (xs ++ ys).reverse ≠ [] := fun h => hne (List.reverse_eq_nil_iff.1 h)
  obtain ⟨p1, p2⟩ := lmin_is hne' hall
  obtain ⟨p3, p4⟩ := lmax_is hne' hall
  obtain ⟨q1, q2⟩ := tc.lo hne'
  obtain ⟨q3, q4⟩ := tc.hi hne'
  rw [e]
  exact ⟨Int.le_antisymm (q2 _ p1) (p2 _ q1), Int.le_antisymm (p4 _ q3) (q4 _ p3)⟩

/-- A sum that lies in a block. -/
def sumObj (s : Int) : Obj := .cells #[.int .i64 (hiOf s), .int .u64 (loOf s)] 82 (0, 0)
theorem sumObj_zero : sumObj 0 = .cells #[.int .i64 0, .int .u64 0] 82 (0, 0) := by
  have h1 : hiOf 0 = 0 := by unfold hiOf wrap64; omega
  have h2 : loOf 0 = 0 := by unfold loOf; omega
  unfold sumObj; rw [h1, h2]

set_option maxRecDepth 100000 in
set_option maxHeartbeats 20000000 in
theorem CellOrder_walk (a0 : Int) (h0 : 0 ≤ a0) (h0' : a0 ≤ 255) (a : Option Addr) (n cap : Nat) (xs0 : List Int) (a' : Option Addr) (n' cap' : Nat) (ys0 : List Int) (w : World)
    (hr : Reads .i64 w [] a n cap xs0) (hx : ∀ z ∈ xs0, I64 z) (hr' : Reads .i64 w [] a' n' cap' ys0) (hy : ∀ z ∈ ys0, I64 z) :
    Calls Try.prog 13 #[.int .u8 a0, .slice a n cap, .slice a' n' cap'] w fun e w' => e = .returned (.bool true) ∧ Below w.heap.size w w' := by
  obtain ⟨k, hk, hk4⟩ : ∃ k : Nat, a0 % 5 = (k : Int) ∧ k ≤ 4 := ⟨(a0 % 5).toNat, by omega, by omega⟩
  have hcm : cap ≤ 9223372036854775807 := by have := hr.mx; unfold maxLen at this; omega
  have hlc := hr.le
  have hcm' : cap' ≤ 9223372036854775807 := by have := hr'.mx; unfold maxLen at this; omega
  have hlc' := hr'.le
  obtain ⟨m, hm⟩ : ∃ m, min n 30 = m := ⟨_, rfl⟩
  obtain ⟨m', hm'⟩ : ∃ m', min n' 30 = m' := ⟨_, rfl⟩
  have hmi : min (n : Int) 30 = (m : Int) := by omega
  have hmi' : min (n' : Int) 30 = (m' : Int) := by omega
  have hmn : m ≤ n := by omega
  have hmn' : m' ≤ n' := by omega
  have hm30 : m ≤ 30 := by omega
  have hm30' : m' ≤ 30 := by omega
  have hmc : m ≤ cap := by omega
  have hmc' : m' ≤ cap' := by omega
  have hrt := hr.take hmn
  have hrt' := hr'.take hmn'
  have hxt : ∀ z ∈ xs0.take m, I64 z := fun z hz => hx z (List.mem_of_mem_take hz)
  have hyt : ∀ z ∈ ys0.take m', I64 z := fun z hz => hy z (List.mem_of_mem_take hz)
  have hxlen := hrt.len
  have hylen := hrt'.len
  generalize xs0.take m = xs at *
  generalize ys0.take m' = ys at *
  have HR := Lib.hid hrt
  have HR' := Lib.hid hrt'
  have HX := Lib.hid hxt
  have HY := Lib.hid hyt
  have HXL := Lib.hid hxlen
  have HYL := Lib.hid hylen
  clear hr hr' hx hy hrt hrt' hxt hyt hm hm' hxlen hylen
  go_enter Try.func13, Try.ntmps13
  go_wp2_with fail
  refine (examples15 w w [] (Own.refl w)).mono ?_
  rintro e w1 ⟨rfl, hO1⟩
  have hO2 := hO1.alloc (.cells #[.int .i64 0, .int .u64 0] 82 (0, 0))
  have hO2' := hO2
  obtain ⟨ws, hws⟩ : ∃ ws, w1.heap.size = ws := ⟨_, rfl⟩
  rw [hws] at hO2
  obtain ⟨v3, w3, L3, hrun3, hR3, hO3⟩ := append_i64s (.slice none 0 0) [] a m cap xs [] [(ws, .cells #[.int .i64 0, .int .u64 0] 82 (0, 0))] [(ws, .cells #[.int .i64 0, .int .u64 0] 82 (0, 0))] [] w _ (RowC.nil _ _) hO2 HR.out (hO2.le (fun a => by simp only [cnt_append, cnt_cons, cnt_nil]; omega)) (by simp) (by omega)
  rw [List.nil_append] at hR3
  obtain ⟨v4, w4, L4, hrun4, hR4, hO4⟩ := append_i64s v3 xs a' m' cap' ys L3 [(ws, .cells #[.int .i64 0, .int .u64 0] 82 (0, 0))] (L3 ++ [(ws, .cells #[.int .i64 0, .int .u64 0] 82 (0, 0))]) [] w w3 hR3 hO3 HR'.out (hO3.le (fun a => by simp only [cnt_append, cnt_cons, cnt_nil]; omega)) (by rw [HXL.out]; omega) (by omega)
  have H1 := Lib.hid hO1
  obtain ⟨zs, hzs⟩ : ∃ zs, xs ++ ys = zs := ⟨_, rfl⟩
  obtain ⟨N, hN⟩ : ∃ N, zs.length = N := ⟨_, rfl⟩
  have hNm : N = m + m' := by rw [← hN, ← hzs, List.length_append, HXL.out, HYL.out]
  have hall : ∀ z ∈ zs, I64 z := fun z hz => by
    rw [← hzs] at hz
    rcases List.mem_append.1 hz with h | h
    · exact HX.out z h
    · exact HY.out z h
  rw [hzs] at hR4
  rw [hN] at hR4
  obtain ⟨a5, cap5, rfl, hq1, hq2, hq3, hq4⟩ := hR4.form
  have hcm5 : cap5 ≤ 9223372036854775807 := by unfold maxLen at hq2; omega
  have hN60 : (N : Int) ≤ 60 := by omega
  have hr5 : Reads .i64 w L4 a5 N cap5 zs := reads_row hR4
  have hO4' : Own w w4 (L4 ++ [(ws, sumObj 0)]) := by rw [sumObj_zero]; exact hO4
  have HN3 := Lib.hid hrun3
  have HN4 := Lib.hid hrun4
  have HR5 := Lib.hid hr5
  have H4 := Lib.hid hO4'
  have HALL := Lib.hid hall
  have HZS := Lib.hid hzs
  have HZL := Lib.hid hN
  have HNM := Lib.hid hNm
  clear hO1 hO2 hO2' hrun3 hR3 hO3 hrun4 hR4 hO4 hO4' hr5 hall hzs hN hNm hq2 hq3 hq4
  go_wp2_with (first
    | (at_builtin; refine Lib.wpList_append_run _ rfl _ _ _ _ rfl _ _ rfl rfl _ _ (HN3.out _) ?_)
    | (at_builtin; refine Lib.wpList_append_run _ rfl _ _ _ _ rfl _ _ rfl rfl _ _ (HN4.out _) ?_))
  go_loopw [8, 10, 11, 13] (fun v lo hi i wr => ∃ j : Nat, j ≤ N ∧ i = .int .i64 ((N : Int) - 1 - (j : Int)) ∧ lo = .int .i64 (lmin (zs.reverse.take j)) ∧ hi = .int .i64 (lmax (zs.reverse.take j)) ∧
      Hid (∃ L, RowC 2 1 v (zs.reverse.take j).length (i64C (zs.reverse.take j)) L ∧ Own w wr (L ++ ((ws, sumObj (zs.reverse.take j).sum) :: L4)))) (fun _ _ _ i _ => (intOf i + 1).toNat)
  case atStart => exact ⟨0, Nat.zero_le _, by go_num, rfl, rfl, [], by simpa [i64C] using RowC.nil _ _, by simpa using H4.out.le (fun a => by simp only [cnt_append, cnt_cons, cnt_nil]; omega)⟩
  case round =>
    obtain ⟨j, hj, rfl, rfl, rfl, hq⟩ := hrel
    by_cases hlt : j < N
    · obtain ⟨L, hRj, hOj⟩ := hq.out
      obtain ⟨p, hp⟩ : ∃ p, N - 1 - j = p := ⟨_, rfl⟩
      have hpi : (N : Int) - 1 - (j : Int) = (p : Int) := by omega
      rw [hpi]
      cases a5 with
      | none => have := (HR5.out.nil rfl).1; omega
      | some q =>
        obtain ⟨r, o, sp⟩ := q
        obtain rfl : sp = none := HR5.out.spot _ rfl (by omega)
        have hc : ∀ w' L', Own w w' (L' ++ L4) → w'.cell? ⟨r, o + p, none⟩ = some (.int .i64 (zs.getD p 0)) := fun w' L' hO => by
          have h := HR5.out.cell _ rfl w' L' hO p (by omega)
          rwa [Addr.add_lit] at h
        have hnext := reverse_take_succ (ys := zs) (j := j) (by rw [HZL.out]; exact hlt)
        rw [HZL.out, hp] at hnext
        have hI : I64 (zs.getD p 0) := HALL.out _ (getD_mem (by rw [HZL.out]; omega))
        have hmin := lmin_snoc (zs.reverse.take j) (zs.getD p 0)
        have hmax := lmax_snoc (zs.reverse.take j) (zs.getD p 0)
        have hsum : (zs.reverse.take (j + 1)).sum = (zs.reverse.take j).sum + zs.getD p 0 := by rw [hnext]; simp
        rw [← hnext] at hmin hmax
        have hpl : p < N := by omega
        have hpi2 : (p : Int) < (N : Int) := by omega
        have hwp : IntKind.i64.wrap (p : Int) = (p : Int) := by rw [IntKind.wrap_i64]; omega
        have htl : (zs.reverse.take j).length ≤ 1099511627776 := by rw [List.length_take]; omega
        generalize zs.getD p 0 = z at *
        generalize hT : zs.reverse.take j = T at *
        generalize hT' : zs.reverse.take (j + 1) = T' at *
        clear hT
        generalize hsm : T.sum = sm at *
        have c0 := hc wr (L ++ [(ws, sumObj sm)]) (hOj.le (fun a => by simp only [cnt_append, cnt_cons, cnt_nil]; omega))
        obtain ⟨v', w', L', hrun, hR', hO'⟩ := append_i64 _ _ z L ((ws, sumObj sm) :: L4) w wr hRj hOj htl
        rw [← hnext] at hR'
        have HRN := Lib.hid hrun
        have HRj' := Lib.hid hR'
        have HO' := Lib.hid hO'
        have HP := Lib.hid hpi
        have HMI := Lib.hid hmin
        have HMA := Lib.hid hmax
        have HSM := Lib.hid hsum
        have HI := Lib.hid hI
        have HC := Lib.hid hc
        have HTT := Lib.hid hT'
        have c2 := hc w' (L' ++ [(ws, sumObj sm)]) (hO'.le (fun a => by simp only [cnt_append, cnt_cons, cnt_nil]; omega))
        have s0 := hO'.cell (i := 0) (List.mem_append_right _ (.head _)) rfl
        have s1 := hO'.cell (i := 1) (List.mem_append_right _ (.head _)) rfl
        clear hRj hOj hrun hR' hO' hq hnext htl hp hpi hmin hmax hsum hsm hI hc hT'
        have hpn : (p : Int) - 1 = (N : Int) - 1 - ((j + 1 : Nat) : Int) := by have := HP.out; omega
        have HPN := Lib.hid hpn
        clear hpn
        go_wp2_with (at_builtin; refine Lib.wpList_append_run _ rfl _ _ _ _ rfl _ _ rfl rfl _ _ (HRN.out _) ?_)
        go_region_with (first
          | (go_at_call 64; refine (WOf z HI.out w _ _ HO'.out.drew).mono ?_; rintro e w2 ⟨rfl, hO2⟩; simp only [sumV]; have s0' := hO2.cell (i := 0) (List.mem_append_right _ (.head _)) rfl; have s1' := hO2.cell (i := 1) (List.mem_append_right _ (.head _)) rfl; have H2 := Lib.hid hO2; clear hO2)
          | (go_at_call 63; refine (WAdd sm z w _ _ H2.out).mono ?_; rintro e w3 ⟨rfl, hO3⟩; simp only [sumV]; have g0 := hO3.free (List.mem_append_right _ (.head _)) 0; have g1 := hO3.free (List.mem_append_right _ (.head _)) 1; have q0 := hO3.cell (i := 0) (List.mem_append_right _ (.head _)) rfl; have q1 := hO3.cell (i := 1) (List.mem_append_right _ (.head _)) rfl; have H3 := Lib.hid hO3; clear hO3))
        all_goals have hO6 : Own w _ ((ws, sumObj (sm + z)) :: (L' ++ L4)) := ((H3.out.le (L' := (ws, sumObj sm) :: (L' ++ L4)) (fun a => by simp only [cnt_append, cnt_cons, cnt_nil]; omega)).set0 0 (.int .i64 (hiOf (sm + z)))).set0 1 (.int .u64 (loOf (sm + z)))
        all_goals have c3 := HC.out _ ((ws, sumObj (sm + z)) :: L') hO6
        all_goals have H6 := Lib.hid hO6
        all_goals clear hO6
        all_goals go_wp2
        all_goals exact ⟨⟨j + 1, by omega, by rw [← HPN.out], by rw [HTT.out, HMI.out], by rw [HTT.out, HMA.out], L', by rw [HTT.out]; exact HRj'.out, by rw [HTT.out, HSM.out]; exact H6.out.le (fun a => by simp only [cnt_append, cnt_cons, cnt_nil]; omega)⟩, by simp [intOf]⟩
    · obtain rfl : j = N := by omega
      obtain ⟨L, hRj, hOj⟩ := hq.out
      rw [show (j : Int) - 1 - (j : Int) = -1 by omega]
      have hfull : zs.reverse.take j = zs.reverse := by rw [List.take_of_length_le]; rw [List.length_reverse, HZL.out]; exact Nat.le_refl _
      rw [hfull] at hRj hOj ⊢
      rw [List.length_reverse, HZL.out] at hRj
      obtain ⟨a6, cap6, rfl, hq1', hq2', hq3', hq4'⟩ := hRj.form
      have hcm6 : cap6 ≤ 9223372036854775807 := by unfold maxLen at hq2'; omega
      have hr6 : Reads .i64 w L a6 j cap6 zs.reverse := reads_row hRj
      have ho := order15 hk4 (f1 := 3) (f2 := 8) HX.out HY.out (by rw [HXL.out]; omega) (by rw [HYL.out]; omega) (by unfold I64; omega) (by unfold I64; omega)
      rw [HZS.out] at ho
      have hc1 : COk (addsC (newC 3 k) xs) := COk.adds (COk.new (by unfold I64; omega) hk4) HX.out (by rw [HXL.out]; simp only [newC, show total ([] : Items) = 0 from rfl]; omega)
      have hc2 : COk (addsC (newC 8 k) ys) := COk.adds (COk.new (by unfold I64; omega) hk4) HY.out (by rw [HYL.out]; simp only [newC, show total ([] : Items) = 0 from rfl]; omega)
      have hc3 : COk (addsC (newC 3 k) zs.reverse) := COk.adds (COk.new (by unfold I64; omega) hk4) (fun z hz => HALL.out z (List.mem_reverse.1 hz)) (by rw [List.length_reverse, HZL.out]; simp only [newC, show total ([] : Items) = 0 from rfl]; omega)
      have ht1 : total (addsC (newC 3 k) xs).l = m := by rw [total_addsC, HXL.out]; simp only [newC, show total ([] : Items) = 0 from rfl]; omega
      have ht2 : total (addsC (newC 8 k) ys).l = m' := by rw [total_addsC, HYL.out]; simp only [newC, show total ([] : Items) = 0 from rfl]; omega
      have ht3 : total (addsC (newC 3 k) zs.reverse).l = j := by rw [total_addsC, List.length_reverse, HZL.out]; simp only [newC, show total ([] : Items) = 0 from rfl]; omega
      have hf3 : (addsC (newC 3 k) zs.reverse).fr = 3 := by rw [addsC_fr]; rfl
      have hk12 : (addsC (newC 8 k) ys).k = (addsC (newC 3 k) xs).k := by rw [addsC_k, addsC_k]; rfl
      have hxr : ∀ z ∈ zs.reverse, I64 z := fun z hz => HALL.out z (List.mem_reverse.1 hz)
      have HXR := Lib.hid hxr
      have HR6 := Lib.hid hr6
      have H6 := Lib.hid hOj
      have HOR := Lib.hid ho
      have HC1 := Lib.hid hc1
      have HC2 := Lib.hid hc2
      have HC3 := Lib.hid hc3
      have HT1 := Lib.hid ht1
      have HT2 := Lib.hid ht2
      have HT3 := Lib.hid ht3
      have HF3 := Lib.hid hf3
      have HK12 := Lib.hid hk12
      generalize hls : lmin zs.reverse = least at *
      generalize hms : lmax zs.reverse = most at *
      generalize hss : zs.reverse.sum = sm at *
      clear hRj hOj hq hlt hj hq2' hq3' hq4' hr6 ho hc1 hc2 hc3 ht1 ht2 ht3 hf3 hk12 hxr hls hms hss hfull
      have hkw : IntKind.i64.wrap (k : Int) = (k : Int) := by rw [IntKind.wrap_i64]; omega
      go_wp2_with fail
      rw [hk]
      refine (of15 3 (by unfold I64; omega) k hk4 a m cap xs w _ (L ++ ((ws, sumObj sm) :: L4)) (HR.out.more (fun c => by simp only [cnt_nil]; omega)) HX.out (by omega) H6.out).mono ?_
      rintro e w7 ⟨ba, La, rfl, hCa, hO7⟩
      have HCa := Lib.hid hCa
      have H7 := Lib.hid hO7
      clear hCa hO7
      go_wp2_with fail
      rw [hk]
      refine (of15 8 (by unfold I64; omega) k hk4 a' m' cap' ys w _ (La ++ (L ++ ((ws, sumObj sm) :: L4))) (HR'.out.more (fun c => by simp only [cnt_nil]; omega)) HY.out (by omega) H7.out).mono ?_
      rintro e w8 ⟨bb, Lb, rfl, hCb, hO8⟩
      have HCb := Lib.hid hCb
      have H8 := Lib.hid hO8
      clear hCb hO8
      go_wp2_with fail
      rw [hk]
      refine (of15 3 (by unfold I64; omega) k hk4 a6 j cap6 zs.reverse w _ (Lb ++ (La ++ (L ++ ((ws, sumObj sm) :: L4)))) (HR6.out.more (fun c => by simp only [cnt_append, cnt_cons]; omega)) HXR.out (by omega) H8.out).mono ?_
      rintro e w9 ⟨bc, Lc, rfl, hCc, hO9⟩
      have HCc := Lib.hid hCc
      have H9a := Lib.hid hO9
      clear hCc hO9
      go_wp2_with fail
      refine (CMerge_ok (addsC (newC 3 k) xs) (addsC (newC 8 k) ys) ba bb La Lb (Lc ++ (L ++ ((ws, sumObj sm) :: L4))) w _ HC1.out HC2.out HK12.out (by rw [HT1.out, HT2.out]; omega) HCa.out HCb.out (H9a.out.le (fun a => by simp only [cnt_append, cnt_cons, cnt_nil]; omega))).mono ?_
      rintro e w10 ⟨rfl, Lm, hCm, hO10⟩
      have e3 := HOR.out.1
      have hs3 := HOR.out.2.1
      have hb3 := HOR.out.2.2
      have hcc := HCc.out
      have hc3ok := HC3.out
      have ht3 := HT3.out
      have hf3 := HF3.out
      rw [e3] at hs3 hb3 hCm
      clear e3
      generalize addsC (newC 3 k) zs.reverse = c3 at hs3 hb3 hCm hcc hc3ok ht3 hf3
      have hln : c3.l.length ≤ 65535 := by have := length_le_total hc3ok.h.pos; omega
      have hCm' := hCm
      obtain ⟨ha, Xa, hHa, hLm⟩ := hCm
      obtain ⟨hb, Xb, hHb, hLb⟩ := HCb.out
      have ht2 := HT2.out
      have hO11 : Own w w10 (Lm ++ (Lc ++ (Lb ++ ((ws, sumObj sm) :: (L ++ L4))))) := hO10.le (fun a => by simp only [cnt_append, cnt_cons, cnt_nil]; omega)
      have hcells : ∀ w', Own w w' (Lm ++ (Lc ++ (Lb ++ ((ws, sumObj sm) :: (L ++ L4))))) → w'.cell? ⟨ba, 0, none⟩ = some (.pointer (some ⟨ha, 0, none⟩)) ∧ w'.cell? ⟨bb, 0, none⟩ = some (.pointer (some ⟨hb, 0, none⟩)) ∧ w'.cell? ⟨ws, 0, none⟩ = some (.int .i64 (hiOf sm)) ∧ w'.cell? ⟨ws, 1, none⟩ = some (.int .u64 (loOf sm)) := fun w' hO => by
        rw [hLm, hLb] at hO
        exact ⟨hO.cell (i := 0) (List.mem_append_left _ (.head _)) rfl, hO.cell (i := 0) (List.mem_append_right _ (List.mem_append_right _ (List.mem_append_left _ (.head _)))) rfl, hO.cell (i := 0) (List.mem_append_right _ (List.mem_append_right _ (List.mem_append_right _ (.head _)))) rfl, hO.cell (i := 1) (List.mem_append_right _ (List.mem_append_right _ (List.mem_append_right _ (.head _)))) rfl⟩
      have hsame : ∀ w', Own w w' (Lm ++ (Lc ++ (Lb ++ ((ws, sumObj sm) :: (L ++ L4))))) → Calls Try.prog 51 #[.pointer (some ⟨ba, 0, none⟩), .pointer (some ⟨bc, 0, none⟩)] w' fun e w'' => e = .returned (.bool true) ∧ Own w w'' (Lm ++ (Lc ++ (Lb ++ ((ws, sumObj sm) :: (L ++ L4))))) := fun w' hO =>
        (CSame c3 ba bc Lm Lc (Lb ++ ((ws, sumObj sm) :: (L ++ L4))) w w' hc3ok hln hCm' hcc (hO.le (fun a => by simp only [cnt_append, cnt_cons, cnt_nil]; omega))).mono fun e w'' ⟨he, h⟩ => ⟨he, h.le (fun a => by simp only [cnt_append, cnt_cons, cnt_nil]; omega)⟩
      have hsumc : ∀ w', Own w w' (Lm ++ (Lc ++ (Lb ++ ((ws, sumObj sm) :: (L ++ L4))))) → Calls Try.prog 68 #[.pointer (some ⟨ba, 0, none⟩)] w' fun e w'' => e = .returned (sumV sm) ∧ Own w w'' (Lm ++ (Lc ++ (Lb ++ ((ws, sumObj sm) :: (L ++ L4))))) := fun w' hO => by
        have h := CSum ba ha c3.fr c3.s c3.lo c3.hi w w' _ hO (by rw [hLm]; exact List.mem_append_left _ (.head _))
        rwa [hs3] at h
      have hcnta : ∀ w', Own w w' (Lm ++ (Lc ++ (Lb ++ ((ws, sumObj sm) :: (L ++ L4))))) → Calls Try.prog 22 #[.pointer (some ⟨ha, 0, none⟩)] w' fun e w'' => e = .returned (.int .u64 (j : Int)) ∧ w' = w'' := fun w' hO => by
        have h := Count_C (W := w) (w := w') (F := (ba, cellObj ha c3.fr c3.s c3.lo c3.hi) :: (Lc ++ (Lb ++ ((ws, sumObj sm) :: (L ++ L4))))) hHa (hO.le (by rw [hLm]; exact (fun a => by simp only [cnt_append, cnt_cons, cnt_nil]; omega)))
        rwa [ht3] at h
      have hcntb : ∀ w', Own w w' (Lm ++ (Lc ++ (Lb ++ ((ws, sumObj sm) :: (L ++ L4))))) → Calls Try.prog 22 #[.pointer (some ⟨hb, 0, none⟩)] w' fun e w'' => e = .returned (.int .u64 (m' : Int)) ∧ w' = w'' := fun w' hO => by
        have h := Count_C (W := w) (w := w') (F := (bb, cellObj hb (addsC (newC 8 k) ys).fr (addsC (newC 8 k) ys).s (addsC (newC 8 k) ys).lo (addsC (newC 8 k) ys).hi) :: (Lc ++ (Lm ++ ((ws, sumObj sm) :: (L ++ L4))))) hHb (hO.le (by rw [hLb]; exact (fun a => by simp only [cnt_append, cnt_cons, cnt_nil]; omega)))
        rwa [ht2] at h
      have hfrom : ∀ w', Own w w' (Lm ++ (Lc ++ (Lb ++ ((ws, sumObj sm) :: (L ++ L4))))) → Calls Try.prog 42 #[.pointer (some ⟨ba, 0, none⟩)] w' fun e w'' => e = .returned (.int .i64 3) ∧ w' = w'' := fun w' hO => by
        have h := CFrom ba ha c3.fr c3.s c3.lo c3.hi w' (hO.get (by rw [hLm]; exact List.mem_append_left _ (.head _)))
        rwa [hf3] at h
      have HCS := Lib.hid hcells
      have HSAME := Lib.hid hsame
      have HSUM := Lib.hid hsumc
      have CNTa := Lib.hid hcnta
      have CNTb := Lib.hid hcntb
      have HFROM := Lib.hid hfrom
      have H11 := Lib.hid hO11
      have HCm := Lib.hid hCm'
      have HC3' := Lib.hid hc3ok
      have hj60 : (j : Int) ≤ 60 := by omega
      have hwj : IntKind.u64.wrap (j : Int) = (j : Int) := by rw [IntKind.wrap_u64]; omega
      have hwm : IntKind.u64.wrap (m' : Int) = (m' : Int) := by rw [IntKind.wrap_u64]; omega
      by_cases hj0 : j = 0
      · have hpos : decide (0 < total c3.l) = false := by rw [ht3, hj0]; rfl
        have HPOS := Lib.hid hpos
        subst hj0
        clear hcells hsame hsumc hcnta hcntb hfrom hO10 hO11 hCm' hc3ok hHa hLm hHb hLb hs3 hb3 hcc ht3 hf3 hln ht2 hpos hk
        go_wp2_with fail
        refine (CBounds c3 ba Lm (Lc ++ (Lb ++ ((ws, sumObj sm) :: (L ++ L4)))) w _ HC3'.out HCm.out H11.out).mono ?_
        rintro e w11 ⟨rfl, hO12⟩
        rw [HPOS.out]
        have H9 := Lib.hid hO12
        obtain ⟨q0, q1, q2, q3⟩ := HCS.out _ hO12
        clear hO12
        generalize c3.lo = lo' at *
        generalize c3.hi = hi' at *
        go_wp2_with fail
        simp only [List.append_eq, List.cons_append, List.nil_append]
        refine wp_region_held_drew (S := (fun w' => w'.cell? ⟨ba, 0, none⟩ = some (.pointer (some ⟨ha, 0, none⟩)) ∧ w'.cell? ⟨bb, 0, none⟩ = some (.pointer (some ⟨hb, 0, none⟩)) ∧ w'.cell? ⟨ws, 0, none⟩ = some (.int .i64 (hiOf sm)) ∧ w'.cell? ⟨ws, 1, none⟩ = some (.int .u64 (loOf sm)))) (by kernel_rfl) ?_ (fun hHeld => ?_)
        · (first | exact HCS.out _ (by exact H9.out.drew) | exact HCS.out _ hO1 | exact HCS.out _ hO2)
        refine wpAnyH_take (i := 0) (oi := ?_) (v := ?_) ?_ (by kernel_rfl) (by kernel_rfl) (by kernel_rfl) ?_ (Or.inl ⟨?_, ?_⟩) (by assumption) ?_
        rotate_left 2
        · simp only [List.getElem?_toArray, List.getElem?_cons_succ, List.getElem?_cons_zero]; rfl
        · exact fun _ _ _ h => h
        · rfl
        · intro w hSw; (try dsimp only at hSw); go_simp; (try with_reducible rfl)
        try simp only [Act.put, List.setIfInBounds_toArray, List.set_cons_zero, List.set_cons_succ]
        refine wpAnyH_take (i := 1) (oi := ?_) (v := ?_) ?_ (by kernel_rfl) (by kernel_rfl) (by kernel_rfl) ?_ (Or.inl ⟨?_, ?_⟩) (by assumption) ?_
        rotate_left 2
        · simp only [List.getElem?_toArray, List.getElem?_cons_succ, List.getElem?_cons_zero]; rfl
        · exact fun _ _ _ h => h
        · rfl
        · intro w hSw; (try dsimp only at hSw); go_simp; (try with_reducible rfl)
        try simp only [Act.put, List.setIfInBounds_toArray, List.set_cons_zero, List.set_cons_succ]
        refine wpAnyH_take (i := 2) (oi := ?_) (v := ?_) ?_ (by kernel_rfl) (by kernel_rfl) (by kernel_rfl) ?_ (Or.inl ⟨?_, ?_⟩) (by assumption) ?_
        rotate_left 2
        · simp only [List.getElem?_toArray, List.getElem?_cons_succ, List.getElem?_cons_zero]; rfl
        · exact fun _ _ _ h => h
        · rfl
        · intro w hSw; (try dsimp only at hSw); go_simp; (try with_reducible rfl)
        try simp only [Act.put, List.setIfInBounds_toArray, List.set_cons_zero, List.set_cons_succ]
        refine wpAnyH_take (i := 3) (oi := ?_) (v := ?_) ?_ (by kernel_rfl) (by kernel_rfl) (by kernel_rfl) ?_ (Or.inl ⟨?_, ?_⟩) (by assumption) ?_
        rotate_left 2
        · simp only [List.getElem?_toArray, List.getElem?_cons_succ, List.getElem?_cons_zero]; rfl
        · exact fun _ _ _ h => h
        · rfl
        · intro w hSw; (try dsimp only at hSw); go_simp; (try with_reducible rfl)
        try simp only [Act.put, List.setIfInBounds_toArray, List.set_cons_zero, List.set_cons_succ]
        refine wpAnyH_take (i := 4) (oi := ?_) (v := ?_) ?_ (by kernel_rfl) (by kernel_rfl) (by kernel_rfl) ?_ (Or.inl ⟨?_, ?_⟩) (by assumption) ?_
        rotate_left 2
        · simp only [List.getElem?_toArray, List.getElem?_cons_succ, List.getElem?_cons_zero]; rfl
        · exact fun _ _ _ h => h
        · rfl
        · intro w hSw; (try dsimp only at hSw); go_simp; (try with_reducible rfl)
        try simp only [Act.put, List.setIfInBounds_toArray, List.set_cons_zero, List.set_cons_succ]
        refine wpAnyH_take (i := 5) (oi := ?_) (v := ?_) ?_ (by kernel_rfl) (by kernel_rfl) (by kernel_rfl) ?_ (Or.inl ⟨?_, ?_⟩) (by assumption) ?_
        rotate_left 2
        · simp only [List.getElem?_toArray, List.getElem?_cons_succ, List.getElem?_cons_zero]; rfl
        · exact fun _ _ _ h => h
        · rfl
        · intro w hSw; (try dsimp only at hSw); go_simp; (try with_reducible rfl)
        try simp only [Act.put, List.setIfInBounds_toArray, List.set_cons_zero, List.set_cons_succ]
        refine wpAnyH_take (i := 6) (oi := ?_) (v := ?_) ?_ (by kernel_rfl) (by kernel_rfl) (by kernel_rfl) ?_ (Or.inl ⟨?_, ?_⟩) (by assumption) ?_
        rotate_left 2
        · simp only [List.getElem?_toArray, List.getElem?_cons_succ, List.getElem?_cons_zero]; rfl
        · exact fun _ _ _ h => h
        · rfl
        · intro w hSw; (try dsimp only at hSw); go_simp; (try with_reducible rfl)
        try simp only [Act.put, List.setIfInBounds_toArray, List.set_cons_zero, List.set_cons_succ]
        refine wpAnyH_take (i := 7) (oi := ?_) (v := ?_) ?_ (by kernel_rfl) (by kernel_rfl) (by kernel_rfl) ?_ (Or.inl ⟨?_, ?_⟩) (by assumption) ?_
        rotate_left 2
        · simp only [List.getElem?_toArray, List.getElem?_cons_succ, List.getElem?_cons_zero]; rfl
        · exact fun _ _ _ h => h
        · rfl
        · intro w hSw; (try dsimp only at hSw); go_simp; (try with_reducible rfl)
        try simp only [Act.put, List.setIfInBounds_toArray, List.set_cons_zero, List.set_cons_succ]
        refine wpAnyH_ready (rs := [8]) (by kernel_rfl) (by simp) ?_
        refine AllReadyH.cons (o := ?_) ?_ (fun K hK => ?_) AllReadyH.nil
        rotate_left
        · simp only [List.getElem?_toArray, List.getElem?_cons_succ, List.getElem?_cons_zero]; rfl
        try rw [if_pos (by rfl)]
        go_simp
        go_wp2_with (go_at_call 51; refine (HSAME.out _ (by exact H9.out.drew)).mono ?_; rintro e w10 ⟨rfl, hO1⟩)
        refine hK.out _ _ ?_ (fun hHeld => ?_)
        · (first | exact HCS.out _ (by exact H9.out.drew) | exact HCS.out _ hO1 | exact HCS.out _ hO2)
        clear hK K
        try simp only [Act.put, List.setIfInBounds_toArray, List.set_cons_zero, List.set_cons_succ]
        refine wpAnyH_take (i := 9) (oi := ?_) (v := ?_) ?_ (by kernel_rfl) (by kernel_rfl) (by kernel_rfl) ?_ (Or.inl ⟨?_, ?_⟩) (by assumption) ?_
        rotate_left 2
        · simp only [List.getElem?_toArray, List.getElem?_cons_succ, List.getElem?_cons_zero]; rfl
        · exact fun _ _ _ h => h
        · rfl
        · intro w hSw; (try dsimp only at hSw); go_simp; (try with_reducible rfl)
        try simp only [Act.put, List.setIfInBounds_toArray, List.set_cons_zero, List.set_cons_succ]
        refine wpAnyH_take (i := 10) (oi := ?_) (v := ?_) ?_ (by kernel_rfl) (by kernel_rfl) (by kernel_rfl) ?_ (Or.inl ⟨?_, ?_⟩) (by assumption) ?_
        rotate_left 2
        · simp only [List.getElem?_toArray, List.getElem?_cons_succ, List.getElem?_cons_zero]; rfl
        · exact fun _ _ _ h => h
        · rfl
        · intro w hSw; (try dsimp only at hSw); go_simp; (try with_reducible rfl)
        try simp only [Act.put, List.setIfInBounds_toArray, List.set_cons_zero, List.set_cons_succ]
        refine wpAnyH_take (i := 11) (oi := ?_) (v := ?_) ?_ (by kernel_rfl) (by kernel_rfl) (by kernel_rfl) ?_ (Or.inl ⟨?_, ?_⟩) (by assumption) ?_
        rotate_left 2
        · simp only [List.getElem?_toArray, List.getElem?_cons_succ, List.getElem?_cons_zero]; rfl
        · exact fun _ _ _ h => h
        · rfl
        · intro w hSw; (try dsimp only at hSw); go_simp; (try with_reducible rfl)
        try simp only [Act.put, List.setIfInBounds_toArray, List.set_cons_zero, List.set_cons_succ]
        refine wpAnyH_take (i := 13) (oi := ?_) (v := ?_) ?_ (by kernel_rfl) (by kernel_rfl) (by kernel_rfl) ?_ (Or.inl ⟨?_, ?_⟩) (by assumption) ?_
        rotate_left 2
        · simp only [List.getElem?_toArray, List.getElem?_cons_succ, List.getElem?_cons_zero]; rfl
        · exact fun _ _ _ h => h
        · rfl
        · intro w hSw; (try dsimp only at hSw); go_simp; (try with_reducible rfl)
        try simp only [Act.put, List.setIfInBounds_toArray, List.set_cons_zero, List.set_cons_succ]
        refine wpAnyH_ready (rs := [12]) (by kernel_rfl) (by simp) ?_
        refine AllReadyH.cons (o := ?_) ?_ (fun K hK => ?_) AllReadyH.nil
        rotate_left
        · simp only [List.getElem?_toArray, List.getElem?_cons_succ, List.getElem?_cons_zero]; rfl
        try rw [if_pos (by rfl)]
        go_simp
        go_wp2_with (go_at_call 68; refine (HSUM.out _ hO1).mono ?_; rintro e w11 ⟨rfl, hO2⟩; simp only [sumV])
        refine hK.out _ _ ?_ (fun hHeld => ?_)
        · (first | exact HCS.out _ (by exact H9.out.drew) | exact HCS.out _ hO1 | exact HCS.out _ hO2)
        clear hK K
        try simp only [Act.put, List.setIfInBounds_toArray, List.set_cons_zero, List.set_cons_succ]
        refine wpAnyH_take (i := 14) (oi := ?_) (v := ?_) ?_ (by kernel_rfl) (by kernel_rfl) (by kernel_rfl) ?_ (Or.inl ⟨?_, ?_⟩) (by assumption) ?_
        rotate_left 2
        · simp only [List.getElem?_toArray, List.getElem?_cons_succ, List.getElem?_cons_zero]; rfl
        · exact fun _ _ _ h => h
        · rfl
        · intro w hSw; (try dsimp only at hSw); go_simp; (try with_reducible rfl)
        try simp only [Act.put, List.setIfInBounds_toArray, List.set_cons_zero, List.set_cons_succ]
        refine wpAnyH_take (i := 15) (oi := ?_) (v := ?_) ?_ (by kernel_rfl) (by kernel_rfl) (by kernel_rfl) ?_ (Or.inl ⟨?_, ?_⟩) (by assumption) ?_
        rotate_left 2
        · simp only [List.getElem?_toArray, List.getElem?_cons_succ, List.getElem?_cons_zero]; rfl
        · exact fun _ _ _ h => h
        · rfl
        · intro w hSw; (try dsimp only at hSw); go_simp; (try with_reducible rfl)
        try simp only [Act.put, List.setIfInBounds_toArray, List.set_cons_zero, List.set_cons_succ]
        refine wpAnyH_take (i := 16) (oi := ?_) (v := ?_) ?_ (by kernel_rfl) (by kernel_rfl) (by kernel_rfl) ?_ (Or.inl ⟨?_, ?_⟩) (by assumption) ?_
        rotate_left 2
        · simp only [List.getElem?_toArray, List.getElem?_cons_succ, List.getElem?_cons_zero]; rfl
        · exact fun _ _ _ h => h
        · rfl
        · intro w hSw; (try dsimp only at hSw); go_simp; (try with_reducible rfl)
        try simp only [Act.put, List.setIfInBounds_toArray, List.set_cons_zero, List.set_cons_succ]
        refine wpAnyH_take (i := 17) (oi := ?_) (v := ?_) ?_ (by kernel_rfl) (by kernel_rfl) (by kernel_rfl) ?_ (Or.inl ⟨?_, ?_⟩) (by assumption) ?_
        rotate_left 2
        · simp only [List.getElem?_toArray, List.getElem?_cons_succ, List.getElem?_cons_zero]; rfl
        · exact fun _ _ _ h => h
        · rfl
        · intro w hSw; (try dsimp only at hSw); go_simp; (try with_reducible rfl)
        try simp only [Act.put, List.setIfInBounds_toArray, List.set_cons_zero, List.set_cons_succ]
        refine wpAnyH_take (i := 18) (oi := ?_) (v := ?_) ?_ (by kernel_rfl) (by kernel_rfl) (by kernel_rfl) ?_ (Or.inl ⟨?_, ?_⟩) (by assumption) ?_
        rotate_left 2
        · simp only [List.getElem?_toArray, List.getElem?_cons_succ, List.getElem?_cons_zero]; rfl
        · exact fun _ _ _ h => h
        · rfl
        · intro w hSw; (try dsimp only at hSw); go_simp; (try with_reducible rfl)
        try simp only [Act.put, List.setIfInBounds_toArray, List.set_cons_zero, List.set_cons_succ]
        refine wpAnyH_take (i := 19) (oi := ?_) (v := ?_) ?_ (by kernel_rfl) (by kernel_rfl) (by kernel_rfl) ?_ (Or.inl ⟨?_, ?_⟩) (by assumption) ?_
        rotate_left 2
        · simp only [List.getElem?_toArray, List.getElem?_cons_succ, List.getElem?_cons_zero]; rfl
        · exact fun _ _ _ h => h
        · rfl
        · intro w hSw; (try dsimp only at hSw); go_simp; (try with_reducible rfl)
        try simp only [Act.put, List.setIfInBounds_toArray, List.set_cons_zero, List.set_cons_succ]
        refine wpAnyH_take (i := 20) (oi := ?_) (v := ?_) ?_ (by kernel_rfl) (by kernel_rfl) (by kernel_rfl) ?_ (Or.inl ⟨?_, ?_⟩) (by assumption) ?_
        rotate_left 2
        · simp only [List.getElem?_toArray, List.getElem?_cons_succ, List.getElem?_cons_zero]; rfl
        · exact fun _ _ _ h => h
        · rfl
        · intro w hSw; (try dsimp only at hSw); go_simp; (try with_reducible rfl)
        try simp only [Act.put, List.setIfInBounds_toArray, List.set_cons_zero, List.set_cons_succ]
        refine wpAnyH_take (i := 22) (oi := ?_) (v := ?_) ?_ (by kernel_rfl) (by kernel_rfl) (by kernel_rfl) ?_ (Or.inl ⟨?_, ?_⟩) (by assumption) ?_
        rotate_left 2
        · simp only [List.getElem?_toArray, List.getElem?_cons_succ, List.getElem?_cons_zero]; rfl
        · exact fun _ _ _ h => h
        · rfl
        · intro w hSw; (try dsimp only at hSw); go_simp; (try with_reducible rfl)
        try simp only [Act.put, List.setIfInBounds_toArray, List.set_cons_zero, List.set_cons_succ]
        refine wpAnyH_take (i := 23) (oi := ?_) (v := ?_) ?_ (by kernel_rfl) (by kernel_rfl) (by kernel_rfl) ?_ (Or.inl ⟨?_, ?_⟩) (by assumption) ?_
        rotate_left 2
        · simp only [List.getElem?_toArray, List.getElem?_cons_succ, List.getElem?_cons_zero]; rfl
        · exact fun _ _ _ h => h
        · rfl
        · intro w hSw; (try dsimp only at hSw); go_simp; (try with_reducible rfl)
        try simp only [Act.put, List.setIfInBounds_toArray, List.set_cons_zero, List.set_cons_succ]
        refine wpAnyH_take (i := 24) (oi := ?_) (v := ?_) ?_ (by kernel_rfl) (by kernel_rfl) (by kernel_rfl) ?_ (Or.inl ⟨?_, ?_⟩) (by assumption) ?_
        rotate_left 2
        · simp only [List.getElem?_toArray, List.getElem?_cons_succ, List.getElem?_cons_zero]; rfl
        · exact fun _ _ _ h => h
        · rfl
        · intro w hSw; (try dsimp only at hSw); go_simp; (try with_reducible rfl)
        try simp only [Act.put, List.setIfInBounds_toArray, List.set_cons_zero, List.set_cons_succ]
        refine wpAnyH_ready (rs := [21]) (by kernel_rfl) (by simp) ?_
        refine AllReadyH.cons (o := ?_) ?_ (fun K hK => ?_) AllReadyH.nil
        rotate_left
        · simp only [List.getElem?_toArray, List.getElem?_cons_succ, List.getElem?_cons_zero]; rfl
        try rw [if_pos (by rfl)]
        go_simp
        go_wp2_with (go_at_call 22; refine (CNTa.out _ hO2).mono ?_; rintro e w12 ⟨rfl, rfl⟩)
        refine hK.out _ _ ?_ (fun hHeld => ?_)
        · (first | exact HCS.out _ (by exact H9.out.drew) | exact HCS.out _ hO1 | exact HCS.out _ hO2)
        clear hK K
        try simp only [Act.put, List.setIfInBounds_toArray, List.set_cons_zero, List.set_cons_succ]
        refine wpAnyH_take (i := 25) (oi := ?_) (v := ?_) ?_ (by kernel_rfl) (by kernel_rfl) (by kernel_rfl) ?_ (Or.inl ⟨?_, ?_⟩) (by assumption) ?_
        rotate_left 2
        · simp only [List.getElem?_toArray, List.getElem?_cons_succ, List.getElem?_cons_zero]; rfl
        · exact fun _ _ _ h => h
        · rfl
        · intro w hSw; (try dsimp only at hSw); go_simp; (try with_reducible rfl)
        try simp only [Act.put, List.setIfInBounds_toArray, List.set_cons_zero, List.set_cons_succ]
        refine wpAnyH_take (i := 26) (oi := ?_) (v := ?_) ?_ (by kernel_rfl) (by kernel_rfl) (by kernel_rfl) ?_ (Or.inl ⟨?_, ?_⟩) (by assumption) ?_
        rotate_left 2
        · simp only [List.getElem?_toArray, List.getElem?_cons_succ, List.getElem?_cons_zero]; rfl
        · exact fun _ _ _ h => h
        · rfl
        · intro w hSw; (try dsimp only at hSw); go_simp; (try with_reducible rfl)
        try simp only [Act.put, List.setIfInBounds_toArray, List.set_cons_zero, List.set_cons_succ]
        refine wpAnyH_take (i := 27) (oi := ?_) (v := ?_) ?_ (by kernel_rfl) (by kernel_rfl) (by kernel_rfl) ?_ (Or.inl ⟨?_, ?_⟩) (by assumption) ?_
        rotate_left 2
        · simp only [List.getElem?_toArray, List.getElem?_cons_succ, List.getElem?_cons_zero]; rfl
        · exact fun _ _ _ h => h
        · rfl
        · intro w hSw; (try dsimp only at hSw); go_simp; (try with_reducible rfl)
        try simp only [Act.put, List.setIfInBounds_toArray, List.set_cons_zero, List.set_cons_succ]
        refine wpAnyH_take (i := 28) (oi := ?_) (v := ?_) ?_ (by kernel_rfl) (by kernel_rfl) (by kernel_rfl) ?_ (Or.inl ⟨?_, ?_⟩) (by assumption) ?_
        rotate_left 2
        · simp only [List.getElem?_toArray, List.getElem?_cons_succ, List.getElem?_cons_zero]; rfl
        · exact fun _ _ _ h => h
        · rfl
        · intro w hSw; (try dsimp only at hSw); go_simp; (try with_reducible rfl)
        try simp only [Act.put, List.setIfInBounds_toArray, List.set_cons_zero, List.set_cons_succ]
        refine wpAnyH_take (i := 29) (oi := ?_) (v := ?_) ?_ (by kernel_rfl) (by kernel_rfl) (by kernel_rfl) ?_ (Or.inl ⟨?_, ?_⟩) (by assumption) ?_
        rotate_left 2
        · simp only [List.getElem?_toArray, List.getElem?_cons_succ, List.getElem?_cons_zero]; rfl
        · exact fun _ _ _ h => h
        · rfl
        · intro w hSw; (try dsimp only at hSw); go_simp; (try with_reducible rfl)
        try simp only [Act.put, List.setIfInBounds_toArray, List.set_cons_zero, List.set_cons_succ]
        refine wpAnyH_take (i := 30) (oi := ?_) (v := ?_) ?_ (by kernel_rfl) (by kernel_rfl) (by kernel_rfl) ?_ (Or.inl ⟨?_, ?_⟩) (by assumption) ?_
        rotate_left 2
        · simp only [List.getElem?_toArray, List.getElem?_cons_succ, List.getElem?_cons_zero]; rfl
        · exact fun _ _ _ h => h
        · rfl
        · intro w hSw; (try dsimp only at hSw); go_simp; (try with_reducible rfl)
        try simp only [Act.put, List.setIfInBounds_toArray, List.set_cons_zero, List.set_cons_succ]
        refine wpAnyH_take (i := 31) (oi := ?_) (v := ?_) ?_ (by kernel_rfl) (by kernel_rfl) (by kernel_rfl) ?_ (Or.inl ⟨?_, ?_⟩) (by assumption) ?_
        rotate_left 2
        · simp only [List.getElem?_toArray, List.getElem?_cons_succ, List.getElem?_cons_zero]; rfl
        · exact fun _ _ _ h => h
        · rfl
        · intro w hSw; (try dsimp only at hSw); go_simp; (try with_reducible rfl)
        try simp only [Act.put, List.setIfInBounds_toArray, List.set_cons_zero, List.set_cons_succ]
        refine wpAnyH_take (i := 32) (oi := ?_) (v := ?_) ?_ (by kernel_rfl) (by kernel_rfl) (by kernel_rfl) ?_ (Or.inl ⟨?_, ?_⟩) (by assumption) ?_
        rotate_left 2
        · simp only [List.getElem?_toArray, List.getElem?_cons_succ, List.getElem?_cons_zero]; rfl
        · exact fun _ _ _ h => h
        · rfl
        · intro w hSw; (try dsimp only at hSw); go_simp; (try with_reducible rfl)
        try simp only [Act.put, List.setIfInBounds_toArray, List.set_cons_zero, List.set_cons_succ]
        refine wpAnyH_take (i := 33) (oi := ?_) (v := ?_) ?_ (by kernel_rfl) (by kernel_rfl) (by kernel_rfl) ?_ (Or.inl ⟨?_, ?_⟩) (by assumption) ?_
        rotate_left 2
        · simp only [List.getElem?_toArray, List.getElem?_cons_succ, List.getElem?_cons_zero]; rfl
        · exact fun _ _ _ h => h
        · rfl
        · intro w hSw; (try dsimp only at hSw); go_simp; (try with_reducible rfl)
        try simp only [Act.put, List.setIfInBounds_toArray, List.set_cons_zero, List.set_cons_succ]
        refine wpAnyH_take (i := 34) (oi := ?_) (v := ?_) ?_ (by kernel_rfl) (by kernel_rfl) (by kernel_rfl) ?_ (Or.inl ⟨?_, ?_⟩) (by assumption) ?_
        rotate_left 2
        · simp only [List.getElem?_toArray, List.getElem?_cons_succ, List.getElem?_cons_zero]; rfl
        · exact fun _ _ _ h => h
        · rfl
        · intro w hSw; (try dsimp only at hSw); go_simp; (try with_reducible rfl)
        try simp only [Act.put, List.setIfInBounds_toArray, List.set_cons_zero, List.set_cons_succ]
        refine wpAnyH_take (i := 35) (oi := ?_) (v := ?_) ?_ (by kernel_rfl) (by kernel_rfl) (by kernel_rfl) ?_ (Or.inl ⟨?_, ?_⟩) (by assumption) ?_
        rotate_left 2
        · simp only [List.getElem?_toArray, List.getElem?_cons_succ, List.getElem?_cons_zero]; rfl
        · exact fun _ _ _ h => h
        · rfl
        · intro w hSw; (try dsimp only at hSw); go_simp; (try with_reducible rfl)
        try simp only [Act.put, List.setIfInBounds_toArray, List.set_cons_zero, List.set_cons_succ]
        refine wpAnyH_take (i := 36) (oi := ?_) (v := ?_) ?_ (by kernel_rfl) (by kernel_rfl) (by kernel_rfl) ?_ (Or.inl ⟨?_, ?_⟩) (by assumption) ?_
        rotate_left 2
        · simp only [List.getElem?_toArray, List.getElem?_cons_succ, List.getElem?_cons_zero]; rfl
        · exact fun _ _ _ h => h
        · rfl
        · intro w hSw; (try dsimp only at hSw); go_simp; (try with_reducible rfl)
        try simp only [Act.put, List.setIfInBounds_toArray, List.set_cons_zero, List.set_cons_succ]
        refine wpAnyH_take (i := 37) (oi := ?_) (v := ?_) ?_ (by kernel_rfl) (by kernel_rfl) (by kernel_rfl) ?_ (Or.inl ⟨?_, ?_⟩) (by assumption) ?_
        rotate_left 2
        · simp only [List.getElem?_toArray, List.getElem?_cons_succ, List.getElem?_cons_zero]; rfl
        · exact fun _ _ _ h => h
        · rfl
        · intro w hSw; (try dsimp only at hSw); go_simp; (try with_reducible rfl)
        try simp only [Act.put, List.setIfInBounds_toArray, List.set_cons_zero, List.set_cons_succ]
        refine wpAnyH_take (i := 38) (oi := ?_) (v := undef) ?_ (by kernel_rfl) (by kernel_rfl) (by kernel_rfl) ?_ (Or.inr ⟨?_, rfl⟩) (by assumption) ?_
        rotate_left
        · simp only [List.getElem?_toArray, List.getElem?_cons_succ, List.getElem?_cons_zero]; rfl
        · exact fun _ _ _ h => h
        · rfl
        try simp only [Act.put, List.setIfInBounds_toArray, List.set_cons_zero, List.set_cons_succ]
        refine wpAnyH_take (i := 39) (oi := ?_) (v := undef) ?_ (by kernel_rfl) (by kernel_rfl) (by kernel_rfl) ?_ (Or.inr ⟨?_, rfl⟩) (by assumption) ?_
        rotate_left
        · simp only [List.getElem?_toArray, List.getElem?_cons_succ, List.getElem?_cons_zero]; rfl
        · exact fun _ _ _ h => h
        · rfl
        try simp only [Act.put, List.setIfInBounds_toArray, List.set_cons_zero, List.set_cons_succ]
        refine wpAnyH_take (i := 40) (oi := ?_) (v := undef) ?_ (by kernel_rfl) (by kernel_rfl) (by kernel_rfl) ?_ (Or.inr ⟨?_, rfl⟩) (by assumption) ?_
        rotate_left
        · simp only [List.getElem?_toArray, List.getElem?_cons_succ, List.getElem?_cons_zero]; rfl
        · exact fun _ _ _ h => h
        · rfl
        try simp only [Act.put, List.setIfInBounds_toArray, List.set_cons_zero, List.set_cons_succ]
        refine wpAnyH_take (i := 41) (oi := ?_) (v := undef) ?_ (by kernel_rfl) (by kernel_rfl) (by kernel_rfl) ?_ (Or.inr ⟨?_, rfl⟩) (by assumption) ?_
        rotate_left
        · simp only [List.getElem?_toArray, List.getElem?_cons_succ, List.getElem?_cons_zero]; rfl
        · exact fun _ _ _ h => h
        · rfl
        try simp only [Act.put, List.setIfInBounds_toArray, List.set_cons_zero, List.set_cons_succ]
        refine wpAnyH_take (i := 42) (oi := ?_) (v := undef) ?_ (by kernel_rfl) (by kernel_rfl) (by kernel_rfl) ?_ (Or.inr ⟨?_, rfl⟩) (by assumption) ?_
        rotate_left
        · simp only [List.getElem?_toArray, List.getElem?_cons_succ, List.getElem?_cons_zero]; rfl
        · exact fun _ _ _ h => h
        · rfl
        try simp only [Act.put, List.setIfInBounds_toArray, List.set_cons_zero, List.set_cons_succ]
        refine wpAnyH_take (i := 43) (oi := ?_) (v := undef) ?_ (by kernel_rfl) (by kernel_rfl) (by kernel_rfl) ?_ (Or.inr ⟨?_, rfl⟩) (by assumption) ?_
        rotate_left
        · simp only [List.getElem?_toArray, List.getElem?_cons_succ, List.getElem?_cons_zero]; rfl
        · exact fun _ _ _ h => h
        · rfl
        try simp only [Act.put, List.setIfInBounds_toArray, List.set_cons_zero, List.set_cons_succ]
        refine wpAnyH_take (i := 44) (oi := ?_) (v := undef) ?_ (by kernel_rfl) (by kernel_rfl) (by kernel_rfl) ?_ (Or.inr ⟨?_, rfl⟩) (by assumption) ?_
        rotate_left
        · simp only [List.getElem?_toArray, List.getElem?_cons_succ, List.getElem?_cons_zero]; rfl
        · exact fun _ _ _ h => h
        · rfl
        try simp only [Act.put, List.setIfInBounds_toArray, List.set_cons_zero, List.set_cons_succ]
        refine wpAnyH_take (i := 45) (oi := ?_) (v := undef) ?_ (by kernel_rfl) (by kernel_rfl) (by kernel_rfl) ?_ (Or.inr ⟨?_, rfl⟩) (by assumption) ?_
        rotate_left
        · simp only [List.getElem?_toArray, List.getElem?_cons_succ, List.getElem?_cons_zero]; rfl
        · exact fun _ _ _ h => h
        · rfl
        try simp only [Act.put, List.setIfInBounds_toArray, List.set_cons_zero, List.set_cons_succ]
        refine wpAnyH_take (i := 46) (oi := ?_) (v := ?_) ?_ (by kernel_rfl) (by kernel_rfl) (by kernel_rfl) ?_ (Or.inl ⟨?_, ?_⟩) (by assumption) ?_
        rotate_left 2
        · simp only [List.getElem?_toArray, List.getElem?_cons_succ, List.getElem?_cons_zero]; rfl
        · exact fun _ _ _ h => h
        · rfl
        · intro w hSw; (try dsimp only at hSw); go_simp; (try with_reducible rfl)
        try simp only [Act.put, List.setIfInBounds_toArray, List.set_cons_zero, List.set_cons_succ]
        refine wpAnyH_take (i := 47) (oi := ?_) (v := ?_) ?_ (by kernel_rfl) (by kernel_rfl) (by kernel_rfl) ?_ (Or.inl ⟨?_, ?_⟩) (by assumption) ?_
        rotate_left 2
        · simp only [List.getElem?_toArray, List.getElem?_cons_succ, List.getElem?_cons_zero]; rfl
        · exact fun _ _ _ h => h
        · rfl
        · intro w hSw; (try dsimp only at hSw); go_simp; (try with_reducible rfl)
        try simp only [Act.put, List.setIfInBounds_toArray, List.set_cons_zero, List.set_cons_succ]
        refine wpAnyH_take (i := 48) (oi := ?_) (v := ?_) ?_ (by kernel_rfl) (by kernel_rfl) (by kernel_rfl) ?_ (Or.inl ⟨?_, ?_⟩) (by assumption) ?_
        rotate_left 2
        · simp only [List.getElem?_toArray, List.getElem?_cons_succ, List.getElem?_cons_zero]; rfl
        · exact fun _ _ _ h => h
        · rfl
        · intro w hSw; (try dsimp only at hSw); go_simp; (try with_reducible rfl)
        try simp only [Act.put, List.setIfInBounds_toArray, List.set_cons_zero, List.set_cons_succ]
        refine wpAnyH_take (i := 49) (oi := ?_) (v := ?_) ?_ (by kernel_rfl) (by kernel_rfl) (by kernel_rfl) ?_ (Or.inl ⟨?_, ?_⟩) (by assumption) ?_
        rotate_left 2
        · simp only [List.getElem?_toArray, List.getElem?_cons_succ, List.getElem?_cons_zero]; rfl
        · exact fun _ _ _ h => h
        · rfl
        · intro w hSw; (try dsimp only at hSw); go_simp; (try with_reducible rfl)
        try simp only [Act.put, List.setIfInBounds_toArray, List.set_cons_zero, List.set_cons_succ]
        refine wpAnyH_take (i := 50) (oi := ?_) (v := ?_) ?_ (by kernel_rfl) (by kernel_rfl) (by kernel_rfl) ?_ (Or.inl ⟨?_, ?_⟩) (by assumption) ?_
        rotate_left 2
        · simp only [List.getElem?_toArray, List.getElem?_cons_succ, List.getElem?_cons_zero]; rfl
        · exact fun _ _ _ h => h
        · rfl
        · intro w hSw; (try dsimp only at hSw); go_simp; (try with_reducible rfl)
        try simp only [Act.put, List.setIfInBounds_toArray, List.set_cons_zero, List.set_cons_succ]
        refine wpAnyH_take (i := 51) (oi := ?_) (v := ?_) ?_ (by kernel_rfl) (by kernel_rfl) (by kernel_rfl) ?_ (Or.inl ⟨?_, ?_⟩) (by assumption) ?_
        rotate_left 2
        · simp only [List.getElem?_toArray, List.getElem?_cons_succ, List.getElem?_cons_zero]; rfl
        · exact fun _ _ _ h => h
        · rfl
        · intro w hSw; (try dsimp only at hSw); go_simp; (try with_reducible rfl)
        try simp only [Act.put, List.setIfInBounds_toArray, List.set_cons_zero, List.set_cons_succ]
        refine wpAnyH_take (i := 52) (oi := ?_) (v := ?_) ?_ (by kernel_rfl) (by kernel_rfl) (by kernel_rfl) ?_ (Or.inl ⟨?_, ?_⟩) (by assumption) ?_
        rotate_left 2
        · simp only [List.getElem?_toArray, List.getElem?_cons_succ, List.getElem?_cons_zero]; rfl
        · exact fun _ _ _ h => h
        · rfl
        · intro w hSw; (try dsimp only at hSw); go_simp; (try with_reducible rfl)
        try simp only [Act.put, List.setIfInBounds_toArray, List.set_cons_zero, List.set_cons_succ]
        refine wpAnyH_take (i := 54) (oi := ?_) (v := ?_) ?_ (by kernel_rfl) (by kernel_rfl) (by kernel_rfl) ?_ (Or.inl ⟨?_, ?_⟩) (by assumption) ?_
        rotate_left 2
        · simp only [List.getElem?_toArray, List.getElem?_cons_succ, List.getElem?_cons_zero]; rfl
        · exact fun _ _ _ h => h
        · rfl
        · intro w hSw; (try dsimp only at hSw); go_simp; (try with_reducible rfl)
        try simp only [Act.put, List.setIfInBounds_toArray, List.set_cons_zero, List.set_cons_succ]
        refine wpAnyH_take (i := 55) (oi := ?_) (v := ?_) ?_ (by kernel_rfl) (by kernel_rfl) (by kernel_rfl) ?_ (Or.inl ⟨?_, ?_⟩) (by assumption) ?_
        rotate_left 2
        · simp only [List.getElem?_toArray, List.getElem?_cons_succ, List.getElem?_cons_zero]; rfl
        · exact fun _ _ _ h => h
        · rfl
        · intro w hSw; (try dsimp only at hSw); go_simp; (try with_reducible rfl)
        try simp only [Act.put, List.setIfInBounds_toArray, List.set_cons_zero, List.set_cons_succ]
        refine wpAnyH_take (i := 56) (oi := ?_) (v := ?_) ?_ (by kernel_rfl) (by kernel_rfl) (by kernel_rfl) ?_ (Or.inl ⟨?_, ?_⟩) (by assumption) ?_
        rotate_left 2
        · simp only [List.getElem?_toArray, List.getElem?_cons_succ, List.getElem?_cons_zero]; rfl
        · exact fun _ _ _ h => h
        · rfl
        · intro w hSw; (try dsimp only at hSw); go_simp; (try with_reducible rfl)
        try simp only [Act.put, List.setIfInBounds_toArray, List.set_cons_zero, List.set_cons_succ]
        refine wpAnyH_ready (rs := [53]) (by kernel_rfl) (by simp) ?_
        refine AllReadyH.cons (o := ?_) ?_ (fun K hK => ?_) AllReadyH.nil
        rotate_left
        · simp only [List.getElem?_toArray, List.getElem?_cons_succ, List.getElem?_cons_zero]; rfl
        try rw [if_pos (by rfl)]
        go_simp
        go_wp2_with (go_at_call 22; refine (CNTb.out _ hO2).mono ?_; rintro e w13 ⟨rfl, rfl⟩)
        refine hK.out _ _ ?_ (fun hHeld => ?_)
        · (first | exact HCS.out _ (by exact H9.out.drew) | exact HCS.out _ hO1 | exact HCS.out _ hO2)
        clear hK K
        try simp only [Act.put, List.setIfInBounds_toArray, List.set_cons_zero, List.set_cons_succ]
        refine wpAnyH_take (i := 57) (oi := ?_) (v := ?_) ?_ (by kernel_rfl) (by kernel_rfl) (by kernel_rfl) ?_ (Or.inl ⟨?_, ?_⟩) (by assumption) ?_
        rotate_left 2
        · simp only [List.getElem?_toArray, List.getElem?_cons_succ, List.getElem?_cons_zero]; rfl
        · exact fun _ _ _ h => h
        · rfl
        · intro w hSw; (try dsimp only at hSw); go_simp; (try with_reducible rfl)
        try simp only [Act.put, List.setIfInBounds_toArray, List.set_cons_zero, List.set_cons_succ]
        refine wpAnyH_take (i := 58) (oi := ?_) (v := ?_) ?_ (by kernel_rfl) (by kernel_rfl) (by kernel_rfl) ?_ (Or.inl ⟨?_, ?_⟩) (by assumption) ?_
        rotate_left 2
        · simp only [List.getElem?_toArray, List.getElem?_cons_succ, List.getElem?_cons_zero]; rfl
        · exact fun _ _ _ h => h
        · rfl
        · intro w hSw; (try dsimp only at hSw); go_simp; (try with_reducible rfl)
        try simp only [Act.put, List.setIfInBounds_toArray, List.set_cons_zero, List.set_cons_succ]
        refine wpAnyH_take (i := 59) (oi := ?_) (v := ?_) ?_ (by kernel_rfl) (by kernel_rfl) (by kernel_rfl) ?_ (Or.inl ⟨?_, ?_⟩) (by assumption) ?_
        rotate_left 2
        · simp only [List.getElem?_toArray, List.getElem?_cons_succ, List.getElem?_cons_zero]; rfl
        · exact fun _ _ _ h => h
        · rfl
        · intro w hSw; (try dsimp only at hSw); go_simp; (try with_reducible rfl)
        try simp only [Act.put, List.setIfInBounds_toArray, List.set_cons_zero, List.set_cons_succ]
        refine wpAnyH_take (i := 60) (oi := ?_) (v := ?_) ?_ (by kernel_rfl) (by kernel_rfl) (by kernel_rfl) ?_ (Or.inl ⟨?_, ?_⟩) (by assumption) ?_
        rotate_left 2
        · simp only [List.getElem?_toArray, List.getElem?_cons_succ, List.getElem?_cons_zero]; rfl
        · exact fun _ _ _ h => h
        · rfl
        · intro w hSw; (try dsimp only at hSw); go_simp; (try with_reducible rfl)
        try simp only [Act.put, List.setIfInBounds_toArray, List.set_cons_zero, List.set_cons_succ]
        refine wpAnyH_ready (rs := [61]) (by kernel_rfl) (by simp) ?_
        refine AllReadyH.cons (o := ?_) ?_ (fun K hK => ?_) AllReadyH.nil
        rotate_left
        · simp only [List.getElem?_toArray, List.getElem?_cons_succ, List.getElem?_cons_zero]; rfl
        try rw [if_pos (by rfl)]
        go_simp
        go_wp2_with (go_at_call 42; refine (HFROM.out _ hO2).mono ?_; rintro e w14 ⟨rfl, rfl⟩)
        refine hK.out _ _ ?_ (fun hHeld => ?_)
        · (first | exact HCS.out _ (by exact H9.out.drew) | exact HCS.out _ hO1 | exact HCS.out _ hO2)
        clear hK K
        try simp only [Act.put, List.setIfInBounds_toArray, List.set_cons_zero, List.set_cons_succ]
        refine wpAnyH_take (i := 62) (oi := ?_) (v := ?_) ?_ (by kernel_rfl) (by kernel_rfl) (by kernel_rfl) ?_ (Or.inl ⟨?_, ?_⟩) (by assumption) ?_
        rotate_left 2
        · simp only [List.getElem?_toArray, List.getElem?_cons_succ, List.getElem?_cons_zero]; rfl
        · exact fun _ _ _ h => h
        · rfl
        · intro w hSw; (try dsimp only at hSw); go_simp; (try with_reducible rfl)
        try simp only [Act.put, List.setIfInBounds_toArray, List.set_cons_zero, List.set_cons_succ]
        refine wpAnyH_take (i := 63) (oi := ?_) (v := ?_) ?_ (by kernel_rfl) (by kernel_rfl) (by kernel_rfl) ?_ (Or.inl ⟨?_, ?_⟩) (by assumption) ?_
        rotate_left 2
        · simp only [List.getElem?_toArray, List.getElem?_cons_succ, List.getElem?_cons_zero]; rfl
        · exact fun _ _ _ h => h
        · rfl
        · intro w hSw; (try dsimp only at hSw); go_simp; (try with_reducible rfl)
        try simp only [Act.put, List.setIfInBounds_toArray, List.set_cons_zero, List.set_cons_succ]
        refine wpAnyH_take (i := 64) (oi := ?_) (v := ?_) ?_ (by kernel_rfl) (by kernel_rfl) (by kernel_rfl) ?_ (Or.inl ⟨?_, ?_⟩) (by assumption) ?_
        rotate_left 2
        · simp only [List.getElem?_toArray, List.getElem?_cons_succ, List.getElem?_cons_zero]; rfl
        · exact fun _ _ _ h => h
        · rfl
        · intro w hSw; (try dsimp only at hSw); go_simp; (try with_reducible rfl)
        try simp only [Act.put, List.setIfInBounds_toArray, List.set_cons_zero, List.set_cons_succ]
        refine wpAnyH_done (by kernel_rfl) ?_ _
        have HO2 := Lib.hid hO2
        clear hO1 hO2
        go_wp2
        go_ret
        exact ⟨rfl, HO2.out.below⟩
      · have hzne : zs ≠ [] := fun h => by have := HZL.out; rw [h] at this; simp at this; omega
        have hpos : decide (0 < total c3.l) = true := by rw [ht3]; simp; omega
        have hlo := (hb3 hzne).1
        have hhi := (hb3 hzne).2
        have hj1 : (0 : Int) < (j : Int) := by omega
        have hj2 : 0 < j := by omega
        have hj3 : decide ((0 : Int) < (j : Int)) = true := decide_eq_true hj1
        have hj4 : decide (0 < j) = true := decide_eq_true hj2
        have HPOS := Lib.hid hpos
        have HLO := Lib.hid hlo
        have HHI := Lib.hid hhi
        clear hcells hsame hsumc hcnta hcntb hfrom hO10 hO11 hCm' hc3ok hHa hLm hHb hLb hs3 hb3 hcc ht3 hf3 hln ht2 hpos hk hlo hhi hzne hj0
        go_wp2_with fail
        refine (CBounds c3 ba Lm (Lc ++ (Lb ++ ((ws, sumObj sm) :: (L ++ L4)))) w _ HC3'.out HCm.out H11.out).mono ?_
        rintro e w11 ⟨rfl, hO12⟩
        rw [HPOS.out, HLO.out, HHI.out]
        have H9 := Lib.hid hO12
        obtain ⟨q0, q1, q2, q3⟩ := HCS.out _ hO12
        clear hO12
        go_wp2_with fail
        simp only [List.append_eq, List.cons_append, List.nil_append]
        go_region_held3 (fun w' => w'.cell? ⟨ba, 0, none⟩ = some (.pointer (some ⟨ha, 0, none⟩)) ∧ w'.cell? ⟨bb, 0, none⟩ = some (.pointer (some ⟨hb, 0, none⟩)) ∧ w'.cell? ⟨ws, 0, none⟩ = some (.int .i64 (hiOf sm)) ∧ w'.cell? ⟨ws, 1, none⟩ = some (.int .u64 (loOf sm)))
          (first | go_keep | exact HCS.out _ hO1 | exact HCS.out _ hO2)
          (first
            | (go_at_call 51; ((with_reducible refine (HSAME.out _ (by exact H9.out.drew)).mono ?_); rintro e w10 ⟨rfl, hO1⟩))
            | (go_at_call 68; ((with_reducible refine (HSUM.out _ hO1).mono ?_); rintro e w11 ⟨rfl, hO2⟩; simp only [sumV]))
            | (go_at_call 22; ((with_reducible refine (CNTa.out _ hO2).mono ?_); rintro e w12 ⟨rfl, rfl⟩))
            | (go_at_call 22; ((with_reducible refine (CNTb.out _ hO2).mono ?_); rintro e w13 ⟨rfl, rfl⟩))
            | (go_at_call 42; ((with_reducible refine (HFROM.out _ hO2).mono ?_); rintro e w14 ⟨rfl, rfl⟩)))
        have HO2 := Lib.hid hO2
        clear hO1 hO2
        go_wp2
        go_ret
        exact ⟨rfl, HO2.out.below⟩

end Go.Proofs.Ytbafepjmogigjaa
