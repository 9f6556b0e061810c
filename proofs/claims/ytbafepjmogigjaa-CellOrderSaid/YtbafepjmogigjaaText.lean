/- The walks of bits.Div64 (at a high word of 0), slices.Reverse (bytes), wide.Text (one digit). -/
import Derived.Test.YtbafepjmogigjaaCellP
namespace Go.Proofs.Ytbafepjmogigjaa
set_option linter.unusedSimpArgs false
set_option linter.unusedVariables false
open Go.RowKit

theorem Div64_zero (x : Nat) (hx : x < 18446744073709551616) (w : World) :
    Calls Try.prog 129 #[.int .u64 0, .int .u64 (x : Int), .int .u64 10] w fun e w' => e = .returned (.tuple #[.int .u64 ((x : Int) / 10), .int .u64 ((x : Int) % 10)]) ∧ ∃ q, w' = w.drewN q := by
  have hw : IntKind.u64.wrap ((x : Int) / 10) = (x : Int) / 10 := by rw [IntKind.wrap_u64]; omega
  have HX := Lib.hid hx
  clear hx
  go_enter Try.func129, Try.ntmps129
  go_wp2_with fail
  go_quiet (fail)
  go_wp2
  go_ret2
  exact ⟨rfl, _, rfl⟩

/-- So many exchanged from both ends. -/
def revI (xs : List UInt8) (i : Nat) : List UInt8 := (List.range xs.length).map fun k => if k < i ∨ xs.length - i ≤ k then xs.getD (xs.length - 1 - k) 0 else xs.getD k 0

theorem revI_len (xs : List UInt8) (i : Nat) : (revI xs i).length = xs.length := by simp [revI]
theorem revI_get (xs : List UInt8) (i k : Nat) (hk : k < xs.length) : (revI xs i)[k]? = some (if k < i ∨ xs.length - i ≤ k then xs.getD (xs.length - 1 - k) 0 else xs.getD k 0) := by
  simp [revI, hk]
theorem revI_zero (xs : List UInt8) : revI xs 0 = xs := by
  apply List.ext_getElem?
  intro k
  by_cases hk : k < xs.length
  · rw [revI_get xs 0 k hk, if_neg (by omega), List.getD_eq_getElem?_getD, List.getElem?_eq_getElem hk]; rfl
  · rw [List.getElem?_eq_none (by rw [revI_len]; omega), List.getElem?_eq_none (by omega)]
theorem revI_full (xs : List UInt8) (i : Nat) (hi : xs.length ≤ 2 * i + 1) : revI xs i = xs.reverse := by
  apply List.ext_getElem?
  intro k
  by_cases hk : k < xs.length
  · rw [revI_get xs i k hk, List.getElem?_reverse hk]
    split
    · rw [List.getD_eq_getElem?_getD, List.getElem?_eq_getElem (by omega)]; rfl
    · have : k = xs.length - 1 - k := by omega
      rw [List.getD_eq_getElem?_getD, ← this, List.getElem?_eq_getElem hk]; rfl
  · rw [List.getElem?_eq_none (by rw [revI_len]; omega), List.getElem?_eq_none (by simp; omega)]
theorem revI_step (xs : List UInt8) (i : Nat) (hi : 2 * i + 1 < xs.length) : ((revI xs i).set i (xs.getD (xs.length - 1 - i) 0)).set (xs.length - 1 - i) (xs.getD i 0) = revI xs (i + 1) := by
  apply List.ext_getElem?
  intro k
  by_cases hk : k < xs.length
  · rw [revI_get xs (i + 1) k hk]
    by_cases e1 : k = xs.length - 1 - i
    · subst e1
      rw [List.getElem?_set_self (by simp [revI_len]; omega), if_pos (by omega)]
      congr 2; omega
    · rw [List.getElem?_set_ne (by omega)]
      by_cases e2 : k = i
      · subst e2
        rw [List.getElem?_set_self (by rw [revI_len]; omega), if_pos (by omega)]
      · rw [List.getElem?_set_ne (by omega), revI_get xs i k hk]
        by_cases c : k < i ∨ xs.length - i ≤ k
        · rw [if_pos c, if_pos (by omega)]
        · rw [if_neg c, if_neg (by omega)]
  · rw [List.getElem?_eq_none (by simp [revI_len]; omega), List.getElem?_eq_none (by rw [revI_len]; omega)]

theorem bytesC_set (xs : List UInt8) (i : Nat) (b : UInt8) : (bytesC xs).set i (.int .u8 (b.toNat : Int)) = bytesC (xs.set i b) := by
  simp [bytesC, List.map_set]
theorem bytesC_getD (xs : List UInt8) (i : Nat) (hi : i < xs.length) : (bytesC xs)[i]? = some (.int .u8 ((xs.getD i 0).toNat : Int)) := by
  rw [List.getD_eq_getElem?_getD, List.getElem?_eq_getElem hi]
  simp [bytesC, hi]

set_option maxRecDepth 100000 in
theorem Reverse_bytes (v : Value) (xs : List UInt8) (L F : List Chunk) (W w : World) (hR : RowC 5 1 v xs.length (bytesC xs) L) (h2 : 2 ≤ xs.length) (hO : Own W w (L ++ F)) :
    Calls Try.prog 130 #[v] w fun e w' => e = .returned (.tuple #[]) ∧ ∃ L', RowC 5 1 v xs.length (bytesC xs.reverse) L' ∧ Own W w' (L' ++ F) := by
  rcases hR.two with ⟨_, h0, _⟩ | ⟨r, o, cap, rfl, hnc, hcm⟩
  · omega
  have hcm' : cap ≤ 9223372036854775807 := by unfold maxLen at hcm; omega
  have H := Lib.hid hO
  have HR := Lib.hid hR
  obtain ⟨n, hn⟩ : ∃ n, n = xs.length := ⟨_, rfl⟩
  have HN := Lib.hid hn
  rw [← hn]
  rw [← hn] at hnc h2
  have hn1 : wrap64 ((n : Int) - 1) = (n : Int) - 1 := by unfold wrap64; omega
  clear hO hR hn hcm
  go_enter Try.func130, Try.ntmps130
  go_wp2_with fail
  go_loopw [2, 3] (fun i j wr => ∃ k : Nat, 2 * k ≤ n ∧ i = .int .i64 (k : Int) ∧ j = .int .i64 ((n : Int) - 1 - (k : Int)) ∧ Hid (∃ L', RowC 5 1 (.slice (some ⟨r, o, none⟩) n cap) n (bytesC (revI xs k)) L' ∧ Own W wr (L' ++ F))) (fun i _ _ => n - (intOf i).toNat)
  case atStart => exact ⟨0, by omega, rfl, by simp, L, by rw [revI_zero, HN.out]; exact HR.out, H.out⟩
  case round =>
    obtain ⟨k, hk, rfl, rfl, hq⟩ := hrel
    by_cases hlt : 2 * k + 1 < n
    · obtain ⟨L', hR', hO'⟩ := hq.out
      obtain ⟨m, hm⟩ : ∃ m, m + k + 1 = n := ⟨n - 1 - k, by omega⟩
      have hj : (n : Int) - 1 - (k : Int) = (m : Int) := by omega
      rw [hj]
      have hkm : k < m := by omega
      have hd : decide ((k : Int) < (m : Int)) = true := decide_eq_true (by omega)
      have hki : (k : Int) < (n : Int) := by omega
      have hmi : (m : Int) < (n : Int) := by omega
      have hkm2 : k ≠ m := by omega
      have hkn : k < n := by omega
      have hmn : m < n := by omega
      rcases hR' with ⟨h, _⟩ | ⟨r', o', cap', c, h, q1, q2, q3, q4, q5, rfl⟩
      · cases h
      cases h
      have hxk : (bytesC (revI xs k))[k]? = some (.int .u8 ((xs.getD k 0).toNat : Int)) := by
        rw [bytesC_getD _ _ (by rw [revI_len]; have := HN.out; omega), List.getD_eq_getElem?_getD, revI_get xs k k (by have := HN.out; omega), if_neg (by have := HN.out; omega)]; rfl
      have hxm : (bytesC (revI xs k))[m]? = some (.int .u8 ((xs.getD m 0).toNat : Int)) := by
        rw [bytesC_getD _ _ (by rw [revI_len]; have := HN.out; omega), List.getD_eq_getElem?_getD, revI_get xs k m (by have := HN.out; omega), if_neg (by have := HN.out; omega)]; rfl
      have c1 := hO'.cell (i := o + k) (.head _) (by rw [q5 k (by omega)]; exact hxk)
      have c2 := hO'.cell (i := o + m) (.head _) (by rw [q5 m (by omega)]; exact hxm)
      have f1 := hO'.free (.head _) (o + k)
      have f2 := hO'.free (.head _) (o + m)
      have hok : o + k ≠ o + m := by omega
      have hok2 : o + m ≠ o + k := by omega
      have hrow : RowC 5 1 (.slice (some ⟨r, o, none⟩) n cap) n (bytesC (revI xs k)) [(r, .cells c 5 (0, 0))] := .inr ⟨r, o, cap, c, rfl, q1, q2, q3, q4, q5, rfl⟩
      have hrow2 := (hrow.setAt k (.int .u8 ((xs.getD m 0).toNat : Int)) (by omega)).setAt m (.int .u8 ((xs.getD k 0).toNat : Int)) (by omega)
      have hst := revI_step xs k (by have := HN.out; omega)
      rw [show xs.length - 1 - k = m by have := HN.out; omega] at hst
      rw [bytesC_set, bytesC_set, hst] at hrow2
      have HRW := Lib.hid hrow2
      have HO2 := Lib.hid (((hO'.set0 (o + k) (.int .u8 ((xs.getD m 0).toNat : Int))).set0 (o + m) (.int .u8 ((xs.getD k 0).toNat : Int))).drew)
      clear hrow hrow2 hst q1 q2 q3 q4 q5 hO' hxk hxm hq hn1
      go_wp2_with fail
      go_region
      go_wp2
      exact ⟨⟨k + 1, by omega, by go_num, by congr 1; omega, _, HRW.out, HO2.out⟩, by simp [intOf]; omega⟩
    · have hd : decide ((k : Int) < (n : Int) - 1 - (k : Int)) = false := decide_eq_false (by omega)
      obtain ⟨L', hR', hO'⟩ := hq.out
      rw [revI_full xs k (by have := HN.out; omega)] at hR'
      go_wp2
      go_end0
      exact ⟨rfl, L', hR', hO'⟩

theorem append_byteI (v : Value) (l : List UInt8) (b : UInt8) (x : Int) (hx : x = (b.toNat : Int)) (L F : List Chunk) (W w : World) (hR : RowC 5 1 v l.length (bytesC l) L) (hO : Own W w (L ++ F)) (hl : l.length ≤ 70368744177664) :
    ∃ v' w' L', (∀ ty, (Builtin.append_ #[153, 153] ty #[v, .slice (some ⟨w.heap.size, 0, none⟩) 1 1]).run Try.prog (w.alloc (.cells #[.int .u8 x] 5)) = .ok v' w') ∧
      RowC 5 1 v' (l ++ [b]).length (bytesC (l ++ [b])) L' ∧ Own W w' (L' ++ F) := by
  subst hx
  exact append_byte v l b L F W w hR hO hl

theorem neg_digit {d : Nat} (h1 : 1 ≤ d) (h9 : d ≤ 9) : hiOf (-(d : Int)) = -1 ∧ loOf (-(d : Int)) = 18446744073709551616 - (d : Int) ∧ hiOf (d : Int) = 0 ∧ loOf (d : Int) = (d : Int) := by
  unfold hiOf loOf wrap64; omega

set_option maxRecDepth 100000 in
set_option maxHeartbeats 1000000 in
theorem WText_digit (d : Nat) (h1 : 1 ≤ d) (h9 : d ≤ 9) (b : UInt8) (hbd : b.toNat = 48 + d) (W w : World) (F : List Chunk) (hO : Own W w F) :
    Calls Try.prog 103 #[.agg #[.int .i64 (hiOf (-(d : Int))), .int .u64 (loOf (-(d : Int)))]] w (RetString [45, b] W F) := by
  have H := Lib.hid hO
  obtain ⟨k1, k2, k3, k4⟩ := neg_digit h1 h9
  have hlt : hiOf (-(d : Int)) < 0 := by omega
  have hO1 := Lib.hid (hO.alloc (.cells #[.int .i64 (hiOf (-(d : Int))), .int .u64 (loOf (-(d : Int)))] 82 (0, 0)))
  have a0 := hO1.out.cell (i := 0) (.head _) rfl
  have a1 := hO1.out.cell (i := 1) (.head _) rfl
  have K3 := Lib.hid k3
  have K4 := Lib.hid k4
  have H1 := Lib.hid h1
  have H9 := Lib.hid h9
  have HBD := Lib.hid hbd
  clear hO k1 k2 k3 k4 h1 h9 hbd
  go_enter Try.func103, Try.ntmps103
  go_wp2_with fail
  refine (WNeg (-(d : Int)) W _ _ hO1.out).mono ?_
  rw [Int.neg_neg]
  rintro e w1 ⟨rfl, hO2⟩
  simp only [sumV]
  rw [K3.out, K4.out]
  have b0 := hO2.cell (i := 0) (.head _) rfl
  have b1 := hO2.cell (i := 1) (.head _) rfl
  have f0 := hO2.free (.head _) 0
  have f1 := hO2.free (.head _) 1
  have hO3 := (hO2.set0 0 (.int .i64 0)).set0 1 (.int .u64 (d : Int))
  have HO3 := Lib.hid hO3
  clear hO2 hO3 a0 a1
  go_wp2_with fail
  generalize (w1.setCell ⟨w.heap.size, 0, none⟩ (.int .i64 0)).setCell ⟨w.heap.size, 1, none⟩ (.int .u64 (d : Int)) = wx at *
  have c0 := HO3.out.cell (i := 0) (.head _) rfl
  have c1 := HO3.out.cell (i := 1) (.head _) rfl
  go_quiet (fail)
  have HO4 := Lib.hid ((HO3.out.drewN nq).le (L' := F) (fun a => by simp only [cnt_append, cnt_cons, cnt_nil]; omega))
  go_wp2_with fail
  generalize wx.drewN nq = wy at *
  have hd1 : (d : Int) / 10 = 0 := by have := H1.out; have := H9.out; omega
  have hd2 : (d : Int) % 10 = (d : Int) := by have := H1.out; have := H9.out; omega
  have hd3 : (d : Int) ≤ 9 := by have := H9.out; omega
  have hd4 : (0 : Int) ≤ (d : Int) := by omega
  go_loopw [4, 5, 6] (fun h l o wr => h = .int .u64 0 ∧ ((l = .int .u64 (d : Int) ∧ o = .slice none 0 0 ∧ Hid (Own W wr F)) ∨ (l = .int .u64 0 ∧ Hid (∃ L', RowC 5 1 o [b].length (bytesC [b]) L' ∧ Own W wr (L' ++ F))))) (fun _ l _ _ => (intOf l).toNat)
  case atStart => exact ⟨rfl, .inl ⟨rfl, rfl, HO4.out⟩⟩
  case round =>
    obtain ⟨rfl, hrel⟩ := hrel
    rcases hrel with ⟨rfl, rfl, hq⟩ | ⟨rfl, hq⟩
    · go_wp2_with fail
      refine (Div64_zero 0 (by omega) _).mono ?_
      rintro e w2 ⟨rfl, q1, rfl⟩
      go_wp2_with fail
      refine (Div64_zero d (by have := H9.out; omega) _).mono ?_
      rintro e w2 ⟨rfl, q2, hz⟩
      rw [hd1, hd2]
      have hOz : Own W w2 F := hz ▸ (hq.out.drewN q1).drewN q2
      clear hz
      have hbx : 48 + (d : Int) = (b.toNat : Int) := by
        have := HBD.out; omega
      obtain ⟨v', w', L2, hrun, hR2, hO2⟩ := append_byteI (.slice none 0 0) [] b (48 + (d : Int)) hbx [] F W w2 (RowC.nil _ _) hOz (by simp)
      have HN := Lib.hid hrun
      have HR2 := Lib.hid hR2
      have HO2 := Lib.hid hO2
      clear hbx hrun hR2 hO2 hOz
      go_wp2_with (at_builtin; refine Lib.wpList_append_run _ rfl _ _ _ _ rfl _ _ rfl rfl _ _ (HN.out _) ?_)
      exact ⟨⟨rfl, .inr ⟨rfl, L2, HR2.out, HO2.out⟩⟩, by have := H1.out; simp [intOf]; omega⟩
    · obtain ⟨L', hR', hO'⟩ := hq.out
      obtain ⟨v', w', L2, hrun, hR2, hO2⟩ := append_byteI _ [b] 45 45 rfl L' F W wr hR' hO' (by simp)
      obtain ⟨a, cap, rfl, q1, q2, q3, q4⟩ := hR'.form
      have HN := Lib.hid hrun
      have HR2 := Lib.hid hR2
      have HO2 := Lib.hid hO2
      clear hrun hR2 hO2 hR' hO' hq
      go_wp2_with (at_builtin; refine Lib.wpList_append_run _ rfl _ _ _ _ rfl _ _ rfl rfl _ _ (HN.out _) ?_)
      refine (Reverse_bytes v' ([b] ++ [45]) L2 F W _ HR2.out (by simp) HO2.out).mono ?_
      rintro e w3 ⟨rfl, L3, hR3, hO3⟩
      have hcv := string_of_row (l := ([b] ++ [45]).reverse) (by simpa using hR3) hO3
      have HO3' := Lib.hid hO3
      clear hO3 hR3
      go_wp2
      go_ret
      exact ⟨rfl, HO3'.out.le (fun a => by simp only [cnt_append, cnt_cons, cnt_nil]; omega)⟩

end Go.Proofs.Ytbafepjmogigjaa
