/- The walk of CellBack. -/
import Derived.Test.YtbafepjmogigjaaLCell
namespace Go.Proofs.Ytbafepjmogigjaa
set_option linter.unusedSimpArgs false
set_option linter.unusedVariables false
open Go.RowKit

theorem CGet_cut (c : PCell) (hl : c.l.length ≤ 65535) (s : ByteArray) (p : Nat) (hp : p < (cellBytes c).length) (hs : s.data.toList = (cellBytes c).take p) (W w : World) (F : List Chunk) (hO : Own W w F) :
    Calls Try.prog 57 #[.string s] w (RetGetC none W F) := by
  have hg : getCell s.data.toList = none := by rw [hs]; exact getCell_cut hl p hp
  have hsz : s.size = p := by
    have : s.data.toList.length = p := by rw [hs, List.length_take]; omega
    simpa using this
  rw [← hg]
  by_cases h : s.size < 40
  · exact CGet_short s h W w F hO
  · refine CGet_nohist s (by omega) ?_ ?_ W w F hO
    · rw [hsz]; rw [cellBytes_len, histBytes_len] at hp; omega
    · rw [hs, List.drop_take]
      have key := getCell_head (u64 c.fr) (u64 (hiOf c.s)) (u64 (loOf c.s)) (u64 c.lo) (u64 c.hi) (histBytes c.k c.l)
      rw [show (cellBytes c).drop 40 = _ from key.2.1]
      exact getHist_cut hl _ (by rw [cellBytes_len] at hp; omega)

theorem empty_not {l : List UInt8} (h : l ≠ []) : (⟨l.toArray⟩ : ByteArray).toList.isEmpty = false := by
  cases l with
  | nil => exact absurd rfl h
  | cons x l =>
    rw [ByteArray.toList_eq]; rfl

set_option maxRecDepth 100000 in
set_option maxHeartbeats 4000000 in
theorem CellBack_walk (fr : Int) (hfr : I64 fr) (a0 : Int) (h0 : 0 ≤ a0) (h0' : a0 ≤ 255) (a : Option Addr) (n cap : Nat) (xs0 : List Int) (s : ByteArray) (hsz : s.size ≤ 1152921504606846976) (cut : Int) (hc0 : 0 ≤ cut) (hc1 : cut ≤ 65535) (w : World)
    (hr : Reads .i64 w [] a n cap xs0) (hx : ∀ z ∈ xs0, I64 z) :
    Calls Try.prog 12 #[.int .i64 fr, .int .u8 a0, .slice a n cap, .string s, .int .u16 cut] w fun e w' => e = .returned (.bool true) ∧ Below w.heap.size w w' := by
  obtain ⟨k, hk, hk4⟩ : ∃ k : Nat, a0 % 5 = (k : Int) ∧ k ≤ 4 := ⟨(a0 % 5).toNat, by omega, by omega⟩
  have hcm : cap ≤ 9223372036854775807 := by have := hr.mx; unfold maxLen at this; omega
  have hlc := hr.le
  obtain ⟨m, hm⟩ : ∃ m, min n 30 = m := ⟨_, rfl⟩
  have hmi : min (n : Int) 30 = (m : Int) := by omega
  have hmn : m ≤ n := by omega
  have hm30 : m ≤ 30 := by omega
  have hmc : m ≤ cap := by omega
  have hrt := hr.take hmn
  have hxt : ∀ z ∈ xs0.take m, I64 z := fun z hz => hx z (List.mem_of_mem_take hz)
  have hxlen := hrt.len
  generalize xs0.take m = xs at *
  have HR := Lib.hid hrt
  have HX := Lib.hid hxt
  have HFR := Lib.hid hfr
  have HSZ := Lib.hid hsz
  clear hr hx hrt hxt hm hfr hsz
  go_enter Try.func12, Try.ntmps12
  go_wp2_with fail
  refine (examples15 w w [] (Own.refl w)).mono ?_
  rintro e w1 ⟨rfl, hO1⟩
  have H1 := Lib.hid hO1
  clear hO1
  go_wp2_with fail
  rw [hk]
  clear hk h0 h0'
  refine (of15 fr HFR.out k hk4 a m cap xs w _ [] HR.out HX.out (by omega) H1.out).mono ?_
  obtain ⟨c, hce⟩ : ∃ c, c = addsC (newC fr k) xs := ⟨_, rfl⟩
  have hok : COk c := by rw [hce]; exact COk.adds (COk.new HFR.out hk4) HX.out (by rw [hxlen]; simp only [newC, show total ([] : Items) = 0 from rfl]; omega)
  have htt : total c.l = m := by rw [hce, total_addsC, hxlen]; simp [newC, total]
  have hcl : c.l.length ≤ 30 := by have := length_le_total hok.h.pos; omega
  rw [← hce]
  have HOK := Lib.hid hok
  have HTT := Lib.hid htt
  have HCL : Hid (c.l.length ≤ 65535) := by unfold Hid; omega
  have hlen : (cellBytes c).length ≤ 343 ∧ 43 ≤ (cellBytes c).length := by rw [cellBytes_len, histBytes_len]; omega
  have hemp := empty_not (l := cellBytes c) (fun h => by rw [h] at hlen; simp at hlen)
  have HLEN := Lib.hid hlen
  clear hce hok htt hcl hlen
  rintro e w2 ⟨b, L2, rfl, hC2, hO2⟩
  have HC2 := Lib.hid hC2
  have H2 := Lib.hid hO2
  clear hC2 hO2
  go_wp2_with fail
  refine (CPut c b L2 [] w _ HOK.out HCL.out HC2.out H2.out).mono ?_
  rintro e w3 ⟨rfl, hO3⟩
  have H3 := Lib.hid hO3
  clear hO3
  go_wp2_with fail
  refine (CPut c b L2 [] w _ HOK.out HCL.out HC2.out H3.out).mono ?_
  rintro e w4 ⟨rfl, hO4⟩
  have H4 := Lib.hid hO4
  clear hO4
  obtain ⟨S, hS⟩ : ∃ S, (⟨(cellBytes c).toArray⟩ : ByteArray) = S := ⟨_, rfl⟩
  have hSd : S.data.toList = cellBytes c := by rw [← hS]
  have hSl : S.size = (cellBytes c).length := by rw [← hS]; simp [ByteArray.size]
  rw [hS] at hemp
  rw [hS]
  have hsum : ¬ 9223372036854775807 < S.size + s.size := by have := HLEN.out; have := HSZ.out; omega
  obtain ⟨p, hp, hpl⟩ : ∃ p : Nat, cut % (S.size : Int) = (p : Int) ∧ p < S.size := ⟨(cut % (S.size : Int)).toNat, by have := HLEN.out; rw [Int.toNat_of_nonneg (Int.emod_nonneg _ (by omega))], by
    have := HLEN.out
    have := Int.emod_lt_of_pos cut (b := (S.size : Int)) (by omega)
    omega⟩
  have hp2 : (p : Int) ≤ (S.size : Int) := by omega
  have hSne : ¬ S = ByteArray.empty := fun h => by rw [h] at hSl; have := HLEN.out; simp at hSl; omega
  have HSD := Lib.hid hSd
  have HSL := Lib.hid hSl
  have HSS := Lib.hid hS
  have HPL := Lib.hid hpl
  clear hSd hSl hS hpl
  go_wp2_with fail
  refine (CGet_yes (S ++ s) (by have := HLEN.out; have := HSZ.out; have := HSL.out; simp only [ByteArray.size_append]; omega) c s.data.toList (by rw [show (S ++ s).data.toList = cellBytes c ++ s.data.toList by rw [← HSD.out]; simp]; exact getCell_back HOK.out HCL.out _) w _ _ H4.out).mono ?_
  rintro e w5 ⟨bd, Ld, rfl, hCd, hkd, hO5⟩
  rw [bytes_eq]
  have HCd := Lib.hid hCd
  have H5 := Lib.hid hO5
  clear hCd hO5 hkd
  go_wp2_with fail
  refine (CGet_cut c HCL.out (S.extract 0 p) p (by have := HPL.out; rw [← HSL.out]; exact this) (by rw [Lib.extract_data, List.drop_zero, Nat.sub_zero, HSD.out]) w _ _ H5.out).mono ?_
  rintro e w6 ⟨rfl, hO6⟩
  have H6 := Lib.hid hO6
  clear hO6
  go_wp2_with fail
  refine (CCopy c b L2 Ld w _ HOK.out HC2.out (H6.out.le (fun a => by simp only [cnt_append, cnt_cons, cnt_nil]; omega))).mono ?_
  rintro e w7 ⟨by_, Ly, rfl, hCy, hO7⟩
  have HCy := Lib.hid hCy
  have H7 := Lib.hid hO7
  clear hCy hO7
  go_wp2_with fail
  refine (CAdd_walk c 1 by_ Ly (L2 ++ Ld) w _ HOK.out (by unfold I64; omega) (by have := HTT.out; omega) HCy.out H7.out).mono ?_
  rintro e w8 ⟨rfl, Ly', hCy', hO8⟩
  have HCy' := Lib.hid hCy'
  have H8 := Lib.hid hO8
  clear hCy' hO8
  go_wp2_with fail
  refine (Spread_walk c b L2 (Ly' ++ Ld) w _ HOK.out HC2.out (H8.out.le (fun a => by simp only [cnt_append, cnt_cons, cnt_nil]; omega))).mono ?_
  rintro e w9 ⟨hs, Ls, rfl, hHs, hO9⟩
  have HHs := Lib.hid hHs
  have H9 := Lib.hid hO9
  clear hHs hO9
  go_wp2_with fail
  refine (Add_walk c.k c.l 7 hs Ls (L2 ++ (Ly' ++ Ld)) (by omega) (by omega) w _ HOK.out.h HHs.out H9.out).mono ?_
  rintro e w10 ⟨rfl, Ls', hHs', hO10⟩
  have hO11 := hO10.le (L' := L2 ++ (Ly' ++ Ld)) (fun a => by simp only [cnt_append, cnt_cons, cnt_nil]; omega)
  clear hHs' hO10
  obtain ⟨hb, X2, hH2, hL2⟩ := HC2.out
  obtain ⟨hy, Xy, hHy, hLy⟩ := HCy'.out
  have hcells : ∀ w', Own w w' (L2 ++ (Ly' ++ Ld)) → w'.cell? ⟨b, 0, none⟩ = some (.pointer (some ⟨hb, 0, none⟩)) ∧ w'.cell? ⟨by_, 0, none⟩ = some (.pointer (some ⟨hy, 0, none⟩)) := fun w' hO => by
    rw [hL2, hLy] at hO
    exact ⟨hO.cell (i := 0) (List.mem_append_left _ (.head _)) rfl, hO.cell (i := 0) (List.mem_append_right _ (List.mem_append_left _ (.head _))) rfl⟩
  have cnt2 : ∀ w', Own w w' (L2 ++ (Ly' ++ Ld)) → Calls Try.prog 22 #[.pointer (some ⟨hb, 0, none⟩)] w' fun e w'' => e = .returned (.int .u64 (m : Int)) ∧ w' = w'' := fun w' hO => by
    have h := Count_C (W := w) (w := w') (F := (b, cellObj hb c.fr c.s c.lo c.hi) :: (Ly' ++ Ld)) hH2 (hO.le (by rw [hL2]; exact (fun a => by simp only [cnt_append, cnt_cons, cnt_nil]; omega)))
    rwa [HTT.out] at h
  have cnty : ∀ w', Own w w' (L2 ++ (Ly' ++ Ld)) → Calls Try.prog 22 #[.pointer (some ⟨hy, 0, none⟩)] w' fun e w'' => e = .returned (.int .u64 ((m : Int) + 1)) ∧ w' = w'' := fun w' hO => by
    have h := Count_C (W := w) (w := w') (F := (by_, cellObj hy (addC c 1).fr (addC c 1).s (addC c 1).lo (addC c 1).hi) :: (L2 ++ Ld)) hHy (hO.le (by rw [hLy]; exact (fun a => by simp only [cnt_append, cnt_cons, cnt_nil]; omega)))
    rw [total_addC, HTT.out] at h
    exact h
  have HCS := Lib.hid hcells
  have CNT2 := Lib.hid cnt2
  have CNTy := Lib.hid cnty
  have H11 := Lib.hid hO11
  obtain ⟨c0, d0⟩ := hcells _ hO11
  have hw1 : IntKind.u64.wrap ((m : Int) + 1) = (m : Int) + 1 := by rw [IntKind.wrap_u64]; omega
  clear hcells cnt2 cnty hO11 hH2 hL2 hHy hLy
  go_wp2_with fail
  go_region_held3 (fun w' => w'.cell? ⟨b, 0, none⟩ = some (.pointer (some ⟨hb, 0, none⟩)) ∧ w'.cell? ⟨by_, 0, none⟩ = some (.pointer (some ⟨hy, 0, none⟩)))
    (first | go_keep | exact HCS.out _ hO1 | exact HCS.out _ hO2)
    (first
      | (go_at_call 51; ((with_reducible refine (CSame c b bd L2 Ld Ly' w _ HOK.out HCL.out HC2.out HCd.out (by exact (H11.out.drew.le (fun a => by simp only [cnt_append, cnt_cons, cnt_nil]; omega)))).mono ?_); rintro e w12 ⟨rfl, hO1'⟩; have hO1 := hO1'.le (L' := L2 ++ (Ly' ++ Ld)) (fun a => by simp only [cnt_append, cnt_cons, cnt_nil]; omega)))
      | (go_at_call 62; ((with_reducible refine (CPut c b L2 (Ly' ++ Ld) w _ HOK.out HCL.out HC2.out (by exact hO1)).mono ?_); rintro e w13 ⟨rfl, hO2⟩; rw [HSS.out]))
      | (go_at_call 22; ((with_reducible refine (CNTy.out _ hO2).mono ?_); rintro e w14 ⟨rfl, rfl⟩))
      | (go_at_call 22; ((with_reducible refine (CNT2.out _ hO2).mono ?_); rintro e w15 ⟨rfl, rfl⟩)))
  have HO2 := Lib.hid hO2
  clear hO1 hO1' hO2
  go_wp2
  go_ret
  exact ⟨rfl, HO2.out.below⟩

end Go.Proofs.Ytbafepjmogigjaa
