/- The walk of CellMoves. -/
import Derived.Test.YtbafepjmogigjaaLCell
namespace Go.Proofs.Ytbafepjmogigjaa
set_option linter.unusedSimpArgs false
set_option linter.unusedVariables false
open Go.RowKit

set_option maxRecDepth 100000 in
set_option maxHeartbeats 4000000 in
theorem CellMoves_walk (fr : Int) (hfr : I64 fr) (tt : Int) (hto : I64 tt) (a0 : Int) (h0 : 0 ≤ a0) (h0' : a0 ≤ 255) (a : Option Addr) (n cap : Nat) (xs0 : List Int) (x : Int) (hx0 : I64 x) (w : World)
    (hr : Reads .i64 w [] a n cap xs0) (hx : ∀ z ∈ xs0, I64 z) :
    Calls Try.prog 15 #[.int .i64 fr, .int .i64 tt, .int .u8 a0, .slice a n cap, .int .i64 x] w fun e w' => e = .returned (.bool true) ∧ Below w.heap.size w w' := by
  obtain ⟨k, hk, hk4⟩ : ∃ k : Nat, a0 % 5 = (k : Int) ∧ k ≤ 4 := ⟨(a0 % 5).toNat, by omega, by omega⟩
  have hcm : cap ≤ 9223372036854775807 := by have := hr.mx; unfold maxLen at this; omega
  have hlc := hr.le
  obtain ⟨m, hm⟩ : ∃ m, min n 20 = m := ⟨_, rfl⟩
  have hmi : min (n : Int) 20 = (m : Int) := by omega
  have hmn : m ≤ n := by omega
  have hm20 : m ≤ 20 := by omega
  have hmc : m ≤ cap := by omega
  have hrt := hr.take hmn
  have hxt : ∀ z ∈ xs0.take m, I64 z := fun z hz => hx z (List.mem_of_mem_take hz)
  have hxlen := hrt.len
  generalize xs0.take m = xs at *
  have HR := Lib.hid hrt
  have HX := Lib.hid hxt
  have HFR := Lib.hid hfr
  have HTO := Lib.hid hto
  have HX0 := Lib.hid hx0
  clear hr hx hrt hxt hm hfr hto hx0
  go_enter Try.func15, Try.ntmps15
  go_wp2_with fail
  refine (examples15 w w [] (Own.refl w)).mono ?_
  rintro e w1 ⟨rfl, hO1⟩
  have H1 := Lib.hid hO1
  clear hO1
  go_wp2_with fail
  rw [hk]
  clear hk h0 h0'
  refine (of15 fr HFR.out k hk4 a m cap xs w _ [] HR.out HX.out (by omega) H1.out).mono ?_
  obtain ⟨c, hce⟩ : ∃ c, c = addsC (newC fr k) xs := ⟨_, rfl⟩
  have hok : COk c := by rw [hce]; exact COk.adds (COk.new HFR.out hk4) HX.out (by rw [hxlen]; simp only [newC, show total ([] : Items) = 0 from rfl]; omega)
  have htt : total c.l = m := by rw [hce, total_addsC, hxlen]; simp [newC, total]
  have hcf : c.fr = fr := by rw [hce, addsC_fr]; rfl
  have hcl : c.l.length ≤ 65535 := by have := length_le_total hok.h.pos; omega
  rw [← hce]
  have HOK := Lib.hid hok
  have HTT := Lib.hid htt
  have HCF := Lib.hid hcf
  have HCL := Lib.hid hcl
  clear hce hok htt hcf hcl
  rintro e w2 ⟨b, L2, rfl, hC2, hO2⟩
  have HC2 := Lib.hid hC2
  have H2 := Lib.hid hO2
  clear hC2 hO2
  go_wp2_with fail
  refine (CMove c tt b L2 [] w _ HOK.out HC2.out H2.out).mono ?_
  rintro e w3 ⟨bd, Ld, rfl, hCd, hO3⟩
  have HCd := Lib.hid hCd
  have H3 := Lib.hid hO3
  have HOKd : Hid (COk { c with fr := tt }) := ⟨HOK.out.h, HTO.out, HOK.out.lo, HOK.out.hi, HOK.out.none, HOK.out.some⟩
  clear hCd hO3
  go_wp2_with fail
  refine (CMove { c with fr := tt } fr bd Ld L2 w _ HOKd.out HCd.out (H3.out.le (fun a => by simp only [cnt_append, cnt_cons, cnt_nil]; omega))).mono ?_
  rintro e w4 ⟨bb, Lb, rfl, hCb, hO4⟩
  have hCb' : CellC c bb Lb := by
    have : ({ { c with fr := tt } with fr := fr } : PCell) = c := by rw [← HCF.out]
    rw [this] at hCb; exact hCb
  have HCb := Lib.hid hCb'
  have H4 := Lib.hid hO4
  clear hCb hCb' hO4
  go_wp2_with fail
  refine (CPut c b L2 (Lb ++ Ld) w _ HOK.out HCL.out HC2.out (H4.out.le (fun a => by simp only [cnt_append, cnt_cons, cnt_nil]; omega))).mono ?_
  rintro e w5 ⟨rfl, hO5⟩
  have H5 := Lib.hid hO5
  clear hO5
  go_wp2_with fail
  refine (CAdd_walk { c with fr := tt } x bd Ld (L2 ++ Lb) w _ HOKd.out HX0.out (by show total c.l < _; have := HTT.out; omega) HCd.out (H5.out.le (fun a => by simp only [cnt_append, cnt_cons, cnt_nil]; omega))).mono ?_
  rintro e w6 ⟨rfl, Ld', hCd', hO6⟩
  have HCd' := Lib.hid hCd'
  have H6 := Lib.hid hO6
  clear hCd' hO6
  go_wp2_with fail
  refine (CCopy c b L2 (Ld' ++ Lb) w _ HOK.out HC2.out (H6.out.le (fun a => by simp only [cnt_append, cnt_cons, cnt_nil]; omega))).mono ?_
  rintro e w7 ⟨bc, Lc, rfl, hCc, hO7⟩
  have HCc := Lib.hid hCc
  have H7 := Lib.hid hO7
  clear hCc hO7
  go_wp2_with fail
  refine (CMerge_ok c c b bc L2 Lc (Ld' ++ Lb) w _ HOK.out HOK.out rfl (by have := HTT.out; omega) HC2.out HCc.out (H7.out.le (fun a => by simp only [cnt_append, cnt_cons, cnt_nil]; omega))).mono ?_
  rintro e w8 ⟨rfl, L8, hC8, hO8⟩
  have HC8 := Lib.hid hC8
  have H8 := Lib.hid hO8
  clear hC8 hO8
  obtain ⟨h8, X8, hH8, hL8⟩ := HC8.out
  obtain ⟨hbb, Xb, hHb, hLb⟩ := HCb.out
  obtain ⟨hd, Xd, hHd, hLd⟩ := HCd'.out
  have hO9 := H8.out.le (L' := L8 ++ (Ld' ++ (Lb ++ Lc))) (fun a => by simp only [cnt_append, cnt_cons, cnt_nil]; omega)
  have hcells : ∀ w', Own w w' (L8 ++ (Ld' ++ (Lb ++ Lc))) → w'.cell? ⟨b, 0, none⟩ = some (.pointer (some ⟨h8, 0, none⟩)) ∧ w'.cell? ⟨bd, 0, none⟩ = some (.pointer (some ⟨hd, 0, none⟩)) ∧ w'.cell? ⟨bb, 0, none⟩ = some (.pointer (some ⟨hbb, 0, none⟩)) := fun w' hO => by
    rw [hL8, hLd, hLb] at hO
    exact ⟨hO.cell (i := 0) (List.mem_append_left _ (.head _)) rfl, hO.cell (i := 0) (List.mem_append_right _ (List.mem_append_left _ (.head _))) rfl, hO.cell (i := 0) (List.mem_append_right _ (List.mem_append_right _ (List.mem_append_left _ (.head _)))) rfl⟩
  have hget : ∀ w', Own w w' (L8 ++ (Ld' ++ (Lb ++ Lc))) → w'.heap[bd]? = some (cellObj hd tt (addC { c with fr := tt } x).s (addC { c with fr := tt } x).lo (addC { c with fr := tt } x).hi) := fun w' hO => by
    rw [hLd] at hO
    exact hO.get (List.mem_append_right _ (List.mem_append_left _ (.head _)))
  have GD := Lib.hid hget
  clear hget
  have HCS := Lib.hid hcells
  have H9 := Lib.hid hO9
  have t8 : total (mergeC c c).l = 2 * m := by rw [total_mergeC, HTT.out]; omega
  have td : total (addC { c with fr := tt } x).l = m + 1 := by rw [total_addC]; show total c.l + 1 = _; rw [HTT.out]
  have s8 : (mergeC c c).s = c.s + c.s := by
    unfold mergeC
    split
    · rename_i hz
      rw [(HOK.out.none ((total_zero HOK.out.h).1 hz)).1]; rfl
    · rfl
  have S8 := Lib.hid s8
  have hw1 : IntKind.u64.wrap ((m : Int) + 1) = (m : Int) + 1 := by rw [IntKind.wrap_u64]; omega
  have hw2 : IntKind.u64.wrap (2 * (m : Int)) = 2 * (m : Int) := by rw [IntKind.wrap_u64]; omega
  have cntd : ∀ w', Own w w' (L8 ++ (Ld' ++ (Lb ++ Lc))) → Calls Try.prog 22 #[.pointer (some ⟨hd, 0, none⟩)] w' fun e w'' => e = .returned (.int .u64 ((m : Int) + 1)) ∧ w' = w'' := fun w' hO => by
    have h := Count_C (W := w) (w := w') (F := (bd, cellObj hd (addC { c with fr := tt } x).fr (addC { c with fr := tt } x).s (addC { c with fr := tt } x).lo (addC { c with fr := tt } x).hi) :: (L8 ++ (Lb ++ Lc))) hHd (hO.le (by rw [hLd]; exact (fun a => by simp only [cnt_append, cnt_cons, cnt_nil]; omega)))
    rwa [td] at h
  have cntb : ∀ w', Own w w' (L8 ++ (Ld' ++ (Lb ++ Lc))) → Calls Try.prog 22 #[.pointer (some ⟨hbb, 0, none⟩)] w' fun e w'' => e = .returned (.int .u64 (m : Int)) ∧ w' = w'' := fun w' hO => by
    have h := Count_C (W := w) (w := w') (F := (bb, cellObj hbb c.fr c.s c.lo c.hi) :: (L8 ++ (Ld' ++ Lc))) hHb (hO.le (by rw [hLb]; exact (fun a => by simp only [cnt_append, cnt_cons, cnt_nil]; omega)))
    rwa [HTT.out] at h
  have cnt8 : ∀ w', Own w w' (L8 ++ (Ld' ++ (Lb ++ Lc))) → Calls Try.prog 22 #[.pointer (some ⟨h8, 0, none⟩)] w' fun e w'' => e = .returned (.int .u64 (2 * (m : Int))) ∧ w' = w'' := fun w' hO => by
    have h := Count_C (W := w) (w := w') (F := (b, cellObj h8 (mergeC c c).fr (mergeC c c).s (mergeC c c).lo (mergeC c c).hi) :: (Lb ++ (Ld' ++ Lc))) hH8 (hO.le (by rw [hL8]; exact (fun a => by simp only [cnt_append, cnt_cons, cnt_nil]; omega)))
    rw [t8, Int.natCast_mul] at h
    exact h
  have CNTd := Lib.hid cntd
  have CNTb := Lib.hid cntb
  have CNT8 := Lib.hid cnt8
  clear cntd cntb cnt8
  have HC8' := Lib.hid hH8
  have HHb := Lib.hid hHb
  have HHd := Lib.hid hHd
  have HL8 := Lib.hid hL8
  have HLb := Lib.hid hLb
  have HLd := Lib.hid hLd
  obtain ⟨c0, d0, e0⟩ := hcells w8 hO9
  clear hcells hO9 t8 td s8 hH8 hHb hHd hL8 hLb hLd
  go_wp2_with fail
  go_region_held3 (fun w' => w'.cell? ⟨b, 0, none⟩ = some (.pointer (some ⟨h8, 0, none⟩)) ∧ w'.cell? ⟨bd, 0, none⟩ = some (.pointer (some ⟨hd, 0, none⟩)) ∧ w'.cell? ⟨bb, 0, none⟩ = some (.pointer (some ⟨hbb, 0, none⟩)))
    (first | go_keep | exact HCS.out _ hO1 | exact HCS.out _ hO2 | exact HCS.out _ hO3 | exact HCS.out _ hO4 | exact HCS.out _ hO5)
    (first
      | (go_at_call 62; ((with_reducible refine (CPut c bb Lb (L8 ++ (Ld' ++ Lc)) w _ HOK.out HCL.out HCb.out (by exact (H9.out.drew.le (fun a => by simp only [cnt_append, cnt_cons, cnt_nil]; omega)))).mono ?_); rintro e w9 ⟨rfl, hO1'⟩; have hO1 := hO1'.le (L' := L8 ++ (Ld' ++ (Lb ++ Lc))) (fun a => by simp only [cnt_append, cnt_cons, cnt_nil]; omega)))
      | (go_at_call 42; ((with_reducible refine (CFrom bd hd tt _ _ _ _ (GD.out _ hO1)).mono ?_); rintro e w10 ⟨rfl, rfl⟩))
      | (go_at_call 22; ((with_reducible refine (CNTd.out _ hO1).mono ?_); rintro e w11 ⟨rfl, rfl⟩))
      | (go_at_call 22; ((with_reducible refine (CNTb.out _ hO1).mono ?_); rintro e w11 ⟨rfl, rfl⟩))
      | (go_at_call 22; ((with_reducible refine (CNT8.out _ hO1).mono ?_); rintro e w11 ⟨rfl, rfl⟩))
      | (go_at_call 68; ((with_reducible refine (CSum b h8 (mergeC c c).fr (mergeC c c).s (mergeC c c).lo (mergeC c c).hi w _ _ (by exact hO1) ?_).mono ?_); (rw [HL8.out]; exact List.mem_append_left _ (.head _)); rw [S8.out]; rintro e w12 ⟨rfl, hO2⟩; simp only [sumV]))
      | (go_at_call 68; ((with_reducible refine (CSum bb hbb c.fr c.s c.lo c.hi w _ _ (by exact hO2) ?_).mono ?_); (rw [HLb.out]; exact List.mem_append_right _ (List.mem_append_right _ (List.mem_append_left _ (.head _)))); rintro e w13 ⟨rfl, hO3⟩; simp only [sumV]))
      | (go_at_call 68; ((with_reducible refine (CSum bb hbb c.fr c.s c.lo c.hi w _ _ (by exact hO3) ?_).mono ?_); (rw [HLb.out]; exact List.mem_append_right _ (List.mem_append_right _ (List.mem_append_left _ (.head _)))); rintro e w14 ⟨rfl, hO4⟩; simp only [sumV]))
      | (go_at_call 63; ((with_reducible refine (WAdd c.s c.s w _ _ (by exact hO4)).mono ?_); rintro e w15 ⟨rfl, hO5⟩; simp only [sumV])))
  have HO5 := Lib.hid hO5
  clear hO1 hO1' hO2 hO3 hO4 hO5
  go_wp2
  go_ret
  exact ⟨rfl, HO5.out.below⟩

end Go.Proofs.Ytbafepjmogigjaa
