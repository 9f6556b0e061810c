/- The walk of cell.Put. -/
import Derived.Test.YtbafepjmogigjaaCellB
namespace Go.Proofs.Ytbafepjmogigjaa
set_option linter.unusedSimpArgs false
set_option linter.unusedVariables false
open Go.RowKit

theorem ba_app (a b : List UInt8) : (⟨a.toArray⟩ ++ ⟨b.toArray⟩ : ByteArray) = ⟨(a ++ b).toArray⟩ := by
  apply ByteArray.ext
  simp

theorem cellcells {b hb : Nat} {fr s lo hi : Int} {L : List Chunk} {W w : World} (hO : Own W w L) (hm : (b, cellObj hb fr s lo hi) ∈ L) :
    w.cell? ⟨b, 0, none⟩ = some (.pointer (some ⟨hb, 0, none⟩)) ∧ w.cell? ⟨b, 1, none⟩ = some (.int .i64 fr) ∧ w.cell? ⟨b, 2, none⟩ = some (.int .i64 (hiOf s)) ∧ w.cell? ⟨b, 3, none⟩ = some (.int .u64 (loOf s)) ∧ w.cell? ⟨b, 4, none⟩ = some (.int .i64 lo) ∧ w.cell? ⟨b, 5, none⟩ = some (.int .i64 hi) :=
  ⟨hO.cell hm rfl, hO.cell hm rfl, hO.cell hm rfl, hO.cell hm rfl, hO.cell hm rfl, hO.cell hm rfl⟩

set_option maxRecDepth 100000 in
set_option maxHeartbeats 2000000 in
theorem CPut (c : PCell) (b : Nat) (L F : List Chunk) (W w : World) (hc : COk c) (hln : c.l.length ≤ 65535) (hR : CellC c b L) (hO : Own W w (L ++ F)) :
    Calls Try.prog 62 #[.pointer (some ⟨b, 0, none⟩)] w (RetString (cellBytes c) W (L ++ F)) := by
  obtain ⟨hb, Hc, hH, rfl⟩ := hR
  obtain ⟨c0, c1, c2, c3, c4, c5⟩ := cellcells hO (.head _)
  have H := Lib.hid hO
  have HH := Lib.hid hH
  have HC := Lib.hid hc
  have n1 : (beBytes (u64 c.fr) 8).length = 8 := beBytes_len _ _
  have n2 : (sumBytes c.s).length = 16 := sumBytes_len _
  have n3 : (beBytes (u64 c.lo) 8).length = 8 := beBytes_len _ _
  have n4 : (beBytes (u64 c.hi) 8).length = 8 := beBytes_len _ _
  have n5 : (histBytes c.k c.l).length ≤ 655353 := by rw [histBytes_len]; omega
  have hcb : cellBytes c = beBytes (u64 c.fr) 8 ++ sumBytes c.s ++ beBytes (u64 c.lo) 8 ++ beBytes (u64 c.hi) 8 ++ histBytes c.k c.l := rfl
  have HLN := Lib.hid hln
  rw [hcb]
  have hs5 : ¬ 9223372036854775807 < 40 + (histBytes c.k c.l).length := by omega
  clear hO hH hc hcb hln n5
  go_enter Try.func62, Try.ntmps62
  go_wp2_with fail
  go_region_held3 (fun w' => w'.cell? ⟨b, 0, none⟩ = some (.pointer (some ⟨hb, 0, none⟩)) ∧ w'.cell? ⟨b, 1, none⟩ = some (.int .i64 c.fr) ∧ w'.cell? ⟨b, 2, none⟩ = some (.int .i64 (hiOf c.s)) ∧ w'.cell? ⟨b, 3, none⟩ = some (.int .u64 (loOf c.s)) ∧ w'.cell? ⟨b, 4, none⟩ = some (.int .i64 c.lo) ∧ w'.cell? ⟨b, 5, none⟩ = some (.int .i64 c.hi))
    (first | go_keep | exact cellcells hO1 (.head _) | exact cellcells hO2 (.head _) | exact cellcells hO3 (.head _) | exact cellcells hO4 (.head _) | exact cellcells hO5 (.head _))
    (first
      | (go_at_call 112; ((with_reducible refine (cput_walk c.fr HC.out.fr W _ ((b, cellObj hb c.fr c.s c.lo c.hi) :: Hc ++ F) (by exact H.out.drew)).mono ?_); rintro e w1 ⟨rfl, hO1⟩))
      | (go_at_call 65; ((with_reducible refine (WPut c.s W _ ((b, cellObj hb c.fr c.s c.lo c.hi) :: Hc ++ F) (by exact hO1)).mono ?_); rintro e w2 ⟨rfl, hO2⟩))
      | (go_at_call 112; ((with_reducible refine (cput_walk c.lo HC.out.lo W _ ((b, cellObj hb c.fr c.s c.lo c.hi) :: Hc ++ F) (by exact hO2)).mono ?_); rintro e w3 ⟨rfl, hO3⟩))
      | (go_at_call 112; ((with_reducible refine (cput_walk c.hi HC.out.hi W _ ((b, cellObj hb c.fr c.s c.lo c.hi) :: Hc ++ F) (by exact hO3)).mono ?_); rintro e w4 ⟨rfl, hO4⟩))
      | (go_at_call 35; ((with_reducible refine (Put_walk c.k c.l hb Hc ((b, cellObj hb c.fr c.s c.lo c.hi) :: F) W _ HC.out.h HLN.out HH.out (by exact (hO4.le (fun a => by simp only [cnt_append, cnt_cons, cnt_nil]; omega)))).mono ?_); rintro e w5 ⟨rfl, hO5'⟩; have hO5 := hO5'.le (L' := (b, cellObj hb c.fr c.s c.lo c.hi) :: Hc ++ F) (fun a => by simp only [cnt_append, cnt_cons, cnt_nil]; omega))))
  rename_i hS
  clear hS
  rw [ba_app, ba_app, ba_app, ba_app]
  have HO5 := Lib.hid hO5'
  clear hO1 hO2 hO3 hO4 hO5 hO5'
  go_wp2
  go_ret
  exact ⟨rfl, HO5.out.le (fun a => by simp only [cnt_append, cnt_cons, cnt_nil]; omega)⟩

set_option maxRecDepth 100000 in
/-- Two cells that are alike are the same. -/
theorem CSame (c : PCell) (b b' : Nat) (L M F : List Chunk) (W w : World) (hc : COk c) (hln : c.l.length ≤ 65535) (hR : CellC c b L) (hM : CellC c b' M) (hO : Own W w (L ++ M ++ F)) :
    Calls Try.prog 51 #[.pointer (some ⟨b, 0, none⟩), .pointer (some ⟨b', 0, none⟩)] w fun e w' => e = .returned (.bool true) ∧ Own W w' (L ++ M ++ F) := by
  have H := Lib.hid hO
  have HR := Lib.hid hR
  have HM := Lib.hid hM
  have HC := Lib.hid hc
  have HLN := Lib.hid hln
  clear hO hR hM hc hln
  go_enter Try.func51, Try.ntmps51
  go_wp2_with fail
  refine (CPut c b L (M ++ F) W _ HC.out HLN.out HR.out (H.out.le (fun a => by simp only [cnt_append, cnt_cons, cnt_nil]; omega))).mono ?_
  rintro e w1 ⟨rfl, hO1⟩
  have H1 := Lib.hid hO1
  clear hO1
  go_wp2_with fail
  refine (CPut c b' M (L ++ F) W _ HC.out HLN.out HM.out (H1.out.le (fun a => by simp only [cnt_append, cnt_cons, cnt_nil]; omega))).mono ?_
  rintro e w2 ⟨rfl, hO2⟩
  have H2 := Lib.hid hO2
  clear hO2
  go_wp2
  go_ret
  exact ⟨rfl, H2.out.le (fun a => by simp only [cnt_append, cnt_cons, cnt_nil]; omega)⟩

/-- The same, of one cell. -/
theorem CSame_self (c : PCell) (b : Nat) (L F : List Chunk) (W w : World) (hc : COk c) (hln : c.l.length ≤ 65535) (hR : CellC c b L) (hO : Own W w (L ++ F)) :
    Calls Try.prog 51 #[.pointer (some ⟨b, 0, none⟩), .pointer (some ⟨b, 0, none⟩)] w fun e w' => e = .returned (.bool true) ∧ Own W w' (L ++ F) := by
  have H := Lib.hid hO
  have HR := Lib.hid hR
  have HC := Lib.hid hc
  have HLN := Lib.hid hln
  clear hO hR hc hln
  go_enter Try.func51, Try.ntmps51
  go_wp2_with fail
  refine (CPut c b L F W _ HC.out HLN.out HR.out H.out).mono ?_
  rintro e w1 ⟨rfl, hO1⟩
  have H1 := Lib.hid hO1
  clear hO1
  go_wp2_with fail
  refine (CPut c b L F W _ HC.out HLN.out HR.out H1.out).mono ?_
  rintro e w2 ⟨rfl, hO2⟩
  have H2 := Lib.hid hO2
  clear hO2
  go_wp2
  go_ret
  exact ⟨rfl, H2.out⟩

end Go.Proofs.Ytbafepjmogigjaa
