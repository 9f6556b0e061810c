/- The walks of package cell: New, From, Sum, Bounds, take, Add, Merge. -/
import Derived.Test.YtbafepjmogigjaaWide
import Derived.Test.YtbafepjmogigjaaCellBytes
import Derived.Defers
import Derived.Recover
namespace Go.Proofs.Ytbafepjmogigjaa
set_option linter.unusedSimpArgs false
set_option linter.unusedVariables false
open Go.RowKit

/-- The block of a cell. -/
def cellObj (hb : Nat) (fr s lo hi : Int) : Obj := .cells #[.pointer (some ⟨hb, 0, none⟩), .int .i64 fr, .int .i64 (hiOf s), .int .u64 (loOf s), .int .i64 lo, .int .i64 hi] 84 (0, 0)

/-- A cell's chunks. -/
def CellC (c : PCell) (b : Nat) (L : List Chunk) : Prop := ∃ hb H, HistC c.k c.l hb H ∧ L = (b, cellObj hb c.fr c.s c.lo c.hi) :: H

theorem Own.cell45 {W w : World} {R : List Chunk} {b hb : Nat} {fr s lo hi : Int} (h : Own W w ((b, cellObj hb fr s lo hi) :: R)) (lo' hi' : Int) :
    Own W ((w.setCell ⟨b, 4, none⟩ (.int .i64 lo')).setCell ⟨b, 5, none⟩ (.int .i64 hi')) ((b, cellObj hb fr s lo' hi') :: R) := (h.set0 4 _).set0 5 _
theorem Own.cell23 {W w : World} {R : List Chunk} {b hb : Nat} {fr s lo hi : Int} (h : Own W w ((b, cellObj hb fr s lo hi) :: R)) (t : Int) :
    Own W ((w.setCell ⟨b, 2, none⟩ (.int .i64 (hiOf t))).setCell ⟨b, 3, none⟩ (.int .u64 (loOf t))) ((b, cellObj hb fr t lo hi) :: R) := (h.set0 2 _).set0 3 _

theorem cellObj_zero (hb : Nat) (fr : Int) : cellObj hb fr 0 0 0 = .cells #[.pointer (some ⟨hb, 0, none⟩), .int .i64 fr, .int .i64 0, .int .u64 0, .int .i64 0, .int .i64 0] 84 (0, 0) := by
  have h1 : hiOf 0 = 0 := by unfold hiOf wrap64; omega
  have h2 : loOf 0 = 0 := by unfold loOf; omega
  unfold cellObj; rw [h1, h2]

theorem CNew_yes (fr : Int) (k : Nat) (hk : k ≤ 4) (W w : World) (F : List Chunk) (hO : Own W w F) :
    Calls Try.prog 48 #[.int .i64 fr, .int .i64 (k : Int)] w fun e w' => ∃ b L, e = .returned (.tuple #[.pointer (some ⟨b, 0, none⟩), .int .i64 0]) ∧ CellC (newC fr k) b L ∧ Own W w' (L ++ F) := by
  have H := Lib.hid hO
  clear hO
  go_enter Try.func48, Try.ntmps48
  go_wp2_with fail
  refine (New_yes k hk W _ _ H.out).mono ?_
  rintro e w1 ⟨b, rfl, hO1⟩
  have H1 := Lib.hid hO1
  clear hO1
  go_wp2
  go_ret2
  exact ⟨_, _, rfl, ⟨b, _, ⟨_, [], RowC.nil _ _, rfl⟩, rfl⟩, by have := H1.out.alloc (cellObj b fr 0 0 0); rw [cellObj_zero] at this; show Own W _ ((_, cellObj b fr 0 0 0) :: _); rw [cellObj_zero]; exact this⟩

theorem CNew_no (fr k : Int) (hk : k < 0 ∨ 4 < k) (w : World) :
    Calls Try.prog 48 #[.int .i64 fr, .int .i64 k] w fun e w' => e = .returned (.tuple #[.pointer none, .int .i64 1]) ∧ w = w' := by
  have HK := Lib.hid hk
  clear hk
  go_enter Try.func48, Try.ntmps48
  go_wp2_with fail
  refine (New_no k HK.out _).mono ?_
  rintro e w1 ⟨rfl, rfl⟩
  go_wp2
  go_ret2
  exact ⟨rfl, rfl⟩

theorem CFrom (b hb : Nat) (fr s lo hi : Int) (w : World) (h : w.heap[b]? = some (cellObj hb fr s lo hi)) :
    Calls Try.prog 42 #[.pointer (some ⟨b, 0, none⟩)] w fun e w' => e = .returned (.int .i64 fr) ∧ w = w' := by
  have c0 := cell_at (i := 1) h rfl
  clear h
  go_enter Try.func42, Try.ntmps42
  go_wp2
  go_ret
  exact ⟨rfl, rfl⟩

theorem CSum (b hb : Nat) (fr s lo hi : Int) (W w : World) (F : List Chunk) (hO : Own W w F) (hm : (b, cellObj hb fr s lo hi) ∈ F) :
    Calls Try.prog 68 #[.pointer (some ⟨b, 0, none⟩)] w fun e w' => e = .returned (sumV s) ∧ Own W w' F := by
  have c0 := hO.cell (i := 2) hm rfl
  have c1 := hO.cell (i := 3) hm rfl
  have hlt : b < w.heap.size := hO.lt hm
  have hne : b ≠ w.heap.size := by omega
  have H := Lib.hid hO
  clear hO hm
  go_enter Try.func68, Try.ntmps68
  go_wp2
  exact bodyPost_ret (v := sumV s) (by simp [sumV, results, Try.results68, go_sem]) rfl ⟨rfl, (H.out.alloc _).le (fun a => by simp only [cnt_append, cnt_cons, cnt_nil]; omega)⟩

theorem CTake0 (p : Value) (old : Int) (h l : Int) (lo hi : Int) (W w : World) (F : List Chunk) (hO : Own W w F) :
    Calls Try.prog 102 #[p, .int .u64 old, .int .u64 0, .agg #[.int .i64 h, .int .u64 l], .int .i64 lo, .int .i64 hi] w fun e w' => e = .returned (.tuple #[]) ∧ Own W w' F := by
  have H := Lib.hid hO
  clear hO
  go_enter Try.func102, Try.ntmps102
  go_wp2
  refine bodyPost_ret (results_none rfl _ _ _) rfl ?_
  exact ⟨rfl, (H.out.alloc _).le (fun a => by simp only [cnt_append, cnt_cons, cnt_nil]; omega)⟩

set_option maxHeartbeats 1000000 in
theorem CTake (b hb : Nat) (fr s lo hi t lo' hi' : Int) (old many : Nat) (hm : 1 ≤ many) (hm2 : many ≤ 1099511627776) (ho : old ≤ 1099511627776) (W w : World) (F : List Chunk) (hO : Own W w ((b, cellObj hb fr s lo hi) :: F)) :
    Calls Try.prog 102 #[.pointer (some ⟨b, 0, none⟩), .int .u64 (old : Int), .int .u64 (many : Int), .agg #[.int .i64 (hiOf t), .int .u64 (loOf t)], .int .i64 lo', .int .i64 hi'] w fun e w' => e = .returned (.tuple #[]) ∧
      Own W w' ((b, cellObj hb fr (s + t) (if old = 0 then lo' else min lo lo') (if old = 0 then hi' else max hi hi')) :: F) := by
  have c0 := hO.cell (i := 2) (.head _) rfl
  have c1 := hO.cell (i := 3) (.head _) rfl
  have c2 := hO.cell (i := 4) (.head _) rfl
  have c3 := hO.cell (i := 5) (.head _) rfl
  have f0 := hO.free (.head _) 2
  have f1 := hO.free (.head _) 3
  have f2 := hO.free (.head _) 4
  have f3 := hO.free (.head _) 5
  have hmz : ((many : Int) == 0) = false := by simp; omega
  have hlt : b < w.heap.size := hO.lt (.head _)
  have hne : b ≠ w.heap.size := by omega
  have H := Lib.hid hO
  have HM := Lib.hid hm2
  have HOl := Lib.hid ho
  clear hO hm2 ho
  by_cases hz : old = 0
  · have hoz : ((old : Int) == 0) = true := by simp; omega
    rw [if_pos hz, if_pos hz]
    clear hz
    go_enter Try.func102, Try.ntmps102
    go_wp2_with fail
    go_region
    go_wp2_with fail
    have hOx := (((H.out.cell45 lo' hi').cell45 lo' hi').alloc (.cells #[.int .i64 (hiOf t), .int .u64 (loOf t)] 82)).drew
    simp only [setCell_size] at hOx
    generalize (((((w.setCell ⟨b, 4, none⟩ (.int .i64 lo')).setCell ⟨b, 5, none⟩ (.int .i64 hi')).setCell ⟨b, 4, none⟩ (.int .i64 lo')).setCell ⟨b, 5, none⟩ (.int .i64 hi')).alloc (Obj.cells #[.int .i64 (hiOf t), .int .u64 (loOf t)] 82)).drew = wx at *
    have d0 := hOx.cell (i := 2) (.tail _ (.head _)) rfl
    have d1 := hOx.cell (i := 3) (.tail _ (.head _)) rfl
    have e0 := hOx.cell (i := 0) (.head _) rfl
    have e1 := hOx.cell (i := 1) (.head _) rfl
    have HX := Lib.hid hOx
    clear hOx c0 c1 c2 c3 f0 f1 f2 f3
    go_region_with (go_at_call 63; refine (WAdd s t W _ _ HX.out.drew).mono ?_; rintro e w2 ⟨rfl, hO2⟩; simp only [sumV]; have q0 := hO2.cell (i := 2) (.tail _ (.head _)) rfl; have q1 := hO2.cell (i := 3) (.tail _ (.head _)) rfl; have g0 := hO2.free (.tail _ (.head _)) 2; have g1 := hO2.free (.tail _ (.head _)) 3; have H2 := Lib.hid hO2; clear hO2)
    all_goals go_wp2
    all_goals go_end0
    all_goals exact ⟨rfl, ((H2.out.le (L' := (b, cellObj hb fr s lo' hi') :: F) (fun a => by simp only [cnt_append, cnt_cons, cnt_nil]; omega)).cell23 (s + t))⟩
  · have hoz : ((old : Int) == 0) = false := by simp; omega
    rw [if_neg hz, if_neg hz]
    clear hz
    go_enter Try.func102, Try.ntmps102
    go_wp2_with fail
    go_region
    go_wp2_with fail
    have hOx := ((H.out.cell45 (min lo lo') (max hi hi')).alloc (.cells #[.int .i64 (hiOf t), .int .u64 (loOf t)] 82)).drew
    simp only [setCell_size] at hOx
    generalize (((w.setCell ⟨b, 4, none⟩ (.int .i64 (min lo lo'))).setCell ⟨b, 5, none⟩ (.int .i64 (max hi hi'))).alloc (Obj.cells #[.int .i64 (hiOf t), .int .u64 (loOf t)] 82)).drew = wx at *
    have d0 := hOx.cell (i := 2) (.tail _ (.head _)) rfl
    have d1 := hOx.cell (i := 3) (.tail _ (.head _)) rfl
    have e0 := hOx.cell (i := 0) (.head _) rfl
    have e1 := hOx.cell (i := 1) (.head _) rfl
    have HX := Lib.hid hOx
    clear hOx c0 c1 c2 c3 f0 f1 f2 f3
    go_region_with (go_at_call 63; refine (WAdd s t W _ _ HX.out.drew).mono ?_; rintro e w2 ⟨rfl, hO2⟩; simp only [sumV]; have q0 := hO2.cell (i := 2) (.tail _ (.head _)) rfl; have q1 := hO2.cell (i := 3) (.tail _ (.head _)) rfl; have g0 := hO2.free (.tail _ (.head _)) 2; have g1 := hO2.free (.tail _ (.head _)) 3; have H2 := Lib.hid hO2; clear hO2)
    all_goals go_wp2
    all_goals go_end0
    all_goals exact ⟨rfl, ((H2.out.le (L' := (b, cellObj hb fr s (min lo lo') (max hi hi')) :: F) (fun a => by simp only [cnt_append, cnt_cons, cnt_nil]; omega)).cell23 (s + t))⟩

theorem CTake_any (b hb : Nat) (fr s lo hi t lo' hi' : Int) (old many : Nat) (hm2 : many ≤ 1099511627776) (ho : old ≤ 1099511627776) (W w : World) (F : List Chunk) (hO : Own W w ((b, cellObj hb fr s lo hi) :: F)) :
    Calls Try.prog 102 #[.pointer (some ⟨b, 0, none⟩), .int .u64 (old : Int), .int .u64 (many : Int), .agg #[.int .i64 (hiOf t), .int .u64 (loOf t)], .int .i64 lo', .int .i64 hi'] w fun e w' => e = .returned (.tuple #[]) ∧
      Own W w' ((b, cellObj hb fr (if many = 0 then s else s + t) (if many = 0 then lo else if old = 0 then lo' else min lo lo') (if many = 0 then hi else if old = 0 then hi' else max hi hi')) :: F) := by
  by_cases hz : many = 0
  · subst hz
    simp only [if_true]
    exact CTake0 _ _ _ _ _ _ W w _ hO
  · simp only [if_neg hz]
    exact CTake b hb fr s lo hi t lo' hi' old many (by omega) hm2 ho W w F hO

end Go.Proofs.Ytbafepjmogigjaa
