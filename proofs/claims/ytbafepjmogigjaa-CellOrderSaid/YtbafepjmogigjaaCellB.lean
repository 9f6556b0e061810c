/- The walks of package cell: Move, Copy, Bounds, put, Put. -/
import Derived.Test.YtbafepjmogigjaaCellA
namespace Go.Proofs.Ytbafepjmogigjaa
set_option linter.unusedSimpArgs false
set_option linter.unusedVariables false
open Go.RowKit

theorem Own.cell01 {W w : World} {R : List Chunk} {b hb : Nat} {fr s lo hi : Int} (h : Own W w ((b, cellObj hb fr s lo hi) :: R)) (hb' : Nat) (fr' : Int) :
    Own W ((w.setCell ⟨b, 0, none⟩ (.pointer (some ⟨hb', 0, none⟩))).setCell ⟨b, 1, none⟩ (.int .i64 fr')) ((b, cellObj hb' fr' s lo hi) :: R) := (h.set0 0 _).set0 1 _

theorem CBounds (c : PCell) (b : Nat) (L F : List Chunk) (W w : World) (hc : COk c) (hR : CellC c b L) (hO : Own W w (L ++ F)) :
    Calls Try.prog 61 #[.pointer (some ⟨b, 0, none⟩)] w fun e w' => e = .returned (.tuple #[.int .i64 c.lo, .int .i64 c.hi, .bool (decide (0 < total c.l))]) ∧ Own W w' (L ++ F) := by
  obtain ⟨hb, Hc, hH, rfl⟩ := hR
  have c0 := hO.cell (i := 0) (.head _) rfl
  have c4 := hO.cell (i := 4) (.head _) rfl
  have c5 := hO.cell (i := 5) (.head _) rfl
  have H := Lib.hid hO
  have HH := Lib.hid hH
  have HC := Lib.hid hc
  clear hO hH hc
  go_enter Try.func61, Try.ntmps61
  go_wp2_with fail
  go_region_held3 (fun w' => w'.cell? ⟨b, 0, none⟩ = some (.pointer (some ⟨hb, 0, none⟩)) ∧ w'.cell? ⟨b, 4, none⟩ = some (.int .i64 c.lo) ∧ w'.cell? ⟨b, 5, none⟩ = some (.int .i64 c.hi)) (go_keep)
    ((go_at_call 22; refine (Count_C (F := (b, cellObj hb c.fr c.s c.lo c.hi) :: F) HH.out (by exact (H.out.drew.le (fun a => by simp only [cnt_append, cnt_cons, cnt_nil]; omega)))).mono ?_; rintro e w1 ⟨rfl, rfl⟩))
  go_wp2
  go_ret3
  exact ⟨rfl, H.out.drew⟩

set_option maxRecDepth 100000 in
theorem CMove (c : PCell) (fr : Int) (b : Nat) (L F : List Chunk) (W w : World) (hc : COk c) (hR : CellC c b L) (hO : Own W w (L ++ F)) :
    Calls Try.prog 70 #[.pointer (some ⟨b, 0, none⟩), .int .i64 fr] w fun e w' => ∃ b' L', e = .returned (.pointer (some ⟨b', 0, none⟩)) ∧ CellC { c with fr := fr } b' L' ∧ Own W w' (L' ++ (L ++ F)) := by
  have hR0 := Lib.hid hR
  obtain ⟨hb, Hc, hH, rfl⟩ := hR
  have c0 := hO.cell (i := 0) (.head _) rfl
  have c1 := hO.cell (i := 1) (.head _) rfl
  have c2 := hO.cell (i := 2) (.head _) rfl
  have c3 := hO.cell (i := 3) (.head _) rfl
  have c4 := hO.cell (i := 4) (.head _) rfl
  have c5 := hO.cell (i := 5) (.head _) rfl
  have hlt : b < w.heap.size := hO.lt (.head _)
  have hne : b ≠ w.heap.size := by omega
  have H := Lib.hid hO
  have HH := Lib.hid hH
  have HC := Lib.hid hc
  clear hO hH hc
  go_enter Try.func70, Try.ntmps70
  have hO1 := Lib.hid (H.out.alloc (cellObj hb c.fr c.s c.lo c.hi))
  go_wp2_with fail
  refine (Spread_walk c b ((b, cellObj hb c.fr c.s c.lo c.hi) :: Hc) ((w.heap.size, cellObj hb c.fr c.s c.lo c.hi) :: F) W _ HC.out ⟨hb, Hc, HH.out, rfl⟩ (hO1.out.le (fun a => by simp only [cnt_append, cnt_cons, cnt_nil]; omega))).mono ?_
  rintro e w1 ⟨hb2, H2, rfl, hH2, hO2⟩
  have e0 := hO2.cell (i := 0) (List.mem_append_right _ (List.mem_append_right _ (.head _))) rfl
  have e1 := hO2.cell (i := 1) (List.mem_append_right _ (List.mem_append_right _ (.head _))) rfl
  have f0 := hO2.free (List.mem_append_right _ (List.mem_append_right _ (.head _))) 0
  have f1 := hO2.free (List.mem_append_right _ (List.mem_append_right _ (.head _))) 1
  have HO2 := Lib.hid hO2
  have HH2 := Lib.hid hH2
  clear hO2 hH2 c0 c1 c2 c3 c4 c5
  go_wp2
  go_ret
  exact ⟨w.heap.size, (w.heap.size, cellObj hb2 fr c.s c.lo c.hi) :: H2, rfl, ⟨hb2, H2, HH2.out, rfl⟩, (((HO2.out.le (L' := (w.heap.size, cellObj hb c.fr c.s c.lo c.hi) :: (H2 ++ ((b, cellObj hb c.fr c.s c.lo c.hi) :: Hc ++ F))) (fun a => by simp only [cnt_append, cnt_cons, cnt_nil]; omega)).cell01 hb2 fr)).le (fun a => by simp only [cnt_append, cnt_cons, cnt_nil]; omega)⟩

theorem CCopy (c : PCell) (b : Nat) (L F : List Chunk) (W w : World) (hc : COk c) (hR : CellC c b L) (hO : Own W w (L ++ F)) :
    Calls Try.prog 66 #[.pointer (some ⟨b, 0, none⟩)] w fun e w' => ∃ b' L', e = .returned (.pointer (some ⟨b', 0, none⟩)) ∧ CellC c b' L' ∧ Own W w' (L' ++ (L ++ F)) := by
  obtain ⟨hb, h0⟩ := hR.block hO
  have c1 := cell_at (i := 1) h0 rfl
  have H := Lib.hid hO
  have HR := Lib.hid hR
  have HC := Lib.hid hc
  clear hO hR hc h0
  go_enter Try.func66, Try.ntmps66
  go_wp2_with fail
  refine (CMove c c.fr b L F W _ HC.out HR.out H.out).mono ?_
  rintro e w1 ⟨b', L', rfl, hC, hO1⟩
  have HC1 := Lib.hid hC
  have HO1 := Lib.hid hO1
  clear hC hO1
  go_wp2
  go_ret
  exact ⟨b', L', rfl, HC1.out, HO1.out⟩

/-- The array of bytes that is filled. -/
def fill8 (A : List UInt8) (m j : Nat) : Array Value := (bytesC (A.take j) ++ List.replicate (m - j) (Value.int .u8 0)).toArray

theorem fill8_set {A : List UInt8} {m j : Nat} (hA : A.length = m) (hj : j < m) : (fill8 A m j).setIfInBounds j (Value.int .u8 ((A.getD j 0).toNat : Int)) = fill8 A m (j + 1) := by
  have hl : (bytesC (A.take j)).length = j := by rw [bytesC_len, List.length_take]; omega
  unfold fill8
  rw [List.setIfInBounds_toArray]
  congr 1
  rw [List.set_append_right _ _ (by omega), hl, Nat.sub_self, show m - j = (m - (j + 1)) + 1 by omega, List.replicate_succ, List.set_cons_zero, List.take_succ_eq_append_getElem (by omega), bytesC_append, List.append_assoc]
  rw [List.getD_eq_getElem?_getD, List.getElem?_eq_getElem (by omega)]
  rfl

theorem fill8_zero (A : List UInt8) (m : Nat) : fill8 A m 0 = (List.replicate m (Value.int .u8 0)).toArray := by simp [fill8, bytesC]

theorem fill8_full {A : List UInt8} {m : Nat} (hA : A.length = m) : fill8 A m m = (bytesC A).toArray := by
  unfold fill8
  rw [List.take_of_length_le (by omega), Nat.sub_self]; simp

theorem byte_at {n : Int} {j : Nat} (hj : j < 8) : n / 2 ^ (56 - 8 * j) % 256 = (((beBytes (u64 n) 8).getD j 0).toNat : Int) := by
  have h := beBytes_get (u64 n) 8 j hj
  rw [List.getD_eq_getElem?_getD, h]
  simp only [Option.getD_some]
  have h256 : u64 n / 256 ^ (8 - 1 - j) % 256 < 256 := Nat.mod_lt _ (by omega)
  rw [UInt8.toNat_ofNat_of_lt' h256]
  clear h256 h
  unfold u64
  have hj8 : j = 0 ∨ j = 1 ∨ j = 2 ∨ j = 3 ∨ j = 4 ∨ j = 5 ∨ j = 6 ∨ j = 7 := by omega
  rcases hj8 with rfl | rfl | rfl | rfl | rfl | rfl | rfl | rfl <;> simp only [Nat.reduceMul, Nat.reduceSub, Nat.reducePow, Int.reducePow] <;> omega

set_option maxRecDepth 100000 in
theorem cput_walk (n : Int) (hn : I64 n) (W w : World) (F : List Chunk) (hO : Own W w F) :
    Calls Try.prog 112 #[.int .i64 n] w fun e w' => e = .returned (.string ⟨(beBytes (u64 n) 8).toArray⟩) ∧ Own W w' F := by
  have H := Lib.hid hO
  have HN := Lib.hid hn
  clear hO hn
  have hA : (beBytes (u64 n) 8).length = 8 := beBytes_len _ _
  have hO0 := H.out.alloc (.cells (fill8 (beBytes (u64 n) 8) 8 0) 198 (0, 0))
  rw [fill8_zero] at hO0
  have HO0 := Lib.hid hO0
  clear hO0
  go_enter Try.func112, Try.ntmps112
  go_wp2_with fail
  go_loopw [5] (fun i wr => ∃ j : Nat, j ≤ 8 ∧ i = .int .i64 (j : Int) ∧ Hid (Own W wr ((w.heap.size, .cells (fill8 (beBytes (u64 n) 8) 8 j) 198 (0, 0)) :: F))) (fun i _ => 8 - (intOf i).toNat)
  case atStart => exact ⟨0, Nat.zero_le _, rfl, by rw [fill8_zero]; exact HO0.out⟩
  case round =>
    obtain ⟨j, hj, rfl, hq⟩ := hrel
    by_cases hlt : j < 8
    · have hsz : (fill8 (beBytes (u64 n) 8) 8 j).size = 8 := by simp [fill8, bytesC_len, beBytes_len]; omega
      have e0 := hq.out.cell (i := j) (.head _) (Array.getElem?_eq_getElem (by omega))
      have f0 := hq.out.free (.head _) j
      have hji : (j : Int) < 8 := by omega
      have hb := byte_at (n := n) hlt
      have HB := Lib.hid hb
      clear hb
      go_wp2
      refine ⟨⟨j + 1, by omega, by go_num, ?_⟩, by simp [intOf]; omega⟩
      rw [HB.out, ← fill8_set hA hlt]
      exact hq.out.set0 j _
    · obtain rfl : j = 8 := by omega
      have hcv := run_convert_bytes_back (P := Try.prog) wr 153 9 5 ⟨w.heap.size, 0, none⟩ 8 (beBytes (u64 n) 8) Try.underlying153 Try.underlying5 Try.underlying9 (fun j hj => by
        rw [Addr.add_lit]
        refine hq.out.cell (i := 0 + j) (.head _) ?_
        rw [fill8_full hA]
        simp [bytesC, hj])
      rw [hA] at hcv
      clear hlt
      go_wp2
      go_ret
      exact ⟨rfl, hq.out.le (fun a => by simp only [cnt_append, cnt_cons, cnt_nil]; omega)⟩

def fill16 (A B : List UInt8) (j : Nat) : Array Value := fill8 A 8 j ++ fill8 B 8 j

theorem fill8_size {A : List UInt8} {m j : Nat} (hA : A.length = m) (hj : j ≤ m) : (fill8 A m j).size = m := by simp [fill8, bytesC_len]; omega

theorem byte_at_w {n : Int} {j : Nat} (hj : j < 8) : IntKind.u64.wrap n / 2 ^ (56 - 8 * j) % 256 = (((beBytes (u64 n) 8).getD j 0).toNat : Int) := by
  rw [u64_wrap, byte_at hj]
  have : u64 (u64 n : Int) = u64 n := by unfold u64; omega
  rw [this]

theorem fill16_set {A B : List UInt8} {j : Nat} (hA : A.length = 8) (hB : B.length = 8) (hj : j < 8) :
    ((fill16 A B j).setIfInBounds j (Value.int .u8 ((A.getD j 0).toNat : Int))).setIfInBounds (8 + j) (Value.int .u8 ((B.getD j 0).toNat : Int)) = fill16 A B (j + 1) := by
  have s1 := fill8_size hA (Nat.le_of_lt hj)
  unfold fill16
  rw [Array.setIfInBounds_append_left (by omega), Array.setIfInBounds_append_right (by simp; omega)]
  have : 8 + j - ((fill8 A 8 j).setIfInBounds j (Value.int .u8 ((A.getD j 0).toNat : Int))).size = j := by simp [s1]
  rw [this, fill8_set hA hj, fill8_set hB hj]

theorem fill16_full {A B : List UInt8} (hA : A.length = 8) (hB : B.length = 8) : fill16 A B 8 = (bytesC (A ++ B)).toArray := by
  unfold fill16; rw [fill8_full hA, fill8_full hB, bytesC_append]; simp

set_option maxRecDepth 100000 in
theorem WPut (s : Int) (W w : World) (F : List Chunk) (hO : Own W w F) :
    Calls Try.prog 65 #[.agg #[.int .i64 (hiOf s), .int .u64 (loOf s)]] w fun e w' => e = .returned (.string ⟨(sumBytes s).toArray⟩) ∧ Own W w' F := by
  have H := Lib.hid hO
  clear hO
  unfold sumBytes
  have hh := Lib.hid (hiOf_I64 s)
  have l0 := loOf_nn s
  have l1 := Lib.hid (loOf_lt s)
  generalize hiOf s = hs at *
  generalize loOf s = ls at *
  have hA : (beBytes (u64 hs) 8).length = 8 := beBytes_len _ _
  have hB : (beBytes (u64 ls) 8).length = 8 := beBytes_len _ _
  have HA := Lib.hid hA
  have HB := Lib.hid hB
  have hO0 := (H.out.alloc (.cells #[.int .i64 hs, .int .u64 ls] 82 (0, 0))).alloc (.cells (fill16 (beBytes (u64 hs) 8) (beBytes (u64 ls) 8) 0) 180 (0, 0))
  unfold fill16 at hO0
  rw [fill8_zero, fill8_zero] at hO0
  simp only [World.size_alloc] at hO0
  have HO0 := Lib.hid hO0
  clear hO0 hA hB
  go_enter Try.func65, Try.ntmps65
  go_wp2_with fail
  go_loopw [5] (fun i wr => ∃ j : Nat, j ≤ 8 ∧ i = .int .i64 (j : Int) ∧ Hid (Own W wr ((w.heap.size + 1, .cells (fill16 (beBytes (u64 hs) 8) (beBytes (u64 ls) 8) j) 180 (0, 0)) :: (w.heap.size, .cells #[.int .i64 hs, .int .u64 ls] 82 (0, 0)) :: F))) (fun i _ => 8 - (intOf i).toNat)
  case atStart => exact ⟨0, Nat.zero_le _, rfl, by unfold fill16; rw [fill8_zero, fill8_zero]; exact HO0.out⟩
  case round =>
    obtain ⟨j, hj, rfl, hq⟩ := hrel
    by_cases hlt : j < 8
    · have s1 := fill8_size HA.out hj
      have s2 := fill8_size HB.out hj
      have hsz : (fill16 (beBytes (u64 hs) 8) (beBytes (u64 ls) 8) j).size = 16 := by unfold fill16; rw [Array.size_append, s1, s2]
      have e0 := hq.out.cell (i := j) (.head _) (Array.getElem?_eq_getElem (by omega))
      have e1 := hq.out.cell (i := 8 + j) (.head _) (Array.getElem?_eq_getElem (by omega))
      have f0 := hq.out.free (.head _) j
      have f1 := hq.out.free (.head _) (8 + j)
      have g0 := hq.out.cell (i := 0) (.tail _ (.head _)) rfl
      have g1 := hq.out.cell (i := 1) (.tail _ (.head _)) rfl
      have hji : (j : Int) < 8 := by omega
      have b1 := Lib.hid (byte_at_w (n := hs) hlt)
      have b2 := Lib.hid (byte_at (n := ls) hlt)
      go_wp2
      refine ⟨⟨j + 1, by omega, by go_num, ?_⟩, by simp [intOf]; omega⟩
      rw [b1.out, b2.out, ← fill16_set HA.out HB.out hlt]
      exact (hq.out.set0 j _).set0 (8 + j) _
    · obtain rfl : j = 8 := by omega
      have hcv := run_convert_bytes_back (P := Try.prog) wr 153 9 5 ⟨w.heap.size + 1, 0, none⟩ 16 (beBytes (u64 hs) 8 ++ beBytes (u64 ls) 8) Try.underlying153 Try.underlying5 Try.underlying9 (fun j hj => by
        rw [Addr.add_lit]
        refine hq.out.cell (i := 0 + j) (.head _) ?_
        rw [fill16_full HA.out HB.out]
        simp only [bytesC, Nat.zero_add, List.getElem?_toArray, List.getElem?_map]
        rw [List.getElem?_eq_getElem hj]
        simp)
      rw [List.length_append, HA.out, HB.out] at hcv
      clear hlt
      go_wp2
      go_ret
      exact ⟨rfl, hq.out.le (fun a => by simp only [cnt_append, cnt_cons, cnt_nil]; omega)⟩

end Go.Proofs.Ytbafepjmogigjaa
