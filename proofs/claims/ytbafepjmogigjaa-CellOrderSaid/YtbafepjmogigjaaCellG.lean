/- The walks of package cell: get, times, right; wide.Get. -/
import Derived.Test.YtbafepjmogigjaaCellP
import Derived.Lib.Mul64
namespace Go.Proofs.Ytbafepjmogigjaa
set_option linter.unusedSimpArgs false
set_option linter.unusedVariables false
open Go.RowKit

theorem ofInt_toNat (z : Int) : (BitVec.ofInt 64 z).toNat = (z % 18446744073709551616).toNat := by
  rw [BitVec.toNat_ofInt]; rfl

theorem or_byte_i (x : Nat) (b : UInt8) (hx : x < 72057594037927936) : bits .or .i64 (wrap64 ((x : Int) * 256)) (wrap64 (b.toNat : Int)) = s64 (x * 256 + b.toNat) := by
  have hb : b.toNat < 256 := b.toNat_lt
  show IntKind.i64.wrap ((BitVec.ofInt 64 (wrap64 ((x : Int) * 256)) ||| BitVec.ofInt 64 (wrap64 (b.toNat : Int))).toNat : Int) = _
  have e1 : (BitVec.ofInt 64 (wrap64 ((x : Int) * 256))).toNat = x * 256 := by rw [ofInt_toNat]; unfold wrap64; omega
  have e2 : (BitVec.ofInt 64 (wrap64 (b.toNat : Int))).toNat = b.toNat := by rw [ofInt_toNat]; unfold wrap64; omega
  rw [BitVec.toNat_or, e1, e2, lor_byte x _ hb]
  unfold s64 wrap64
  rw [IntKind.wrap_i64]

/-- A number of the first eight bytes of a string. -/
theorem cget_walk (s : ByteArray) (hs : 8 ≤ s.size) (w : World) :
    Calls Try.prog 132 #[.string s] w fun e w' => e = .returned (.int .i64 (s64 (beNum (s.data.toList.take 8)))) ∧ w = w' := by
  have hs' : (8 : Int) ≤ (s.size : Int) := by omega
  go_enter Try.func132, Try.ntmps132
  go_wp2_with fail
  go_loop [2, 4] (fun x i => ∃ j : Nat, j ≤ 8 ∧ i = .int .i64 (j : Int) ∧ x = .int .i64 (s64 (beNum (s.data.toList.take j)))) (fun _ i => 8 - (intOf i).toNat)
  case atStart => exact ⟨0, Nat.zero_le _, rfl, by simp [beNum, s64, wrap64]⟩
  case round =>
    obtain ⟨j, hj, rfl, rfl⟩ := hrel
    by_cases hlt : j < 8
    · have hji : (j : Int) < (s.size : Int) := by omega
      have hji8 : (j : Int) < 8 := by omega
      have hb := beNum_take_lt s j (by omega)
      have hx : s64 (beNum (s.data.toList.take j)) = (beNum (s.data.toList.take j) : Int) := by unfold s64 wrap64; omega
      have ho := or_byte_i (beNum (s.data.toList.take j)) (s[j]'(by omega)) hb
      rw [← beNum_take_succ s j (by omega)] at ho
      rw [hx]
      have HO := Lib.hid ho
      clear ho hx
      go_wp2
      rw [HO.out]
      exact ⟨⟨j + 1, by omega, by go_num, rfl⟩, by simp [intOf]; omega⟩
    · obtain rfl : j = 8 := by omega
      go_wp2
      go_ret
      exact ⟨rfl, rfl⟩

def wX (l : List UInt8) (j : Nat) : Nat := beNum (l.take (min j 8))
def wY (l : List UInt8) (j : Nat) : Nat := beNum ((l.drop 8).take (j - 8))

theorem beNum_lt56 (l : List UInt8) (h : l.length ≤ 7) : beNum l < 72057594037927936 :=
  Nat.lt_of_lt_of_le (beNum_lt _) (Nat.le_trans (Nat.pow_le_pow_right (by omega) h) (by decide))

theorem wX_lo {s : ByteArray} {j : Nat} (hj : j < 8) (hs : j < s.size) : wX s.data.toList (j + 1) = wX s.data.toList j * 256 + (s[j]'hs).toNat ∧ wY s.data.toList (j + 1) = wY s.data.toList j ∧ wX s.data.toList j < 72057594037927936 := by
  unfold wX wY
  rw [Nat.min_eq_left (by omega), Nat.min_eq_left (by omega), show j + 1 - 8 = 0 by omega, show j - 8 = 0 by omega]
  exact ⟨beNum_take_succ s j hs, rfl, beNum_lt56 _ (by simp; omega)⟩

theorem wX_hi {s : ByteArray} {j : Nat} (hj : 8 ≤ j) (hj2 : j < 16) (hs : j < s.size) : wX s.data.toList (j + 1) = wX s.data.toList j ∧ wY s.data.toList (j + 1) = wY s.data.toList j * 256 + (s[j]'hs).toNat ∧ wY s.data.toList j < 72057594037927936 := by
  unfold wX wY
  rw [Nat.min_eq_right (by omega), Nat.min_eq_right (by omega)]
  refine ⟨rfl, ?_, beNum_lt56 _ (by simp; omega)⟩
  rw [show j + 1 - 8 = (j - 8) + 1 by omega, List.take_succ_eq_append_getElem (by simp; omega), beNum_snoc]
  congr 2
  rw [List.getElem_drop]
  show _ = s.data[j]
  simp only [Array.getElem_toList]
  congr 1; omega

def zs16 : List UInt8 := [0, 0, 0, 0, 0, 0, 0, 0, 0, 0, 0, 0, 0, 0, 0, 0]

theorem make16 (w : World) : (Instr.makeSlice 153 (.int .i64 16) (.int .i64 16)).run Try.prog w = .ok (.slice (some ⟨w.heap.size, 0, none⟩) 16 16) (w.alloc (.cells (bytesC zs16).toArray 5)) := by kernel_rfl

theorem conv16 (w : World) : (convert 153 9 (.slice (some ⟨w.heap.size, 0, none⟩) 16 16)).run Try.prog (w.alloc (.cells (bytesC zs16).toArray 5)).drew = .ok (.string ⟨zs16.toArray⟩) (w.alloc (.cells (bytesC zs16).toArray 5)).drew :=
  run_convert_bytes_back (P := Try.prog) _ 153 9 5 ⟨w.heap.size, 0, none⟩ 16 zs16 Try.underlying153 Try.underlying5 Try.underlying9 (fun j hj => by
    rw [Addr.add_lit]
    refine cell_at (c := (bytesC zs16).toArray) (T := 5) (z := (0, 0)) ?_ ?_
    · show (w.heap.push _)[w.heap.size]? = _
      simp
    · simp only [bytesC, Nat.zero_add, List.getElem?_toArray, List.getElem?_map]
      rw [List.getElem?_eq_getElem hj]
      simp)

set_option maxRecDepth 100000 in
theorem WGet (s : ByteArray) (hs : s.size = 16) (W w : World) (F : List Chunk) (hO : Own W w F) :
    Calls Try.prog 131 #[.string s] w fun e w' => ∃ ok, e = .returned (.tuple #[.agg #[.int .i64 (s64 (numAt s.data.toList 0 8)), .int .u64 (numAt s.data.toList 8 8 : Int)], .bool ok]) ∧ Own W w' F := by
  have H := Lib.hid hO
  have hs' : (s.size : Int) = 16 := by omega
  clear hO
  unfold s64
  go_enter Try.func131, Try.ntmps131
  go_wp2_with fail
  have hO0 := (H.out.alloc (.cells #[.int .i64 0, .int .u64 0] 82 (0, 0))).alloc (.cells #[.int .u64 0, .int .u64 0] 207 (0, 0))
  simp only [World.size_alloc] at hO0
  have HO0 := Lib.hid hO0
  clear hO0
  go_loopw [11] (fun i wr => ∃ j : Nat, j ≤ 16 ∧ i = .int .i64 (j : Int) ∧ Hid (Own W wr ((w.heap.size + 1, .cells #[.int .u64 (wX s.data.toList j : Int), .int .u64 (wY s.data.toList j : Int)] 207 (0, 0)) :: (w.heap.size, .cells #[.int .i64 0, .int .u64 0] 82 (0, 0)) :: F))) (fun i _ => 16 - (intOf i).toNat)
  case atStart => exact ⟨0, Nat.zero_le _, rfl, HO0.out⟩
  case round =>
    obtain ⟨j, hj, rfl, hq⟩ := hrel
    by_cases hlt : j < 16
    · have hji : (j : Int) < 16 := by omega
      have hjs : (j : Int) < (s.size : Int) := by omega
      have e0 := hq.out.cell (i := 0) (.head _) rfl
      have e1 := hq.out.cell (i := 1) (.head _) rfl
      have f0 := hq.out.free (.head _) 0
      have f1 := hq.out.free (.head _) 1
      by_cases h8 : j < 8
      · have hd : (j : Int) / 8 = 0 := by omega
        obtain ⟨k1, k2, k3⟩ := wX_lo h8 (by omega : j < s.size)
        have ho := or_byte _ (s[j]'(by omega)) k3
        rw [← k1] at ho
        have HO := Lib.hid ho
        have HK := Lib.hid k2
        clear k1 k2 k3 ho
        go_wp2_with fail
        go_region
        go_wp2
        rw [HO.out]
        refine ⟨⟨j + 1, by omega, by go_num, ?_⟩, by simp [intOf]; omega⟩
        rw [HK.out]
        exact (hq.out.set0 0 _).drew
      · have hd : (j : Int) / 8 = 1 := by omega
        obtain ⟨k1, k2, k3⟩ := wX_hi (by omega) hlt (by omega : j < s.size)
        have ho := or_byte _ (s[j]'(by omega)) k3
        rw [← k2] at ho
        have HO := Lib.hid ho
        have HK := Lib.hid k1
        clear k1 k2 k3 ho
        go_wp2_with fail
        go_region
        go_wp2
        rw [HO.out]
        refine ⟨⟨j + 1, by omega, by go_num, ?_⟩, by simp [intOf]; omega⟩
        rw [HK.out]
        exact (hq.out.set0 1 _).drew
    · obtain rfl : j = 16 := by omega
      have e0 := hq.out.cell (i := 0) (.head _) rfl
      have e1 := hq.out.cell (i := 1) (.head _) rfl
      have g0 := hq.out.cell (i := 0) (.tail _ (.head _)) rfl
      have g1 := hq.out.cell (i := 1) (.tail _ (.head _)) rfl
      have f0 := hq.out.free (.tail _ (.head _)) 0
      have f1 := hq.out.free (.tail _ (.head _)) 1
      have hx : wX s.data.toList 16 = numAt s.data.toList 0 8 := rfl
      have hy : wY s.data.toList 16 = numAt s.data.toList 8 8 := rfl
      rw [hx] at e0
      rw [hy] at e1
      have HQ := Lib.hid hq.out
      have hlt2 : w.heap.size < wr.heap.size := hq.out.lt (.tail _ (.head _))
      have hne2 : w.heap.size ≠ wr.heap.size := by omega
      have hmk := make16
      generalize hxe : numAt s.data.toList 0 8 = x at *
      generalize hye : numAt s.data.toList 8 8 = y at *
      have HXE := Lib.hid hxe
      have HYE := Lib.hid hye
      clear hxe hye
      go_wp2_with fail
      generalize hxi : wrap64 (x : Int) = xi at *
      have HXI := Lib.hid hxi
      clear hxi
      have hcv := conv16 (wr.alloc (.cells #[.int .i64 xi, .int .u64 (y : Int)] 82))
      have hcv2 := conv16 (((wr.setCell ⟨w.heap.size, 0, none⟩ (.int .i64 xi)).setCell ⟨w.heap.size, 1, none⟩ (.int .u64 (y : Int))).alloc (.cells #[.int .i64 xi, .int .u64 (y : Int)] 82))
      simp only [World.size_alloc, setCell_size] at hcv hcv2
      generalize zs16 = zs at *
      have hO2 := ((HQ.out.le (L' := (w.heap.size, .cells #[.int .i64 0, .int .u64 0] 82 (0, 0)) :: F) (fun a => by simp only [cnt_append, cnt_cons, cnt_nil]; omega)).set0 0 (.int .i64 xi)).set0 1 (.int .u64 (y : Int))
      have hOa := (hO2.alloc (.cells #[.int .i64 xi, .int .u64 (y : Int)] 82)).drew
      have hOb := ((hO2.alloc (.cells #[.int .i64 xi, .int .u64 (y : Int)] 82)).alloc (.cells (bytesC zs).toArray 5)).drew
      have qa0 := hOa.cell (i := 0) (.tail _ (.head _)) rfl
      have qa1 := hOa.cell (i := 1) (.tail _ (.head _)) rfl
      have qb0 := hOb.cell (i := 0) (.tail _ (.tail _ (.head _))) rfl
      have qb1 := hOb.cell (i := 1) (.tail _ (.tail _ (.head _))) rfl
      have HA := Lib.hid (hOa.le (L' := F) (fun a => by simp only [cnt_append, cnt_cons, cnt_nil]; omega))
      have HB := Lib.hid (hOb.le (L' := F) (fun a => by simp only [cnt_append, cnt_cons, cnt_nil]; omega))
      have QA0 := Lib.hid qa0
      have QA1 := Lib.hid qa1
      have QB0 := Lib.hid qb0
      have QB1 := Lib.hid qb1
      clear hO2 hOa hOb qa0 qa1 qb0 qb1 HO0 HQ hq H hs'
      by_cases hz : (xi == 0) = true
      · by_cases hz2 : ((y : Int) == 0) = true
        · as_aux_lemma =>
            go_region
            all_goals go_wp2
            all_goals exact bodyPost_ret (v := .tuple #[.agg #[.int .i64 xi, .int .u64 (y : Int)], .bool (s.toList == zs)]) (by simp [results, Try.results131, go_sem, QB0.out, QB1.out]) rfl ⟨_, by rw [HXE.out, HYE.out, HXI.out], HB.out⟩
        · have hz3 : ((y : Int) == 0) = false := by simpa using hz2
          as_aux_lemma =>
            go_region
            all_goals go_wp2
            all_goals exact bodyPost_ret (v := .tuple #[.agg #[.int .i64 xi, .int .u64 (y : Int)], .bool true]) (by simp [results, Try.results131, go_sem, QA0.out, QA1.out]) rfl ⟨_, by rw [HXE.out, HYE.out, HXI.out], HA.out⟩
      · have hz3 : (xi == 0) = false := by simpa using hz
        as_aux_lemma =>
          go_region
          all_goals go_wp2
          all_goals exact bodyPost_ret (v := .tuple #[.agg #[.int .i64 xi, .int .u64 (y : Int)], .bool true]) (by simp [results, Try.results131, go_sem, QA0.out, QA1.out]) rfl ⟨_, by rw [HXE.out, HYE.out, HXI.out], HA.out⟩

end Go.Proofs.Ytbafepjmogigjaa
