/- The walk of hist.Put. -/
import Derived.Test.YtbafepjmogigjaaHistB
import Derived.Test.YtbafepjmogigjaaBytes
namespace Go.Proofs.Ytbafepjmogigjaa
set_option linter.unusedSimpArgs false
set_option linter.unusedVariables false
open Go.RowKit

/-- An item's bytes. -/
def itemBytes (x : Int × Nat) : List UInt8 := beBytes (x.1 + 2147483648).toNat 4 ++ beBytes x.2 6
/-- A histogram's bytes. -/
def histBytes (k : Nat) (l : Items) : List UInt8 := (UInt8.ofNat k :: beBytes l.length 2) ++ l.flatMap itemBytes

theorem itemBytes_len (x : Int × Nat) : (itemBytes x).length = 10 := by simp [itemBytes, beBytes_len]
theorem flat_len : ∀ l : Items, (l.flatMap itemBytes).length = l.length * 10
  | [] => rfl
  | x :: l => by simp only [List.flatMap_cons, List.length_append, itemBytes_len, flat_len l, List.length_cons]; omega
theorem histBytes_len (k : Nat) (l : Items) : (histBytes k l).length = 3 + l.length * 10 := by
  simp only [histBytes, List.length_append, List.length_cons, beBytes_len, flat_len]

theorem flat_take_succ (l : Items) (j : Nat) (h : j < l.length) : (l.take (j + 1)).flatMap itemBytes = (l.take j).flatMap itemBytes ++ itemBytes (keyAt l j, manyAt l j) := by
  rw [take_succ_at h, List.flatMap_append]; simp

theorem bIn_bounds {k : Nat} {a : Int} (hk : k ≤ 4) (h : bIn k a = true) : -2000 ≤ a ∧ a ≤ 2000 := by
  have := bMost_le hk
  simp only [bIn, Bool.and_eq_true, decide_eq_true_eq] at h
  omega

/-- A row of bytes as a string. -/
theorem string_of_row {v : Value} {l : List UInt8} {L F : List Chunk} {W w : World} (hR : RowC 5 1 v l.length (bytesC l) L) (hO : Own W w (L ++ F)) :
    (convert 153 9 v).run Try.prog w = .ok (.string ⟨l.toArray⟩) w := by
  rcases hR.two with ⟨rfl, hl, hx, rfl⟩ | ⟨r, o, cap, rfl, _, _⟩
  · have : l = [] := List.length_eq_zero_iff.1 hl
    subst this
    rw [run_convert_bytes_string w _ _ 5 none 0 0 Try.underlying153 Try.underlying5 Try.underlying9]
    rfl
  · refine run_convert_bytes_back w _ _ 5 ⟨r, o, none⟩ cap l Try.underlying153 Try.underlying5 Try.underlying9 (fun j hj => ?_)
    exact hR.cell hO _ rfl j _ (by simp [bytesC, hj])

def RetString (l : List UInt8) (W : World) (F : List Chunk) (e : Ending) (w' : World) : Prop := e = .returned (.string ⟨l.toArray⟩) ∧ Own W w' F

set_option maxRecDepth 100000 in
set_option maxHeartbeats 2000000 in
theorem Put_walk (k : Nat) (l : Items) (b : Nat) (L F : List Chunk) (W w : World) (hk : HOk k l) (hln : l.length ≤ 65535) (hR : HistC k l b L) (hO : Own W w (L ++ F)) :
    Calls Try.prog 35 #[.pointer (some ⟨b, 0, none⟩)] w (RetString (histBytes k l) W (L ++ F)) := by
  obtain ⟨sv, L', hrow, rfl⟩ := hR
  obtain ⟨a2, cap2, rfl, hq1, hq2, hq3, hq4⟩ := hrow.form
  have c0 := hO.cell (i := 0) (.head _) rfl
  have c1 := hO.cell (i := 1) (.head _) rfl
  have hlt : b < w.heap.size := hO.lt (.head _)
  have hne : b ≠ w.heap.size := by omega
  have hk4 := hk.bits
  have hkb : IntKind.u8.wrap (k : Int) = ((UInt8.ofNat k).toNat : Int) := by
    rw [UInt8.toNat_ofNat_of_lt' (by show k < 256; omega), IntKind.wrap_u8]; omega
  have HKB := Lib.hid hkb
  have hnu : IntKind.u64.wrap (l.length : Int) = (l.length : Int) := by rw [IntKind.wrap_u64]; omega
  have H := Lib.hid hO
  have HRow := Lib.hid hrow
  have HK := Lib.hid hk
  have HQ3 := Lib.hid hq3
  have HQ4 := Lib.hid hq4
  have hcm : cap2 ≤ 9223372036854775807 := by unfold maxLen at hq2; omega
  clear hO hrow hk hq2 hq3 hq4 hkb
  go_enter Try.func35, Try.ntmps35
  go_wp2_with fail
  go_region_held3 (fun w' => w'.cell? ⟨b, 0, none⟩ = some (.int .i64 (k : Int)) ∧ w'.cell? ⟨b, 1, none⟩ = some (.slice a2 l.length cap2))
    (first | go_keep | exact ⟨hO1.cell (i := 0) (List.mem_append_right _ (.head _)) rfl, hO1.cell (i := 1) (List.mem_append_right _ (.head _)) rfl⟩)
    ((go_at_call 90; rw [HKB.out]; refine (put_walk _ [UInt8.ofNat k] l.length 2 (by omega) (by omega) [(w.heap.size, .cells #[.int .u8 ((UInt8.ofNat k).toNat : Int)] 5 (0, 0))] ((b, histObj k (.slice a2 l.length cap2) (total l)) :: L' ++ F) W _ (RowC.one _ _ _) (H.out.alloc _).drew (by simp)).mono ?_; rintro e w1 ⟨v1, L1, rfl, hR1, hO1⟩))
  rename_i hS
  clear hS c0 c1
  have d1 := hO1.cell (i := 1) (List.mem_append_right _ (.head _)) rfl
  have H1 := Lib.hid hO1
  have HR1 := Lib.hid hR1
  clear hO1 hR1
  go_wp2_with fail
  go_loopw [3, 24] (fun v i wr => ∃ j : Nat, j ≤ l.length ∧ i = .int .i64 (j : Int) ∧ Hid (∃ Lj, RowC 5 1 v ((UInt8.ofNat k :: beBytes l.length 2) ++ (l.take j).flatMap itemBytes).length (bytesC ((UInt8.ofNat k :: beBytes l.length 2) ++ (l.take j).flatMap itemBytes)) Lj ∧
      Own W wr (Lj ++ ((b, histObj k (.slice a2 l.length cap2) (total l)) :: L' ++ F)))) (fun _ i _ => l.length - (intOf i).toNat)
  case atStart => exact ⟨0, Nat.zero_le _, rfl, L1, by simpa using HR1.out, H1.out⟩
  case round =>
    obtain ⟨j, hj, rfl, hq⟩ := hrel
    by_cases hlj : j < l.length
    · obtain ⟨Lj, hRj, hOj⟩ := hq.out
      cases a2 with
      | none => have := (HQ3.out rfl).1; omega
      | some q =>
        obtain ⟨r, o, sp⟩ := q
        obtain rfl : sp = none := HQ4.out _ rfl
        have hc := HRow.out.cell (F := Lj ++ (b, histObj k (.slice (some ⟨r, o, none⟩) l.length cap2) (total l)) :: F) (hOj.le (fun a => by simp only [cnt_append, cnt_cons, cnt_nil]; omega)) _ rfl
        have hc1 := hc _ _ (itemCells_at l j hlj).1
        have hc2 := hc _ _ (itemCells_at l j hlj).2
        rw [Addr.add_lit] at hc1 hc2
        rw [← Nat.add_assoc] at hc2
        have hji : (j : Int) < (l.length : Int) := by omega
        have hOx := hOj.alloc (.cells #[.int .i64 (keyAt l j), .int .u64 (manyAt l j : Int)] 35 (0, 0))
        have HX := Lib.hid hOx
        have HRj := Lib.hid hRj
        clear hRj hOj hc hq d1 hOx
        go_wp2_with fail
        generalize wr.alloc (.cells #[.int .i64 (keyAt l j), .int .u64 (manyAt l j : Int)] 35) = wx at *
        generalize wr.heap.size = bx at *
        have e0 := HX.out.cell (i := 0) (.head _) rfl
        have e1 := HX.out.cell (i := 1) (.head _) rfl
        have hkey := bIn_bounds hk4 (HK.out.inn _ (at_mem hlj))
        simp only at hkey
        obtain ⟨n4, hn4⟩ : ∃ n4, n4 = (keyAt l j + 2147483648).toNat := ⟨_, rfl⟩
        have hw1 : IntKind.i64.wrap (keyAt l j + 2147483648) = (n4 : Int) := by rw [IntKind.wrap_i64]; omega
        have hw2 : IntKind.u64.wrap (n4 : Int) = (n4 : Int) := by rw [IntKind.wrap_u64]; omega
        have hn4l : n4 < 18446744073709551616 := by omega
        have hml : manyAt l j < 18446744073709551616 := by have := manyAt_le l j; have := HK.out.most; omega
        have hpl : ((UInt8.ofNat k :: beBytes l.length 2) ++ (l.take j).flatMap itemBytes).length ≤ 700000 := by
          rw [List.length_append, flat_len, List.length_cons, beBytes_len, List.length_take]; omega
        have hnext : (UInt8.ofNat k :: beBytes l.length 2) ++ (l.take (j + 1)).flatMap itemBytes = ((UInt8.ofNat k :: beBytes l.length 2) ++ (l.take j).flatMap itemBytes ++ beBytes n4 4) ++ beBytes (manyAt l j) 6 := by
          rw [flat_take_succ l j hlj, itemBytes, hn4]; simp only [List.append_assoc]
        generalize (UInt8.ofNat k :: beBytes l.length 2) ++ (l.take j).flatMap itemBytes = pre at *
        have HN4 := Lib.hid hn4l
        have HML := Lib.hid hml
        have HNX := Lib.hid hnext
        clear hn4 hn4l hml hkey hnext
        go_region_held3 (fun w' => w'.cell? ⟨bx, 0, none⟩ = some (.int .i64 (keyAt l j)) ∧ w'.cell? ⟨bx, 1, none⟩ = some (.int .u64 (manyAt l j : Int)))
          (first | go_keep | exact ⟨hO2.cell (i := 0) (List.mem_append_right _ (.head _)) rfl, hO2.cell (i := 1) (List.mem_append_right _ (.head _)) rfl⟩ | exact ⟨hO3.cell (i := 0) (List.mem_append_right _ (.head _)) rfl, hO3.cell (i := 1) (List.mem_append_right _ (.head _)) rfl⟩)
          (first
            | (go_at_call 90; ((with_reducible refine (put4 u3 pre n4 HN4.out Lj ((bx, .cells #[.int .i64 (keyAt l j), .int .u64 (manyAt l j : Int)] 35 (0, 0)) :: (b, histObj k (.slice (some ⟨r, o, none⟩) l.length cap2) (total l)) :: L' ++ F) W _ HRj.out (by exact (HX.out.drew.le (fun a => by simp only [cnt_append, cnt_cons, cnt_nil]; omega))) (by omega)).mono ?_); rintro e w2 ⟨v2, L2, rfl, hR2, hO2⟩))
            | (go_at_call 90; ((with_reducible refine (put6 v2 (pre ++ beBytes n4 4) (manyAt l j) HML.out L2 ((bx, .cells #[.int .i64 (keyAt l j), .int .u64 (manyAt l j : Int)] 35 (0, 0)) :: (b, histObj k (.slice (some ⟨r, o, none⟩) l.length cap2) (total l)) :: L' ++ F) W _ hR2 (by exact (hO2.le (fun a => by simp only [cnt_append, cnt_cons, cnt_nil]; omega))) (by rw [List.length_append, beBytes_len]; omega)).mono ?_); rintro e w3 ⟨v3, L3, rfl, hR3, hO3⟩)))
        rw [← HNX.out] at hR3
        have HO3 := Lib.hid hO3
        have HR3 := Lib.hid hR3
        rename_i hS
        clear hS hO3 hR3
        go_wp2
        exact ⟨⟨j + 1, by omega, by go_num, L3, HR3.out, HO3.out.le (fun a => by simp only [cnt_append, cnt_cons, cnt_nil]; omega)⟩, by simp [intOf]; omega⟩
    · obtain rfl : j = l.length := by omega
      obtain ⟨Lj, hRj, hOj⟩ := hq.out
      rw [List.take_length] at hRj
      have hcv := string_of_row hRj hOj
      have HO := Lib.hid hOj
      clear hRj hOj hq
      go_wp2
      go_ret
      exact ⟨rfl, HO.out.le (fun a => by simp only [cnt_append, cnt_cons, cnt_nil]; omega)⟩

end Go.Proofs.Ytbafepjmogigjaa
