/- The walks of package cell: read, Get. -/
import Derived.Test.YtbafepjmogigjaaCellR
namespace Go.Proofs.Ytbafepjmogigjaa
set_option linter.unusedSimpArgs false
set_option linter.unusedVariables false
open Go.RowKit

theorem getCell_short {s : List UInt8} (h : s.length < 40) : getCell s = none := by unfold getCell; rw [if_pos h]
theorem getCell_nohist {s : List UInt8} (h : getHist (s.drop 40) = none) : getCell s = none := by
  unfold getCell
  split
  · rfl
  · rw [h]

/-- What read tells of bytes that are none. -/
def RetNone (W : World) (F : List Chunk) (e : Ending) (w' : World) : Prop := ∃ v1 v2, e = .returned (.tuple #[v1, v2, .int .i64 2]) ∧ Own W w' F

set_option maxRecDepth 100000 in
set_option maxHeartbeats 1000000 in
theorem CRead_short (s : ByteArray) (hs : s.size < 40) (W w : World) (F : List Chunk) (hO : Own W w F) :
    Calls Try.prog 107 #[.string s] w (RetNone W F) := by
  have H := Lib.hid hO
  have hb : (s.size : Int) < 40 := by omega
  have hO1 := Lib.hid (hO.alloc (.cells #[.int .i64 0] 40 (0, 0)))
  have e0 := hO1.out.cell (i := 0) (.head _) rfl
  have f0 := hO1.out.free (.head _) 0
  clear hO
  go_enter_defers Try.func107, Try.ntmps107
  go_wp2_with fail
  refine (must_no 2 (by omega) _).mono ?_
  rintro e w1 ⟨rfl, rfl⟩
  go_wp2_with fail
  refine leaves_cons (f := 100) (args := #[.pointer (some ⟨w.heap.size, 0, none⟩)]) (by simp) (by simp [go_sem]) ?_
  refine (caught_panicking ⟨w.heap.size, 0, none⟩ 0 2 _ _ e0 f0).mono ?_
  rintro e u' w'' ⟨rfl, rfl, rfl⟩
  have hO2 := hO1.out.set0 0 (.int .i64 2)
  have e1 := hO2.cell (i := 0) (.head _) rfl
  simp [Leaves, settle, results, Try.results107, go_sem, e1]
  exact ⟨_, _, rfl, (H.out.alloc _).le (fun a => by simp only [cnt_append, cnt_cons, cnt_nil]; omega)⟩

theorem ext_toEnd (s : ByteArray) (i : Nat) : (s.extract i s.size).data.toList = s.data.toList.drop i := Lib.extract_to_end s i

set_option maxRecDepth 100000 in
set_option maxHeartbeats 1000000 in
theorem CRead_nohist (s : ByteArray) (hs : 40 ≤ s.size) (hs2 : s.size ≤ 4611686018427387904) (hg : getHist (s.data.toList.drop 40) = none) (W w : World) (F : List Chunk) (hO : Own W w F) :
    Calls Try.prog 107 #[.string s] w (RetNone W F) := by
  have H := Lib.hid hO
  have hb : decide ((s.size : Int) < 40) = false := decide_eq_false (by omega)
  have hb2 : (40 : Int) ≤ (s.size : Int) := by omega
  have hO1 := Lib.hid (hO.alloc (.cells #[.int .i64 0] 40 (0, 0)))
  have HG := Lib.hid hg
  have HS2 := Lib.hid hs2
  clear hO hg hs2
  go_enter_defers Try.func107, Try.ntmps107
  go_wp2_with fail
  refine (GetH_walk (s.extract 40 s.size) (by have := HS2.out; simp; omega) W _ _ hO1.out).mono ?_
  rw [ext_toEnd, HG.out]
  rintro e w1 ⟨rfl, hO2⟩
  have e0 := hO2.cell (i := 0) (.head _) rfl
  have f0 := hO2.free (.head _) 0
  have HO2 := Lib.hid hO2
  clear hO2
  go_wp2_with fail
  have HO3 := Lib.hid (HO2.out.set0 0 (.int .i64 2))
  refine (must_no 2 (by omega) _).mono ?_
  rintro e w2 ⟨rfl, rfl⟩
  go_wp2_with fail
  have e1 := HO3.out.cell (i := 0) (.head _) rfl
  have f1 := HO3.out.free (.head _) 0
  refine leaves_cons (f := 100) (args := #[.pointer (some ⟨w.heap.size, 0, none⟩)]) (by simp) (by simp [go_sem]) ?_
  refine (caught_panicking ⟨w.heap.size, 0, none⟩ 2 2 _ _ e1 f1).mono ?_
  rintro e u' w'' ⟨rfl, rfl, rfl⟩
  have hO4 := HO3.out.set0 0 (.int .i64 2)
  have e2 := hO4.cell (i := 0) (.head _) rfl
  simp [Leaves, settle, results, Try.results107, go_sem, e2]
  exact ⟨_, _, rfl, hO4.le (fun a => by simp only [cnt_append, cnt_cons, cnt_nil]; omega)⟩

/-- What Get tells. -/
def RetGetC (o : Option (PCell × List UInt8)) (W : World) (F : List Chunk) (e : Ending) (w' : World) : Prop :=
  match o with
  | none => e = .returned (.tuple #[.pointer none, .string ⟨#[]⟩, .int .i64 2]) ∧ Own W w' F
  | some (c, r) => ∃ b L, e = .returned (.tuple #[.pointer (some ⟨b, 0, none⟩), .string ⟨r.toArray⟩, .int .i64 0]) ∧ CellC c b L ∧ COk c ∧ Own W w' (L ++ F)

theorem getCell_parts {s : List UInt8} {c : PCell} {r : List UInt8} (h : getCell s = some (c, r)) : 40 ≤ s.length ∧ getHist (s.drop 40) = some (c.k, c.l, r) ∧
    c.fr = s64 (numAt s 0 8) ∧ c.s = s64 (numAt s 8 8) * 18446744073709551616 + (numAt s 16 8 : Int) ∧ c.lo = s64 (numAt s 24 8) ∧ c.hi = s64 (numAt s 32 8) ∧ rightC c = true := by
  unfold getCell at h
  split at h
  · cases h
  · split at h
    · cases h
    · rename_i hl k l rest hg
      simp only at h
      split at h
      · rename_i hr
        simp only [Option.some.injEq, Prod.mk.injEq] at h
        obtain ⟨rfl, rfl⟩ := h
        exact ⟨by omega, hg, rfl, rfl, rfl, rfl, hr⟩
      · cases h

theorem numAt_lt (l : List UInt8) (i : Nat) : numAt l i 8 < 18446744073709551616 := by
  refine Nat.lt_of_lt_of_le (beNum_lt _) ?_
  have : ((l.drop i).take 8).length ≤ 8 := by simp; omega
  exact Nat.le_trans (Nat.pow_le_pow_right (by omega) this) (by decide)

theorem words_of {l : List UInt8} {i j : Nat} : hiOf (s64 (numAt l i 8) * 18446744073709551616 + (numAt l j 8 : Int)) = s64 (numAt l i 8) ∧ loOf (s64 (numAt l i 8) * 18446744073709551616 + (numAt l j 8 : Int)) = (numAt l j 8 : Int) ∧ I128 (s64 (numAt l i 8) * 18446744073709551616 + (numAt l j 8 : Int)) := by
  have h1 := numAt_lt l j
  have h2 := s64_I64 (numAt l i 8)
  unfold I64 at h2
  generalize s64 (numAt l i 8) = x at *
  generalize numAt l j 8 = y at *
  unfold hiOf loOf I128 wrap64
  omega

theorem numAt_ext (s : ByteArray) (i : Nat) (h : i + 8 ≤ s.size) : numAt (s.extract i s.size).data.toList 0 8 = numAt s.data.toList i 8 := by
  unfold numAt
  rw [ext_toEnd, List.drop_zero]

theorem take8 (l : List UInt8) : beNum (l.take 8) = numAt l 0 8 := rfl

theorem numAt_mid (s : ByteArray) (i j : Nat) (h1 : i + 8 ≤ 16) : numAt (s.extract 8 24).data.toList i 8 = numAt s.data.toList (8 + i) 8 := by
  unfold numAt
  rw [Lib.extract_data, List.drop_take, List.drop_drop, List.take_take]
  congr 2
  omega

set_option maxRecDepth 100000 in
set_option maxHeartbeats 2000000 in
theorem CRead_yes (s : ByteArray) (hs2 : s.size ≤ 4611686018427387904) (c : PCell) (r : List UInt8) (hg : getCell s.data.toList = some (c, r)) (W w : World) (F : List Chunk) (hO : Own W w F) :
    Calls Try.prog 107 #[.string s] w (RetGetC (some (c, r)) W F) := by
  have H := Lib.hid hO
  obtain ⟨h40, hgh, e1, e2, e3, e4, hr⟩ := getCell_parts hg
  have h40' : 40 ≤ s.size := by simpa using h40
  have hb : decide ((s.size : Int) < 40) = false := decide_eq_false (by omega)
  have hb2 : (40 : Int) ≤ (s.size : Int) := by omega
  have hb3 : (24 : Int) ≤ (s.size : Int) := by omega
  have hb4 : (32 : Int) ≤ (s.size : Int) := by omega
  have hO1 := Lib.hid (hO.alloc (.cells #[.int .i64 0] 40 (0, 0)))
  have HG := Lib.hid hgh
  have HS2 := Lib.hid hs2
  have HR := Lib.hid hr
  have HOK := Lib.hid (getCell_ok hg)
  have H40 := Lib.hid h40'
  have HE := Lib.hid (And.intro e1 (And.intro e2 (And.intro e3 e4)))
  clear hO hg hs2 hgh hr e1 e2 e3 e4 h40 h40'
  go_enter_defers Try.func107, Try.ntmps107
  go_wp2_with fail
  refine (GetH_walk (s.extract 40 s.size) (by have := HS2.out; simp; omega) W _ _ hO1.out).mono ?_
  rw [ext_toEnd, HG.out]
  rintro e w1 ⟨hb1, Hc, rfl, hC, hk, hO2⟩
  have e0 := hO2.cell (i := 0) (List.mem_append_right _ (.head _)) rfl
  have f0 := hO2.free (List.mem_append_right _ (.head _)) 0
  have HO2 := Lib.hid ((hO2.put (b := w.heap.size) (c := #[.int .i64 0]) (T := 40) (z := (0, 0)) (R := Hc ++ F) (fun a => by simp only [cnt_append, cnt_cons, cnt_nil]; omega) 0 (.int .i64 0)))
  have HC := Lib.hid hC
  clear hO2 hC hk
  go_wp2_with fail
  refine (must_ok _).mono ?_
  rintro e w2 ⟨rfl, rfl⟩
  go_wp2_with fail
  refine (WGet (s.extract 8 24) (by have := H40.out; simp; omega) W _ _ HO2.out).mono ?_
  have hw : s64 (numAt (s.extract 8 24).data.toList 0 8) = hiOf c.s ∧ (numAt (s.extract 8 24).data.toList 8 8 : Int) = loOf c.s := by
    rw [numAt_mid s 0 0 (by omega), numAt_mid s 8 0 (by omega), HE.out.2.1]
    have := words_of (l := s.data.toList) (i := 8) (j := 16)
    exact ⟨this.1.symm, this.2.1.symm⟩
  rw [hw.1, hw.2]
  clear hw
  rintro e w3 ⟨okv, rfl, hO3⟩
  have hO4 := hO3.alloc (.cells #[.int .i64 (hiOf c.s), .int .u64 (loOf c.s)] 82 (0, 0))
  have s0 := hO4.cell (i := 0) (.head _) rfl
  have s1 := hO4.cell (i := 1) (.head _) rfl
  have HO4 := Lib.hid hO4
  have g1 : s64 (beNum (s.data.toList.take 8)) = c.fr := HE.out.1.symm
  have g2 : s64 (beNum ((s.extract 24 s.size).data.toList.take 8)) = c.lo := by rw [take8, numAt_ext s 24 (by have := H40.out; omega)]; exact HE.out.2.2.1.symm
  have g3 : s64 (beNum ((s.extract 32 s.size).data.toList.take 8)) = c.hi := by rw [take8, numAt_ext s 32 (by have := H40.out; omega)]; exact HE.out.2.2.2.symm
  have G1 := Lib.hid g1
  have G2 := Lib.hid g2
  have G3 := Lib.hid g3
  clear hO3 hO4 g1 g2 g3 e0 f0
  go_wp2_with fail
  go_region_held3 (fun w' => w'.cell? ⟨w3.heap.size, 0, none⟩ = some (.int .i64 (hiOf c.s)) ∧ w'.cell? ⟨w3.heap.size, 1, none⟩ = some (.int .u64 (loOf c.s))) (go_keep)
    (first
      | (go_at_call 132; ((with_reducible refine (cget_walk s ?_ _).mono ?_); (have := H40.out; omega); rintro e w5 ⟨rfl, rfl⟩; rw [G1.out]))
      | (go_at_call 132; ((with_reducible refine (cget_walk (s.extract 24 s.size) ?_ _).mono ?_); (have := H40.out; simp; omega); rintro e w5 ⟨rfl, rfl⟩; rw [G2.out]))
      | (go_at_call 132; ((with_reducible refine (cget_walk (s.extract 32 s.size) ?_ _).mono ?_); (have := H40.out; simp; omega); rintro e w5 ⟨rfl, rfl⟩; rw [G3.out])))
  rename_i hS
  clear hS s0 s1
  have hO5 := (HO4.out.alloc (cellObj hb1 c.fr c.s c.lo c.hi)).drew
  simp only [World.size_alloc] at hO5
  have HO5 := Lib.hid hO5
  clear hO5
  have HRAW : Hid (CRaw c) := ⟨HOK.out.h, HOK.out.fr, HOK.out.lo, HOK.out.hi, HOK.out.i128⟩
  go_wp2_with fail
  refine (CRight_yes c (w3.heap.size + 1) ((w3.heap.size + 1, cellObj hb1 c.fr c.s c.lo c.hi) :: Hc) ((w.heap.size, Obj.cells (#[Value.int IntKind.i64 0].setIfInBounds 0 (Value.int IntKind.i64 0)) 40 (0, 0)) :: F) W _ HRAW.out HR.out ⟨hb1, Hc, HC.out, rfl⟩ (HO5.out.le (fun a => by simp only [cnt_append, cnt_cons, cnt_nil]; omega))).mono ?_
  rintro e w6 ⟨rfl, hO6⟩
  have hO7 := hO6.le (L' := (w.heap.size, Obj.cells (#[Value.int IntKind.i64 0].setIfInBounds 0 (Value.int IntKind.i64 0)) 40 (0, 0)) :: (((w3.heap.size + 1, cellObj hb1 c.fr c.s c.lo c.hi) :: Hc) ++ F)) (fun a => by simp only [cnt_append, cnt_cons, cnt_nil]; omega)
  have e0 := hO7.cell (i := 0) (.head _) rfl
  have f0 := hO7.free (.head _) 0
  have HO8 := Lib.hid (hO7.set0 0 (.int .i64 0))
  clear hO6 hO7
  go_wp2_with fail
  refine leaves_cons (f := 100) (args := #[.pointer (some ⟨w.heap.size, 0, none⟩)]) (by simp) (by simp [go_sem]) ?_
  refine (caught_idle ⟨w.heap.size, 0, none⟩ _).mono ?_
  rintro e u' w'' ⟨rfl, rfl, rfl⟩
  have e2 := HO8.out.cell (i := 0) (.head _) rfl
  simp [Leaves, settle, results, Try.results107, go_sem, e2]
  exact ⟨w3.heap.size + 1, (w3.heap.size + 1, cellObj hb1 c.fr c.s c.lo c.hi) :: Hc, rfl, ⟨hb1, Hc, HC.out, rfl⟩, HOK.out, HO8.out.le (fun a => by simp only [cnt_append, cnt_cons, cnt_nil]; omega)⟩

theorem RetNone.get {o : Option (PCell × List UInt8)} (h : o = none) (s : ByteArray) (W w : World) (F : List Chunk) (hn : Calls Try.prog 107 #[.string s] w (RetNone W F)) :
    Calls Try.prog 57 #[.string s] w (RetGetC o W F) := by
  subst h
  have HN := Lib.hid hn
  clear hn
  go_enter Try.func57, Try.ntmps57
  go_wp2_with fail
  refine HN.out.mono ?_
  rintro e w1 ⟨v1, v2, rfl, hO1⟩
  have H1 := Lib.hid hO1
  clear hO1
  go_wp2
  go_ret3
  exact ⟨rfl, H1.out⟩

theorem CGet_yes (s : ByteArray) (hs2 : s.size ≤ 4611686018427387904) (c : PCell) (r : List UInt8) (hg : getCell s.data.toList = some (c, r)) (W w : World) (F : List Chunk) (hO : Own W w F) :
    Calls Try.prog 57 #[.string s] w (RetGetC (some (c, r)) W F) := by
  have HN := Lib.hid (CRead_yes s hs2 c r hg W w F hO)
  clear hg hO
  go_enter Try.func57, Try.ntmps57
  go_wp2_with fail
  refine HN.out.mono ?_
  rintro e w1 ⟨b, L, rfl, hC, hk, hO1⟩
  have H1 := Lib.hid hO1
  clear hO1
  go_wp2
  go_ret3
  exact ⟨b, L, rfl, hC, hk, H1.out⟩

theorem CGet_short (s : ByteArray) (hs : s.size < 40) (W w : World) (F : List Chunk) (hO : Own W w F) :
    Calls Try.prog 57 #[.string s] w (RetGetC (getCell s.data.toList) W F) :=
  RetNone.get (getCell_short (by simpa using hs)) s W w F (CRead_short s hs W w F hO)

theorem CGet_nohist (s : ByteArray) (hs : 40 ≤ s.size) (hs2 : s.size ≤ 4611686018427387904) (hg : getHist (s.data.toList.drop 40) = none) (W w : World) (F : List Chunk) (hO : Own W w F) :
    Calls Try.prog 57 #[.string s] w (RetGetC (getCell s.data.toList) W F) :=
  RetNone.get (getCell_nohist hg) s W w F (CRead_nohist s hs hs2 hg W w F hO)

end Go.Proofs.Ytbafepjmogigjaa
