/- The walks of package cell: caught, must, Add, Merge. -/
import Derived.Test.YtbafepjmogigjaaCell
namespace Go.Proofs.Ytbafepjmogigjaa
set_option linter.unusedSimpArgs false
set_option linter.unusedVariables false
open Go.RowKit

/-- caught: nothing was thrown. -/
theorem caught_idle (p : Addr) (w : World) :
    CallsD Try.prog 100 #[.pointer (some p)] .returning w fun e u' w' => e = .returned (.tuple #[]) ∧ u' = .returning ∧ w' = w := by
  refine callsD_of_wpS Try.func100 rfl fun c₀ cs hu => ?_
  apply wpS_seq
  apply wpS_region
  simp [wpOpsS, go_sem, recoverD, hu, Try.ntmps100, Exit.thenS]
  refine wpS_of_wp ?_
  go_wp2
  cases c₀
  simp_all [bodyPostS, results, Try.results100]

theorem assert_errno (n : Int) (w : World) : (Instr.typeAssert (.iface 40 (.int .i64 n)) 20 40 true).run Try.prog w = .ok (.tuple #[.int .i64 n, .bool true]) w := by kernel_rfl

set_option maxRecDepth 100000 in
/-- caught: an error was thrown. -/
theorem caught_panicking (p : Addr) (x n : Int) (older : List PanicEntry) (w : World) (hc : w.cell? p = some (.int .i64 x)) (hz : w.frozen? p = false) :
    CallsD Try.prog 100 #[.pointer (some p)] (.panicking ({ v := .iface 40 (.int .i64 n), recovered := false } :: older)) w fun e u' w' =>
      e = .returned (.tuple #[]) ∧ u' = .panicking ({ v := .iface 40 (.int .i64 n), recovered := true } :: older) ∧ w' = w.setCell p (.int .i64 n) := by
  refine callsD_of_wpS Try.func100 rfl fun c₀ cs hu => ?_
  apply wpS_seq
  apply wpS_region
  simp [wpOpsS, go_sem, recoverD, hu, Try.ntmps100, Exit.thenS]
  refine wpS_of_wp ?_
  have ta := assert_errno n w
  rw [show (#[Value.pointer (some p)] ++ (Array.replicate 13 undef).setIfInBounds 4 (Value.iface 40 (Value.int IntKind.i64 n)) : Array Value) = #[.pointer (some p), undef, undef, undef, undef, .iface 40 (.int .i64 n), undef, undef, undef, undef, undef, undef, undef, undef] from rfl]
  clear hu
  generalize hQ : (fun (e : Exit) (a' : Act) (w' : World) => bodyPostS Try.prog Try.f100 c₀ cs _ e a' _ w') = Q
  go_wp2
  subst hQ
  cases c₀
  simp [bodyPostS, results, Try.results100]

theorem must_ok (w : World) : Calls Try.prog 101 #[.int .i64 0] w fun e w' => e = .returned (.tuple #[]) ∧ w = w' := by
  go_enter Try.func101, Try.ntmps101
  go_wp2
  go_end0
  exact ⟨rfl, rfl⟩

theorem must_no (n : Int) (hn : n ≠ 0) (w : World) : Calls Try.prog 101 #[.int .i64 n] w fun e w' => e = .panicked [{ v := .iface 40 (.int .i64 n), recovered := false }] ∧ w = w' := by
  have hb : (n != 0) = true := by simpa using hn
  go_enter Try.func101, Try.ntmps101
  go_wp2
  exact ⟨rfl, rfl, rfl⟩

def RetCell (c : PCell) (n : Int) (b : Nat) (W : World) (F : List Chunk) (e : Ending) (w' : World) : Prop :=
  e = .returned (.int .i64 n) ∧ ∃ L', CellC c b L' ∧ Own W w' (L' ++ F)

theorem CellC.block {c : PCell} {b : Nat} {L F : List Chunk} {W w : World} (h : CellC c b L) (hO : Own W w (L ++ F)) : ∃ hb, w.heap[b]? = some (cellObj hb c.fr c.s c.lo c.hi) := by
  obtain ⟨hb, H, _, rfl⟩ := h
  exact ⟨hb, hO.get (.head _)⟩

set_option maxRecDepth 100000 in
set_option maxHeartbeats 1000000 in
theorem CAdd_walk (c : PCell) (n : Int) (b : Nat) (L F : List Chunk) (W w : World) (hc : COk c) (hn : I64 n) (ht : total c.l < 1099511627776) (hR : CellC c b L) (hO : Own W w (L ++ F)) :
    Calls Try.prog 50 #[.pointer (some ⟨b, 0, none⟩), .int .i64 n] w (RetCell (addC c n) 0 b W F) := by
  obtain ⟨hb, Hc, hH, rfl⟩ := hR
  have c0 := hO.cell (i := 0) (.head _) rfl
  have H := Lib.hid hO
  have HH := Lib.hid hH
  have HC := Lib.hid hc
  have HN := Lib.hid hn
  have HT := Lib.hid ht
  have hlt : b < w.heap.size := hO.lt (.head _)
  have hne : b ≠ w.heap.size := by omega
  clear hO hH hc hn ht
  have hmf : ∀ (fn : Fn) (first cap : Array Value) (w : World), (Instr.makeFunc fn first cap).run Try.prog w = .ok (.func fn first cap) w := fun _ _ _ _ => rfl
  have hO1 := Lib.hid (H.out.alloc (.cells #[.int .i64 0] 40 (0, 0)))
  go_enter_defers Try.func50, Try.ntmps50
  go_wp2_with fail
  refine (Count_C (F := (w.heap.size, .cells #[.int .i64 0] 40 (0, 0)) :: (b, cellObj hb c.fr c.s c.lo c.hi) :: F) HH.out (hO1.out.le (fun a => by simp only [cnt_append, cnt_cons, cnt_nil]; omega))).mono ?_
  rintro e w1 ⟨rfl, rfl⟩
  go_wp2_with fail
  have hadd : addN c.k c.l n = (addItem c.l (bkOf c.k n) 1, 0) := by unfold addN; rw [if_neg (by have := HT.out; omega)]
  have HA := Lib.hid hadd
  clear hadd
  refine (Add_walk c.k c.l n hb Hc ((w.heap.size, .cells #[.int .i64 0] 40 (0, 0)) :: (b, cellObj hb c.fr c.s c.lo c.hi) :: F) HN.out.1 HN.out.2 W _ HC.out.h HH.out (hO1.out.le (fun a => by simp only [cnt_append, cnt_cons, cnt_nil]; omega))).mono ?_
  rw [HA.out]
  rintro e w2 ⟨rfl, H2, hH2, hO2⟩
  have HO2 := Lib.hid hO2
  have HH2 := Lib.hid hH2
  clear hO2 hH2 c0
  go_wp2_with fail
  refine (must_ok _).mono ?_
  rintro e w3 ⟨rfl, rfl⟩
  go_wp2_with fail
  refine (WOf n HN.out W _ _ HO2.out).mono ?_
  rintro e w4 ⟨rfl, hO4⟩
  have HO4 := Lib.hid hO4
  clear hO4
  simp only [sumV]
  go_wp2_with fail
  refine (CTake b hb c.fr c.s c.lo c.hi n n n (total c.l) 1 (by omega) (by omega) HC.out.h.most W _ (H2 ++ (w.heap.size, .cells #[.int .i64 0] 40 (0, 0)) :: F) (HO4.out.le (fun a => by simp only [cnt_append, cnt_cons, cnt_nil]; omega))).mono ?_
  rintro e w5 ⟨rfl, hO5⟩
  have e0 := hO5.cell (i := 0) (.tail _ (List.mem_append_right _ (.head _))) rfl
  have f0 := hO5.free (.tail _ (List.mem_append_right _ (.head _))) 0
  have HO5 := Lib.hid hO5
  clear hO5
  go_wp2_with fail
  refine leaves_cons (f := 100) (args := #[.pointer (some ⟨w.heap.size, 0, none⟩)]) (by simp) (by simp [go_sem]) ?_
  refine (caught_idle ⟨w.heap.size, 0, none⟩ _).mono ?_
  rintro e u' w'' ⟨rfl, rfl, rfl⟩
  simp [Leaves, settle, results, Try.results50, go_sem, e0]
  exact ⟨rfl, (b, cellObj hb c.fr (c.s + n) (if total c.l = 0 then n else min c.lo n) (if total c.l = 0 then n else max c.hi n)) :: H2, ⟨hb, H2, HH2.out, rfl⟩, (HO5.out.put (b := w.heap.size) (c := #[.int .i64 0]) (T := 40) (z := (0, 0)) (R := (b, cellObj hb c.fr (c.s + n) (if total c.l = 0 then n else min c.lo n) (if total c.l = 0 then n else max c.hi n)) :: (H2 ++ F)) (fun a => by simp only [cnt_append, cnt_cons, cnt_nil]; omega) 0 (.int .i64 0)).le (fun a => by simp only [cnt_append, cnt_cons, cnt_nil]; omega)⟩

set_option maxRecDepth 100000 in
set_option maxHeartbeats 1000000 in
theorem CMerge_ok (c d : PCell) (b b' : Nat) (L M F : List Chunk) (W w : World) (hc : COk c) (hd : COk d) (hk : d.k = c.k) (ht : total c.l + total d.l ≤ 1099511627776) (hR : CellC c b L) (hM : CellC d b' M) (hO : Own W w (L ++ M ++ F)) :
    Calls Try.prog 49 #[.pointer (some ⟨b, 0, none⟩), .pointer (some ⟨b', 0, none⟩)] w (RetCell (mergeC c d) 0 b W (M ++ F)) := by
  obtain ⟨hb, Hc, hH, rfl⟩ := hR
  obtain ⟨hb', Hd, hH', rfl⟩ := hM
  have hO' := hO.le (L' := (b, cellObj hb c.fr c.s c.lo c.hi) :: (b', cellObj hb' d.fr d.s d.lo d.hi) :: (Hc ++ (Hd ++ F))) (fun a => by simp only [cnt_append, cnt_cons, cnt_nil]; omega)
  have c0 := hO'.cell (i := 0) (.head _) rfl
  have d0 := hO'.cell (i := 0) (.tail _ (.head _)) rfl
  have d2 := hO'.cell (i := 2) (.tail _ (.head _)) rfl
  have d3 := hO'.cell (i := 3) (.tail _ (.head _)) rfl
  have d4 := hO'.cell (i := 4) (.tail _ (.head _)) rfl
  have d5 := hO'.cell (i := 5) (.tail _ (.head _)) rfl
  have H := Lib.hid hO'
  have HH := Lib.hid hH
  have HH' := Lib.hid hH'
  have HC := Lib.hid hc
  have HD := Lib.hid hd
  have HK := Lib.hid hk
  have HT := Lib.hid ht
  have hlt : b < w.heap.size := hO'.lt (.head _)
  have hne : b ≠ w.heap.size := by omega
  have hlt' : b' < w.heap.size := hO'.lt (.tail _ (.head _))
  have hne' : b' ≠ w.heap.size := by omega
  have hbb : b ≠ b' := hO'.ne_mem (.head _)
  clear hO hO' hH hH' hc hd hk ht
  have hO1 := Lib.hid (H.out.alloc (.cells #[.int .i64 0] 40 (0, 0)))
  go_enter_defers Try.func49, Try.ntmps49
  go_wp2_with fail
  go_region_held3 (fun w' => w'.cell? ⟨b, 0, none⟩ = some (.pointer (some ⟨hb, 0, none⟩)) ∧ w'.cell? ⟨b', 0, none⟩ = some (.pointer (some ⟨hb', 0, none⟩))) (go_keep)
    (first
      | (go_at_call 22; ((with_reducible refine (Count_C (F := (w.heap.size, .cells #[.int .i64 0] 40 (0, 0)) :: (b, cellObj hb c.fr c.s c.lo c.hi) :: (b', cellObj hb' d.fr d.s d.lo d.hi) :: (Hd ++ F)) HH.out (by exact (hO1.out.drew.le (fun a => by simp only [cnt_append, cnt_cons, cnt_nil]; omega)))).mono ?_); rintro e w1 ⟨rfl, rfl⟩))
      | (go_at_call 22; ((with_reducible refine (Count_C (F := (w.heap.size, .cells #[.int .i64 0] 40 (0, 0)) :: (b, cellObj hb c.fr c.s c.lo c.hi) :: (b', cellObj hb' d.fr d.s d.lo d.hi) :: (Hc ++ F)) HH'.out (by exact (hO1.out.drew.le (fun a => by simp only [cnt_append, cnt_cons, cnt_nil]; omega)))).mono ?_); rintro e w1 ⟨rfl, rfl⟩)))
  rename_i hS
  clear hS
  have hmg : mergeN c.k c.l d.k d.l = (addAll c.l d.l, 0) := by
    unfold mergeN
    rw [if_neg (by rw [HK.out]; simp), if_neg (by have := HT.out; omega)]
  have HMG := Lib.hid hmg
  clear hmg
  go_wp2_with fail
  go_region_held3 (fun w' => w'.cell? ⟨b, 0, none⟩ = some (.pointer (some ⟨hb, 0, none⟩)) ∧ w'.cell? ⟨b', 0, none⟩ = some (.pointer (some ⟨hb', 0, none⟩)))
    (first | go_keep | exact ⟨hO2.cell (i := 0) (List.mem_append_right _ (.tail _ (.head _))) rfl, hO2.cell (i := 0) (List.mem_append_right _ (.tail _ (.tail _ (.head _)))) rfl⟩)
    (first
      | (go_at_call 28; ((with_reducible refine (Merge_walk c.k d.k c.l d.l hb hb' Hc Hd ((w.heap.size, .cells #[.int .i64 0] 40 (0, 0)) :: (b, cellObj hb c.fr c.s c.lo c.hi) :: (b', cellObj hb' d.fr d.s d.lo d.hi) :: F) W _ HC.out.h HD.out.h HH.out HH'.out (by exact (hO1.out.drew.drew.le (fun a => by simp only [cnt_append, cnt_cons, cnt_nil]; omega)))).mono ?_); rw [HMG.out]; rintro e w2 ⟨rfl, H2, hH2, hO2⟩; replace hO2 := hO2.le (L' := (H2 ++ Hd) ++ (w.heap.size, .cells #[.int .i64 0] 40 (0, 0)) :: (b, cellObj hb c.fr c.s c.lo c.hi) :: (b', cellObj hb' d.fr d.s d.lo d.hi) :: F) (fun a => by simp only [cnt_append, cnt_cons, cnt_nil]; omega)))
      | (go_at_call 101; refine (must_ok _).mono ?_; rintro e w3 ⟨rfl, rfl⟩))
  rename_i hS
  clear hS c0 d0 d2 d3 d4 d5
  have d2 := hO2.cell (i := 2) (List.mem_append_right _ (.tail _ (.tail _ (.head _)))) rfl
  have d3 := hO2.cell (i := 3) (List.mem_append_right _ (.tail _ (.tail _ (.head _)))) rfl
  have d4 := hO2.cell (i := 4) (List.mem_append_right _ (.tail _ (.tail _ (.head _)))) rfl
  have d5 := hO2.cell (i := 5) (List.mem_append_right _ (.tail _ (.tail _ (.head _)))) rfl
  have HO2 := Lib.hid hO2
  have HH2 := Lib.hid hH2
  clear hO2 hH2
  go_wp2_with fail
  go_region_held3 (fun w' => w'.cell? ⟨b', 2, none⟩ = some (.int .i64 (hiOf d.s)) ∧ w'.cell? ⟨b', 3, none⟩ = some (.int .u64 (loOf d.s)) ∧ w'.cell? ⟨b', 4, none⟩ = some (.int .i64 d.lo) ∧ w'.cell? ⟨b', 5, none⟩ = some (.int .i64 d.hi))
    (first | go_keep | exact ⟨hO3.cell (i := 2) (.tail _ (.head _)) rfl, hO3.cell (i := 3) (.tail _ (.head _)) rfl, hO3.cell (i := 4) (.tail _ (.head _)) rfl, hO3.cell (i := 5) (.tail _ (.head _)) rfl⟩)
    ((go_at_call 102; refine (CTake_any b hb c.fr c.s c.lo c.hi d.s d.lo d.hi (total c.l) (total d.l) HD.out.h.most HC.out.h.most W _ ((b', cellObj hb' d.fr d.s d.lo d.hi) :: ((H2 ++ Hd) ++ (w.heap.size, .cells #[.int .i64 0] 40 (0, 0)) :: F)) (HO2.out.drew.le (fun a => by simp only [cnt_append, cnt_cons, cnt_nil]; omega))).mono ?_; rintro e w3 ⟨rfl, hO3⟩))
  rename_i hS
  clear hS d2 d3 d4 d5
  have e0 := hO3.cell (i := 0) (.tail _ (.tail _ (List.mem_append_right _ (.head _)))) rfl
  have f0 := hO3.free (.tail _ (.tail _ (List.mem_append_right _ (.head _)))) 0
  have HO3 := Lib.hid hO3
  clear hO3
  go_wp2_with fail
  refine leaves_cons (f := 100) (args := #[.pointer (some ⟨w.heap.size, 0, none⟩)]) (by simp) (by simp [go_sem]) ?_
  refine (caught_idle ⟨w.heap.size, 0, none⟩ _).mono ?_
  rintro e u' w'' ⟨rfl, rfl, rfl⟩
  simp [Leaves, settle, results, Try.results49, go_sem, e0]
  have hO4 := (HO3.out.put (b := w.heap.size) (c := #[.int .i64 0]) (T := 40) (z := (0, 0)) (R := (b, cellObj hb c.fr (if total d.l = 0 then c.s else c.s + d.s) (if total d.l = 0 then c.lo else if total c.l = 0 then d.lo else min c.lo d.lo) (if total d.l = 0 then c.hi else if total c.l = 0 then d.hi else max c.hi d.hi)) :: (b', cellObj hb' d.fr d.s d.lo d.hi) :: (H2 ++ (Hd ++ F))) (fun a => by simp only [cnt_append, cnt_cons, cnt_nil]; omega) 0 (.int .i64 0))
  refine ⟨rfl, (b, cellObj hb c.fr (if total d.l = 0 then c.s else c.s + d.s) (if total d.l = 0 then c.lo else if total c.l = 0 then d.lo else min c.lo d.lo) (if total d.l = 0 then c.hi else if total c.l = 0 then d.hi else max c.hi d.hi)) :: H2, ⟨hb, H2, ?_, ?_⟩, hO4.le (fun a => by simp only [cnt_append, cnt_cons, cnt_nil]; omega)⟩
  · unfold mergeC
    split
    · rename_i hz
      have hnil := (total_zero HD.out.h).1 hz
      have := HH2.out
      rw [hnil] at this
      exact this
    · exact HH2.out
  · unfold mergeC
    split <;> rfl

set_option maxRecDepth 100000 in
theorem Spread_walk (c : PCell) (b : Nat) (L F : List Chunk) (W w : World) (hc : COk c) (hR : CellC c b L) (hO : Own W w (L ++ F)) :
    Calls Try.prog 67 #[.pointer (some ⟨b, 0, none⟩)] w fun e w' => ∃ hb H, e = .returned (.pointer (some ⟨hb, 0, none⟩)) ∧ HistC c.k c.l hb H ∧ Own W w' (H ++ (L ++ F)) := by
  obtain ⟨hb, Hc, hH, rfl⟩ := hR
  have c0 := hO.cell (i := 0) (.head _) rfl
  have H := Lib.hid hO
  have HH := Lib.hid hH
  have HC := Lib.hid hc
  clear hO hH hc
  go_enter Try.func67, Try.ntmps67
  go_wp2_with fail
  refine (Bits_C (F := (b, cellObj hb c.fr c.s c.lo c.hi) :: F) HH.out (H.out.le (fun a => by simp only [cnt_append, cnt_cons, cnt_nil]; omega))).mono ?_
  rintro e w1 ⟨rfl, rfl⟩
  go_wp2_with fail
  refine (New_yes c.k HC.out.h.bits W _ _ H.out).mono ?_
  rintro e w2 ⟨hb2, rfl, hO2⟩
  have d0 := hO2.cell (i := 0) (.tail _ (.head _)) rfl
  have HO2 := Lib.hid hO2
  clear hO2 c0
  go_wp2_with fail
  have hmg : mergeN c.k [] c.k c.l = (addAll [] c.l, 0) := by
    unfold mergeN
    rw [if_neg (by simp), if_neg (by have := HC.out.h.most; simp only [show total ([] : Items) = 0 from rfl]; omega)]
  have HMG := Lib.hid hmg
  clear hmg
  refine (Merge_walk c.k c.k [] c.l hb2 hb [(hb2, histObj c.k (.slice none 0 0) 0)] Hc ((b, cellObj hb c.fr c.s c.lo c.hi) :: F) W _ (HOk.nil HC.out.h.bits) HC.out.h ⟨_, [], RowC.nil _ _, rfl⟩ HH.out (HO2.out.le (fun a => by simp only [cnt_append, cnt_cons, cnt_nil]; omega))).mono ?_
  rw [HMG.out]
  rintro e w3 ⟨rfl, L3, hC3, hO3⟩
  have HC3 := Lib.hid hC3
  have HO3 := Lib.hid hO3
  clear hC3 hO3
  go_wp2
  go_ret
  refine ⟨hb2, L3, rfl, ?_, HO3.out.le (fun a => by simp only [cnt_append, cnt_cons, cnt_nil]; omega)⟩
  have := HC3.out
  rwa [addAll_nil HC.out.h.rising] at this

end Go.Proofs.Ytbafepjmogigjaa
