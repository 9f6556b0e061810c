/- Rows of integers of 64 bits of the call's own. -/
import Derived.Test.YtbafepjmogigjaaGen
namespace Go.Proofs.Ytbafepjmogigjaa
set_option linter.unusedSimpArgs false
set_option linter.unusedVariables false
open Go.RowKit

/-- Numbers as cells. -/
def i64C (l : List Int) : List Value := l.map fun n => .int .i64 n
theorem i64C_append (l m : List Int) : i64C (l ++ m) = i64C l ++ i64C m := by simp [i64C]
theorem i64C_len (l : List Int) : (i64C l).length = l.length := by simp [i64C]

theorem Try.infoI64 : (Try.prog.info? 2).map (fun i => (i.zero, i.size, i.bytes)) = some (some (.int .i64 0), 1, 8) := by kernel_rfl

/-- append of one number that lies in a block of its own, at a row of numbers. -/
theorem append_i64 (v : Value) (l : List Int) (b : Int) (L F : List Chunk) (W w : World) (hR : RowC 2 1 v l.length (i64C l) L) (hO : Own W w (L ++ F)) (hl : l.length ≤ 1099511627776) :
    ∃ v' w' L', (∀ ty, (Builtin.append_ #[25, 25] ty #[v, .slice (some ⟨w.heap.size, 0, none⟩) 1 1]).run Try.prog (w.alloc (.cells #[.int .i64 b] 2)) = .ok v' w') ∧
      RowC 2 1 v' (l ++ [b]).length (i64C (l ++ [b])) L' ∧ Own W w' (L' ++ F) := by
  obtain ⟨i0, hi, hz, hz1, hz2⟩ := info_parts Try.infoI64
  have hO1 := hO.alloc (.cells #[.int .i64 b] 2 (0, 0))
  have hsrc : Src Try.prog 1 25 (.slice (some ⟨w.heap.size, 0, none⟩) 1 1) 1 [.int .i64 b] (w.alloc (.cells #[.int .i64 b] 2)) :=
    Src.ofSlice _ Try.underlying25 ⟨w.heap.size, 0, none⟩ 1 1 _ rfl (fun j u hj => by rw [Addr.add_lit]; exact hO1.cell (i := 0 + j) (.head _) (by simpa using hj)) (by simp [Value.oneCell'])
  obtain ⟨v', w', L', hrun, hR', hO'⟩ := run_append_row (P := Try.prog) 25 25 25 2 i0 _ 1 8 Try.underlying25 hi hz hz1 hz2 rfl hR (F := (w.heap.size, .cells #[.int .i64 b] 2 (0, 0)) :: F) (hO1.le (fun a => by simp only [cnt_append, cnt_cons, cnt_nil]; omega)) hsrc (by unfold maxLen; omega) (by omega)
  refine ⟨v', w', L', fun ty => hrun, ?_, hO'.le (fun a => by simp only [cnt_append, cnt_cons, cnt_nil]; omega)⟩
  rw [i64C_append, List.length_append]
  exact hR'

/-- A row of numbers of the call's own can be read. -/
theorem reads_row {k : IntKind} {E : TypeId} {a : Option Addr} {n cap : Nat} {xs : List Int} {L : List Chunk} {W : World} (h : RowC E 1 (.slice a n cap) n (xs.map fun n => .int k n) L) : Reads k W L a n cap xs := by
  have hl := h.len
  obtain ⟨a', cap', e, h1, h2, h3, h4⟩ := h.form
  cases e
  refine ⟨by simpa using hl, h1, h2, h3, fun x hx _ => h4 x hx, fun x hx w' L' hO j hj => ?_⟩
  exact h.cell (F := L') (hO.le (fun a => by simp only [cnt_append, cnt_cons, cnt_nil]; omega)) x hx j _ (by
    have hj' : j < xs.length := by simp at hl; omega
    rw [List.getElem?_map, List.getElem?_eq_getElem hj', List.getD_eq_getElem?_getD, List.getElem?_eq_getElem hj']; rfl)

theorem Reads.more {k : IntKind} {W : World} {F F' : List Chunk} {a : Option Addr} {n cap : Nat} {xs : List Int} (h : Reads k W F a n cap xs) (hF : ∀ c, cnt c F ≤ cnt c F') : Reads k W F' a n cap xs :=
  ⟨h.len, h.le, h.mx, h.nil, h.spot, fun x hx w' L' hO => h.cell x hx w' L' (hO.le (fun c => by simp only [cnt_append]; have := hF c; omega))⟩

theorem i64C_one (l : List Int) : ∀ u ∈ i64C l, u.oneCell' = true := by
  intro u hu
  obtain ⟨b, _, rfl⟩ := List.mem_map.1 hu
  rfl

/-- A slice that can be read is a source for append. -/
theorem src_reads {W w : World} {F L : List Chunk} {a : Option Addr} {n cap : Nat} {xs : List Int} (h : Reads .i64 W F a n cap xs) (hO : Own W w (L ++ F)) : Src Try.prog 1 25 (.slice a n cap) n (i64C xs) w := by
  cases a with
  | none =>
    obtain ⟨rfl, rfl⟩ := h.nil rfl
    have : xs = [] := List.length_eq_zero_iff.1 h.len
    subst this
    exact Src.ofNil _ Try.underlying25 0
  | some x =>
    refine Src.ofSlice _ Try.underlying25 x n cap _ (by rw [i64C_len, h.len]; omega) (fun j u hj => ?_) (i64C_one _)
    have hj' : j < xs.length := by have := (List.getElem?_eq_some_iff.1 hj).1; rwa [i64C_len] at this
    rw [h.cell x rfl w L hO j (by rw [← h.len]; exact hj'), ← hj]
    simp only [i64C, List.getElem?_map]
    rw [List.getElem?_eq_getElem hj', List.getD_eq_getElem?_getD, List.getElem?_eq_getElem hj']; rfl

/-- append of a slice that can be read, at a row of numbers. -/
theorem append_i64s (v : Value) (l : List Int) (a : Option Addr) (n cap : Nat) (xs : List Int) (L F Lr Fr : List Chunk) (W w : World) (hR : RowC 2 1 v l.length (i64C l) L) (hO : Own W w (L ++ F)) (hr : Reads .i64 W Fr a n cap xs) (hOr : Own W w (Lr ++ Fr)) (hl : l.length ≤ 1099511627776) (hn : n ≤ 1099511627776) :
    ∃ v' w' L', (∀ ty, (Builtin.append_ #[25, 25] ty #[v, .slice a n cap]).run Try.prog w = .ok v' w') ∧
      RowC 2 1 v' (l ++ xs).length (i64C (l ++ xs)) L' ∧ Own W w' (L' ++ F) := by
  obtain ⟨i0, hi, hz, hz1, hz2⟩ := info_parts Try.infoI64
  obtain ⟨v', w', L', hrun, hR', hO'⟩ := run_append_row (P := Try.prog) 25 25 25 2 i0 _ 1 8 Try.underlying25 hi hz hz1 hz2 rfl hR (F := F) hO (src_reads hr hOr) (by unfold maxLen; omega) (by omega)
  refine ⟨v', w', L', fun ty => hrun, ?_, hO'⟩
  rw [i64C_append, List.length_append, hr.len]
  exact hR'

end Go.Proofs.Ytbafepjmogigjaa
