/- Blocks that a call owns, as a list of chunks (block number, object), beside a base world whose own blocks stay as they were. -/
import Derived.WalkKit
import Derived.OneCell
import Derived.Below
import Derived.Deep.QuietTactic
import Derived.BigQuiet
import Derived.WalkLawsBesides
import Derived.WalkSpells
import Derived.Deep.RegionHeld3
import Derived.Lib.Hide
namespace Go.Proofs.Ytbafepjmogigjaa
set_option linter.unusedSimpArgs false
set_option linter.unusedVariables false
open Go.RowKit

abbrev Chunk := Nat × Obj

/-- How often a chunk stands in a list. -/
noncomputable def cnt (a : Chunk) : List Chunk → Nat
  | [] => 0
  | c :: l => (open Classical in if c = a then 1 else 0) + cnt a l

/-- One chunk against one: an atom for omega. -/
noncomputable def one (a c : Chunk) : Nat := open Classical in if c = a then 1 else 0

theorem cnt_nil (a : Chunk) : cnt a [] = 0 := rfl
theorem cnt_cons (a c : Chunk) (l : List Chunk) : cnt a (c :: l) = one a c + cnt a l := rfl
theorem cnt_append (a : Chunk) (l m : List Chunk) : cnt a (l ++ m) = cnt a l + cnt a m := by
  induction l with
  | nil => simp [cnt_nil]
  | cons c l ih => simp only [List.cons_append, cnt_cons, ih]; omega

/-- How often a block is named in a list. -/
def cntB (b : Nat) (l : List Chunk) : Nat := (l.map Prod.fst).count b

theorem mem_of_cnt {a : Chunk} : ∀ {l : List Chunk}, 0 < cnt a l → a ∈ l
  | [], h => by simp [cnt_nil] at h
  | c :: l, h => by
    by_cases e : c = a
    · subst e; exact List.mem_cons_self
    · rw [cnt_cons] at h
      have : one a c = 0 := by unfold one; rw [if_neg e]
      exact List.mem_cons_of_mem _ (mem_of_cnt (by omega))

theorem one_self (a : Chunk) : one a a = 1 := by unfold one; rw [if_pos rfl]

theorem split_of_mem {a : Chunk} {l : List Chunk} (h : a ∈ l) : ∃ l1 l2, l = l1 ++ a :: l2 := List.append_of_mem h

theorem cntB_append (b : Nat) (l m : List Chunk) : cntB b (l ++ m) = cntB b l + cntB b m := by simp [cntB]
theorem cntB_cons (b : Nat) (c : Chunk) (l : List Chunk) : cntB b (c :: l) = (if c.1 = b then 1 else 0) + cntB b l := by
  simp only [cntB, List.map_cons, List.count_cons, beq_iff_eq]; omega

theorem cntB_le : ∀ {l m : List Chunk}, (∀ a, cnt a l ≤ cnt a m) → ∀ b, cntB b l ≤ cntB b m
  | [], m, _, b => by simp [cntB]
  | c :: l, m, h, b => by
    have h0 := h c
    rw [cnt_cons, one_self] at h0
    obtain ⟨m1, m2, rfl⟩ := split_of_mem (mem_of_cnt (a := c) (l := m) (by omega))
    have h1 : ∀ a, cnt a l ≤ cnt a (m1 ++ m2) := fun a => by
      have := h a
      rw [cnt_append, cnt_cons, cnt_cons] at this
      rw [cnt_append]
      omega
    have h2 := cntB_le h1 b
    rw [cntB_append] at h2
    rw [cntB_append, cntB_cons, cntB_cons]
    omega

/-- The call's own blocks: each lies behind the base world's, none twice, and holds what the list says; the base world's own blocks are as they were. -/
structure Own (W w : World) (L : List Chunk) : Prop where
  below : Below W.heap.size W w
  new : ∀ c ∈ L, W.heap.size ≤ c.1
  has : ∀ c ∈ L, w.heap[c.1]? = some c.2
  apart : ∀ b, cntB b L ≤ 1

theorem Own.refl (W : World) : Own W W [] := ⟨Below.refl _ _, by simp, by simp, by simp [cntB]⟩

theorem Own.le {W w : World} {L L' : List Chunk} (h : Own W w L) (hc : ∀ a, cnt a L' ≤ cnt a L) : Own W w L' := by
  have hm : ∀ c ∈ L', c ∈ L := fun c hcm => by
    obtain ⟨l1, l2, rfl⟩ := split_of_mem hcm
    have := hc c
    rw [cnt_append, cnt_cons, one_self] at this
    exact mem_of_cnt (by omega)
  exact ⟨h.below, fun c hcm => h.new c (hm c hcm), fun c hcm => h.has c (hm c hcm), fun b => Nat.le_trans (cntB_le hc b) (h.apart b)⟩

theorem Own.get {W w : World} {L : List Chunk} {b : Nat} {o : Obj} (h : Own W w L) (hm : (b, o) ∈ L) : w.heap[b]? = some o := h.has _ hm

theorem Own.lt {W w : World} {L : List Chunk} {b : Nat} {o : Obj} (h : Own W w L) (hm : (b, o) ∈ L) : b < w.heap.size := lt_of_block (h.get hm)

theorem cntB_zero {b : Nat} {L : List Chunk} (h : ∀ c ∈ L, c.1 ≠ b) : cntB b L = 0 := by
  unfold cntB
  rw [List.count_eq_zero]
  intro hm
  obtain ⟨c, hc, e⟩ := List.mem_map.1 hm
  exact h c hc e

theorem cntB_pos {b : Nat} {L : List Chunk} {o : Obj} (h : (b, o) ∈ L) : 1 ≤ cntB b L := by
  unfold cntB
  exact List.count_pos_iff.2 (List.mem_map.2 ⟨_, h, rfl⟩)

theorem Own.alloc {W w : World} {L : List Chunk} (h : Own W w L) (o : Obj) : Own W (w.alloc o) ((w.heap.size, o) :: L) := by
  have hlt : ∀ c ∈ L, c.1 < w.heap.size := fun c hc => lt_of_block (h.has c hc)
  refine ⟨h.below.alloc h.below.size o, ?_, ?_, ?_⟩
  · intro c hc
    rcases List.mem_cons.1 hc with rfl | hc
    · exact h.below.size
    · exact h.new c hc
  · intro c hc
    rcases List.mem_cons.1 hc with rfl | hc
    · show (w.heap.push o)[w.heap.size]? = _
      simp
    · rw [Below.heap_alloc _ _ _ (hlt c hc)]; exact h.has c hc
  · intro b
    rw [cntB_cons]
    by_cases e : w.heap.size = b
    · subst e
      rw [cntB_zero (fun c hc => Nat.ne_of_lt (hlt c hc))]
      simp
    · simp only [e, if_false]; have := h.apart b; omega

theorem Own.drew {W w : World} {L : List Chunk} (h : Own W w L) : Own W w.drew L := ⟨h.below.drew, h.new, h.has, h.apart⟩

theorem Own.drewN {W w : World} {L : List Chunk} (h : Own W w L) (n : Nat) : Own W (w.drewN n) L :=
  ⟨⟨h.below.os, h.below.tape, h.below.output, h.below.size, h.below.block⟩, h.new, h.has, h.apart⟩

/-- A block's object turned to another one: the world w' is w but for block b. -/
theorem Own.turn {W w w' : World} {A B : List Chunk} {b : Nat} {o o' : Obj} (h : Own W w (A ++ (b, o) :: B)) (hos : w'.os = w.os) (ht : w'.tape = w.tape) (hout : w'.output = w.output) (hsz : w.heap.size ≤ w'.heap.size)
    (hb : w'.heap[b]? = some o') (hne : ∀ k, k ≠ b → k < w.heap.size → w'.heap[k]? = w.heap[k]?) : Own W w' (A ++ (b, o') :: B) := by
  have hap := h.apart b
  rw [cntB_append, cntB_cons] at hap
  simp only [if_true] at hap
  have hnb : ∀ c, c ∈ A ∨ c ∈ B → c.1 ≠ b := fun c hc e => by
    rcases hc with hc | hc
    · have := cntB_pos (b := b) (o := c.2) (L := A) (by rw [← e]; exact hc); omega
    · have := cntB_pos (b := b) (o := c.2) (L := B) (by rw [← e]; exact hc); omega
  have hWb : W.heap.size ≤ b := h.new (b, o) (by simp)
  have hlt : ∀ c, c ∈ A ∨ c ∈ B → c.1 < w.heap.size := fun c hc => lt_of_block (h.has c (by rcases hc with hc | hc <;> simp [hc]))
  refine ⟨h.below.trans ⟨hos, ht, hout, hsz, fun k hk => hne k (by omega) (by have := h.below.size; omega)⟩, ?_, ?_, ?_⟩
  · intro c hc
    simp only [List.mem_append, List.mem_cons] at hc
    rcases hc with hc | rfl | hc
    · exact h.new c (by simp [hc])
    · exact hWb
    · exact h.new c (by simp [hc])
  · intro c hc
    simp only [List.mem_append, List.mem_cons] at hc
    rcases hc with hc | rfl | hc
    · rw [hne _ (hnb c (.inl hc)) (hlt c (.inl hc))]; exact h.has c (by simp [hc])
    · exact hb
    · rw [hne _ (hnb c (.inr hc)) (hlt c (.inr hc))]; exact h.has c (by simp [hc])
  · intro k
    have := h.apart k
    rw [cntB_append, cntB_cons] at this ⊢
    exact this

theorem setCell_size (w : World) (a : Addr) (v : Value) : (w.setCell a v).heap.size = w.heap.size := by simp [World.setCell]

theorem heap_setCell_at {w : World} {b i : Nat} {v : Value} {c : Array Value} {T : TypeId} {z : Nat × Nat} (h : w.heap[b]? = some (.cells c T z)) :
    (w.setCell ⟨b, i, none⟩ v).heap[b]? = some (.cells (c.setIfInBounds i v) T z) := by
  simp only [World.setCell, Array.getElem?_modify, if_true, h, Option.map_some, Option.isSome_none, Bool.false_eq_true, if_false]

theorem Own.set {W w : World} {A B : List Chunk} {b : Nat} {c : Array Value} {T : TypeId} {z : Nat × Nat} (h : Own W w (A ++ (b, .cells c T z) :: B)) (i : Nat) (v : Value) :
    Own W (w.setCell ⟨b, i, none⟩ v) (A ++ (b, .cells (c.setIfInBounds i v) T z) :: B) :=
  h.turn rfl rfl rfl (by rw [setCell_size]; exact Nat.le_refl _) (heap_setCell_at (h.get (by simp))) (fun k hk _ => Below.heap_setCell _ _ _ _ hk)

/-- The first chunk's cell is written. -/
theorem Own.set0 {W w : World} {B : List Chunk} {b : Nat} {c : Array Value} {T : TypeId} {z : Nat × Nat} (h : Own W w ((b, .cells c T z) :: B)) (i : Nat) (v : Value) :
    Own W (w.setCell ⟨b, i, none⟩ v) ((b, .cells (c.setIfInBounds i v) T z) :: B) := Own.set (A := []) h i v

/-- A cell of one of the blocks is written, wherever it stands in the list. -/
theorem Own.put {W w : World} {L R : List Chunk} {b : Nat} {c : Array Value} {T : TypeId} {z : Nat × Nat} (h : Own W w L) (hL : ∀ a, cnt a ((b, .cells c T z) :: R) ≤ cnt a L) (i : Nat) (v : Value) :
    Own W (w.setCell ⟨b, i, none⟩ v) ((b, .cells (c.setIfInBounds i v) T z) :: R) := (h.le hL).set0 i v

theorem cell_at {w : World} {b i : Nat} {c : Array Value} {T : TypeId} {z : Nat × Nat} {v : Value} (h : w.heap[b]? = some (.cells c T z)) (hv : c[i]? = some v) : w.cell? ⟨b, i, none⟩ = some v := by
  simp [World.cell?, h, hv]
theorem free_at {w : World} {b i : Nat} {c : Array Value} {T : TypeId} (h : w.heap[b]? = some (.cells c T (0, 0))) : w.frozen? ⟨b, i, none⟩ = false := by
  simp [World.frozen?, h]

theorem Own.cell {W w : World} {L : List Chunk} {b i : Nat} {c : Array Value} {T : TypeId} {z : Nat × Nat} {v : Value} (h : Own W w L) (hm : (b, .cells c T z) ∈ L) (hv : c[i]? = some v) : w.cell? ⟨b, i, none⟩ = some v :=
  cell_at (h.get hm) hv
theorem Own.free {W w : World} {L : List Chunk} {b : Nat} {c : Array Value} {T : TypeId} (h : Own W w L) (hm : (b, .cells c T (0, 0)) ∈ L) (i : Nat) : w.frozen? ⟨b, i, none⟩ = false :=
  free_at (h.get hm)

/-- Two chunks at two places are two blocks. -/
theorem Own.ne {W w : World} {A B C : List Chunk} {b b' : Nat} {o o' : Obj} (h : Own W w (A ++ (b, o) :: B ++ (b', o') :: C)) : b ≠ b' := by
  intro e
  subst e
  have := h.apart b
  rw [cntB_append, cntB_append, cntB_cons, cntB_cons] at this
  simp only [if_true] at this
  omega

theorem Own.ne_mem {W w : World} {L : List Chunk} {b b' : Nat} {o o' : Obj} (h : Own W w ((b, o) :: L)) (hm : (b', o') ∈ L) : b ≠ b' := by
  intro e
  subst e
  have h1 := h.apart b
  rw [cntB_cons] at h1
  have := cntB_pos hm
  simp only [if_true] at h1
  omega

/-- The base world's cells read as they did. -/
theorem Own.old {W w : World} {L : List Chunk} (h : Own W w L) {p : Addr} (hp : p.block < W.heap.size) : w.cell? p = W.cell? p := h.below.cell hp
theorem Own.oldf {W w : World} {L : List Chunk} (h : Own W w L) {p : Addr} (hp : p.block < W.heap.size) : w.frozen? p = W.frozen? p := h.below.frozen hp

end Go.Proofs.Ytbafepjmogigjaa
