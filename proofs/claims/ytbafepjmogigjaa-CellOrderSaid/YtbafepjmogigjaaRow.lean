/- Rows that a call owns: a slice over a block of its own, as a chunk; append, copy and stores at it. -/
import Derived.Test.YtbafepjmogigjaaBase
import Derived.Deep.AppendSrc
import Derived.Lib.AppendZerosOnto
import Derived.Laws.IdiomCopy
import Derived.Lib.Overlaps
namespace Go.Proofs.Ytbafepjmogigjaa
set_option linter.unusedSimpArgs false
set_option linter.unusedVariables false
open Go.RowKit

/-- Cells of a block written over from a place on. -/
def putA (c : Array Value) : Nat → List Value → Array Value
  | _, [] => c
  | o, v :: r => putA (c.setIfInBounds o v) (o + 1) r

theorem putA_size : ∀ (vs : List Value) (c : Array Value) (o : Nat), (putA c o vs).size = c.size
  | [], _, _ => rfl
  | v :: r, c, o => by unfold putA; rw [putA_size r]; simp

theorem putA_out : ∀ (vs : List Value) (c : Array Value) (o j : Nat), (j < o ∨ o + vs.length ≤ j) → (putA c o vs)[j]? = c[j]?
  | [], _, _, _, _ => rfl
  | v :: r, c, o, j, h => by
    unfold putA
    simp only [List.length_cons] at h
    rw [putA_out r _ _ _ (by omega), Array.getElem?_setIfInBounds_ne (by omega)]

theorem putA_in : ∀ (vs : List Value) (c : Array Value) (o j : Nat), o + vs.length ≤ c.size → j < vs.length → (putA c o vs)[o + j]? = vs[j]?
  | [], _, _, _, _, h => by simp at h
  | v :: r, c, o, j, hs, h => by
    simp only [List.length_cons] at hs h
    unfold putA
    cases j with
    | zero =>
      rw [putA_out r _ _ _ (by omega)]
      simp only [Nat.add_zero, List.getElem?_cons_zero]
      rw [Array.getElem?_setIfInBounds_self_of_lt (by omega)]
    | succ j =>
      rw [show o + (j + 1) = o + 1 + j by omega, putA_in r _ _ _ (by simp; omega) (by omega)]
      simp

theorem Own.setCells {W : World} {A B : List Chunk} {b : Nat} {T : TypeId} {z : Nat × Nat} : ∀ (vs : List Value) (w : World) (c : Array Value) (o : Nat),
    Own W w (A ++ (b, .cells c T z) :: B) → Own W (w.setCells b o vs) (A ++ (b, .cells (putA c o vs) T z) :: B)
  | [], _, _, _, h => h
  | v :: r, w, c, o, h => by
    unfold World.setCells putA
    exact Own.setCells r _ _ _ (h.set o v)

/-- A slice of n elements of size cells each, which hold xs, over a block of the call's own. -/
def RowC (E : TypeId) (size : Nat) (v : Value) (n : Nat) (xs : List Value) (L : List Chunk) : Prop :=
  (v = .slice none 0 0 ∧ n = 0 ∧ xs = [] ∧ L = []) ∨
  ∃ r o cap c, v = .slice (some ⟨r, o, none⟩) n cap ∧ n ≤ cap ∧ cap ≤ maxLen ∧ o + cap * size ≤ c.size ∧ xs.length = n * size ∧ (∀ j, j < n * size → c[o + j]? = xs[j]?) ∧ L = [(r, .cells c E (0, 0))]

theorem RowC.nil (E : TypeId) (size : Nat) : RowC E size (.slice none 0 0) 0 [] [] := .inl ⟨rfl, rfl, rfl, rfl⟩

/-- A new row of one element of one cell. -/
theorem RowC.one (E : TypeId) (nb : Nat) (u : Value) : RowC E 1 (.slice (some ⟨nb, 0, none⟩) 1 1) 1 [u] [(nb, .cells #[u] E (0, 0))] :=
  .inr ⟨nb, 0, 1, #[u], rfl, Nat.le_refl _, by unfold maxLen; omega, by simp, rfl, fun j hj => by obtain rfl : j = 0 := by omega
                                                                                                  rfl, rfl⟩

theorem RowC.len {E : TypeId} {size : Nat} {v : Value} {n : Nat} {xs : List Value} {L : List Chunk} (h : RowC E size v n xs L) : xs.length = n * size := by
  rcases h with ⟨_, rfl, rfl, _⟩ | ⟨r, o, cap, c, _, _, _, _, h, _⟩
  · simp
  · exact h

/-- The slice's value: its length is n. -/
theorem RowC.form {E : TypeId} {size : Nat} {v : Value} {n : Nat} {xs : List Value} {L : List Chunk} (h : RowC E size v n xs L) : ∃ a cap, v = .slice a n cap ∧ n ≤ cap ∧ cap ≤ maxLen ∧ (a = none → n = 0 ∧ cap = 0) ∧ (∀ x, a = some x → x.spot = none) := by
  rcases h with ⟨rfl, rfl, _, _⟩ | ⟨r, o, cap, c, rfl, h1, h2, _⟩
  · exact ⟨none, 0, rfl, Nat.le_refl _, by unfold maxLen; omega, fun _ => ⟨rfl, rfl⟩, fun _ h => by cases h⟩
  · exact ⟨_, cap, rfl, h1, h2, (fun h => by cases h), (fun x h => by cases h; rfl)⟩

/-- The slice's value: nil, or one that leads to a block. -/
theorem RowC.two {E : TypeId} {size : Nat} {v : Value} {n : Nat} {xs : List Value} {L : List Chunk} (h : RowC E size v n xs L) :
    (v = .slice none 0 0 ∧ n = 0 ∧ xs = [] ∧ L = []) ∨ ∃ r o cap, v = .slice (some ⟨r, o, none⟩) n cap ∧ n ≤ cap ∧ cap ≤ maxLen := by
  rcases h with h | ⟨r, o, cap, c, rfl, h1, h2, _⟩
  · exact .inl h
  · exact .inr ⟨r, o, cap, rfl, h1, h2⟩

/-- What comes back is a row. -/
def RetRow (E : TypeId) (size n : Nat) (xs : List Value) (W : World) (F : List Chunk) (e : Ending) (w' : World) : Prop :=
  ∃ v' L', e = .returned v' ∧ RowC E size v' n xs L' ∧ Own W w' (L' ++ F)

/-- The row's cells, in a world that owns it. -/
theorem RowC.cell {E : TypeId} {size : Nat} {a : Option Addr} {cap n : Nat} {xs : List Value} {L F : List Chunk} {W w : World} (h : RowC E size (.slice a n cap) n xs L) (hO : Own W w (L ++ F)) :
    ∀ x, a = some x → ∀ j u, xs[j]? = some u → w.cell? (x.add j) = some u := by
  intro x hx j u hj
  rcases h with ⟨h, _, _, _⟩ | ⟨r, o, cap', c, h, h1, h2, h3, h4, h5, rfl⟩
  · cases h; cases hx
  · cases h; cases hx
    have hlt : j < n * size := by rw [← h4]; exact (List.getElem?_eq_some_iff.1 hj).1
    rw [Addr.add_lit]
    exact hO.cell (i := o + j) (.head _) (by rw [h5 j hlt]; exact hj)

section
variable {P : Program}

theorem run_firstCells_row {E : TypeId} {size : Nat} {a : Option Addr} {cap n : Nat} {xs : List Value} {L F : List Chunk} {W w : World} (h : RowC E size (.slice a n cap) n xs L) (hO : Own W w (L ++ F)) :
    (Builtin.firstCells size n (.slice a n cap)).run P w = .ok xs.toArray w := by
  cases a with
  | none =>
    rcases h with ⟨h, rfl, rfl, _⟩ | ⟨r, o, cap', c, h, _⟩
    · exact run_firstCells_none w size 0 0 cap
    · cases h
  | some x => exact run_firstCells_some w size n x n cap xs h.len (h.cell hO x rfl)

theorem zeroCells_size {z : Array Value} {n : Nat} : (Builtin.zeroCells z n).size = n * z.size := by simp [Builtin.zeroCells]

theorem grownCap_le {w : World} {need old : Nat} {e : TypeId} (h : need ≤ maxLen) : need ≤ grownCap w need old e ∧ grownCap w need old e ≤ maxLen := by
  unfold grownCap Question.cut
  unfold maxLen at *
  simp only
  have := Nat.mod_lt (w.tape w.drawn (Question.appendCap need old e)) (y := 2 ^ 63 - need) (by omega)
  omega

/-- append at a row of the call's own. -/
theorem run_append_row (t tx ty e : TypeId) (i : TypeInfo) (z : Value) (size bytes : Nat) (ht : P.underlying t = some (.slice e)) (hi : P.info? e = some i) (hz : i.zero = some z) (hsz : i.size = size) (hby : i.bytes = bytes)
    (hzs : z.cells.size = size) {v x : Value} {n m : Nat} {xs news : List Value} {L F : List Chunk} {W w : World} (hR : RowC e size v n xs L) (hO : Own W w (L ++ F)) (hs : Src P size tx x m news w)
    (h63 : n + m ≤ maxLen) (hb : (n + m) * bytes ≤ 140737488355328) :
    ∃ v' w' L', (Builtin.append_ #[t, tx] ty #[v, x]).run P w = .ok v' w' ∧ RowC e size v' (n + m) (xs ++ news) L' ∧ Own W w' (L' ++ F) := by
  subst hsz
  have hlen := hR.len
  obtain ⟨a, cap, rfl, hnc, hcm, hnil, hsp⟩ := hR.form
  by_cases hroom : n + m ≤ cap
  · cases a with
    | none =>
      obtain ⟨rfl, rfl⟩ := hnil rfl
      obtain rfl : m = 0 := by omega
      have hnews : news = [] := by have := hs.newsLen; simpa using this
      subst hnews
      have hxs : xs = [] := by simpa using hlen
      subst hxs
      refine ⟨.slice none 0 0, w, [], ?_, RowC.nil _ _, ?_⟩
      · have hc := hs.cells
        rcases hs.kind with ⟨e', hk⟩ | hk <;> simp [Builtin.append_, run_underlying ht, run_underlying hk, sizeOf, typeInfo, hi, hs.len, hc]
      · rcases hR with ⟨_, _, _, rfl⟩ | ⟨r, o, cap', c, h, _⟩
        · exact hO
        · cases h
    | some q =>
      rcases hR with ⟨h, _⟩ | ⟨r, o, cap', c, h, h1, h2, h3, h4, h5, rfl⟩
      · cases h
      cases h
      have hin : n * i.size + news.length ≤ cap * i.size := by
        rw [hs.newsLen, ← Nat.add_mul]; exact Nat.mul_le_mul_right _ hroom
      have hcell : ∀ j, j < news.length → (w.cell? ⟨r, o + n * i.size + j, none⟩).isSome = true := fun j hj => by
        have hlt : o + n * i.size + j < c.size := by omega
        rw [hO.cell (i := o + n * i.size + j) (.head _) (Array.getElem?_eq_getElem hlt)]
        rfl
      refine ⟨_, _, [(r, .cells (putA c (o + n * i.size) news) e (0, 0))], run_append_room_src w t tx ty e i ht hi r o n cap x m news hs hroom hcell (fun j _ => hO.free (.head _) _), ?_, ?_⟩
      · refine .inr ⟨r, o, cap, _, rfl, hroom, hcm, by rw [putA_size]; exact h3, by rw [List.length_append, h4, hs.newsLen, Nat.add_mul], ?_, rfl⟩
        intro j hj
        by_cases hjn : j < n * i.size
        · rw [putA_out _ _ _ _ (by omega), List.getElem?_append_left (by omega), h5 j hjn]
        · rw [List.getElem?_append_right (by omega), h4, show o + j = o + n * i.size + (j - n * i.size) by omega]
          exact putA_in _ _ _ _ (by omega) (by rw [hs.newsLen]; rw [Nat.add_mul] at hj; omega)
      · exact Own.setCells (A := []) news w c (o + n * i.size) hO
  · have hroom' : cap < n + m := by omega
    have hG := grownCap_le (w := w) (old := cap) (e := e) h63
    have hold : (Builtin.firstCells i.size n (.slice a n cap)).run P w.drew = .ok xs.toArray w.drew := run_firstCells_row hR hO.drew
    refine ⟨_, _, [(w.heap.size, .cells ((xs ++ news).toArray ++ Builtin.zeroCells z.cells (grownCap w (n + m) cap e - (n + m))) e (0, 0))], run_append_grow_src w t tx ty e i z ht hi hz a n cap xs hold x m news hs hroom' (by unfold maxLen at h63; omega) (by rw [hby]; exact growslice_fits hroom' hb), ?_, ?_⟩
    rotate_left
    · have hO2 := hO.drew.alloc (.cells ((xs ++ news).toArray ++ Builtin.zeroCells z.cells (grownCap w (n + m) cap e - (n + m))) e)
      exact hO2.le (fun a => by simp only [cnt_cons, cnt_append, cnt_nil]; show _ ≤ one a (w.heap.size, .cells ((xs ++ news).toArray ++ Builtin.zeroCells z.cells (grownCap w (n + m) cap e - (n + m))) e (0, 0)) + _; omega)
    · refine .inr ⟨w.heap.size, 0, grownCap w (n + m) cap e, _, rfl, hG.1, hG.2, ?_, ?_, ?_, rfl⟩
      · have hx2 : (xs ++ news).length = (n + m) * i.size := by rw [List.length_append, hlen, hs.newsLen, Nat.add_mul]
        simp only [Array.size_append, List.size_toArray, zeroCells_size, hzs, hx2]
        rw [← Nat.add_mul, Nat.zero_add]
        exact Nat.mul_le_mul_right _ (by omega)
      · rw [List.length_append, hlen, hs.newsLen, Nat.add_mul]
      · intro j hj
        have hx2 : (xs ++ news).length = (n + m) * i.size := by rw [List.length_append, hlen, hs.newsLen, Nat.add_mul]
        rw [Nat.zero_add, Array.getElem?_append_left (by simp only [List.size_toArray]; omega)]
        simp

/-- copy into cells, whatever an element's size. -/
theorem run_copy_cellsK (w : World) (dT sT ty elem : TypeId) (size b o dLen dCap : Nat) (a : Addr) (sLen sCap : Nat) (cs : List Value)
    (hu : P.underlying dT = some (.slice elem)) (hs : (P.info? elem).map (·.size) = some size) (hn : cs.length = Nat.min sLen dLen * size)
    (hsrc : ∀ j v, cs[j]? = some v → w.cell? (a.add j) = some v) (hc : ∀ j, j < cs.length → (w.cell? ⟨b, o + j, none⟩).isSome = true) (hf : ∀ j, j < cs.length → w.frozen? ⟨b, o + j, none⟩ = false) (h1 : ∀ v ∈ cs, v.oneCell' = true) :
    (Builtin.copy_ #[dT, sT] ty #[.slice (some ⟨b, o, none⟩) dLen dCap, .slice (some a) sLen sCap]).run P w = .ok (goInt (Nat.min sLen dLen)) (w.setCells b o cs) := by
  have hl := run_loadCells_list (P := P) w a cs hsrc
  have hst := run_storeCells_cells (P := P) b o cs 0 w (by simpa using hc) (by simpa using hf) h1
  cases hq : P.info? elem with
  | none => simp [hq] at hs
  | some i =>
    have hi : i.size = size := by simpa [hq] using hs
    simp [Builtin.copy_, run_underlying hu, Builtin.lenOf, Builtin.firstCells, sizeOf, typeInfo, hq, hi, ← hn, hl, hst]

/-- slices.overlaps at two slices of the call's own, in two blocks. -/
theorem run_overlaps_own {w : World} (tS tR e : TypeId) (ht : P.underlying tS = some (.slice e)) (size : Nat) (hz : ∀ w, (Go.sizeOf e).run P w = .ok size w)
    (a b o o' : Nat) (la ca lb cb : Nat) (hne : a ≠ b) {cA cB : Array Value} (tA tB : TypeId) (hA : w.heap[a]? = some (.cells cA tA (0, 0))) (hB : w.heap[b]? = some (.cells cB tB (0, 0))) (hkB : cB.size ≠ 0) :
    (Extern.SlicesOverlaps.overlaps #[tS, tS] #[tR] #[.slice (some ⟨a, o, none⟩) la ca, .slice (some ⟨b, o', none⟩) lb cb]).run P w = .ok (.bool false) w :=
  Lib.run_overlaps_apart w tS tR e ht size hz ⟨a, o, none⟩ ⟨b, o', none⟩ la ca lb cb hne tA tB cA.size cB.size (by simp [World.shape?, hA]) (by simp [World.shape?, hB]) hkB (free_at hA) (free_at hA)

end

end Go.Proofs.Ytbafepjmogigjaa
