/- How many numbers stand in which bucket, in plain Lean. -/
import Derived.Test.YtbafepjmogigjaaBkPure
namespace Go.Proofs.Ytbafepjmogigjaa
set_option linter.unusedSimpArgs false
set_option linter.unusedVariables false

abbrev Items := List (Int × Nat)

def total (l : Items) : Nat := (l.map Prod.snd).sum

/-- So many more stand in a bucket. -/
def addItem : Items → Int → Nat → Items
  | [], a, m => [(a, m)]
  | (x, c) :: l, a, m => if x < a then (x, c) :: addItem l a m else if x = a then (x, c + m) :: l else (a, m) :: (x, c) :: l

/-- Rising keys. -/
def Rising : Items → Prop
  | [] => True
  | [_] => True
  | x :: y :: l => x.1 < y.1 ∧ Rising (y :: l)

theorem Rising.tail {x : Int × Nat} {l : Items} (h : Rising (x :: l)) : Rising l := by
  cases l with
  | nil => trivial
  | cons y l => exact h.2

theorem Rising.head_lt {x : Int × Nat} : ∀ {l : Items}, Rising (x :: l) → ∀ y ∈ l, x.1 < y.1
  | [], _, y, hy => by cases hy
  | z :: l, h, y, hy => by
    rcases List.mem_cons.1 hy with rfl | hy
    · exact h.1
    · exact Int.lt_trans h.1 (Rising.head_lt h.2 y hy)

theorem Rising.of_head {x : Int × Nat} {l : Items} (h : Rising l) (hx : ∀ y ∈ l, x.1 < y.1) : Rising (x :: l) := by
  cases l with
  | nil => trivial
  | cons y l => exact ⟨hx y (by simp), h⟩

theorem total_cons (x : Int × Nat) (l : Items) : total (x :: l) = x.2 + total l := by simp [total]
theorem total_append (l m : Items) : total (l ++ m) = total l + total m := by simp [total]

theorem total_addItem : ∀ (l : Items) (a : Int) (m : Nat), total (addItem l a m) = total l + m
  | [], a, m => by simp [addItem, total]
  | (x, c) :: l, a, m => by
    unfold addItem
    split
    · rw [total_cons, total_cons, total_addItem l a m]; omega
    · split
      · rw [total_cons, total_cons]; simp only; omega
      · rw [total_cons]; omega

theorem mem_addItem {y : Int × Nat} : ∀ {l : Items} {a : Int} {m : Nat}, y ∈ addItem l a m → y.1 = a ∨ ∃ z ∈ l, z.1 = y.1
  | [], a, m, h => by simp [addItem] at h; subst h; exact .inl rfl
  | (x, c) :: l, a, m, h => by
    unfold addItem at h
    split at h
    · rcases List.mem_cons.1 h with rfl | h
      · exact .inr ⟨(x, c), by simp, rfl⟩
      · rcases mem_addItem h with h | ⟨z, hz, e⟩
        · exact .inl h
        · exact .inr ⟨z, by simp [hz], e⟩
    · split at h
      · rename_i e
        rcases List.mem_cons.1 h with rfl | h
        · exact .inl e
        · exact .inr ⟨y, by simp [h], rfl⟩
      · rcases List.mem_cons.1 h with rfl | h
        · exact .inl rfl
        · exact .inr ⟨y, h, rfl⟩

theorem rising_addItem : ∀ {l : Items} (a : Int) (m : Nat), Rising l → Rising (addItem l a m)
  | [], a, m, _ => by simp [addItem, Rising]
  | (x, c) :: l, a, m, h => by
    unfold addItem
    split
    · rename_i hx
      refine Rising.of_head (rising_addItem a m h.tail) fun y hy => ?_
      rcases mem_addItem hy with e | ⟨z, hz, e⟩
      · rw [e]; exact hx
      · rw [← e]; exact h.head_lt z hz
    · split
      · refine Rising.of_head h.tail fun y hy => h.head_lt y hy
      · refine Rising.of_head h fun y hy => ?_
        rcases List.mem_cons.1 hy with rfl | hy
        · simp only; omega
        · have := h.head_lt y hy; simp only at this ⊢; omega

theorem pos_addItem : ∀ {l : Items} {a : Int} {m : Nat}, 1 ≤ m → (∀ x ∈ l, 1 ≤ x.2) → ∀ x ∈ addItem l a m, 1 ≤ x.2
  | [], a, m, hm, _, x, hx => by simp [addItem] at hx; subst hx; exact hm
  | (y, c) :: l, a, m, hm, h, x, hx => by
    unfold addItem at hx
    split at hx
    · rcases List.mem_cons.1 hx with rfl | hx
      · exact h _ (by simp)
      · exact pos_addItem hm (fun z hz => h z (by simp [hz])) x hx
    · split at hx
      · rcases List.mem_cons.1 hx with rfl | hx
        · simp only; omega
        · exact h x (by simp [hx])
      · rcases List.mem_cons.1 hx with rfl | hx
        · exact hm
        · exact h x hx

theorem length_le_total : ∀ {l : Items}, (∀ x ∈ l, 1 ≤ x.2) → l.length ≤ total l
  | [], _ => by simp [total]
  | x :: l, h => by
    have := length_le_total (l := l) fun y hy => h y (by simp [hy])
    have := h x (by simp)
    rw [total_cons, List.length_cons]; omega

/-- A histogram that may be: bits, its items. -/
structure HOk (k : Nat) (l : Items) : Prop where
  bits : k ≤ 4
  rising : Rising l
  pos : ∀ x ∈ l, 1 ≤ x.2
  most : total l ≤ 1099511627776
  inn : ∀ x ∈ l, bIn k x.1 = true

theorem HOk.nil {k : Nat} (h : k ≤ 4) : HOk k [] := ⟨h, trivial, by simp, by simp [total], by simp⟩

theorem HOk.add {k : Nat} {l : Items} (h : HOk k l) {a : Int} {m : Nat} (hm : 1 ≤ m) (hb : bIn k a = true) (ht : total l + m ≤ 1099511627776) : HOk k (addItem l a m) :=
  ⟨h.bits, rising_addItem a m h.rising, pos_addItem hm h.pos, by rw [total_addItem]; exact ht, fun x hx => by
    rcases mem_addItem hx with e | ⟨z, hz, e⟩
    · rw [e]; exact hb
    · rw [← e]; exact h.inn z hz⟩

theorem HOk.len {k : Nat} {l : Items} (h : HOk k l) : l.length ≤ 1099511627776 := Nat.le_trans (length_le_total h.pos) h.most

/-- The key at a place. -/
def keyAt (l : Items) (j : Nat) : Int := (l.getD j (0, 0)).1
def manyAt (l : Items) (j : Nat) : Nat := (l.getD j (0, 0)).2

theorem rising_lt : ∀ {l : Items}, Rising l → ∀ i j, i < j → j < l.length → keyAt l i < keyAt l j
  | [], _, i, j, _, h => by simp at h
  | x :: l, h, i, j, hij, hj => by
    cases j with
    | zero => omega
    | succ j =>
      simp only [List.length_cons] at hj
      cases i with
      | zero =>
        have : l.getD j (0, 0) ∈ l := by rw [List.getD_eq_getElem?_getD, List.getElem?_eq_getElem (by omega)]; simp
        exact h.head_lt _ this
      | succ i => exact rising_lt h.tail i j (by omega) (by omega)

/-- More, at the place that a search tells. -/
theorem addItem_at : ∀ {l : Items} (a : Int) (m i : Nat), Rising l → i ≤ l.length → (∀ j, j < i → keyAt l j < a) → (∀ j, i ≤ j → j < l.length → a ≤ keyAt l j) →
    addItem l a m = if i < l.length ∧ keyAt l i = a then l.take i ++ (a, manyAt l i + m) :: l.drop (i + 1) else l.take i ++ (a, m) :: l.drop i
  | [], a, m, i, _, hi, _, _ => by
    have : i = 0 := by simpa using hi
    subst this
    simp [addItem]
  | (x, c) :: l, a, m, i, h, hi, h1, h2 => by
    cases i with
    | zero =>
      have hx : a ≤ x := h2 0 (Nat.le_refl _) (by simp)
      unfold addItem
      rw [if_neg (by omega)]
      by_cases e : x = a
      · subst e
        simp [keyAt, manyAt]
      · rw [if_neg e, if_neg (by simp [keyAt]; omega)]
        simp
    | succ i =>
      have hx : x < a := h1 0 (by omega)
      simp only [List.length_cons] at hi h2
      have ih := addItem_at a m i h.tail (by omega) (fun j hj => h1 (j + 1) (by omega)) (fun j hj hl => h2 (j + 1) (by omega) (by omega))
      unfold addItem
      rw [if_pos hx, ih]
      have e1 : keyAt ((x, c) :: l) (i + 1) = keyAt l i := rfl
      have e2 : manyAt ((x, c) :: l) (i + 1) = manyAt l i := rfl
      rw [e1, e2]
      by_cases hc : i < l.length ∧ keyAt l i = a
      · rw [if_pos hc, if_pos (by simp only [List.length_cons]; exact ⟨by omega, hc.2⟩)]
        simp
      · rw [if_neg hc, if_neg (by simp only [List.length_cons]; intro h; exact hc ⟨by omega, h.2⟩)]
        simp

theorem insert_get {l : Items} {i : Nat} (hi : i ≤ l.length) (x : Int × Nat) : (l.take i ++ x :: l.drop i).getD i (0, 0) = x := by
  rw [List.getD_eq_getElem?_getD, List.getElem?_append_right (by simp only [List.length_take]; omega), List.length_take, Nat.min_eq_left hi]; simp

theorem insert_set {l : Items} {i : Nat} (hi : i ≤ l.length) (x y : Int × Nat) : (l.take i ++ x :: l.drop i).set i y = l.take i ++ y :: l.drop i := by
  rw [List.set_append_right _ _ (by simp only [List.length_take]; omega)]; simp [Nat.min_eq_left hi]

theorem set_at {l : Items} {i : Nat} (hi : i < l.length) (y : Int × Nat) : l.set i y = l.take i ++ y :: l.drop (i + 1) := List.set_eq_take_append_cons_drop .. |>.trans (by rw [if_pos hi])

theorem manyAt_le : ∀ (l : Items) (i : Nat), manyAt l i ≤ total l
  | [], i => by simp [manyAt]
  | x :: l, 0 => by rw [total_cons]; show x.2 ≤ _; omega
  | x :: l, i + 1 => by rw [total_cons]; have := manyAt_le l i; show manyAt l i ≤ _; omega

/-- All that stands in another one. -/
def addAll (l m : Items) : Items := m.foldl (fun l x => addItem l x.1 x.2) l

theorem addAll_cons (l : Items) (x : Int × Nat) (m : Items) : addAll l (x :: m) = addAll (addItem l x.1 x.2) m := rfl
theorem addAll_snoc (l m : Items) (x : Int × Nat) : addAll l (m ++ [x]) = addItem (addAll l m) x.1 x.2 := by simp [addAll]

theorem total_addAll : ∀ (m l : Items), total (addAll l m) = total l + total m
  | [], l => by simp [addAll, total]
  | x :: m, l => by rw [addAll_cons, total_addAll m, total_addItem, total_cons]; omega

theorem HOk.addAll {k : Nat} : ∀ {m l : Items}, HOk k l → (∀ x ∈ m, 1 ≤ x.2 ∧ bIn k x.1 = true) → total l + total m ≤ 1099511627776 → HOk k (addAll l m)
  | [], l, h, _, _ => h
  | x :: m, l, h, hm, ht => by
    rw [total_cons] at ht
    rw [addAll_cons]
    exact HOk.addAll (h.add (hm x (by simp)).1 (hm x (by simp)).2 (by omega)) (fun y hy => hm y (by simp [hy])) (by rw [total_addItem]; omega)

/-- What Merge tells, and leaves. -/
def mergeN (k : Nat) (l : Items) (k' : Nat) (m : Items) : Items × Int :=
  if k' ≠ k then (l, 1) else if 1099511627776 - total l < total m then (l, 7) else (addAll l m, 0)

theorem take_succ_at {m : Items} {i : Nat} (h : i < m.length) : m.take (i + 1) = m.take i ++ [(keyAt m i, manyAt m i)] := by
  rw [List.take_succ_eq_append_getElem h]
  unfold keyAt manyAt
  rw [List.getD_eq_getElem?_getD, List.getElem?_eq_getElem h]
  rfl

theorem addAll_snoc' (l m : Items) (i : Nat) (h : i < m.length) : addAll l (m.take (i + 1)) = addItem (addAll l (m.take i)) (keyAt m i) (manyAt m i) := by
  rw [take_succ_at h, addAll_snoc]

theorem total_take_le (m : Items) (i : Nat) : total (m.take i) ≤ total m := by
  have : total (m.take i) + total (m.drop i) = total m := by rw [← total_append, List.take_append_drop]
  omega

theorem at_mem {m : Items} {i : Nat} (h : i < m.length) : (keyAt m i, manyAt m i) ∈ m := by
  unfold keyAt manyAt
  rw [List.getD_eq_getElem?_getD, List.getElem?_eq_getElem h]
  exact List.getElem_mem h

theorem mem_take_of {m : Items} {i : Nat} {x : Int × Nat} (h : x ∈ m.take i) : x ∈ m := List.mem_of_mem_take h

/-- The bucket of a number by its rank. -/
def rankAt : Items → Nat → Option Int
  | [], _ => none
  | (x, c) :: l, r => if r ≤ c then (if r = 0 then none else some x) else rankAt l (r - c)

theorem rankAt_found : ∀ (l : Items) (r j : Nat), j < l.length → (j = 0 ∨ total (l.take j) < r) → r - total (l.take j) ≤ manyAt l j →
    rankAt l r = if r - total (l.take j) = 0 then none else some (keyAt l j)
  | [], r, j, h, _, _ => by simp at h
  | (x, c) :: l, r, 0, _, _, h => by
    have h' : r ≤ c := by simpa [manyAt, total] using h
    unfold rankAt
    rw [if_pos h']
    simp [total, keyAt]
  | (x, c) :: l, r, j + 1, hj, h1, h2 => by
    rw [List.take_succ_cons, total_cons] at h1 h2 ⊢
    have h1' : c + total (l.take j) < r := by rcases h1 with h | h <;> omega
    simp only at h2 ⊢
    unfold rankAt
    rw [if_neg (by omega), rankAt_found l (r - c) j (by simpa using hj) (.inr (by omega)) (by rw [Nat.sub_sub]; exact h2), Nat.sub_sub]
    rfl

theorem rankAt_none : ∀ (l : Items) (r : Nat), (l = [] ∨ total l < r) → rankAt l r = none
  | [], r, _ => rfl
  | (x, c) :: l, r, h => by
    have h' : total ((x, c) :: l) < r := by rcases h with h | h; cases h; exact h
    rw [total_cons] at h'
    simp only at h'
    unfold rankAt
    rw [if_neg (by omega)]
    exact rankAt_none l (r - c) (.inr (by omega))

/-- What Quantile tells. -/
def quantN (k : Nat) (l : Items) (num den : Nat) : Int × Int × Int :=
  if den < 1 ∨ 1000000 < den ∨ den < num then (0, 0, 1) else if total l = 0 then (0, 0, 5) else
    let a := (rankAt l (max ((total l * num + den - 1) / den) 1)).getD 0
    (bLow k a, bHigh k a, 0)

theorem rankAt_mem : ∀ {l : Items} {r : Nat} {a : Int}, rankAt l r = some a → ∃ x ∈ l, x.1 = a
  | [], r, a, h => by simp [rankAt] at h
  | (x, c) :: l, r, a, h => by
    unfold rankAt at h
    split at h
    · split at h
      · cases h
      · cases h; exact ⟨(x, c), by simp, rfl⟩
    · obtain ⟨y, hy, e⟩ := rankAt_mem h
      exact ⟨y, by simp [hy], e⟩

theorem rankAt_some : ∀ {l : Items} {r : Nat}, 1 ≤ r → r ≤ total l → ∃ a, rankAt l r = some a
  | [], r, h1, h2 => by simp [total] at h2; omega
  | (x, c) :: l, r, h1, h2 => by
    rw [total_cons] at h2
    simp only at h2
    unfold rankAt
    by_cases h : r ≤ c
    · rw [if_pos h, if_neg (by omega)]; exact ⟨x, rfl⟩
    · rw [if_neg h]; exact rankAt_some (by omega) (by omega)

theorem part_le {t num den : Nat} (h1 : 1 ≤ den) (h2 : num ≤ den) : (t * num + den - 1) / den ≤ t := by
  have h3 : t * num ≤ t * den := Nat.mul_le_mul_left _ h2
  have h4 : (t * num + den - 1) / den < t + 1 := by
    rw [Nat.div_lt_iff_lt_mul (by omega), Nat.add_mul]; omega
  omega

end Go.Proofs.Ytbafepjmogigjaa
