/- What the laws of chapter 6 need, in plain Lean. -/
import Derived.Test.YtbafepjmogigjaaEx06
namespace Go.Proofs.Ytbafepjmogigjaa
set_option linter.unusedSimpArgs false
set_option linter.unusedVariables false

/-- How many stand in a bucket. -/
def cntAt (l : Items) (a : Int) : Nat := total (l.filter fun x => x.1 == a)

theorem cntAt_cons (x : Int × Nat) (l : Items) (a : Int) : cntAt (x :: l) a = (if x.1 = a then x.2 else 0) + cntAt l a := by
  unfold cntAt
  by_cases h : x.1 = a
  · rw [List.filter_cons_of_pos (by simpa using h), total_cons, if_pos h]
  · rw [List.filter_cons_of_neg (by simpa using h), if_neg h, Nat.zero_add]

theorem cntAt_addItem : ∀ (l : Items) (b : Int) (m : Nat) (a : Int), cntAt (addItem l b m) a = cntAt l a + if b = a then m else 0
  | [], b, m, a => by simp only [addItem, cntAt_cons]; simp [cntAt, total]
  | (x, c) :: l, b, m, a => by
    unfold addItem
    split
    · rw [cntAt_cons, cntAt_cons, cntAt_addItem l b m a]; omega
    · split
      · rename_i h; subst h
        rw [cntAt_cons, cntAt_cons]; simp only; split <;> omega
      · rw [cntAt_cons]; simp only; omega

theorem total_addN {k : Nat} {l : Items} {n : Int} (h : total l < 1099511627776) : total (addN k l n).1 = total l + 1 := by
  unfold addN
  rw [if_neg (by omega)]
  exact total_addItem l _ 1

theorem total_adds {k : Nat} : ∀ {ns : List Int} {l : Items}, total l + ns.length ≤ 1099511627776 → total (addsN k l ns) = total l + ns.length
  | [], l, _ => by simp [addsN]
  | n :: ns, l, h => by
    simp only [List.length_cons] at h
    show total (addsN k (addN k l n).1 ns) = _
    have h1 := total_addN (k := k) (l := l) (n := n) (by omega)
    rw [total_adds (by rw [h1]; omega), h1, List.length_cons]; omega

theorem cntAt_adds {k : Nat} (a : Int) : ∀ {ns : List Int} {l : Items}, total l + ns.length ≤ 1099511627776 → cntAt (addsN k l ns) a = cntAt l a + (ns.filter fun n => bkOf k n == a).length
  | [], l, _ => by simp [addsN]
  | n :: ns, l, h => by
    simp only [List.length_cons] at h
    show cntAt (addsN k (addN k l n).1 ns) a = _
    have h1 := total_addN (k := k) (l := l) (n := n) (by omega)
    have h2 : (addN k l n).1 = addItem l (bkOf k n) 1 := by unfold addN; rw [if_neg (by omega)]
    rw [cntAt_adds a (by rw [h1]; omega), h2, cntAt_addItem]
    by_cases e : bkOf k n = a
    · rw [if_pos e, List.filter_cons_of_pos (by simpa using e), List.length_cons]; omega
    · rw [if_neg e, List.filter_cons_of_neg (by simpa using e)]; omega

/-- What a loop over the items finds of a bucket. -/
def lastAt (l : Items) (a : Int) : Nat := l.foldl (fun g x => if x.1 = a then x.2 else g) 0

theorem lastAt_snoc (l : Items) (x : Int × Nat) (a : Int) : lastAt (l ++ [x]) a = if x.1 = a then x.2 else lastAt l a := by simp [lastAt]

theorem foldl_none : ∀ (l : Items) (a : Int) (g : Nat), (∀ x ∈ l, x.1 ≠ a) → l.foldl (fun g x => if x.1 = a then x.2 else g) g = g
  | [], _, _, _ => rfl
  | x :: l, a, g, h => by
    rw [List.foldl_cons, if_neg (h x (by simp))]
    exact foldl_none l a g fun y hy => h y (by simp [hy])

theorem cntAt_none {l : Items} {a : Int} (h : ∀ x ∈ l, x.1 ≠ a) : cntAt l a = 0 := by
  unfold cntAt
  rw [List.filter_eq_nil_iff.2 (fun x hx => by simpa using h x hx)]
  rfl

theorem lastAt_eq : ∀ {l : Items} (a : Int), Rising l → lastAt l a = cntAt l a
  | [], a, _ => by simp [lastAt, cntAt, total]
  | x :: l, a, h => by
    by_cases e : x.1 = a
    · have hne : ∀ y ∈ l, y.1 ≠ a := fun y hy => by have := h.head_lt y hy; omega
      rw [cntAt_cons, if_pos e, cntAt_none hne, Nat.add_zero]
      show l.foldl _ (if x.1 = a then x.2 else 0) = _
      rw [if_pos e, foldl_none l a x.2 hne]
    · rw [cntAt_cons, if_neg e, Nat.zero_add, ← lastAt_eq a h.tail]
      show l.foldl _ (if x.1 = a then x.2 else 0) = _
      rw [if_neg e]; rfl

end Go.Proofs.Ytbafepjmogigjaa
