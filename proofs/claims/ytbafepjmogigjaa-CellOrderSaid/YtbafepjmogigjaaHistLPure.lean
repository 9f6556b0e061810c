/- What the laws of chapter 6 need, in plain Lean. -/
import Derived.Test.YtbafepjmogigjaaGen
namespace Go.Proofs.Ytbafepjmogigjaa
set_option linter.unusedSimpArgs false
set_option linter.unusedVariables false

/-- How many stand in a bucket. -/
def cntAt (l : Items) (a : Int) : Nat := total (l.filter fun x => x.1 == a)

theorem cntAt_cons (x : Int × Nat) (l : Items) (a : Int) : cntAt (x :: l) a = (if x.1 = a then x.2 else 0) + cntAt l a := by
  unfold cntAt
  by_cases h : x.1 = a
  · rw [List.filter_cons_of_pos (by simpa using h), total_cons, if_pos h]
  · rw [List.filter_cons_of_neg (by simpa using h), if_neg h, Nat.zero_add]

theorem cntAt_addItem : ∀ (l : Items) (b : Int) (m : Nat) (a : Int), cntAt (addItem l b m) a = cntAt l a + if b = a then m else 0
  | [], b, m, a => by simp only [addItem, cntAt_cons]; simp [cntAt, total]
  | (x, c) :: l, b, m, a => by
    unfold addItem
    split
    · rw [cntAt_cons, cntAt_cons, cntAt_addItem l b m a]; omega
    · split
      · rename_i h; subst h
        rw [cntAt_cons, cntAt_cons]; simp only; split <;> omega
      · rw [cntAt_cons]; simp only; omega

theorem total_addN {k : Nat} {l : Items} {n : Int} (h : total l < 1099511627776) : total (addN k l n).1 = total l + 1 := by
  unfold addN
  rw [if_neg (by omega)]
  exact total_addItem l _ 1

theorem total_adds {k : Nat} : ∀ {ns : List Int} {l : Items}, total l + ns.length ≤ 1099511627776 → total (addsN k l ns) = total l + ns.length
  | [], l, _ => by simp [addsN]
  | n :: ns, l, h => by
    simp only [List.length_cons] at h
    show total (addsN k (addN k l n).1 ns) = _
    have h1 := total_addN (k := k) (l := l) (n := n) (by omega)
    rw [total_adds (by rw [h1]; omega), h1, List.length_cons]; omega

theorem cntAt_adds {k : Nat} (a : Int) : ∀ {ns : List Int} {l : Items}, total l + ns.length ≤ 1099511627776 → cntAt (addsN k l ns) a = cntAt l a + (ns.filter fun n => bkOf k n == a).length
  | [], l, _ => by simp [addsN]
  | n :: ns, l, h => by
    simp only [List.length_cons] at h
    show cntAt (addsN k (addN k l n).1 ns) a = _
    have h1 := total_addN (k := k) (l := l) (n := n) (by omega)
    have h2 : (addN k l n).1 = addItem l (bkOf k n) 1 := by unfold addN; rw [if_neg (by omega)]
    rw [cntAt_adds a (by rw [h1]; omega), h2, cntAt_addItem]
    by_cases e : bkOf k n = a
    · rw [if_pos e, List.filter_cons_of_pos (by simpa using e), List.length_cons]; omega
    · rw [if_neg e, List.filter_cons_of_neg (by simpa using e)]; omega

/-- What a loop over the items finds of a bucket. -/
def lastAt (l : Items) (a : Int) : Nat := l.foldl (fun g x => if x.1 = a then x.2 else g) 0

theorem lastAt_snoc (l : Items) (x : Int × Nat) (a : Int) : lastAt (l ++ [x]) a = if x.1 = a then x.2 else lastAt l a := by simp [lastAt]

theorem foldl_none : ∀ (l : Items) (a : Int) (g : Nat), (∀ x ∈ l, x.1 ≠ a) → l.foldl (fun g x => if x.1 = a then x.2 else g) g = g
  | [], _, _, _ => rfl
  | x :: l, a, g, h => by
    rw [List.foldl_cons, if_neg (h x (by simp))]
    exact foldl_none l a g fun y hy => h y (by simp [hy])

theorem cntAt_none {l : Items} {a : Int} (h : ∀ x ∈ l, x.1 ≠ a) : cntAt l a = 0 := by
  unfold cntAt
  rw [List.filter_eq_nil_iff.2 (fun x hx => by simpa using h x hx)]
  rfl

theorem lastAt_eq : ∀ {l : Items} (a : Int), Rising l → lastAt l a = cntAt l a
  | [], a, _ => by simp [lastAt, cntAt, total]
  | x :: l, a, h => by
    by_cases e : x.1 = a
    · have hne : ∀ y ∈ l, y.1 ≠ a := fun y hy => by have := h.head_lt y hy; omega
      rw [cntAt_cons, if_pos e, cntAt_none hne, Nat.add_zero]
      show l.foldl _ (if x.1 = a then x.2 else 0) = _
      rw [if_pos e, foldl_none l a x.2 hne]
    · rw [cntAt_cons, if_neg e, Nat.zero_add, ← lastAt_eq a h.tail]
      show l.foldl _ (if x.1 = a then x.2 else 0) = _
      rw [if_neg e]; rfl

theorem cntAt_addAll (a : Int) : ∀ (m l : Items), cntAt (addAll l m) a = cntAt l a + cntAt m a
  | [], l => by simp [addAll, cntAt, total]
  | x :: m, l => by rw [addAll_cons, cntAt_addAll a m, cntAt_addItem, cntAt_cons]; omega

/-- Rising items are told by how many stand in each bucket. -/
theorem items_eq : ∀ {l m : Items}, Rising l → Rising m → (∀ x ∈ l, 1 ≤ x.2) → (∀ x ∈ m, 1 ≤ x.2) → (∀ a, cntAt l a = cntAt m a) → l = m
  | [], [], _, _, _, _, _ => rfl
  | [], y :: m, _, _, _, hm, h => by
    have h1 := h y.1
    rw [cntAt_cons, if_pos rfl] at h1
    have := hm y (by simp)
    have h0 : cntAt [] y.1 = 0 := rfl
    omega
  | x :: l, [], _, _, hl, _, h => by
    have h1 := h x.1
    rw [cntAt_cons, if_pos rfl] at h1
    have := hl x (by simp)
    have h0 : cntAt [] x.1 = 0 := rfl
    omega
  | x :: l, y :: m, hl, hm, pl, pm, h => by
    have px := pl x (by simp)
    have py := pm y (by simp)
    have key : x.1 = y.1 := by
      rcases Int.lt_trichotomy x.1 y.1 with hlt | e | hgt
      · have h1 := h x.1
        rw [cntAt_cons, if_pos rfl, cntAt_cons, if_neg (by omega)] at h1
        have h2 : cntAt m x.1 = 0 := cntAt_none (fun z hz => by have := hm.head_lt z hz; omega)
        omega
      · exact e
      · have h1 := h y.1
        rw [cntAt_cons, if_neg (by omega), cntAt_cons, if_pos rfl] at h1
        have h2 : cntAt l y.1 = 0 := cntAt_none (fun z hz => by have := hl.head_lt z hz; omega)
        omega
    have val : x.2 = y.2 := by
      have h1 := h x.1
      rw [cntAt_cons, if_pos rfl, cntAt_cons, if_pos key.symm] at h1
      have h2 : cntAt l x.1 = 0 := cntAt_none (fun z hz => by have := hl.head_lt z hz; omega)
      have h3 : cntAt m x.1 = 0 := cntAt_none (fun z hz => by have := hm.head_lt z hz; omega)
      omega
    have hxy : x = y := Prod.ext key val
    subst hxy
    have tl : l = m := items_eq hl.tail hm.tail (fun z hz => pl z (by simp [hz])) (fun z hz => pm z (by simp [hz])) (fun a => by
      have h1 := h a
      rw [cntAt_cons, cntAt_cons] at h1
      omega)
    rw [tl]

/-- Merged, and added in another order, it is the same. -/
theorem order_eq {k : Nat} {xs ys : List Int} (hk : k ≤ 4) (hx : ∀ n ∈ xs, I64 n) (hy : ∀ n ∈ ys, I64 n) (hlx : xs.length ≤ 1000) (hly : ys.length ≤ 1000) :
    addAll (addsN k [] xs) (addsN k [] ys) = addsN k [] (ys.reverse ++ xs.reverse) := by
  have t1 : total (addsN k [] xs) = xs.length := by rw [total_adds (by simp [total]; omega)]; simp [total]
  have t2 : total (addsN k [] ys) = ys.length := by rw [total_adds (by simp [total]; omega)]; simp [total]
  have k1 : HOk k (addsN k [] xs) := HOk.adds (HOk.nil hk) hx
  have k2 : HOk k (addsN k [] ys) := HOk.adds (HOk.nil hk) hy
  have k3 : HOk k (addsN k [] (ys.reverse ++ xs.reverse)) := HOk.adds (HOk.nil hk) (fun n hn => by
    rcases List.mem_append.1 hn with h | h
    · exact hy n (List.mem_reverse.1 h)
    · exact hx n (List.mem_reverse.1 h))
  have k4 : HOk k (addAll (addsN k [] xs) (addsN k [] ys)) := HOk.addAll k1 (fun x hx => ⟨k2.pos x hx, k2.inn x hx⟩) (by omega)
  refine items_eq k4.rising k3.rising k4.pos k3.pos (fun a => ?_)
  rw [cntAt_addAll, cntAt_adds a (by simp [total]; omega), cntAt_adds a (by simp [total]; omega), cntAt_adds a (by simp [total]; omega), List.filter_append, List.length_append, List.filter_reverse, List.filter_reverse, List.length_reverse, List.length_reverse]
  have h0 : cntAt [] a = 0 := rfl
  omega

theorem reverse_take_succ {ys : List Int} {j : Nat} (h : j < ys.length) : ys.reverse.take (j + 1) = ys.reverse.take j ++ [ys.getD (ys.length - 1 - j) 0] := by
  rw [List.take_succ_eq_append_getElem (by simpa using h)]
  congr 2
  rw [List.getElem_reverse, List.getD_eq_getElem?_getD, List.getElem?_eq_getElem (by omega)]; rfl

theorem Reads.take {k : IntKind} {W : World} {F : List Chunk} {a : Option Addr} {n cap : Nat} {xs : List Int} (h : Reads k W F a n cap xs) {m : Nat} (hm : m ≤ n) : Reads k W F a m cap (xs.take m) :=
  ⟨by rw [List.length_take, h.len]; omega, Nat.le_trans hm h.le, h.mx, fun e => by have := h.nil e; omega, fun x hx hl => h.spot x hx (by omega), fun x hx w' L' hO j hj => by
    rw [h.cell x hx w' L' hO j (by omega), List.getD_eq_getElem?_getD, List.getD_eq_getElem?_getD, List.getElem?_take_of_lt hj]⟩

end Go.Proofs.Ytbafepjmogigjaa
