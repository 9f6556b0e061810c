/- Cells, in plain Lean. -/
import Derived.Test.YtbafepjmogigjaaHistLPure
namespace Go.Proofs.Ytbafepjmogigjaa
set_option linter.unusedSimpArgs false
set_option linter.unusedVariables false
open Go.RowKit

/-- The two words of a sum. -/
def hiOf (s : Int) : Int := wrap64 (s / 18446744073709551616)
def loOf (s : Int) : Int := s % 18446744073709551616

theorem loOf_nn (s : Int) : 0 ≤ loOf s := by unfold loOf; omega
theorem loOf_lt (s : Int) : loOf s < 18446744073709551616 := by unfold loOf; omega
theorem hiOf_I64 (s : Int) : I64 (hiOf s) := by unfold hiOf I64 wrap64; omega

/-- A number of 128 bits. -/
def I128 (s : Int) : Prop := -170141183460469231731687303715884105728 ≤ s ∧ s ≤ 170141183460469231731687303715884105727

theorem hiOf_small {s : Int} (h : I128 s) : hiOf s = s / 18446744073709551616 := by unfold hiOf wrap64; unfold I128 at h; omega
theorem sum_of_words {s : Int} (h : I128 s) : hiOf s * 18446744073709551616 + loOf s = s := by rw [hiOf_small h]; unfold loOf; omega

theorem sum_eq {s t : Int} (hs : I128 s) (ht : I128 t) (h1 : hiOf s = hiOf t) (h2 : loOf s = loOf t) : s = t := by
  rw [← sum_of_words hs, ← sum_of_words ht, h1, h2]

theorem hiOf_add (s t : Int) : hiOf (s + t) = wrap64 (IntKind.u64.wrap (hiOf s) + IntKind.u64.wrap (hiOf t) + (loOf s + loOf t) / 18446744073709551616) := by
  unfold hiOf loOf; rw [IntKind.wrap_u64, IntKind.wrap_u64]; unfold wrap64; omega
theorem loOf_add (s t : Int) : loOf (s + t) = (loOf s + loOf t) % 18446744073709551616 := by unfold loOf; omega

theorem hiOf_num {n : Int} (h : I64 n) : hiOf n = if n < 0 then -1 else 0 := by
  unfold hiOf wrap64; unfold I64 at h; split <;> omega
theorem loOf_num {n : Int} (h : I64 n) : loOf n = IntKind.u64.wrap n := by
  rw [IntKind.wrap_u64]; unfold loOf; omega

/-- A cell: bits, where it begins, its items, the sum, the least, the most. -/
structure PCell where
  k : Nat
  fr : Int
  l : Items
  s : Int
  lo : Int
  hi : Int

def HasKey (l : Items) (a : Int) : Prop := ∃ y ∈ l, y.1 = a

theorem HasKey_cons {x : Int × Nat} {l : Items} {a : Int} : HasKey (x :: l) a ↔ x.1 = a ∨ HasKey l a := by simp [HasKey]

theorem HasKey_addItem {l : Items} {a b : Int} {m : Nat} : HasKey (addItem l b m) a ↔ HasKey l a ∨ a = b := by
  induction l with
  | nil => simp [HasKey, addItem, eq_comm]
  | cons x l ih =>
    obtain ⟨x, c⟩ := x
    unfold addItem
    split
    · rw [HasKey_cons, HasKey_cons, ih, or_assoc]
    · split
      · rename_i hx; subst hx
        rw [HasKey_cons, HasKey_cons]
        constructor
        · intro h; exact .inl h
        · rintro (h | h)
          · exact h
          · exact .inl h.symm
      · rw [HasKey_cons, HasKey_cons]
        constructor
        · rintro (h | h)
          · exact .inr h.symm
          · exact .inl h
        · rintro (h | h)
          · exact .inr h
          · exact .inl h.symm

theorem HasKey_addAll {a : Int} : ∀ {m l : Items}, HasKey (addAll l m) a ↔ HasKey l a ∨ HasKey m a
  | [], l => by simp [addAll, HasKey]
  | x :: m, l => by
    rw [addAll_cons, HasKey_addAll, HasKey_addItem, or_assoc]
    have : HasKey (x :: m) a ↔ a = x.1 ∨ HasKey m a := by simp [HasKey, eq_comm]
    rw [this]

/-- The least, and the greatest bucket. -/
def Ends (k : Nat) (l : Items) (lo hi : Int) : Prop :=
  HasKey l (bkOf k lo) ∧ HasKey l (bkOf k hi) ∧ ∀ a, HasKey l a → bkOf k lo ≤ a ∧ a ≤ bkOf k hi

/-- A cell that may be. -/
structure COk (c : PCell) : Prop where
  h : HOk c.k c.l
  fr : I64 c.fr
  lo : I64 c.lo
  hi : I64 c.hi
  none : c.l = [] → c.s = 0 ∧ c.lo = 0 ∧ c.hi = 0
  some : c.l ≠ [] → c.lo ≤ c.hi ∧ Ends c.k c.l c.lo c.hi ∧ c.lo * total c.l ≤ c.s ∧ c.s ≤ c.hi * total c.l

theorem mul_bounds {a : Int} {t : Nat} (ha : I64 a) (ht : t ≤ 1099511627776) : -10141204801825835211973625643008 ≤ a * t ∧ a * t ≤ 10141204801825835211973625643008 := by
  unfold I64 at ha
  have h1 : a * t ≤ 9223372036854775808 * t := Int.mul_le_mul_of_nonneg_right (by omega) (by omega)
  have h2 : -9223372036854775808 * t ≤ a * t := Int.mul_le_mul_of_nonneg_right (by omega) (by omega)
  omega

/-- How great a sum may be. -/
theorem COk.sum {c : PCell} (h : COk c) : -10141204801825835211973625643008 ≤ c.s ∧ c.s ≤ 10141204801825835211973625643008 := by
  by_cases e : c.l = []
  · rw [(h.none e).1]; omega
  · obtain ⟨_, _, h1, h2⟩ := h.some e
    have b1 := mul_bounds h.lo h.h.most
    have b2 := mul_bounds h.hi h.h.most
    omega

theorem COk.i128 {c : PCell} (h : COk c) : I128 c.s := by have := h.sum; unfold I128; omega

theorem total_pos {k : Nat} {l : Items} (h : HOk k l) (hl : l ≠ []) : 1 ≤ total l := by
  have := length_le_total h.pos
  have : l.length ≠ 0 := fun e => hl (List.length_eq_zero_iff.1 e)
  omega
theorem total_zero {k : Nat} {l : Items} (h : HOk k l) : total l = 0 ↔ l = [] := by
  constructor
  · intro ht
    apply Classical.byContradiction
    intro hl
    have := total_pos h hl; omega
  · rintro rfl; rfl

theorem addItem_snoc : ∀ {acc : Items} {a : Int} {m : Nat}, (∀ y ∈ acc, y.1 < a) → addItem acc a m = acc ++ [(a, m)]
  | [], a, m, _ => rfl
  | (x, c) :: acc, a, m, h => by
    unfold addItem
    rw [if_pos (h (x, c) (by simp)), addItem_snoc (fun y hy => h y (by simp [hy]))]
    rfl

theorem addAll_rise : ∀ {l acc : Items}, Rising l → (∀ y ∈ acc, ∀ x ∈ l, y.1 < x.1) → addAll acc l = acc ++ l
  | [], acc, _, _ => by simp [addAll]
  | x :: l, acc, h, ha => by
    rw [addAll_cons, addItem_snoc (fun y hy => ha y hy x (by simp)), addAll_rise h.tail (fun y hy z hz => by
      rcases List.mem_append.1 hy with hy | hy
      · exact ha y hy z (by simp [hz])
      · rw [List.mem_singleton.1 hy]; exact h.head_lt z hz)]
    simp

theorem addAll_nil {l : Items} (h : Rising l) : addAll [] l = l := by rw [addAll_rise h (by simp)]; rfl

/-- A number more. -/
def addC (c : PCell) (n : Int) : PCell :=
  { c with l := addItem c.l (bkOf c.k n) 1, s := c.s + n, lo := if total c.l = 0 then n else min c.lo n, hi := if total c.l = 0 then n else max c.hi n }

/-- All that another one took. -/
def mergeC (c d : PCell) : PCell :=
  if total d.l = 0 then c else
    { c with l := addAll c.l d.l, s := c.s + d.s, lo := if total c.l = 0 then d.lo else min c.lo d.lo, hi := if total c.l = 0 then d.hi else max c.hi d.hi }

def newC (fr : Int) (k : Nat) : PCell := ⟨k, fr, [], 0, 0, 0⟩

theorem COk.new {fr : Int} {k : Nat} (hf : I64 fr) (hk : k ≤ 4) : COk (newC fr k) :=
  ⟨HOk.nil hk, hf, (by show I64 0; unfold I64; omega), (by show I64 0; unfold I64; omega), fun _ => ⟨rfl, rfl, rfl⟩, fun h => absurd rfl h⟩

theorem addItem_ne_nil (l : Items) (a : Int) (m : Nat) : addItem l a m ≠ [] := by
  cases l with
  | nil => simp [addItem]
  | cons x l => obtain ⟨x, c⟩ := x; unfold addItem; split <;> (try split) <;> simp

theorem bkOf_min {k : Nat} {a b : Int} : bkOf k (min a b) = min (bkOf k a) (bkOf k b) := by
  rcases Int.le_total a b with h | h
  · rw [Int.min_eq_left h, Int.min_eq_left (bkOf_mono h)]
  · rw [Int.min_eq_right h, Int.min_eq_right (bkOf_mono h)]
theorem bkOf_max {k : Nat} {a b : Int} : bkOf k (max a b) = max (bkOf k a) (bkOf k b) := by
  rcases Int.le_total a b with h | h
  · rw [Int.max_eq_right h, Int.max_eq_right (bkOf_mono h)]
  · rw [Int.max_eq_left h, Int.max_eq_left (bkOf_mono h)]

theorem I64.min {a b : Int} (ha : I64 a) (hb : I64 b) : I64 (min a b) := by unfold I64 at *; omega
theorem I64.max {a b : Int} (ha : I64 a) (hb : I64 b) : I64 (max a b) := by unfold I64 at *; omega

/-- Two lots of items with their ends come together. -/
theorem Ends.join {k : Nat} {l m u : Items} {a b a' b' : Int} (h1 : Ends k l a b) (h2 : Ends k m a' b') (hu : ∀ x, HasKey u x ↔ HasKey l x ∨ HasKey m x) : Ends k u (min a a') (max b b') := by
  obtain ⟨p1, p2, p3⟩ := h1
  obtain ⟨q1, q2, q3⟩ := h2
  have hab := (p3 _ p1).2
  refine ⟨?_, ?_, fun x hx => ?_⟩
  · rw [hu]
    rcases Int.le_total a a' with h | h
    · rw [Int.min_eq_left h]; exact .inl p1
    · rw [Int.min_eq_right h]; exact .inr q1
  · rw [hu]
    rcases Int.le_total b b' with h | h
    · rw [Int.max_eq_right h]; exact .inr q2
    · rw [Int.max_eq_left h]; exact .inl p2
  · rw [bkOf_min, bkOf_max]
    rcases (hu x).1 hx with h | h
    · have := p3 x h; omega
    · have := q3 x h; omega

theorem Ends.one (k : Nat) (n : Int) (m : Nat) : Ends k [(bkOf k n, m)] n n :=
  ⟨⟨_, List.mem_singleton.2 rfl, rfl⟩, ⟨_, List.mem_singleton.2 rfl, rfl⟩, fun a ⟨y, hy, e⟩ => by rw [List.mem_singleton.1 hy] at e; simp only at e; omega⟩

theorem mul_min_le {a b s1 s2 : Int} {t1 t2 : Nat} (h1 : a * t1 ≤ s1) (h2 : b * t2 ≤ s2) : min a b * ((t1 + t2 : Nat) : Int) ≤ s1 + s2 := by
  rw [Int.natCast_add, Int.mul_add]
  have e1 : min a b * (t1 : Int) ≤ a * t1 := Int.mul_le_mul_of_nonneg_right (by omega) (by omega)
  have e2 : min a b * (t2 : Int) ≤ b * t2 := Int.mul_le_mul_of_nonneg_right (by omega) (by omega)
  omega
theorem mul_max_le {a b s1 s2 : Int} {t1 t2 : Nat} (h1 : s1 ≤ a * t1) (h2 : s2 ≤ b * t2) : s1 + s2 ≤ max a b * ((t1 + t2 : Nat) : Int) := by
  rw [Int.natCast_add, Int.mul_add]
  have e1 : a * t1 ≤ max a b * (t1 : Int) := Int.mul_le_mul_of_nonneg_right (by omega) (by omega)
  have e2 : b * t2 ≤ max a b * (t2 : Int) := Int.mul_le_mul_of_nonneg_right (by omega) (by omega)
  omega

theorem COk.add {c : PCell} (h : COk c) {n : Int} (hn : I64 n) (ht : total c.l < 1099511627776) : COk (addC c n) := by
  have hok : HOk c.k (addItem c.l (bkOf c.k n) 1) := h.h.add (Nat.le_refl _) (bkOf_in h.h.bits hn.1 hn.2) (by omega)
  by_cases e : c.l = []
  · have e0 := (total_zero h.h).2 e
    obtain ⟨s0, l0, h0⟩ := h.none e
    refine ⟨hok, h.fr, ?_, ?_, fun hx => absurd hx (addItem_ne_nil _ _ _), fun _ => ?_⟩
    · show I64 (if total c.l = 0 then n else min c.lo n); rw [if_pos e0]; exact hn
    · show I64 (if total c.l = 0 then n else max c.hi n); rw [if_pos e0]; exact hn
    · simp only [addC]
      rw [if_pos e0, if_pos e0, e, s0, Int.zero_add]
      refine ⟨Int.le_refl _, Ends.one _ _ _, ?_, ?_⟩ <;> simp [addItem, total]
  · have e0 : ¬ total c.l = 0 := fun h0 => e ((total_zero h.h).1 h0)
    obtain ⟨h1, h2, h3, h4⟩ := h.some e
    refine ⟨hok, h.fr, ?_, ?_, fun hx => absurd hx (addItem_ne_nil _ _ _), fun _ => ?_⟩
    · show I64 (if total c.l = 0 then n else min c.lo n); rw [if_neg e0]; exact h.lo.min hn
    · show I64 (if total c.l = 0 then n else max c.hi n); rw [if_neg e0]; exact h.hi.max hn
    · simp only [addC]
      rw [if_neg e0, if_neg e0, total_addItem]
      refine ⟨by omega, h2.join (Ends.one c.k n 1) (fun x => ?_), mul_min_le h3 (by simp), mul_max_le h4 (by simp)⟩
      rw [HasKey_addItem]
      simp [HasKey, eq_comm]

theorem addAll_ne_nil {l m : Items} (hm : m ≠ []) : addAll l m ≠ [] := by
  intro h
  have := total_addAll m l
  obtain ⟨x, m', rfl⟩ := List.exists_cons_of_ne_nil hm
  have hk : HasKey (addAll l (x :: m')) x.1 := HasKey_addAll.2 (.inr ⟨x, by simp, rfl⟩)
  rw [h] at hk
  obtain ⟨y, hy, _⟩ := hk
  cases hy

theorem addAll_nil_left_keys {m : Items} {x : Int} : HasKey (addAll [] m) x ↔ HasKey m x := by
  rw [HasKey_addAll]; simp [HasKey]

theorem COk.merge {c d : PCell} (h : COk c) (g : COk d) (hk : d.k = c.k) (ht : total c.l + total d.l ≤ 1099511627776) : COk (mergeC c d) := by
  unfold mergeC
  by_cases e : total d.l = 0
  · rw [if_pos e]; exact h
  · rw [if_neg e]
    have hd : d.l ≠ [] := fun e' => e ((total_zero g.h).2 e')
    have hok : HOk c.k (addAll c.l d.l) := HOk.addAll h.h (fun x hx => ⟨g.h.pos x hx, by rw [← hk]; exact g.h.inn x hx⟩) ht
    obtain ⟨g1, g2, g3, g4⟩ := g.some hd
    rw [hk] at g2
    by_cases e2 : c.l = []
    · have e0 := (total_zero h.h).2 e2
      obtain ⟨s0, l0, h0⟩ := h.none e2
      refine ⟨hok, h.fr, ?_, ?_, fun hx => absurd hx (addAll_ne_nil hd), fun _ => ?_⟩
      · simp only [if_pos e0]; exact g.lo
      · simp only [if_pos e0]; exact g.hi
      · simp only [if_pos e0]
        rw [s0, Int.zero_add, total_addAll, e0, Nat.zero_add]
        refine ⟨g1, ⟨?_, ?_, fun a ha => ?_⟩, g3, g4⟩
        · exact HasKey_addAll.2 (.inr g2.1)
        · exact HasKey_addAll.2 (.inr g2.2.1)
        · rw [e2] at ha; exact g2.2.2 a (addAll_nil_left_keys.1 ha)
    · have e0 : ¬ total c.l = 0 := fun h0 => e2 ((total_zero h.h).1 h0)
      obtain ⟨h1, h2, h3, h4⟩ := h.some e2
      refine ⟨hok, h.fr, ?_, ?_, fun hx => absurd hx (addAll_ne_nil hd), fun _ => ?_⟩
      · simp only [if_neg e0]; exact h.lo.min g.lo
      · simp only [if_neg e0]; exact h.hi.max g.hi
      · simp only [if_neg e0]
        rw [total_addAll]
        exact ⟨by omega, h2.join g2 (fun x => HasKey_addAll), mul_min_le h3 g3, mul_max_le h4 g4⟩

theorem addC_k (c : PCell) (n : Int) : (addC c n).k = c.k := rfl
theorem mergeC_k (c d : PCell) : (mergeC c d).k = c.k := by unfold mergeC; split <;> rfl
theorem mergeC_fr (c d : PCell) : (mergeC c d).fr = c.fr := by unfold mergeC; split <;> rfl
theorem total_addC (c : PCell) (n : Int) : total (addC c n).l = total c.l + 1 := total_addItem _ _ _
theorem total_mergeC (c d : PCell) : total (mergeC c d).l = total c.l + total d.l := by
  unfold mergeC
  split
  · omega
  · exact total_addAll _ _

def addsC (c : PCell) (ns : List Int) : PCell := ns.foldl addC c

theorem addsC_snoc (c : PCell) (ns : List Int) (n : Int) : addsC c (ns ++ [n]) = addC (addsC c ns) n := by simp [addsC]
theorem total_addsC : ∀ (ns : List Int) (c : PCell), total (addsC c ns).l = total c.l + ns.length
  | [], c => rfl
  | n :: ns, c => by show total (addsC (addC c n) ns).l = _; rw [total_addsC ns, total_addC, List.length_cons]; omega
theorem addsC_k : ∀ (ns : List Int) (c : PCell), (addsC c ns).k = c.k
  | [], c => rfl
  | n :: ns, c => addsC_k ns (addC c n)
theorem addsC_fr : ∀ (ns : List Int) (c : PCell), (addsC c ns).fr = c.fr
  | [], c => rfl
  | n :: ns, c => addsC_fr ns (addC c n)
theorem COk.adds : ∀ {ns : List Int} {c : PCell}, COk c → (∀ n ∈ ns, I64 n) → total c.l + ns.length ≤ 1099511627776 → COk (addsC c ns)
  | [], c, h, _, _ => h
  | n :: ns, c, h, hn, ht => COk.adds (ns := ns) (h.add (hn n (by simp)) (by simp only [List.length_cons] at ht; omega)) (fun m hm => hn m (by simp [hm])) (by rw [total_addC]; simp only [List.length_cons] at ht; omega)

/-- The numbers that a cell tells of: as many in each bucket, their sum, the least, the most. -/
structure Tells (c : PCell) (ns : List Int) : Prop where
  cnt : ∀ a, cntAt c.l a = (ns.filter fun n => bkOf c.k n == a).length
  sum : c.s = ns.sum
  many : total c.l = ns.length
  lo : ns ≠ [] → c.lo ∈ ns ∧ ∀ n ∈ ns, c.lo ≤ n
  hi : ns ≠ [] → c.hi ∈ ns ∧ ∀ n ∈ ns, n ≤ c.hi

theorem Tells.nil (fr : Int) (k : Nat) : Tells (newC fr k) [] := ⟨fun _ => rfl, rfl, rfl, fun h => absurd rfl h, fun h => absurd rfl h⟩

theorem Tells.add {c : PCell} {ns : List Int} (h : Tells c ns) (n : Int) : Tells (addC c n) (ns ++ [n]) := by
  have e : (total c.l = 0) ↔ ns = [] := by rw [h.many, List.length_eq_zero_iff]
  refine ⟨fun a => ?_, ?_, ?_, fun _ => ?_, fun _ => ?_⟩
  · show cntAt (addItem c.l (bkOf c.k n) 1) a = _
    rw [cntAt_addItem, h.cnt, List.filter_append, List.length_append]
    show _ = _ + (List.filter (fun n => bkOf c.k n == a) [n]).length
    by_cases ha : bkOf c.k n = a
    · rw [if_pos ha, List.filter_cons_of_pos (by simpa using ha)]; rfl
    · rw [if_neg ha, List.filter_cons_of_neg (by simpa using ha)]; rfl
  · show c.s + n = _
    rw [h.sum]; simp
  · rw [total_addC, h.many]; simp
  · show (if total c.l = 0 then n else min c.lo n) ∈ _ ∧ ∀ m ∈ _, (if total c.l = 0 then n else min c.lo n) ≤ m
    by_cases hz : ns = []
    · rw [if_pos (e.2 hz), hz]; simp
    · rw [if_neg (fun h => hz (e.1 h))]
      obtain ⟨h1, h2⟩ := h.lo hz
      refine ⟨?_, fun m hm => ?_⟩
      · rcases Int.le_total c.lo n with g | g
        · rw [Int.min_eq_left g]; simp [h1]
        · rw [Int.min_eq_right g]; simp
      · rcases List.mem_append.1 hm with hm | hm
        · have := h2 m hm; omega
        · have := List.mem_singleton.1 hm; omega
  · show (if total c.l = 0 then n else max c.hi n) ∈ _ ∧ ∀ m ∈ _, m ≤ (if total c.l = 0 then n else max c.hi n)
    by_cases hz : ns = []
    · rw [if_pos (e.2 hz), hz]; simp
    · rw [if_neg (fun h => hz (e.1 h))]
      obtain ⟨h1, h2⟩ := h.hi hz
      refine ⟨?_, fun m hm => ?_⟩
      · rcases Int.le_total c.hi n with g | g
        · rw [Int.max_eq_right g]; simp
        · rw [Int.max_eq_left g]; simp [h1]
      · rcases List.mem_append.1 hm with hm | hm
        · have := h2 m hm; omega
        · have := List.mem_singleton.1 hm; omega

theorem Tells.adds : ∀ {ms : List Int} {c : PCell} {ns : List Int}, Tells c ns → Tells (addsC c ms) (ns ++ ms)
  | [], c, ns, h => by rw [List.append_nil]; exact h
  | m :: ms, c, ns, h => by
    have := Tells.adds (ms := ms) (h.add m)
    rw [List.append_assoc] at this
    exact this

theorem Tells.merge {c d : PCell} {ns ms : List Int} (h : Tells c ns) (g : Tells d ms) (hk : d.k = c.k) : Tells (mergeC c d) (ns ++ ms) := by
  have e : (total c.l = 0) ↔ ns = [] := by rw [h.many, List.length_eq_zero_iff]
  have e2 : (total d.l = 0) ↔ ms = [] := by rw [g.many, List.length_eq_zero_iff]
  by_cases hz : ms = []
  · rw [hz, List.append_nil]
    unfold mergeC
    rw [if_pos (e2.2 hz)]; exact h
  · have hz' := fun h => hz (e2.1 h)
    have hm : mergeC c d = { c with l := addAll c.l d.l, s := c.s + d.s, lo := if total c.l = 0 then d.lo else min c.lo d.lo, hi := if total c.l = 0 then d.hi else max c.hi d.hi } := by unfold mergeC; rw [if_neg hz']
    rw [hm]
    obtain ⟨g1, g2⟩ := g.lo hz
    obtain ⟨g3, g4⟩ := g.hi hz
    refine ⟨fun a => ?_, ?_, ?_, fun _ => ?_, fun _ => ?_⟩
    · show cntAt (addAll c.l d.l) a = _
      rw [cntAt_addAll, h.cnt, g.cnt, List.filter_append, List.length_append, hk]
    · show c.s + d.s = _
      rw [h.sum, g.sum]; simp
    · show total (addAll c.l d.l) = _
      rw [total_addAll, h.many, g.many, List.length_append]
    · show (if total c.l = 0 then d.lo else min c.lo d.lo) ∈ _ ∧ ∀ m ∈ _, (if total c.l = 0 then d.lo else min c.lo d.lo) ≤ m
      by_cases hn : ns = []
      · rw [if_pos (e.2 hn), hn]; exact ⟨g1, g2⟩
      · rw [if_neg (fun h => hn (e.1 h))]
        obtain ⟨h1, h2⟩ := h.lo hn
        refine ⟨?_, fun m hm => ?_⟩
        · rcases Int.le_total c.lo d.lo with q | q
          · rw [Int.min_eq_left q]; simp [h1]
          · rw [Int.min_eq_right q]; simp [g1]
        · rcases List.mem_append.1 hm with hm | hm
          · have := h2 m hm; omega
          · have := g2 m hm; omega
    · show (if total c.l = 0 then d.hi else max c.hi d.hi) ∈ _ ∧ ∀ m ∈ _, m ≤ (if total c.l = 0 then d.hi else max c.hi d.hi)
      by_cases hn : ns = []
      · rw [if_pos (e.2 hn), hn]; exact ⟨g3, g4⟩
      · rw [if_neg (fun h => hn (e.1 h))]
        obtain ⟨h1, h2⟩ := h.hi hn
        refine ⟨?_, fun m hm => ?_⟩
        · rcases Int.le_total c.hi d.hi with q | q
          · rw [Int.max_eq_right q]; simp [g3]
          · rw [Int.max_eq_left q]; simp [h1]
        · rcases List.mem_append.1 hm with hm | hm
          · have := h2 m hm; omega
          · have := g4 m hm; omega

theorem perm_sum {l m : List Int} (h : l.Perm m) : l.sum = m.sum := by
  induction h with
  | nil => rfl
  | cons x _ ih => simp [ih]
  | swap x y l => simp; omega
  | trans _ _ h1 h2 => rw [h1, h2]

/-- Two cells that tell of the same numbers, in whatever order, are the same. -/
theorem tells_same {c d : PCell} {ns ms : List Int} (hc : COk c) (hd : COk d) (h : Tells c ns) (g : Tells d ms) (hp : ns.Perm ms) (hk : c.k = d.k) (hf : c.fr = d.fr) : c = d := by
  have hl : c.l = d.l := items_eq hc.h.rising hd.h.rising hc.h.pos hd.h.pos (fun a => by
    rw [h.cnt, g.cnt, hk]; exact (hp.filter _).length_eq)
  have hs : c.s = d.s := by rw [h.sum, g.sum]; exact perm_sum hp
  have hlo : c.lo = d.lo := by
    by_cases e : ns = []
    · have e2 : ms = [] := by subst e; exact List.nil_perm.1 hp
      have l1 : c.l = [] := (total_zero hc.h).1 (by rw [h.many, e]; rfl)
      have l2 : d.l = [] := (total_zero hd.h).1 (by rw [g.many, e2]; rfl)
      rw [(hc.none l1).2.1, (hd.none l2).2.1]
    · have e2 : ms ≠ [] := fun e' => e (by subst e'; exact List.perm_nil.1 hp)
      have a1 := (g.lo e2).2 _ (hp.mem_iff.1 (h.lo e).1)
      have a2 := (h.lo e).2 _ (hp.mem_iff.2 (g.lo e2).1)
      omega
  have hhi : c.hi = d.hi := by
    by_cases e : ns = []
    · have e2 : ms = [] := by subst e; exact List.nil_perm.1 hp
      have l1 : c.l = [] := (total_zero hc.h).1 (by rw [h.many, e]; rfl)
      have l2 : d.l = [] := (total_zero hd.h).1 (by rw [g.many, e2]; rfl)
      rw [(hc.none l1).2.2, (hd.none l2).2.2]
    · have e2 : ms ≠ [] := fun e' => e (by subst e'; exact List.perm_nil.1 hp)
      have a1 := (g.hi e2).2 _ (hp.mem_iff.1 (h.hi e).1)
      have a2 := (h.hi e).2 _ (hp.mem_iff.2 (g.hi e2).1)
      omega
  cases c; cases d
  simp only at *
  subst hk hf hl hs hlo hhi
  rfl

end Go.Proofs.Ytbafepjmogigjaa
