/- Cells as bytes, in plain Lean. -/
import Derived.Test.YtbafepjmogigjaaCellPure
import Derived.Test.YtbafepjmogigjaaHistC
namespace Go.Proofs.Ytbafepjmogigjaa
set_option linter.unusedSimpArgs false
set_option linter.unusedVariables false
open Go.RowKit

/-- A number of 64 bits as one that is not below 0. -/
def u64 (n : Int) : Nat := (n % 18446744073709551616).toNat
/-- And back. -/
def s64 (n : Nat) : Int := wrap64 (n : Int)

theorem u64_lt (n : Int) : u64 n < 18446744073709551616 := by unfold u64; omega
theorem s64_u64 {n : Int} (h : I64 n) : s64 (u64 n) = n := by unfold s64 u64 wrap64; unfold I64 at h; omega
theorem s64_I64 (n : Nat) : I64 (s64 n) := by unfold s64 I64 wrap64; omega
theorem u64_wrap (n : Int) : IntKind.u64.wrap n = (u64 n : Int) := by rw [IntKind.wrap_u64]; unfold u64; omega

def sumBytes (s : Int) : List UInt8 := beBytes (u64 (hiOf s)) 8 ++ beBytes (u64 (loOf s)) 8

/-- A cell's bytes. -/
def cellBytes (c : PCell) : List UInt8 := beBytes (u64 c.fr) 8 ++ sumBytes c.s ++ beBytes (u64 c.lo) 8 ++ beBytes (u64 c.hi) 8 ++ histBytes c.k c.l

/-- May a cell be? -/
def rightC (c : PCell) : Bool :=
  if c.l = [] then decide (c.lo = 0 ∧ c.hi = 0 ∧ c.s = 0)
  else decide (c.lo ≤ c.hi ∧ bkOf c.k c.lo = keyAt c.l 0 ∧ bkOf c.k c.hi = keyAt c.l (c.l.length - 1) ∧ c.lo * total c.l ≤ c.s ∧ c.s ≤ c.hi * total c.l)

/-- The number of so many bytes from a place on. -/
def numAt (s : List UInt8) (i n : Nat) : Nat := beNum ((s.drop i).take n)

/-- A cell off the front of bytes. -/
def getCell (s : List UInt8) : Option (PCell × List UInt8) :=
  if s.length < 40 then none else
    match getHist (s.drop 40) with
    | none => none
    | some (k, l, rest) =>
      let c : PCell := ⟨k, s64 (numAt s 0 8), l, s64 (numAt s 8 8) * 18446744073709551616 + (numAt s 16 8 : Int), s64 (numAt s 24 8), s64 (numAt s 32 8)⟩
      if rightC c then some (c, rest) else none

theorem keyAt_zero_least {k : Nat} {l : Items} (h : HOk k l) (hl : l ≠ []) : HasKey l (keyAt l 0) ∧ ∀ a, HasKey l a → keyAt l 0 ≤ a := by
  obtain ⟨x, m, rfl⟩ := List.exists_cons_of_ne_nil hl
  refine ⟨⟨x, by simp, rfl⟩, fun a ⟨y, hy, e⟩ => ?_⟩
  subst e
  show x.1 ≤ y.1
  rcases List.mem_cons.1 hy with rfl | hy
  · exact Int.le_refl _
  · exact Int.le_of_lt (h.rising.head_lt y hy)

theorem key_index {l : Items} {a : Int} (h : HasKey l a) : ∃ j, j < l.length ∧ keyAt l j = a := by
  obtain ⟨y, hy, e⟩ := h
  obtain ⟨j, hj, e2⟩ := List.getElem_of_mem hy
  refine ⟨j, hj, ?_⟩
  unfold keyAt
  rw [List.getD_eq_getElem?_getD, List.getElem?_eq_getElem hj]
  show (l[j]).1 = a
  rw [e2, e]

theorem keyAt_last_most {k : Nat} {l : Items} (h : HOk k l) (hl : l ≠ []) : HasKey l (keyAt l (l.length - 1)) ∧ ∀ a, HasKey l a → a ≤ keyAt l (l.length - 1) := by
  have hlen : 0 < l.length := List.length_pos_iff.2 hl
  refine ⟨⟨_, at_mem (i := l.length - 1) (by omega), rfl⟩, fun a ha => ?_⟩
  obtain ⟨j, hj, e⟩ := key_index ha
  subst e
  rcases Nat.lt_or_ge j (l.length - 1) with h1 | h1
  · exact Int.le_of_lt (rising_lt h.rising j _ h1 (by omega))
  · obtain rfl : j = l.length - 1 := by omega
    exact Int.le_refl _

theorem ends_iff {k : Nat} {l : Items} {lo hi : Int} (h : HOk k l) (hl : l ≠ []) : Ends k l lo hi ↔ bkOf k lo = keyAt l 0 ∧ bkOf k hi = keyAt l (l.length - 1) := by
  obtain ⟨a1, a2⟩ := keyAt_zero_least h hl
  obtain ⟨b1, b2⟩ := keyAt_last_most h hl
  constructor
  · rintro ⟨h1, h2, h3⟩
    have := a2 _ h1
    have := b2 _ h2
    have := h3 _ a1
    have := h3 _ b1
    omega
  · rintro ⟨h1, h2⟩
    rw [Ends, h1, h2]
    exact ⟨a1, b1, fun a ha => ⟨a2 a ha, b2 a ha⟩⟩

theorem COk.right {c : PCell} (h : COk c) : rightC c = true := by
  unfold rightC
  by_cases e : c.l = []
  · rw [if_pos e]
    obtain ⟨h1, h2, h3⟩ := h.none e
    simp [h1, h2, h3]
  · rw [if_neg e]
    obtain ⟨h1, h2, h3, h4⟩ := h.some e
    obtain ⟨e1, e2⟩ := (ends_iff h.h e).1 h2
    exact decide_eq_true ⟨h1, e1, e2, h3, h4⟩

theorem COk.of_right {c : PCell} (h : HOk c.k c.l) (hf : I64 c.fr) (hl : I64 c.lo) (hh : I64 c.hi) (hr : rightC c = true) : COk c := by
  unfold rightC at hr
  by_cases e : c.l = []
  · rw [if_pos e] at hr
    have := of_decide_eq_true hr
    exact ⟨h, hf, hl, hh, fun _ => ⟨this.2.2, this.1, this.2.1⟩, fun e' => absurd e e'⟩
  · rw [if_neg e] at hr
    have := of_decide_eq_true hr
    exact ⟨h, hf, hl, hh, fun e' => absurd e' e, fun _ => ⟨this.1, (ends_iff h e).2 ⟨this.2.1, this.2.2.1⟩, this.2.2.2.1, this.2.2.2.2⟩⟩

/-! ### A histogram's bytes and back -/

theorem addItem_last {k : Nat} : ∀ {acc : Items} {a : Int} {m : Nat}, (∀ y ∈ acc, y.1 < a) → addItem acc a m = acc ++ [(a, m)]
  | [], a, m, _ => rfl
  | (x, c) :: acc, a, m, h => by
    unfold addItem
    rw [if_pos (h (x, c) (by simp)), addItem_last (k := k) (fun y hy => h y (by simp [hy]))]
    rfl

theorem total_take_lt (l : Items) : total l = total l := rfl

theorem item_take4 (x : Int × Nat) (r : List UInt8) (h : -2000 ≤ x.1 ∧ x.1 ≤ 2000) : (beNum ((itemBytes x ++ r).take 4) : Int) - 2147483648 = x.1 := by
  have e : (itemBytes x ++ r).take 4 = beBytes (x.1 + 2147483648).toNat 4 := by
    unfold itemBytes
    rw [List.append_assoc, List.take_append_of_le_length (by rw [beBytes_len]; omega), List.take_of_length_le (by rw [beBytes_len]; omega)]
  rw [e, beNum_beBytes]
  omega

theorem item_mid6 (x : Int × Nat) (r : List UInt8) (h : x.2 ≤ 1099511627776) : beNum (((itemBytes x ++ r).drop 4).take 6) = x.2 := by
  have e : ((itemBytes x ++ r).drop 4).take 6 = beBytes x.2 6 := by
    unfold itemBytes
    rw [List.append_assoc, List.drop_append_of_le_length (by rw [beBytes_len]; omega), List.drop_of_length_le (by rw [beBytes_len]; omega), List.nil_append,
      List.take_append_of_le_length (by rw [beBytes_len]; omega), List.take_of_length_le (by rw [beBytes_len]; omega)]
  rw [e, beNum_beBytes]
  omega

theorem item_drop10 (x : Int × Nat) (r : List UInt8) : (itemBytes x ++ r).drop 10 = r := by
  rw [List.drop_append_of_le_length (by rw [itemBytes_len]; omega), List.drop_of_length_le (by rw [itemBytes_len]; omega), List.nil_append]

theorem getItems_back {k : Nat} (hk : k ≤ 4) : ∀ (l acc : Items) (last : Int) (r : List UInt8), (∀ y ∈ acc, y.1 ≤ last) → Rising l → (∀ x ∈ l, last < x.1) → (∀ x ∈ l, 1 ≤ x.2 ∧ bIn k x.1 = true) → total acc + total l ≤ 1099511627776 →
    getItems k l.length (l.flatMap itemBytes ++ r) last acc = some (acc ++ l, r)
  | [], acc, last, r, _, _, _, _, _ => by simp [getItems]
  | x :: l, acc, last, r, ha, hr, hl, hp, ht => by
    rw [total_cons] at ht
    obtain ⟨p1, p2⟩ := hp x (by simp)
    have hb := bIn_bounds hk p2
    have hx := hl x (by simp)
    rw [List.flatMap_cons, List.append_assoc, List.length_cons]
    unfold getItems
    simp only
    rw [item_take4 x _ hb, item_mid6 x _ (by omega), item_drop10]
    have hbad : badItem k x.1 x.2 last acc = false := by
      unfold badItem
      rw [p2, decide_eq_false (show ¬ x.2 = 0 by omega), decide_eq_false (show ¬ x.1 ≤ last by omega), decide_eq_false (show ¬ 1099511627776 - total acc < x.2 by omega)]
      rfl
    rw [hbad]
    simp only [Bool.false_eq_true, if_false]
    rw [addItem_last (k := k) (fun y hy => by have := ha y hy; omega)]
    rw [getItems_back hk l (acc ++ [(x.1, x.2)]) x.1 r (fun y hy => by
        rcases List.mem_append.1 hy with hy | hy
        · have := ha y hy; omega
        · rw [List.mem_singleton.1 hy]; exact Int.le_refl _) hr.tail (fun y hy => hr.head_lt y hy) (fun y hy => hp y (by simp [hy])) (by rw [total_append]; simp only [total_cons, show total ([] : Items) = 0 from rfl]; omega)]
    simp

theorem getHist_back {k : Nat} {l : Items} (h : HOk k l) (hl : l.length ≤ 65535) (r : List UInt8) : getHist (histBytes k l ++ r) = some (k, l, r) := by
  have hk := h.bits
  have e0 : (UInt8.ofNat k).toNat = k := UInt8.toNat_ofNat_of_lt' (by show k < 256; omega)
  have e1 : histBytes k l ++ r = UInt8.ofNat k :: UInt8.ofNat (l.length / 256 ^ 1 % 256) :: UInt8.ofNat (l.length / 256 ^ 0 % 256) :: (l.flatMap itemBytes ++ r) := by
    simp [histBytes, beBytes]
  have e2 : beNum [UInt8.ofNat (l.length / 256 ^ 1 % 256), UInt8.ofNat (l.length / 256 ^ 0 % 256)] = l.length := by
    have := beNum_beBytes l.length 2
    rw [show beBytes l.length 2 = [UInt8.ofNat (l.length / 256 ^ 1 % 256), UInt8.ofNat (l.length / 256 ^ 0 % 256)] from rfl] at this
    rw [this]; omega
  rw [e1]
  unfold getHist
  simp only
  rw [e2, e0, if_neg (by rw [List.length_append, flat_len]; omega), getItems_back hk l [] (-2147483649) r (by simp) h.rising (fun x hx => by have := bIn_bounds hk (h.inn x hx); omega) (fun x hx => ⟨h.pos x hx, h.inn x hx⟩) (by have := h.most; simp only [show total ([] : Items) = 0 from rfl]; omega)]
  simp

/-- Cut anywhere it is none. -/
theorem getHist_cut {k : Nat} {l : Items} (hl : l.length ≤ 65535) (n : Nat) (hn : n < (histBytes k l).length) : getHist ((histBytes k l).take n) = none := by
  rw [histBytes_len] at hn
  have e1 : histBytes k l = UInt8.ofNat k :: UInt8.ofNat (l.length / 256 ^ 1 % 256) :: UInt8.ofNat (l.length / 256 ^ 0 % 256) :: (l.flatMap itemBytes) := by
    simp [histBytes, beBytes]
  have e2 : beNum [UInt8.ofNat (l.length / 256 ^ 1 % 256), UInt8.ofNat (l.length / 256 ^ 0 % 256)] = l.length := by
    have := beNum_beBytes l.length 2
    rw [show beBytes l.length 2 = [UInt8.ofNat (l.length / 256 ^ 1 % 256), UInt8.ofNat (l.length / 256 ^ 0 % 256)] from rfl] at this
    rw [this]; omega
  rw [e1]
  match n, hn with
  | 0, _ => rfl
  | 1, _ => rfl
  | 2, _ => rfl
  | n + 3, hn =>
    simp only [List.take_succ_cons]
    unfold getHist
    simp only
    rw [e2, if_pos (.inr (by rw [List.length_take, flat_len]; omega))]

/-! ### A cell's bytes and back -/

theorem sumBytes_len (s : Int) : (sumBytes s).length = 16 := by simp [sumBytes, beBytes_len]
theorem cellBytes_len (c : PCell) : (cellBytes c).length = 40 + (histBytes c.k c.l).length := by simp [cellBytes, beBytes_len, sumBytes_len]; omega

theorem beNum8 (n : Int) : beNum (beBytes (u64 n) 8) = u64 n := by
  rw [beNum_beBytes]; have := u64_lt n; omega

theorem getCell_head (a b c d e : Nat) (t : List UInt8) :
    let s := beBytes a 8 ++ (beBytes b 8 ++ beBytes c 8) ++ beBytes d 8 ++ beBytes e 8 ++ t
    s.length = 40 + t.length ∧ s.drop 40 = t ∧ numAt s 0 8 = beNum (beBytes a 8) ∧ numAt s 8 8 = beNum (beBytes b 8) ∧ numAt s 16 8 = beNum (beBytes c 8) ∧ numAt s 24 8 = beNum (beBytes d 8) ∧ numAt s 32 8 = beNum (beBytes e 8) := by
  have la := beBytes_len a 8
  have lb := beBytes_len b 8
  have lc := beBytes_len c 8
  have ld := beBytes_len d 8
  have le := beBytes_len e 8
  generalize beBytes a 8 = A at *
  generalize beBytes b 8 = B at *
  generalize beBytes c 8 = C at *
  generalize beBytes d 8 = D at *
  generalize beBytes e 8 = E at *
  simp only [List.append_assoc]
  have key : ∀ (X Y Z : List UInt8), Y.length = 8 → numAt (X ++ (Y ++ Z)) X.length 8 = beNum Y := fun X Y Z hY => by
    unfold numAt
    rw [List.drop_append_of_le_length (Nat.le_refl _), List.drop_length, List.nil_append, List.take_append_of_le_length (by omega), List.take_of_length_le (by omega)]
  refine ⟨by simp only [List.length_append]; omega, ?_, ?_, ?_, ?_, ?_, ?_⟩
  · have : A ++ (B ++ (C ++ (D ++ (E ++ t)))) = (A ++ B ++ C ++ D ++ E) ++ t := by simp only [List.append_assoc]
    rw [this, List.drop_append_of_le_length (by simp only [List.length_append]; omega), List.drop_of_length_le (by simp only [List.length_append]; omega), List.nil_append]
  · exact key [] A _ la
  · have := key A B (C ++ (D ++ (E ++ t))) lb
    rwa [la] at this
  · have := key (A ++ B) C (D ++ (E ++ t)) lc
    rwa [List.length_append, la, lb, List.append_assoc] at this
  · have := key (A ++ B ++ C) D (E ++ t) ld
    rwa [List.length_append, List.length_append, la, lb, lc, List.append_assoc, List.append_assoc] at this
  · have := key (A ++ B ++ C ++ D) E t le
    rwa [List.length_append, List.length_append, List.length_append, la, lb, lc, ld, List.append_assoc, List.append_assoc, List.append_assoc] at this

/-- What words tell of a cell. -/
theorem getCell_words {k : Nat} {l : Items} (h : HOk k l) (hl : l.length ≤ 65535) (fr s lo hi : Int) (hf : I64 fr) (hs : I128 s) (h1 : I64 lo) (h2 : I64 hi) (r : List UInt8) :
    getCell (beBytes (u64 fr) 8 ++ sumBytes s ++ beBytes (u64 lo) 8 ++ beBytes (u64 hi) 8 ++ (histBytes k l ++ r)) = if rightC ⟨k, fr, l, s, lo, hi⟩ then some (⟨k, fr, l, s, lo, hi⟩, r) else none := by
  have key := getCell_head (u64 fr) (u64 (hiOf s)) (u64 (loOf s)) (u64 lo) (u64 hi) (histBytes k l ++ r)
  simp only at key
  obtain ⟨k0, k1, k2, k3, k4, k5, k6⟩ := key
  unfold sumBytes getCell
  rw [if_neg (by omega), k1, getHist_back h hl]
  simp only
  rw [k2, k3, k4, k5, k6]
  simp only [beNum8]
  rw [s64_u64 hf, s64_u64 (hiOf_I64 s), s64_u64 h1, s64_u64 h2]
  have e : (u64 (loOf s) : Int) = loOf s := by unfold u64; have := loOf_nn s; have := loOf_lt s; omega
  rw [e, sum_of_words hs]

theorem getCell_back {c : PCell} (h : COk c) (hl : c.l.length ≤ 65535) (r : List UInt8) : getCell (cellBytes c ++ r) = some (c, r) := by
  have := getCell_words h.h hl c.fr c.s c.lo c.hi h.fr h.i128 h.lo h.hi r
  unfold cellBytes
  rw [List.append_assoc, this, if_pos h.right]

theorem getCell_cut {c : PCell} (hl : c.l.length ≤ 65535) (n : Nat) (hn : n < (cellBytes c).length) : getCell ((cellBytes c).take n) = none := by
  rw [cellBytes_len] at hn
  unfold getCell
  by_cases h : n < 40
  · rw [if_pos (by rw [List.length_take]; omega)]
  · rw [if_neg (by rw [List.length_take, cellBytes_len]; omega)]
    have e : ((cellBytes c).take n).drop 40 = (histBytes c.k c.l).take (n - 40) := by
      have key := getCell_head (u64 c.fr) (u64 (hiOf c.s)) (u64 (loOf c.s)) (u64 c.lo) (u64 c.hi) (histBytes c.k c.l)
      rw [List.drop_take, show (cellBytes c).drop 40 = _ from key.2.1]
    rw [e, getHist_cut hl _ (by omega)]

/-- What comes off bytes may be. -/
theorem getItems_ok {k : Nat} (hk : k ≤ 4) : ∀ (n : Nat) (s : List UInt8) (last : Int) (acc : Items) (l : Items) (r : List UInt8), HOk k acc → getItems k n s last acc = some (l, r) → HOk k l
  | 0, s, last, acc, l, r, h, e => by simp [getItems] at e; rw [← e.1]; exact h
  | n + 1, s, last, acc, l, r, h, e => by
    unfold getItems at e
    simp only at e
    by_cases hb : badItem k ((beNum (s.take 4) : Int) - 2147483648) (beNum ((s.drop 4).take 6)) last acc = true
    · rw [if_pos hb] at e; cases e
    · rw [if_neg hb] at e
      have hb' : badItem k ((beNum (s.take 4) : Int) - 2147483648) (beNum ((s.drop 4).take 6)) last acc = false := by simpa using hb
      unfold badItem at hb'
      simp only [Bool.or_eq_false_iff, Bool.not_eq_false', decide_eq_false_iff_not] at hb'
      exact getItems_ok hk n _ _ _ l r (h.add (by omega) hb'.1 (by have := h.most; omega)) e

theorem getHist_ok {s : List UInt8} {k : Nat} {l : Items} {r : List UInt8} (h : getHist s = some (k, l, r)) : HOk k l := by
  unfold getHist at h
  split at h
  · rename_i b0 b1 b2 rest
    simp only at h
    split at h
    · cases h
    · rename_i hc
      cases hg : getItems b0.toNat (beNum [b1, b2]) rest (-2147483649) [] with
      | none => rw [hg] at h; cases h
      | some p =>
        obtain ⟨l', r'⟩ := p
        rw [hg] at h
        simp only [Option.map_some, Option.some.injEq, Prod.mk.injEq] at h
        obtain ⟨rfl, rfl, rfl⟩ := h
        exact getItems_ok (by omega) _ _ _ _ _ _ (HOk.nil (by omega)) hg
  · cases h

theorem getCell_ok {s : List UInt8} {c : PCell} {r : List UInt8} (h : getCell s = some (c, r)) : COk c := by
  unfold getCell at h
  split at h
  · cases h
  · split at h
    · cases h
    · rename_i k l rest hg
      simp only at h
      split at h
      · rename_i hr
        simp only [Option.some.injEq, Prod.mk.injEq] at h
        obtain ⟨rfl, rfl⟩ := h
        exact COk.of_right (getHist_ok hg) (s64_I64 _) (s64_I64 _) (s64_I64 _) hr
      · cases h

end Go.Proofs.Ytbafepjmogigjaa
