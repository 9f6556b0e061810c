/- scantlinglaw06: examples, of. -/
import Derived.Test.YtbafepjmogigjaaHistG
namespace Go.Proofs.Ytbafepjmogigjaa
set_option linter.unusedSimpArgs false
set_option linter.unusedVariables false
open Go.RowKit

theorem Count_C {k b : Nat} {l : Items} {L F : List Chunk} {W w : World} (h : HistC k l b L) (hO : Own W w (L ++ F)) :
    Calls Try.prog 22 #[.pointer (some ⟨b, 0, none⟩)] w fun e w' => e = .returned (.int .u64 (total l : Int)) ∧ w = w' := by
  obtain ⟨sv, hb⟩ := h.block hO
  exact Count_any k sv (total l) b w hb
theorem Bits_C {k b : Nat} {l : Items} {L F : List Chunk} {W w : World} (h : HistC k l b L) (hO : Own W w (L ++ F)) :
    Calls Try.prog 76 #[.pointer (some ⟨b, 0, none⟩)] w fun e w' => e = .returned (.int .i64 (k : Int)) ∧ w = w' := by
  obtain ⟨sv, hb⟩ := h.block hO
  exact Bits_any k sv (total l) b w hb

theorem ex06_a1 : addN 1 [] 6 = ([(5, 1)], 0) := by decide +kernel
theorem ex06_a2 : addN 1 [(5, 1)] 7 = ([(5, 2)], 0) := by decide +kernel
theorem ex06_a3 : addN 1 [(5, 2)] 100 = ([(5, 2), (13, 1)], 0) := by decide +kernel
theorem ex06_q0 : quantN 1 [] 1 2 = (0, 0, 5) := by decide +kernel
theorem ex06_q : quantN 1 [(5, 2), (13, 1)] 1 2 = (6, 7, 0) := by decide +kernel
theorem ex06_r : rankAt [(5, 2), (13, 1)] 2 = some 5 := by decide +kernel
theorem ex06_g : getHist (histBytes 1 [(5, 2), (13, 1)] ++ [120]) = some (1, [(5, 2), (13, 1)], [120]) := by decide +kernel
theorem ex06_k1 : HOk 1 [(5, 1)] := (HOk.nil (k := 1) (by omega)).add (a := 5) (m := 1) (by omega) (by decide +kernel) (by decide)
theorem ex06_k2 : HOk 1 [(5, 2)] := ex06_k1.add (a := 5) (m := 1) (by omega) (by decide +kernel) (by decide)
theorem ex06_k3 : HOk 1 [(5, 2), (13, 1)] := ex06_k2.add (a := 13) (m := 1) (by omega) (by decide +kernel) (by decide)

set_option maxRecDepth 100000 in
set_option maxHeartbeats 2000000 in
theorem examples06 (W w : World) (F : List Chunk) (hO : Own W w F) :
    Calls Try.prog 17 #[] w fun e w' => e = .returned (.bool true) ∧ Own W w' F := by
  have H := Lib.hid hO
  clear hO
  go_enter Try.func17, Try.ntmps17
  go_wp2_with fail
  refine (New_no 5 (.inr (by omega)) _).mono ?_
  rintro e w1 ⟨rfl, rfl⟩
  go_wp2_with fail
  refine (New_yes 1 (by omega) W _ _ H.out).mono ?_
  rintro e w1 ⟨b, rfl, hO1⟩
  have HC1 : HistC 1 [] b [(b, histObj 1 (.slice none 0 0) 0)] := ⟨_, [], RowC.nil _ _, rfl⟩
  have H1 := Lib.hid hO1
  have hc1 := Lib.hid HC1
  clear hO1 HC1
  go_wp2_with fail
  refine (Quantile_walk 1 [] 1 2 b _ F W _ (HOk.nil (by omega)) (by omega) (by omega) hc1.out H1.out).mono ?_
  rintro e w2 ⟨rfl, hO2⟩
  rw [ex06_q0]
  have H2 := Lib.hid hO2
  clear hO2
  simp only [quantVal]
  go_wp2_with fail
  refine (Add_walk 1 [] 6 b _ F (by omega) (by omega) W _ (HOk.nil (by omega)) hc1.out H2.out).mono ?_
  rw [ex06_a1]
  rintro e w3 ⟨rfl, L3, hC3, hO3⟩
  have H3 := Lib.hid hO3
  have hc3 := Lib.hid hC3
  clear hO3 hC3
  go_wp2_with fail
  refine (Add_walk 1 [(5, 1)] 7 b _ F (by omega) (by omega) W _ ex06_k1 hc3.out H3.out).mono ?_
  rw [ex06_a2]
  rintro e w4 ⟨rfl, L4, hC4, hO4⟩
  have H4 := Lib.hid hO4
  have hc4 := Lib.hid hC4
  clear hO4 hC4
  go_wp2_with fail
  refine (Add_walk 1 [(5, 2)] 100 b _ F (by omega) (by omega) W _ ex06_k2 hc4.out H4.out).mono ?_
  rw [ex06_a3]
  rintro e w5 ⟨rfl, L5, hC5, hO5⟩
  have H5 := Lib.hid hO5
  have hc5 := Lib.hid hC5
  clear hO5 hC5
  go_wp2_with fail
  refine (Rank_walk 1 [(5, 2), (13, 1)] 2 b L5 F W _ ex06_k3 (by omega) hc5.out H5.out).mono ?_
  rw [ex06_r]
  rintro e w6 ⟨rfl, hO6⟩
  have H6 := Lib.hid hO6
  clear hO6
  simp only [rankVal, Option.getD_some, Option.isSome_some]
  go_wp2_with fail
  refine (Quantile_walk 1 [(5, 2), (13, 1)] 1 2 b L5 F W _ ex06_k3 (by omega) (by omega) hc5.out H6.out).mono ?_
  rw [ex06_q]
  rintro e w7 ⟨rfl, hO7⟩
  have H7 := Lib.hid hO7
  clear hO7
  simp only [quantVal]
  go_wp2_with fail
  refine (Put_walk 1 [(5, 2), (13, 1)] b L5 F W _ ex06_k3 (by decide) hc5.out H7.out).mono ?_
  rintro e w8 ⟨rfl, hO8⟩
  have H8 := Lib.hid hO8
  clear hO8
  go_wp2_with fail
  have hg : RetGetH (getHist ((⟨(histBytes 1 [(5, 2), (13, 1)]).toArray⟩ ++ ⟨#[120]⟩ : ByteArray).data.toList)) W (L5 ++ F) = RetGetH (some (1, [(5, 2), (13, 1)], [120])) W (L5 ++ F) := by
    rw [show ((⟨(histBytes 1 [(5, 2), (13, 1)]).toArray⟩ ++ ⟨#[120]⟩ : ByteArray).data.toList) = histBytes 1 [(5, 2), (13, 1)] ++ [120] by simp, ex06_g]
  refine (GetH_walk _ (by decide +kernel) W _ _ H8.out).mono ?_
  rw [hg]
  rintro e w9 ⟨b', L', rfl, hC9, hk9, hO9⟩
  have H9 := Lib.hid hO9
  clear hO9 hC9 hk9 hg
  go_wp2_with fail
  refine (Items_walk 1 [(5, 2), (13, 1)] b L5 F W _ ex06_k3 hc5.out (H9.out.le (fun a => by simp only [cnt_append, cnt_cons, cnt_nil]; omega))).mono ?_
  rintro e w10 ⟨v10, L10, rfl, hR10, hO10⟩
  obtain ⟨a10, cap10, rfl, hq1, hq2, hq3, hq4⟩ := hR10.form
  have H10 := Lib.hid hO10
  clear hO10 hR10 hq1 hq2 hq3 hq4
  go_wp2_with fail
  refine (Count_C (F := L10 ++ F) hc5.out (H10.out.le (fun a => by simp only [cnt_append, cnt_cons, cnt_nil]; omega))).mono ?_
  rintro e w11 ⟨rfl, rfl⟩
  rw [show ((total [(5, 2), (13, 1)] : Nat) : Int) = 3 from rfl]
  go_wp2_with fail
  refine (Bits_C (F := L10 ++ F) hc5.out (H10.out.le (fun a => by simp only [cnt_append, cnt_cons, cnt_nil]; omega))).mono ?_
  rintro e w11 ⟨rfl, rfl⟩
  go_wp2
  go_ret
  exact ⟨rfl, H10.out.le (fun a => by simp only [cnt_append, cnt_cons, cnt_nil]; omega)⟩

/-- A number of 64 bits. -/
def I64 (n : Int) : Prop := -9223372036854775808 ≤ n ∧ n ≤ 9223372036854775807

/-- A slice of integers that can be read, as long as the chunks F lie there. -/
structure Reads (k : IntKind) (W : World) (F : List Chunk) (a : Option Addr) (n cap : Nat) (xs : List Int) : Prop where
  len : xs.length = n
  le : n ≤ cap
  mx : cap ≤ maxLen
  nil : a = none → n = 0 ∧ cap = 0
  spot : ∀ x, a = some x → 0 < n → x.spot = none
  cell : ∀ x, a = some x → ∀ w' L', Own W w' (L' ++ F) → ∀ j, j < n → w'.cell? (x.add j) = some (.int k (xs.getD j 0))

def addsN (k : Nat) (l : Items) (ns : List Int) : Items := ns.foldl (fun l n => (addN k l n).1) l

theorem addsN_snoc (k : Nat) (l : Items) (ns : List Int) (n : Int) : addsN k l (ns ++ [n]) = (addN k (addsN k l ns) n).1 := by simp [addsN]

theorem HOk.adds {k : Nat} : ∀ {ns : List Int} {l : Items}, HOk k l → (∀ n ∈ ns, I64 n) → HOk k (addsN k l ns)
  | [], l, h, _ => h
  | n :: ns, l, h, hn => HOk.adds (ns := ns) (h.addN (hn n (by simp)).1 (hn n (by simp)).2) (fun m hm => hn m (by simp [hm]))

theorem take_succ_getD {xs : List Int} {j : Nat} (h : j < xs.length) : xs.take (j + 1) = xs.take j ++ [xs.getD j 0] := by
  rw [List.take_succ_eq_append_getElem h, List.getD_eq_getElem?_getD, List.getElem?_eq_getElem h]; rfl

theorem getD_mem {xs : List Int} {j : Nat} (h : j < xs.length) : xs.getD j 0 ∈ xs := by
  rw [List.getD_eq_getElem?_getD, List.getElem?_eq_getElem h]; exact List.getElem_mem h

def RetHist (k : Nat) (l : Items) (W : World) (F : List Chunk) (e : Ending) (w' : World) : Prop :=
  ∃ b L, e = .returned (.pointer (some ⟨b, 0, none⟩)) ∧ HistC k l b L ∧ Own W w' (L ++ F)

set_option maxRecDepth 100000 in
theorem of06 (k : Nat) (hk : k ≤ 4) (a : Option Addr) (n cap : Nat) (xs : List Int) (W w : World) (F : List Chunk) (hr : Reads .i64 W F a n cap xs) (hx : ∀ n ∈ xs, I64 n) (hO : Own W w F) :
    Calls Try.prog 20 #[.int .i64 (k : Int), .slice a n cap] w (RetHist k (addsN k [] xs) W F) := by
  have H := Lib.hid hO
  have HR := Lib.hid hr
  have HX := Lib.hid hx
  have hlc := hr.le
  have hcm : cap ≤ 9223372036854775807 := by have := hr.mx; unfold maxLen at this; omega
  clear hO hr hx
  go_enter Try.func20, Try.ntmps20
  go_wp2_with fail
  refine (New_yes k hk W _ _ H.out).mono ?_
  rintro e w1 ⟨b, rfl, hO1⟩
  have H1 := Lib.hid hO1
  clear hO1
  go_wp2_with fail
  go_loopw [7] (fun i wr => ∃ j : Nat, j ≤ n ∧ i = .int .i64 (j : Int) ∧ Hid (∃ L, HistC k (addsN k [] (xs.take j)) b L ∧ Own W wr (L ++ F))) (fun i _ => n - (intOf i).toNat)
  case atStart => exact ⟨0, Nat.zero_le _, rfl, _, ⟨_, [], RowC.nil _ _, rfl⟩, H1.out⟩
  case round =>
    obtain ⟨j, hj, rfl, hq⟩ := hrel
    by_cases hlt : j < n
    · obtain ⟨L, hC, hO⟩ := hq.out
      cases a with
      | none => have := (HR.out.nil rfl).1; omega
      | some q =>
        obtain ⟨r, o, sp⟩ := q
        obtain rfl : sp = none := HR.out.spot _ rfl (by omega)
        have hc := HR.out.cell _ rfl wr L hO j hlt
        rw [Addr.add_lit] at hc
        have hji : (j : Int) < (n : Int) := by omega
        have hI : I64 (xs.getD j 0) := HX.out _ (getD_mem (by rw [HR.out.len]; exact hlt))
        have hok : HOk k (addsN k [] (xs.take j)) := HOk.adds (HOk.nil hk) (fun m hm => HX.out m (List.mem_of_mem_take hm))
        have hnext : (addN k (addsN k [] (xs.take j)) (xs.getD j 0)).1 = addsN k [] (xs.take (j + 1)) := by
          rw [take_succ_getD (by rw [HR.out.len]; exact hlt), addsN_snoc]
        generalize xs.getD j 0 = x at *
        have HC := Lib.hid hC
        have HO := Lib.hid hO
        have HK := Lib.hid hok
        have HN := Lib.hid hnext
        have HI := Lib.hid hI
        clear hC hO hok hnext hI hq
        go_wp2_with fail
        refine (Add_walk k (addsN k [] (xs.take j)) x b L F HI.out.1 HI.out.2 W _ HK.out HC.out HO.out).mono ?_
        rintro e w2 ⟨rfl, L2, hC2, hO2⟩
        rw [HN.out] at hC2
        have HC2 := Lib.hid hC2
        have HO2 := Lib.hid hO2
        clear hC2 hO2
        go_wp2
        exact ⟨⟨j + 1, by omega, by go_num, L2, HC2.out, HO2.out⟩, by simp [intOf]; omega⟩
    · obtain rfl : j = n := by omega
      go_wp2
      go_ret
      obtain ⟨L, hC, hO⟩ := hq.out
      rw [List.take_of_length_le (by rw [HR.out.len]; exact Nat.le_refl _)] at hC
      exact ⟨b, L, rfl, hC, hO⟩

/-- A slice of integers that came in can be read. -/
theorem reads_in {k : IntKind} {w : World} {a : Option Addr} {len cap : Nat} {zs : List Int}
    (h : (a = none ∧ len = 0 ∧ cap = 0 ∧ zs = []) ∨ ∃ x, a = some x ∧ len ≤ cap ∧ cap ≤ maxLen ∧ zs.length = cap ∧ (∀ i, i < zs.length → w.cell? (x.add i) = some (.int k (zs.getD i 0))) ∧ ∀ n ∈ zs, (Lit.int k n).wf = true) :
    Reads k w [] a len cap (zs.take len) := by
  rcases h with ⟨rfl, rfl, rfl, rfl⟩ | ⟨x, rfl, h1, h2, h3, h4, h5⟩
  · exact ⟨rfl, Nat.le_refl _, by unfold maxLen; omega, fun _ => ⟨rfl, rfl⟩, (fun _ h => by cases h), (fun _ h => by cases h)⟩
  · refine ⟨by rw [List.length_take]; omega, h1, h2, (fun h => by cases h), fun y hy hl => ?_, fun y hy w' L' hO j hj => ?_⟩
    · cases hy
      have h0 := h4 0 (by omega)
      cases hs : x.spot with
      | none => rfl
      | some _ =>
        exfalso
        have : (x.add 0).spot.isSome = true := by simp [Addr.add, hs]
        unfold World.cell? at h0
        split at h0
        · rw [if_pos this] at h0; cases h0
        · cases h0
    · cases hy
      have h0 := h4 j (by omega)
      have hb : (x.add j).block < w.heap.size := World.block_lt_of_cell? w _ h0
      rw [hO.old hb, h0, List.getD_eq_getElem?_getD, List.getD_eq_getElem?_getD, List.getElem?_take_of_lt hj]

theorem wf_in {k : IntKind} {w : World} {a : Option Addr} {len cap : Nat} {zs : List Int}
    (h : (a = none ∧ len = 0 ∧ cap = 0 ∧ zs = []) ∨ ∃ x, a = some x ∧ len ≤ cap ∧ cap ≤ maxLen ∧ zs.length = cap ∧ (∀ i, i < zs.length → w.cell? (x.add i) = some (.int k (zs.getD i 0))) ∧ ∀ n ∈ zs, (Lit.int k n).wf = true) :
    ∀ n ∈ zs.take len, (Lit.int k n).wf = true := by
  intro n hn
  rcases h with ⟨_, _, _, rfl⟩ | ⟨x, _, _, _, _, _, h5⟩
  · simp at hn
  · exact h5 n (List.mem_of_mem_take hn)

end Go.Proofs.Ytbafepjmogigjaa
