/- What many laws need: numbers of 64 bits, slices that can be read; Count and Bits of a histogram. -/
import Derived.Test.YtbafepjmogigjaaHistG
namespace Go.Proofs.Ytbafepjmogigjaa
set_option linter.unusedSimpArgs false
set_option linter.unusedVariables false
open Go.RowKit

theorem Count_C {k b : Nat} {l : Items} {L F : List Chunk} {W w : World} (h : HistC k l b L) (hO : Own W w (L ++ F)) :
    Calls Try.prog 22 #[.pointer (some ⟨b, 0, none⟩)] w fun e w' => e = .returned (.int .u64 (total l : Int)) ∧ w = w' := by
  obtain ⟨sv, hb⟩ := h.block hO
  exact Count_any k sv (total l) b w hb
theorem Bits_C {k b : Nat} {l : Items} {L F : List Chunk} {W w : World} (h : HistC k l b L) (hO : Own W w (L ++ F)) :
    Calls Try.prog 76 #[.pointer (some ⟨b, 0, none⟩)] w fun e w' => e = .returned (.int .i64 (k : Int)) ∧ w = w' := by
  obtain ⟨sv, hb⟩ := h.block hO
  exact Bits_any k sv (total l) b w hb

/-- A number of 64 bits. -/
def I64 (n : Int) : Prop := -9223372036854775808 ≤ n ∧ n ≤ 9223372036854775807

/-- A slice of integers that can be read, as long as the chunks F lie there. -/
structure Reads (k : IntKind) (W : World) (F : List Chunk) (a : Option Addr) (n cap : Nat) (xs : List Int) : Prop where
  len : xs.length = n
  le : n ≤ cap
  mx : cap ≤ maxLen
  nil : a = none → n = 0 ∧ cap = 0
  spot : ∀ x, a = some x → 0 < n → x.spot = none
  cell : ∀ x, a = some x → ∀ w' L', Own W w' (L' ++ F) → ∀ j, j < n → w'.cell? (x.add j) = some (.int k (xs.getD j 0))

def addsN (k : Nat) (l : Items) (ns : List Int) : Items := ns.foldl (fun l n => (addN k l n).1) l

theorem addsN_snoc (k : Nat) (l : Items) (ns : List Int) (n : Int) : addsN k l (ns ++ [n]) = (addN k (addsN k l ns) n).1 := by simp [addsN]

theorem HOk.adds {k : Nat} : ∀ {ns : List Int} {l : Items}, HOk k l → (∀ n ∈ ns, I64 n) → HOk k (addsN k l ns)
  | [], l, h, _ => h
  | n :: ns, l, h, hn => HOk.adds (ns := ns) (h.addN (hn n (by simp)).1 (hn n (by simp)).2) (fun m hm => hn m (by simp [hm]))

theorem take_succ_getD {xs : List Int} {j : Nat} (h : j < xs.length) : xs.take (j + 1) = xs.take j ++ [xs.getD j 0] := by
  rw [List.take_succ_eq_append_getElem h, List.getD_eq_getElem?_getD, List.getElem?_eq_getElem h]; rfl

theorem getD_mem {xs : List Int} {j : Nat} (h : j < xs.length) : xs.getD j 0 ∈ xs := by
  rw [List.getD_eq_getElem?_getD, List.getElem?_eq_getElem h]; exact List.getElem_mem h

/-- A slice of integers that came in can be read. -/
theorem reads_in {k : IntKind} {w : World} {a : Option Addr} {len cap : Nat} {zs : List Int}
    (h : (a = none ∧ len = 0 ∧ cap = 0 ∧ zs = []) ∨ ∃ x, a = some x ∧ len ≤ cap ∧ cap ≤ maxLen ∧ zs.length = cap ∧ (∀ i, i < zs.length → w.cell? (x.add i) = some (.int k (zs.getD i 0))) ∧ ∀ n ∈ zs, (Lit.int k n).wf = true) :
    Reads k w [] a len cap (zs.take len) := by
  rcases h with ⟨rfl, rfl, rfl, rfl⟩ | ⟨x, rfl, h1, h2, h3, h4, h5⟩
  · exact ⟨rfl, Nat.le_refl _, by unfold maxLen; omega, fun _ => ⟨rfl, rfl⟩, (fun _ h => by cases h), (fun _ h => by cases h)⟩
  · refine ⟨by rw [List.length_take]; omega, h1, h2, (fun h => by cases h), fun y hy hl => ?_, fun y hy w' L' hO j hj => ?_⟩
    · cases hy
      have h0 := h4 0 (by omega)
      cases hs : x.spot with
      | none => rfl
      | some _ =>
        exfalso
        have : (x.add 0).spot.isSome = true := by simp [Addr.add, hs]
        unfold World.cell? at h0
        split at h0
        · rw [if_pos this] at h0; cases h0
        · cases h0
    · cases hy
      have h0 := h4 j (by omega)
      have hb : (x.add j).block < w.heap.size := World.block_lt_of_cell? w _ h0
      rw [hO.old hb, h0, List.getD_eq_getElem?_getD, List.getD_eq_getElem?_getD, List.getElem?_take_of_lt hj]

theorem wf_in {k : IntKind} {w : World} {a : Option Addr} {len cap : Nat} {zs : List Int}
    (h : (a = none ∧ len = 0 ∧ cap = 0 ∧ zs = []) ∨ ∃ x, a = some x ∧ len ≤ cap ∧ cap ≤ maxLen ∧ zs.length = cap ∧ (∀ i, i < zs.length → w.cell? (x.add i) = some (.int k (zs.getD i 0))) ∧ ∀ n ∈ zs, (Lit.int k n).wf = true) :
    ∀ n ∈ zs.take len, (Lit.int k n).wf = true := by
  intro n hn
  rcases h with ⟨_, _, _, rfl⟩ | ⟨x, _, _, _, _, _, h5⟩
  · simp at hn
  · exact h5 n (List.mem_of_mem_take hn)

end Go.Proofs.Ytbafepjmogigjaa
