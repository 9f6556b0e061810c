/- The laws of chapter 15: of; CellMoves. -/
import Derived.Test.YtbafepjmogigjaaEx15
import Derived.Test.YtbafepjmogigjaaI64
namespace Go.Proofs.Ytbafepjmogigjaa
set_option linter.unusedSimpArgs false
set_option linter.unusedVariables false
open Go.RowKit

def RetPCell (c : PCell) (W : World) (F : List Chunk) (e : Ending) (w' : World) : Prop :=
  ∃ b L, e = .returned (.pointer (some ⟨b, 0, none⟩)) ∧ CellC c b L ∧ Own W w' (L ++ F)

set_option maxRecDepth 100000 in
theorem of15 (fr : Int) (hf : I64 fr) (k : Nat) (hk : k ≤ 4) (a : Option Addr) (n cap : Nat) (xs : List Int) (W w : World) (F : List Chunk) (hr : Reads .i64 W F a n cap xs) (hx : ∀ n ∈ xs, I64 n) (hn : n ≤ 1000000) (hO : Own W w F) :
    Calls Try.prog 60 #[.int .i64 fr, .int .i64 (k : Int), .slice a n cap] w (RetPCell (addsC (newC fr k) xs) W F) := by
  have H := Lib.hid hO
  have HR := Lib.hid hr
  have HX := Lib.hid hx
  have HN := Lib.hid hn
  have HFR := Lib.hid hf
  have hlc := hr.le
  have hcm : cap ≤ 9223372036854775807 := by have := hr.mx; unfold maxLen at this; omega
  clear hO hr hx hn hf
  go_enter Try.func60, Try.ntmps60
  go_wp2_with fail
  refine (CNew_yes fr k hk W _ _ H.out).mono ?_
  rintro e w1 ⟨b, L0, rfl, hC, hO1⟩
  have H1 := Lib.hid hO1
  have HC0 := Lib.hid hC
  clear hO1 hC
  go_wp2_with fail
  go_loopw [9] (fun i wr => ∃ j : Nat, j ≤ n ∧ i = .int .i64 (j : Int) ∧ Hid (∃ L, CellC (addsC (newC fr k) (xs.take j)) b L ∧ Own W wr (L ++ F))) (fun i _ => n - (intOf i).toNat)
  case atStart => exact ⟨0, Nat.zero_le _, rfl, L0, HC0.out, H1.out⟩
  case round =>
    obtain ⟨j, hj, rfl, hq⟩ := hrel
    by_cases hlt : j < n
    · obtain ⟨L, hC, hO⟩ := hq.out
      cases a with
      | none => have := (HR.out.nil rfl).1; omega
      | some q =>
        obtain ⟨r, o, sp⟩ := q
        obtain rfl : sp = none := HR.out.spot _ rfl (by omega)
        have hc := HR.out.cell _ rfl wr L hO j hlt
        rw [Addr.add_lit] at hc
        have hji : (j : Int) < (n : Int) := by omega
        have hI : I64 (xs.getD j 0) := HX.out _ (getD_mem (by rw [HR.out.len]; exact hlt))
        have hlen : (xs.take j).length = j := by rw [List.length_take, HR.out.len]; omega
        have hok : COk (addsC (newC fr k) (xs.take j)) := COk.adds (COk.new HFR.out hk) (fun m hm => HX.out m (List.mem_of_mem_take hm)) (by rw [hlen]; have := HN.out; simp only [newC, show total ([] : Items) = 0 from rfl]; omega)
        have htt : total (addsC (newC fr k) (xs.take j)).l < 1099511627776 := by rw [total_addsC, hlen]; have := HN.out; simp only [newC, show total ([] : Items) = 0 from rfl]; omega
        have hnext : addC (addsC (newC fr k) (xs.take j)) (xs.getD j 0) = addsC (newC fr k) (xs.take (j + 1)) := by
          rw [take_succ_getD (by rw [HR.out.len]; exact hlt), addsC_snoc]
        generalize xs.getD j 0 = x at *
        have HC := Lib.hid hC
        have HO := Lib.hid hO
        have HK := Lib.hid hok
        have HNX := Lib.hid hnext
        have HI := Lib.hid hI
        have HTT := Lib.hid htt
        clear hC hO hok hnext hI hq htt hlen
        go_wp2_with fail
        refine (CAdd_walk (addsC (newC fr k) (xs.take j)) x b L F W _ HK.out HI.out HTT.out HC.out HO.out).mono ?_
        rintro e w2 ⟨rfl, L2, hC2, hO2⟩
        rw [HNX.out] at hC2
        have HC2 := Lib.hid hC2
        have HO2 := Lib.hid hO2
        clear hC2 hO2
        go_wp2
        exact ⟨⟨j + 1, by omega, by go_num, L2, HC2.out, HO2.out⟩, by simp [intOf]; omega⟩
    · obtain rfl : j = n := by omega
      go_wp2
      go_ret
      obtain ⟨L, hC, hO⟩ := hq.out
      rw [List.take_of_length_le (by rw [HR.out.len]; exact Nat.le_refl _)] at hC
      exact ⟨b, L, rfl, hC, hO⟩

end Go.Proofs.Ytbafepjmogigjaa
