/- The walks of package bucket. -/
import Derived.Test.YtbafepjmogigjaaProg
import Derived.Test.YtbafepjmogigjaaBase
import Derived.Test.YtbafepjmogigjaaBkPure
import Derived.StillTailTactics
import Derived.Outline
namespace Go.Proofs.Ytbafepjmogigjaa
set_option linter.unusedSimpArgs false
set_option linter.unusedVariables false
open Go.RowKit

theorem ret_int {k : IntKind} {a b : Int} (h : a = b) : Ending.returned (.int k a) = .returned (.int k b) := by rw [h]

theorem wrap_u64_neg {n : Int} (h : -9223372036854775808 ≤ n) (hn : n < 0) : IntKind.u64.wrap (-IntKind.u64.wrap n) = (n.natAbs : Int) := by
  have h1 : IntKind.u64.wrap n = n + 18446744073709551616 := by
    unfold IntKind.wrap; simp [IntKind.bits, IntKind.signed]; omega
  rw [h1]
  unfold IntKind.wrap; simp [IntKind.bits, IntKind.signed]; omega

theorem far_any (n : Int) (h : -9223372036854775808 ≤ n) (h2 : n ≤ 9223372036854775807) (w : World) :
    Calls Try.prog 80 #[.int .i64 n] w fun e w' => e = .returned (.int .u64 (n.natAbs : Int)) ∧ w = w' := by
  by_cases hn : n < 0
  · go_enter Try.func80, Try.ntmps80
    go_wp2
    go_ret
    exact ⟨ret_int (wrap_u64_neg h hn), rfl⟩
  · go_enter Try.func80, Try.ntmps80
    go_wp2
    go_ret
    exact ⟨ret_int (by omega), rfl⟩

theorem tab_eq (i : Int) (h0 : 0 ≤ i) (h1 : i ≤ 255) (hlt : i.toNat < Lib.len8tab.size) : ((Lib.len8tab[i.toNat]'hlt).toNat : Int) = (Lib.bitLen i.toNat : Int) := by
  have e := Lib.len8_of i h0 h1
  unfold Lib.len8 at e
  rw [ByteArray.getElem?_lt' _ _ hlt, Option.getD_some] at e
  exact e

theorem w64_small {n : Nat} (h : n ≤ 8) {k : Nat} (hk : k ≤ 64) : wrap64 ((k : Int) + wrap64 (n : Int)) = ((k + n : Nat) : Int) := by unfold wrap64; omega
theorem w64_small' {n : Nat} (h : n ≤ 8) : wrap64 (wrap64 (n : Int)) = (n : Int) := by unfold wrap64; omega

set_option maxHeartbeats 4000000 in
set_option maxRecDepth 100000 in
theorem len64_lib (x : Int) (w : World) (h0 : 0 ≤ x) (h1 : x ≤ 18446744073709551615) :
    Calls Try.prog 116 #[.int .u64 x] w fun e w' => e = .returned (.int .i64 (Lib.bitLen x.toNat)) ∧ w = w' := by
  have hsz : Lib.len8tab.size = 256 := Lib.len8tab_size
  go_enter Try.func116, Try.ntmps116
  go_wp2
  all_goals (go_ret; refine ⟨ret_int ?_, rfl⟩)
  · rw [tab_eq (x / 4294967296 / 65536 / 256) (by omega) (by omega)]
    have e : (x / 4294967296 / 65536 / 256).toNat = x.toNat / 72057594037927936 := by omega
    have l := Lib.bitLen_le8' (x / 4294967296 / 65536 / 256) (by omega) (by omega)
    have s := Lib.bitLen_shift56 x.toNat (by omega) (by omega)
    rw [e] at l ⊢
    rw [s]
    exact w64_small (k := 56) l (by omega)
  · rw [tab_eq (x / 4294967296 / 65536) (by omega) (by omega)]
    have e : (x / 4294967296 / 65536).toNat = x.toNat / 281474976710656 := by omega
    have l := Lib.bitLen_le8' (x / 4294967296 / 65536) (by omega) (by omega)
    have s := Lib.bitLen_shift48 x.toNat (by omega) (by omega)
    rw [e] at l ⊢
    rw [s]
    exact w64_small (k := 48) l (by omega)
  · rw [tab_eq (x / 4294967296 / 256) (by omega) (by omega)]
    have e : (x / 4294967296 / 256).toNat = x.toNat / 1099511627776 := by omega
    have l := Lib.bitLen_le8' (x / 4294967296 / 256) (by omega) (by omega)
    have s := Lib.bitLen_shift40 x.toNat (by omega) (by omega)
    rw [e] at l ⊢
    rw [s]
    exact w64_small (k := 40) l (by omega)
  · rw [tab_eq (x / 4294967296) (by omega) (by omega)]
    have e : (x / 4294967296).toNat = x.toNat / 4294967296 := by omega
    have l := Lib.bitLen_le8' (x / 4294967296) (by omega) (by omega)
    have s := Lib.bitLen_shift32 x.toNat (by omega) (by omega)
    rw [e] at l ⊢
    rw [s]
    exact w64_small (k := 32) l (by omega)
  · rw [tab_eq (x / 65536 / 256) (by omega) (by omega)]
    have e : (x / 65536 / 256).toNat = x.toNat / 16777216 := by omega
    have l := Lib.bitLen_le8' (x / 65536 / 256) (by omega) (by omega)
    have s := Lib.bitLen_shift24 x.toNat (by omega) (by omega)
    rw [e] at l ⊢
    rw [s]
    exact w64_small (k := 24) l (by omega)
  · rw [tab_eq (x / 65536) (by omega) (by omega)]
    have e : (x / 65536).toNat = x.toNat / 65536 := by omega
    have l := Lib.bitLen_le8' (x / 65536) (by omega) (by omega)
    have s := Lib.bitLen_shift16 x.toNat (by omega) (by omega)
    rw [e] at l ⊢
    rw [s]
    exact w64_small (k := 16) l (by omega)
  · rw [tab_eq (x / 256) (by omega) (by omega)]
    have e : (x / 256).toNat = x.toNat / 256 := by omega
    have l := Lib.bitLen_le8' (x / 256) (by omega) (by omega)
    have s := Lib.bitLen_shift8 x.toNat (by omega) (by omega)
    rw [e] at l ⊢
    rw [s]
    exact w64_small (k := 8) l (by omega)
  · rw [tab_eq (x) (by omega) (by omega)]
    have e : (x).toNat = x.toNat := by omega
    have l := Lib.bitLen_le8' (x) (by omega) (by omega)
    exact w64_small' l

theorem len64_any (m : Nat) (hm : m < 2 ^ 64) (w : World) :
    Calls Try.prog 116 #[.int .u64 (m : Int)] w fun e w' => e = .returned (.int .i64 (bitLen m : Int)) ∧ w = w' := by
  refine (len64_lib (m : Int) w (by omega) (by omega)).mono ?_
  rintro e w' ⟨rfl, rfl⟩
  exact ⟨by rw [Int.toNat_natCast, lib_bitLen hm], rfl⟩

theorem of_low {k m : Nat} (hk : k ≤ 4) (h : (bitLen m : Int) - 1 - (k : Int) < 0) : wrap64 (wrap64 (m : Int)) = (bOf k m : Int) := by
  have h0 : bE k m = 0 := by
    unfold bE; unfold bitLen at h; split at h
    · subst m; have : Nat.log2 0 = 0 := by decide
      rw [this]; omega
    · omega
  have h1 := div_bE_lt k m
  rw [h0] at h1
  have h3 : 2 ^ (k + 1) ≤ 2 ^ 5 := Nat.pow_le_pow_right (by omega) (by omega)
  unfold bOf
  rw [h0]
  simp only [Nat.zero_mul, Nat.pow_zero, Nat.div_one, Nat.zero_add] at *
  unfold wrap64; omega

theorem of_high {k m : Nat} (hk : k ≤ 4) (hm : m < 2 ^ 64) (h : 0 ≤ (bitLen m : Int) - 1 - (k : Int)) :
    wrap64 (wrap64 (((bitLen m : Int) - 1 - (k : Int)) * 2 ^ k) + wrap64 ((m : Int) / 2 ^ (bitLen m - 1 - k))) = (bOf k m : Int) := by
  have h0 : bitLen m - 1 - k = bE k m := by
    unfold bE; unfold bitLen at h ⊢; split at h
    · subst m; simp
    · rw [if_neg (by assumption)]; omega
  have h0' : (bitLen m : Int) - 1 - (k : Int) = (bE k m : Int) := by omega
  have h1 := div_bE_lt k m
  have h2 := bE_le (k := k) hm
  have h3 : 2 ^ (k + 1) ≤ 2 ^ 5 := Nat.pow_le_pow_right (by omega) (by omega)
  have h4 : 2 ^ k ≤ 2 ^ 4 := Nat.pow_le_pow_right (by omega) hk
  have h5 : bE k m * 2 ^ k ≤ 63 * 2 ^ 4 := Nat.mul_le_mul h2 h4
  rw [h0, h0']
  have e1 : (bE k m : Int) * 2 ^ k = ((bE k m * 2 ^ k : Nat) : Int) := by rw [Int.natCast_mul, Int.natCast_pow]; rfl
  have e2 : (m : Int) / 2 ^ bE k m = ((m / 2 ^ bE k m : Nat) : Int) := by rw [Int.natCast_ediv, Int.natCast_pow]; rfl
  rw [e1, e2]
  unfold bOf
  clear e1 e2 h0 h0' h h2 hm
  generalize bE k m * 2 ^ k = p at *
  generalize m / 2 ^ bE k m = q at *
  have h6 : q < 32 := Nat.lt_of_lt_of_le h1 h3
  have h7 : p ≤ 1008 := h5
  clear h1 h3 h4 h5
  unfold wrap64; omega

theorem of_walk (k m : Nat) (hk : k ≤ 4) (hm : m < 2 ^ 64) (w : World) :
    Calls Try.prog 79 #[.int .i64 (k : Int), .int .u64 (m : Int)] w fun e w' => e = .returned (.int .i64 (bOf k m : Int)) ∧ ∃ n, w' = w.drewN n := by
  have hb := bitLen_le hm
  go_enter Try.func79, Try.ntmps79
  go_wp2_with fail
  refine (len64_any m hm w).mono ?_
  rintro e w' ⟨rfl, rfl⟩
  go_wp2_with fail
  · go_quiet (fail)
    go_wp2
    go_ret
    exact ⟨ret_int (of_low hk (by assumption)), _, rfl⟩
  · go_quiet (fail)
    go_wp2
    go_ret
    exact ⟨ret_int (of_high hk hm (by assumption)), _, rfl⟩

theorem bOf_nn (k m : Nat) : (0 : Int) ≤ (bOf k m : Int) := Int.natCast_nonneg _

/-- The closure of Of: it writes the bucket into its third variable. -/
theorem of1_walk (k : Nat) (n : Int) (hk : k ≤ 4) (h1 : -9223372036854775808 ≤ n) (h2 : n ≤ 9223372036854775807) (bm bn ba : Nat) (W w : World) (F : List Chunk)
    (hO : Own W w ((bm, .cells #[.int .i64 (k : Int)] 3 (0, 0)) :: (bn, .cells #[.int .i64 n] 2 (0, 0)) :: (ba, .cells #[.int .i64 0] 3 (0, 0)) :: F)) :
    Calls Try.prog 78 #[.pointer (some ⟨bm, 0, none⟩), .pointer (some ⟨bn, 0, none⟩), .pointer (some ⟨ba, 0, none⟩)] w fun e w' => e = .returned (.tuple #[]) ∧
      Own W w' ((bm, .cells #[.int .i64 (k : Int)] 3 (0, 0)) :: (bn, .cells #[.int .i64 n] 2 (0, 0)) :: (ba, .cells #[.int .i64 (bkOf k n)] 3 (0, 0)) :: F) := by
  have c1 := hO.cell (i := 0) (.head _) rfl
  have c2 := hO.cell (i := 0) (.tail _ (.head _)) rfl
  have c3 := hO.cell (i := 0) (.tail _ (.tail _ (.head _))) rfl
  have f3 := hO.free (.tail _ (.tail _ (.head _))) 0
  have n13 : bm ≠ ba := hO.ne_mem (.tail _ (.head _))
  have n23 : bn ≠ ba := (hO.le (L' := (bn, .cells #[.int .i64 n] 2 (0, 0)) :: (ba, .cells #[.int .i64 0] 3 (0, 0)) :: F) (fun a => by simp only [cnt_cons]; omega)).ne_mem (.head _)
  have n31 := n13.symm
  have n32 := n23.symm
  have hbo := bOf_le (k := k) (m := n.natAbs) hk (by omega)
  have hbn := bOf_nn k n.natAbs
  have H := Lib.hid hO
  clear hO
  by_cases hn : n < 0
  · have hbk : bkOf k n = -(bOf k n.natAbs : Int) := by unfold bkOf; rw [if_pos hn]
    rw [hbk]
    clear hbk
    go_enter Try.func78, Try.ntmps78
    go_wp2_with fail
    go_region_held3 (fun w' => w'.cell? ⟨bm, 0, none⟩ = some (.int .i64 (k : Int)) ∧ w'.cell? ⟨bn, 0, none⟩ = some (.int .i64 n)) (go_keep)
      (first
        | (go_at_call 80; refine (far_any n h1 h2 _).mono ?_; rintro e w' ⟨rfl, rfl⟩)
        | (go_at_call 79; refine (of_walk k n.natAbs hk (by omega) _).mono ?_; rintro e w' ⟨rfl, nq, rfl⟩))
    go_wp2
    go_end0
    exact ⟨rfl, ((H.out.drewN _).set (A := [_, _]) 0 _).set (A := [_, _]) 0 _⟩
  · have hbk : bkOf k n = (bOf k n.natAbs : Int) := by unfold bkOf; rw [if_neg hn]
    rw [hbk]
    clear hbk
    go_enter Try.func78, Try.ntmps78
    go_wp2_with fail
    go_region_held3 (fun w' => w'.cell? ⟨bm, 0, none⟩ = some (.int .i64 (k : Int)) ∧ w'.cell? ⟨bn, 0, none⟩ = some (.int .i64 n)) (go_keep)
      (first
        | (go_at_call 80; refine (far_any n h1 h2 _).mono ?_; rintro e w' ⟨rfl, rfl⟩)
        | (go_at_call 79; refine (of_walk k n.natAbs hk (by omega) _).mono ?_; rintro e w' ⟨rfl, nq, rfl⟩))
    go_wp2
    go_end0
    exact ⟨rfl, ((H.out.drewN _).set (A := [_, _]) 0 _)⟩

theorem ret_bool {a b : Bool} (h : a = b) : Ending.returned (.bool a) = .returned (.bool b) := by rw [h]

/-- may: it does what it is handed. -/
theorem may_of (k : Nat) (hk : k ≤ 4) (cap : Array Value) (w : World) (R : World → Prop)
    (h : Calls Try.prog 78 cap w fun e w' => e = .returned (.tuple #[]) ∧ R w') :
    Calls Try.prog 77 #[.int .i64 (k : Int), .func (.func 78) #[] cap] w fun e w' => e = .returned (.bool true) ∧ R w' := by
  have hk0 : (0 : Int) ≤ (k : Int) := Int.natCast_nonneg _
  have hk4 : (k : Int) ≤ 4 := by omega
  have H := Lib.hid h
  clear h
  go_enter Try.func77, Try.ntmps77
  go_wp2_with fail
  refine H.out.mono ?_
  rintro e w' ⟨rfl, hR⟩
  have HR := Lib.hid hR
  clear hR
  go_wp2
  go_ret
  exact ⟨rfl, HR.out⟩

/-- may: it does what it is handed. -/
theorem may_most (k : Nat) (hk : k ≤ 4) (cap : Array Value) (w : World) (R : World → Prop)
    (h : Calls Try.prog 139 cap w fun e w' => e = .returned (.tuple #[]) ∧ R w') :
    Calls Try.prog 77 #[.int .i64 (k : Int), .func (.func 139) #[] cap] w fun e w' => e = .returned (.bool true) ∧ R w' := by
  have hk0 : (0 : Int) ≤ (k : Int) := Int.natCast_nonneg _
  have hk4 : (k : Int) ≤ 4 := by omega
  have H := Lib.hid h
  clear h
  go_enter Try.func77, Try.ntmps77
  go_wp2_with fail
  refine H.out.mono ?_
  rintro e w' ⟨rfl, hR⟩
  have HR := Lib.hid hR
  clear hR
  go_wp2
  go_ret
  exact ⟨rfl, HR.out⟩

theorem may_no (k : Int) (hk : k < 0 ∨ 4 < k) (v : Value) (w : World) :
    Calls Try.prog 77 #[.int .i64 k, v] w fun e w' => e = .returned (.bool false) ∧ w = w' := by
  rcases hk with h | h
  · go_enter Try.func77, Try.ntmps77
    go_wp2
    go_ret
    exact ⟨rfl, rfl⟩
  · have h0 : 0 ≤ k := by omega
    have hd : decide (k ≤ 4) = false := by simp; omega
    go_enter Try.func77, Try.ntmps77
    go_wp2
    go_ret
    exact ⟨rfl, rfl⟩

/-- bucket.Of at bits that may be. -/
theorem Of_any (k : Nat) (n : Int) (hk : k ≤ 4) (h1 : -9223372036854775808 ≤ n) (h2 : n ≤ 9223372036854775807) (W w : World) (F : List Chunk) (hO : Own W w F) :
    Calls Try.prog 18 #[.int .i64 (k : Int), .int .i64 n] w fun e w' => e = .returned (.tuple #[.int .i64 (bkOf k n), .bool true]) ∧ Own W w' F := by
  have H := Lib.hid hO
  clear hO
  go_enter Try.func18, Try.ntmps18
  go_wp2_with fail
  have hO := ((H.out.alloc (.cells #[.int .i64 (k : Int)] 3 (0, 0))).alloc (.cells #[.int .i64 n] 2 (0, 0))).alloc (.cells #[.int .i64 0] 3 (0, 0))
  simp only [World.size_alloc] at hO
  refine (may_of k hk _ _ _ (of1_walk k n hk h1 h2 w.heap.size (w.heap.size + 1) (w.heap.size + 1 + 1) W _ F (hO.le (fun a => by simp only [cnt_cons]; omega)))).mono ?_
  rintro e w' ⟨rfl, hO1⟩
  have c3 := hO1.cell (i := 0) (.tail _ (.tail _ (.head _))) rfl
  have f3 := hO1.free (.tail _ (.tail _ (.head _))) 0
  have H1 := Lib.hid hO1
  clear hO hO1
  go_wp2
  exact bodyPost_ret (v := .tuple #[.int .i64 (bkOf k n), .bool true]) (by simp [results, Try.results18, go_sem, c3]) rfl ⟨rfl, ((H1.out.set (A := [_, _]) 0 _).le (fun a => by simp only [cnt_append, cnt_cons]; omega))⟩
/-- The closure of Most: it writes the greatest bucket. -/
theorem most1_walk (k : Nat) (hk : k ≤ 4) (bm ba : Nat) (v : Int) (W w : World) (F : List Chunk)
    (hO : Own W w ((bm, .cells #[.int .i64 (k : Int)] 3 (0, 0)) :: (ba, .cells #[.int .i64 v] 3 (0, 0)) :: F)) :
    Calls Try.prog 139 #[.pointer (some ⟨bm, 0, none⟩), .pointer (some ⟨ba, 0, none⟩)] w fun e w' => e = .returned (.tuple #[]) ∧
      Own W w' ((bm, .cells #[.int .i64 (k : Int)] 3 (0, 0)) :: (ba, .cells #[.int .i64 (bMost k : Int)] 3 (0, 0)) :: F) := by
  have c1 := hO.cell (i := 0) (.head _) rfl
  have c3 := hO.cell (i := 0) (.tail _ (.head _)) rfl
  have f3 := hO.free (.tail _ (.head _)) 0
  have H := Lib.hid hO
  clear hO
  go_enter Try.func139, Try.ntmps139
  go_wp2_with fail
  refine (of_walk k 9223372036854775807 hk (by omega) _).mono ?_
  rintro e w' ⟨rfl, nq, rfl⟩
  go_wp2
  go_end0
  exact ⟨rfl, (H.out.drewN _).set (A := [_]) 0 _⟩

theorem Most_any (k : Nat) (hk : k ≤ 4) (W w : World) (F : List Chunk) (hO : Own W w F) :
    Calls Try.prog 121 #[.int .i64 (k : Int)] w fun e w' => e = .returned (.int .i64 (bMost k : Int)) ∧ Own W w' F := by
  have H := Lib.hid hO
  clear hO
  go_enter Try.func121, Try.ntmps121
  go_wp2_with fail
  have hO := ((H.out.alloc (.cells #[.int .i64 (k : Int)] 3 (0, 0))).alloc (.cells #[.int .i64 (-1)] 3 (0, 0)))
  simp only [World.size_alloc] at hO
  refine (may_most k hk _ _ _ (most1_walk k hk w.heap.size (w.heap.size + 1) (-1) W _ F (hO.le (fun a => by simp only [cnt_cons]; omega)))).mono ?_
  rintro e w' ⟨rfl, hO1⟩
  have c3 := hO1.cell (i := 0) (.tail _ (.head _)) rfl
  have H1 := Lib.hid hO1
  clear hO hO1
  go_wp2
  go_ret
  exact ⟨rfl, H1.out.le (fun a => by simp only [cnt_cons]; omega)⟩

theorem Near_any (k : Nat) (a b : Int) (hk : k ≤ 4) (ha1 : -9223372036854775808 ≤ a) (ha2 : a ≤ 9223372036854775807) (hb1 : -9223372036854775808 ≤ b) (hb2 : b ≤ 9223372036854775807)
    (W w : World) (F : List Chunk) (hO : Own W w F) :
    Calls Try.prog 19 #[.int .i64 (k : Int), .int .i64 a, .int .i64 b] w fun e w' => e = .returned (.bool (bkOf k a == bkOf k b)) ∧ Own W w' F := by
  have H := Lib.hid hO
  clear hO
  go_enter Try.func19, Try.ntmps19
  go_wp2_with fail
  refine (Of_any k a hk ha1 ha2 W _ F H.out).mono ?_
  rintro e w' ⟨rfl, hO1⟩
  have H1 := Lib.hid hO1
  clear hO1 H
  go_wp2_with fail
  refine (Of_any k b hk hb1 hb2 W _ F H1.out).mono ?_
  rintro e w' ⟨rfl, hO1⟩
  have H2 := Lib.hid hO1
  clear hO1 H1
  go_wp2
  go_ret
  exact ⟨rfl, H2.out⟩

end Go.Proofs.Ytbafepjmogigjaa
