/- Rows of bytes; the walks of hist.put and hist.get. -/
import Derived.Test.YtbafepjmogigjaaBytesPure
import Derived.Test.YtbafepjmogigjaaRow
import Derived.Test.YtbafepjmogigjaaProg
import Derived.LoopTactic
import Derived.Outline
namespace Go.Proofs.Ytbafepjmogigjaa
set_option linter.unusedSimpArgs false
set_option linter.unusedVariables false
open Go.RowKit

/-- Bytes as cells. -/
def bytesC (l : List UInt8) : List Value := l.map fun b => .int .u8 (b.toNat : Int)

theorem bytesC_len (l : List UInt8) : (bytesC l).length = l.length := by simp [bytesC]
theorem bytesC_append (l m : List UInt8) : bytesC (l ++ m) = bytesC l ++ bytesC m := by simp [bytesC]
theorem bytesC_one (l : List UInt8) : ∀ u ∈ bytesC l, u.oneCell' = true := by
  intro u hu
  obtain ⟨b, _, rfl⟩ := List.mem_map.1 hu
  rfl

theorem Try.infoByte : (Try.prog.info? 5).map (fun i => (i.zero, i.size, i.bytes)) = some (some (.int .u8 0), 1, 1) := by kernel_rfl

/-- append of one byte that lies in a block of its own, at a row of bytes. -/
theorem append_byte (v : Value) (l : List UInt8) (b : UInt8) (L F : List Chunk) (W w : World) (hR : RowC 5 1 v l.length (bytesC l) L) (hO : Own W w (L ++ F)) (hl : l.length ≤ 70368744177664) :
    ∃ v' w' L', (∀ ty, (Builtin.append_ #[153, 153] ty #[v, .slice (some ⟨w.heap.size, 0, none⟩) 1 1]).run Try.prog (w.alloc (.cells #[.int .u8 (b.toNat : Int)] 5)) = .ok v' w') ∧
      RowC 5 1 v' (l ++ [b]).length (bytesC (l ++ [b])) L' ∧ Own W w' (L' ++ F) := by
  obtain ⟨i0, hi, hz, hz1, hz2⟩ := info_parts Try.infoByte
  have hO1 := hO.alloc (.cells #[.int .u8 (b.toNat : Int)] 5 (0, 0))
  have hsrc : Src Try.prog 1 153 (.slice (some ⟨w.heap.size, 0, none⟩) 1 1) 1 [.int .u8 (b.toNat : Int)] (w.alloc (.cells #[.int .u8 (b.toNat : Int)] 5)) :=
    Src.ofSlice _ Try.underlying153 ⟨w.heap.size, 0, none⟩ 1 1 _ rfl (fun j u hj => by rw [Addr.add_lit]; exact hO1.cell (i := 0 + j) (.head _) (by simpa using hj)) (by simp [Value.oneCell'])
  obtain ⟨v', w', L', hrun, hR', hO'⟩ := run_append_row (P := Try.prog) 153 153 153 5 i0 _ 1 1 Try.underlying153 hi hz hz1 hz2 rfl hR (F := (w.heap.size, .cells #[.int .u8 (b.toNat : Int)] 5 (0, 0)) :: F) (hO1.le (fun a => by simp only [cnt_append, cnt_cons, cnt_nil]; omega)) hsrc (by unfold maxLen; omega) (by omega)
  refine ⟨v', w', L', fun ty => hrun, ?_, hO'.le (fun a => by simp only [cnt_append, cnt_cons, cnt_nil]; omega)⟩
  rw [bytesC_append, List.length_append]
  exact hR'

/-- What comes back is a row of bytes. -/
def RetBytes (l : List UInt8) (W : World) (F : List Chunk) (e : Ending) (w' : World) : Prop := RetRow 5 1 l.length (bytesC l) W F e w'

theorem shift_byte {n k : Nat} : (n : Int) / 2 ^ (8 * k) % 256 = ((UInt8.ofNat (n / 256 ^ k % 256)).toNat : Int) := by
  have h : n / 256 ^ k % 256 < 256 := Nat.mod_lt _ (by omega)
  rw [UInt8.toNat_ofNat_of_lt' h]
  have e : (n : Int) / 2 ^ (8 * k) = ((n / 256 ^ k : Nat) : Int) := by
    rw [Int.pow_mul, Int.natCast_ediv, Int.natCast_pow]; rfl
  rw [e, Int.natCast_emod]; rfl

set_option maxRecDepth 100000 in
theorem put_walk (v : Value) (l : List UInt8) (n size : Nat) (hn : n < 18446744073709551616) (hs : size ≤ 8) (L F : List Chunk) (W w : World) (hR : RowC 5 1 v l.length (bytesC l) L) (hO : Own W w (L ++ F)) (hl : l.length ≤ 70368744177000) :
    Calls Try.prog 90 #[v, .int .u64 (n : Int), .int .i64 (size : Int)] w (RetBytes (l ++ beBytes n size) W F) := by
  have H := Lib.hid hO
  have HR := Lib.hid hR
  have HN := Lib.hid hn
  have hs' : (size : Int) ≤ 8 := by omega
  clear hO hR hn
  go_enter Try.func90, Try.ntmps90
  go_wp2_with fail
  go_loopw [0, 7] (fun s i wr => ∃ j : Nat, j ≤ size ∧ i = .int .i64 ((size : Int) - 1 - (j : Int)) ∧ Hid (∃ Lj, RowC 5 1 s (l ++ (beBytes n size).take j).length (bytesC (l ++ (beBytes n size).take j)) Lj ∧ Own W wr (Lj ++ F))) (fun _ i _ => (intOf i + 1).toNat)
  case atStart => exact ⟨0, Nat.zero_le _, by go_num, L, by simpa using HR.out, H.out⟩
  case round =>
    obtain ⟨j, hj, rfl, hq⟩ := hrel
    by_cases hlt : j < size
    · obtain ⟨Lj, hRj, hOj⟩ := hq.out
      have hb := shift_byte (n := n) (k := size - 1 - j)
      have hbl : (l ++ (beBytes n size).take j).length ≤ 70368744177664 := by rw [List.length_append, List.length_take, beBytes_len]; omega
      obtain ⟨v', w', L', hrun, hR', hO'⟩ := append_byte _ _ (UInt8.ofNat (n / 256 ^ (size - 1 - j) % 256)) Lj F W wr hRj hOj hbl
      have hnext : l ++ (beBytes n size).take j ++ [UInt8.ofNat (n / 256 ^ (size - 1 - j) % 256)] = l ++ (beBytes n size).take (j + 1) := by
        rw [List.append_assoc]; congr 1
        have hjl : j < (beBytes n size).length := by rw [beBytes_len]; exact hlt
        have hg := beBytes_get n size j hlt
        rw [List.getElem?_eq_getElem hjl] at hg
        rw [List.take_succ_eq_append_getElem hjl]
        simp only [Option.some.injEq] at hg
        rw [hg]
      rw [hnext] at hR'
      have HR' := Lib.hid hR'
      have HO' := Lib.hid hO'
      have HN' := Lib.hid hrun
      have HB := Lib.hid hb
      clear hRj hOj hrun hR' hO' hq hb hnext
      have hi0 : (0 : Int) ≤ (size : Int) - 1 - (j : Int) := by omega
      have hi1 : (size : Int) - 1 - (j : Int) ≤ 7 := by omega
      go_wp2_with (at_builtin; rw [HB.out]; refine Lib.wpList_append_run _ rfl _ _ _ _ rfl _ _ rfl rfl _ _ (HN'.out _) ?_)
      exact ⟨⟨j + 1, by omega, by go_num, L', HR'.out, HO'.out⟩, by simp [intOf]; omega⟩
    · obtain rfl : j = size := by omega
      go_wp2
      go_ret
      obtain ⟨Lj, hRj, hOj⟩ := hq.out
      rw [List.take_of_length_le (by rw [beBytes_len]; omega)] at hRj
      exact ⟨_, Lj, rfl, hRj, hOj⟩

theorem put2 (v : Value) (l : List UInt8) (n : Nat) (hn : n < 18446744073709551616) (L F : List Chunk) (W w : World) (hR : RowC 5 1 v l.length (bytesC l) L) (hO : Own W w (L ++ F)) (hl : l.length ≤ 70368744177000) :
    Calls Try.prog 90 #[v, .int .u64 (n : Int), .int .i64 2] w (RetBytes (l ++ beBytes n 2) W F) := put_walk v l n 2 hn (by omega) L F W w hR hO hl

theorem put4 (v : Value) (l : List UInt8) (n : Nat) (hn : n < 18446744073709551616) (L F : List Chunk) (W w : World) (hR : RowC 5 1 v l.length (bytesC l) L) (hO : Own W w (L ++ F)) (hl : l.length ≤ 70368744177000) :
    Calls Try.prog 90 #[v, .int .u64 (n : Int), .int .i64 4] w (RetBytes (l ++ beBytes n 4) W F) := put_walk v l n 4 hn (by omega) L F W w hR hO hl

theorem put6 (v : Value) (l : List UInt8) (n : Nat) (hn : n < 18446744073709551616) (L F : List Chunk) (W w : World) (hR : RowC 5 1 v l.length (bytesC l) L) (hO : Own W w (L ++ F)) (hl : l.length ≤ 70368744177000) :
    Calls Try.prog 90 #[v, .int .u64 (n : Int), .int .i64 6] w (RetBytes (l ++ beBytes n 6) W F) := put_walk v l n 6 hn (by omega) L F W w hR hO hl

theorem lor_byte (x b : Nat) (hb : b < 256) : (x * 256) ||| b = x * 256 + b := by
  have := Nat.shiftLeft_add_eq_or_of_lt (b := b) (i := 8) (by omega) x
  rw [Nat.shiftLeft_eq] at this
  exact this.symm

theorem or_byte (x : Nat) (b : UInt8) (hx : x < 72057594037927936) : bits .or .u64 (IntKind.u64.wrap ((x : Int) * 256)) (IntKind.u64.wrap (b.toNat : Int)) = ((x * 256 + b.toNat : Nat) : Int) := by
  have hb : b.toNat < 256 := b.toNat_lt
  have e1 : IntKind.u64.wrap ((x : Int) * 256) = ((x * 256 : Nat) : Int) := by rw [IntKind.wrap_u64]; omega
  have e2 : IntKind.u64.wrap (b.toNat : Int) = (b.toNat : Int) := by rw [IntKind.wrap_u64]; omega
  rw [e1, e2, u64_or_nat _ _ (by omega) (by omega), lor_byte x _ hb]

theorem beNum_take_succ (s : ByteArray) (j : Nat) (h : j < s.size) : beNum (s.data.toList.take (j + 1)) = beNum (s.data.toList.take j) * 256 + s[j].toNat := by
  rw [List.take_succ_eq_append_getElem (by simpa using h), beNum_snoc]; rfl

theorem beNum_take_lt (s : ByteArray) (j : Nat) (h : j ≤ 7) : beNum (s.data.toList.take j) < 72057594037927936 := by
  refine Nat.lt_of_lt_of_le (beNum_lt _) ?_
  have : (s.data.toList.take j).length ≤ 7 := by simp; omega
  exact Nat.le_trans (Nat.pow_le_pow_right (by omega) this) (by decide)

/-- A string's bytes. -/
theorem get_walk (s : ByteArray) (hs : s.size ≤ 8) (w : World) :
    Calls Try.prog 115 #[.string s] w fun e w' => e = .returned (.int .u64 (beNum s.data.toList : Int)) ∧ w = w' := by
  go_enter Try.func115, Try.ntmps115
  go_wp2_with fail
  go_loop [2, 6] (fun x i => ∃ j : Nat, j ≤ s.size ∧ i = .int .i64 (j : Int) ∧ x = .int .u64 (beNum (s.data.toList.take j) : Int)) (fun _ i => s.size - (intOf i).toNat)
  case atStart => exact ⟨0, Nat.zero_le _, rfl, rfl⟩
  case round =>
    obtain ⟨j, hj, rfl, rfl⟩ := hrel
    by_cases hlt : j < s.size
    · have hji : (j : Int) < (s.size : Int) := by omega
      go_wp2
      rw [or_byte _ _ (beNum_take_lt s j (by omega)), ← beNum_take_succ s j hlt]
      exact ⟨⟨j + 1, by omega, by go_num, rfl⟩, by simp [intOf]; omega⟩
    · obtain rfl : j = s.size := by omega
      rw [List.take_of_length_le (by simp)]
      go_wp2
      go_ret
      exact ⟨rfl, rfl⟩

end Go.Proofs.Ytbafepjmogigjaa
