/- Numbers as bytes, the highest first, in plain Lean. -/
import Derived.Below
namespace Go.Proofs.Ytbafepjmogigjaa
set_option linter.unusedSimpArgs false
set_option linter.unusedVariables false

/-- So many bytes of a number, the highest first. -/
def beBytes (n : Nat) : Nat → List UInt8
  | 0 => []
  | s + 1 => UInt8.ofNat (n / 256 ^ s % 256) :: beBytes n s

/-- The number of bytes. -/
def beNum (l : List UInt8) : Nat := l.foldl (fun n b => n * 256 + b.toNat) 0

theorem beBytes_len (n : Nat) : ∀ s, (beBytes n s).length = s
  | 0 => rfl
  | s + 1 => by simp [beBytes, beBytes_len n s]

theorem beBytes_get (n : Nat) : ∀ (s j : Nat) (h : j < s), (beBytes n s)[j]? = some (UInt8.ofNat (n / 256 ^ (s - 1 - j) % 256))
  | 0, j, h => by omega
  | s + 1, 0, _ => by simp [beBytes]
  | s + 1, j + 1, h => by
    simp only [beBytes, List.getElem?_cons_succ]
    rw [beBytes_get n s j (by omega)]
    have e : s + 1 - 1 - (j + 1) = s - 1 - j := by omega
    rw [e]

theorem beNum_append (l m : List UInt8) : beNum (l ++ m) = m.foldl (fun n b => n * 256 + b.toNat) (beNum l) := by simp [beNum]
theorem beNum_snoc (l : List UInt8) (b : UInt8) : beNum (l ++ [b]) = beNum l * 256 + b.toNat := by simp [beNum]

theorem foldl_be (l : List UInt8) (a : Nat) : l.foldl (fun n b => n * 256 + b.toNat) a = a * 256 ^ l.length + beNum l := by
  induction l generalizing a with
  | nil => simp [beNum]
  | cons b l ih =>
    simp only [List.foldl_cons, List.length_cons, beNum]
    rw [ih, ih (0 * 256 + b.toNat), Nat.pow_succ, Nat.add_mul, Nat.zero_mul, Nat.zero_add, Nat.mul_assoc, Nat.mul_comm 256 (256 ^ l.length)]
    omega

theorem beNum_cons (b : UInt8) (l : List UInt8) : beNum (b :: l) = b.toNat * 256 ^ l.length + beNum l := by
  show (b :: l).foldl _ 0 = _
  rw [List.foldl_cons, foldl_be]; simp

theorem beNum_lt : ∀ l : List UInt8, beNum l < 256 ^ l.length
  | [] => by simp [beNum]
  | b :: l => by
    rw [beNum_cons, List.length_cons, Nat.pow_succ]
    have h1 := beNum_lt l
    have h2 : b.toNat < 256 := b.toNat_lt
    have h3 : (b.toNat + 1) * 256 ^ l.length ≤ 256 * 256 ^ l.length := Nat.mul_le_mul_right _ h2
    rw [Nat.add_mul, Nat.one_mul] at h3
    rw [Nat.mul_comm (256 ^ l.length) 256]
    omega

theorem beNum_beBytes (n : Nat) : ∀ s, beNum (beBytes n s) = n % 256 ^ s
  | 0 => by simp [beBytes, beNum, Nat.mod_one]
  | s + 1 => by
    have h : n / 256 ^ s % 256 < 256 := Nat.mod_lt _ (by omega)
    rw [beBytes, beNum_cons, beBytes_len, beNum_beBytes n s, UInt8.toNat_ofNat_of_lt' h, Nat.pow_succ, Nat.mod_mul, Nat.mul_comm (256 ^ s)]
    omega

theorem beBytes_beNum : ∀ l : List UInt8, beBytes (beNum l) l.length = l
  | [] => rfl
  | b :: l => by
    have h1 := beNum_lt l
    have h2 : b.toNat < 256 := b.toNat_lt
    rw [List.length_cons, beBytes, beNum_cons]
    have e1 : (b.toNat * 256 ^ l.length + beNum l) / 256 ^ l.length % 256 = b.toNat := by
      rw [Nat.mul_comm, Nat.mul_add_div (Nat.pow_pos (by omega)), Nat.div_eq_of_lt h1, Nat.add_zero, Nat.mod_eq_of_lt h2]
    rw [e1]
    congr 1
    · exact UInt8.ofNat_toNat
    · have e2 : ∀ (s x : Nat), s ≤ l.length → beBytes (x * 256 ^ l.length + beNum l) s = beBytes (beNum l) s := by
        intro s
        induction s with
        | zero => intro x _; rfl
        | succ s ih =>
          intro x hs
          simp only [beBytes]
          rw [ih x (by omega)]
          congr 2
          have : 256 ^ l.length = 256 ^ s * (256 * 256 ^ (l.length - s - 1)) := by
            rw [← Nat.mul_assoc, ← Nat.pow_succ, ← Nat.pow_add]; congr 1; omega
          rw [this, ← Nat.mul_assoc, Nat.mul_comm x, Nat.mul_assoc, Nat.mul_add_div (Nat.pow_pos (by omega)), Nat.mul_comm x, Nat.mul_assoc, Nat.mul_add_mod]
      rw [e2 l.length b.toNat (Nat.le_refl _), beBytes_beNum l]

theorem beBytes_mod (n m : Nat) : ∀ s, n % 256 ^ s = m % 256 ^ s → beBytes n s = beBytes m s := by
  intro s h
  have h1 := beBytes_beNum (beBytes n s)
  have h2 := beBytes_beNum (beBytes m s)
  rw [beNum_beBytes, beBytes_len] at h1 h2
  rw [← h1, ← h2, h]

end Go.Proofs.Ytbafepjmogigjaa
