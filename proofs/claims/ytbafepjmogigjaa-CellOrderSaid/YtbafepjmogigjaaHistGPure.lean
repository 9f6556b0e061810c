/- A histogram off its bytes, in plain Lean. -/
import Derived.Test.YtbafepjmogigjaaHistPure
import Derived.Test.YtbafepjmogigjaaBytesPure
namespace Go.Proofs.Ytbafepjmogigjaa
set_option linter.unusedSimpArgs false
set_option linter.unusedVariables false

/-- Is an item none that may be? -/
def badItem (k : Nat) (a : Int) (m : Nat) (last : Int) (acc : Items) : Bool :=
  !bIn k a || (decide (m = 0) || (decide (a ≤ last) || decide (1099511627776 - total acc < m)))

/-- So many items off the front of bytes. -/
def getItems (k : Nat) : Nat → List UInt8 → Int → Items → Option (Items × List UInt8)
  | 0, s, _, acc => some (acc, s)
  | n + 1, s, last, acc =>
    let a : Int := (beNum (s.take 4) : Int) - 2147483648
    let m := beNum ((s.drop 4).take 6)
    if badItem k a m last acc then none else getItems k n (s.drop 10) a (addItem acc a m)

/-- A histogram off the front of bytes: its bits, its items, what stands behind it. -/
def getHist (s : List UInt8) : Option (Nat × Items × List UInt8) :=
  match s with
  | b0 :: b1 :: b2 :: rest =>
    let many := beNum [b1, b2]
    if 4 < b0.toNat ∨ rest.length < 10 * many then none else (getItems b0.toNat many rest (-2147483649) []).map fun (l, r) => (b0.toNat, l, r)
  | _ => none

end Go.Proofs.Ytbafepjmogigjaa
