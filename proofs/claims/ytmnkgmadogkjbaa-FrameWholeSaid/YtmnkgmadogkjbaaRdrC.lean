/- What Take and U do: the next bytes, the next number. No condition but sizes. -/
import Derived.Test.YtmnkgmadogkjbaaRdrB
namespace Go.Proofs.Ytmnkgmadogkjbaa.Pack
open Go.ChangeShapes Go.WideShapes Go.ChangeAt Go.RowKit Go.Proofs.Ytmnkgmadogkjbaa.Kit Go.Proofs.Ytmnkgmadogkjbaa.Mem
set_option linter.unusedVariables false
theorem bytes_up {w w' : World} {B n g : Nat} {A : Option Addr} {l : List Int} (h : Bytes w B A n l) (hu : w.grownBy w' (some g)) (hB : B ≤ g) (hw : B ≤ w.heap.size) : Bytes w' B A n l :=
  ⟨h.1, row_keep h.2 fun p hp => hu.cell_far p (by omega) (fun e => by injection e with e; omega)⟩
/-- The bytes that are taken. -/
def takeT (l : List Int) (p e m : Int) : List Int := if okT p e m l.length = true then (l.drop p.toNat).take m.toNat else []
end Go.Proofs.Ytmnkgmadogkjbaa.Pack
