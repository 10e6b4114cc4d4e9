import Derived.Test.YtondofmlippbcaaWPvRow
import Derived.Test.YtondofmlippbcaaWPLaw4
set_option linter.unusedVariables false
set_option linter.unusedSimpArgs false
set_option maxRecDepth 100000
set_option maxHeartbeats 2000000
open Go Go.Pv
namespace Go.Pv.S
section
variable {H : Type} {enc : TypeId × Value → H} {w : World}
theorem opens_t39 (n : Nat) : Opens enc Go.Proofs.Try.prog w 39 (fun l : (List UInt8) => [.sl (l.map eByte)]) (fun l => ((l.length : Int) ≤ 140737488351232 ∧ ∀ x ∈ l, True)) n :=
  (opens_slice (f := eByte) (Ok := fun x => True) (sz := 1) (B := 1) Go.Proofs.Try.underlying39 (by kernel_rfl) (by kernel_rfl) (by omega) (by omega) (fun x => rfl) n fun k _ => (opens_byte (by kernel_rfl) k))
end
end Go.Pv.S
