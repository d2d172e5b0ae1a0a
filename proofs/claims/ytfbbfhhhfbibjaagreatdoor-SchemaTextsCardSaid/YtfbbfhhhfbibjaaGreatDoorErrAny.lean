/-
  shredcolref2.SchemaError: its number, by Valid's law.
-/
import Derived.Test.YtfbbfhhhfbibjaaGreatDoorFindLaw
import Derived.Test.YtfbbfhhhfbibjaaGreatDoorSchErr
namespace Go.Proofs.YtfbbfhhhfbibjaaGreatDoor
open Go.RowKit

theorem err_any (nd : Nd) (w : World) (S : Nat → Prop) (cs : List Value) (hr : Reads w S nd.dt cs) (hok : nd.ok) :
    Calls Tryz.prog 10 #[.agg cs.toArray] w (RetV (.int .i64 (errNum (validF nd))) w) := by
  refine (schemaError_any nd w S cs hr hok).mono ?_
  rintro en w' ⟨r, rfl, hs, hc⟩
  rw [err_law hs]
  exact ⟨rfl, hc⟩
end Go.Proofs.YtfbbfhhhfbibjaaGreatDoor
