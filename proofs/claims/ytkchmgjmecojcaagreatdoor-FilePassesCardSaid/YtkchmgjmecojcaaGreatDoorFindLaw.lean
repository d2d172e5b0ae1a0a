/-
  Find and Under against FindOf and UnderOf: the plain laws; and the errors' numbers.; shredcolref2.SchemaError: its number, by Valid's law.
-/
import Derived.Test.YtkchmgjmecojcaaGreatDoorErrLaw
import Derived.Test.YtkchmgjmecojcaaGreatDoorRefName
import Derived.Test.YtkchmgjmecojcaaGreatDoorSumW
import Derived.Test.YtkchmgjmecojcaaGreatDoorSumR
import Derived.Test.YtkchmgjmecojcaaGreatDoorAll
import Derived.Test.YtkchmgjmecojcaaGreatDoorCode
import Derived.Test.YtkchmgjmecojcaaGreatDoorSchErr
set_option linter.unusedVariables false
set_option linter.unusedSimpArgs false
namespace Go.Proofs.YtkchmgjmecojcaaGreatDoor
open Go.RowKit
theorem flat_valid {nd : Nd} (hv : validF nd = none) : flatOf nd = fullN nd 1 (-1) 0 := by
 have hS := schema_of_valid hv
 have h1 := hS.high
 have h2 := hS.small
 have := flatN_full nd [] 1 (-1) (by simp only [List.length_nil]; omega) (by omega)
 simpa [flatOf] using this
def Er.i : Er → Nat
 | .text => 0 | .bound => 1 | .shape => 2 | .name => 4
structure Named (w : World) (A : Nat → Addr) (E : Er → Value) (N : Value) : Prop where
 sents : Sents w A
 er : ∀ e : Er, E e = sv (A e.i)
 non : N = sv (A 5)
theorem Named.keep0 {w w' : World} {A : Nat → Addr} {E : Er → Value} {N : Value} (h : Named w A E N) (hc : Chg NoB w w') : Named w' A E N := ⟨h.sents.keep0 hc, h.er, h.non⟩
theorem err_any (nd : Nd) (w : World) (S : Nat → Prop) (cs : List Value) (hr : Reads w S nd.dt cs) (hok : nd.ok) :
  Calls Tryz.prog 72 #[.agg cs.toArray] w (RetV (.int .i64 (errNum (validF nd))) w) := by
 refine (schemaError_any nd w S cs hr hok).mono ?_
 rintro en w' ⟨r, rfl, hs, hc⟩
 rw [err_law hs]
 exact ⟨rfl, hc⟩
end Go.Proofs.YtkchmgjmecojcaaGreatDoor
