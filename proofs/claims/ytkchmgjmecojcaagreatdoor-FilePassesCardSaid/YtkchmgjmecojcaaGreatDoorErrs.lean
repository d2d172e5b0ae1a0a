/-
  errors.Is and errors.As, for what this program hands them: nil, an error of errors.New's make, and an api.Fault around one.
-/
import Derived.Test.YtkchmgjmecojcaaGreatDoorProg
import Derived.Test.YtkchmgjmecojcaaGreatDoorBase
import Derived.LaidEql
import Derived.Stop.Asserts
import Derived.RowKitTokens
set_option linter.unusedVariables false
set_option maxHeartbeats 20000000
set_option maxRecDepth 100000
set_option linter.unusedSimpArgs false
namespace Go.Proofs.YtkchmgjmecojcaaGreatDoor
open Go.RowKit Go.Extern.Stop Go.Stop Go.Extern
/-! Closed facts: what 'reflectlite.TypeOf(target).Comparable()' gives, and what the assertions find. -/
theorem xTypeOfE (v : Value) (w : World) : (callFunc 80 #[.iface 298 v]).run Tryz.prog w = .ok (.value (.iface 213 (.agg #[.pointer (some ⟨19, 298, none⟩)]))) w := by kernel_rfl
theorem xTypeOfF (v : Value) (w : World) : (callFunc 80 #[.iface 105 v]).run Tryz.prog w = .ok (.value (.iface 213 (.agg #[.pointer (some ⟨19, 105, none⟩)]))) w := by kernel_rfl
theorem xComparable (w : World) : (callFunc 218 #[.agg #[.pointer (some ⟨19, 298, none⟩)]]).run Tryz.prog w = .ok (.value (.bool true)) w := by kernel_rfl
theorem isMethodComparable (v : Value) (w : World) : (Go.method 429 213 v "Comparable").run Tryz.prog w = .ok (218, v) w := by kernel_rfl
theorem isComp : (Tryz.prog.info? 298).map (·.comparable) = some true := by kernel_rfl
theorem isSize : (Tryz.prog.info? 300).map (·.size) = some 1 := by kernel_rfl
theorem noIsE (v : Value) (xT : TypeId) (w : World) : (Instr.typeAssert (.iface 298 v) xT 224 true).run Tryz.prog w = .ok (.tuple #[.nilIface, .bool false]) w := run_typeAssert_lacksB Tryz.underlying224 (by kernel_rfl) (by kernel_rfl) v xT w
theorem noAsE (v : Value) (xT : TypeId) (w : World) : (Instr.typeAssert (.iface 298 v) xT 217 true).run Tryz.prog w = .ok (.tuple #[.nilIface, .bool false]) w := run_typeAssert_lacksB Tryz.underlying217 (by kernel_rfl) (by kernel_rfl) v xT w
theorem noUnwrapE (v : Value) (xT : TypeId) (w : World) : (Instr.typeAssert (.iface 298 v) xT 220 true).run Tryz.prog w = .ok (.tuple #[.nilIface, .bool false]) w := run_typeAssert_lacksB Tryz.underlying220 (by kernel_rfl) (by kernel_rfl) v xT w
theorem noUnwrapsE (v : Value) (xT : TypeId) (w : World) : (Instr.typeAssert (.iface 298 v) xT 222 true).run Tryz.prog w = .ok (.tuple #[.nilIface, .bool false]) w := run_typeAssert_lacksB Tryz.underlying222 (by kernel_rfl) (by kernel_rfl) v xT w
theorem noIsW (v : Value) (xT : TypeId) (w : World) : (Instr.typeAssert (.iface 105 v) xT 224 true).run Tryz.prog w = .ok (.tuple #[.nilIface, .bool false]) w := run_typeAssert_lacksB Tryz.underlying224 (by kernel_rfl) (by kernel_rfl) v xT w
theorem hasUnwrapW (v : Value) (xT : TypeId) (w : World) : (Instr.typeAssert (.iface 105 v) xT 220 true).run Tryz.prog w = .ok (.tuple #[.iface 105 v, .bool true]) w := run_typeAssert_hasB Tryz.underlying220 (by kernel_rfl) v xT w
theorem methodUnwrap (v : Value) (w : World) : (Go.method 429 105 v "Unwrap").run Tryz.prog w = .ok (212, v) w := by kernel_rfl
theorem is_same (a : Addr) (w : World) :
  Calls Tryz.prog 44 #[.iface 298 (.pointer (some a)), .iface 298 (.pointer (some a))] w fun e w' => e = .returned (.bool true) ∧ w' = w := by
 obtain ⟨i, hi, hcmp⟩ := Option.map_eq_some_iff.1 isComp
 obtain ⟨j, hj, hjs⟩ := Option.map_eq_some_iff.1 isSize
 have h8 := xTypeOfE
 have h32 := xComparable
 have mR := isMethodComparable
 have heq := run_eql_iface_ptr_same (P := Tryz.prog) w a Tryz.underlying24 Tryz.underlying298 hi hcmp hj
 go_enter Tryz.func44, Tryz.ntmps44
 go_wp2
 refine wp_loop_rounds 1 ?_
 rw [rounds_succ]
 go_wp2
 go_ret
 exact ⟨rfl, rfl⟩
theorem is_other (a b : Addr) (ca cb : Array Value) (ta tb : TypeId) (w : World) (hne : a ≠ b) (ha : w.heap[a.block]? = some (.cells ca ta (0, 0))) (hb : w.heap[b.block]? = some (.cells cb tb (0, 0))) :
  Calls Tryz.prog 44 #[.iface 298 (.pointer (some a)), .iface 298 (.pointer (some b))] w fun e w' => e = .returned (.bool false) ∧ w' = w := by
 obtain ⟨i, hi, hcmp⟩ := Option.map_eq_some_iff.1 isComp
 obtain ⟨j, hj, hjs⟩ := Option.map_eq_some_iff.1 isSize
 have h8 := xTypeOfE
 have h32 := xComparable
 have mR := isMethodComparable
 have nE := noIsE
 have uE := noUnwrapE
 have vE := noUnwrapsE
 have heq := run_eql_iface_ptr_other (P := Tryz.prog) w Tryz.underlying24 Tryz.underlying298 hi hcmp hj (by rw [hjs]; decide) hne ha hb
 go_enter Tryz.func44, Tryz.ntmps44
 go_wp2
 refine wp_loop_rounds 1 ?_
 rw [rounds_succ]
 go_wp2
 go_ret
 exact ⟨rfl, rfl⟩
theorem is_fault_same (p : Nat) (b : Addr) (w : World) (h1 : w.cell? ⟨p, 1, none⟩ = some (.iface 298 (.pointer (some b)))) :
  Calls Tryz.prog 44 #[.iface 105 (.pointer (some ⟨p, 0, none⟩)), .iface 298 (.pointer (some b))] w fun e w' => e = .returned (.bool true) ∧ w' = w := by
 obtain ⟨i, hi, hcmp⟩ := Option.map_eq_some_iff.1 isComp
 obtain ⟨j, hj, hjs⟩ := Option.map_eq_some_iff.1 isSize
 have h8 := xTypeOfE
 have h32 := xComparable
 have mR := isMethodComparable
 have nE := noIsE
 have uE := noUnwrapE
 have vE := noUnwrapsE
 have nW := noIsW
 have uW := hasUnwrapW
 have mU := methodUnwrap
 have heq := run_eql_iface_ptr_same (P := Tryz.prog) w b Tryz.underlying24 Tryz.underlying298 hi hcmp hj
 have hty := run_eql_iface_types (P := Tryz.prog) 105 298 (.pointer (some ⟨p, 0, none⟩)) (.pointer (some b)) Tryz.underlying24 (by decide) w
 go_enter Tryz.func44, Tryz.ntmps44
 go_wp2
 refine wp_loop_rounds 2 ?_
 rw [rounds_succ]
 go_wp2
 rw [rounds_succ]
 go_wp2
 go_ret
 exact ⟨rfl, rfl⟩
theorem is_fault_other (p : Nat) (b a : Addr) (ca cb : Array Value) (ta tb : TypeId) (w : World) (h1 : w.cell? ⟨p, 1, none⟩ = some (.iface 298 (.pointer (some a)))) (hne : a ≠ b) (ha : w.heap[a.block]? = some (.cells ca ta (0, 0))) (hb : w.heap[b.block]? = some (.cells cb tb (0, 0))) :
  Calls Tryz.prog 44 #[.iface 105 (.pointer (some ⟨p, 0, none⟩)), .iface 298 (.pointer (some b))] w fun e w' => e = .returned (.bool false) ∧ w' = w := by
 obtain ⟨i, hi, hcmp⟩ := Option.map_eq_some_iff.1 isComp
 obtain ⟨j, hj, hjs⟩ := Option.map_eq_some_iff.1 isSize
 have h8 := xTypeOfE
 have h32 := xComparable
 have mR := isMethodComparable
 have nE := noIsE
 have uE := noUnwrapE
 have vE := noUnwrapsE
 have nW := noIsW
 have uW := hasUnwrapW
 have mU := methodUnwrap
 have heq := run_eql_iface_ptr_other (P := Tryz.prog) w Tryz.underlying24 Tryz.underlying298 hi hcmp hj (by rw [hjs]; decide) hne ha hb
 have hty := run_eql_iface_types (P := Tryz.prog) 105 298 (.pointer (some ⟨p, 0, none⟩)) (.pointer (some b)) Tryz.underlying24 (by decide) w
 go_enter Tryz.func44, Tryz.ntmps44
 go_wp2
 refine wp_loop_rounds 2 ?_
 rw [rounds_succ]
 go_wp2
 rw [rounds_succ]
 go_wp2
 go_ret
 exact ⟨rfl, rfl⟩
end Go.Proofs.YtkchmgjmecojcaaGreatDoor
