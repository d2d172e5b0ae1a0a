/-
 errors.Is and errors.As, for what this program hands them: nil, an error of errors.New's make, and an api.Fault around one.
 errors.As at a target of type **api.Fault: an error of errors.New's make is none; an api.Fault is one.
 errors.As by its contracts: nil, an error of errors.New's make: none; an api.Fault: found.
 plain.Code: an error's number and place.
-/
import Derived.Test.YtgcmfpcgmkkobaaGreatDoorProg
import Derived.Test.YtgcmfpcgmkkobaaGreatDoorPackA
import Derived.LaidEql
import Derived.Stop.Asserts
import Derived.RowKitTokens
set_option linter.unusedVariables false
set_option linter.unusedSimpArgs false
namespace Go.Proofs.YtgcmfpcgmkkobaaGreatDoor
open Go.RowKit Go.Extern.Stop Go.Stop Go.Extern

/-! Closed facts: what 'reflectlite.TypeOf(target).Comparable()' gives, and what the assertions find. -/
theorem xTypeOfE (v : Value) (w : World) : (callFunc 112 #[.iface 246 v]).run Tryz.prog w = .ok (.value (.iface 184 (.agg #[.pointer (some ⟨22, 246, none⟩)]))) w := by kernel_rfl
theorem xTypeOfF (v : Value) (w : World) : (callFunc 112 #[.iface 66 v]).run Tryz.prog w = .ok (.value (.iface 184 (.agg #[.pointer (some ⟨22, 66, none⟩)]))) w := by kernel_rfl
theorem xComparable (w : World) : (callFunc 226 #[.agg #[.pointer (some ⟨22, 246, none⟩)]]).run Tryz.prog w = .ok (.value (.bool true)) w := by kernel_rfl
theorem isMethodComparable (v : Value) (w : World) : (Go.method 401 184 v "Comparable").run Tryz.prog w = .ok (226, v) w := by kernel_rfl
theorem isComp : (Tryz.prog.info? 246).map (·.comparable) = some true := by kernel_rfl
theorem isSize : (Tryz.prog.info? 248).map (·.size) = some 1 := by kernel_rfl
theorem noIsE (v : Value) (xT : TypeId) (w : World) : (Instr.typeAssert (.iface 246 v) xT 195 true).run Tryz.prog w = .ok (.tuple #[.nilIface, .bool false]) w := run_typeAssert_lacksB Tryz.underlying195 (by kernel_rfl) (by kernel_rfl) v xT w
theorem noAsE (v : Value) (xT : TypeId) (w : World) : (Instr.typeAssert (.iface 246 v) xT 188 true).run Tryz.prog w = .ok (.tuple #[.nilIface, .bool false]) w := run_typeAssert_lacksB Tryz.underlying188 (by kernel_rfl) (by kernel_rfl) v xT w
theorem noUnwrapE (v : Value) (xT : TypeId) (w : World) : (Instr.typeAssert (.iface 246 v) xT 191 true).run Tryz.prog w = .ok (.tuple #[.nilIface, .bool false]) w := run_typeAssert_lacksB Tryz.underlying191 (by kernel_rfl) (by kernel_rfl) v xT w
theorem noUnwrapsE (v : Value) (xT : TypeId) (w : World) : (Instr.typeAssert (.iface 246 v) xT 193 true).run Tryz.prog w = .ok (.tuple #[.nilIface, .bool false]) w := run_typeAssert_lacksB Tryz.underlying193 (by kernel_rfl) (by kernel_rfl) v xT w
theorem noIsW (v : Value) (xT : TypeId) (w : World) : (Instr.typeAssert (.iface 66 v) xT 195 true).run Tryz.prog w = .ok (.tuple #[.nilIface, .bool false]) w := run_typeAssert_lacksB Tryz.underlying195 (by kernel_rfl) (by kernel_rfl) v xT w
theorem hasUnwrapW (v : Value) (xT : TypeId) (w : World) : (Instr.typeAssert (.iface 66 v) xT 191 true).run Tryz.prog w = .ok (.tuple #[.iface 66 v, .bool true]) w := run_typeAssert_hasB Tryz.underlying191 (by kernel_rfl) v xT w
theorem methodUnwrap (v : Value) (w : World) : (Go.method 401 66 v "Unwrap").run Tryz.prog w = .ok (219, v) w := by kernel_rfl

set_option maxHeartbeats 1000000 in
theorem is_same (a : Addr) (w : World) :
  Calls Tryz.prog 88 #[.iface 246 (.pointer (some a)), .iface 246 (.pointer (some a))] w fun e w' => e = .returned (.bool true) ∧ w' = w := by
 obtain ⟨i, hi, hcmp⟩ := Option.map_eq_some_iff.1 isComp
 obtain ⟨j, hj, hjs⟩ := Option.map_eq_some_iff.1 isSize
 have h8 := xTypeOfE
 have h32 := xComparable
 have mR := isMethodComparable
 have heq := run_eql_iface_ptr_same (P := Tryz.prog) w a Tryz.underlying30 Tryz.underlying246 hi hcmp hj
 go_enter Tryz.func88, Tryz.ntmps88
 go_wp2
 refine wp_loop_rounds 1 ?_
 rw [rounds_succ]
 go_wp2
 go_ret
 exact ⟨rfl, rfl⟩

set_option maxHeartbeats 1000000 in
/-- errors.Is of two different errors of errors.New's make. -/
theorem is_other (a b : Addr) (ca cb : Array Value) (ta tb : TypeId) (w : World) (hne : a ≠ b) (ha : w.heap[a.block]? = some (.cells ca ta (0, 0))) (hb : w.heap[b.block]? = some (.cells cb tb (0, 0))) :
  Calls Tryz.prog 88 #[.iface 246 (.pointer (some a)), .iface 246 (.pointer (some b))] w fun e w' => e = .returned (.bool false) ∧ w' = w := by
 obtain ⟨i, hi, hcmp⟩ := Option.map_eq_some_iff.1 isComp
 obtain ⟨j, hj, hjs⟩ := Option.map_eq_some_iff.1 isSize
 have h8 := xTypeOfE
 have h32 := xComparable
 have mR := isMethodComparable
 have nE := noIsE
 have uE := noUnwrapE
 have vE := noUnwrapsE
 have heq := run_eql_iface_ptr_other (P := Tryz.prog) w Tryz.underlying30 Tryz.underlying246 hi hcmp hj (by rw [hjs]; decide) hne ha hb
 go_enter Tryz.func88, Tryz.ntmps88
 go_wp2
 refine wp_loop_rounds 1 ?_
 rw [rounds_succ]
 go_wp2
 go_ret
 exact ⟨rfl, rfl⟩

set_option maxHeartbeats 1000000 in
/-- errors.Is of a Fault around that very error. -/
theorem is_fault_same (p : Nat) (b : Addr) (w : World) (h1 : w.cell? ⟨p, 1, none⟩ = some (.iface 246 (.pointer (some b)))) :
  Calls Tryz.prog 88 #[.iface 66 (.pointer (some ⟨p, 0, none⟩)), .iface 246 (.pointer (some b))] w fun e w' => e = .returned (.bool true) ∧ w' = w := by
 obtain ⟨i, hi, hcmp⟩ := Option.map_eq_some_iff.1 isComp
 obtain ⟨j, hj, hjs⟩ := Option.map_eq_some_iff.1 isSize
 have h8 := xTypeOfE
 have h32 := xComparable
 have mR := isMethodComparable
 have nE := noIsE
 have uE := noUnwrapE
 have vE := noUnwrapsE
 have nW := noIsW
 have uW := hasUnwrapW
 have mU := methodUnwrap
 have heq := run_eql_iface_ptr_same (P := Tryz.prog) w b Tryz.underlying30 Tryz.underlying246 hi hcmp hj
 have hty := run_eql_iface_types (P := Tryz.prog) 66 246 (.pointer (some ⟨p, 0, none⟩)) (.pointer (some b)) Tryz.underlying30 (by decide) w
 go_enter Tryz.func88, Tryz.ntmps88
 go_wp2
 refine wp_loop_rounds 2 ?_
 rw [rounds_succ]
 go_wp2
 rw [rounds_succ]
 go_wp2
 go_ret
 exact ⟨rfl, rfl⟩

set_option maxHeartbeats 1000000 in
/-- errors.Is of a Fault around another error. -/
theorem is_fault_other (p : Nat) (b a : Addr) (ca cb : Array Value) (ta tb : TypeId) (w : World) (h1 : w.cell? ⟨p, 1, none⟩ = some (.iface 246 (.pointer (some a)))) (hne : a ≠ b) (ha : w.heap[a.block]? = some (.cells ca ta (0, 0))) (hb : w.heap[b.block]? = some (.cells cb tb (0, 0))) :
  Calls Tryz.prog 88 #[.iface 66 (.pointer (some ⟨p, 0, none⟩)), .iface 246 (.pointer (some b))] w fun e w' => e = .returned (.bool false) ∧ w' = w := by
 obtain ⟨i, hi, hcmp⟩ := Option.map_eq_some_iff.1 isComp
 obtain ⟨j, hj, hjs⟩ := Option.map_eq_some_iff.1 isSize
 have h8 := xTypeOfE
 have h32 := xComparable
 have mR := isMethodComparable
 have nE := noIsE
 have uE := noUnwrapE
 have vE := noUnwrapsE
 have nW := noIsW
 have uW := hasUnwrapW
 have mU := methodUnwrap
 have heq := run_eql_iface_ptr_other (P := Tryz.prog) w Tryz.underlying30 Tryz.underlying246 hi hcmp hj (by rw [hjs]; decide) hne ha hb
 have hty := run_eql_iface_types (P := Tryz.prog) 66 246 (.pointer (some ⟨p, 0, none⟩)) (.pointer (some b)) Tryz.underlying30 (by decide) w
 go_enter Tryz.func88, Tryz.ntmps88
 go_wp2
 refine wp_loop_rounds 2 ?_
 rw [rounds_succ]
 go_wp2
 rw [rounds_succ]
 go_wp2
 go_ret
 exact ⟨rfl, rfl⟩
end Go.Proofs.YtgcmfpcgmkkobaaGreatDoor
namespace Go.Proofs.YtgcmfpcgmkkobaaGreatDoor
open Go.RowKit Go.Extern.Stop Go.Stop Go.Extern

abbrev hPP : Value := .pointer (some ⟨22, 127, none⟩)
abbrev hP : Value := .pointer (some ⟨22, 66, none⟩)
abbrev hE : Value := .pointer (some ⟨22, 246, none⟩)
abbrev hI : Value := .pointer (some ⟨22, 30, none⟩)
theorem xValueOfPP (t : Addr) (w : World) : (callFunc 108 #[.iface 127 (.pointer (some t))]).run Tryz.prog w = .ok (.value (.agg #[.pointer (some ⟨22, 127, none⟩), .pointer (some ⟨w.heap.size, 0, none⟩), .int .u64 150])) (w.alloc (.cells #[.pointer (some t)] 127)) := by kernel_rfl
theorem xValueOfP (t : Addr) (w : World) : (callFunc 108 #[.iface 66 (.pointer (some t))]).run Tryz.prog w = .ok (.value (.agg #[.pointer (some ⟨22, 66, none⟩), .pointer (some ⟨w.heap.size, 0, none⟩), .int .u64 150])) (w.alloc (.cells #[.pointer (some t)] 66)) := by kernel_rfl
theorem xTypePP (a : Addr) (w : World) : (callFunc 109 #[.agg #[.pointer (some ⟨22, 127, none⟩), .pointer (some a), .int .u64 150]]).run Tryz.prog w = .ok (.value (.iface 184 (.agg #[.pointer (some ⟨22, 127, none⟩)]))) w := by kernel_rfl
theorem xMethodKind (h : Value) (w : World) : (Go.method 401 184 (.agg #[h]) "Kind").run Tryz.prog w = .ok (215, h) w := by kernel_rfl
theorem xMethodElem (h : Value) (w : World) : (Go.method 401 184 (.agg #[h]) "Elem").run Tryz.prog w = .ok (227, .agg #[h]) w := by kernel_rfl
theorem xMethodImplements (h : Value) (w : World) : (Go.method 401 184 (.agg #[h]) "Implements").run Tryz.prog w = .ok (228, .agg #[h]) w := by kernel_rfl
theorem xMethodAssignableTo (h : Value) (w : World) : (Go.method 401 184 (.agg #[h]) "AssignableTo").run Tryz.prog w = .ok (225, .agg #[h]) w := by kernel_rfl
theorem xKindPP (w : World) : (callFunc 215 #[.pointer (some ⟨22, 127, none⟩)]).run Tryz.prog w = .ok (.value (.int .u8 22)) w := by kernel_rfl
theorem xKindP (w : World) : (callFunc 215 #[.pointer (some ⟨22, 66, none⟩)]).run Tryz.prog w = .ok (.value (.int .u8 22)) w := by kernel_rfl
theorem xElemPP (w : World) : (callFunc 227 #[.agg #[.pointer (some ⟨22, 127, none⟩)]]).run Tryz.prog w = .ok (.value (.iface 184 (.agg #[.pointer (some ⟨22, 66, none⟩)]))) w := by kernel_rfl
theorem xImplements (w : World) : (callFunc 228 #[.agg #[.pointer (some ⟨22, 66, none⟩)], .iface 184 (.agg #[.pointer (some ⟨22, 30, none⟩)])]).run Tryz.prog w = .ok (.value (.bool true)) w := by kernel_rfl
theorem xAssignPP (w : World) : (callFunc 225 #[.agg #[.pointer (some ⟨22, 66, none⟩)], .iface 184 (.agg #[.pointer (some ⟨22, 66, none⟩)])]).run Tryz.prog w = .ok (.value (.bool true)) w := by kernel_rfl
theorem xAssignEP (w : World) : (callFunc 225 #[.agg #[.pointer (some ⟨22, 246, none⟩)], .iface 184 (.agg #[.pointer (some ⟨22, 66, none⟩)])]).run Tryz.prog w = .ok (.value (.bool false)) w := by kernel_rfl
theorem rlm (z : Sem Value) (f : TypeId → Addr → Nat → Nat → Sem Value) (v : Value) :
  ReflectliteValue.method z f #[v] = (do match ← ReflectliteValue.parts v with | none => z | some (t, a, fl) => f t a fl (fl % 32)) := rfl
theorem partsPP (a : Addr) (w : World) : (ReflectliteValue.parts (.agg #[.pointer (some ⟨22, 127, none⟩), .pointer (some a), .int .u64 150])).run Tryz.prog w = .ok (some (127, a, 150)) w := by kernel_rfl
theorem isNilPP (a p : Addr) (W : World) (ha : W.cell? a = some (.pointer (some p))) :
  (ReflectliteValue.method (ReflectliteValue.valueError "reflectlite.Value.IsNil" 0) ReflectliteValue.isNil #[.agg #[.pointer (some ⟨22, 127, none⟩), .pointer (some a), .int .u64 150]]).run Tryz.prog W = .ok (.bool false) W := by
 rw [rlm]
 simp only [Sem.run_bind, partsPP, Result.andThen]
 simp [ReflectliteValue.isNil, loadVar, isAgg, underlying, Tryz.underlying127, ha, Result.andThen]
theorem xIsNilPP (a p : Addr) (W : World) (ha : W.cell? a = some (.pointer (some p))) :
  (callFunc 110 #[.agg #[.pointer (some ⟨22, 127, none⟩), .pointer (some a), .int .u64 150]]).run Tryz.prog W = .ok (.value (.bool false)) W := by
 rw [@run_callFunc_extern Tryz.prog 110 _ (ReflectliteValue.method (ReflectliteValue.valueError "reflectlite.Value.IsNil" 0) ReflectliteValue.isNil) Tryz.func110 (by kernel_rfl) (by kernel_rfl) (by kernel_rfl) (by kernel_rfl), isNilPP a p W ha]
 rfl
theorem elemOfPP (w : World) : (Rtype.elem? 127).run Tryz.prog w = .ok (some 66) w := by kernel_rfl
theorem mkP (p : Addr) (w : World) : (ReflectliteValue.mk 66 p ReflectliteValue.flagAddr).run Tryz.prog w = .ok (.agg #[.pointer (some ⟨22, 66, none⟩), .pointer (some p), .int .u64 406]) w := by kernel_rfl
theorem elemVPP (a p : Addr) (W : World) (ha : W.cell? a = some (.pointer (some p))) :
  (ReflectliteValue.method (ReflectliteValue.valueError "reflectlite.Value.Elem" 0) ReflectliteValue.elem #[.agg #[.pointer (some ⟨22, 127, none⟩), .pointer (some a), .int .u64 150]]).run Tryz.prog W
   = .ok (.agg #[.pointer (some ⟨22, 66, none⟩), .pointer (some p), .int .u64 406]) W := by
 rw [rlm]
 simp only [Sem.run_bind, partsPP, Result.andThen]
 simp [ReflectliteValue.elem, loadVar, isAgg, underlying, Tryz.underlying127, ha, Result.andThen, elemOfPP, mkP]
theorem xElemVPP (a p : Addr) (W : World) (ha : W.cell? a = some (.pointer (some p))) :
  (callFunc 134 #[.agg #[.pointer (some ⟨22, 127, none⟩), .pointer (some a), .int .u64 150]]).run Tryz.prog W = .ok (.value (.agg #[.pointer (some ⟨22, 66, none⟩), .pointer (some p), .int .u64 406])) W := by
 rw [@run_callFunc_extern Tryz.prog 134 _ (ReflectliteValue.method (ReflectliteValue.valueError "reflectlite.Value.Elem" 0) ReflectliteValue.elem) Tryz.func134 (by kernel_rfl) (by kernel_rfl) (by kernel_rfl) (by kernel_rfl), elemVPP a p W ha]
 rfl
theorem rls (v x : Value) : ReflectliteValue.set #[v, x] = (do
  let (some (dst, a, fl), some (src, b, _)) := (← ReflectliteValue.parts v, ← ReflectliteValue.parts x)
   | unsupported (.noEntry "extern/(internal/reflectlite.Value).Set.zeroValue")
  if fl / ReflectliteValue.flagAddr % 2 == 0 then unsupported (.noEntry "extern/(internal/reflectlite.Value).Set.unaddressable")
  let val ← loadVar src b
  if ← Rtype.directlyAssignable dst src then storeVar dst a val
  else if ← Rtype.implements dst src then
   if (← Rtype.kind src) == 20 then
    match val with
    | .nilIface => unsupported (.noEntry "extern/reflectlite: a nil value of one interface type handed on as a value of another")
    | _ => storeVar dst a val
   else storeVar dst a (.iface src val)
  else panicString ("reflectlite.Set: value of type " ++ (← Rtype.spelt src) ++ " is not assignable to type " ++ (← Rtype.spelt dst))
  pure (.tuple #[])) := rfl
theorem partsPa (a : Addr) (w : World) : (ReflectliteValue.parts (.agg #[.pointer (some ⟨22, 66, none⟩), .pointer (some a), .int .u64 406])).run Tryz.prog w = .ok (some (66, a, 406)) w := by kernel_rfl
theorem partsP (a : Addr) (w : World) : (ReflectliteValue.parts (.agg #[.pointer (some ⟨22, 66, none⟩), .pointer (some a), .int .u64 150])).run Tryz.prog w = .ok (some (66, a, 150)) w := by kernel_rfl
theorem directP (w : World) : (Rtype.directlyAssignable 66 66).run Tryz.prog w = .ok true w := by kernel_rfl
theorem setP (ta b e : Addr) (old : Value) (W : World) (hb : W.cell? b = some (.pointer (some e))) (ht : W.cell? ta = some old) (hf : W.frozen? ta = false) :
  (ReflectliteValue.set #[.agg #[.pointer (some ⟨22, 66, none⟩), .pointer (some ta), .int .u64 406], .agg #[.pointer (some ⟨22, 66, none⟩), .pointer (some b), .int .u64 150]]).run Tryz.prog W
   = .ok (.tuple #[]) (W.setCell ta (.pointer (some e))) := by
 rw [rls]
 simp only [Sem.run_bind, partsPa, partsP, Result.andThen]
 simp [ReflectliteValue.flagAddr, loadVar, isAgg, underlying, Tryz.underlying66, hb, Result.andThen, directP, storeVar, Value.cells, storeCells, Addr.add]
 rw [run_store Tryz.prog W ta _ _ (by rfl)]
 simp [ht, hf]
theorem xSetP (ta b e : Addr) (old : Value) (W : World) (hb : W.cell? b = some (.pointer (some e))) (ht : W.cell? ta = some old) (hf : W.frozen? ta = false) :
  (callFunc 135 #[.agg #[.pointer (some ⟨22, 66, none⟩), .pointer (some ta), .int .u64 406], .agg #[.pointer (some ⟨22, 66, none⟩), .pointer (some b), .int .u64 150]]).run Tryz.prog W
   = .ok (.value (.tuple #[])) (W.setCell ta (.pointer (some e))) := by
 rw [@run_callFunc_extern Tryz.prog 135 _ ReflectliteValue.set Tryz.func135 (by kernel_rfl) (by kernel_rfl) (by kernel_rfl) (by kernel_rfl), setP ta b e old W hb ht hf]
 rfl
end Go.Proofs.YtgcmfpcgmkkobaaGreatDoor
namespace Go.Proofs.YtgcmfpcgmkkobaaGreatDoor
open Go.RowKit Go.Extern.Stop Go.Stop Go.Extern

theorem lt_of_block' {w : World} {p : Addr} {v : Value} (h : w.cell? p = some v) : p.block < w.heap.size := by
 unfold World.cell? at h
 cases hb : w.heap[p.block]? with
 | none => rw [hb] at h; simp at h
 | some o => exact lt_of_block hb

abbrev asW (w : World) (t : Addr) : World := ((w.alloc (.cells #[.pointer (some t)] 127)).alloc (.cells #[.pointer (some ⟨22, 127, none⟩), .pointer (some ⟨w.heap.size, 0, none⟩), .int .u64 150] 153))

set_option maxHeartbeats 4000000 in
theorem as_miss (v : Value) (t : Addr) (w : World) (hg : w.cell? ⟨8, 0, none⟩ = some (.iface 184 (.agg #[.pointer (some ⟨22, 30, none⟩)]))) :
  Calls Tryz.prog 87 #[.iface 246 v, .iface 127 (.pointer (some t))] w fun ev w' => ev = .returned (.bool false) ∧ Chg NoB w w' := by
 have hlt : 8 < w.heap.size := lt_of_block' hg
 have f6 := xValueOfPP
 have f7 := xTypePP
 have mK := xMethodKind
 have mE := xMethodElem
 have mI := xMethodImplements
 have mA := xMethodAssignableTo
 have k27 := xKindPP
 have k25 := xKindP
 have e27 := xElemPP
 have i25 := xImplements
 have aE := xAssignEP
 have tE := xTypeOfE
 have nA := noAsE
 have uE := noUnwrapE
 have vE := noUnwrapsE
 have n8 := xIsNilPP ⟨w.heap.size, 0, none⟩ t (asW w t) (by simp [asW])
 have hg2 : (asW w t).cell? ⟨8, 0, none⟩ = some (.iface 184 (.agg #[.pointer (some ⟨22, 30, none⟩)])) := by
  unfold asW
  rw [World.cell?_alloc_lt _ _ ⟨8, 0, none⟩ (by simp; omega), World.cell?_alloc_lt _ _ ⟨8, 0, none⟩ hlt]; exact hg
 unfold asW at n8 hg2
 go_enter Tryz.func87, Tryz.ntmps87
 go_wp2
 refine wp_loop_rounds 1 ?_
 rw [rounds_succ]
 go_wp2
 go_ret
 exact ⟨rfl, (((Chg.refl NoB w).alloc _).alloc _).alloc _⟩

set_option maxHeartbeats 4000000 in
theorem as_hit (e t : Addr) (old : Value) (w : World) (hg : w.cell? ⟨8, 0, none⟩ = some (.iface 184 (.agg #[.pointer (some ⟨22, 30, none⟩)]))) (ht0 : w.cell? t = some old) (hf0 : w.frozen? t = false) :
  Calls Tryz.prog 87 #[.iface 66 (.pointer (some e)), .iface 127 (.pointer (some t))] w fun ev w' => ev = .returned (.bool true) ∧
   w' = (((asW w t).alloc (.cells #[.pointer (some ⟨22, 127, none⟩), .pointer (some ⟨w.heap.size, 0, none⟩), .int .u64 150] 153)).alloc (.cells #[.pointer (some e)] 66)).setCell t (.pointer (some e)) := by
 have hlt : 8 < w.heap.size := lt_of_block' hg
 have htl : t.block < w.heap.size := lt_of_block' ht0
 have f6 := xValueOfPP
 have fP := xValueOfP
 have f7 := xTypePP
 have mK := xMethodKind
 have mE := xMethodElem
 have mI := xMethodImplements
 have mA := xMethodAssignableTo
 have k27 := xKindPP
 have k25 := xKindP
 have e27 := xElemPP
 have i25 := xImplements
 have aP := xAssignPP
 have tP := xTypeOfF
 have n8 := xIsNilPP ⟨w.heap.size, 0, none⟩ t (asW w t) (by simp [asW])
 have hg2 : (asW w t).cell? ⟨8, 0, none⟩ = some (.iface 184 (.agg #[.pointer (some ⟨22, 30, none⟩)])) := by
  unfold asW
  rw [World.cell?_alloc_lt _ _ ⟨8, 0, none⟩ (by simp; omega), World.cell?_alloc_lt _ _ ⟨8, 0, none⟩ hlt]; exact hg
 have el := xElemVPP ⟨w.heap.size, 0, none⟩ t ((asW w t).alloc (.cells #[.pointer (some ⟨22, 127, none⟩), .pointer (some ⟨w.heap.size, 0, none⟩), .int .u64 150] 153)) (by rw [World.cell?_alloc_lt _ _ ⟨w.heap.size, 0, none⟩ (by simp [asW]; omega)]; simp [asW])
 have st := xSetP t ⟨w.heap.size + 1 + 1 + 1, 0, none⟩ e old (((asW w t).alloc (.cells #[.pointer (some ⟨22, 127, none⟩), .pointer (some ⟨w.heap.size, 0, none⟩), .int .u64 150] 153)).alloc (.cells #[.pointer (some e)] 66))
  (by rw [World.cell?_alloc_at _ _ _ _ (by simp [asW])]; rfl)
  (by rw [World.cell?_alloc_lt _ _ t (by simp [asW]; omega), World.cell?_alloc_lt _ _ t (by simp [asW]; omega)]; unfold asW; rw [World.cell?_alloc_lt _ _ t (by simp; omega), World.cell?_alloc_lt _ _ t htl]; exact ht0)
  (by rw [World.frozen?_alloc_old _ _ t (by simp [asW]; omega), World.frozen?_alloc_old _ _ t (by simp [asW]; omega)]; unfold asW; rw [World.frozen?_alloc_old _ _ t (by simp; omega), World.frozen?_alloc_old _ _ t (Nat.ne_of_lt htl)]; exact hf0)
 unfold asW at n8 hg2 el st ⊢
 go_enter Tryz.func87, Tryz.ntmps87
 go_wp2
 refine wp_loop_rounds 1 ?_
 rw [rounds_succ]
 go_wp2
 go_ret
 exact ⟨rfl, rfl⟩
end Go.Proofs.YtgcmfpcgmkkobaaGreatDoor
namespace Go.Proofs.YtgcmfpcgmkkobaaGreatDoor
open Go.RowKit

/-- Where the eight errors lie, in plain.Code's order. -/
def sg : List Nat := [2, 0, 5, 1, 4, 3, 6, 7]
def sv (a : Addr) : Value := .iface 246 (.pointer (some a))
structure Sents (w : World) (A : Nat → Addr) : Prop where
 cell : ∀ i g, sg[i]? = some g → w.cell? ⟨g, 0, none⟩ = some (sv (A i))
 row : ∀ i, i < 8 → ∃ c t, w.heap[(A i).block]? = some (.cells c t (0, 0))
 ne : ∀ i j, i < 8 → j < 8 → i ≠ j → A i ≠ A j
 ty : w.cell? ⟨8, 0, none⟩ = some (.iface 184 (.agg #[.pointer (some ⟨22, 30, none⟩)]))
theorem Sents.keep0 {w w' : World} {A : Nat → Addr} (h : Sents w A) (hc : Chg NoB w w') : Sents w' A where
 cell := fun i g hg => (hc.cell (lt_of_block' (h.cell i g hg)) NoB.elim).trans (h.cell i g hg)
 row := fun i hi => by
  obtain ⟨c, t, hr⟩ := h.row i hi
  exact ⟨c, t, hc.at hr NoB.elim⟩
 ne := h.ne
 ty := (hc.cell (lt_of_block' h.ty) NoB.elim).trans h.ty

/-- An error, and what plain.Code says of it. -/
inductive Told (w : World) (A : Nat → Addr) : Value → Int → Int → Prop
 | nil : Told w A .nilIface 0 (-1)
 | sent (i : Nat) (hi : i < 8) : Told w A (sv (A i)) ((i : Int) + 1) (-1)
 | fault (p i : Nat) (at' : Int) (hi : i < 8) (h0 : w.cell? ⟨p, 0, none⟩ = some (.int .i64 at')) (h1 : w.cell? ⟨p, 1, none⟩ = some (sv (A i))) (hb : -9223372036854775808 ≤ at' ∧ at' ≤ 9223372036854775807) :
  Told w A (.iface 66 (.pointer (some ⟨p, 0, none⟩))) ((i : Int) + 1) at'
def RetCode (n at' : Int) (w : World) (en : Ending) (w' : World) : Prop := en = .returned (.tuple #[.int .i64 n, .int .i64 at']) ∧ Chg NoB w w'

/-- What errors.Is answers of the error, at each of the eight. -/
def IsAt (A : Nat → Addr) (v : Value) (i : Nat) (w : World) : Prop := ∀ j w', j < 8 → Chg NoB w w' → Calls Tryz.prog 88 #[v, sv (A j)] w' fun e w'' => e = .returned (.bool (decide (j = i))) ∧ w'' = w'
theorem isAt_sent {w : World} {A : Nat → Addr} (h : Sents w A) {i : Nat} (hi : i < 8) : IsAt A (sv (A i)) i w := fun j w' hj hc => by
 by_cases hji : j = i
 ·subst hji
  simp only [decide_true]
  exact is_same (A j) w'
 ·simp only [hji, decide_false]
  obtain ⟨c, t, hr⟩ := (h.keep0 hc).row i hi
  obtain ⟨c2, t2, hr2⟩ := (h.keep0 hc).row j hj
  exact is_other (A i) (A j) c c2 t t2 w' (h.ne i j hi hj (fun e => hji e.symm)) hr hr2
theorem isAt_fault {w : World} {A : Nat → Addr} (h : Sents w A) {i p : Nat} (hi : i < 8) (h1 : w.cell? ⟨p, 1, none⟩ = some (sv (A i))) : IsAt A (.iface 66 (.pointer (some ⟨p, 0, none⟩))) i w := fun j w' hj hc => by
 have h1' : w'.cell? ⟨p, 1, none⟩ = some (sv (A i)) := (hc.cell (lt_of_block' h1) NoB.elim).trans h1
 by_cases hji : j = i
 ·subst hji
  simp only [decide_true]
  exact is_fault_same p (A j) w' h1'
 ·simp only [hji, decide_false]
  obtain ⟨c, t, hr⟩ := (h.keep0 hc).row i hi
  obtain ⟨c2, t2, hr2⟩ := (h.keep0 hc).row j hj
  exact is_fault_other p (A j) (A i) c c2 t t2 w' h1' (h.ne i j hi hj (fun e => hji e.symm)) hr hr2

def codeArr (A : Nat → Addr) : List Value := [.iface 246 (.pointer (some (A 0))), .iface 246 (.pointer (some (A 1))), .iface 246 (.pointer (some (A 2))), .iface 246 (.pointer (some (A 3))), .iface 246 (.pointer (some (A 4))), .iface 246 (.pointer (some (A 5))), .iface 246 (.pointer (some (A 6))), .iface 246 (.pointer (some (A 7)))]
theorem codeArr_get (A : Nat → Addr) : ∀ {j : Nat}, j < 8 → (codeArr A)[j]? = some (sv (A j))
 | 0, _ => rfl
 | 1, _ => rfl
 | 2, _ => rfl
 | 3, _ => rfl
 | 4, _ => rfl
 | 5, _ => rfl
 | 6, _ => rfl
 | 7, _ => rfl
 | j + 8, h => by omega
def CodeRel (w : World) (A : Nat → Addr) (arr i : Nat) (t : Int) (va vi : Value) (wr : World) : Prop :=
 ∃ j : Nat, j ≤ i ∧ va = .int .i64 t ∧ vi = .int .i64 (j : Nat) ∧ Chg NoB w wr ∧ Blk wr arr (codeArr A) 30

set_option maxHeartbeats 1000000 in
theorem code_any (v : Value) (n at' : Int) (w : World) (A : Nat → Addr) (hS : Sents w A) (ht : Told w A v n at') :
  Calls Tryz.prog 47 #[v] w (RetCode n at' w) := by
 cases ht with
 | nil =>
  go_enter Tryz.func47, Tryz.ntmps47
  go_wp2_with fail
  exact bodyPost_ret (v := .tuple #[.int .i64 0, .int .i64 (-1)]) (by simp [results, Tryz.results47, go_sem]) rfl ⟨rfl, Chg.refl _ _⟩
 | sent i hi =>
  have hIs := isAt_sent hS hi
  go_enter Tryz.func47, Tryz.ntmps47
  unfold sv
  go_wp2_with fail
  generalize hw1 : w.alloc _ = w1
  have hc1 : Chg NoB w w1 := by
   rw [← hw1]
   repeat (first | exact Chg.refl _ _ | apply Chg.alloc | apply Chg.drew)
  clear hw1
  refine (as_miss _ _ w1 (hS.keep0 hc1).ty).mono ?_
  rintro en w2 ⟨rfl, hc2⟩
  replace hc2 := hc1.tr hc2
  have hS2 := hS.keep0 hc2
  have g0 := hS2.cell 0 _ rfl
  have g1 := hS2.cell 1 _ rfl
  have g2 := hS2.cell 2 _ rfl
  have g3 := hS2.cell 3 _ rfl
  have g4 := hS2.cell 4 _ rfl
  have g5 := hS2.cell 5 _ rfl
  have g6 := hS2.cell 6 _ rfl
  have g7 := hS2.cell 7 _ rfl
  unfold sv at g0 g1 g2 g3 g4 g5 g6 g7
  go_wp2_with fail
  generalize hwA : World.alloc _ _ = wA
  have hcA : Chg NoB w2 wA := by
   rw [← hwA]
   repeat (first | exact Chg.refl _ _ | apply Chg.alloc | apply Chg.drew)
  have hbA : Blk wA (w2.heap.size) (codeArr A) 30 := by
   rw [← hwA]
   repeat (first | exact Blk.newAt (by first | rfl | (simp; done) | (simp; omega)) | apply Blk.alloc | apply Blk.drew)
  clear hwA g0 g1 g2 g3 g4 g5 g6 g7
  have hcA0 := hc2.tr hcA
  go_loopw [3, 26] (fun va vi wr => CodeRel w A w2.heap.size i (-1) va vi wr) (fun _ vi _ => 8 - (intOf vi).toNat)
  case atStart => exact ⟨0, Nat.zero_le _, rfl, rfl, hcA0, hbA⟩
  case round =>
   obtain ⟨j, hj, rfl, rfl, hcr, hbr⟩ := hrel
   have hj8 : j < 8 := by omega
   have ej : wr.cell? ⟨w2.heap.size, j, none⟩ = some (sv (A j)) := (hbr.cell j).trans (codeArr_get A hj8)
   unfold sv at ej
   have hIj := hIs j
   by_cases hji : j = i
   ·subst hji
    go_wp2_with fail
    refine (hIj _ hj8 hcr).mono ?_
    rintro en w5 ⟨rfl, rfl⟩
    simp only [decide_true]
    clear hIj
    go_wp2_with fail
    exact bodyPost_ret (v := .tuple #[.int .i64 ((j : Int) + 1), .int .i64 (-1)]) (by simp [results, Tryz.results47, go_sem]) rfl ⟨rfl, hcr⟩
   ·go_wp2_with fail
    refine (hIj _ hj8 hcr).mono ?_
    rintro en w5 ⟨rfl, rfl⟩
    simp only [hji, decide_false]
    clear hIj
    go_wp2_with fail
    go_roundw
    case rel => exact ⟨j + 1, by omega, rfl, by go_num, hcr, hbr⟩
    case measure => simp [intOf]; omega
 | fault p i _ hi h0 h1 hb =>
  have hIs := isAt_fault hS hi h1
  go_enter Tryz.func47, Tryz.ntmps47
  go_wp2_with fail
  generalize hw1 : w.alloc _ = w1
  have hc1 : Chg NoB w w1 := by
   rw [← hw1]
   repeat (first | exact Chg.refl _ _ | apply Chg.alloc | apply Chg.drew)
  have hf1 : Blk w1 (w.heap.size) ([.pointer none]) 66 := by
   rw [← hw1]
   repeat (first | exact Blk.newAt (by first | rfl | (simp; done) | (simp; omega)) | apply Blk.alloc | apply Blk.drew)
  clear hw1
  have hlp := lt_of_block' h0
  simp only at hlp
  refine (as_hit ⟨p, 0, none⟩ ⟨w.heap.size, 0, none⟩ (.pointer none) w1 (hS.keep0 hc1).ty (hf1.cell 0) (hf1.free 0)).mono ?_
  rintro en w2 ⟨rfl, hw2⟩
  have hc2 : Chg NoB w w2 := by
   rw [hw2]
   unfold asW
   exact ((((hc1.alloc _).alloc _).alloc _).alloc _).setCell (.inr (Nat.le_refl _)) _
  have hf2 : Blk w2 w.heap.size [.pointer (some ⟨p, 0, none⟩)] 66 := by
   rw [hw2]
   unfold asW
   exact ((((hf1.alloc _).alloc _).alloc _).alloc _).set 0 _
  clear hw2
  have hS2 := hS.keep0 hc2
  have q0 : w2.cell? ⟨w.heap.size, 0, none⟩ = some (.pointer (some ⟨p, 0, none⟩)) := hf2.cell 0
  have q1 : w2.cell? ⟨p, 0, none⟩ = some (.int .i64 at') := (hc2.cell (p := ⟨p, 0, none⟩) hlp NoB.elim).trans h0
  have g0 := hS2.cell 0 _ rfl
  have g1 := hS2.cell 1 _ rfl
  have g2 := hS2.cell 2 _ rfl
  have g3 := hS2.cell 3 _ rfl
  have g4 := hS2.cell 4 _ rfl
  have g5 := hS2.cell 5 _ rfl
  have g6 := hS2.cell 6 _ rfl
  have g7 := hS2.cell 7 _ rfl
  unfold sv at g0 g1 g2 g3 g4 g5 g6 g7
  go_wp2_with fail
  generalize hwA : World.alloc _ _ = wA
  have hcA : Chg NoB w2 wA := by
   rw [← hwA]
   repeat (first | exact Chg.refl _ _ | apply Chg.alloc | apply Chg.drew)
  have hbA : Blk wA (w2.heap.size) (codeArr A) 30 := by
   rw [← hwA]
   repeat (first | exact Blk.newAt (by first | rfl | (simp; done) | (simp; omega)) | apply Blk.alloc | apply Blk.drew)
  clear hwA g0 g1 g2 g3 g4 g5 g6 g7
  have hcA0 := hc2.tr hcA
  go_loopw [3, 26] (fun va vi wr => CodeRel w A w2.heap.size i (at') va vi wr) (fun _ vi _ => 8 - (intOf vi).toNat)
  case atStart => exact ⟨0, Nat.zero_le _, rfl, rfl, hcA0, hbA⟩
  case round =>
   obtain ⟨j, hj, rfl, rfl, hcr, hbr⟩ := hrel
   have hj8 : j < 8 := by omega
   have ej : wr.cell? ⟨w2.heap.size, j, none⟩ = some (sv (A j)) := (hbr.cell j).trans (codeArr_get A hj8)
   unfold sv at ej
   have hIj := hIs j
   by_cases hji : j = i
   ·subst hji
    go_wp2_with fail
    refine (hIj _ hj8 hcr).mono ?_
    rintro en w5 ⟨rfl, rfl⟩
    simp only [decide_true]
    clear hIj
    go_wp2_with fail
    exact bodyPost_ret (v := .tuple #[.int .i64 ((j : Int) + 1), .int .i64 (at')]) (by simp [results, Tryz.results47, go_sem]) rfl ⟨rfl, hcr⟩
   ·go_wp2_with fail
    refine (hIj _ hj8 hcr).mono ?_
    rintro en w5 ⟨rfl, rfl⟩
    simp only [hji, decide_false]
    clear hIj
    go_wp2_with fail
    go_roundw
    case rel => exact ⟨j + 1, by omega, rfl, by go_num, hcr, hbr⟩
    case measure => simp [intOf]; omega
end Go.Proofs.YtgcmfpcgmkkobaaGreatDoor
