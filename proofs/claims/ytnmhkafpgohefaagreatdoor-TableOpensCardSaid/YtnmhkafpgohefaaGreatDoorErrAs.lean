/-
  errors.As at a target of type **api.Fault: an error of errors.New's make is none; an api.Fault is one.
-/
import Derived.Test.YtnmhkafpgohefaaGreatDoorErrs
set_option linter.unusedVariables false
set_option linter.unusedSimpArgs false
namespace Go.Proofs.YtnmhkafpgohefaaGreatDoor
open Go.RowKit Go.Extern.Stop Go.Stop Go.Extern
abbrev hP : Value := .pointer (some ⟨22, 84, none⟩)
abbrev hE : Value := .pointer (some ⟨22, 272, none⟩)
theorem xValueOfPP (t : Addr) (w : World) : (callFunc 70 #[.iface 89 (.pointer (some t))]).run Tryz.prog w = .ok (.value (.agg #[.pointer (some ⟨22, 89, none⟩), .pointer (some ⟨w.heap.size, 0, none⟩), .int .u64 150])) (w.alloc (.cells #[.pointer (some t)] 89)) := by kernel_rfl
theorem xValueOfP (t : Addr) (w : World) : (callFunc 70 #[.iface 84 (.pointer (some t))]).run Tryz.prog w = .ok (.value (.agg #[.pointer (some ⟨22, 84, none⟩), .pointer (some ⟨w.heap.size, 0, none⟩), .int .u64 150])) (w.alloc (.cells #[.pointer (some t)] 84)) := by kernel_rfl
theorem xTypePP (a : Addr) (w : World) : (callFunc 71 #[.agg #[.pointer (some ⟨22, 89, none⟩), .pointer (some a), .int .u64 150]]).run Tryz.prog w = .ok (.value (.iface 187 (.agg #[.pointer (some ⟨22, 89, none⟩)]))) w := by kernel_rfl
theorem xMethodKind (h : Value) (w : World) : (Go.method 418 187 (.agg #[h]) "Kind").run Tryz.prog w = .ok (211, h) w := by kernel_rfl
theorem xMethodElem (h : Value) (w : World) : (Go.method 418 187 (.agg #[h]) "Elem").run Tryz.prog w = .ok (225, .agg #[h]) w := by kernel_rfl
theorem xMethodImplements (h : Value) (w : World) : (Go.method 418 187 (.agg #[h]) "Implements").run Tryz.prog w = .ok (226, .agg #[h]) w := by kernel_rfl
theorem xMethodAssignableTo (h : Value) (w : World) : (Go.method 418 187 (.agg #[h]) "AssignableTo").run Tryz.prog w = .ok (223, .agg #[h]) w := by kernel_rfl
theorem xKindPP (w : World) : (callFunc 211 #[.pointer (some ⟨22, 89, none⟩)]).run Tryz.prog w = .ok (.value (.int .u8 22)) w := by kernel_rfl
theorem xKindP (w : World) : (callFunc 211 #[.pointer (some ⟨22, 84, none⟩)]).run Tryz.prog w = .ok (.value (.int .u8 22)) w := by kernel_rfl
theorem xElemPP (w : World) : (callFunc 225 #[.agg #[.pointer (some ⟨22, 89, none⟩)]]).run Tryz.prog w = .ok (.value (.iface 187 (.agg #[.pointer (some ⟨22, 84, none⟩)]))) w := by kernel_rfl
theorem xImplements (w : World) : (callFunc 226 #[.agg #[.pointer (some ⟨22, 84, none⟩)], .iface 187 (.agg #[.pointer (some ⟨22, 25, none⟩)])]).run Tryz.prog w = .ok (.value (.bool true)) w := by kernel_rfl
theorem xAssignPP (w : World) : (callFunc 223 #[.agg #[.pointer (some ⟨22, 84, none⟩)], .iface 187 (.agg #[.pointer (some ⟨22, 84, none⟩)])]).run Tryz.prog w = .ok (.value (.bool true)) w := by kernel_rfl
theorem xAssignEP (w : World) : (callFunc 223 #[.agg #[.pointer (some ⟨22, 272, none⟩)], .iface 187 (.agg #[.pointer (some ⟨22, 84, none⟩)])]).run Tryz.prog w = .ok (.value (.bool false)) w := by kernel_rfl
theorem rlm (z : Sem Value) (f : TypeId → Addr → Nat → Nat → Sem Value) (v : Value) :
  ReflectliteValue.method z f #[v] = (do match ← ReflectliteValue.parts v with | none => z | some (t, a, fl) => f t a fl (fl % 32)) := rfl
theorem partsPP (a : Addr) (w : World) : (ReflectliteValue.parts (.agg #[.pointer (some ⟨22, 89, none⟩), .pointer (some a), .int .u64 150])).run Tryz.prog w = .ok (some (89, a, 150)) w := by kernel_rfl
theorem isNilPP (a p : Addr) (W : World) (ha : W.cell? a = some (.pointer (some p))) :
  (ReflectliteValue.method (ReflectliteValue.valueError "reflectlite.Value.IsNil" 0) ReflectliteValue.isNil #[.agg #[.pointer (some ⟨22, 89, none⟩), .pointer (some a), .int .u64 150]]).run Tryz.prog W = .ok (.bool false) W := by
 rw [rlm]
 simp only [Sem.run_bind, partsPP, Result.andThen]
 simp [ReflectliteValue.isNil, loadVar, isAgg, underlying, Tryz.underlying89, ha, Result.andThen]
theorem xIsNilPP (a p : Addr) (W : World) (ha : W.cell? a = some (.pointer (some p))) :
  (callFunc 72 #[.agg #[.pointer (some ⟨22, 89, none⟩), .pointer (some a), .int .u64 150]]).run Tryz.prog W = .ok (.value (.bool false)) W := by
 rw [@run_callFunc_extern Tryz.prog 72 _ (ReflectliteValue.method (ReflectliteValue.valueError "reflectlite.Value.IsNil" 0) ReflectliteValue.isNil) Tryz.func72 (by kernel_rfl) (by kernel_rfl) (by kernel_rfl) (by kernel_rfl), isNilPP a p W ha]
 rfl
theorem elemOfPP (w : World) : (Rtype.elem? 89).run Tryz.prog w = .ok (some 84) w := by kernel_rfl
theorem mkP (p : Addr) (w : World) : (ReflectliteValue.mk 84 p ReflectliteValue.flagAddr).run Tryz.prog w = .ok (.agg #[.pointer (some ⟨22, 84, none⟩), .pointer (some p), .int .u64 406]) w := by kernel_rfl
theorem elemVPP (a p : Addr) (W : World) (ha : W.cell? a = some (.pointer (some p))) :
  (ReflectliteValue.method (ReflectliteValue.valueError "reflectlite.Value.Elem" 0) ReflectliteValue.elem #[.agg #[.pointer (some ⟨22, 89, none⟩), .pointer (some a), .int .u64 150]]).run Tryz.prog W
   = .ok (.agg #[.pointer (some ⟨22, 84, none⟩), .pointer (some p), .int .u64 406]) W := by
 rw [rlm]
 simp only [Sem.run_bind, partsPP, Result.andThen]
 simp [ReflectliteValue.elem, loadVar, isAgg, underlying, Tryz.underlying89, ha, Result.andThen, elemOfPP, mkP]
theorem xElemVPP (a p : Addr) (W : World) (ha : W.cell? a = some (.pointer (some p))) :
  (callFunc 114 #[.agg #[.pointer (some ⟨22, 89, none⟩), .pointer (some a), .int .u64 150]]).run Tryz.prog W = .ok (.value (.agg #[.pointer (some ⟨22, 84, none⟩), .pointer (some p), .int .u64 406])) W := by
 rw [@run_callFunc_extern Tryz.prog 114 _ (ReflectliteValue.method (ReflectliteValue.valueError "reflectlite.Value.Elem" 0) ReflectliteValue.elem) Tryz.func114 (by kernel_rfl) (by kernel_rfl) (by kernel_rfl) (by kernel_rfl), elemVPP a p W ha]
 rfl
theorem rls (v x : Value) : ReflectliteValue.set #[v, x] = (do
  let (some (dst, a, fl), some (src, b, _)) := (← ReflectliteValue.parts v, ← ReflectliteValue.parts x)
   | unsupported (.noEntry "extern/(internal/reflectlite.Value).Set.zeroValue")
  if fl / ReflectliteValue.flagAddr % 2 == 0 then unsupported (.noEntry "extern/(internal/reflectlite.Value).Set.unaddressable")
  let val ← loadVar src b
  if ← Rtype.directlyAssignable dst src then storeVar dst a val
  else if ← Rtype.implements dst src then
   if (← Rtype.kind src) == 20 then
    match val with
    | .nilIface => unsupported (.noEntry "extern/reflectlite: a nil value of one interface type handed on as a value of another")
    | _ => storeVar dst a val
   else storeVar dst a (.iface src val)
  else panicString ("reflectlite.Set: value of type " ++ (← Rtype.spelt src) ++ " is not assignable to type " ++ (← Rtype.spelt dst))
  pure (.tuple #[])) := rfl
theorem partsPa (a : Addr) (w : World) : (ReflectliteValue.parts (.agg #[.pointer (some ⟨22, 84, none⟩), .pointer (some a), .int .u64 406])).run Tryz.prog w = .ok (some (84, a, 406)) w := by kernel_rfl
theorem partsP (a : Addr) (w : World) : (ReflectliteValue.parts (.agg #[.pointer (some ⟨22, 84, none⟩), .pointer (some a), .int .u64 150])).run Tryz.prog w = .ok (some (84, a, 150)) w := by kernel_rfl
theorem directP (w : World) : (Rtype.directlyAssignable 84 84).run Tryz.prog w = .ok true w := by kernel_rfl
theorem setP (ta b e : Addr) (old : Value) (W : World) (hb : W.cell? b = some (.pointer (some e))) (ht : W.cell? ta = some old) (hf : W.frozen? ta = false) :
  (ReflectliteValue.set #[.agg #[.pointer (some ⟨22, 84, none⟩), .pointer (some ta), .int .u64 406], .agg #[.pointer (some ⟨22, 84, none⟩), .pointer (some b), .int .u64 150]]).run Tryz.prog W
   = .ok (.tuple #[]) (W.setCell ta (.pointer (some e))) := by
 rw [rls]
 simp only [Sem.run_bind, partsPa, partsP, Result.andThen]
 simp [ReflectliteValue.flagAddr, loadVar, isAgg, underlying, Tryz.underlying84, hb, Result.andThen, directP, storeVar, Value.cells, storeCells, Addr.add]
 rw [run_store Tryz.prog W ta _ _ (by rfl)]
 simp [ht, hf]
theorem xSetP (ta b e : Addr) (old : Value) (W : World) (hb : W.cell? b = some (.pointer (some e))) (ht : W.cell? ta = some old) (hf : W.frozen? ta = false) :
  (callFunc 115 #[.agg #[.pointer (some ⟨22, 84, none⟩), .pointer (some ta), .int .u64 406], .agg #[.pointer (some ⟨22, 84, none⟩), .pointer (some b), .int .u64 150]]).run Tryz.prog W
   = .ok (.value (.tuple #[])) (W.setCell ta (.pointer (some e))) := by
 rw [@run_callFunc_extern Tryz.prog 115 _ ReflectliteValue.set Tryz.func115 (by kernel_rfl) (by kernel_rfl) (by kernel_rfl) (by kernel_rfl), setP ta b e old W hb ht hf]
 rfl
end Go.Proofs.YtnmhkafpgohefaaGreatDoor
