/-
  errors.As by its contracts: nil, an error of errors.New's make: none; an api.Fault: found.
-/
import Derived.Test.YtnmhkafpgohefaaGreatDoorErrAs
set_option linter.unusedVariables false
set_option maxHeartbeats 20000000
set_option maxRecDepth 100000
set_option linter.unusedSimpArgs false
namespace Go.Proofs.YtnmhkafpgohefaaGreatDoor
open Go.RowKit Go.Extern.Stop Go.Stop Go.Extern
theorem lt_of_block' {w : World} {p : Addr} {v : Value} (h : w.cell? p = some v) : p.block < w.heap.size := by
 unfold World.cell? at h
 cases hb : w.heap[p.block]? with
 | none => rw [hb] at h; simp at h
 | some o => exact lt_of_block hb
abbrev asW (w : World) (t : Addr) : World := ((w.alloc (.cells #[.pointer (some t)] 89)).alloc (.cells #[.pointer (some ⟨22, 89, none⟩), .pointer (some ⟨w.heap.size, 0, none⟩), .int .u64 150] 138))
theorem as_miss (v : Value) (t : Addr) (w : World) (hg : w.cell? ⟨9, 0, none⟩ = some (.iface 187 (.agg #[.pointer (some ⟨22, 25, none⟩)]))) :
  Calls Tryz.prog 34 #[.iface 272 v, .iface 89 (.pointer (some t))] w fun ev w' => ev = .returned (.bool false) ∧ Chg NoB w w' := by
 have hlt : 9 < w.heap.size := lt_of_block' hg
 have f6 := xValueOfPP
 have f7 := xTypePP
 have mK := xMethodKind
 have mE := xMethodElem
 have mI := xMethodImplements
 have mA := xMethodAssignableTo
 have k27 := xKindPP
 have k25 := xKindP
 have e27 := xElemPP
 have i25 := xImplements
 have aE := xAssignEP
 have tE := xTypeOfE
 have nA := noAsE
 have uE := noUnwrapE
 have vE := noUnwrapsE
 have n8 := xIsNilPP ⟨w.heap.size, 0, none⟩ t (asW w t) (by simp [asW])
 have hg2 : (asW w t).cell? ⟨9, 0, none⟩ = some (.iface 187 (.agg #[.pointer (some ⟨22, 25, none⟩)])) := by
  unfold asW
  rw [World.cell?_alloc_lt _ _ ⟨9, 0, none⟩ (by simp; omega), World.cell?_alloc_lt _ _ ⟨9, 0, none⟩ hlt]; exact hg
 unfold asW at n8 hg2
 go_enter Tryz.func34, Tryz.ntmps34
 go_wp2
 refine wp_loop_rounds 1 ?_
 rw [rounds_succ]
 go_wp2
 go_ret
 exact ⟨rfl, (((Chg.refl NoB w).alloc _).alloc _).alloc _⟩
theorem as_hit (e t : Addr) (old : Value) (w : World) (hg : w.cell? ⟨9, 0, none⟩ = some (.iface 187 (.agg #[.pointer (some ⟨22, 25, none⟩)]))) (ht0 : w.cell? t = some old) (hf0 : w.frozen? t = false) :
  Calls Tryz.prog 34 #[.iface 84 (.pointer (some e)), .iface 89 (.pointer (some t))] w fun ev w' => ev = .returned (.bool true) ∧
   w' = (((asW w t).alloc (.cells #[.pointer (some ⟨22, 89, none⟩), .pointer (some ⟨w.heap.size, 0, none⟩), .int .u64 150] 138)).alloc (.cells #[.pointer (some e)] 84)).setCell t (.pointer (some e)) := by
 have hlt : 9 < w.heap.size := lt_of_block' hg
 have htl : t.block < w.heap.size := lt_of_block' ht0
 have f6 := xValueOfPP
 have fP := xValueOfP
 have f7 := xTypePP
 have mK := xMethodKind
 have mE := xMethodElem
 have mI := xMethodImplements
 have mA := xMethodAssignableTo
 have k27 := xKindPP
 have k25 := xKindP
 have e27 := xElemPP
 have i25 := xImplements
 have aP := xAssignPP
 have tP := xTypeOfF
 have n8 := xIsNilPP ⟨w.heap.size, 0, none⟩ t (asW w t) (by simp [asW])
 have hg2 : (asW w t).cell? ⟨9, 0, none⟩ = some (.iface 187 (.agg #[.pointer (some ⟨22, 25, none⟩)])) := by
  unfold asW
  rw [World.cell?_alloc_lt _ _ ⟨9, 0, none⟩ (by simp; omega), World.cell?_alloc_lt _ _ ⟨9, 0, none⟩ hlt]; exact hg
 have el := xElemVPP ⟨w.heap.size, 0, none⟩ t ((asW w t).alloc (.cells #[.pointer (some ⟨22, 89, none⟩), .pointer (some ⟨w.heap.size, 0, none⟩), .int .u64 150] 138)) (by rw [World.cell?_alloc_lt _ _ ⟨w.heap.size, 0, none⟩ (by simp [asW]; omega)]; simp [asW])
 have st := xSetP t ⟨w.heap.size + 1 + 1 + 1, 0, none⟩ e old (((asW w t).alloc (.cells #[.pointer (some ⟨22, 89, none⟩), .pointer (some ⟨w.heap.size, 0, none⟩), .int .u64 150] 138)).alloc (.cells #[.pointer (some e)] 84))
  (by rw [World.cell?_alloc_at _ _ _ _ (by simp [asW])]; rfl)
  (by rw [World.cell?_alloc_lt _ _ t (by simp [asW]; omega), World.cell?_alloc_lt _ _ t (by simp [asW]; omega)]; unfold asW; rw [World.cell?_alloc_lt _ _ t (by simp; omega), World.cell?_alloc_lt _ _ t htl]; exact ht0)
  (by rw [World.frozen?_alloc_old _ _ t (by simp [asW]; omega), World.frozen?_alloc_old _ _ t (by simp [asW]; omega)]; unfold asW; rw [World.frozen?_alloc_old _ _ t (by simp; omega), World.frozen?_alloc_old _ _ t (Nat.ne_of_lt htl)]; exact hf0)
 unfold asW at n8 hg2 el st ⊢
 go_enter Tryz.func34, Tryz.ntmps34
 go_wp2
 refine wp_loop_rounds 1 ?_
 rw [rounds_succ]
 go_wp2
 go_ret
 exact ⟨rfl, rfl⟩
end Go.Proofs.YtnmhkafpgohefaaGreatDoor
