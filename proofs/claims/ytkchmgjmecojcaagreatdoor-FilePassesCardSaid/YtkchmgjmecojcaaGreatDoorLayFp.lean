/-
  What the list of the row of FilePasses gives: the package's variables, the eight errors, the type's handle; and a world that meets the list.
-/
import Derived.Test.YtkchmgjmecojcaaGreatDoorCards
import Derived.Test.YtkchmgjmecojcaaGreatDoorProg
import Derived.Test.YtkchmgjmecojcaaGreatDoorParts
import Derived.Test.YtkchmgjmecojcaaGreatDoorFindLaw
import Derived.LaidHandle
import Derived.Lay
import Derived.ProofKit
import Derived.OpenShut
import Derived.LaidLaws
set_option linter.unusedVariables false
set_option maxHeartbeats 20000000
set_option maxRecDepth 100000
set_option linter.unusedSimpArgs false
namespace Go.Proofs.YtkchmgjmecojcaaGreatDoor
open Go.ChangeShapes Go.WideShapes Go.RowKit
theorem errStar : "*" ++ "errors.errorString" = "*errors.errorString" := by decide
theorem errRow (u : TypeId) (h : Tryz.prog.typeName? 3 u = some "*errors.errorString") : u = 298 :=
 typeName_ptr_named (nm := "errors.errorString") (by rw [errStar]; kernel_rfl) (by kernel_rfl) (by decide) u (by rw [errStar]; exact h)
theorem laid_get2 {P : Program} {W : World} {n : String} {d : DataW Unit} : ∀ {l : List (String × DataW Unit)} {ps : List MemPlace}, DataW.LaidVars P W l ps → (n, d) ∈ l →
  ∃ g t cs fuel p, P.globalNamed n = some g ∧ (P.globals[g]?).map (·.type) = some t ∧ W.var? P n = some cs ∧ DataW.trod (fun _ => ()) P W 0 (fun _ => true) false fuel t cs.toList = some (d, p) ∧
   (∀ x ∈ MemPlace.row ⟨g, 0, none⟩ cs.size, x ∈ ps) ∧ ∀ x ∈ p, x ∈ ps
 | [], _, _, h => by cases h
 | (n', d') :: r, ps, hl, h => by
  obtain ⟨g, t, cs, fuel, p, q, h1, h2, h3, h4, h5, h6⟩ := hl
  rcases List.mem_cons.1 h with h | h
  ·obtain ⟨rfl, rfl⟩ := Prod.mk.inj h
   exact ⟨g, t, cs, fuel, p, h1, h2, h3, h4, fun x hx => by rw [h6]; simp [hx], fun x hx => by rw [h6]; simp [hx]⟩
  ·obtain ⟨g', t', cs', f', p', a1, a2, a3, a4, a5, a6⟩ := laid_get2 h5 h
   exact ⟨g', t', cs', f', p', a1, a2, a3, a4, fun x hx => by rw [h6]; simp [a5 x hx], fun x hx => by rw [h6]; simp [a6 x hx]⟩
theorem laid_sent {W : World} {n : String} {l : List UInt8} {lv : List (String × DataW Unit)} {g : Nat} (hL : laidMet Tryz.prog lv W) (hm : (n, errText l) ∈ lv)
  (hg : Tryz.prog.globalNamed n = some g) (hty : (Tryz.prog.globals[g]?).map (·.type) = some 24) :
  ∃ a s, W.cell? ⟨g, 0, none⟩ = some (sv a) ∧ W.cell? a = some (.string s) ∧ s.data.toList = l ∧ ∃ c t, W.heap[a.block]? = some (.cells c t (0, 0)) := by
 obtain ⟨ps, hV, _, hrows⟩ := hL
 obtain ⟨g', t', cs, fuel, p, h1, h2, h3, h4, h5, h6⟩ := laid_get2 hV hm
 obtain rfl := Option.some.inj (hg.symm.trans h1)
 obtain rfl := Option.some.inj (hty.symm.trans h2)
 obtain ⟨l0⟩ := cs
 have ok0 : ∀ u v, l0 = [.iface u v] → Value.okWide Tryz.prog W .any 0 u v := fun u v e => by
  subst e
  exact (hrows g 0 (h5 _ (by simp [MemPlace.row]))).2 u v (by simpa using World.var?_cell hg h3 0)
 obtain ⟨a0, s0, rfl, hc0, hs0, hz0, rfl⟩ := errorString_of_trod Tryz.underlying24 errRow Tryz.underlying298 Tryz.underlying300 rfl rfl Tryz.underlying9 (by kernel_rfl) (by kernel_rfl) h4 ok0
 obtain ⟨c0, t0, hb0⟩ := (hrows a0.block a0.off (h6 _ (by simp [MemPlace.row]))).1
 refine ⟨a0, s0, ?_, hc0, hs0, c0, t0, hb0⟩
 rw [World.var?_cell hg h3, ← Array.getElem?_toList]
 rfl
abbrev lay0 : List (String × DataW Unit) := Rows.filePassesRow.laid
abbrev layF : List (String × DataW Unit) := lay0.filter fun x => x.2.handleName?.isNone
theorem in_layF {n : String} {d : DataW Unit} (i : Nat) (h : lay0[i]? = some (n, d)) (h2 : d.handleName?.isNone = true) : (n, d) ∈ layF := List.mem_filter.2 ⟨List.mem_of_getElem? h, h2⟩
theorem met_data {W : World} (h : laidMetH Tryz.prog lay0 W) : laidMet Tryz.prog layF W := (show laidMet Tryz.prog layF W ∧ handlesMet Tryz.prog [("errors.errorType", Rows.laid_errors_errorType)] W from h).1
theorem met_handle {W : World} (h : laidMetH Tryz.prog lay0 W) : handlesMet Tryz.prog [("errors.errorType", Rows.laid_errors_errorType)] W := (show laidMet Tryz.prog layF W ∧ handlesMet Tryz.prog [("errors.errorType", Rows.laid_errors_errorType)] W from h).2
theorem lists : Lists layF where
 b := ⟨_, in_layF 6 rfl (by kernel_rfl)⟩
 t := ⟨_, in_layF 5 rfl (by kernel_rfl)⟩
 s := ⟨_, in_layF 7 rfl (by kernel_rfl)⟩
 n := ⟨_, in_layF 9 rfl (by kernel_rfl)⟩
 y := ⟨_, in_layF 14 rfl (by kernel_rfl)⟩
 r := ⟨_, in_layF 13 rfl (by kernel_rfl)⟩
 reps := in_layF 15 rfl (by kernel_rfl)
 kinds := in_layF 16 rfl (by kernel_rfl)
 pow := in_layF 2 rfl (by kernel_rfl)
theorem gNone : Tryz.prog.globalNamed "shredcol/api.ErrNone" = some 5 := by kernel_rfl
theorem gKind : Tryz.prog.globalNamed "shredcol/api.ErrKind" = some 3 := by kernel_rfl
theorem gSum : Tryz.prog.globalNamed "shredcol/api.ErrSum" = some 6 := by kernel_rfl
theorem gSpace : Tryz.prog.globalNamed "shredcol/api.ErrSpace" = some 7 := by kernel_rfl
theorem gType : Tryz.prog.globalNamed "errors.errorType" = some 10 := by kernel_rfl
theorem rtRow : (Tryz.prog.cutTypes.find? (·.1 == "internal/reflectlite.rtype")).map (·.2) = some 213 := by kernel_rfl
theorem oneRow : ((List.range Tryz.prog.types.size).filter fun t => Tryz.prog.rowNamed t [101, 114, 114, 111, 114]) = [24] := by kernel_rfl
theorem handle_cell {W : World} (h : laidMetH Tryz.prog lay0 W) : W.cell? ⟨10, 0, none⟩ = some (.iface 213 (.agg #[.pointer (some ⟨19, 24, none⟩)])) := by
 obtain ⟨name, u, ty, e1, e2, e3, e4, e5⟩ := met_handle h _ (List.mem_singleton.2 rfl)
 have en : name = [101, 114, 114, 111, 114] := by
  have h1 : (Rows.laid_errors_errorType : DataW Unit).handleName? = some [101, 114, 114, 111, 114] := by kernel_rfl
  exact (Option.some.inj (h1.symm.trans e1)).symm
 subst en
 obtain rfl := Option.some.inj (rtRow.symm.trans e2)
 have hm : ty ∈ (List.range Tryz.prog.types.size).filter fun t => Tryz.prog.rowNamed t [101, 114, 114, 111, 114] := List.mem_filter.2 ⟨List.mem_range.2 e3, e4⟩
 rw [oneRow] at hm
 obtain rfl := List.mem_singleton.1 hm
 have hh : typeHandle Tryz.prog 24 = .pointer (some ⟨19, 24, none⟩) := by kernel_rfl
 rw [hh] at e5
 rw [World.var?_cell gType e5 0]
 rfl
def sentText : List (List UInt8) := [[115, 104, 114, 101, 100, 99, 111, 108, 58, 32, 116, 101, 120, 116], [115, 104, 114, 101, 100, 99, 111, 108, 58, 32, 98, 111, 117, 110, 100], [115, 104, 114, 101, 100, 99, 111, 108, 58, 32, 115, 104, 97, 112, 101], [115, 104, 114, 101, 100, 99, 111, 108, 58, 32, 107, 105, 110, 100], [115, 104, 114, 101, 100, 99, 111, 108, 58, 32, 110, 97, 109, 101], [115, 104, 114, 101, 100, 99, 111, 108, 58, 32, 110, 111, 110, 101], [115, 104, 114, 101, 100, 99, 111, 108, 58, 32, 115, 117, 109], [115, 104, 114, 101, 100, 99, 111, 108, 58, 32, 115, 112, 97, 99, 101]]
theorem sent_at {W : World} (h : laidMetH Tryz.prog lay0 W) : ∀ i, i < 8 → ∃ a s, (∀ g, sg[i]? = some g → W.cell? ⟨g, 0, none⟩ = some (sv a)) ∧ W.cell? a = some (.string s) ∧ sentText[i]? = some s.data.toList ∧ ∃ c t, W.heap[a.block]? = some (.cells c t (0, 0)) := by
 have hD := met_data h
 have key : ∀ (n : String) (l : List UInt8) (g i j : Nat), lay0[j]? = some (n, errText l) → (errText l).handleName?.isNone = true → Tryz.prog.globalNamed n = some g → (Tryz.prog.globals[g]?).map (·.type) = some 24 → sg[i]? = some g → sentText[i]? = some l →
   ∃ a s, (∀ g, sg[i]? = some g → W.cell? ⟨g, 0, none⟩ = some (sv a)) ∧ W.cell? a = some (.string s) ∧ sentText[i]? = some s.data.toList ∧ ∃ c t, W.heap[a.block]? = some (.cells c t (0, 0)) := by
  intro n l g i j h1 h2 h3 h4 h5 h6
  obtain ⟨a, s, a1, a2, a3, a4⟩ := laid_sent hD (in_layF j h1 h2) h3 h4
  refine ⟨a, s, fun g' hg' => ?_, a2, by rw [h6, a3], a4⟩
  obtain rfl := Option.some.inj (h5.symm.trans hg')
  exact a1
 intro i hi
 match i, hi with
 | 0, _ => exact key _ _ _ 0 5 rfl (by kernel_rfl) gT (by kernel_rfl) rfl rfl
 | 1, _ => exact key _ _ _ 1 6 rfl (by kernel_rfl) gB (by kernel_rfl) rfl rfl
 | 2, _ => exact key _ _ _ 2 7 rfl (by kernel_rfl) gS (by kernel_rfl) rfl rfl
 | 3, _ => exact key _ _ _ 3 8 rfl (by kernel_rfl) gKind (by kernel_rfl) rfl rfl
 | 4, _ => exact key _ _ _ 4 9 rfl (by kernel_rfl) gN (by kernel_rfl) rfl rfl
 | 5, _ => exact key _ _ _ 5 10 rfl (by kernel_rfl) gNone (by kernel_rfl) rfl rfl
 | 6, _ => exact key _ _ _ 6 11 rfl (by kernel_rfl) gSum (by kernel_rfl) rfl rfl
 | 7, _ => exact key _ _ _ 7 12 rfl (by kernel_rfl) gSpace (by kernel_rfl) rfl rfl
theorem sents_of {W : World} (h : laidMetH Tryz.prog lay0 W) : ∃ A, Sents W A := by
 have h0 := sent_at h
 have h1 : ∀ i, ∃ a, i < 8 → ∃ s, (∀ g, sg[i]? = some g → W.cell? ⟨g, 0, none⟩ = some (sv a)) ∧ W.cell? a = some (.string s) ∧ sentText[i]? = some s.data.toList ∧ ∃ c t, W.heap[a.block]? = some (.cells c t (0, 0)) := fun i => by
  by_cases hi : i < 8
  ·obtain ⟨a, s, hs⟩ := h0 i hi
   exact ⟨a, fun _ => ⟨s, hs⟩⟩
  ·exact ⟨⟨0, 0, none⟩, fun h => absurd h hi⟩
 obtain ⟨A, hA⟩ := Classical.axiomOfChoice h1
 refine ⟨A, ⟨fun i g hg => ?_, fun i hi => ?_, fun i j hi hj hij e => ?_, handle_cell h⟩⟩
 ·have hi : i < 8 := (List.getElem?_eq_some_iff.1 hg).1
  obtain ⟨s, a1, _⟩ := hA i hi
  exact a1 g hg
 ·obtain ⟨s, _, _, _, a4⟩ := hA i hi
  exact a4
 ·obtain ⟨s, _, a2, a3, _⟩ := hA i hi
  obtain ⟨s', _, b2, b3, _⟩ := hA j hj
  rw [e] at a2
  have hs : s = s' := by have := a2.symm.trans b2; simpa using this
  subst hs
  have hnd : sentText.Nodup := by decide +kernel
  exact hij ((List.getElem?_inj (by show i < 8; exact hi) hnd).1 (a3.trans b3.symm))
theorem non_of {W : World} (h : laidMetH Tryz.prog lay0 W) : ∃ N, Non W N := by
 obtain ⟨a, s, a1, _⟩ := sent_at h 5 (by omega)
 exact ⟨_, a1 _ rfl, _, _, rfl⟩
theorem named_of {W : World} {A : Nat → Addr} {E : Er → Value} {N : Value} (hS : Sents W A) (hE : Errs W E) (hN : Non W N) : Named W A E N := by
 refine ⟨hS, fun e => ?_, ?_⟩
 ·have h1 := hE.cell e
  have h2 : W.cell? ⟨e.g, 0, none⟩ = some (sv (A e.i)) := hS.cell e.i e.g (by cases e <;> rfl)
  exact Option.some.inj (h1.symm.trans h2)
 ·exact Option.some.inj (hN.cell.symm.trans (hS.cell 5 _ rfl))
theorem all_of {W : World} (h : laidMetH Tryz.prog lay0 W) : ∃ A E N, Glo W.heap.size E W ∧ Non W N ∧ Named W A E N := by
 obtain ⟨A, hS⟩ := sents_of h
 obtain ⟨E, hG⟩ := glo_of lists (met_data h)
 obtain ⟨N, hN⟩ := non_of h
 exact ⟨A, E, N, hG, hN, named_of hS hG.errs hN⟩
noncomputable def handleWorld (os : Os) : World :=
 let w0 := World.holding Tryz.prog os ⟨#[], #[], []⟩
 { w0 with heap := w0.heap.modify 10 fun
   | .cells _ t frozen => .cells #[.iface 213 (.agg #[.pointer (some ⟨19, 24, none⟩)])] t frozen
   | o => o }
noncomputable def laidWorld (os : Os) : World := (handleWorld os).layVars Tryz.prog layF
theorem laidWorld_os (os : Os) : (laidWorld os).os = os := World.layVars_os _ _ _
theorem laidWorld_met (os : Os) (args : Array Value) : laidMetH Tryz.prog lay0 ((laidWorld os).forCall (fun _ _ => 0) ⟨#[], args, []⟩).memory := by
 have e1 : (layF.filter fun x => (layF.map (·.1)).contains x.1) = layF := List.filter_eq_self.2 fun x hx => List.contains_iff_mem.2 (List.mem_map.2 ⟨x, hx, rfl⟩)
 have e2 : (layF.filter fun x => !(layF.map (·.1)).contains x.1) = [] := List.filter_eq_nil_iff.2 fun x hx => by rw [List.contains_iff_mem.2 (List.mem_map.2 ⟨x, hx, rfl⟩)]; simp
 have h : laidMet Tryz.prog layF (laidWorld os) := laidMet_layVars (w0 := handleWorld os) (layF.map (·.1)) [] (by rw [e1]; rfl) (by rw [e1]; kernel_rfl) (by rw [e1]; kernel_rfl) (by rw [e2]; exact LaidIn.none)
 exact laidMetH_of_parts (h.of_heap (by simp [World.memory, World.forCall, Input.heap])) (by kernel_rfl)
end Go.Proofs.YtkchmgjmecojcaaGreatDoor
