/-
  shredcollaw4's first, by the law on Replay.; What EvolveReplays' list gives at seat E: the package's variables, the eight errors, the type's handle; and a world that meets the list.
-/
import Derived.Test.YtgcmfpcgmkkobaaGreatDoorReplayT
import Derived.Test.YtgcmfpcgmkkobaaGreatDoorAgainLaw
import Derived.Test.YtgcmfpcgmkkobaaGreatDoorCards
import Derived.Test.YtgcmfpcgmkkobaaGreatDoorProg
import Derived.Test.YtgcmfpcgmkkobaaGreatDoorItemDr
import Derived.Test.YtgcmfpcgmkkobaaGreatDoorMoveLaw
import Derived.Test.YtgcmfpcgmkkobaaGreatDoorAddT
import Derived.LaidHandle
import Derived.Lay
import Derived.ProofKit
import Derived.OpenShut
import Derived.LaidLaws
set_option linter.unusedVariables false
set_option maxHeartbeats 20000000
set_option maxRecDepth 100000
set_option linter.unusedSimpArgs false
namespace Go.Proofs.YtgcmfpcgmkkobaaGreatDoor
open Go.RowKit
def firstB : ByteArray := ⟨#[97, 100, 100, 32, 48, 32, 114, 101, 113, 117, 105, 114, 101, 100, 32, 105, 110, 116, 32, 97, 59]⟩
def oneB : ByteArray := ⟨#[97]⟩
theorem first_line : firstB = lineA oneB := rfl
theorem first_rep : replayF [firstB] = .ok [.mk 1 oneB 1 2 []] 2 := by
 have hn : isNameB oneB = true := by decide
 have hw := words_A oneB
 have he : editW (wordsB firstB) [] 1 = .ok [.mk 1 oneB 1 2 []] 2 := by
  rw [first_line, hw]
  simp only [editW]
  rw [if_pos (by simp)]
  unfold addF
  rw [numF_zero]
  dsimp only
  rw [add_leaf (a := bAdd) (b := bAdd) (by decide) (by decide) hw hn]
  rfl
 unfold replayF
 rw [if_neg (by simp)]
 exact replay_step (l' := [.mk 1 oneB 1 2 []]) (nx' := 2) ⟨he, .inr (fit_leaf (by decide) (by decide) hn (by decide))⟩
theorem first_any (w : World) (E : Er → Value) (N K : Value) (m : Int) (hG : EvG w.heap.size E N K m w) : Calls Tryz.prog 8 #[] w (RetV (.bool true) w) := by
 go_enter Tryz.func8, Tryz.ntmps8
 go_wp2_with fail
 generalize hw1 : w.alloc _ = w1
 have hc1 : Chg NoB w w1 := by
  rw [← hw1]
  repeat (first | exact Chg.refl _ _ | apply Chg.alloc | apply Chg.drew)
 have hb1 : Blk w1 (w.heap.size) ([.string firstB]) 9 := by
  rw [← hw1]
  repeat (first | exact Blk.newAt (by first | rfl | (simp; done) | (simp; omega)) | apply Blk.alloc | apply Blk.drew)
 clear hw1
 have hl1 := hb1.lt
 have h := replay_any [firstB] (.slice (some ⟨w.heap.size, 0, none⟩) 1 1) w1 (fun b => b < w1.heap.size) E N K m ((hG.keep0 hc1).up hc1.size) ⟨some ⟨w.heap.size, 0, none⟩, 1, rfl, by decide, by decide, .inr ⟨w.heap.size, 0, rfl, hl1, hl1, ⟨[.string firstB], rfl, fun j c hj => by
  match j, hj with
  | 0, hj => obtain rfl := Option.some.inj hj; exact hb1.cell 0, rfl, rfl⟩, True.intro⟩⟩ (by simp [firstB, ByteArray.size])
 rw [first_rep] at h
 refine h.mono ?_
 clear h
 rintro en w2 ⟨hc2, v2, F, rfl, ht, _⟩
 rcases ht with ⟨h0, _⟩ | ⟨g, cap, cur, F', rfl, e2, e3, e4, e5, e6, e7, _⟩
 ·cases h0
 obtain ⟨c, r, F1, F2, rfl, h2, _, _⟩ := trC_cons.1 e7
 obtain ⟨v3, rfl, _⟩ := trN.1 h2
 have c0 : w2.cell? ⟨g, 0, none⟩ = some (.int .i64 1) := e5.cell 0
 have hl2 := e5.lt
 simp only [List.length_cons, List.length_nil, Nat.zero_add]
 go_wp2_with fail
 go_ret
 exact ⟨rfl, (hc1.tr hc2).alloc _⟩
open Go.ChangeShapes Go.WideShapes Go.RowKit
theorem errStar : "*" ++ "errors.errorString" = "*errors.errorString" := by decide
theorem errRow (u : TypeId) (h : Tryz.prog.typeName? 3 u = some "*errors.errorString") : u = 246 :=
 typeName_ptr_named (nm := "errors.errorString") (by rw [errStar]; kernel_rfl) (by kernel_rfl) (by decide) u (by rw [errStar]; exact h)
theorem laid_get2 {P : Program} {W : World} {n : String} {d : DataW Unit} : ∀ {l : List (String × DataW Unit)} {ps : List MemPlace}, DataW.LaidVars P W l ps → (n, d) ∈ l →
  ∃ g t cs fuel p, P.globalNamed n = some g ∧ (P.globals[g]?).map (·.type) = some t ∧ W.var? P n = some cs ∧ DataW.trod (fun _ => ()) P W 0 (fun _ => true) false fuel t cs.toList = some (d, p) ∧
   (∀ x ∈ MemPlace.row ⟨g, 0, none⟩ cs.size, x ∈ ps) ∧ ∀ x ∈ p, x ∈ ps
 | [], _, _, h => by cases h
 | (n', d') :: r, ps, hl, h => by
  obtain ⟨g, t, cs, fuel, p, q, h1, h2, h3, h4, h5, h6⟩ := hl
  rcases List.mem_cons.1 h with h | h
  ·obtain ⟨rfl, rfl⟩ := Prod.mk.inj h
   exact ⟨g, t, cs, fuel, p, h1, h2, h3, h4, fun x hx => by rw [h6]; simp [hx], fun x hx => by rw [h6]; simp [hx]⟩
  ·obtain ⟨g', t', cs', f', p', a1, a2, a3, a4, a5, a6⟩ := laid_get2 h5 h
   exact ⟨g', t', cs', f', p', a1, a2, a3, a4, fun x hx => by rw [h6]; simp [a5 x hx], fun x hx => by rw [h6]; simp [a6 x hx]⟩
theorem laid_sent {W : World} {n : String} {l : List UInt8} {lv : List (String × DataW Unit)} {g : Nat} (hL : laidMet Tryz.prog lv W) (hm : (n, errText l) ∈ lv)
  (hg : Tryz.prog.globalNamed n = some g) (hty : (Tryz.prog.globals[g]?).map (·.type) = some 30) :
  ∃ a s, W.cell? ⟨g, 0, none⟩ = some (sv a) ∧ W.cell? a = some (.string s) ∧ s.data.toList = l ∧ ∃ c t, W.heap[a.block]? = some (.cells c t (0, 0)) := by
 obtain ⟨ps, hV, _, hrows⟩ := hL
 obtain ⟨g', t', cs, fuel, p, h1, h2, h3, h4, h5, h6⟩ := laid_get2 hV hm
 obtain rfl := Option.some.inj (hg.symm.trans h1)
 obtain rfl := Option.some.inj (hty.symm.trans h2)
 obtain ⟨l0⟩ := cs
 have ok0 : ∀ u v, l0 = [.iface u v] → Value.okWide Tryz.prog W .any 0 u v := fun u v e => by
  subst e
  exact (hrows g 0 (h5 _ (by simp [MemPlace.row]))).2 u v (by simpa using World.var?_cell hg h3 0)
 obtain ⟨a0, s0, rfl, hc0, hs0, hz0, rfl⟩ := errorString_of_trod Tryz.underlying30 errRow Tryz.underlying246 Tryz.underlying248 rfl rfl Tryz.underlying9 (by kernel_rfl) (by kernel_rfl) h4 ok0
 obtain ⟨c0, t0, hb0⟩ := (hrows a0.block a0.off (h6 _ (by simp [MemPlace.row]))).1
 refine ⟨a0, s0, ?_, hc0, hs0, c0, t0, hb0⟩
 rw [World.var?_cell hg h3, ← Array.getElem?_toList]
 rfl
abbrev lay0 : List (String × DataW Unit) := Rows.evolveReplaysRow.laid
abbrev layF : List (String × DataW Unit) := lay0.filter fun x => x.2.handleName?.isNone
theorem in_layF {n : String} {d : DataW Unit} (i : Nat) (h : lay0[i]? = some (n, d)) (h2 : d.handleName?.isNone = true) : (n, d) ∈ layF := List.mem_filter.2 ⟨List.mem_of_getElem? h, h2⟩
theorem met_data {W : World} (h : laidMetH Tryz.prog lay0 W) : laidMet Tryz.prog layF W := (show laidMet Tryz.prog layF W ∧ handlesMet Tryz.prog [("errors.errorType", Rows.laid_errors_errorType)] W from h).1
theorem met_handle {W : World} (h : laidMetH Tryz.prog lay0 W) : handlesMet Tryz.prog [("errors.errorType", Rows.laid_errors_errorType)] W := (show laidMet Tryz.prog layF W ∧ handlesMet Tryz.prog [("errors.errorType", Rows.laid_errors_errorType)] W from h).2
theorem lists : Lists layF where
 b := ⟨_, in_layF 6 rfl (by kernel_rfl)⟩
 t := ⟨_, in_layF 5 rfl (by kernel_rfl)⟩
 s := ⟨_, in_layF 7 rfl (by kernel_rfl)⟩
 n := ⟨_, in_layF 9 rfl (by kernel_rfl)⟩
 y := ⟨_, in_layF 14 rfl (by kernel_rfl)⟩
 r := ⟨_, in_layF 13 rfl (by kernel_rfl)⟩
 reps := in_layF 17 rfl (by kernel_rfl)
 kinds := in_layF 18 rfl (by kernel_rfl)
 pow := in_layF 2 rfl (by kernel_rfl)
theorem gNone : Tryz.prog.globalNamed "shredcol/api.ErrNone" = some 3 := by kernel_rfl
theorem gKind : Tryz.prog.globalNamed "shredcol/api.ErrKind" = some 1 := by kernel_rfl
theorem gSum : Tryz.prog.globalNamed "shredcol/api.ErrSum" = some 6 := by kernel_rfl
theorem gSpace : Tryz.prog.globalNamed "shredcol/api.ErrSpace" = some 7 := by kernel_rfl
theorem gType : Tryz.prog.globalNamed "errors.errorType" = some 8 := by kernel_rfl
theorem rtRow : (Tryz.prog.cutTypes.find? (·.1 == "internal/reflectlite.rtype")).map (·.2) = some 184 := by kernel_rfl
theorem oneRow : ((List.range Tryz.prog.types.size).filter fun t => Tryz.prog.rowNamed t [101, 114, 114, 111, 114]) = [30] := by kernel_rfl
theorem handle_cell {W : World} (h : laidMetH Tryz.prog lay0 W) : W.cell? ⟨8, 0, none⟩ = some (.iface 184 (.agg #[.pointer (some ⟨22, 30, none⟩)])) := by
 obtain ⟨name, u, ty, e1, e2, e3, e4, e5⟩ := met_handle h _ (List.mem_singleton.2 rfl)
 have en : name = [101, 114, 114, 111, 114] := by
  have h1 : (Rows.laid_errors_errorType : DataW Unit).handleName? = some [101, 114, 114, 111, 114] := by kernel_rfl
  exact (Option.some.inj (h1.symm.trans e1)).symm
 subst en
 obtain rfl := Option.some.inj (rtRow.symm.trans e2)
 have hm : ty ∈ (List.range Tryz.prog.types.size).filter fun t => Tryz.prog.rowNamed t [101, 114, 114, 111, 114] := List.mem_filter.2 ⟨List.mem_range.2 e3, e4⟩
 rw [oneRow] at hm
 obtain rfl := List.mem_singleton.1 hm
 have hh : typeHandle Tryz.prog 30 = .pointer (some ⟨22, 30, none⟩) := by kernel_rfl
 rw [hh] at e5
 rw [World.var?_cell gType e5 0]
 rfl
def sentText : List (List UInt8) := [[115, 104, 114, 101, 100, 99, 111, 108, 58, 32, 116, 101, 120, 116], [115, 104, 114, 101, 100, 99, 111, 108, 58, 32, 98, 111, 117, 110, 100], [115, 104, 114, 101, 100, 99, 111, 108, 58, 32, 115, 104, 97, 112, 101], [115, 104, 114, 101, 100, 99, 111, 108, 58, 32, 107, 105, 110, 100], [115, 104, 114, 101, 100, 99, 111, 108, 58, 32, 110, 97, 109, 101], [115, 104, 114, 101, 100, 99, 111, 108, 58, 32, 110, 111, 110, 101], [115, 104, 114, 101, 100, 99, 111, 108, 58, 32, 115, 117, 109], [115, 104, 114, 101, 100, 99, 111, 108, 58, 32, 115, 112, 97, 99, 101]]
theorem sent_at {W : World} (h : laidMetH Tryz.prog lay0 W) : ∀ i, i < 8 → ∃ a s, (∀ g, sg[i]? = some g → W.cell? ⟨g, 0, none⟩ = some (sv a)) ∧ W.cell? a = some (.string s) ∧ sentText[i]? = some s.data.toList ∧ ∃ c t, W.heap[a.block]? = some (.cells c t (0, 0)) := by
 have hD := met_data h
 have key : ∀ (n : String) (l : List UInt8) (g i j : Nat), lay0[j]? = some (n, errText l) → (errText l).handleName?.isNone = true → Tryz.prog.globalNamed n = some g → (Tryz.prog.globals[g]?).map (·.type) = some 30 → sg[i]? = some g → sentText[i]? = some l →
   ∃ a s, (∀ g, sg[i]? = some g → W.cell? ⟨g, 0, none⟩ = some (sv a)) ∧ W.cell? a = some (.string s) ∧ sentText[i]? = some s.data.toList ∧ ∃ c t, W.heap[a.block]? = some (.cells c t (0, 0)) := by
  intro n l g i j h1 h2 h3 h4 h5 h6
  obtain ⟨a, s, a1, a2, a3, a4⟩ := laid_sent hD (in_layF j h1 h2) h3 h4
  refine ⟨a, s, fun g' hg' => ?_, a2, by rw [h6, a3], a4⟩
  obtain rfl := Option.some.inj (h5.symm.trans hg')
  exact a1
 intro i hi
 match i, hi with
 | 0, _ => exact key _ _ _ 0 5 rfl (by kernel_rfl) gT (by kernel_rfl) rfl rfl
 | 1, _ => exact key _ _ _ 1 6 rfl (by kernel_rfl) gB (by kernel_rfl) rfl rfl
 | 2, _ => exact key _ _ _ 2 7 rfl (by kernel_rfl) gS (by kernel_rfl) rfl rfl
 | 3, _ => exact key _ _ _ 3 8 rfl (by kernel_rfl) gKind (by kernel_rfl) rfl rfl
 | 4, _ => exact key _ _ _ 4 9 rfl (by kernel_rfl) gN (by kernel_rfl) rfl rfl
 | 5, _ => exact key _ _ _ 5 10 rfl (by kernel_rfl) gNone (by kernel_rfl) rfl rfl
 | 6, _ => exact key _ _ _ 6 11 rfl (by kernel_rfl) gSum (by kernel_rfl) rfl rfl
 | 7, _ => exact key _ _ _ 7 12 rfl (by kernel_rfl) gSpace (by kernel_rfl) rfl rfl
theorem sents_of {W : World} (h : laidMetH Tryz.prog lay0 W) : ∃ A, Sents W A := by
 have h0 := sent_at h
 have h1 : ∀ i, ∃ a, i < 8 → ∃ s, (∀ g, sg[i]? = some g → W.cell? ⟨g, 0, none⟩ = some (sv a)) ∧ W.cell? a = some (.string s) ∧ sentText[i]? = some s.data.toList ∧ ∃ c t, W.heap[a.block]? = some (.cells c t (0, 0)) := fun i => by
  by_cases hi : i < 8
  ·obtain ⟨a, s, hs⟩ := h0 i hi
   exact ⟨a, fun _ => ⟨s, hs⟩⟩
  ·exact ⟨⟨0, 0, none⟩, fun h => absurd h hi⟩
 obtain ⟨A, hA⟩ := Classical.axiomOfChoice h1
 refine ⟨A, ⟨fun i g hg => ?_, fun i hi => ?_, fun i j hi hj hij e => ?_, handle_cell h⟩⟩
 ·have hi : i < 8 := (List.getElem?_eq_some_iff.1 hg).1
  obtain ⟨s, a1, _⟩ := hA i hi
  exact a1 g hg
 ·obtain ⟨s, _, _, _, a4⟩ := hA i hi
  exact a4
 ·obtain ⟨s, _, a2, a3, _⟩ := hA i hi
  obtain ⟨s', _, b2, b3, _⟩ := hA j hj
  rw [e] at a2
  have hs : s = s' := by have := a2.symm.trans b2; simpa using this
  subst hs
  have hnd : sentText.Nodup := by decide +kernel
  exact hij ((List.getElem?_inj (by show i < 8; exact hi) hnd).1 (a3.trans b3.symm))
theorem non_of {W : World} (h : laidMetH Tryz.prog lay0 W) : ∃ N, Non W N := by
 obtain ⟨a, s, a1, _⟩ := sent_at h 5 (by omega)
 exact ⟨_, a1 _ rfl, _, _, rfl⟩
theorem named_of {W : World} {A : Nat → Addr} {E : Er → Value} {N : Value} (hS : Sents W A) (hE : Errs W E) (hN : Non W N) : Named W A E N := by
 refine ⟨hS, fun e => ?_, ?_⟩
 ·have h1 := hE.cell e
  have h2 : W.cell? ⟨e.g, 0, none⟩ = some (sv (A e.i)) := hS.cell e.i e.g (by cases e <;> rfl)
  exact Option.some.inj (h1.symm.trans h2)
 ·exact Option.some.inj (hN.cell.symm.trans (hS.cell 5 _ rfl))
theorem asciiIn : ("strings.asciiSpace", Lib.tabData .u8 Lib.asciiSpaceTab) ∈ layF := in_layF 16 (by kernel_rfl) (by kernel_rfl)
theorem maxLen_of {W : World} (h : W.ShapedOpen Tryz.prog) : ∃ m, W.cell? ⟨11, 0, none⟩ = some (.int .i64 m) := Tryz.laysM146.s1_3 W h
theorem space_of {W : World} (hL : laidMetH Tryz.prog lay0 W) : Lib.TabIs Tryz.prog W "strings.asciiSpace" .u8 Lib.asciiSpaceTab := by
 obtain ⟨ps, hV, _⟩ := met_data hL
 exact laid_tab hV asciiIn ascii_at (t := 224) (e := 5) (by kernel_rfl) Tryz.underlying224 Tryz.underlying5 (by kernel_rfl) (by kernel_rfl)
theorem ascii_lt {w : World} (h : Lib.TabIs Tryz.prog w "strings.asciiSpace" .u8 Lib.asciiSpaceTab) : 12 < w.heap.size := by
 unfold Lib.TabIs World.var? at h
 rw [ascii_at] at h
 simp only [Option.bind_some] at h
 cases hb : w.heap[12]? with
 | none => rw [hb] at h; simp at h
 | some o => exact lt_of_block hb
theorem all_of {W : World} (h : laidMetH Tryz.prog lay0 W) : ∃ A E N, Glo W.heap.size E W ∧ (∀ m, W.cell? ⟨11, 0, none⟩ = some (.int .i64 m) → EvG W.heap.size E N (sv (A 3)) m W) ∧ Named W A E N := by
 obtain ⟨A, hS⟩ := sents_of h
 obtain ⟨E, hG⟩ := glo_of lists (met_data h)
 obtain ⟨N, hN⟩ := non_of h
 have hk := hS.cell 3 _ rfl
 refine ⟨A, E, N, hG, fun m hm => ⟨hG, hN.cell, hk, hm, space_of h, ⟨lt_of_cell hN.cell, lt_of_cell hk, lt_of_cell hm, ascii_lt (space_of h)⟩, hN.form, ⟨_, _, rfl⟩⟩, named_of hS hG.errs hN⟩
noncomputable def handleWorld (os : Os) : World :=
 let w0 := World.holding Tryz.prog os ⟨#[], #[], []⟩
 { w0 with heap := w0.heap.modify 8 fun
   | .cells _ t frozen => .cells #[.iface 184 (.agg #[.pointer (some ⟨22, 30, none⟩)])] t frozen
   | o => o }
noncomputable def laidWorld (os : Os) : World := (handleWorld os).layVars Tryz.prog layF
theorem laidWorld_os (os : Os) : (laidWorld os).os = os := World.layVars_os _ _ _
theorem laidWorld_met (os : Os) (args : Array Value) : laidMetH Tryz.prog lay0 ((laidWorld os).forCall (fun _ _ => 0) ⟨#[], args, []⟩).memory := by
 have e1 : (layF.filter fun x => (layF.map (·.1)).contains x.1) = layF := List.filter_eq_self.2 fun x hx => List.contains_iff_mem.2 (List.mem_map.2 ⟨x, hx, rfl⟩)
 have e2 : (layF.filter fun x => !(layF.map (·.1)).contains x.1) = [] := List.filter_eq_nil_iff.2 fun x hx => by rw [List.contains_iff_mem.2 (List.mem_map.2 ⟨x, hx, rfl⟩)]; simp
 have h : laidMet Tryz.prog layF (laidWorld os) := laidMet_layVars (w0 := handleWorld os) (layF.map (·.1)) [] (by rw [e1]; rfl) (by rw [e1]; kernel_rfl) (by rw [e1]; kernel_rfl) (by rw [e2]; exact LaidIn.none)
 exact laidMetH_of_parts (h.of_heap (by simp [World.memory, World.forCall, Input.heap])) (by kernel_rfl)
end Go.Proofs.YtgcmfpcgmkkobaaGreatDoor
