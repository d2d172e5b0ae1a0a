/-
  EvolveAgain, in plain words: added, dropped, added again.; What the list of EvolveGrows' row gives: evolve's surroundings; a world that meets the list.
-/
import Derived.Test.YtgcmfpcgmkkobaaGreatDoorReplayLaw
import Derived.Test.YtgcmfpcgmkkobaaGreatDoorCards
import Derived.Test.YtgcmfpcgmkkobaaGreatDoorProg
import Derived.Test.YtgcmfpcgmkkobaaGreatDoorPastLaw
import Derived.Test.YtgcmfpcgmkkobaaGreatDoorAddT
import Derived.Lay
import Derived.ProofKit
import Derived.OpenShut
import Derived.LaidLaws
set_option linter.unusedVariables false
set_option linter.unusedSimpArgs false
namespace Go.Proofs.YtgcmfpcgmkkobaaGreatDoor
open Go.RowKit
def bZero : ByteArray := ⟨#[48]⟩
def lineA (name : ByteArray) : ByteArray := mkB ([97, 100, 100, 32, 48, 32, 114, 101, 113, 117, 105, 114, 101, 100, 32, 105, 110, 116, 32] ++ name.data.toList ++ [59])
theorem words_A (name : ByteArray) : wordsB (lineA name) = bAdd :: bZero :: mkB (repS 1) :: mkB (kindS 2) :: (splB (name.data.toList ++ [59])).map mkB := by
 unfold wordsB lineA
 rw [mkB_data]
 have e : ([97, 100, 100, 32, 48, 32, 114, 101, 113, 117, 105, 114, 101, 100, 32, 105, 110, 116, 32] : List UInt8) ++ name.data.toList ++ [59] = [97, 100, 100] ++ 32 :: ([48] ++ 32 :: ([114, 101, 113, 117, 105, 114, 101, 100] ++ 32 :: ([105, 110, 116] ++ 32 :: (name.data.toList ++ [59])))) := by simp
 rw [e, splB_app _ _ (by decide), splB_app _ _ (by decide), splB_app _ _ (by decide), splB_app _ _ (by decide)]
 rfl
theorem numF_zero : numF bZero.data.toList = some 0 := by decide +kernel
theorem spl_name {nm : ByteArray} (h : isNameB nm = true) : splB (nm.data.toList ++ [59]) = [nm.data.toList ++ [59]] := by
 refine splB_no _ fun b hb => ?_
 unfold isNameB at h
 simp only [Bool.and_eq_true] at h
 rcases List.mem_append.1 hb with hb | hb
 ·exact (lower_ne (List.all_eq_true.1 h.2 b hb)).2.1
 ·rw [List.mem_singleton.1 hb]; decide
theorem fit_leaf {a : Int} {nm : ByteArray} {r k : Int} (hr : 1 ≤ r ∧ r ≤ 3) (hk : 1 ≤ k ∧ k ≤ 5) (hn : isNameB nm = true) (ha : 1 ≤ a ∧ a ≤ 1000) : Fit [.mk a nm r k []] where
 ne := by simp
 high := by simp only [Nd.highs, Nd.high]; decide
 small := by simp only [Nd.weighs, Nd.weigh]; decide
 nodes := by
  refine ⟨⟨?_, trivial⟩, trivial⟩
  obtain rfl | rfl | rfl : r = 1 ∨ r = 2 ∨ r = 3 := by omega
  all_goals
   obtain rfl | rfl | rfl | rfl | rfl : k = 1 ∨ k = 2 ∨ k = 3 ∨ k = 4 ∨ k = 5 := by omega
   all_goals rfl
 names := by simp [namesB, Nd.name, hn]
 deep := ⟨⟨by simp only [Nd.sub]; rfl, trivial⟩, trivial⟩
 nodup := by simp [idsL, idsN]
 range := fun x hx => by
  simp only [idsL, idsN, List.append_nil, List.mem_singleton] at hx
  omega
theorem add_leaf {w0 w1 a b : ByteArray} {name : ByteArray} {line : ByteArray} {r k : Int} (hr : 1 ≤ r ∧ r ≤ 3) (hk : 1 ≤ k ∧ k ≤ 5) (hw : wordsB line = w0 :: w1 :: mkB (repS r) :: mkB (kindS k) :: (splB (name.data.toList ++ [59])).map mkB) (hn : isNameB name = true) (nx : Int) :
  nodeF (mkB (joinW (mkB (repS r) :: mkB (kindS k) :: (splB (name.data.toList ++ [59])).map mkB))) nx = some (.mk nx name r k [], nx + 1) := by
 have hP : (Nd.mk 1 name r k []).All Plainly := ⟨⟨hr.1, hr.2, by simp only [Nd.kind]; omega, hk.2, fun _ => rfl, fun h => by simp only [Nd.kind] at h; omega, hn⟩, trivial⟩
 have h1 := words_rest (a := [w0, w1]) hw (by simp)
 have h2 : wordsB (mkB (joinW (mkB (repS r) :: mkB (kindS k) :: (splB (name.data.toList ++ [59])).map mkB))) = (wordsN (.mk 1 name r k [])).map mkB := by
  rw [h1, spl_name hn]
  simp only [wordsN]
  rw [if_neg (by omega)]
  rfl
 have h3 := nodeF_of (t0 := .mk 1 name r k []) (fit_leaf hr hk hn ⟨by decide, by decide⟩) hP h2 nx
 rw [h3]
 rfl
open Go.ChangeShapes Go.WideShapes Go.RowKit
theorem wf_i64 {i : Int} (h : (Lit.int .i64 i).wf = true) : I64 i := by
 have e1 : IntKind.i64.min = -9223372036854775808 := by decide
 have e2 : IntKind.i64.max = 9223372036854775807 := by decide
 simp only [Lit.wf, e1, e2] at h
 simp at h
 unfold I64
 omega
abbrev lay0 : List (String × DataW Unit) := Rows.evolveGrowsRow.laid
theorem lists : Lists lay0 where
 b := ⟨_, List.mem_of_getElem? (i := 5) rfl⟩
 t := ⟨_, List.mem_of_getElem? (i := 4) rfl⟩
 s := ⟨_, List.mem_of_getElem? (i := 6) rfl⟩
 n := ⟨_, List.mem_of_getElem? (i := 8) rfl⟩
 y := ⟨_, List.mem_of_getElem? (i := 11) rfl⟩
 r := ⟨_, List.mem_of_getElem? (i := 10) rfl⟩
 reps := List.mem_of_getElem? (i := 14) rfl
 kinds := List.mem_of_getElem? (i := 15) rfl
 pow := List.mem_of_getElem? (i := 2) rfl
theorem asciiIn : ("strings.asciiSpace", Lib.tabData .u8 Lib.asciiSpaceTab) ∈ lay0 := List.mem_of_getElem? (i := 13) (by kernel_rfl)
theorem maxLen_of {W : World} (h : W.ShapedOpen Tryz.prog) : ∃ m, W.cell? ⟨11, 0, none⟩ = some (.int .i64 m) := Tryz.laysM146.s1_3 W h
theorem space_of {W : World} (hL : laidMetH Tryz.prog lay0 W) : Lib.TabIs Tryz.prog W "strings.asciiSpace" .u8 Lib.asciiSpaceTab := by
 obtain ⟨ps, hV, _⟩ := hL
 exact laid_tab hV asciiIn ascii_at (t := 224) (e := 5) (by kernel_rfl) Tryz.underlying224 Tryz.underlying5 (by kernel_rfl) (by kernel_rfl)
theorem gNon : Tryz.prog.globalNamed "shredcol/api.ErrNone" = some 3 := by kernel_rfl
theorem gKnd : Tryz.prog.globalNamed "shredcol/api.ErrKind" = some 1 := by kernel_rfl
theorem ascii_lt {w : World} (h : Lib.TabIs Tryz.prog w "strings.asciiSpace" .u8 Lib.asciiSpaceTab) : 12 < w.heap.size := by
 unfold Lib.TabIs World.var? at h
 rw [ascii_at] at h
 simp only [Option.bind_some] at h
 cases hb : w.heap[12]? with
 | none => rw [hb] at h; simp at h
 | some o => exact lt_of_block hb
theorem all_of {W : World} (hL : laidMetH Tryz.prog lay0 W) : ∃ (K : Value) (E : Er → Value) (N : Value), Glo W.heap.size E W ∧ (∀ m, W.cell? ⟨11, 0, none⟩ = some (.int .i64 m) → EvG W.heap.size E N K m W) ∧ True := by
 obtain ⟨E, hG⟩ := glo_of lists hL
 have hL2 := hL
 obtain ⟨ps, hV, _⟩ := hL2
 obtain ⟨Tn, vn, hn⟩ := laid_iface hV (n := "shredcol/api.ErrNone") (List.mem_of_getElem? (i := 9) rfl) gNon (by kernel_rfl) Tryz.underlying30
 obtain ⟨Tk, vk, hk⟩ := laid_iface hV (n := "shredcol/api.ErrKind") (List.mem_of_getElem? (i := 7) rfl) gKnd (by kernel_rfl) Tryz.underlying30
 refine ⟨.iface Tk vk, E, .iface Tn vn, hG, fun m hm => ⟨hG, hn, hk, hm, space_of hL, ⟨lt_of_cell hn, lt_of_cell hk, lt_of_cell hm, ascii_lt (space_of hL)⟩, ⟨_, _, rfl⟩, ⟨_, _, rfl⟩⟩, True.intro⟩
noncomputable def laidWorld (os : Os) : World := World.laidAll Tryz.prog os lay0
theorem laidWorld_os (os : Os) : (laidWorld os).os = os := World.laidAll_os _ _ _
theorem laidWorld_met (os : Os) (args : Array Value) : laidMetH Tryz.prog lay0 ((laidWorld os).forCall (fun _ _ => 0) ⟨#[], args, []⟩).memory :=
 laidMet_laidAll args (by kernel_rfl) (by kernel_rfl)
end Go.Proofs.YtgcmfpcgmkkobaaGreatDoor
