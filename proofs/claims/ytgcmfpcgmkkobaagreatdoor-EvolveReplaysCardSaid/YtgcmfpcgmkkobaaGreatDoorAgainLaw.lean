/-
  EvolveAgain, in plain words: added, dropped, added again.
-/
import Derived.Test.YtgcmfpcgmkkobaaGreatDoorReplayLaw
set_option linter.unusedVariables false
set_option linter.unusedSimpArgs false
namespace Go.Proofs.YtgcmfpcgmkkobaaGreatDoor
open Go.RowKit
def bZero : ByteArray := ⟨#[48]⟩
def lineA (name : ByteArray) : ByteArray := mkB ([97, 100, 100, 32, 48, 32, 114, 101, 113, 117, 105, 114, 101, 100, 32, 105, 110, 116, 32] ++ name.data.toList ++ [59])
theorem words_A (name : ByteArray) : wordsB (lineA name) = bAdd :: bZero :: mkB (repS 1) :: mkB (kindS 2) :: (splB (name.data.toList ++ [59])).map mkB := by
 unfold wordsB lineA
 rw [mkB_data]
 have e : ([97, 100, 100, 32, 48, 32, 114, 101, 113, 117, 105, 114, 101, 100, 32, 105, 110, 116, 32] : List UInt8) ++ name.data.toList ++ [59] = [97, 100, 100] ++ 32 :: ([48] ++ 32 :: ([114, 101, 113, 117, 105, 114, 101, 100] ++ 32 :: ([105, 110, 116] ++ 32 :: (name.data.toList ++ [59])))) := by simp
 rw [e, splB_app _ _ (by decide), splB_app _ _ (by decide), splB_app _ _ (by decide), splB_app _ _ (by decide)]
 rfl
theorem numF_zero : numF bZero.data.toList = some 0 := by decide +kernel
theorem mk_inj {a b : List UInt8} (h : mkB a = mkB b) : a = b := congrArg (fun s : ByteArray => s.data.toList) h
theorem kindS_inj {k : Int} (h0 : 0 ≤ k) (h5 : k ≤ 5) {j : Int} (j0 : 0 ≤ j) (j5 : j ≤ 5) (h : kindS k = kindS j) : k = j := by
 obtain rfl | rfl | rfl | rfl | rfl | rfl : k = 0 ∨ k = 1 ∨ k = 2 ∨ k = 3 ∨ k = 4 ∨ k = 5 := by omega
 all_goals
  obtain rfl | rfl | rfl | rfl | rfl | rfl : j = 0 ∨ j = 1 ∨ j = 2 ∨ j = 3 ∨ j = 4 ∨ j = 5 := by omega
  all_goals first | rfl | exact absurd h (by decide)
theorem repS_inj {k : Int} (h0 : 1 ≤ k) (h5 : k ≤ 3) {j : Int} (j0 : 1 ≤ j) (j5 : j ≤ 3) (h : repS k = repS j) : k = j := by
 obtain rfl | rfl | rfl : k = 1 ∨ k = 2 ∨ k = 3 := by omega
 all_goals
  obtain rfl | rfl | rfl : j = 1 ∨ j = 2 ∨ j = 3 := by omega
  all_goals first | rfl | exact absurd h (by decide)
theorem spl_name {nm : ByteArray} (h : isNameB nm = true) : splB (nm.data.toList ++ [59]) = [nm.data.toList ++ [59]] := by
 refine splB_no _ fun b hb => ?_
 unfold isNameB at h
 simp only [Bool.and_eq_true] at h
 rcases List.mem_append.1 hb with hb | hb
 ·exact (lower_ne (List.all_eq_true.1 h.2 b hb)).2.1
 ·rw [List.mem_singleton.1 hb]; decide
theorem fit_leaf {a : Int} {nm : ByteArray} {r k : Int} (hr : 1 ≤ r ∧ r ≤ 3) (hk : 1 ≤ k ∧ k ≤ 5) (hn : isNameB nm = true) (ha : 1 ≤ a ∧ a ≤ 1000) : Fit [.mk a nm r k []] where
 ne := by simp
 high := by simp only [Nd.highs, Nd.high]; decide
 small := by simp only [Nd.weighs, Nd.weigh]; decide
 nodes := by
  refine ⟨⟨?_, trivial⟩, trivial⟩
  obtain rfl | rfl | rfl : r = 1 ∨ r = 2 ∨ r = 3 := by omega
  all_goals
   obtain rfl | rfl | rfl | rfl | rfl : k = 1 ∨ k = 2 ∨ k = 3 ∨ k = 4 ∨ k = 5 := by omega
   all_goals rfl
 names := by simp [namesB, Nd.name, hn]
 deep := ⟨⟨by simp only [Nd.sub]; rfl, trivial⟩, trivial⟩
 nodup := by simp [idsL, idsN]
 range := fun x hx => by
  simp only [idsL, idsN, List.append_nil, List.mem_singleton] at hx
  omega
theorem add_leaf {w0 w1 a b : ByteArray} {name : ByteArray} {line : ByteArray} {r k : Int} (hr : 1 ≤ r ∧ r ≤ 3) (hk : 1 ≤ k ∧ k ≤ 5) (hw : wordsB line = w0 :: w1 :: mkB (repS r) :: mkB (kindS k) :: (splB (name.data.toList ++ [59])).map mkB) (hn : isNameB name = true) (nx : Int) :
  nodeF (mkB (joinW (mkB (repS r) :: mkB (kindS k) :: (splB (name.data.toList ++ [59])).map mkB))) nx = some (.mk nx name r k [], nx + 1) := by
 have hP : (Nd.mk 1 name r k []).All Plainly := ⟨⟨hr.1, hr.2, by simp only [Nd.kind]; omega, hk.2, fun _ => rfl, fun h => by simp only [Nd.kind] at h; omega, hn⟩, trivial⟩
 have h1 := words_rest (a := [w0, w1]) hw (by simp)
 have h2 : wordsB (mkB (joinW (mkB (repS r) :: mkB (kindS k) :: (splB (name.data.toList ++ [59])).map mkB))) = (wordsN (.mk 1 name r k [])).map mkB := by
  rw [h1, spl_name hn]
  simp only [wordsN]
  rw [if_neg (by omega)]
  rfl
 have h3 := nodeF_of (t0 := .mk 1 name r k []) (fit_leaf hr hk hn ⟨by decide, by decide⟩) hP h2 nx
 rw [h3]
 rfl
theorem fit_groups {l : List Nd} (h : Fit l) : Nd.Alls (fun n => n.kind = 0 → n.sub ≠ []) l :=
 Nd.Alls.imp (fun n hn => hn.2.2.2.2.2.1) l (schema_of_valid (valid_of h)).right
end Go.Proofs.YtgcmfpcgmkkobaaGreatDoor
