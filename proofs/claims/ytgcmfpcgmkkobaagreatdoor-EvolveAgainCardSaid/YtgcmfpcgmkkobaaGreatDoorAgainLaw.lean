/-
 EvolveAgain, in plain words: added, dropped, added again.
-/
import Derived.Test.YtgcmfpcgmkkobaaGreatDoorReplayLaw
set_option linter.unusedVariables false
set_option linter.unusedSimpArgs false
namespace Go.Proofs.YtgcmfpcgmkkobaaGreatDoor
open Go.RowKit

def bZero : ByteArray := ⟨#[48]⟩
/-- add 0 required int NAME; -/
def lineA (name : ByteArray) : ByteArray := mkB ([97, 100, 100, 32, 48, 32, 114, 101, 113, 117, 105, 114, 101, 100, 32, 105, 110, 116, 32] ++ name.data.toList ++ [59])
/-- add 0 optional bytes NAME; -/
def lineB (name : ByteArray) : ByteArray := mkB ([97, 100, 100, 32, 48, 32, 111, 112, 116, 105, 111, 110, 97, 108, 32, 98, 121, 116, 101, 115, 32] ++ name.data.toList ++ [59])
/-- drop N -/
def lineD (n : Int) : ByteArray := mkB ([100, 114, 111, 112, 32] ++ Lib.itoa n)
theorem words_A (name : ByteArray) : wordsB (lineA name) = bAdd :: bZero :: mkB (repS 1) :: mkB (kindS 2) :: (splB (name.data.toList ++ [59])).map mkB := by
 unfold wordsB lineA
 rw [mkB_data]
 have e : ([97, 100, 100, 32, 48, 32, 114, 101, 113, 117, 105, 114, 101, 100, 32, 105, 110, 116, 32] : List UInt8) ++ name.data.toList ++ [59] = [97, 100, 100] ++ 32 :: ([48] ++ 32 :: ([114, 101, 113, 117, 105, 114, 101, 100] ++ 32 :: ([105, 110, 116] ++ 32 :: (name.data.toList ++ [59])))) := by simp
 rw [e, splB_app _ _ (by decide), splB_app _ _ (by decide), splB_app _ _ (by decide), splB_app _ _ (by decide)]
 rfl
theorem words_B (name : ByteArray) : wordsB (lineB name) = bAdd :: bZero :: mkB (repS 2) :: mkB (kindS 4) :: (splB (name.data.toList ++ [59])).map mkB := by
 unfold wordsB lineB
 rw [mkB_data]
 have e : ([97, 100, 100, 32, 48, 32, 111, 112, 116, 105, 111, 110, 97, 108, 32, 98, 121, 116, 101, 115, 32] : List UInt8) ++ name.data.toList ++ [59] = [97, 100, 100] ++ 32 :: ([48] ++ 32 :: ([111, 112, 116, 105, 111, 110, 97, 108] ++ 32 :: ([98, 121, 116, 101, 115] ++ 32 :: (name.data.toList ++ [59])))) := by simp
 rw [e, splB_app _ _ (by decide), splB_app _ _ (by decide), splB_app _ _ (by decide), splB_app _ _ (by decide)]
 rfl
theorem numF_zero : numF bZero.data.toList = some 0 := by decide +kernel
theorem mk_inj {a b : List UInt8} (h : mkB a = mkB b) : a = b := congrArg (fun s : ByteArray => s.data.toList) h
theorem maps_inj : ∀ {a b : List (List UInt8)}, a.map mkB = b.map mkB → a = b
 | [], [], _ => rfl
 | [], _ :: _, h => by simp at h
 | _ :: _, [], h => by simp at h
 | x :: xs, y :: ys, h => by
  simp only [List.map_cons, List.cons.injEq] at h
  rw [mk_inj h.1, maps_inj h.2]
theorem kindS_inj {k : Int} (h0 : 0 ≤ k) (h5 : k ≤ 5) {j : Int} (j0 : 0 ≤ j) (j5 : j ≤ 5) (h : kindS k = kindS j) : k = j := by
 obtain rfl | rfl | rfl | rfl | rfl | rfl : k = 0 ∨ k = 1 ∨ k = 2 ∨ k = 3 ∨ k = 4 ∨ k = 5 := by omega
 all_goals
  obtain rfl | rfl | rfl | rfl | rfl | rfl : j = 0 ∨ j = 1 ∨ j = 2 ∨ j = 3 ∨ j = 4 ∨ j = 5 := by omega
  all_goals first | rfl | exact absurd h (by decide)
theorem repS_inj {k : Int} (h0 : 1 ≤ k) (h5 : k ≤ 3) {j : Int} (j0 : 1 ≤ j) (j5 : j ≤ 3) (h : repS k = repS j) : k = j := by
 obtain rfl | rfl | rfl : k = 1 ∨ k = 2 ∨ k = 3 := by omega
 all_goals
  obtain rfl | rfl | rfl : j = 1 ∨ j = 2 ∨ j = 3 := by omega
  all_goals first | rfl | exact absurd h (by decide)
theorem byte_eq {a b : ByteArray} (h : a.data.toList = b.data.toList) : a = b := by rw [← mkB_back a, ← mkB_back b, h]
theorem spl_name {nm : ByteArray} (h : isNameB nm = true) : splB (nm.data.toList ++ [59]) = [nm.data.toList ++ [59]] := by
 refine splB_no _ fun b hb => ?_
 unfold isNameB at h
 simp only [Bool.and_eq_true] at h
 rcases List.mem_append.1 hb with hb | hb
 ·exact (lower_ne (List.all_eq_true.1 h.2 b hb)).2.1
 ·rw [List.mem_singleton.1 hb]; decide
/-- What of a leaf is a line. -/
theorem fit_leaf {a : Int} {nm : ByteArray} {r k : Int} (hr : 1 ≤ r ∧ r ≤ 3) (hk : 1 ≤ k ∧ k ≤ 5) (hn : isNameB nm = true) (ha : 1 ≤ a ∧ a ≤ 1000) : Fit [.mk a nm r k []] where
 ne := by simp
 high := by simp only [Nd.highs, Nd.high]; decide
 small := by simp only [Nd.weighs, Nd.weigh]; decide
 nodes := by
  refine ⟨⟨?_, trivial⟩, trivial⟩
  obtain rfl | rfl | rfl : r = 1 ∨ r = 2 ∨ r = 3 := by omega
  all_goals
   obtain rfl | rfl | rfl | rfl | rfl : k = 1 ∨ k = 2 ∨ k = 3 ∨ k = 4 ∨ k = 5 := by omega
   all_goals rfl
 names := by simp [namesB, Nd.name, hn]
 deep := ⟨⟨by simp only [Nd.sub]; rfl, trivial⟩, trivial⟩
 nodup := by simp [idsL, idsN]
 range := fun x hx => by
  simp only [idsL, idsN, List.append_nil, List.mem_singleton] at hx
  omega
/-- The line is one of a right leaf: what add makes of it. -/
theorem add_leaf {w0 w1 a b : ByteArray} {name : ByteArray} {line : ByteArray} {r k : Int} (hr : 1 ≤ r ∧ r ≤ 3) (hk : 1 ≤ k ∧ k ≤ 5) (hw : wordsB line = w0 :: w1 :: mkB (repS r) :: mkB (kindS k) :: (splB (name.data.toList ++ [59])).map mkB) (hn : isNameB name = true) (nx : Int) :
  nodeF (mkB (joinW (mkB (repS r) :: mkB (kindS k) :: (splB (name.data.toList ++ [59])).map mkB))) nx = some (.mk nx name r k [], nx + 1) := by
 have hP : (Nd.mk 1 name r k []).All Plainly := ⟨⟨hr.1, hr.2, by simp only [Nd.kind]; omega, hk.2, fun _ => rfl, fun h => by simp only [Nd.kind] at h; omega, hn⟩, trivial⟩
 have h1 := words_rest (a := [w0, w1]) hw (by simp)
 have h2 : wordsB (mkB (joinW (mkB (repS r) :: mkB (kindS k) :: (splB (name.data.toList ++ [59])).map mkB))) = (wordsN (.mk 1 name r k [])).map mkB := by
  rw [h1, spl_name hn]
  simp only [wordsN]
  rw [if_neg (by omega)]
  rfl
 have h3 := nodeF_of (t0 := .mk 1 name r k []) (fit_leaf hr hk hn ⟨by decide, by decide⟩) hP h2 nx
 rw [h3]
 rfl
theorem again_add {name : ByteArray} {l n : List Nd} {nx next : Int} (h : editW (wordsB (lineA name)) l nx = .ok n next) : isNameB name = true ∧ n = l ++ [.mk nx name 1 2 []] ∧ next = nx + 1 := by
 have hw := words_A name
 rw [hw] at h
 simp only [editW] at h
 rw [if_pos (by simp)] at h
 unfold addF at h
 rw [numF_zero] at h
 dsimp only at h
 split at h
 ·cases h
 ·rename_i t nx' hnd
  have hnd2 := hnd
  obtain ⟨t0, f1, f2, f3, rfl, rfl⟩ := nodeF_some hnd
  rw [words_rest (a := [bAdd, bZero]) hw (by simp)] at f3
  have f4 := maps_inj (a := repS 1 :: kindS 2 :: splB (name.data.toList ++ [59])) f3
  obtain ⟨i0, nm, r, k, s⟩ := t0
  obtain ⟨⟨b1, b2, b3, b4, b5, b6, b7⟩, hs⟩ := f2
  simp only [Nd.rep, Nd.kind, Nd.sub, Nd.name] at b1 b2 b3 b4 b5 b6 b7
  have hk : k = 2 := by
   refine (kindS_inj (j := k) (by decide) (by decide) b3 b4 ?_).symm
   simp only [wordsN] at f4
   split at f4
   ·exact (List.cons.inj (List.cons.inj f4).2).1
   ·exact (List.cons.inj (List.cons.inj f4).2).1
  subst hk
  have hs0 := b5 (by decide)
  subst hs0
  simp only [wordsN] at f4
  rw [if_neg (by decide)] at f4
  obtain ⟨e1, e2⟩ := List.cons.inj f4
  obtain ⟨_, e3⟩ := List.cons.inj e2
  have hr : r = 1 := (repS_inj (by decide) (by decide) b1 b2 e1).symm
  subst hr
  have e4 := congrArg joinL e3
  rw [joinL_spl] at e4
  have e5 : name = nm := byte_eq (List.append_cancel_right (show name.data.toList ++ [59] = nm.data.toList ++ [59] from e4))
  subst e5
  rw [if_pos rfl] at h
  obtain ⟨rfl, rfl⟩ := EdR.ok.inj h
  exact ⟨b7, rfl, rfl⟩
theorem lineD_words {n : Int} (h : ∀ x ∈ Lib.itoa n, digits.contains x = true) : wordsB (lineD n) = [bDrop, mkB (Lib.itoa n)] := by
 unfold wordsB lineD
 rw [mkB_data]
 rw [show ([100, 114, 111, 112, 32] : List UInt8) ++ Lib.itoa n = [100, 114, 111, 112] ++ 32 :: Lib.itoa n from rfl, splB_app _ _ (by decide), splB_no _ (fun b hb e => by
  have := h b hb
  rw [e] at this
  exact absurd this (by decide))]
 rfl
theorem numF_fin : ∀ p : Fin 1001, numF (dig4 p.val) = some (p.val : Int) := by decide +kernel
theorem numF_itoa {n : Int} (h1 : 0 ≤ n) (h2 : n ≤ 1000) : numF (Lib.itoa n) = some n ∧ ∀ x ∈ Lib.itoa n, digits.contains x = true := by
 obtain ⟨k, rfl⟩ := Int.eq_ofNat_of_zero_le h1
 have hk : k ≤ 1000 := by omega
 have e : Lib.itoa (k : Int) = dig4 k := by
  rw [← dec_four k hk]
  rfl
 refine ⟨by rw [e]; exact numF_fin ⟨k, by omega⟩, ?_⟩
 by_cases h0 : k = 0
 ·subst h0
  rw [e]; decide
 ·exact (num_all (by omega) (by omega)).2.1
mutual
theorem drop_keepN {id : Int} : ∀ n : Nd, id ∉ idsN n → n.All (fun n => n.kind = 0 → n.sub ≠ []) → dropN id n = n ∧ delB id n = false
 | .mk i nm r k s, hn, hA => by
  simp only [idsN, List.mem_cons, not_or] at hn
  have h1 := drop_keepL s hn.2 hA.2
  have h2 : k = 0 → s ≠ [] := hA.1
  refine ⟨by rw [dropN, h1], ?_⟩
  simp only [delB, Nd.id, Nd.kind, Nd.sub, Bool.or_eq_false_iff, Bool.and_eq_false_imp, decide_eq_false_iff_not, decide_eq_true_eq]
  refine ⟨decide_eq_false (fun e => hn.1 e.symm), fun hk => ?_⟩
  replace hk : k = 0 := of_decide_eq_true hk
  cases hs : s with
  | nil => exact absurd hs (h2 hk)
  | cons x xs => rfl
theorem drop_keepL {id : Int} : ∀ l : List Nd, id ∉ idsL l → Nd.Alls (fun n => n.kind = 0 → n.sub ≠ []) l → ((dropL id l).filter fun x => !delB id x) = l
 | [], _, _ => rfl
 | n :: ns, hn, hA => by
  simp only [idsL, List.mem_append, not_or] at hn
  obtain ⟨h1, h2⟩ := drop_keepN n hn.1 hA.1
  rw [dropL, h1, List.filter_cons_of_pos (by rw [h2]; rfl), drop_keepL ns hn.2 hA.2]
end
theorem fit_groups {l : List Nd} (h : Fit l) : Nd.Alls (fun n => n.kind = 0 → n.sub ≠ []) l :=
 Nd.Alls.imp (fun n hn => hn.2.2.2.2.2.1) l (schema_of_valid (valid_of h)).right
theorem dropL_app (id : Int) (a b : List Nd) : dropL id (a ++ b) = dropL id a ++ dropL id b := by rw [dropL_eq, dropL_eq, dropL_eq, List.map_append]
theorem again_drop {l : List Nd} {x : Nd} {nx next : Int} (hf : Fit l) (hx : x.id = nx) (hno : nx ∉ idsL l) (h0 : 0 ≤ nx ∧ nx ≤ 1000) : editW (wordsB (lineD nx)) (l ++ [x]) next = .ok l next := by
 obtain ⟨hnum, hdig⟩ := numF_itoa h0.1 h0.2
 rw [lineD_words hdig]
 simp only [editW]
 rw [if_neg (by simp), show manyF bDrop = some 1 from by decide +kernel]
 dsimp only
 rw [if_neg (by simp), mkB_data, hnum]
 dsimp only
 rw [if_neg (by decide +kernel)]
 unfold opF
 have hfx : fndL nx (l ++ [x]) = some x := by
  rw [fndL_skip [] l hno]
  obtain ⟨i, nm, r, k, s⟩ := x
  simp only [Nd.id] at hx
  rw [fndN, if_pos hx]
 rw [hfx]
 dsimp only
 rw [if_pos rfl, dropL_app, List.filter_append, drop_keepL l hno (fit_groups hf)]
 congr 1
 obtain ⟨i, nm, r, k, s⟩ := x
 simp only [Nd.id] at hx
 simp [dropL, dropN, delB, Nd.id, hx]
theorem fit_tail {l : List Nd} {a b nx nm r k r' k'} (h : Fit (l ++ [.mk a nm r k []])) (hr : 1 ≤ r' ∧ r' ≤ 3) (hk : 1 ≤ k' ∧ k' ≤ 5) (hb : 1 ≤ b ∧ b ≤ 1000) (hno : b ∉ idsL l) (e : nx = b) : Fit (l ++ [.mk nx nm r' k' []]) := by
 subst e
 have hsplit : Nd.Alls (fun n => (v3F n ()).1 = true) l ∧ Nd.Alls (fun n => namesB n.sub = true) l := by
  have h1 := h.nodes
  have h2 := h.deep
  rw [alls_iff] at h1 h2
  exact ⟨alls_iff.2 fun n hn => h1 n (List.mem_append_left _ hn), alls_iff.2 fun n hn => h2 n (List.mem_append_left _ hn)⟩
 have hname : isNameB nm = true := by
  have h1 := h.names
  unfold namesB at h1
  rw [Bool.and_eq_true, List.all_eq_true] at h1
  exact h1.1 (.mk a nm r k []) (by simp)
 have hl := fit_leaf (a := nx) hr hk hname hb
 have hh := h.high
 have hw := h.small
 have hnd := h.nodup
 rw [highs_append] at hh
 rw [weighs_append] at hw
 rw [idsL_append] at hnd
 refine ⟨by simp, ?_, ?_, alls_append _ _ hsplit.1 hl.nodes, ?_, alls_append _ _ hsplit.2 hl.deep, ?_, ?_⟩
 ·rw [highs_append]; simpa [Nd.highs, Nd.high] using hh
 ·rw [weighs_append]; simpa [Nd.weighs, Nd.weigh] using hw
 ·rw [namesB_of (m := l ++ [.mk a nm r k []]) (by simp [Nd.name])]; exact h.names
 ·rw [idsL_append, List.nodup_append]
  refine ⟨(List.nodup_append.1 hnd).1, hl.nodup, fun x hx y hy e => ?_⟩
  simp only [idsL, idsN, List.append_nil, List.mem_singleton] at hy
  subst hy; subst e
  exact hno hx
 ·intro x hx
  rw [idsL_append, List.mem_append] at hx
  rcases hx with hx | hx
  ·exact h.range x (by rw [idsL_append]; exact List.mem_append_left _ hx)
  ·exact hl.range x hx
/-- THE LAW: behind the first node's adding, all goes on; the second one has the next number. -/
theorem again_law {es : List ByteArray} {name : ByteArray} {n : List Nd} {next : Int} (hlen : es.length ≤ 57) (hsz : ((es.map ByteArray.size).sum : Nat) ≤ 4000) (hnm : name.size ≤ 20) (h : replayF (es ++ [lineA name]) = .ok n next) (hn : 2 ≤ n.length) :
  isNameB name = true ∧ ∃ l, l ≠ [] ∧ n = l ++ [.mk (next - 1) name 1 2 []] ∧ 2 ≤ next ∧ next ≤ 1000 ∧ replayF (es ++ [lineA name, lineD (next - 1), lineB name]) = .ok (l ++ [.mk next name 2 4 []]) (next + 1) := by
 unfold replayF at h ⊢
 rw [if_neg (by simp only [List.length_append, List.length_cons, List.length_nil]; omega)] at h ⊢
 obtain ⟨l, nx, h1, h2⟩ := (replay_app _ _ _ _ _ _ _).1 h
 obtain ⟨l1, n1, h3, h4⟩ := replay_cons h2
 obtain ⟨rfl, rfl⟩ := RepR.ok.inj h4
 obtain ⟨hname, rfl, rfl⟩ := again_add h3.1
 obtain ⟨hS, _, hb⟩ := Sound.go es 0 [] l 1 nx sound0 h1
 have hl : l ≠ [] := by
  rintro rfl
  simp at hn
 have hfl : Fit l := hS.fit.resolve_left hl
 have hfn : Fit (l ++ [.mk nx name 1 2 []]) := h3.2.resolve_left (by simp)
 have hp := hS.pos
 have hno : nx ∉ idsL l := fun hx => by have := hS.ids nx hx; omega
 have hno2 : nx + 1 ∉ idsL l := fun hx => by have := hS.ids _ hx; omega
 refine ⟨hname, l, hl, by rw [Int.add_sub_cancel], by omega, by omega, ?_⟩
 rw [Int.add_sub_cancel]
 refine (replay_app _ _ _ _ _ _ _).2 ⟨l, nx, h1, ?_⟩
 have hd : EStep (lineD nx) (l ++ [.mk nx name 1 2 []]) (nx + 1) l (nx + 1) := ⟨again_drop (x := .mk nx name 1 2 []) hfl rfl hno (by omega), .inr hfl⟩
 rw [replay_step h3, replay_step hd]
 refine replay_step (l' := l ++ [.mk (nx + 1) name 2 4 []]) (nx' := nx + 1 + 1) ⟨?_, .inr (fit_tail (b := nx + 1) hfn (by decide) (by decide) (by omega) hno2 rfl)⟩
 have hw := words_B name
 rw [hw]
 simp only [editW]
 rw [if_pos (by simp)]
 unfold addF
 rw [numF_zero]
 dsimp only
 rw [add_leaf (a := bAdd) (b := bAdd) (by decide) (by decide) hw hname]
 rfl
end Go.Proofs.YtgcmfpcgmkkobaaGreatDoor
