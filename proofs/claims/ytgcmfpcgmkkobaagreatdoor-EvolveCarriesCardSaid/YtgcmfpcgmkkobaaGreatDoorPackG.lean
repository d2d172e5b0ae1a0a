/-
 shredcollaw2.leaf: the law's closed fact.
 shredcolref2.FindOf: the first place with an ID.
 shredcolref2.UnderOf: the leaves' IDs in a node, by the list of all places; SameInts.
 schema.Under: the leaves' IDs in the node with an ID.
-/
import Derived.Test.YtgcmfpcgmkkobaaGreatDoorPackF
import Derived.Test.YtgcmfpcgmkkobaaGreatDoorPackA
import Derived.Test.YtgcmfpcgmkkobaaGreatDoorPackB
set_option linter.unusedVariables false
set_option linter.unusedSimpArgs false
namespace Go.Proofs.YtgcmfpcgmkkobaaGreatDoor
open Go.RowKit

theorem rep_len : ∀ p : Fin 4, (repS (p.val : Int)).length ≤ 8 := by decide +kernel
theorem kind_len : ∀ p : Fin 6, (kindS (p.val : Int)).length ≤ 6 := by decide +kernel
theorem head_len {n : Nd} (h : Right n) (ind : List UInt8) : (headS n.id n.name n.rep n.kind ind).length ≤ ind.length + 36 := by
 obtain ⟨b1, b2, b3, b4, b5, b6, b7, b8, b9⟩ := h
 obtain ⟨rn, hrn⟩ := Int.eq_ofNat_of_zero_le (show 0 ≤ n.rep by omega)
 obtain ⟨kn, hkn⟩ := Int.eq_ofNat_of_zero_le b3
 have h1 := rep_len ⟨rn, by omega⟩
 have h2 := kind_len ⟨kn, by omega⟩
 have h3 := (num_all b8 b9).2.2
 have h4 : n.name.size ≤ 12 := by
  unfold isNameB at b7
  rw [Bool.and_eq_true, Bool.and_eq_true] at b7
  exact of_decide_eq_true b7.1.2
 simp only at h1 h2
 unfold headS
 rw [hrn, hkn]
 simp only [List.length_append, List.length_cons, List.length_nil, length_data]
 omega
mutual
theorem text_len : ∀ (n : Nd) (ind : List UInt8) (M : Nat), n.All Right → ind.length + 2 * n.high ≤ M → (textN n ind).length ≤ n.weigh * (2 * M + 60)
 | .mk i nm r k s, ind, M, hA, hM => by
  have h1 := head_len hA.1 ind
  simp only [Nd.id, Nd.name, Nd.rep, Nd.kind] at h1
  simp only [Nd.high] at hM
  have h2 := texts_len s (ind ++ [32, 32]) M hA.2 (by simp only [List.length_append, List.length_cons, List.length_nil]; omega)
  simp only [textN, Nd.weigh, Nat.add_mul, Nat.one_mul]
  rw [List.length_append]
  split
  ·simp only [List.length_append, List.length_cons, List.length_nil]
   omega
  ·simp only [List.length_cons, List.length_nil]
   omega
theorem texts_len : ∀ (l : List Nd) (ind : List UInt8) (M : Nat), Nd.Alls Right l → ind.length + 2 * Nd.highs l ≤ M → (textL l ind).length ≤ Nd.weighs l * (2 * M + 60)
 | [], ind, M, hA, hM => by simp [textL]
 | n :: ns, ind, M, hA, hM => by
  simp only [Nd.highs] at hM
  have h1 := text_len n ind M hA.1 (by omega)
  have h2 := texts_len ns ind M hA.2 (by omega)
  simp only [textL, Nd.weighs, List.length_append, Nat.add_mul]
  omega
end
mutual
theorem fine_of : ∀ (n : Nd), n.All Right → n.fine
 | .mk i nm r k s, h => ⟨h.1.1, h.1.2.1, h.1.2.2.1, h.1.2.2.2.1, fines_of s h.2⟩
theorem fines_of : ∀ (l : List Nd), Nd.Alls Right l → Nd.fines l
 | [], h => trivial
 | n :: ns, h => ⟨fine_of n h.1, fines_of ns h.2⟩
end
theorem good_of {nd : Nd} (hv : validF nd = none) : Nd.fines nd.sub ∧ (textL nd.sub []).length ≤ 140737488355328 := by
 have hS := schema_of_valid hv
 have h1 := hS.high
 have h2 := hS.small
 refine ⟨fines_of _ hS.right, ?_⟩
 have h3 := texts_len nd.sub [] 12 hS.right (by
  obtain ⟨i, nm, r, k, s⟩ := nd
  simp only [Nd.high, Nd.sub] at h1 ⊢
  simp only [List.length_nil]
  omega)
 have h4 : Nd.weighs nd.sub ≤ 40 := by
  obtain ⟨i, nm, r, k, s⟩ := nd
  simp only [Nd.weigh, Nd.sub] at h2 ⊢
  omega
 have h5 : Nd.weighs nd.sub * (2 * 12 + 60) ≤ 40 * (2 * 12 + 60) := Nat.mul_le_mul_right _ h4
 omega

def leafText : ByteArray := ⟨#[114, 101, 113, 117, 105, 114, 101, 100, 32, 105, 110, 116, 32, 97, 32, 35, 49, 59]⟩
def leafNd : Nd := .mk 0 rootName 1 0 [.mk 1 ⟨#[97]⟩ 1 2 []]
theorem leaf_valid : validF leafNd = none := by kernel_rfl
theorem leaf_read : readF leafText = .ok leafNd := by
 have h1 : headN 2 (skipW leafText.data.toList) = .leaf (.mk 1 ⟨#[97]⟩ 1 2 []) [] := by kernel_rfl
 have hp : parseL 2 (skipW leafText.data.toList) = .ok [.mk 1 ⟨#[97]⟩ 1 2 []] [] := by
  rw [parse_leaf h1, parse_stop (show headN 2 [] = .stop from if_pos (.inr ⟨rfl, by decide⟩))]
  rfl
 unfold readF
 rw [if_neg (by decide), hp]
 simp only [show tok [] = [] from rfl, if_true]
 rw [show validF (.mk 0 rootName 1 0 [.mk 1 ⟨#[97]⟩ 1 2 []]) = none from leaf_valid]
 rfl
theorem leaf_text : textF leafNd = [114, 101, 113, 117, 105, 114, 101, 100, 32, 105, 110, 116, 32, 97, 32, 35, 49, 59, 10] := by
 unfold textF
 rw [if_pos leaf_valid]
 have h1 : Lib.itoa 1 = [49] := by
  unfold Lib.itoa
  rw [if_neg (by decide), dec_four _ (by decide)]
  rfl
 simp only [leafNd, Nd.sub, textL, textN, headS, h1]
 rfl
theorem leafNd_ok : leafNd.ok := by
 refine ⟨⟨by decide, by decide⟩, by decide, ⟨by decide, by decide⟩, ⟨by decide, by decide⟩, by decide, ⟨⟨by decide, by decide⟩, by decide, ⟨by decide, by decide⟩, ⟨by decide, by decide⟩, by decide, trivial⟩, trivial⟩

theorem Glo.up {B B' : Nat} {E : Er → Value} {w : World} (h : Glo B E w) (hB : B ≤ B') : Glo B' E w :=
 ⟨h.errs, h.tabs.up hB, h.syn, h.ran, ⟨fun e => by have := h.below.1 e; omega, by have := h.below.2.1; omega, by have := h.below.2.2; omega⟩⟩

end Go.Proofs.YtgcmfpcgmkkobaaGreatDoor
namespace Go.Proofs.YtgcmfpcgmkkobaaGreatDoor
open Go.RowKit

def findP (id : Int) (L : List Pl) : Option Pl := L.find? (fun p => decide (p.n.id = id))
def RetFo (S : Nat → Prop) (o : Option Pl) (w : World) (en : Ending) (w' : World) : Prop :=
 Chg NoB w w' ∧ match o with
  | some p => ∃ cs, en = .returned (.tuple #[.agg cs.toArray, .bool true]) ∧ Reads w' (fun b => S b ∨ w.heap.size ≤ b) p.n.dt cs
  | none => en = .returned (.tuple #[zeroNode, .bool false])
def FoRel (id : Int) (L : List Pl) (w : World) (rb : Nat) (vi : Value) (wr : World) : Prop := ∃ j : Nat, j ≤ L.length ∧ vi = .int .i64 (j : Nat) ∧ Chg NoB w wr ∧ Blk wr rb (ndCells 0 ⟨#[]⟩ 0 0 (.slice none 0 0)) 28 ∧ findP id (L.take j) = none

end Go.Proofs.YtgcmfpcgmkkobaaGreatDoor
namespace Go.Proofs.YtgcmfpcgmkkobaaGreatDoor
open Go.RowKit

def underL (L : List Pl) : List Int := (L.filter (fun p => !decide (p.n.kind = 0))).map (fun p => p.n.id)
def UoRel (L : List Pl) (w w2 : World) (B : Nat) (vl vi : Value) (wr : World) : Prop :=
 ∃ j ao cap, j ≤ L.length ∧ vi = .int .i64 (j : Nat) ∧ vl = .slice ao (underL (L.take j)).length cap ∧ (Chg NoB w wr ∧ Chg NoB w2 wr) ∧ Own wr B 3 1 (fun _ => False) vl ((underL (L.take j)).map intDt)
theorem underL_len (L : List Pl) : (underL L).length ≤ L.length := by
 unfold underL
 rw [List.length_map]
 exact List.length_filter_le _ _

end Go.Proofs.YtgcmfpcgmkkobaaGreatDoor
namespace Go.Proofs.YtgcmfpcgmkkobaaGreatDoor
open Go.RowKit

def underG (n : Nd) (_ : Int) (l : List Int) : Bool × List Int := (true, if n.kind = 0 then l else l ++ [n.id])
def GoU (k : Nat) (l : List Int) : Prop := l.length + k ≤ 1099511627776

def underW (n : Nd) : List Int := (walkF underG n 0 []).2
mutual
theorem under_true : ∀ (n : Nd) (d : Int) (s : List Int), (walkF underG n d s).1 = true
 | .mk i nm r k sb, d, s => by
  simp only [walkF, underG]
  exact under_trues sb _ _
theorem under_trues : ∀ (l : List Nd) (d : Int) (s : List Int), (walkFs underG l d s).1 = true
 | [], d, s => rfl
 | n :: ns, d, s => by
  simp only [walkFs]
  have := under_true n d s
  rcases hw : walkF underG n d s with ⟨b, s'⟩
  rw [hw] at this
  simp only at this
  subst this
  exact under_trues ns d s'
end
mutual
theorem under_len : ∀ (n : Nd) (d : Int) (s : List Int), (walkF underG n d s).2.length ≤ s.length + n.weigh
 | .mk i nm r k sb, d, s => by
  simp only [walkF, underG, Nd.weigh]
  have h1 := under_lens sb (d + 1) (if (Nd.mk i nm r k sb).kind = 0 then s else s ++ [(Nd.mk i nm r k sb).id])
  split at h1
  ·rename_i h; rw [if_pos h]; omega
  ·rename_i h; rw [if_neg h]; simp only [List.length_append, List.length_cons, List.length_nil] at h1; omega
theorem under_lens : ∀ (l : List Nd) (d : Int) (s : List Int), (walkFs underG l d s).2.length ≤ s.length + Nd.weighs l
 | [], d, s => by simp [walkFs, Nd.weighs]
 | n :: ns, d, s => by
  simp only [walkFs, Nd.weighs]
  have h0 := under_len n d s
  have h1 := under_true n d s
  rcases hw : walkF underG n d s with ⟨b, s'⟩
  rw [hw] at h0 h1
  simp only at h0 h1
  subst h1
  have := under_lens ns d s'
  simp only
  omega
end
theorem underW_len (n : Nd) : (underW n).length ≤ n.weigh := by
 have := under_len n 0 []
 simpa [underW] using this
def RetUn (E : Er → Value) (N : Value) (r : PJ) (w : World) (en : Ending) (w' : World) : Prop :=
 Chg NoB w w' ∧ match r with
  | .ok n => ∃ a c, en = .returned (.tuple #[.slice a (underW n).length c, .nilIface]) ∧ Reads w' (fun b => w.heap.size ≤ b) (.list 1 ((underW n).map intDt)) [.slice a (underW n).length c]
  | .er e => en = .returned (.tuple #[.slice none 0 0, E e])
  | .non => en = .returned (.tuple #[.slice none 0 0, N])

end Go.Proofs.YtgcmfpcgmkkobaaGreatDoor
