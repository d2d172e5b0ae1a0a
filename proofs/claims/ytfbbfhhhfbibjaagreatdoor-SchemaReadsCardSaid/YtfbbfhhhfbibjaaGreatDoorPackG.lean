/-
  shredcollaw2.leaf: the law's closed fact.
  shredcolref2.FindOf: the first place with an ID.
  shredcolref2.UnderOf: the leaves' IDs in a node, by the list of all places; SameInts.
  schema.Under: the leaves' IDs in the node with an ID.
  schema.Leaves.
-/
import Derived.Test.YtfbbfhhhfbibjaaGreatDoorPackF
import Derived.Test.YtfbbfhhhfbibjaaGreatDoorPackA
import Derived.Test.YtfbbfhhhfbibjaaGreatDoorPackB
set_option linter.unusedVariables false
set_option linter.unusedSimpArgs false
namespace Go.Proofs.YtfbbfhhhfbibjaaGreatDoor
open Go.RowKit

theorem rep_len : ∀ p : Fin 4, (repS (p.val : Int)).length ≤ 8 := by decide +kernel
theorem kind_len : ∀ p : Fin 6, (kindS (p.val : Int)).length ≤ 6 := by decide +kernel
theorem head_len {n : Nd} (h : Right n) (ind : List UInt8) : (headS n.id n.name n.rep n.kind ind).length ≤ ind.length + 36 := by
  obtain ⟨b1, b2, b3, b4, b5, b6, b7, b8, b9⟩ := h
  obtain ⟨rn, hrn⟩ := Int.eq_ofNat_of_zero_le (show 0 ≤ n.rep by omega)
  obtain ⟨kn, hkn⟩ := Int.eq_ofNat_of_zero_le b3
  have h1 := rep_len ⟨rn, by omega⟩
  have h2 := kind_len ⟨kn, by omega⟩
  have h3 := (num_all b8 b9).2.2
  have h4 : n.name.size ≤ 12 := by
    unfold isNameB at b7
    rw [Bool.and_eq_true, Bool.and_eq_true] at b7
    exact of_decide_eq_true b7.1.2
  simp only at h1 h2
  unfold headS
  rw [hrn, hkn]
  simp only [List.length_append, List.length_cons, List.length_nil, length_data]
  omega
mutual
theorem text_len : ∀ (n : Nd) (ind : List UInt8) (M : Nat), n.All Right → ind.length + 2 * n.high ≤ M → (textN n ind).length ≤ n.weigh * (2 * M + 60)
  | .mk i nm r k s, ind, M, hA, hM => by
    have h1 := head_len hA.1 ind
    simp only [Nd.id, Nd.name, Nd.rep, Nd.kind] at h1
    simp only [Nd.high] at hM
    have h2 := texts_len s (ind ++ [32, 32]) M hA.2 (by simp only [List.length_append, List.length_cons, List.length_nil]; omega)
    simp only [textN, Nd.weigh, Nat.add_mul, Nat.one_mul]
    rw [List.length_append]
    split
    · simp only [List.length_append, List.length_cons, List.length_nil]
      omega
    · simp only [List.length_cons, List.length_nil]
      omega
theorem texts_len : ∀ (l : List Nd) (ind : List UInt8) (M : Nat), Nd.Alls Right l → ind.length + 2 * Nd.highs l ≤ M → (textL l ind).length ≤ Nd.weighs l * (2 * M + 60)
  | [], ind, M, hA, hM => by simp [textL]
  | n :: ns, ind, M, hA, hM => by
    simp only [Nd.highs] at hM
    have h1 := text_len n ind M hA.1 (by omega)
    have h2 := texts_len ns ind M hA.2 (by omega)
    simp only [textL, Nd.weighs, List.length_append, Nat.add_mul]
    omega
end
mutual
theorem fine_of : ∀ (n : Nd), n.All Right → n.fine
  | .mk i nm r k s, h => ⟨h.1.1, h.1.2.1, h.1.2.2.1, h.1.2.2.2.1, fines_of s h.2⟩
theorem fines_of : ∀ (l : List Nd), Nd.Alls Right l → Nd.fines l
  | [], h => trivial
  | n :: ns, h => ⟨fine_of n h.1, fines_of ns h.2⟩
end
theorem good_of {nd : Nd} (hv : validF nd = none) : Nd.fines nd.sub ∧ (textL nd.sub []).length ≤ 140737488355328 := by
  have hS := schema_of_valid hv
  have h1 := hS.high
  have h2 := hS.small
  refine ⟨fines_of _ hS.right, ?_⟩
  have h3 := texts_len nd.sub [] 12 hS.right (by
    obtain ⟨i, nm, r, k, s⟩ := nd
    simp only [Nd.high, Nd.sub] at h1 ⊢
    simp only [List.length_nil]
    omega)
  have h4 : Nd.weighs nd.sub ≤ 40 := by
    obtain ⟨i, nm, r, k, s⟩ := nd
    simp only [Nd.weigh, Nd.sub] at h2 ⊢
    omega
  have h5 : Nd.weighs nd.sub * (2 * 12 + 60) ≤ 40 * (2 * 12 + 60) := Nat.mul_le_mul_right _ h4
  omega

def leafText : ByteArray := ⟨#[114, 101, 113, 117, 105, 114, 101, 100, 32, 105, 110, 116, 32, 97, 32, 35, 49, 59]⟩
def leafNd : Nd := .mk 0 rootName 1 0 [.mk 1 ⟨#[97]⟩ 1 2 []]
theorem leaf_valid : validF leafNd = none := by kernel_rfl
theorem leaf_read : readF leafText = .ok leafNd := by
  have h1 : headN 2 (skipW leafText.data.toList) = .leaf (.mk 1 ⟨#[97]⟩ 1 2 []) [] := by kernel_rfl
  have hp : parseL 2 (skipW leafText.data.toList) = .ok [.mk 1 ⟨#[97]⟩ 1 2 []] [] := by
    rw [parse_leaf h1, parse_stop (show headN 2 [] = .stop from if_pos (.inr ⟨rfl, by decide⟩))]
    rfl
  unfold readF
  rw [if_neg (by decide), hp]
  simp only [show tok [] = [] from rfl, if_true]
  rw [show validF (.mk 0 rootName 1 0 [.mk 1 ⟨#[97]⟩ 1 2 []]) = none from leaf_valid]
  rfl
theorem leaf_text : textF leafNd = [114, 101, 113, 117, 105, 114, 101, 100, 32, 105, 110, 116, 32, 97, 32, 35, 49, 59, 10] := by
  unfold textF
  rw [if_pos leaf_valid]
  have h1 : Lib.itoa 1 = [49] := by
    unfold Lib.itoa
    rw [if_neg (by decide), dec_four _ (by decide)]
    rfl
  simp only [leafNd, Nd.sub, textL, textN, headS, h1]
  rfl
theorem leafNd_ok : leafNd.ok := by
  refine ⟨⟨by decide, by decide⟩, by decide, ⟨by decide, by decide⟩, ⟨by decide, by decide⟩, by decide, ⟨⟨by decide, by decide⟩, by decide, ⟨by decide, by decide⟩, ⟨by decide, by decide⟩, by decide, trivial⟩, trivial⟩

theorem Glo.up {B B' : Nat} {E : Er → Value} {w : World} (h : Glo B E w) (hB : B ≤ B') : Glo B' E w :=
  ⟨h.errs, h.tabs.up hB, h.syn, h.ran, ⟨fun e => by have := h.below.1 e; omega, by have := h.below.2.1; omega, by have := h.below.2.2; omega⟩⟩

set_option maxHeartbeats 1000000 in
set_option maxRecDepth 100000 in
theorem leaf_any (w : World) (E : Er → Value) (hG : Glo w.heap.size E w) : Calls Tryz.prog 8 #[] w (RetV (.bool true) w) := by
  go_enter Tryz.func8, Tryz.ntmps8
  go_wp2_with fail
  have h1 := read_any leafText w E hG (by decide)
  rw [leaf_read] at h1
  refine h1.mono ?_
  rintro en w1 ⟨hc1, cs, rfl, hrd⟩
  have hrd' : Reads w1 (fun b => w.heap.size ≤ b) (Nd.dt (.mk 0 rootName 1 0 [.mk 1 ⟨#[97]⟩ 1 2 []])) cs := hrd
  obtain ⟨v, rfl, hs⟩ := reads_nd.1 hrd'
  obtain ⟨sa, cap, rfl, _, _, _⟩ := reads_subs hs
  go_wp2_with fail
  generalize hw2 : w1.alloc _ = w2
  have hc2 : Chg NoB w1 w2 := by
    rw [← hw2]
    repeat (first | exact Chg.refl _ _ | apply Chg.alloc | apply Chg.drew)
  clear hw2
  have hc02 := hc1.tr hc2
  have hsz := hc02.size
  have hG2 := hG.keep0 hc02
  have h2 := text_any leafNd w2 (fun b => w.heap.size ≤ b ∧ b < w1.heap.size) _ E hG2.errs (hG2.tabs.up hsz) leafNd_ok (hrd.lt.chg0 hc2) (fun b hb => by have := hc2.size; omega) good_of
  rw [leaf_text, leaf_valid] at h2
  refine h2.mono ?_
  rintro en w3 ⟨rfl, hc3⟩
  rw [show errVal E none = .nilIface from rfl]
  go_wp2_with fail
  go_ret
  exact ⟨rfl, hc02.tr hc3⟩

end Go.Proofs.YtfbbfhhhfbibjaaGreatDoor
namespace Go.Proofs.YtfbbfhhhfbibjaaGreatDoor
open Go.RowKit

def findP (id : Int) (L : List Pl) : Option Pl := L.find? (fun p => decide (p.n.id = id))
def RetFo (S : Nat → Prop) (o : Option Pl) (w : World) (en : Ending) (w' : World) : Prop :=
  Chg NoB w w' ∧ match o with
    | some p => ∃ cs, en = .returned (.tuple #[.agg cs.toArray, .bool true]) ∧ Reads w' (fun b => S b ∨ w.heap.size ≤ b) p.n.dt cs
    | none => en = .returned (.tuple #[zeroNode, .bool false])
def FoRel (id : Int) (L : List Pl) (w : World) (rb : Nat) (vi : Value) (wr : World) : Prop := ∃ j : Nat, j ≤ L.length ∧ vi = .int .i64 (j : Nat) ∧ Chg NoB w wr ∧ Blk wr rb (ndCells 0 ⟨#[]⟩ 0 0 (.slice none 0 0)) 24 ∧ findP id (L.take j) = none

set_option maxHeartbeats 1000000 in
set_option maxRecDepth 100000 in
theorem findOf_any (nd : Nd) (id : Int) (w : World) (S : Nat → Prop) (cs : List Value) (hr : Reads w S nd.dt cs) (hok : nd.ok) (hSB : ∀ b, S b → b < w.heap.size) :
    Calls Tryz.prog 23 #[.agg cs.toArray, .int .i64 id] w (RetFo S (findP id (flatOf nd)) w) := by
  have hr' := hr
  obtain ⟨i, nm, r, k, sb⟩ := nd
  obtain ⟨sv, rfl, hs⟩ := reads_nd.1 hr'
  obtain ⟨sa, cap, rfl, _, _, _⟩ := reads_subs hs
  go_enter Tryz.func23, Tryz.ntmps23
  go_wp2_with fail
  generalize hw1 : (w.alloc _).alloc _ = w1
  have hc1 : Chg NoB w w1 := by
    rw [← hw1]
    repeat (first | exact Chg.refl _ _ | apply Chg.alloc | apply Chg.drew)
  have hb1 : Blk w1 (w.heap.size + 1) (ndCells 0 ⟨#[]⟩ 0 0 (.slice none 0 0)) 24 := by
    rw [← hw1]
    repeat (first | exact Blk.newAt (by first | rfl | (simp; done) | (simp; omega)) | apply Blk.alloc | apply Blk.drew)
  clear hw1
  refine (Flat_any (.mk i nm r k sb) w1 S _ (hr.chg0 hc1) hok).mono ?_
  rintro en w2 ⟨ao, c2, rfl, hrl, hc2⟩
  have hb2 := hb1.keep hc2 NoB.elim
  have hsz1 := hb1.lt
  replace hc2 := hc1.tr hc2
  rw [List.length_map] at hrl ⊢
  generalize flatOf (.mk i nm r k sb) = L at *
  obtain ⟨oa, oc, he, hL1, hL2, hel⟩ := reads_list hrl
  rw [List.length_map] at he hL1 hel
  obtain ⟨rfl, -, rfl⟩ := Value.slice.inj he
  clear he
  have hL63 : L.length ≤ 9223372036854775807 := by unfold maxLen at hL2; omega
  have Hel := Lib.hid hel
  clear hel hrl
  go_wp2_with fail
  go_loopw [7] (fun vi wr => FoRel id L w2 (w.heap.size + 1) vi wr) (fun vi _ => L.length - (intOf vi).toNat)
  case atStart => exact ⟨0, Nat.zero_le _, rfl, Chg.refl _ _, hb2, rfl⟩
  case round =>
    obtain ⟨j, hj, rfl, hcr, hbr, hnone⟩ := hrel
    have Hnone := Lib.hid hnone
    clear hnone
    by_cases hlt : j < L.length
    · obtain ⟨b, off, rfl, hSb, hbw, hE⟩ := Hel.out (by omega)
      obtain ⟨ecs, hl7, hcells, hre⟩ := hE.get j L[j].dt (by simp [hlt])
      have htake : L.take (j + 1) = L.take j ++ [L[j]] := List.take_succ_eq_append_getElem hlt
      have hsplit : L = L.take j ++ L[j] :: L.drop (j + 1) := by rw [List.getElem_cons_drop, List.take_append_drop]
      generalize L[j] = p at hre htake hsplit
      have Htake := Lib.hid htake
      have Hsplit := Lib.hid hsplit
      clear htake hsplit hE
      obtain ⟨⟨i1, nj, r1, k1, s1⟩, d1, a1⟩ := p
      obtain ⟨c, r', rfl, hnd, hrest⟩ := hre
      obtain ⟨v1, rfl, hs1⟩ := reads_nd.1 hnd
      obtain ⟨sa1, cap1, rfl, _, _, _⟩ := reads_subs hs1
      have hf : ∀ t c, ([Value.int .i64 i1, .string nj, .int .i64 r1, .int .i64 k1, .slice sa1 s1.length cap1] ++ r')[t]? = some c → wr.cell? ⟨b, off + j * 7 + t, none⟩ = some c := fun t c ht => (hcr.cell (p := ⟨b, off + j * 7 + t, none⟩) hbw (fun e => e)).trans (hcells t c ht)
      have e0 : wr.cell? ⟨b, off + j * 7, none⟩ = some (.int .i64 i1) := hf 0 _ rfl
      have e1 : wr.cell? ⟨b, off + j * 7 + 1, none⟩ = some (.string nj) := hf 1 _ rfl
      have e2 : wr.cell? ⟨b, off + j * 7 + 2, none⟩ = some (.int .i64 r1) := hf 2 _ rfl
      have e3 : wr.cell? ⟨b, off + j * 7 + 3, none⟩ = some (.int .i64 k1) := hf 3 _ rfl
      have e4 : wr.cell? ⟨b, off + j * 7 + 4, none⟩ = some (.slice sa1 s1.length cap1) := hf 4 _ rfl
      clear hf hcells
      by_cases hid : i1 = id
      · subst hid
        have hfound : findP i1 L = some ⟨.mk i1 nj r1 k1 s1, d1, a1⟩ := by
          have h9 := Hnone.out
          unfold findP at h9 ⊢
          rw [Hsplit.out, List.find?_append, h9]
          simp [Nd.id]
        have Hfound := Lib.hid hfound
        clear hfound
        have z0 : wr.frozen? ⟨w.heap.size + 1, 0, none⟩ = false := hbr.free 0
        have z1 : wr.frozen? ⟨w.heap.size + 1, 1, none⟩ = false := hbr.free 1
        have z2 : wr.frozen? ⟨w.heap.size + 1, 2, none⟩ = false := hbr.free 2
        have z3 : wr.frozen? ⟨w.heap.size + 1, 3, none⟩ = false := hbr.free 3
        have z4 : wr.frozen? ⟨w.heap.size + 1, 4, none⟩ = false := hbr.free 4
        have y0 : wr.cell? ⟨w.heap.size + 1, 0, none⟩ = some (.int .i64 (0)) := hbr.cell 0
        have y1 : wr.cell? ⟨w.heap.size + 1, 1, none⟩ = some (.string ⟨#[]⟩) := hbr.cell 1
        have y2 : wr.cell? ⟨w.heap.size + 1, 2, none⟩ = some (.int .i64 (0)) := hbr.cell 2
        have y3 : wr.cell? ⟨w.heap.size + 1, 3, none⟩ = some (.int .i64 (0)) := hbr.cell 3
        have y4 : wr.cell? ⟨w.heap.size + 1, 4, none⟩ = some (.slice none 0 0) := hbr.cell 4
        have lbr := hbr.lt
        have hcW := hc2.tr hcr
        go_wp2_with fail
        have hb9 := store5 hbr (.int .i64 (i1)) (.string nj) (.int .i64 (r1)) (.int .i64 (k1)) (.slice sa1 s1.length cap1)
        have hc9 := hcW.trans' (store5_chg wr (w.heap.size + 1) (.int .i64 (i1)) (.string nj) (.int .i64 (r1)) (.int .i64 (k1)) (.slice sa1 s1.length cap1)) (fun x e => by have e : x = w.heap.size + 1 := e; omega)
        have hone := store5_chg wr (w.heap.size + 1) (.int .i64 (i1)) (.string nj) (.int .i64 (r1)) (.int .i64 (k1)) (.slice sa1 s1.length cap1)
        generalize World.setCell (World.setCell (World.setCell (World.setCell (World.setCell wr ⟨w.heap.size + 1, 0, none⟩ (.int .i64 (i1))) ⟨w.heap.size + 1, 1, none⟩ (.string nj)) ⟨w.heap.size + 1, 2, none⟩ (.int .i64 (r1))) ⟨w.heap.size + 1, 3, none⟩ (.int .i64 (k1))) ⟨w.heap.size + 1, 4, none⟩ (.slice sa1 s1.length cap1) = w9 at hb9 hc9 hone ⊢
        have n0 : w9.cell? ⟨w.heap.size + 1, 0, none⟩ = some (.int .i64 (i1)) := hb9.cell 0
        have n1 : w9.cell? ⟨w.heap.size + 1, 1, none⟩ = some (.string nj) := hb9.cell 1
        have n2 : w9.cell? ⟨w.heap.size + 1, 2, none⟩ = some (.int .i64 (r1)) := hb9.cell 2
        have n3 : w9.cell? ⟨w.heap.size + 1, 3, none⟩ = some (.int .i64 (k1)) := hb9.cell 3
        have n4 : w9.cell? ⟨w.heap.size + 1, 4, none⟩ = some (.slice sa1 s1.length cap1) := hb9.cell 4
        refine bodyPost_ret (v := .tuple #[.agg #[.int .i64 (i1), .string nj, .int .i64 (r1), .int .i64 (k1), .slice sa1 s1.length cap1], .bool true]) (by simp [results, Tryz.results23, go_sem, n0, n1, n2, n3, n4]) rfl ?_
        rw [Hfound.out]
        refine ⟨hc9, _, rfl, ((hnd.chg0 hcr).chg hone (fun x hx e => ?_)).mono (fun x hx => ?_)⟩
        · have e : x = w.heap.size + 1 := e
          rcases hx with hx | hx
          · have := hSB x hx; omega
          · omega
        · rcases hx with hx | hx
          · exact .inl hx
          · exact .inr (by omega)
      · have hid' : (i1 == id) = false := by simpa using hid
        have hnext : findP id (L.take (j + 1)) = none := by
          have h9 := Hnone.out
          unfold findP at h9 ⊢
          rw [Htake.out, List.find?_append, h9]
          simp [Nd.id, hid]
        have Hnext := Lib.hid hnext
        clear hnext hid
        go_wp2_with fail
        exact ⟨⟨j + 1, hlt, by go_num, hcr, hbr, Hnext.out⟩, by simp [intOf]; omega⟩
    · have hjl : j = L.length := by omega
      subst hjl
      have hno := Hnone.out
      rw [List.take_length] at hno
      have Hno := Lib.hid hno
      clear hno Hnone
      have z0 : wr.frozen? ⟨w.heap.size + 1, 0, none⟩ = false := hbr.free 0
      have z1 : wr.frozen? ⟨w.heap.size + 1, 1, none⟩ = false := hbr.free 1
      have z2 : wr.frozen? ⟨w.heap.size + 1, 2, none⟩ = false := hbr.free 2
      have z3 : wr.frozen? ⟨w.heap.size + 1, 3, none⟩ = false := hbr.free 3
      have z4 : wr.frozen? ⟨w.heap.size + 1, 4, none⟩ = false := hbr.free 4
      have y0 : wr.cell? ⟨w.heap.size + 1, 0, none⟩ = some (.int .i64 (0)) := hbr.cell 0
      have y1 : wr.cell? ⟨w.heap.size + 1, 1, none⟩ = some (.string ⟨#[]⟩) := hbr.cell 1
      have y2 : wr.cell? ⟨w.heap.size + 1, 2, none⟩ = some (.int .i64 (0)) := hbr.cell 2
      have y3 : wr.cell? ⟨w.heap.size + 1, 3, none⟩ = some (.int .i64 (0)) := hbr.cell 3
      have y4 : wr.cell? ⟨w.heap.size + 1, 4, none⟩ = some (.slice none 0 0) := hbr.cell 4
      have lbr := hbr.lt
      have hcW := hc2.tr hcr
      go_wp2_with fail
      have hb9 := store5 hbr (.int .i64 0) (.string ⟨#[]⟩) (.int .i64 0) (.int .i64 0) (.slice none 0 0)
      have hc9 := hcW.trans' (store5_chg wr (w.heap.size + 1) (.int .i64 0) (.string ⟨#[]⟩) (.int .i64 0) (.int .i64 0) (.slice none 0 0)) (fun x e => by have e : x = w.heap.size + 1 := e; omega)
      generalize World.setCell (World.setCell (World.setCell (World.setCell (World.setCell wr ⟨w.heap.size + 1, 0, none⟩ (.int .i64 0)) ⟨w.heap.size + 1, 1, none⟩ (.string ⟨#[]⟩)) ⟨w.heap.size + 1, 2, none⟩ (.int .i64 0)) ⟨w.heap.size + 1, 3, none⟩ (.int .i64 0)) ⟨w.heap.size + 1, 4, none⟩ (.slice none 0 0) = w9 at *
      have n0 : w9.cell? ⟨w.heap.size + 1, 0, none⟩ = some (.int .i64 (0)) := hb9.cell 0
      have n1 : w9.cell? ⟨w.heap.size + 1, 1, none⟩ = some (.string ⟨#[]⟩) := hb9.cell 1
      have n2 : w9.cell? ⟨w.heap.size + 1, 2, none⟩ = some (.int .i64 (0)) := hb9.cell 2
      have n3 : w9.cell? ⟨w.heap.size + 1, 3, none⟩ = some (.int .i64 (0)) := hb9.cell 3
      have n4 : w9.cell? ⟨w.heap.size + 1, 4, none⟩ = some (.slice none 0 0) := hb9.cell 4
      refine bodyPost_ret (v := .tuple #[zeroNode, (.bool false)]) (by simp [results, Tryz.results23, go_sem, n0, n1, n2, n3, n4, zeroNode]) rfl ?_
      rw [Hno.out]
      exact ⟨hc9, rfl⟩
end Go.Proofs.YtfbbfhhhfbibjaaGreatDoor
namespace Go.Proofs.YtfbbfhhhfbibjaaGreatDoor
open Go.RowKit

def underL (L : List Pl) : List Int := (L.filter (fun p => !decide (p.n.kind = 0))).map (fun p => p.n.id)
def UoRel (L : List Pl) (w w2 : World) (B : Nat) (vl vi : Value) (wr : World) : Prop :=
  ∃ j ao cap, j ≤ L.length ∧ vi = .int .i64 (j : Nat) ∧ vl = .slice ao (underL (L.take j)).length cap ∧ (Chg NoB w wr ∧ Chg NoB w2 wr) ∧ Own wr B 3 1 (fun _ => False) vl ((underL (L.take j)).map intDt)
theorem underL_len (L : List Pl) : (underL L).length ≤ L.length := by
  unfold underL
  rw [List.length_map]
  exact List.length_filter_le _ _

set_option maxHeartbeats 1000000 in
set_option maxRecDepth 100000 in
theorem underOf_any (nd : Nd) (w : World) (S : Nat → Prop) (cs : List Value) (hr : Reads w S nd.dt cs) (hok : nd.ok) :
    Calls Tryz.prog 28 #[.agg cs.toArray] w (RetList 1 (fun _ => False) ((underL (flatOf nd)).map intDt) w) := by
  have hr' := hr
  obtain ⟨i, nm, r, k, sb⟩ := nd
  obtain ⟨sv, rfl, hs⟩ := reads_nd.1 hr'
  obtain ⟨sa, cap, rfl, _, _, _⟩ := reads_subs hs
  go_enter Tryz.func28, Tryz.ntmps28
  go_wp2_with fail
  generalize hw1 : w.alloc _ = w1
  have hc1 : Chg NoB w w1 := by
    rw [← hw1]
    repeat (first | exact Chg.refl _ _ | apply Chg.alloc | apply Chg.drew)
  clear hw1
  refine (Flat_any (.mk i nm r k sb) w1 S _ (hr.chg0 hc1) hok).mono ?_
  rintro en w2 ⟨ao, c2, rfl, hrl, hc2⟩
  replace hc2 := hc1.tr hc2
  have hLle : (flatOf (.mk i nm r k sb)).length ≤ 2001 := flatN_le (.mk i nm r k sb) [] 1 (-1) (by simp)
  rw [List.length_map] at hrl ⊢
  obtain ⟨-, hL1, hL2, hel⟩ := pl_cells hrl
  clear hrl
  generalize hLe : flatOf (.mk i nm r k sb) = L at *
  have HLe := Lib.hid hLe
  clear hLe
  have Hel := Lib.hid hel
  clear hel
  have hsz2 := hc2.size
  go_wp2_with fail
  go_loopw [4, 5] (fun vl vi wr => UoRel L w w2 w2.heap.size vl vi wr) (fun _ vi _ => L.length - (intOf vi).toNat)
  case atStart => exact ⟨0, none, 0, Nat.zero_le _, rfl, rfl, ⟨hc2, Chg.refl _ _⟩, Own.nil _ _ _ _ _⟩
  case round =>
    obtain ⟨j, ao2, ac, hj, rfl, rfl, ⟨hcr, hcr2⟩, ho⟩ := hrel
    have hul := underL_len (L.take j)
    rw [List.length_take] at hul
    have hlm : ((underL (L.take j)).map intDt).length = (underL (L.take j)).length := List.length_map ..
    by_cases hlt : j < L.length
    · obtain ⟨b, off, rfl, hbw, hel⟩ := Hel.out (by omega)
      have hP := (hel j L[j] (by simp [hlt])).keep0 hbw hcr2
      have htake : L.take (j + 1) = L.take j ++ [L[j]] := List.take_succ_eq_append_getElem hlt
      have hnext : underL (L.take (j + 1)) = underL (L.take j) ++ underL [L[j]] := by rw [htake]; unfold underL; rw [List.filter_append, List.map_append]
      generalize L[j] = p at hP hnext
      have Hnext := Lib.hid hnext
      clear hel htake hnext
      obtain ⟨⟨i1, n1, r1, k1, s1⟩, d1, a1⟩ := p
      have e0 := hP.id
      have e3 := hP.kind
      simp only [Nd.id, Nd.kind] at e0 e3
      clear hP
      by_cases hk : k1 = 0
      · subst hk
        have hone : underL [⟨.mk i1 n1 r1 0 s1, d1, a1⟩] = [] := by simp [underL, Nd.kind]
        rw [hone] at Hnext
        clear hone
        go_wp2_with fail
        refine ⟨⟨j + 1, ao2, ac, hlt, by go_num, ?_, ⟨hcr, hcr2⟩, ?_⟩, by simp [intOf]; omega⟩
        · rw [Hnext.out, List.append_nil]
        · rw [Hnext.out, List.append_nil]; exact ho
      · have hone : underL [⟨.mk i1 n1 r1 k1 s1, d1, a1⟩] = [i1] := by simp [underL, Nd.kind, Nd.id, hk]
        rw [hone] at Hnext
        have hk' : (k1 != 0) = true := by simpa using hk
        clear hone hk
        go_wp2_with (at_builtin; refine stop_here ?_)
        refine Stop.go ?_
        generalize hwA : World.alloc wr _ = wA
        have hcA : Chg NoB wr wA := by
          rw [← hwA]
          repeat (first | exact Chg.refl _ _ | apply Chg.alloc | apply Chg.drew)
        have hbA : Blk wA (wr.heap.size) ([.int .i64 i1]) 3 := by
          rw [← hwA]
          repeat (first | exact Blk.newAt (by first | rfl | (simp; done) | (simp; omega)) | apply Blk.alloc | apply Blk.drew)
        clear hwA
        have hoA := ho.keep hcA (fun _ h => h.elim) (fun _ _ => NoB.elim)
        refine wpList_own rfl (.tmp 21) (.tmp 28) 51 rfl w2.heap.size 3 Tryz.underlying51 infoInt1 rfl (by decide) rfl hoA rfl [intDt i1] [.int .i64 i1] rfl (ReadsC.single rfl ⟨rfl, rfl⟩) hbA.news (fun e => by cases e) ?_ ?_ ?_ ?_
        · rw [hlm]; unfold maxLen; omega
        · rw [hlm]; omega
        · have := hcr2.size; have := hcA.size; omega
        intro ao4 cap4 wB hoB hcB hatB
        rw [hlm] at hoB ⊢
        have hcV : Chg NoB w wB := (hcr.tr hcA).trans hcB (fun x e => .inr (by have := (hoA.block x e).1; omega))
        go_wp2_with fail
        go_roundw
        case rel =>
          refine ⟨j + 1, ao4, cap4, hlt, by go_num, ?_, ?_, ?_⟩
          · show Value.slice ao4 ((underL (L.take j)).length + 1) cap4 = _
            rw [Hnext.out, List.length_append]
            rfl
          · refine ⟨hcV, (hcr2.tr hcA).trans hcB (fun x e => .inr (hoA.block x e).1)⟩
          · rw [Hnext.out, List.map_append]
            exact hoB
        case measure => simp [intOf]; omega
    · have hjl : j = L.length := by omega
      subst hjl
      rw [List.take_length] at ho hlm
      go_wp2_with fail
      go_ret
      rw [List.take_length, HLe.out]
      refine ⟨ao2, ac, by rw [List.length_map]; rfl, ?_, hcr⟩
      rw [List.length_map]
      exact ho.reads (fun _ h => h.elim) (fun b hb _ => .inr (by omega)) (by rw [List.length_map]; have := underL_len L; unfold maxLen; omega)
end Go.Proofs.YtfbbfhhhfbibjaaGreatDoor
namespace Go.Proofs.YtfbbfhhhfbibjaaGreatDoor
open Go.RowKit

def underG (n : Nd) (_ : Int) (l : List Int) : Bool × List Int := (true, if n.kind = 0 then l else l ++ [n.id])
def GoU (k : Nat) (l : List Int) : Prop := l.length + k ≤ 1099511627776

set_option maxHeartbeats 1000000 in
theorem sees_under (B c : Nat) (hB : B ≤ c) : SeesN 62 #[.pointer (some ⟨c, 0, none⟩)] 3 B c (BoxL B c) underG Low GoU where
  enters := enters_of Tryz.func62 (by kernel_rfl) rfl
  lt := fun s w h => h.elim fun _ h => h.1.lt
  keep := fun s w w' h hc => by
    obtain ⟨v, h1, h2, h3⟩ := h
    exact ⟨v, h1.keep hc NoB.elim, h2.keep hc (fun _ e => e.elim) (fun _ _ => NoB.elim), h3⟩
  deep := fun n d h => h.deep
  down := fun n d s h _ => h.down
  go := fun n d s k _ hG _ => by
    simp only [underG, GoU] at hG ⊢
    split
    · omega
    · simp only [List.length_append, List.length_cons, List.length_nil]; omega
  call := by
    intro n d s w S cs kq hO hG hok hr hSB hBw hSt
    obtain ⟨v, hbk, hown, hvc⟩ := hSt
    unfold GoU at hG
    obtain ⟨i, nm, r, k, sb⟩ := n
    obtain ⟨sv, rfl, hs⟩ := reads_nd.1 hr
    obtain ⟨sa, cap, rfl, hlen', hcap, hel⟩ := reads_subs hs
    have hcl := hbk.lt
    obtain ⟨ao, c0, rfl⟩ := hown.form1
    have cq : w.cell? ⟨c, 0, none⟩ = some (.slice ao s.length c0) := hbk.cell 0
    have fq : w.frozen? ⟨c, 0, none⟩ = false := hbk.free 0
    by_cases hk : k = 0
    · subst hk
      have hfin : underG (.mk i nm r 0 sb) d s = (true, s) := by simp [underG, Nd.kind]
      rw [hfin]
      clear hfin
      go_enter Tryz.func62, Tryz.ntmps62
      go_wp2_with fail
      go_ret
      exact ⟨rfl, ⟨_, hbk.alloc _, hown.keep ((Chg.refl NoB w).alloc _) (fun _ e => e.elim) (fun _ _ => NoB.elim), hvc⟩, (Chg.refl _ _).alloc _⟩
    · have hfin : underG (.mk i nm r k sb) d s = (true, s ++ [i]) := by simp [underG, Nd.kind, Nd.id, hk]
      rw [hfin]
      have hk' : (k != 0) = true := by simpa using hk
      clear hfin hk
      go_enter Tryz.func62, Tryz.ntmps62
      go_wp2_with (at_builtin; refine stop_here ?_)
      refine Stop.go ?_
      generalize hw5 : (w.alloc _).alloc _ = w5
      have hc05 : Chg NoB w w5 := by
        rw [← hw5]
        repeat (first | exact Chg.refl _ _ | apply Chg.alloc | apply Chg.drew)
      have hb5 : Blk w5 (w.heap.size + 1) ([.int .i64 i]) 3 := by
        rw [← hw5]
        repeat (first | exact Blk.newAt (by first | rfl | (simp; done) | (simp; omega)) | apply Blk.alloc | apply Blk.drew)
      clear hw5
      have ho5 := hown.keep hc05 (fun _ hb => hb.elim) (fun _ _ => NoB.elim)
      refine wpList_own rfl (.tmp 9) (.tmp 12) 51 rfl B 3 Tryz.underlying51 infoInt rfl (by decide) rfl ho5 rfl [intDt i] [.int .i64 i] rfl (ReadsC.single rfl ⟨rfl, rfl⟩) hb5.news (fun e => by cases e) ?_ ?_ ?_ ?_
      · rw [List.length_map]; simp [maxLen]; omega
      · rw [List.length_map]; omega
      · have := hc05.size; omega
      intro ao2 cap2 w6 ho6 hc6 hat6
      rw [List.length_map] at ho6 hat6 ⊢
      have hb6 : Blk w6 c [.slice ao s.length c0] 51 := (hbk.keep hc05 NoB.elim).keep hc6 (fun e => hvc e)
      have fq6 : w6.frozen? ⟨c, 0, none⟩ = false := hb6.free 0
      have cq6 : w6.cell? ⟨c, 0, none⟩ = some (.slice ao s.length c0) := hb6.cell 0
      have hne6 : (Value.slice ao2 (s.length + 1) cap2).ownBlock ≠ some c := fun e => by
        rcases hat6 with h | h
        · exact hvc (h ▸ e)
        · have h9 := Option.some.inj (h.symm.trans e)
          have := hc05.size
          omega
      have hc06 : Chg (RowsOf w 3 B c) w w6 := (hc05.mono (fun _ _ e => NoB.elim e)).trans hc6 (fun b hb => .inl (hown.rowsOf hb))
      go_wp2_with fail
      go_ret
      refine ⟨rfl, ⟨_, hb6.set 0 (.slice ao2 (s.length + 1) cap2), ?_, by exact hne6⟩, hc06.setCell (p := ⟨c, 0, none⟩) (.inl ⟨hB, .inl rfl⟩) _⟩
      have ho7 := ho6.keep ((Chg.refl (OneB c) w6).setCell (p := ⟨c, 0, none⟩) (.inl rfl) (.slice ao2 (s.length + 1) cap2)) (fun _ hb => hb.elim) (fun b hb e => hne6 (by rw [← show b = c from e]; exact hb))
      show Own _ B 3 1 (fun _ => False) _ ((s ++ [i]).map intDt)
      rw [List.map_append]
      exact ho7

def underW (n : Nd) : List Int := (walkF underG n 0 []).2
mutual
theorem under_true : ∀ (n : Nd) (d : Int) (s : List Int), (walkF underG n d s).1 = true
  | .mk i nm r k sb, d, s => by
    simp only [walkF, underG]
    exact under_trues sb _ _
theorem under_trues : ∀ (l : List Nd) (d : Int) (s : List Int), (walkFs underG l d s).1 = true
  | [], d, s => rfl
  | n :: ns, d, s => by
    simp only [walkFs]
    have := under_true n d s
    rcases hw : walkF underG n d s with ⟨b, s'⟩
    rw [hw] at this
    simp only at this
    subst this
    exact under_trues ns d s'
end
mutual
theorem under_len : ∀ (n : Nd) (d : Int) (s : List Int), (walkF underG n d s).2.length ≤ s.length + n.weigh
  | .mk i nm r k sb, d, s => by
    simp only [walkF, underG, Nd.weigh]
    have h1 := under_lens sb (d + 1) (if (Nd.mk i nm r k sb).kind = 0 then s else s ++ [(Nd.mk i nm r k sb).id])
    split at h1
    · rename_i h; rw [if_pos h]; omega
    · rename_i h; rw [if_neg h]; simp only [List.length_append, List.length_cons, List.length_nil] at h1; omega
theorem under_lens : ∀ (l : List Nd) (d : Int) (s : List Int), (walkFs underG l d s).2.length ≤ s.length + Nd.weighs l
  | [], d, s => by simp [walkFs, Nd.weighs]
  | n :: ns, d, s => by
    simp only [walkFs, Nd.weighs]
    have h0 := under_len n d s
    have h1 := under_true n d s
    rcases hw : walkF underG n d s with ⟨b, s'⟩
    rw [hw] at h0 h1
    simp only at h0 h1
    subst h1
    have := under_lens ns d s'
    simp only
    omega
end
theorem underW_len (n : Nd) : (underW n).length ≤ n.weigh := by
  have := under_len n 0 []
  simpa [underW] using this
def RetUn (E : Er → Value) (N : Value) (r : PJ) (w : World) (en : Ending) (w' : World) : Prop :=
  Chg NoB w w' ∧ match r with
    | .ok n => ∃ a c, en = .returned (.tuple #[.slice a (underW n).length c, .nilIface]) ∧ Reads w' (fun b => w.heap.size ≤ b) (.list 1 ((underW n).map intDt)) [.slice a (underW n).length c]
    | .er e => en = .returned (.tuple #[.slice none 0 0, E e])
    | .non => en = .returned (.tuple #[.slice none 0 0, N])

set_option maxHeartbeats 1000000 in
theorem under_any (nd : Nd) (id : Int) (w : World) (S : Nat → Prop) (cs : List Value) (E : Er → Value) (N : Value) (hE : Errs w E) (hN : Non w N) (hok : nd.ok) (hr : Reads w S nd.dt cs) (hSB : ∀ b, S b → b < w.heap.size)
    (hsm : ∀ n, findR nd id = .ok n → n.ok ∧ n.high ≤ 1000 ∧ n.weigh ≤ 1000) :
    Calls Tryz.prog 25 #[.agg cs.toArray, .int .i64 id] w (RetUn E N (findR nd id) w) := by
  have hr' := hr
  have hNf := hN.form
  have hEf := hE.form
  obtain ⟨i, nm, r, k, sb⟩ := nd
  obtain ⟨sv, rfl, hs⟩ := reads_nd.1 hr'
  obtain ⟨sa, cap, rfl, _, _, _⟩ := reads_subs hs
  have Hsm := Lib.hid hsm
  clear hsm
  go_enter Tryz.func25, Tryz.ntmps25
  go_wp2_with fail
  generalize hw1 : w.alloc _ = w1
  have hc1 : Chg NoB w w1 := by
    rw [← hw1]
    repeat (first | exact Chg.refl _ _ | apply Chg.alloc | apply Chg.drew)
  clear hw1
  have hsz1 := hc1.size
  refine (find_any (.mk i nm r k sb) id w1 S _ E N (hE.keep0 hc1) (hN.keep0 hc1) hok (hr.chg0 hc1) (fun b hb => by have := hSB b hb; omega)).mono ?_
  rintro en w2 ⟨hc2, hm2⟩
  replace hc2 := hc1.tr hc2
  cases hf : findR (.mk i nm r k sb) id with
  | er e =>
    rw [hf] at hm2
    have hm2 : en = .returned (.tuple #[zeroNode, E e]) := hm2
    subst hm2
    obtain ⟨T1, v1, hEv⟩ := hEf e
    rw [hEv]
    have HEv := Lib.hid hEv
    have Hf := Lib.hid hf
    clear hEv hf
    unfold zeroNode
    go_wp2_with fail
    generalize hw3 : w2.alloc _ = w3
    have hc3 : Chg NoB w2 w3 := by
      rw [← hw3]
      repeat (first | exact Chg.refl _ _ | apply Chg.alloc | apply Chg.drew)
    clear hw3
    refine bodyPost_ret (v := .tuple #[.slice none 0 0, .iface T1 v1]) (by simp [results, Tryz.results25, go_sem]) rfl ?_
    rw [Hf.out]
    exact ⟨hc2.tr hc3, congrArg (fun x => Ending.returned (.tuple #[.slice none 0 0, x])) HEv.out.symm⟩
  | non =>
    rw [hf] at hm2
    have hm2 : en = .returned (.tuple #[zeroNode, N]) := hm2
    subst hm2
    obtain ⟨NT, Nv, rfl⟩ := hNf
    have Hf := Lib.hid hf
    clear hf
    unfold zeroNode
    go_wp2_with fail
    generalize hw3 : w2.alloc _ = w3
    have hc3 : Chg NoB w2 w3 := by
      rw [← hw3]
      repeat (first | exact Chg.refl _ _ | apply Chg.alloc | apply Chg.drew)
    clear hw3
    refine bodyPost_ret (v := .tuple #[.slice none 0 0, .iface NT Nv]) (by simp [results, Tryz.results25, go_sem]) rfl ?_
    rw [Hf.out]
    exact ⟨hc2.tr hc3, rfl⟩
  | ok n =>
    rw [hf] at hm2
    obtain ⟨cs2, rfl, hr2⟩ := hm2
    obtain ⟨hokn, hhn, hwn⟩ := Hsm.out n hf
    have Hf := Lib.hid hf
    clear hf
    obtain ⟨i2, nm2, r2, k2, s2⟩ := n
    obtain ⟨v2, rfl, hs2⟩ := reads_nd.1 hr2
    obtain ⟨sa2, cap2, rfl, _, _, _⟩ := reads_subs hs2
    go_wp2_with fail
    generalize hw3 : World.alloc _ _ = w3
    have hc3 : Chg NoB w2 w3 := by
      rw [← hw3]
      repeat (first | exact Chg.refl _ _ | apply Chg.alloc | apply Chg.drew)
    have hb3 : Blk w3 (w2.heap.size + 1) ([.slice none 0 0]) 51 := by
      rw [← hw3]
      repeat (first | exact Blk.newAt (by first | rfl | (simp; done) | (simp; omega)) | apply Blk.alloc | apply Blk.drew)
    clear hw3
    have hsz2 := hc2.size
    have hsz3 := hc3.size
    refine (walk_anyN (sees_under w2.heap.size (w2.heap.size + 1) (by omega)) (by decide) _ (.mk i2 nm2 r2 k2 s2) w3 _ _ 0 [] 0 (Nat.le_refl _) ⟨by omega, by omega⟩ (by unfold GoU; simp only [List.length_nil]; omega) hokn (hr2.lt.chg0 hc3) (fun b hb => hb.2) hsz3 ⟨_, hb3, Own.nil _ _ _ _ _, fun e => by cases e⟩).mono ?_
    rintro en w4 ⟨rfl, ⟨v4, hb4, ho4, _⟩, hc4⟩
    rw [under_true]
    have hUW : (walkF underG (.mk i2 nm2 r2 k2 s2) 0 []).2 = underW (.mk i2 nm2 r2 k2 s2) := rfl
    rw [hUW] at ho4
    have hlu := underW_len (.mk i2 nm2 r2 k2 s2)
    replace hc4 : Chg NoB w w4 := by
      refine ((hc2.tr hc3).mono (fun _ _ e => NoB.elim e)).trans hc4 ?_
      intro b hb
      exact .inr (by have := hb.1; omega)
    obtain ⟨a4, c4, rfl⟩ := Own.form1 (l := underW (.mk i2 nm2 r2 k2 s2)) ho4
    have q4 : w4.cell? ⟨w2.heap.size + 1, 0, none⟩ = some (.slice a4 (underW (.mk i2 nm2 r2 k2 s2)).length c4) := hb4.cell 0
    have l4 := hb4.lt
    generalize hu : underW (.mk i2 nm2 r2 k2 s2) = u at *
    have Hu := Lib.hid hu
    clear hu hUW
    go_wp2_with fail
    refine bodyPost_ret (v := .tuple #[.slice a4 u.length c4, .nilIface]) (by simp [results, Tryz.results25, go_sem]) rfl ?_
    rw [Hf.out]
    show Chg NoB w w4 ∧ ∃ a c, _ ∧ _
    rw [Hu.out]
    exact ⟨hc4, a4, c4, rfl, ho4.reads (fun _ h => h.elim) (fun b hb _ => by omega) (by rw [List.length_map]; unfold maxLen; omega)⟩
end Go.Proofs.YtfbbfhhhfbibjaaGreatDoor
namespace Go.Proofs.YtfbbfhhhfbibjaaGreatDoor
open Go.RowKit

def RetLv (E : Er → Value) (nd : Nd) (w : World) (en : Ending) (w' : World) : Prop :=
  Chg NoB w w' ∧ match validF nd with
    | some e => en = .returned (.tuple #[.slice none 0 0, E e])
    | none => ∃ a c, en = .returned (.tuple #[.slice a (leavesOf nd).length c, .nilIface]) ∧ Reads w' (fun b => w.heap.size ≤ b) (.list 5 ((leavesOf nd).map Lf.dt)) [.slice a (leavesOf nd).length c]

def zeroLf : Lf := ⟨0, 0, 0, 0, []⟩

set_option maxHeartbeats 1000000 in
theorem leavesAll_any (nd : Nd) (w : World) (S : Nat → Prop) (cs : List Value) (E : Er → Value) (hE : Errs w E) (hok : nd.ok) (hr : Reads w S nd.dt cs) (hSB : ∀ b, S b → b < w.heap.size) :
    Calls Tryz.prog 20 #[.agg cs.toArray] w (RetLv E nd w) := by
  have hr' := hr
  obtain ⟨i, nm, r, k, sb⟩ := nd
  obtain ⟨sv, rfl, hs⟩ := reads_nd.1 hr'
  obtain ⟨sa, cap, rfl, _, _, _⟩ := reads_subs hs
  go_enter Tryz.func20, Tryz.ntmps20
  go_wp2_with fail
  generalize hw1 : w.alloc _ = w1
  have hc1 : Chg NoB w w1 := by
    rw [← hw1]
    repeat (first | exact Chg.refl _ _ | apply Chg.alloc | apply Chg.drew)
  have hb0 : Blk w1 (w.heap.size) (ndCells i nm r k (.slice sa sb.length cap)) 24 := by
    rw [← hw1]
    repeat (first | exact Blk.newAt (by first | rfl | (simp; done) | (simp; omega)) | apply Blk.alloc | apply Blk.drew)
  clear hw1
  have hsz1 := hc1.size
  refine (valid_any (.mk i nm r k sb) w1 S _ E (hE.keep0 hc1) hok (hr.chg0 hc1) (fun b hb => by have := hSB b hb; omega)).mono ?_
  rintro en w2 ⟨rfl, hc2⟩
  replace hb0 := hb0.keep hc2 NoB.elim
  replace hc2 := hc1.tr hc2
  have x0 : w2.cell? ⟨w.heap.size, 0, none⟩ = some (.int .i64 (i)) := hb0.cell 0
  have x1 : w2.cell? ⟨w.heap.size, 1, none⟩ = some (.string nm) := hb0.cell 1
  have x2 : w2.cell? ⟨w.heap.size, 2, none⟩ = some (.int .i64 (r)) := hb0.cell 2
  have x3 : w2.cell? ⟨w.heap.size, 3, none⟩ = some (.int .i64 (k)) := hb0.cell 3
  have x4 : w2.cell? ⟨w.heap.size, 4, none⟩ = some (.slice sa sb.length cap) := hb0.cell 4
  have l0 := hb0.lt
  cases hv : validF (.mk i nm r k sb) with
  | some e =>
    obtain ⟨T1, v, hEv⟩ := hE.form e
    rw [show errVal E (some e) = .iface T1 v from hEv]
    have HEv := Lib.hid hEv
    have Hv := Lib.hid hv
    clear hv hEv
    go_wp2_with fail
    refine bodyPost_ret (v := .tuple #[.slice none 0 0, .iface T1 v]) (by simp [results, Tryz.results20, go_sem]) rfl ?_
    unfold RetLv
    rw [Hv.out]
    exact ⟨hc2, congrArg (fun x => Ending.returned (.tuple #[.slice none 0 0, x])) HEv.out.symm⟩
  | none =>
    rw [show errVal E none = .nilIface from rfl]
    have hh := (schema_of_valid hv).high
    have hw := (schema_of_valid hv).small
    have Hv := Lib.hid hv
    clear hv
    go_wp2_with fail
    have hz : Reads w2 (fun _ => False) zeroLf.dt [.int .i64 0, .int .i64 0, .int .i64 0, .int .i64 0, .slice none 0 0] := reads_lf.2 ⟨_, rfl, none, 0, rfl, Nat.le_refl _, Nat.zero_le _, .inl ⟨rfl, fun _ => rfl⟩⟩
    refine (leaves_any _ (.mk i nm r k sb) w2 S _ _ _ zeroLf (Nat.le_refl _) (hr.chg0 hc2) hok hz (by omega) (by decide) (by simp only [zeroLf]; omega) (by decide) (by simp only [zeroLf]; omega) (by simp only [zeroLf, List.length_nil]; omega)).mono ?_
    rintro en w3 ⟨a, c, rfl, hrd, hc3⟩
    rw [List.length_map] at hrd ⊢
    have hc03 := hc2.tr hc3
    go_wp2_with fail
    refine bodyPost_ret (v := .tuple #[.slice a (lvL zeroLf.mr zeroLf.md zeroLf.path (Nd.mk i nm r k sb).sub).length c, .nilIface]) (by simp [results, Tryz.results20, go_sem]) rfl ?_
    unfold RetLv
    rw [Hv.out]
    refine ⟨hc03, a, c, rfl, hrd.mono (fun b hb => ?_)⟩
    have := hc2.size
    rcases hb with hb | hb
    · exact hb.elim
    · omega
end Go.Proofs.YtfbbfhhhfbibjaaGreatDoor
