/-
  shredcolref2.FindOf: the first place with an ID.
-/
import Derived.Test.YtfbbfhhhfbibjaaGreatDoorRefName
import Derived.Test.YtfbbfhhhfbibjaaGreatDoorFind
namespace Go.Proofs.YtfbbfhhhfbibjaaGreatDoor
open Go.RowKit

def findP (id : Int) (L : List Pl) : Option Pl := L.find? (fun p => decide (p.n.id = id))
def RetFo (S : Nat → Prop) (o : Option Pl) (w : World) (en : Ending) (w' : World) : Prop :=
  Chg NoB w w' ∧ match o with
    | some p => ∃ cs, en = .returned (.tuple #[.agg cs.toArray, .bool true]) ∧ Reads w' (fun b => S b ∨ w.heap.size ≤ b) p.n.dt cs
    | none => en = .returned (.tuple #[zeroNode, .bool false])
def FoRel (id : Int) (L : List Pl) (w : World) (rb : Nat) (vi : Value) (wr : World) : Prop := ∃ j : Nat, j ≤ L.length ∧ vi = .int .i64 (j : Nat) ∧ Chg NoB w wr ∧ Blk wr rb (ndCells 0 ⟨#[]⟩ 0 0 (.slice none 0 0)) 24 ∧ findP id (L.take j) = none

set_option maxHeartbeats 1000000 in
set_option maxRecDepth 100000 in
theorem findOf_any (nd : Nd) (id : Int) (w : World) (S : Nat → Prop) (cs : List Value) (hr : Reads w S nd.dt cs) (hok : nd.ok) (hSB : ∀ b, S b → b < w.heap.size) :
    Calls Tryz.prog 23 #[.agg cs.toArray, .int .i64 id] w (RetFo S (findP id (flatOf nd)) w) := by
  have hr' := hr
  obtain ⟨i, nm, r, k, sb⟩ := nd
  obtain ⟨sv, rfl, hs⟩ := reads_nd.1 hr'
  obtain ⟨sa, cap, rfl, _, _, _⟩ := reads_subs hs
  go_enter Tryz.func23, Tryz.ntmps23
  go_wp2_with fail
  generalize hw1 : (w.alloc _).alloc _ = w1
  have hc1 : Chg NoB w w1 := by
    rw [← hw1]
    repeat (first | exact Chg.refl _ _ | apply Chg.alloc | apply Chg.drew)
  have hb1 : Blk w1 (w.heap.size + 1) (ndCells 0 ⟨#[]⟩ 0 0 (.slice none 0 0)) 24 := by
    rw [← hw1]
    repeat (first | exact Blk.newAt (by first | rfl | (simp; done) | (simp; omega)) | apply Blk.alloc | apply Blk.drew)
  clear hw1
  refine (Flat_any (.mk i nm r k sb) w1 S _ (hr.chg0 hc1) hok).mono ?_
  rintro en w2 ⟨ao, c2, rfl, hrl, hc2⟩
  have hb2 := hb1.keep hc2 NoB.elim
  have hsz1 := hb1.lt
  replace hc2 := hc1.tr hc2
  rw [List.length_map] at hrl ⊢
  generalize flatOf (.mk i nm r k sb) = L at *
  obtain ⟨oa, oc, he, hL1, hL2, hel⟩ := reads_list hrl
  rw [List.length_map] at he hL1 hel
  obtain ⟨rfl, -, rfl⟩ := Value.slice.inj he
  clear he
  have hL63 : L.length ≤ 9223372036854775807 := by unfold maxLen at hL2; omega
  have Hel := Lib.hid hel
  clear hel hrl
  go_wp2_with fail
  go_loopw [7] (fun vi wr => FoRel id L w2 (w.heap.size + 1) vi wr) (fun vi _ => L.length - (intOf vi).toNat)
  case atStart => exact ⟨0, Nat.zero_le _, rfl, Chg.refl _ _, hb2, rfl⟩
  case round =>
    obtain ⟨j, hj, rfl, hcr, hbr, hnone⟩ := hrel
    have Hnone := Lib.hid hnone
    clear hnone
    by_cases hlt : j < L.length
    · obtain ⟨b, off, rfl, hSb, hbw, hE⟩ := Hel.out (by omega)
      obtain ⟨ecs, hl7, hcells, hre⟩ := hE.get j L[j].dt (by simp [hlt])
      have htake : L.take (j + 1) = L.take j ++ [L[j]] := List.take_succ_eq_append_getElem hlt
      have hsplit : L = L.take j ++ L[j] :: L.drop (j + 1) := by rw [List.getElem_cons_drop, List.take_append_drop]
      generalize L[j] = p at hre htake hsplit
      have Htake := Lib.hid htake
      have Hsplit := Lib.hid hsplit
      clear htake hsplit hE
      obtain ⟨⟨i1, nj, r1, k1, s1⟩, d1, a1⟩ := p
      obtain ⟨c, r', rfl, hnd, hrest⟩ := hre
      obtain ⟨v1, rfl, hs1⟩ := reads_nd.1 hnd
      obtain ⟨sa1, cap1, rfl, _, _, _⟩ := reads_subs hs1
      have hf : ∀ t c, ([Value.int .i64 i1, .string nj, .int .i64 r1, .int .i64 k1, .slice sa1 s1.length cap1] ++ r')[t]? = some c → wr.cell? ⟨b, off + j * 7 + t, none⟩ = some c := fun t c ht => (hcr.cell (p := ⟨b, off + j * 7 + t, none⟩) hbw (fun e => e)).trans (hcells t c ht)
      have e0 : wr.cell? ⟨b, off + j * 7, none⟩ = some (.int .i64 i1) := hf 0 _ rfl
      have e1 : wr.cell? ⟨b, off + j * 7 + 1, none⟩ = some (.string nj) := hf 1 _ rfl
      have e2 : wr.cell? ⟨b, off + j * 7 + 2, none⟩ = some (.int .i64 r1) := hf 2 _ rfl
      have e3 : wr.cell? ⟨b, off + j * 7 + 3, none⟩ = some (.int .i64 k1) := hf 3 _ rfl
      have e4 : wr.cell? ⟨b, off + j * 7 + 4, none⟩ = some (.slice sa1 s1.length cap1) := hf 4 _ rfl
      clear hf hcells
      by_cases hid : i1 = id
      · subst hid
        have hfound : findP i1 L = some ⟨.mk i1 nj r1 k1 s1, d1, a1⟩ := by
          have h9 := Hnone.out
          unfold findP at h9 ⊢
          rw [Hsplit.out, List.find?_append, h9]
          simp [Nd.id]
        have Hfound := Lib.hid hfound
        clear hfound
        have z0 : wr.frozen? ⟨w.heap.size + 1, 0, none⟩ = false := hbr.free 0
        have z1 : wr.frozen? ⟨w.heap.size + 1, 1, none⟩ = false := hbr.free 1
        have z2 : wr.frozen? ⟨w.heap.size + 1, 2, none⟩ = false := hbr.free 2
        have z3 : wr.frozen? ⟨w.heap.size + 1, 3, none⟩ = false := hbr.free 3
        have z4 : wr.frozen? ⟨w.heap.size + 1, 4, none⟩ = false := hbr.free 4
        have y0 : wr.cell? ⟨w.heap.size + 1, 0, none⟩ = some (.int .i64 (0)) := hbr.cell 0
        have y1 : wr.cell? ⟨w.heap.size + 1, 1, none⟩ = some (.string ⟨#[]⟩) := hbr.cell 1
        have y2 : wr.cell? ⟨w.heap.size + 1, 2, none⟩ = some (.int .i64 (0)) := hbr.cell 2
        have y3 : wr.cell? ⟨w.heap.size + 1, 3, none⟩ = some (.int .i64 (0)) := hbr.cell 3
        have y4 : wr.cell? ⟨w.heap.size + 1, 4, none⟩ = some (.slice none 0 0) := hbr.cell 4
        have lbr := hbr.lt
        have hcW := hc2.tr hcr
        go_wp2_with fail
        have hb9 := store5 hbr (.int .i64 (i1)) (.string nj) (.int .i64 (r1)) (.int .i64 (k1)) (.slice sa1 s1.length cap1)
        have hc9 := hcW.trans' (store5_chg wr (w.heap.size + 1) (.int .i64 (i1)) (.string nj) (.int .i64 (r1)) (.int .i64 (k1)) (.slice sa1 s1.length cap1)) (fun x e => by have e : x = w.heap.size + 1 := e; omega)
        have hone := store5_chg wr (w.heap.size + 1) (.int .i64 (i1)) (.string nj) (.int .i64 (r1)) (.int .i64 (k1)) (.slice sa1 s1.length cap1)
        generalize World.setCell (World.setCell (World.setCell (World.setCell (World.setCell wr ⟨w.heap.size + 1, 0, none⟩ (.int .i64 (i1))) ⟨w.heap.size + 1, 1, none⟩ (.string nj)) ⟨w.heap.size + 1, 2, none⟩ (.int .i64 (r1))) ⟨w.heap.size + 1, 3, none⟩ (.int .i64 (k1))) ⟨w.heap.size + 1, 4, none⟩ (.slice sa1 s1.length cap1) = w9 at hb9 hc9 hone ⊢
        have n0 : w9.cell? ⟨w.heap.size + 1, 0, none⟩ = some (.int .i64 (i1)) := hb9.cell 0
        have n1 : w9.cell? ⟨w.heap.size + 1, 1, none⟩ = some (.string nj) := hb9.cell 1
        have n2 : w9.cell? ⟨w.heap.size + 1, 2, none⟩ = some (.int .i64 (r1)) := hb9.cell 2
        have n3 : w9.cell? ⟨w.heap.size + 1, 3, none⟩ = some (.int .i64 (k1)) := hb9.cell 3
        have n4 : w9.cell? ⟨w.heap.size + 1, 4, none⟩ = some (.slice sa1 s1.length cap1) := hb9.cell 4
        refine bodyPost_ret (v := .tuple #[.agg #[.int .i64 (i1), .string nj, .int .i64 (r1), .int .i64 (k1), .slice sa1 s1.length cap1], .bool true]) (by simp [results, Tryz.results23, go_sem, n0, n1, n2, n3, n4]) rfl ?_
        rw [Hfound.out]
        refine ⟨hc9, _, rfl, ((hnd.chg0 hcr).chg hone (fun x hx e => ?_)).mono (fun x hx => ?_)⟩
        · have e : x = w.heap.size + 1 := e
          rcases hx with hx | hx
          · have := hSB x hx; omega
          · omega
        · rcases hx with hx | hx
          · exact .inl hx
          · exact .inr (by omega)
      · have hid' : (i1 == id) = false := by simpa using hid
        have hnext : findP id (L.take (j + 1)) = none := by
          have h9 := Hnone.out
          unfold findP at h9 ⊢
          rw [Htake.out, List.find?_append, h9]
          simp [Nd.id, hid]
        have Hnext := Lib.hid hnext
        clear hnext hid
        go_wp2_with fail
        exact ⟨⟨j + 1, hlt, by go_num, hcr, hbr, Hnext.out⟩, by simp [intOf]; omega⟩
    · have hjl : j = L.length := by omega
      subst hjl
      have hno := Hnone.out
      rw [List.take_length] at hno
      have Hno := Lib.hid hno
      clear hno Hnone
      have z0 : wr.frozen? ⟨w.heap.size + 1, 0, none⟩ = false := hbr.free 0
      have z1 : wr.frozen? ⟨w.heap.size + 1, 1, none⟩ = false := hbr.free 1
      have z2 : wr.frozen? ⟨w.heap.size + 1, 2, none⟩ = false := hbr.free 2
      have z3 : wr.frozen? ⟨w.heap.size + 1, 3, none⟩ = false := hbr.free 3
      have z4 : wr.frozen? ⟨w.heap.size + 1, 4, none⟩ = false := hbr.free 4
      have y0 : wr.cell? ⟨w.heap.size + 1, 0, none⟩ = some (.int .i64 (0)) := hbr.cell 0
      have y1 : wr.cell? ⟨w.heap.size + 1, 1, none⟩ = some (.string ⟨#[]⟩) := hbr.cell 1
      have y2 : wr.cell? ⟨w.heap.size + 1, 2, none⟩ = some (.int .i64 (0)) := hbr.cell 2
      have y3 : wr.cell? ⟨w.heap.size + 1, 3, none⟩ = some (.int .i64 (0)) := hbr.cell 3
      have y4 : wr.cell? ⟨w.heap.size + 1, 4, none⟩ = some (.slice none 0 0) := hbr.cell 4
      have lbr := hbr.lt
      have hcW := hc2.tr hcr
      go_wp2_with fail
      have hb9 := store5 hbr (.int .i64 0) (.string ⟨#[]⟩) (.int .i64 0) (.int .i64 0) (.slice none 0 0)
      have hc9 := hcW.trans' (store5_chg wr (w.heap.size + 1) (.int .i64 0) (.string ⟨#[]⟩) (.int .i64 0) (.int .i64 0) (.slice none 0 0)) (fun x e => by have e : x = w.heap.size + 1 := e; omega)
      generalize World.setCell (World.setCell (World.setCell (World.setCell (World.setCell wr ⟨w.heap.size + 1, 0, none⟩ (.int .i64 0)) ⟨w.heap.size + 1, 1, none⟩ (.string ⟨#[]⟩)) ⟨w.heap.size + 1, 2, none⟩ (.int .i64 0)) ⟨w.heap.size + 1, 3, none⟩ (.int .i64 0)) ⟨w.heap.size + 1, 4, none⟩ (.slice none 0 0) = w9 at *
      have n0 : w9.cell? ⟨w.heap.size + 1, 0, none⟩ = some (.int .i64 (0)) := hb9.cell 0
      have n1 : w9.cell? ⟨w.heap.size + 1, 1, none⟩ = some (.string ⟨#[]⟩) := hb9.cell 1
      have n2 : w9.cell? ⟨w.heap.size + 1, 2, none⟩ = some (.int .i64 (0)) := hb9.cell 2
      have n3 : w9.cell? ⟨w.heap.size + 1, 3, none⟩ = some (.int .i64 (0)) := hb9.cell 3
      have n4 : w9.cell? ⟨w.heap.size + 1, 4, none⟩ = some (.slice none 0 0) := hb9.cell 4
      refine bodyPost_ret (v := .tuple #[zeroNode, (.bool false)]) (by simp [results, Tryz.results23, go_sem, n0, n1, n2, n3, n4, zeroNode]) rfl ?_
      rw [Hno.out]
      exact ⟨hc9, rfl⟩
end Go.Proofs.YtfbbfhhhfbibjaaGreatDoor
