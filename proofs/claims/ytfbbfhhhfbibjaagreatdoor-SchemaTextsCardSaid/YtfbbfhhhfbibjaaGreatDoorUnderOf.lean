/-
  shredcolref2.UnderOf: the leaves' IDs in a node, by the list of all places; SameInts.
-/
import Derived.Test.YtfbbfhhhfbibjaaGreatDoorRefName
import Derived.Test.YtfbbfhhhfbibjaaGreatDoorInts
namespace Go.Proofs.YtfbbfhhhfbibjaaGreatDoor
open Go.RowKit

def underL (L : List Pl) : List Int := (L.filter (fun p => !decide (p.n.kind = 0))).map (fun p => p.n.id)
def UoRel (L : List Pl) (w w2 : World) (B : Nat) (vl vi : Value) (wr : World) : Prop :=
  ∃ j ao cap, j ≤ L.length ∧ vi = .int .i64 (j : Nat) ∧ vl = .slice ao (underL (L.take j)).length cap ∧ (Chg NoB w wr ∧ Chg NoB w2 wr) ∧ Own wr B 3 1 (fun _ => False) vl ((underL (L.take j)).map intDt)
theorem underL_len (L : List Pl) : (underL L).length ≤ L.length := by
  unfold underL
  rw [List.length_map]
  exact List.length_filter_le _ _

set_option maxHeartbeats 1000000 in
set_option maxRecDepth 100000 in
theorem underOf_any (nd : Nd) (w : World) (S : Nat → Prop) (cs : List Value) (hr : Reads w S nd.dt cs) (hok : nd.ok) :
    Calls Tryz.prog 28 #[.agg cs.toArray] w (RetList 1 (fun _ => False) ((underL (flatOf nd)).map intDt) w) := by
  have hr' := hr
  obtain ⟨i, nm, r, k, sb⟩ := nd
  obtain ⟨sv, rfl, hs⟩ := reads_nd.1 hr'
  obtain ⟨sa, cap, rfl, _, _, _⟩ := reads_subs hs
  go_enter Tryz.func28, Tryz.ntmps28
  go_wp2_with fail
  generalize hw1 : w.alloc _ = w1
  have hc1 : Chg NoB w w1 := by
    rw [← hw1]
    repeat (first | exact Chg.refl _ _ | apply Chg.alloc | apply Chg.drew)
  clear hw1
  refine (Flat_any (.mk i nm r k sb) w1 S _ (hr.chg0 hc1) hok).mono ?_
  rintro en w2 ⟨ao, c2, rfl, hrl, hc2⟩
  replace hc2 := hc1.tr hc2
  have hLle : (flatOf (.mk i nm r k sb)).length ≤ 2001 := flatN_le (.mk i nm r k sb) [] 1 (-1) (by simp)
  rw [List.length_map] at hrl ⊢
  obtain ⟨-, hL1, hL2, hel⟩ := pl_cells hrl
  clear hrl
  generalize hLe : flatOf (.mk i nm r k sb) = L at *
  have HLe := Lib.hid hLe
  clear hLe
  have Hel := Lib.hid hel
  clear hel
  have hsz2 := hc2.size
  go_wp2_with fail
  go_loopw [4, 5] (fun vl vi wr => UoRel L w w2 w2.heap.size vl vi wr) (fun _ vi _ => L.length - (intOf vi).toNat)
  case atStart => exact ⟨0, none, 0, Nat.zero_le _, rfl, rfl, ⟨hc2, Chg.refl _ _⟩, Own.nil _ _ _ _ _⟩
  case round =>
    obtain ⟨j, ao2, ac, hj, rfl, rfl, ⟨hcr, hcr2⟩, ho⟩ := hrel
    have hul := underL_len (L.take j)
    rw [List.length_take] at hul
    have hlm : ((underL (L.take j)).map intDt).length = (underL (L.take j)).length := List.length_map ..
    by_cases hlt : j < L.length
    · obtain ⟨b, off, rfl, hbw, hel⟩ := Hel.out (by omega)
      have hP := (hel j L[j] (by simp [hlt])).keep0 hbw hcr2
      have htake : L.take (j + 1) = L.take j ++ [L[j]] := List.take_succ_eq_append_getElem hlt
      have hnext : underL (L.take (j + 1)) = underL (L.take j) ++ underL [L[j]] := by rw [htake]; unfold underL; rw [List.filter_append, List.map_append]
      generalize L[j] = p at hP hnext
      have Hnext := Lib.hid hnext
      clear hel htake hnext
      obtain ⟨⟨i1, n1, r1, k1, s1⟩, d1, a1⟩ := p
      have e0 := hP.id
      have e3 := hP.kind
      simp only [Nd.id, Nd.kind] at e0 e3
      clear hP
      by_cases hk : k1 = 0
      · subst hk
        have hone : underL [⟨.mk i1 n1 r1 0 s1, d1, a1⟩] = [] := by simp [underL, Nd.kind]
        rw [hone] at Hnext
        clear hone
        go_wp2_with fail
        refine ⟨⟨j + 1, ao2, ac, hlt, by go_num, ?_, ⟨hcr, hcr2⟩, ?_⟩, by simp [intOf]; omega⟩
        · rw [Hnext.out, List.append_nil]
        · rw [Hnext.out, List.append_nil]; exact ho
      · have hone : underL [⟨.mk i1 n1 r1 k1 s1, d1, a1⟩] = [i1] := by simp [underL, Nd.kind, Nd.id, hk]
        rw [hone] at Hnext
        have hk' : (k1 != 0) = true := by simpa using hk
        clear hone hk
        go_wp2_with (at_builtin; refine stop_here ?_)
        refine Stop.go ?_
        generalize hwA : World.alloc wr _ = wA
        have hcA : Chg NoB wr wA := by
          rw [← hwA]
          repeat (first | exact Chg.refl _ _ | apply Chg.alloc | apply Chg.drew)
        have hbA : Blk wA (wr.heap.size) ([.int .i64 i1]) 3 := by
          rw [← hwA]
          repeat (first | exact Blk.newAt (by first | rfl | (simp; done) | (simp; omega)) | apply Blk.alloc | apply Blk.drew)
        clear hwA
        have hoA := ho.keep hcA (fun _ h => h.elim) (fun _ _ => NoB.elim)
        refine wpList_own rfl (.tmp 21) (.tmp 28) 51 rfl w2.heap.size 3 Tryz.underlying51 infoInt1 rfl (by decide) rfl hoA rfl [intDt i1] [.int .i64 i1] rfl (ReadsC.single rfl ⟨rfl, rfl⟩) hbA.news (fun e => by cases e) ?_ ?_ ?_ ?_
        · rw [hlm]; unfold maxLen; omega
        · rw [hlm]; omega
        · have := hcr2.size; have := hcA.size; omega
        intro ao4 cap4 wB hoB hcB hatB
        rw [hlm] at hoB ⊢
        have hcV : Chg NoB w wB := (hcr.tr hcA).trans hcB (fun x e => .inr (by have := (hoA.block x e).1; omega))
        go_wp2_with fail
        go_roundw
        case rel =>
          refine ⟨j + 1, ao4, cap4, hlt, by go_num, ?_, ?_, ?_⟩
          · show Value.slice ao4 ((underL (L.take j)).length + 1) cap4 = _
            rw [Hnext.out, List.length_append]
            rfl
          · refine ⟨hcV, (hcr2.tr hcA).trans hcB (fun x e => .inr (hoA.block x e).1)⟩
          · rw [Hnext.out, List.map_append]
            exact hoB
        case measure => simp [intOf]; omega
    · have hjl : j = L.length := by omega
      subst hjl
      rw [List.take_length] at ho hlm
      go_wp2_with fail
      go_ret
      rw [List.take_length, HLe.out]
      refine ⟨ao2, ac, by rw [List.length_map]; rfl, ?_, hcr⟩
      rw [List.length_map]
      exact ho.reads (fun _ h => h.elim) (fun b hb _ => .inr (by omega)) (by rw [List.length_map]; have := underL_len L; unfold maxLen; omega)
end Go.Proofs.YtfbbfhhhfbibjaaGreatDoor
