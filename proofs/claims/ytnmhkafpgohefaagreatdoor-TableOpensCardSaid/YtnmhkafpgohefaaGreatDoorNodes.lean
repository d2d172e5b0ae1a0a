/-
  The reader's nodes.
-/
import Derived.Test.YtnmhkafpgohefaaGreatDoorParse
import Derived.Test.YtnmhkafpgohefaaGreatDoorTreeMore
set_option linter.unusedVariables false
set_option maxHeartbeats 20000000
set_option maxRecDepth 100000
set_option linter.unusedSimpArgs false
namespace Go.Proofs.YtnmhkafpgohefaaGreatDoor
open Go.RowKit
def RetNodes (E : Er → Value) (r : Nat) (s : ByteArray) (p : PR) (w : World) (en : Ending) (w' : World) : Prop :=
 Chg (OneB r) w w' ∧ match p with
 | .ok l rest => ∃ v, en = .returned (.tuple #[v, .nilIface]) ∧ OwnT w' w.heap.size (fun _ => True) v l ∧ Rd r s rest w'
 | .bad e rest => ∃ v, en = .returned (.tuple #[.slice none 0 0, v]) ∧ FaultAt w' (E e) (s.size - rest.length) v
theorem rd_word {r : Nat} {s : ByteArray} {rest : List UInt8} {w : World} (h : Rd r s rest w) : w.cell? ⟨r, 2, none⟩ = some (.string ⟨(tok rest).toArray⟩) := h.2.cell 2
theorem Rd.keep {C : Nat → Prop} {r : Nat} {s : ByteArray} {rest : List UInt8} {w w' : World} (h : Rd r s rest w) (hc : Chg C w w') (hn : ¬ C r) : Rd r s rest w' := ⟨h.1, h.2.keep hc hn⟩
theorem next_rd (r : Nat) (s : ByteArray) (rest : List UInt8) (w : World) (h : Rd r s rest w) (hs : s.size ≤ 8000) :
  Calls Tryz.prog 150 #[.pointer (some ⟨r, 0, none⟩)] w (RetNil (fun w' => Rd r s (nxt rest) w' ∧ Chg (OneB r) w w')) := by
 obtain ⟨hsuf, hb⟩ := h
 have hl := hsuf.length_le
 rw [length_data] at hl
 have ht := tok_le rest
 have hsz : (⟨(tok rest).toArray⟩ : ByteArray).size = (tok rest).length := rfl
 have hdrop : s.data.toList.drop (s.size - rest.length) = rest := by
  rw [← length_data]; exact (List.suffix_iff_eq_drop.1 hsuf).symm
 have h := next_any r s _ _ w hb (by omega) (by rw [hsz]; omega)
 rw [hsz, ← List.drop_drop, hdrop] at h
 exact h
theorem fault_rd (r : Nat) (s : ByteArray) (rest : List UInt8) (w : World) (ev : Value) (h : Rd r s rest w) (hev : ∃ T p, ev = .iface T p) :
  Calls Tryz.prog 152 #[.pointer (some ⟨r, 0, none⟩), ev] w fun en w' => ∃ v, en = .returned v ∧ FaultAt w' ev (s.size - rest.length) v ∧ Chg NoB w w' :=
 fault_any r _ _ _ ev w h.2 hev
structure Sit (E : Er → Value) (B r : Nat) (s : ByteArray) (w : World) (v : Value) (ds : List Nd) (nb : Nat) (cells : List Value) (rest : List UInt8) (wk : World) : Prop where
 own : OwnT wk w.heap.size (fun b => b ≠ nb) v ds
 rd : Rd r s rest wk
 chg : Chg (OneB r) w wk
 glo : Glo B E wk
 nd : Blk wk nb cells 56
 ge : w.heap.size ≤ nb
 vn : v.ownBlock ≠ some nb
 lt : r < w.heap.size
 le : B ≤ r
section
variable {E : Er → Value} {B r : Nat} {s : ByteArray} {w : World} {v : Value} {ds : List Nd} {nb : Nat} {cells : List Value} {rest : List UInt8} {wk w' : World}
theorem Sit.keep0 (h : Sit E B r s w v ds nb cells rest wk) (hc : Chg NoB wk w') : Sit E B r s w v ds nb cells rest w' :=
 ⟨h.own.keep hc (fun _ _ _ => nbE), h.rd.keep hc nbE, h.chg.tr hc, h.glo.keep0 hc, h.nd.keep hc nbE, h.ge, h.vn, h.lt, h.le⟩
theorem Sit.next {q : List UInt8} (h : Sit E B r s w v ds nb cells rest wk) (hr : Rd r s q w') (hc : Chg (OneB r) wk w') : Sit E B r s w v ds nb cells q w' := by
 have hlt := h.lt
 refine ⟨h.own.keep hc (fun b hb _ e => ?_), hr, h.chg.trans hc (fun _ e => .inl e), h.glo.one hc h.le, h.nd.keep hc (fun e => ?_), h.ge, h.vn, h.lt, h.le⟩
 ·have e : b = r := e
  omega
 ·have e : nb = r := e
  have := h.ge; omega
theorem Sit.set (h : Sit E B r s w v ds nb cells rest wk) (i : Nat) (u : Value) : Sit E B r s w v ds nb (cells.set i u) rest (wk.setCell ⟨nb, i, none⟩ u) := by
 have hc : Chg (OneB nb) wk (wk.setCell ⟨nb, i, none⟩ u) := (Chg.refl (OneB nb) wk).setCell (p := ⟨nb, i, none⟩) (.inl rfl) u
 have hlt := h.lt
 have hle := h.le
 refine ⟨h.own.keep hc (fun b _ hb e => hb e), h.rd.keep hc (fun e => ?_), h.chg.trans hc (fun b e => .inr ?_), h.glo.keep hc (fun b hb e => ?_), h.nd.set i u, h.ge, h.vn, h.lt, h.le⟩
 ·have e : r = nb := e
  have := h.ge; omega
 ·have e : b = nb := e
  have := h.ge; omega
 ·have e : b = nb := e
  have := h.ge; omega
theorem Sit.word (h : Sit E B r s w v ds nb cells rest wk) : wk.cell? ⟨r, 2, none⟩ = some (.string ⟨(tok rest).toArray⟩) := rd_word h.rd
end
theorem trim_hash (c : UInt8) (ds : List UInt8) (h : c.toNat = 35) : Lib.trimPrefix (c :: ds) [35] = ds := by
 obtain rfl : c = 35 := UInt8.toNat_inj.1 h
 rfl
def lenV : Value → Nat
 | .slice _ n _ => n
 | _ => 0
def NodesRel (E : Er → Value) (B r : Nat) (s : ByteArray) (w : World) (deep : Int) (rest0 : List UInt8) (vl : Value) (wr : World) : Prop :=
 ∃ l rest ao cap, vl = .slice ao l.length cap ∧ OwnT wr w.heap.size (fun _ => True) vl l ∧ Rd r s rest wr ∧ Chg (OneB r) w wr ∧ Glo B E wr ∧
  parseL deep rest0 = (parseL deep rest).app l ∧ l.length + rest.length ≤ rest0.length
theorem nodes_any (E : Er → Value) (B r : Nat) (s : ByteArray) (hBr : B ≤ r) (hs : s.size ≤ 8000) : ∀ (m : Nat) (deep : Int) (rest0 : List UInt8) (w : World), 2 ≤ deep → deep ≤ 6 → 7 - deep ≤ m → Glo B E w → Rd r s rest0 w →
  Calls Tryz.prog 151 #[.pointer (some ⟨r, 0, none⟩), .int .i64 deep] w (RetNodes E r s (parseL deep rest0) w) := by
 intro m
 induction m with
 | zero => intro deep rest0 w h1 h2 h3; omega
 | succ m ih =>
  intro deep rest0 w hd2 hd6 hm hG hR
  have Hih := Lib.hid ih
  clear ih
  go_enter Tryz.func151, Tryz.ntmps151
  have hR0 := hR
  obtain ⟨hsuf0, hb0⟩ := hR0
  have hl0 := hsuf0.length_le
  rw [length_data] at hl0
  go_wp2_with fail
  go_loopw [6] (fun vl wr => NodesRel E B r s w deep rest0 vl wr) (fun vl _ => s.size + 1 - lenV vl)
  case atStart =>
   refine ⟨[], rest0, none, 0, rfl, OwnT.nil _ _ _, hR, Chg.refl _ _, hG, ?_, by simp⟩
   cases parseL deep rest0 <;> simp [PR.app]
  case round =>
   obtain ⟨l, rest, ao, cap, rfl, hown, hRr, hc, hGr, hpre, hlen⟩ := hrel
   have Hpre := Lib.hid hpre
   clear hpre
   have hRr0 := hRr
   obtain ⟨hsuf, hb⟩ := hRr0
   have c2 : wr.cell? ⟨r, 2, none⟩ = some (.string ⟨(tok rest).toArray⟩) := hb.cell 2
   by_cases hA : tok rest = [125]
   ·have hres : parseL deep rest0 = .ok l rest := by
     rw [Hpre.out, parse_stop (show headN deep rest = .stop from if_pos (.inl hA))]; simp [PR.app]
    have Hres := Lib.hid hres
    clear hres
    go_wp2_with fail
    go_ret2
    rw [Hres.out]
    exact ⟨hc, _, rfl, hown, hRr⟩
   by_cases hB : tok rest = []
   ·by_cases hd : deep ≤ 2
    ·have hres : parseL deep rest0 = .ok l rest := by
      rw [Hpre.out, parse_stop (show headN deep rest = .stop from if_pos (.inr ⟨hB, hd⟩))]; simp [PR.app]
     have Hres := Lib.hid hres
     clear hres
     go_wp2_with fail
     go_ret2
     rw [Hres.out]
     exact ⟨hc, _, rfl, hown, hRr⟩
    ·have hgo : ¬ (tok rest = [125] ∨ (tok rest = [] ∧ deep ≤ 2)) := by
      rintro (h | ⟨_, h⟩)
      ·exact hA h
      ·exact hd h
     have Hgo := Lib.hid hgo
     have hA' : (tok rest == [125]) = false := by simpa using hA
     have hB' : (tok rest).isEmpty = true := by simpa using hB
     have hd' : 2 < deep := Int.not_le.1 hd
     have hi : idxT repT (tok rest) < 1 := by rw [hB, idx_nil]; decide
     have Hi := Lib.hid hi
     clear hgo hA hB hd hi
     go_wp2_with fail
     refine wp_region_n (fun w' => w'.cell? ⟨r, 2, none⟩ = some (.string ⟨(tok rest).toArray⟩)) [8] (by kernel_rfl) ?_ (fun hSh => ?_)
     ·exact c2
     refine n_from 0 ?_
     intro htk
     iterate 5
      refine n_tB (v := ?_) htk rfl (Or.inl ⟨by rfl, ?_⟩) ?_
      rotate_left 1
      ·(intro w' hSw; (try dsimp only at hSw); go_simp; try with_reducible rfl)
      clear htk
      intro htk
      simp only [Nat.reduceAdd] at htk
      simp only [Act.put, qA, qB, qC, qD, qE, qF]
     clear htk
     apply n_share
     ·intro key
      refine n_fork 5 7 rfl rfl (by kernel_rfl) ?_ ?_
      ·go_wp2_with fail
       refine (idxR_any wr.drew (tok rest) 4 (hGr.tabs.keep0 (Chg.refl _ _).drew)).mono ?_
       rintro en w0 ⟨rfl, rfl⟩
       go_wp2_with fail
       refine ⟨fun _ => ?_, fun hSk => ?_⟩
       ·assumption
       replace hSk := hSk (by rfl)
       refine n_tA (v := ?_) 6 rfl (Or.inl ⟨by rfl, ?_⟩) ?_
       rotate_left 1
       ·(intro w' hSw; (try dsimp only at hSw); go_simp; try with_reducible rfl)
       simp only [Act.put, qA, qB, qC, qD, qE, qF]
       refine n_step 7 rfl (by kernel_rfl) ?_
       go_wp2_with fail
       refine ⟨fun _ => ?_, fun hSk => ?_⟩
       ·exact (hb.keep ((Chg.refl NoB _).alloc _).drew nbE).cell 2
       exact key.goes
      ·go_wp2_with fail
       refine ⟨fun _ => ?_, fun hSk => ?_⟩
       ·exact (hb.keep ((Chg.refl NoB _).alloc _).drew nbE).cell 2
       replace hSk := hSk (by rfl)
       refine n_step 5 rfl (by kernel_rfl) ?_
       go_wp2_with fail
       refine (idxR_any _ (tok rest) 4 (hGr.tabs.keep0 ((Chg.refl NoB _).alloc _).drew)).mono ?_
       rintro en w0 ⟨rfl, rfl⟩
       go_wp2_with fail
       refine ⟨fun _ => ?_, fun hSk => ?_⟩
       ·assumption
       replace hSk := hSk (by rfl)
       refine n_tA (v := ?_) 6 rfl (Or.inl ⟨by rfl, ?_⟩) ?_
       rotate_left 1
       ·(intro w' hSw; (try dsimp only at hSw); go_simp; try with_reducible rfl)
       simp only [Act.put, qA, qB, qC, qD, qE, qF]
       exact n_listed (by kernel_rfl) key.goes
     generalize hw1 : World.drew (wr.alloc _) = w1
     have hc1 : Chg NoB wr w1 := by
      rw [← hw1]
      repeat (first | exact Chg.refl _ _ | apply Chg.alloc | apply Chg.drew)
     have hb1 : Blk w1 (wr.heap.size) (ndCells 0 ⟨#[]⟩ 0 0 (.slice none 0 0)) 56 := by
      rw [← hw1]
      repeat (first | exact Blk.newAt (by first | rfl | (simp; done) | (simp; omega)) | apply Blk.alloc | apply Blk.drew)
     clear hw1
     have x0 : w1.cell? ⟨wr.heap.size, 0, none⟩ = some (.int .i64 (0)) := hb1.cell 0
     have x1 : w1.cell? ⟨wr.heap.size, 1, none⟩ = some (.string ⟨#[]⟩) := hb1.cell 1
     have x2 : w1.cell? ⟨wr.heap.size, 2, none⟩ = some (.int .i64 (0)) := hb1.cell 2
     have x3 : w1.cell? ⟨wr.heap.size, 3, none⟩ = some (.int .i64 (0)) := hb1.cell 3
     have x4 : w1.cell? ⟨wr.heap.size, 4, none⟩ = some (.slice none 0 0) := hb1.cell 4
     have z0 : w1.frozen? ⟨wr.heap.size, 0, none⟩ = false := hb1.free 0
     have z1 : w1.frozen? ⟨wr.heap.size, 1, none⟩ = false := hb1.free 1
     have z2 : w1.frozen? ⟨wr.heap.size, 2, none⟩ = false := hb1.free 2
     have z3 : w1.frozen? ⟨wr.heap.size, 3, none⟩ = false := hb1.free 3
     have z4 : w1.frozen? ⟨wr.heap.size, 4, none⟩ = false := hb1.free 4
     refine n_step 8 rfl (by kernel_rfl) ?_
     go_wp2_with fail
     refine ⟨fun hx => absurd hx (by decide), fun _ => ?_⟩
     refine n_done (by kernel_rfl) ?_
     have hb2 : Blk (((((w1.setCell ⟨wr.heap.size, 0, none⟩ (.int .i64 0)).setCell ⟨wr.heap.size, 1, none⟩ (.string ⟨#[]⟩)).setCell ⟨wr.heap.size, 2, none⟩ (.int .i64 (idxT repT (tok rest)))).setCell ⟨wr.heap.size, 3, none⟩ (.int .i64 0)).setCell ⟨wr.heap.size, 4, none⟩ (.slice none 0 0)) wr.heap.size (ndCells 0 ⟨#[]⟩ (idxT repT (tok rest)) 0 (.slice none 0 0)) 56 :=
      ((((hb1.set 0 _).set 1 _).set 2 _).set 3 _).set 4 _
     have hc2 : Chg NoB wr (((((w1.setCell ⟨wr.heap.size, 0, none⟩ (.int .i64 0)).setCell ⟨wr.heap.size, 1, none⟩ (.string ⟨#[]⟩)).setCell ⟨wr.heap.size, 2, none⟩ (.int .i64 (idxT repT (tok rest)))).setCell ⟨wr.heap.size, 3, none⟩ (.int .i64 0)).setCell ⟨wr.heap.size, 4, none⟩ (.slice none 0 0)) :=
      ((((hc1.setCell (p := ⟨wr.heap.size, 0, none⟩) (.inr (Nat.le_refl _)) _).setCell (p := ⟨wr.heap.size, 1, none⟩) (.inr (Nat.le_refl _)) _).setCell (p := ⟨wr.heap.size, 2, none⟩) (.inr (Nat.le_refl _)) _).setCell (p := ⟨wr.heap.size, 3, none⟩) (.inr (Nat.le_refl _)) _).setCell (p := ⟨wr.heap.size, 4, none⟩) (.inr (Nat.le_refl _)) _
     generalize ((((w1.setCell ⟨wr.heap.size, 0, none⟩ (.int .i64 0)).setCell ⟨wr.heap.size, 1, none⟩ (.string ⟨#[]⟩)).setCell ⟨wr.heap.size, 2, none⟩ (.int .i64 (idxT repT (tok rest)))).setCell ⟨wr.heap.size, 3, none⟩ (.int .i64 0)).setCell ⟨wr.heap.size, 4, none⟩ (.slice none 0 0) = w2 at hb2 hc2 ⊢
     have hsit : Sit E B r s w (.slice ao l.length cap) l wr.heap.size (ndCells 0 ⟨#[]⟩ (idxT repT (tok rest)) 0 (.slice none 0 0)) rest w2 := by
      refine ⟨(hown.inHeap.mono (Nat.le_refl _) (fun b hb => by have := hb.2; omega)).keep hc2 (fun _ _ _ => nbE), hRr.keep hc2 nbE, hc.tr hc2, hGr.keep0 hc2, hb2, hc.size, fun e => ?_, hR.2.lt, hBr⟩
      have := (hown.block _ e).2
      omega
     clear hb2 hc2 hb1 hc1 hSh x0 x1 x2 x3 x4 z0 z1 z2 z3 z4 hc hown hRr hGr hb c2
     generalize wr.heap.size = nb at hsit ⊢
     have HlenR := Lib.hid hlen
     have hi := Hi.out
     have a2 : w2.cell? ⟨nb, 2, none⟩ = some (.int .i64 (idxT repT (tok rest))) := hsit.nd.cell 2
     have hres : parseL deep rest0 = .bad .text (rest) := by
      rw [Hpre.out, parse_bad (show headN deep rest = .bad .text (rest) from by
       unfold headN; rw [if_neg Hgo.out, if_pos Hi.out])]
      rfl
     have Hres := Lib.hid hres
     clear hres
     have g3 := hsit.glo.errs.cell .text
     simp only [Er.g] at g3
     go_wp2_with fail
     refine (fault_rd r s (rest) w2 (E .text) hsit.rd (hG.errs.form .text)).mono ?_
     rintro en w9 ⟨v9, rfl, hf9, hc9⟩
     go_wp2_with fail
     go_ret2
     rw [Hres.out]
     exact ⟨hsit.chg.tr hc9, _, rfl, hf9⟩
   ·have hA' : (tok rest == [125]) = false := by simpa using hA
    have hB' : (tok rest).isEmpty = false := by simpa using hB
    have hgo : ¬ (tok rest = [125] ∨ (tok rest = [] ∧ deep ≤ 2)) := by
     rintro (h | ⟨h, _⟩)
     ·exact hA h
     ·exact hB h
    have Hgo := Lib.hid hgo
    clear hgo
    have HA := Lib.hid hA
    have HB := Lib.hid hB
    clear hA hB
    go_wp2_with fail
    refine wp_region_n (fun w' => w'.cell? ⟨r, 2, none⟩ = some (.string ⟨(tok rest).toArray⟩)) [8] (by kernel_rfl) ?_ (fun hSh => ?_)
    ·exact c2
    refine n_from 0 ?_
    intro htk
    iterate 5
     refine n_tB (v := ?_) htk rfl (Or.inl ⟨by rfl, ?_⟩) ?_
     rotate_left 1
     ·(intro w' hSw; (try dsimp only at hSw); go_simp; try with_reducible rfl)
     clear htk
     intro htk
     simp only [Nat.reduceAdd] at htk
     simp only [Act.put, qA, qB, qC, qD, qE, qF]
    clear htk
    apply n_share
    ·intro key
     refine n_fork 5 7 rfl rfl (by kernel_rfl) ?_ ?_
     ·go_wp2_with fail
      refine (idxR_any wr.drew (tok rest) 4 (hGr.tabs.keep0 (Chg.refl _ _).drew)).mono ?_
      rintro en w0 ⟨rfl, rfl⟩
      go_wp2_with fail
      refine ⟨fun _ => ?_, fun hSk => ?_⟩
      ·assumption
      replace hSk := hSk (by rfl)
      refine n_tA (v := ?_) 6 rfl (Or.inl ⟨by rfl, ?_⟩) ?_
      rotate_left 1
      ·(intro w' hSw; (try dsimp only at hSw); go_simp; try with_reducible rfl)
      simp only [Act.put, qA, qB, qC, qD, qE, qF]
      refine n_step 7 rfl (by kernel_rfl) ?_
      go_wp2_with fail
      refine ⟨fun _ => ?_, fun hSk => ?_⟩
      ·exact (hb.keep ((Chg.refl NoB _).alloc _).drew nbE).cell 2
      exact key.goes
     ·go_wp2_with fail
      refine ⟨fun _ => ?_, fun hSk => ?_⟩
      ·exact (hb.keep ((Chg.refl NoB _).alloc _).drew nbE).cell 2
      replace hSk := hSk (by rfl)
      refine n_step 5 rfl (by kernel_rfl) ?_
      go_wp2_with fail
      refine (idxR_any _ (tok rest) 4 (hGr.tabs.keep0 ((Chg.refl NoB _).alloc _).drew)).mono ?_
      rintro en w0 ⟨rfl, rfl⟩
      go_wp2_with fail
      refine ⟨fun _ => ?_, fun hSk => ?_⟩
      ·assumption
      replace hSk := hSk (by rfl)
      refine n_tA (v := ?_) 6 rfl (Or.inl ⟨by rfl, ?_⟩) ?_
      rotate_left 1
      ·(intro w' hSw; (try dsimp only at hSw); go_simp; try with_reducible rfl)
      simp only [Act.put, qA, qB, qC, qD, qE, qF]
      exact n_listed (by kernel_rfl) key.goes
    generalize hw1 : World.drew (wr.alloc _) = w1
    have hc1 : Chg NoB wr w1 := by
     rw [← hw1]
     repeat (first | exact Chg.refl _ _ | apply Chg.alloc | apply Chg.drew)
    have hb1 : Blk w1 (wr.heap.size) (ndCells 0 ⟨#[]⟩ 0 0 (.slice none 0 0)) 56 := by
     rw [← hw1]
     repeat (first | exact Blk.newAt (by first | rfl | (simp; done) | (simp; omega)) | apply Blk.alloc | apply Blk.drew)
    clear hw1
    have x0 : w1.cell? ⟨wr.heap.size, 0, none⟩ = some (.int .i64 (0)) := hb1.cell 0
    have x1 : w1.cell? ⟨wr.heap.size, 1, none⟩ = some (.string ⟨#[]⟩) := hb1.cell 1
    have x2 : w1.cell? ⟨wr.heap.size, 2, none⟩ = some (.int .i64 (0)) := hb1.cell 2
    have x3 : w1.cell? ⟨wr.heap.size, 3, none⟩ = some (.int .i64 (0)) := hb1.cell 3
    have x4 : w1.cell? ⟨wr.heap.size, 4, none⟩ = some (.slice none 0 0) := hb1.cell 4
    have z0 : w1.frozen? ⟨wr.heap.size, 0, none⟩ = false := hb1.free 0
    have z1 : w1.frozen? ⟨wr.heap.size, 1, none⟩ = false := hb1.free 1
    have z2 : w1.frozen? ⟨wr.heap.size, 2, none⟩ = false := hb1.free 2
    have z3 : w1.frozen? ⟨wr.heap.size, 3, none⟩ = false := hb1.free 3
    have z4 : w1.frozen? ⟨wr.heap.size, 4, none⟩ = false := hb1.free 4
    refine n_step 8 rfl (by kernel_rfl) ?_
    go_wp2_with fail
    refine ⟨fun hx => absurd hx (by decide), fun _ => ?_⟩
    refine n_done (by kernel_rfl) ?_
    have hb2 : Blk (((((w1.setCell ⟨wr.heap.size, 0, none⟩ (.int .i64 0)).setCell ⟨wr.heap.size, 1, none⟩ (.string ⟨#[]⟩)).setCell ⟨wr.heap.size, 2, none⟩ (.int .i64 (idxT repT (tok rest)))).setCell ⟨wr.heap.size, 3, none⟩ (.int .i64 0)).setCell ⟨wr.heap.size, 4, none⟩ (.slice none 0 0)) wr.heap.size (ndCells 0 ⟨#[]⟩ (idxT repT (tok rest)) 0 (.slice none 0 0)) 56 :=
     ((((hb1.set 0 _).set 1 _).set 2 _).set 3 _).set 4 _
    have hc2 : Chg NoB wr (((((w1.setCell ⟨wr.heap.size, 0, none⟩ (.int .i64 0)).setCell ⟨wr.heap.size, 1, none⟩ (.string ⟨#[]⟩)).setCell ⟨wr.heap.size, 2, none⟩ (.int .i64 (idxT repT (tok rest)))).setCell ⟨wr.heap.size, 3, none⟩ (.int .i64 0)).setCell ⟨wr.heap.size, 4, none⟩ (.slice none 0 0)) :=
     ((((hc1.setCell (p := ⟨wr.heap.size, 0, none⟩) (.inr (Nat.le_refl _)) _).setCell (p := ⟨wr.heap.size, 1, none⟩) (.inr (Nat.le_refl _)) _).setCell (p := ⟨wr.heap.size, 2, none⟩) (.inr (Nat.le_refl _)) _).setCell (p := ⟨wr.heap.size, 3, none⟩) (.inr (Nat.le_refl _)) _).setCell (p := ⟨wr.heap.size, 4, none⟩) (.inr (Nat.le_refl _)) _
    generalize ((((w1.setCell ⟨wr.heap.size, 0, none⟩ (.int .i64 0)).setCell ⟨wr.heap.size, 1, none⟩ (.string ⟨#[]⟩)).setCell ⟨wr.heap.size, 2, none⟩ (.int .i64 (idxT repT (tok rest)))).setCell ⟨wr.heap.size, 3, none⟩ (.int .i64 0)).setCell ⟨wr.heap.size, 4, none⟩ (.slice none 0 0) = w2 at hb2 hc2 ⊢
    have hsit : Sit E B r s w (.slice ao l.length cap) l wr.heap.size (ndCells 0 ⟨#[]⟩ (idxT repT (tok rest)) 0 (.slice none 0 0)) rest w2 := by
     refine ⟨(hown.inHeap.mono (Nat.le_refl _) (fun b hb => by have := hb.2; omega)).keep hc2 (fun _ _ _ => nbE), hRr.keep hc2 nbE, hc.tr hc2, hGr.keep0 hc2, hb2, hc.size, fun e => ?_, hR.2.lt, hBr⟩
     have := (hown.block _ e).2
     omega
    clear hb2 hc2 hb1 hc1 hSh x0 x1 x2 x3 x4 z0 z1 z2 z3 z4 hc hown hRr hGr hb c2
    generalize wr.heap.size = nb at hsit ⊢
    have HlenR := Lib.hid hlen
    by_cases hi : idxT repT (tok rest) < 1
    ·have a2 : w2.cell? ⟨nb, 2, none⟩ = some (.int .i64 (idxT repT (tok rest))) := hsit.nd.cell 2
     have Hi := Lib.hid hi
     have hres : parseL deep rest0 = .bad .text (rest) := by
      rw [Hpre.out, parse_bad (show headN deep rest = .bad .text (rest) from by
       unfold headN; rw [if_neg Hgo.out, if_pos Hi.out])]
      rfl
     have Hres := Lib.hid hres
     clear hres
     have g3 := hsit.glo.errs.cell .text
     simp only [Er.g] at g3
     go_wp2_with fail
     refine (fault_rd r s (rest) w2 (E .text) hsit.rd (hG.errs.form .text)).mono ?_
     rintro en w9 ⟨v9, rfl, hf9, hc9⟩
     go_wp2_with fail
     go_ret2
     rw [Hres.out]
     exact ⟨hsit.chg.tr hc9, _, rfl, hf9⟩
    ·have Hi := Lib.hid (Int.not_lt.1 hi)
     have a2 : w2.cell? ⟨nb, 2, none⟩ = some (.int .i64 (idxT repT (tok rest))) := hsit.nd.cell 2
     go_wp2_with fail
     refine (next_rd r s rest w2 hsit.rd hs).mono ?_
     rintro en w3 ⟨rfl, hrd3, hc3⟩
     replace hsit := hsit.next hrd3 hc3
     clear hrd3 hc3 a2
     have c3 := hsit.word
     go_wp2_with fail
     refine wp_region_n (fun w' => w'.cell? ⟨r, 2, none⟩ = some (.string ⟨(tok (nxt rest)).toArray⟩)) [7] (by kernel_rfl) ?_ (fun hSh => ?_)
     ·exact c3
     refine n_from 0 ?_
     intro htk
     iterate 5
      refine n_tB (v := ?_) htk rfl (Or.inl ⟨by rfl, ?_⟩) ?_
      rotate_left 1
      ·(intro w' hSw; (try dsimp only at hSw); go_simp; try with_reducible rfl)
      clear htk
      intro htk
      simp only [Nat.reduceAdd] at htk
      simp only [Act.put, qA, qB, qC, qD, qE, qF]
     clear htk
     refine n_step 5 rfl (by kernel_rfl) ?_
     go_wp2_with fail
     refine (idxK_any w3.drew (tok (nxt rest)) 6 (hsit.glo.tabs.keep0 (Chg.refl _ _).drew)).mono ?_
     rintro en w0 ⟨rfl, rfl⟩
     go_wp2_with fail
     refine ⟨fun _ => ?_, fun hSk => ?_⟩
     ·assumption
     replace hSk := hSk (by rfl)
     refine n_step 6 rfl (by kernel_rfl) ?_
     go_wp2_with fail
     refine ⟨fun _ => ?_, fun hSk => ?_⟩
     ·assumption
     replace hSk := hSk (by rfl)
     have k1 : w3.drew.cell? ⟨nb, 3, none⟩ = some (.int .i64 0) := hsit.nd.cell 3
     have k2 : w3.drew.frozen? ⟨nb, 3, none⟩ = false := hsit.nd.free 3
     refine n_step 7 rfl (by kernel_rfl) ?_
     go_wp2_with fail
     refine ⟨fun hx => absurd hx (by decide), fun _ => ?_⟩
     refine n_done (by kernel_rfl) ?_
     replace hsit := (hsit.set 3 (.int .i64 (idxT kindT (tok (nxt rest))))).keep0 (Chg.refl _ _).drew
     generalize (w3.setCell ⟨nb, 3, none⟩ (.int .i64 (idxT kindT (tok (nxt rest))))).drew = w4 at hsit ⊢
     simp only [ndCells, qE, qF] at hsit
     clear hSh hSk k1 k2 c3
     by_cases hk : idxT kindT (tok (nxt rest)) < 0
     ·have a3 : w4.cell? ⟨nb, 3, none⟩ = some (.int .i64 (idxT kindT (tok (nxt rest)))) := hsit.nd.cell 3
      have Hk := Lib.hid hk
      have hres : parseL deep rest0 = .bad .text (nxt rest) := by
       rw [Hpre.out, parse_bad (show headN deep rest = .bad .text (nxt rest) from by
        unfold headN; rw [if_neg Hgo.out, if_neg (Int.not_lt.2 Hi.out), if_pos Hk.out])]
       rfl
      have Hres := Lib.hid hres
      clear hres
      have g3 := hsit.glo.errs.cell .text
      simp only [Er.g] at g3
      go_wp2_with fail
      refine (fault_rd r s (nxt rest) w4 (E .text) hsit.rd (hG.errs.form .text)).mono ?_
      rintro en w9 ⟨v9, rfl, hf9, hc9⟩
      go_wp2_with fail
      go_ret2
      rw [Hres.out]
      exact ⟨hsit.chg.tr hc9, _, rfl, hf9⟩
     ·have Hk := Lib.hid (Int.not_lt.1 hk)
      have a3 : w4.cell? ⟨nb, 3, none⟩ = some (.int .i64 (idxT kindT (tok (nxt rest)))) := hsit.nd.cell 3
      go_wp2_with fail
      refine (next_rd r s (nxt rest) w4 hsit.rd hs).mono ?_
      rintro en w5 ⟨rfl, hrd5, hc5⟩
      replace hsit := hsit.next hrd5 hc5
      clear hrd5 hc5 a3
      have c5 := hsit.word
      have b1 : w5.cell? ⟨nb, 1, none⟩ = some (.string ⟨#[]⟩) := hsit.nd.cell 1
      have b2 : w5.frozen? ⟨nb, 1, none⟩ = false := hsit.nd.free 1
      obtain ⟨t2, ht2⟩ : ∃ t2, t2 = tok (nxt (nxt rest)) := ⟨_, rfl⟩
      have Ht2 := Lib.hid ht2
      rw [← ht2] at c5
      replace hsit := hsit.set 1 (.string ⟨t2.toArray⟩)
      simp only [qE, qF] at hsit
      have d1 : (w5.setCell ⟨nb, 1, none⟩ (.string ⟨t2.toArray⟩)).cell? ⟨nb, 1, none⟩ = some (.string ⟨t2.toArray⟩) := hsit.nd.cell 1
      have d2 : (w5.setCell ⟨nb, 1, none⟩ (.string ⟨t2.toArray⟩)).cell? ⟨r, 2, none⟩ = some (.string ⟨t2.toArray⟩) := by have := hsit.word; rw [← ht2] at this; exact this
      clear ht2
      rcases t2 with _ | ⟨ch, cs⟩
      ·have hh : headB (tok (nxt (nxt rest))) = false := by rw [← Ht2.out]; rfl
       have Hh := Lib.hid hh
       clear hh
       have hres : parseL deep rest0 = .bad .text (nxt (nxt rest)) := by
        rw [Hpre.out, parse_bad (show headN deep rest = .bad .text (nxt (nxt rest)) from by
         unfold headN; rw [if_neg Hgo.out, if_neg (Int.not_lt.2 Hi.out), if_neg (Int.not_lt.2 Hk.out), if_pos Hh.out])]
        rfl
       have Hres := Lib.hid hres
       clear hres
       have g3 := hsit.glo.errs.cell .text
       simp only [Er.g] at g3
       go_wp2_with fail
       refine (fault_rd r s (nxt (nxt rest)) (w5.setCell ⟨nb, 1, none⟩ (.string ⟨#[]⟩)) (E .text) hsit.rd (hG.errs.form .text)).mono ?_
       rintro en w9 ⟨v9, rfl, hf9, hc9⟩
       go_wp2_with fail
       go_ret2
       rw [Hres.out]
       exact ⟨hsit.chg.tr hc9, _, rfl, hf9⟩
      have hpos : 0 < (⟨(ch :: cs).toArray⟩ : ByteArray).size := Nat.succ_pos _
      have hlow : lower ch = (decide (97 ≤ ch.toNat) && decide (ch.toNat ≤ 122)) := by unfold lower; rw [Bool.decide_and]
      by_cases hl1 : 97 ≤ ch.toNat
      ·by_cases hl2 : ch.toNat ≤ 122
       ·have hhd : headB (tok (nxt (nxt rest))) = true := by rw [← Ht2.out]; show lower ch = true; rw [hlow, decide_eq_true hl1, decide_eq_true hl2]; rfl
        have Hhd := Lib.hid hhd
        clear hhd hlow
        have hl1' : (97 : Int) ≤ (((⟨(ch :: cs).toArray⟩ : ByteArray)[0]'hpos).toNat : Int) := by show (97 : Int) ≤ ch.toNat; omega
        have hl2' : (((⟨(ch :: cs).toArray⟩ : ByteArray)[0]'hpos).toNat : Int) ≤ 122 := by show (ch.toNat : Int) ≤ 122; omega
        go_wp2_with fail
        refine (next_rd r s (nxt (nxt rest)) _ hsit.rd hs).mono ?_
        rintro en w6 ⟨rfl, hrd6, hc6⟩
        replace hsit := hsit.next hrd6 hc6
        clear hrd6 hc6 hl1' hl2' d1 d2 b1 b2 c5
        obtain ⟨t3, ht3⟩ : ∃ t3, t3 = tok (nxt (nxt (nxt rest))) := ⟨_, rfl⟩
        have Ht3 := Lib.hid ht3
        have c6 := hsit.word
        rw [← ht3] at c6
        have ht3l : t3.length ≤ 8000 := by
         have h1 := tok_le (nxt (nxt (nxt rest)))
         have h2 := hsit.rd.1.length_le
         rw [length_data] at h2
         rw [ht3]; omega
        clear ht3
        go_wp2_with fail
        refine (Tryz.strings_TrimPrefix ⟨t3.toArray⟩ ⟨#[35]⟩ w6).mono ?_
        rintro en w0 ⟨rfl, rfl⟩
        have hpl : (⟨(Lib.trimPrefix t3 [35]).toArray⟩ : ByteArray).size ≤ 281474976710656 := by
         show (Lib.trimPrefix t3 [35]).length ≤ _
         unfold Lib.trimPrefix
         split
         ·rw [List.length_drop]; omega
         ·omega
        go_wp2_with fail
        refine (atoi_any w0 ⟨(Lib.trimPrefix t3 [35]).toArray⟩ hsit.glo hpl).mono ?_
        rintro en w7 ⟨vi, ve, rfl, hc7, hok7, hno7⟩
        replace hsit := hsit.keep0 hc7
        have c7 := hsit.word
        rw [← Ht3.out] at c7
        clear hc7 c6 hpl
        rcases t3 with _ | ⟨c3, ds⟩
        ·have hw : wordId (tok (nxt (nxt (nxt rest)))) = none := by rw [← Ht3.out]; rfl
         have HW := Lib.hid hw
         clear hw hok7 hno7
         have hres : parseL deep rest0 = .bad .text (nxt (nxt (nxt rest))) := by
          rw [Hpre.out, parse_bad (show headN deep rest = .bad .text (nxt (nxt (nxt rest))) from by
           unfold headN; rw [if_neg Hgo.out, if_neg (Int.not_lt.2 Hi.out), if_neg (Int.not_lt.2 Hk.out), if_neg (by rw [Hhd.out]; simp)]; simp only [HW.out])]
          rfl
         have Hres := Lib.hid hres
         clear hres
         have g3 := hsit.glo.errs.cell .text
         simp only [Er.g] at g3
         go_wp2_with fail
         refine (fault_rd r s (nxt (nxt (nxt rest))) w7 (E .text) hsit.rd (hG.errs.form .text)).mono ?_
         rintro en w9 ⟨v9, rfl, hf9, hc9⟩
         go_wp2_with fail
         go_ret2
         rw [Hres.out]
         exact ⟨hsit.chg.tr hc9, _, rfl, hf9⟩
        have hpos3 : 0 < (⟨(c3 :: ds).toArray⟩ : ByteArray).size := Nat.succ_pos _
        by_cases h35 : c3.toNat = 35
        rotate_left 1
        ·have hw : wordId (tok (nxt (nxt (nxt rest)))) = none := by rw [← Ht3.out]; simp only [wordId, if_neg h35]
         have HW := Lib.hid hw
         have h35' : ¬ (((⟨(c3 :: ds).toArray⟩ : ByteArray)[0]'hpos3).toNat : Int) = 35 := by show ¬ (c3.toNat : Int) = 35; omega
         clear hw hok7 hno7
         have hres : parseL deep rest0 = .bad .text (nxt (nxt (nxt rest))) := by
          rw [Hpre.out, parse_bad (show headN deep rest = .bad .text (nxt (nxt (nxt rest))) from by
           unfold headN; rw [if_neg Hgo.out, if_neg (Int.not_lt.2 Hi.out), if_neg (Int.not_lt.2 Hk.out), if_neg (by rw [Hhd.out]; simp)]; simp only [HW.out])]
          rfl
         have Hres := Lib.hid hres
         clear hres
         have g3 := hsit.glo.errs.cell .text
         simp only [Er.g] at g3
         go_wp2_with fail
         refine (fault_rd r s (nxt (nxt (nxt rest))) w7 (E .text) hsit.rd (hG.errs.form .text)).mono ?_
         rintro en w9 ⟨v9, rfl, hf9, hc9⟩
         go_wp2_with fail
         go_ret2
         rw [Hres.out]
         exact ⟨hsit.chg.tr hc9, _, rfl, hf9⟩
        have h35' : (((⟨(c3 :: ds).toArray⟩ : ByteArray)[0]'hpos3).toNat : Int) = 35 := by show (c3.toNat : Int) = 35; omega
        have hp : Lib.trimPrefix (c3 :: ds) [35] = ds := trim_hash c3 ds h35
        rw [show (⟨(Lib.trimPrefix (c3 :: ds) [35]).toArray⟩ : ByteArray).data.toList = ds from by rw [hp]] at hok7 hno7
        cases hnum : numOk ds with
        | none =>
         obtain ⟨T7, p7, rfl⟩ := hno7 hnum
         have hw : wordId (tok (nxt (nxt (nxt rest)))) = none := by rw [← Ht3.out]; simp only [wordId, if_pos h35, hnum]
         have HW := Lib.hid hw
         clear hw hok7 hno7 hnum hp
         have hres : parseL deep rest0 = .bad .text (nxt (nxt (nxt rest))) := by
          rw [Hpre.out, parse_bad (show headN deep rest = .bad .text (nxt (nxt (nxt rest))) from by
           unfold headN; rw [if_neg Hgo.out, if_neg (Int.not_lt.2 Hi.out), if_neg (Int.not_lt.2 Hk.out), if_neg (by rw [Hhd.out]; simp)]; simp only [HW.out])]
          rfl
         have Hres := Lib.hid hres
         clear hres
         have g3 := hsit.glo.errs.cell .text
         simp only [Er.g] at g3
         go_wp2_with fail
         refine (fault_rd r s (nxt (nxt (nxt rest))) w7 (E .text) hsit.rd (hG.errs.form .text)).mono ?_
         rintro en w9 ⟨v9, rfl, hf9, hc9⟩
         go_wp2_with fail
         go_ret2
         rw [Hres.out]
         exact ⟨hsit.chg.tr hc9, _, rfl, hf9⟩
        | some vn =>
         obtain ⟨rfl, rfl⟩ := hok7 vn hnum
         by_cases h5 : 4 < ds.length
         ·have hw : wordId (tok (nxt (nxt (nxt rest)))) = none := by rw [← Ht3.out]; simp only [wordId, if_pos h35, hnum, if_pos h5]
          have HW := Lib.hid hw
          have h5' : (5 : Int) < (ds.length : Int) + 1 := by omega
          clear hw hok7 hno7 hnum hp
          have hres : parseL deep rest0 = .bad .text (nxt (nxt (nxt rest))) := by
           rw [Hpre.out, parse_bad (show headN deep rest = .bad .text (nxt (nxt (nxt rest))) from by
            unfold headN; rw [if_neg Hgo.out, if_neg (Int.not_lt.2 Hi.out), if_neg (Int.not_lt.2 Hk.out), if_neg (by rw [Hhd.out]; simp)]; simp only [HW.out])]
           rfl
          have Hres := Lib.hid hres
          clear hres
          have g3 := hsit.glo.errs.cell .text
          simp only [Er.g] at g3
          go_wp2_with fail
          refine (fault_rd r s (nxt (nxt (nxt rest))) w7 (E .text) hsit.rd (hG.errs.form .text)).mono ?_
          rintro en w9 ⟨v9, rfl, hf9, hc9⟩
          go_wp2_with fail
          go_ret2
          rw [Hres.out]
          exact ⟨hsit.chg.tr hc9, _, rfl, hf9⟩
         have h5' : ¬ (5 : Int) < (ds.length : Int) + 1 := by omega
         rcases ds with _ | ⟨d4, ds4⟩
         ·rw [show numOk [] = none from rfl] at hnum; cases hnum
         have hb0 : (0 : Int) < (ds4.length : Int) + 1 + 1 := by omega
         have hb1 : (1 : Int) < (ds4.length : Int) + 1 + 1 := by omega
         have hpos4 : 1 < (⟨(c3 :: d4 :: ds4).toArray⟩ : ByteArray).size := Nat.succ_lt_succ (Nat.succ_pos _)
         by_cases h48 : d4.toNat = 48
         ·have hw : wordId (tok (nxt (nxt (nxt rest)))) = none := by
           rw [← Ht3.out]
           have : (d4 :: ds4).head? = some 48 := by rw [List.head?_cons, show d4 = 48 from UInt8.toNat_inj.1 h48]
           simp only [wordId, if_pos h35, hnum, if_neg h5, if_pos this]
          have HW := Lib.hid hw
          have h48' : ((((⟨(c3 :: d4 :: ds4).toArray⟩ : ByteArray)[1]'hpos4).toNat : Int) == 48) = true := by show ((d4.toNat : Int) == 48) = true; simp [h48]
          clear hw hok7 hno7 hnum hp
          have hres : parseL deep rest0 = .bad .text (nxt (nxt (nxt rest))) := by
           rw [Hpre.out, parse_bad (show headN deep rest = .bad .text (nxt (nxt (nxt rest))) from by
            unfold headN; rw [if_neg Hgo.out, if_neg (Int.not_lt.2 Hi.out), if_neg (Int.not_lt.2 Hk.out), if_neg (by rw [Hhd.out]; simp)]; simp only [HW.out])]
           rfl
          have Hres := Lib.hid hres
          clear hres
          have g3 := hsit.glo.errs.cell .text
          simp only [Er.g] at g3
          go_wp2_with fail
          refine (fault_rd r s (nxt (nxt (nxt rest))) w7 (E .text) hsit.rd (hG.errs.form .text)).mono ?_
          rintro en w9 ⟨v9, rfl, hf9, hc9⟩
          go_wp2_with fail
          go_ret2
          rw [Hres.out]
          exact ⟨hsit.chg.tr hc9, _, rfl, hf9⟩
         have h48' : ((((⟨(c3 :: d4 :: ds4).toArray⟩ : ByteArray)[1]'hpos4).toNat : Int) == 48) = false := by show ((d4.toNat : Int) == 48) = false; simp; omega
         have hw : wordId (tok (nxt (nxt (nxt rest)))) = some vi := by
          rw [← Ht3.out]
          have : ¬ (d4 :: ds4).head? = some 48 := by
           rw [List.head?_cons]
           intro e
           have := Option.some.inj e
           subst this
           exact h48 rfl
          simp only [wordId, if_pos h35, hnum, if_neg h5, if_neg this]
         have HW := Lib.hid hw
         have k0 : w7.cell? ⟨nb, 0, none⟩ = some (.int .i64 0) := hsit.nd.cell 0
         have k0f : w7.frozen? ⟨nb, 0, none⟩ = false := hsit.nd.free 0
         clear hw hok7 hno7 hnum hp
         go_wp2_with fail
         replace hsit := hsit.set 0 (.int .i64 vi)
         simp only [qE] at hsit
         refine (next_rd r s (nxt (nxt (nxt rest))) _ hsit.rd hs).mono ?_
         rintro en w8 ⟨rfl, hrd8, hc8⟩
         replace hsit := hsit.next hrd8 hc8
         clear hrd8 hc8 k0 k0f h35' h48' c7
         obtain ⟨t4, ht4⟩ : ∃ t4, t4 = tok (nxt (nxt (nxt (nxt rest)))) := ⟨_, rfl⟩
         have Ht4 := Lib.hid ht4
         have c8 := hsit.word
         rw [← ht4] at c8
         clear ht4
         have c83 : w8.cell? ⟨nb, 3, none⟩ = some (.int .i64 (idxT kindT (tok (nxt rest)))) := hsit.nd.cell 3
         by_cases hk0 : idxT kindT (tok (nxt rest)) = 0
         ·have Hk0 := Lib.hid hk0
          by_cases h4 : t4 = [123]
          rotate_left 1
          ·have h4' : ¬ tok (nxt (nxt (nxt (nxt rest)))) = [123] := by rw [← Ht4.out]; exact h4
           have H4 := Lib.hid h4'
           have h4b : (t4 == [123]) = false := by simpa using h4
           clear h4' h4
           have hres : parseL deep rest0 = .bad .text (nxt (nxt (nxt (nxt rest)))) := by
            rw [Hpre.out, parse_bad (show headN deep rest = .bad .text (nxt (nxt (nxt (nxt rest)))) from by
             unfold headN; rw [if_neg Hgo.out, if_neg (Int.not_lt.2 Hi.out), if_neg (Int.not_lt.2 Hk.out), if_neg (by rw [Hhd.out]; simp)]; simp only [HW.out]; rw [if_pos Hk0.out, if_pos H4.out])]
            rfl
           have Hres := Lib.hid hres
           clear hres
           have g3 := hsit.glo.errs.cell .text
           simp only [Er.g] at g3
           go_wp2_with fail
           refine (fault_rd r s (nxt (nxt (nxt (nxt rest)))) w8 (E .text) hsit.rd (hG.errs.form .text)).mono ?_
           rintro en w9 ⟨v9, rfl, hf9, hc9⟩
           go_wp2_with fail
           go_ret2
           rw [Hres.out]
           exact ⟨hsit.chg.tr hc9, _, rfl, hf9⟩
          have h4' : tok (nxt (nxt (nxt (nxt rest)))) = [123] := by rw [← Ht4.out]; exact h4
          have H4 := Lib.hid h4'
          clear h4'
          subst h4
          by_cases hd : 6 ≤ deep
          ·have Hd := Lib.hid hd
           have hres : parseL deep rest0 = .bad .bound (nxt (nxt (nxt (nxt rest)))) := by
            rw [Hpre.out, parse_bad (show headN deep rest = .bad .bound (nxt (nxt (nxt (nxt rest)))) from by
             unfold headN; rw [if_neg Hgo.out, if_neg (Int.not_lt.2 Hi.out), if_neg (Int.not_lt.2 Hk.out), if_neg (by rw [Hhd.out]; simp)]; simp only [HW.out]; rw [if_pos Hk0.out, if_neg (by rw [H4.out]; simp), if_pos Hd.out])]
            rfl
           have Hres := Lib.hid hres
           clear hres
           have g3 := hsit.glo.errs.cell .bound
           simp only [Er.g] at g3
           go_wp2_with fail
           refine (fault_rd r s (nxt (nxt (nxt (nxt rest)))) w8 (E .bound) hsit.rd (hG.errs.form .bound)).mono ?_
           rintro en w9 ⟨v9, rfl, hf9, hc9⟩
           go_wp2_with fail
           go_ret2
           rw [Hres.out]
           exact ⟨hsit.chg.tr hc9, _, rfl, hf9⟩
          have Hd := Lib.hid (Int.not_le.1 hd)
          have hhd : headN deep rest = .group vi ⟨(ch :: cs).toArray⟩ (idxT repT (tok rest)) (nxt (nxt (nxt (nxt (nxt rest))))) := by
           unfold headN; rw [if_neg Hgo.out, if_neg (Int.not_lt.2 Hi.out), if_neg (Int.not_lt.2 Hk.out), if_neg (by rw [Hhd.out]; simp)]; simp only [HW.out]; rw [if_pos Hk0.out, if_neg (by rw [H4.out]; simp), if_neg (Int.not_le.2 Hd.out), Ht2.out]
          have Hhead := Lib.hid hhd
          clear hhd
          go_wp2_with fail
          refine (next_rd r s (nxt (nxt (nxt (nxt rest)))) w8 hsit.rd hs).mono ?_
          rintro en w9 ⟨rfl, hrd9, hc9⟩
          replace hsit := hsit.next hrd9 hc9
          clear hrd9 hc9 c8 c83
          go_wp2_with fail
          have hlt9 := hsit.nd.lt
          have hsz9 := hsit.chg.size
          have hrr := hsit.lt
          have hown9 := hsit.own
          refine (Hih.out (deep + 1) (nxt (nxt (nxt (nxt (nxt rest))))) w9 (by omega) (by have := Hd.out; omega) (by omega) hsit.glo hsit.rd).mono ?_
          rintro en w10 ⟨hc10, hm10⟩
          cases hpar : parseL (deep + 1) (nxt (nxt (nxt (nxt (nxt rest))))) with
          | bad e5 q5 =>
           rw [hpar] at hm10
           obtain ⟨v5, rfl, hf5⟩ := hm10
           obtain ⟨p5, rfl, hf5⟩ := hf5
           have hres : parseL deep rest0 = .bad e5 q5 := by
            rw [Hpre.out, parse_group_bad Hhead.out hpar]
            rfl
           have Hres := Lib.hid hres
           have hch : Chg (OneB r) w w10 := hsit.chg.trans hc10 (fun _ e => .inl e)
           have hnd : Blk w10 nb _ 56 := hsit.nd.keep hc10 (fun e => by have e : nb = r := e; have := hsit.ge; omega)
           have z4 : w10.cell? ⟨nb, 4, none⟩ = some (.slice none 0 0) := hnd.cell 4
           have z4f : w10.frozen? ⟨nb, 4, none⟩ = false := hnd.free 4
           have hpnb : p5 ≠ nb := by
            intro e
            subst e
            have h1 := hnd
            unfold Blk at h1 hf5
            rw [h1] at hf5
            simp only [Option.some.injEq, Obj.cells.injEq] at hf5
            exact absurd hf5.2.1 (by decide)
           clear hres hpar
           go_wp2_with fail
           go_ret2
           rw [Hres.out]
           exact ⟨hch.setCell (p := ⟨nb, 4, none⟩) (.inr hsit.ge) _, _, rfl, ⟨p5, rfl, hf5.other (p := ⟨nb, 4, none⟩) hpnb _⟩⟩
          | ok sub q5 =>
           rw [hpar] at hm10
           obtain ⟨v5, rfl, ho5, hrd5⟩ := hm10
           obtain ⟨a5, cap5, rfl, _, _⟩ := ho5.form
           have hownK := ((hown9.inHeap.keep hc10 (fun b hb _ e => by have e : b = r := e; omega)).keep ((Chg.refl (OneB nb) w10).setCell (p := ⟨nb, 4, none⟩) (.inl rfl) (.slice a5 sub.length cap5)) (fun b _ hb e => hb.1 e))
           replace hsit := hsit.next hrd5 hc10
           have z4 : w10.cell? ⟨nb, 4, none⟩ = some (.slice none 0 0) := hsit.nd.cell 4
           have z4f : w10.frozen? ⟨nb, 4, none⟩ = false := hsit.nd.free 4
           have hsub := ho5.keep ((Chg.refl (OneB nb) w10).setCell (p := ⟨nb, 4, none⟩) (.inl rfl) (.slice a5 sub.length cap5)) (fun b hb _ e => by have e : b = nb := e; omega)
           replace hsit := hsit.set 4 (.slice a5 sub.length cap5)
           simp only [qE, qF] at hsit
           have hk00 := Hk0.out
           rw [hk00] at hsit
           clear hk00
           have wd := hsit.word
           by_cases h5 : tok q5 = [125]
           ·have H5 := Lib.hid h5
            have hpg := parse_group Hhead.out hpar h5
            have hlq := hpg.2
            have hpq : parseL deep rest0 = (parseL deep (nxt q5)).app (l ++ [.mk vi ⟨(ch :: cs).toArray⟩ (idxT repT (tok rest)) 0 sub]) := by
             rw [Hpre.out, hpg.1, PR.app_cons]
            have Hpq := Lib.hid hpq
            clear hpq hpg hpar
            go_wp2_with fail
            refine (next_rd r s q5 _ hsit.rd hs).mono ?_
            rintro en w11 ⟨rfl, hrd11, hc11⟩
            replace hsit := hsit.next hrd11 hc11
            have hownE := hownK.keep hc11 (fun b hb _ e => by have e : b = r := e; omega)
            have hrd : ∃ Fx, TrL w11 w.heap.size sub (.slice a5 sub.length cap5) Fx ∧ Fx.Nodup ∧ ∀ y ∈ Fx, ¬ (y ≠ nb ∧ y < w9.heap.size) := by
             obtain ⟨Fx, k1, k2, _⟩ := hsub.keep hc11 (fun b hb _ e => by have e : b = r := e; omega)
             exact ⟨Fx, k1.mono (by omega), k2, fun y hy h9 => by have := (k1.lt y hy).1; omega⟩
            clear hrd11 hc11 hsub wd z4 z4f hownK hown9
            have hcells := hsit.nd
            have y0 : w11.cell? ⟨nb, 0, none⟩ = some (.int .i64 vi) := hcells.cell 0
            have y1 : w11.cell? ⟨nb, 1, none⟩ = some (.string ⟨(ch :: cs).toArray⟩) := hcells.cell 1
            have y2 : w11.cell? ⟨nb, 2, none⟩ = some (.int .i64 (idxT repT (tok rest))) := hcells.cell 2
            have y3 : w11.cell? ⟨nb, 3, none⟩ = some (.int .i64 0) := hcells.cell 3
            have y4 : w11.cell? ⟨nb, 4, none⟩ = some (.slice a5 sub.length cap5) := hcells.cell 4
            clear hcells
            go_wp2_with (at_builtin; refine stop_here ?_)
            refine Stop.go ?_
            generalize hwA : World.alloc _ _ = wA
            have hcA : Chg NoB w11 wA := by
             rw [← hwA]
             repeat (first | exact Chg.refl _ _ | apply Chg.alloc | apply Chg.drew)
            have hbA : Blk wA (w11.heap.size) ([.int .i64 vi, .string ⟨(ch :: cs).toArray⟩, .int .i64 (idxT repT (tok rest)), .int .i64 0, .slice a5 sub.length cap5]) 56 := by
             rw [← hwA]
             repeat (first | exact Blk.newAt (by first | rfl | (simp; done) | (simp; omega)) | apply Blk.alloc | apply Blk.drew)
            clear hwA y0 y1 y2 y3 y4
            replace hsit := hsit.keep0 hcA
            have hownA := hownE.keep hcA (fun _ _ _ => nbE)
            refine wpList_ownT rfl (.tmp 174) (.tmp 176) 54 rfl w.heap.size Tryz.underlying54 infoNode rfl rfl hownA (nd := .mk vi ⟨(ch :: cs).toArray⟩ (idxT repT (tok rest)) 0 sub) ?_ rfl hbA ?_ ?_ ?_ ?_
            ·obtain ⟨Fx, k1, k2, k3⟩ := hrd
             exact ⟨Fx, trN.2 ⟨_, rfl, k1.keep (fun y hy => hcA.block y (k1.lt y hy).2 nbE)⟩, k2, k3⟩
            ·unfold maxLen; omega
            ·omega
            ·exact hsit.chg.size
            intro ao2 cap2 wB hoB hcB
            replace hcB : Chg (fun b => (Value.slice ao l.length cap).ownBlock = some b) wA wB := hcB
            go_wp2_with fail
            go_roundw
            case rel =>
             have hlow9 := hsit.lt
             have hle9 := hsit.le
             refine ⟨l ++ [.mk vi ⟨(ch :: cs).toArray⟩ (idxT repT (tok rest)) 0 sub], nxt q5, ao2, cap2, by rw [List.length_append]; rfl, ?_, hsit.rd.keep hcB (fun e => by have := (hownA.block r e).1; omega), hsit.chg.trans hcB (fun b e => .inr (hownA.block b e).1), hsit.glo.keep hcB (fun b hb e => by have := (hownA.block b e).1; omega), Hpq.out, ?_⟩
             ·exact hoB
             ·rw [List.length_append, List.length_singleton]
              have := HlenR.out
              omega
            case measure =>
             have := HlenR.out
             simp only [lenV]
             omega
           ·have h5' : (tok q5 == [125]) = false := by simpa using h5
            have hres : parseL deep rest0 = .bad .text q5 := by
             rw [Hpre.out, parse_group_open Hhead.out hpar h5]
             rfl
            have Hres := Lib.hid hres
            have g3 := hsit.glo.errs.cell .text
            simp only [Er.g] at g3
            clear hres hpar h5
            go_wp2_with fail
            refine (fault_rd r s q5 _ (E .text) hsit.rd (hG.errs.form .text)).mono ?_
            rintro en w12 ⟨v12, rfl, hf12, hc12⟩
            go_wp2_with fail
            go_ret2
            rw [Hres.out]
            exact ⟨hsit.chg.tr hc12, _, rfl, hf12⟩
         ·have Hk0 := Lib.hid hk0
          have hk0' : (idxT kindT (tok (nxt rest)) == 0) = false := by simpa using hk0
          by_cases h4 : t4 = [59]
          rotate_left 1
          ·have h4' : ¬ tok (nxt (nxt (nxt (nxt rest)))) = [59] := by rw [← Ht4.out]; exact h4
           have H4 := Lib.hid h4'
           have h4b : (t4 == [59]) = false := by simpa using h4
           clear h4' h4
           have hres : parseL deep rest0 = .bad .text (nxt (nxt (nxt (nxt rest)))) := by
            rw [Hpre.out, parse_bad (show headN deep rest = .bad .text (nxt (nxt (nxt (nxt rest)))) from by
             unfold headN; rw [if_neg Hgo.out, if_neg (Int.not_lt.2 Hi.out), if_neg (Int.not_lt.2 Hk.out), if_neg (by rw [Hhd.out]; simp)]; simp only [HW.out]; rw [if_neg Hk0.out, if_pos H4.out])]
            rfl
           have Hres := Lib.hid hres
           clear hres
           have g3 := hsit.glo.errs.cell .text
           simp only [Er.g] at g3
           go_wp2_with fail
           refine (fault_rd r s (nxt (nxt (nxt (nxt rest)))) w8 (E .text) hsit.rd (hG.errs.form .text)).mono ?_
           rintro en w9 ⟨v9, rfl, hf9, hc9⟩
           go_wp2_with fail
           go_ret2
           rw [Hres.out]
           exact ⟨hsit.chg.tr hc9, _, rfl, hf9⟩
          have h4' : tok (nxt (nxt (nxt (nxt rest)))) = [59] := by rw [← Ht4.out]; exact h4
          have H4 := Lib.hid h4'
          clear h4'
          subst h4
          have hhd : headN deep rest = .leaf (.mk vi ⟨(ch :: cs).toArray⟩ (idxT repT (tok rest)) (idxT kindT (tok (nxt rest))) []) (nxt (nxt (nxt (nxt (nxt rest))))) := by
           unfold headN; rw [if_neg Hgo.out, if_neg (Int.not_lt.2 Hi.out), if_neg (Int.not_lt.2 Hk.out), if_neg (by rw [Hhd.out]; simp)]; simp only [HW.out]; rw [if_neg Hk0.out, if_neg (by rw [H4.out]; simp), Ht2.out]
          have Hhead := Lib.hid hhd
          clear hhd
          go_wp2_with fail
          refine (next_rd r s (nxt (nxt (nxt (nxt rest)))) w8 hsit.rd hs).mono ?_
          rintro en w9 ⟨rfl, hrd9, hc9⟩
          replace hsit := hsit.next hrd9 hc9
          clear hrd9 hc9 c8 c83
          have hrd : ∃ Fx, TrL w9 w.heap.size [] (.slice none 0 0) Fx ∧ Fx.Nodup ∧ ∀ y ∈ Fx, ¬ (y ≠ nb) := ⟨[], .inl ⟨rfl, rfl, rfl⟩, List.nodup_nil, fun y hy => (List.not_mem_nil hy).elim⟩
          have hownE := hsit.own
          have hlq := head_leaf Hhead.out
          have hpq : parseL deep rest0 = (parseL deep (nxt (nxt (nxt (nxt (nxt rest)))))).app (l ++ [.mk vi ⟨(ch :: cs).toArray⟩ (idxT repT (tok rest)) (idxT kindT (tok (nxt rest))) []]) := by
           rw [Hpre.out, parse_leaf Hhead.out, PR.app_cons]
          have Hpq := Lib.hid hpq
          clear hpq
          have hcells := hsit.nd
          have y0 : w9.cell? ⟨nb, 0, none⟩ = some (.int .i64 vi) := hcells.cell 0
          have y1 : w9.cell? ⟨nb, 1, none⟩ = some (.string ⟨(ch :: cs).toArray⟩) := hcells.cell 1
          have y2 : w9.cell? ⟨nb, 2, none⟩ = some (.int .i64 (idxT repT (tok rest))) := hcells.cell 2
          have y3 : w9.cell? ⟨nb, 3, none⟩ = some (.int .i64 (idxT kindT (tok (nxt rest)))) := hcells.cell 3
          have y4 : w9.cell? ⟨nb, 4, none⟩ = some (.slice none 0 0) := hcells.cell 4
          clear hcells
          go_wp2_with (at_builtin; refine stop_here ?_)
          refine Stop.go ?_
          generalize hwA : World.alloc _ _ = wA
          have hcA : Chg NoB w9 wA := by
           rw [← hwA]
           repeat (first | exact Chg.refl _ _ | apply Chg.alloc | apply Chg.drew)
          have hbA : Blk wA (w9.heap.size) ([.int .i64 vi, .string ⟨(ch :: cs).toArray⟩, .int .i64 (idxT repT (tok rest)), .int .i64 (idxT kindT (tok (nxt rest))), .slice none 0 0]) 56 := by
           rw [← hwA]
           repeat (first | exact Blk.newAt (by first | rfl | (simp; done) | (simp; omega)) | apply Blk.alloc | apply Blk.drew)
          clear hwA y0 y1 y2 y3 y4
          replace hsit := hsit.keep0 hcA
          have hownA := hownE.keep hcA (fun _ _ _ => nbE)
          refine wpList_ownT rfl (.tmp 174) (.tmp 176) 54 rfl w.heap.size Tryz.underlying54 infoNode rfl rfl hownA (nd := .mk vi ⟨(ch :: cs).toArray⟩ (idxT repT (tok rest)) (idxT kindT (tok (nxt rest))) []) ?_ rfl hbA ?_ ?_ ?_ ?_
          ·obtain ⟨Fx, k1, k2, k3⟩ := hrd
           exact ⟨Fx, trN.2 ⟨_, rfl, k1.keep (fun y hy => hcA.block y (k1.lt y hy).2 nbE)⟩, k2, k3⟩
          ·unfold maxLen; omega
          ·omega
          ·exact hsit.chg.size
          intro ao2 cap2 wB hoB hcB
          replace hcB : Chg (fun b => (Value.slice ao l.length cap).ownBlock = some b) wA wB := hcB
          go_wp2_with fail
          go_roundw
          case rel =>
           have hlow9 := hsit.lt
           have hle9 := hsit.le
           refine ⟨l ++ [.mk vi ⟨(ch :: cs).toArray⟩ (idxT repT (tok rest)) (idxT kindT (tok (nxt rest))) []], nxt (nxt (nxt (nxt (nxt rest)))), ao2, cap2, by rw [List.length_append]; rfl, ?_, hsit.rd.keep hcB (fun e => by have := (hownA.block r e).1; omega), hsit.chg.trans hcB (fun b e => .inr (hownA.block b e).1), hsit.glo.keep hcB (fun b hb e => by have := (hownA.block b e).1; omega), Hpq.out, ?_⟩
           ·exact hoB
           ·rw [List.length_append, List.length_singleton]
            have := HlenR.out
            omega
          case measure =>
           have := HlenR.out
           simp only [lenV]
           omega
       ·have hh : headB (tok (nxt (nxt rest))) = false := by rw [← Ht2.out]; show lower ch = false; rw [hlow, decide_eq_false hl2, Bool.and_false]
        have Hh := Lib.hid hh
        clear hh hlow
        have hl1' : (97 : Int) ≤ (((⟨(ch :: cs).toArray⟩ : ByteArray)[0]'hpos).toNat : Int) := by show (97 : Int) ≤ ch.toNat; omega
        have hl2' : ¬ (((⟨(ch :: cs).toArray⟩ : ByteArray)[0]'hpos).toNat : Int) ≤ 122 := by show ¬ (ch.toNat : Int) ≤ 122; omega
        have hres : parseL deep rest0 = .bad .text (nxt (nxt rest)) := by
         rw [Hpre.out, parse_bad (show headN deep rest = .bad .text (nxt (nxt rest)) from by
          unfold headN; rw [if_neg Hgo.out, if_neg (Int.not_lt.2 Hi.out), if_neg (Int.not_lt.2 Hk.out), if_pos Hh.out])]
         rfl
        have Hres := Lib.hid hres
        clear hres
        have g3 := hsit.glo.errs.cell .text
        simp only [Er.g] at g3
        go_wp2_with fail
        refine (fault_rd r s (nxt (nxt rest)) (w5.setCell ⟨nb, 1, none⟩ (.string ⟨(ch :: cs).toArray⟩)) (E .text) hsit.rd (hG.errs.form .text)).mono ?_
        rintro en w9 ⟨v9, rfl, hf9, hc9⟩
        go_wp2_with fail
        go_ret2
        rw [Hres.out]
        exact ⟨hsit.chg.tr hc9, _, rfl, hf9⟩
      ·have hh : headB (tok (nxt (nxt rest))) = false := by rw [← Ht2.out]; show lower ch = false; rw [hlow, decide_eq_false hl1, Bool.false_and]
       have Hh := Lib.hid hh
       clear hh hlow
       have hl1' : ¬ (97 : Int) ≤ (((⟨(ch :: cs).toArray⟩ : ByteArray)[0]'hpos).toNat : Int) := by show ¬ (97 : Int) ≤ ch.toNat; omega
       have hres : parseL deep rest0 = .bad .text (nxt (nxt rest)) := by
        rw [Hpre.out, parse_bad (show headN deep rest = .bad .text (nxt (nxt rest)) from by
         unfold headN; rw [if_neg Hgo.out, if_neg (Int.not_lt.2 Hi.out), if_neg (Int.not_lt.2 Hk.out), if_pos Hh.out])]
        rfl
       have Hres := Lib.hid hres
       clear hres
       have g3 := hsit.glo.errs.cell .text
       simp only [Er.g] at g3
       go_wp2_with fail
       refine (fault_rd r s (nxt (nxt rest)) (w5.setCell ⟨nb, 1, none⟩ (.string ⟨(ch :: cs).toArray⟩)) (E .text) hsit.rd (hG.errs.form .text)).mono ?_
       rintro en w9 ⟨v9, rfl, hf9, hc9⟩
       go_wp2_with fail
       go_ret2
       rw [Hres.out]
       exact ⟨hsit.chg.tr hc9, _, rfl, hf9⟩
end Go.Proofs.YtnmhkafpgohefaaGreatDoor
