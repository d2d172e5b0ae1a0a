/-
  The document's dropped.; Edits on items against the tree: drop.; What the row's list gives: the package's variables.
-/
import Derived.Test.YtgcmfpcgmkkobaaGreatDoorWoR
import Derived.Test.YtgcmfpcgmkkobaaGreatDoorMoveLaw
import Derived.Test.YtgcmfpcgmkkobaaGreatDoorItemMv
import Derived.Test.YtgcmfpcgmkkobaaGreatDoorParse
import Derived.OpenShut
import Derived.LaidLaws
set_option linter.unusedVariables false
set_option maxHeartbeats 20000000
set_option maxRecDepth 100000
set_option linter.unusedSimpArgs false
namespace Go.Proofs.YtgcmfpcgmkkobaaGreatDoor
open Go.RowKit
inductive Hangs (its : List It) (id : Int) : Int → Prop
 | self : Hangs its id id
 | on (x : It) : x ∈ its → Hangs its id x.ar → Hangs its id x.n.id
structure Gone (its : List It) (id : Int) (G : List Int) : Prop where
 hangs : ∀ g ∈ G, Hangs its id g
 self : id ∈ G
 nodup : G.Nodup
 inn : ∀ g ∈ G, g = id ∨ ∃ x ∈ its, x.n.id = g
def gClosed (its : List It) (G : List Int) : Prop := ∀ x ∈ its, x.ar ∈ G → x.n.id ∈ G
theorem gone_all {its : List It} {id : Int} {G : List Int} (h : Gone its id G) (hc : gClosed its G) (g : Int) : g ∈ G ↔ Hangs its id g := by
 refine ⟨h.hangs g, fun hg => ?_⟩
 induction hg with
 | self => exact h.self
 | on x hx _ ih => exact hc x hx ih
theorem sub_len : ∀ (G M : List Int), G.Nodup → (∀ g ∈ G, g ∈ M) → G.length ≤ M.length
 | [], M, _, _ => Nat.zero_le _
 | g :: G, M, hn, hm => by
  rw [List.nodup_cons] at hn
  have hg := hm g (List.mem_cons_self ..)
  have h1 := sub_len G (M.erase g) hn.2 (fun x hx => (List.mem_erase_of_ne (fun e => hn.1 (by rw [← e]; exact hx))).2 (hm x (List.mem_cons_of_mem _ hx)))
  rw [List.length_erase_of_mem hg] at h1
  have := List.length_pos_of_mem hg
  rw [List.length_cons]; omega
theorem gone_len {its : List It} {id : Int} {G : List Int} (h : Gone its id G) : G.length ≤ its.length + 1 := by
 have := sub_len G (id :: its.map (fun x => x.n.id)) h.nodup (fun g hg => by
  rcases h.inn g hg with rfl | ⟨x, hx, rfl⟩
  ·exact List.mem_cons_self ..
  ·exact List.mem_cons_of_mem _ (List.mem_map.2 ⟨x, hx, rfl⟩))
 simpa using this
def RetDr (its : List It) (id : Int) (w : World) (en : Ending) (w' : World) : Prop :=
 ∃ v r G, en = .returned v ∧ (∀ g, g ∈ G ↔ Hangs its id g) ∧ Wo (its.filter fun x => !has G x.n.id) r ∧ Its w' (fun b => w.heap.size ≤ b) v r ∧ Chg NoB w w'
def Dr1 (its : List It) (id : Int) (w : World) (vg va : Value) (wr : World) : Prop :=
 ∃ (G : List Int) (b : Bool), va = .bool b ∧ Gone its id G ∧ Own wr w.heap.size 3 1 (fun _ => False) vg (G.map intDt) ∧ Chg NoB w wr ∧ (b = false → gClosed its G)
def Dr2 (its : List It) (id : Int) (w : World) (G0 : List Int) (vg va vi : Value) (wr : World) : Prop :=
 ∃ (G : List Int) (b : Bool) (i : Nat), i ≤ its.length ∧ vi = .int .i64 (i : Nat) ∧ va = .bool b ∧ Gone its id G ∧ Own wr w.heap.size 3 1 (fun _ => False) vg (G.map intDt) ∧ Chg NoB w wr ∧
  (b = true → G0.length < G.length) ∧ (b = false → G = G0 ∧ ∀ (j : Nat) (x : It), j < i → its[j]? = some x → x.ar ∈ G → x.n.id ∈ G)
def Dr3 (its : List It) (G : List Int) (w : World) (vo vi : Value) (wr : World) : Prop :=
 ∃ j : Nat, j ≤ its.length ∧ vi = .int .i64 (j : Nat) ∧ Own wr w.heap.size 124 6 (fun _ => False) vo (((its.take j).filter fun x => !has G x.n.id).map It.dt) ∧ Chg NoB w wr
theorem droppedR_any (its : List It) (id : Int) (v : Value) (w : World) (S : Nat → Prop) (h : Its w S v its) :
  Calls Tryz.prog 82 #[v, .int .i64 id] w (RetDr its id w) := by
 obtain ⟨a, c, rfl, hlc, hcm, hcell⟩ := h.form
 have hsm := h.small
 unfold maxLen at hcm
 go_enter Tryz.func82, Tryz.ntmps82
 go_wp2_with fail
 generalize hw1 : World.alloc w _ = w1
 have hc1 : Chg NoB w w1 := by
  rw [← hw1]
  repeat (first | exact Chg.refl _ _ | apply Chg.alloc | apply Chg.drew)
 have hb1 : Blk w1 (w.heap.size) ([.int .i64 id]) 3 := by
  rw [← hw1]
  repeat (first | exact Blk.newAt (by first | rfl | (simp; done) | (simp; omega)) | apply Blk.alloc | apply Blk.drew)
 clear hw1
 have ho1 : Own w1 w.heap.size 3 1 (fun _ => False) (.slice (some ⟨w.heap.size, 0, none⟩) 1 1) ([id].map intDt) :=
  ⟨[.int .i64 id], ⟨rfl, .inr ⟨w.heap.size, 1, #[.int .i64 id], rfl, Nat.le_refl _, hb1, Nat.le_refl _, by decide, rfl, rfl⟩⟩, ints_chunks _ _ [id]⟩
 go_loopw [5, 6] (fun vg va wr => Dr1 its id w vg va wr) (fun vg va _ => 2 * (its.length + 1 - lenS vg) + boolN va)
 case atStart => exact ⟨[id], true, rfl, ⟨fun g hg => by rw [List.mem_singleton.1 hg]; exact .self, List.mem_singleton.2 rfl, by simp, fun g hg => .inl (List.mem_singleton.1 hg)⟩, ho1, hc1, fun e => by cases e⟩
 case round =>
  obtain ⟨G0, b, rfl, hG0, hoG0, hc, hb⟩ := hrel
  obtain ⟨ag, cg, rfl⟩ := hoG0.form
  have hgl0 := gone_len hG0
  rw [List.length_map] at *
  cases b with
  | false =>
   have Hb := Lib.hid (hb rfl)
   clear hb
   obtain ⟨w0, hw0⟩ : ∃ x, x = wr := ⟨_, rfl⟩
   subst hw0
   go_wp2_with fail
   go_loopw [10, 11] (fun vo vi wx => Dr3 its G0 w0 vo vi wx) (fun _ vi _ => its.length - (intOf vi).toNat)
   case atStart => exact ⟨0, Nat.zero_le _, rfl, Own.nil _ _ _ _ _, Chg.refl _ _⟩
   case round =>
    obtain ⟨j, hj, rfl, hown, hcx⟩ := hrel
    obtain ⟨ao, cp, rfl⟩ := hown.form
    have hfl : ((its.take j).filter fun x => !has G0 x.n.id).length ≤ j := by
     have h1 := List.length_filter_le (fun x : It => !has G0 x.n.id) (its.take j)
     rw [List.length_take] at h1
     omega
    rw [List.length_map] at *
    generalize hL : (its.take j).filter (fun x => !has G0 x.n.id) = L at hown hfl
    have HL := Lib.hid hL
    clear hL
    by_cases hlt : j < its.length
    ·have hltI : (j : Int) < (its.length : Int) := by omega
     obtain ⟨bb, off, rfl, hSb, hbw, hE⟩ := hcell (by omega)
     have hg : its[j]? = some its[j] := List.getElem?_eq_getElem hlt
     have htk : its.take (j + 1) = its.take j ++ [its[j]] := List.take_succ_eq_append_getElem hlt
     have hA := (hE j its[j] hg).keep (hc.tr hcx) nbE
     generalize its[j] = x at hg hA htk
     have hnew : (its.take (j + 1)).filter (fun x => !has G0 x.n.id) = L ++ (if has G0 x.n.id = true then [] else [x]) := by
      rw [htk, List.filter_append, HL.out, List.filter_cons]
      cases has G0 x.n.id <;> rfl
     have Hnew := Lib.hid hnew
     clear hg htk hE hnew
     obtain ⟨⟨xi, xn, xr, xk, xs⟩, xa⟩ := x
     have y0 := hA.id
     have y1 := hA.name
     have y2 := hA.rep
     have y3 := hA.kind
     have y4 := hA.sub
     have y5 := hA.ar
     simp only [Nd.id, Nd.name, Nd.rep, Nd.kind] at y0 y1 y2 y3 y5
     clear hA
     have hoGx := hoG0.keep hcx (fun _ e => e.elim) (fun _ _ => nbE)
     have hrG : Reads wr (fun b => b < wr.heap.size) (.list 1 (G0.map intDt)) [.slice ag G0.length cg] :=
      hoGx.reads (S' := fun b => b < wr.heap.size) (fun _ e => e.elim) (fun b _ hb => hb) (by rw [List.length_map]; unfold maxLen; omega)
     go_wp2_with fail
     refine (hasInt_any G0 xi _ wr _ hrG).mono ?_
     rintro en w3 ⟨rfl, h3⟩
     obtain rfl := h3.symm
     clear h3
     cases h1 : has G0 xi with
     | true =>
      go_wp2_with fail
      go_roundw
      case rel => exact ⟨j + 1, hlt, by go_num, by rw [Hnew.out, if_pos (show has G0 (It.mk (Nd.mk xi xn xr xk xs) xa).n.id = true from h1), List.append_nil]; exact hown, hcx⟩
      case measure => simp [intOf]; omega
     | false =>
      go_wp2_with (at_builtin; refine stop_here ?_)
      refine Stop.go ?_
      generalize hw5 : World.alloc wr _ = w5
      have hc5 : Chg NoB wr w5 := by
       rw [← hw5]
       repeat (first | exact Chg.refl _ _ | apply Chg.alloc | apply Chg.drew)
      have hb5 : Blk w5 (wr.heap.size) (itCells ⟨.mk xi xn xr xk xs, xa⟩) 124 := by
       rw [← hw5]
       repeat (first | exact Blk.newAt (by first | rfl | (simp; done) | (simp; omega)) | apply Blk.alloc | apply Blk.drew)
      clear hw5
      have ho5 := hown.keep hc5 (fun _ e => e.elim) (fun _ _ => nbE)
      refine wpList_own rfl (.tmp 67) (.tmp 72) 84 rfl w0.heap.size 124 Tryz.underlying84 infoItem rfl (by decide) rfl ho5 rfl [It.dt ⟨.mk xi xn xr xk xs, xa⟩] (itCells ⟨.mk xi xn xr xk xs, xa⟩) rfl (ReadsC.single rfl (reads_it.2 rfl)) hb5.news (fun e => by cases e) ?_ ?_ (Nat.le_trans hcx.size hc5.size) ?_
      ·rw [List.length_map]; simp [maxLen]; omega
      ·rw [List.length_map]; omega
      intro ao2 cp2 w6 ho6 hc6 hat6
      rw [List.length_map] at ho6 ⊢
      have hc06 : Chg NoB w0 w6 := (hcx.tr hc5).trans hc6 (fun y e => .inr (ho5.block y e).1)
      clear hat6 hc6 hb5
      go_wp2_with fail
      go_roundw
      case rel => exact ⟨j + 1, hlt, by go_num, by rw [Hnew.out, if_neg (show ¬ has G0 (It.mk (Nd.mk xi xn xr xk xs) xa).n.id = true from fun e => by rw [show has G0 (It.mk (Nd.mk xi xn xr xk xs) xa).n.id = false from h1] at e; cases e), List.map_append]; exact ho6, hc06⟩
      case measure => simp [intOf]; omega
    ·have hltI : ¬ (j : Int) < (its.length : Int) := by omega
     have hjs : its.take j = its := List.take_of_length_le (by omega)
     have hfin := HL.out
     rw [hjs] at hfin
     have Hfin := Lib.hid hfin
     clear hfin hjs
     have hI := hown.its (by omega)
     go_wp2_with fail
     refine (withoutEmptyR_any L _ wr _ hI).mono ?_
     rintro en w7 ⟨v7, r7, rfl, hwo, hI7, hc7⟩
     have hz := hc.size
     have hzx := hcx.size
     have hI8 := hI7.mono (S' := fun b => w.heap.size ≤ b) (fun b hb => hb.elim (fun e => Nat.le_trans hz e.1) (fun e => by omega))
     obtain ⟨a7, c7, rfl, _, _, _⟩ := hI8.form
     go_wp2_with fail
     go_ret
     exact ⟨_, r7, G0, rfl, gone_all hG0 Hb.out, by rw [Hfin.out]; exact hwo, hI8, (hc.tr hcx).tr hc7⟩
  | true =>
   clear hb
   go_wp2_with fail
   go_loopw [5, 6, 7] (fun vg va vi wx => Dr2 its id w G0 vg va vi wx) (fun _ _ vi _ => its.length - (intOf vi).toNat)
   case atStart => exact ⟨G0, false, 0, Nat.zero_le _, rfl, rfl, hG0, hoG0, hc, (fun e => by cases e), fun _ => ⟨rfl, fun j x hj => by omega⟩⟩
   case round =>
    obtain ⟨G, b, i, hi, rfl, rfl, hG, hoG, hcx, hb1, hb2⟩ := hrel
    obtain ⟨ah, ch, rfl⟩ := hoG.form
    have hgl := gone_len hG
    rw [List.length_map] at *
    have Hb2 := Lib.hid hb2
    have Hb1 := Lib.hid hb1
    clear hb1 hb2
    by_cases hlt : i < its.length
    ·have hltI : (i : Int) < (its.length : Int) := by omega
     obtain ⟨bb, off, rfl, hSb, hbw, hE⟩ := hcell (by omega)
     have hg : its[i]? = some its[i] := List.getElem?_eq_getElem hlt
     have hmem := List.getElem_mem hlt
     have hA := (hE i its[i] hg).keep hcx nbE
     generalize its[i] = x at hg hA hmem
     have Hg := Lib.hid hg
     have Hmem := Lib.hid hmem
     clear hg hmem hE
     obtain ⟨⟨xi, xn, xr, xk, xs⟩, xa⟩ := x
     have y0 := hA.id
     have y5 := hA.ar
     simp only [Nd.id] at y0 y5
     clear hA
     have hrG : Reads wr (fun b => b < wr.heap.size) (.list 1 (G.map intDt)) [.slice ah G.length ch] := by
      have h9 := hoG.reads (S' := fun b => b < wr.heap.size) (fun _ e => e.elim) (fun b _ hb => hb) (by rw [List.length_map]; unfold maxLen; omega)
      exact h9
     go_wp2_with fail
     refine (hasInt_any G xa _ wr _ hrG).mono ?_
     rintro en w3 ⟨rfl, h3⟩
     obtain rfl := h3.symm
     clear h3
     go_wp2_with fail
     refine (hasInt_any G xi _ wr _ hrG).mono ?_
     rintro en w3 ⟨rfl, h3⟩
     obtain rfl := h3.symm
     clear h3
     cases h1 : has G xa with
     | false =>
      have h1n : xa ∉ G := (has_not _ _).1 h1
      have H1n := Lib.hid h1n
      clear h1 h1n
      go_wp2_with fail
      go_roundw
      case rel => exact ⟨G, b, i + 1, hlt, by go_num, rfl, hG, hoG, hcx, Hb1.out, fun hb => ⟨(Hb2.out hb).1, fun j x hj hjx hxa => by
       rcases Nat.lt_succ_iff_lt_or_eq.1 hj with hj | rfl
       ·exact (Hb2.out hb).2 j x hj hjx hxa
       ·obtain rfl := Option.some.inj (Hg.out.symm.trans hjx)
        exact absurd hxa H1n.out⟩⟩
      case measure => simp [intOf]; omega
     | true =>
      cases h2 : has G xi with
      | true =>
       have h2n : xi ∈ G := (has_iff _ _).1 h2
       have H2n := Lib.hid h2n
       clear h1 h2 h2n
       go_wp2_with fail
       go_roundw
       case rel => exact ⟨G, b, i + 1, hlt, by go_num, rfl, hG, hoG, hcx, Hb1.out, fun hb => ⟨(Hb2.out hb).1, fun j x hj hjx hxa => by
        rcases Nat.lt_succ_iff_lt_or_eq.1 hj with hj | rfl
        ·exact (Hb2.out hb).2 j x hj hjx hxa
        ·obtain rfl := Option.some.inj (Hg.out.symm.trans hjx)
         exact H2n.out⟩⟩
       case measure => simp [intOf]; omega
      | false =>
       have h1n : xa ∈ G := (has_iff _ _).1 h1
       have h2n : xi ∉ G := (has_not _ _).1 h2
       have hG2 : Gone its id (G ++ [xi]) := ⟨fun g hg => by
        rcases List.mem_append.1 hg with hg | hg
        ·exact hG.hangs g hg
        ·rw [List.mem_singleton.1 hg]; exact Hangs.on _ Hmem.out (hG.hangs _ h1n), List.mem_append_left _ hG.self, by
        rw [List.nodup_append]
        exact ⟨hG.nodup, by simp, fun x hx y hy e => h2n (by rw [List.mem_singleton.1 hy] at e; exact e ▸ hx)⟩, fun g hg => by
        rcases List.mem_append.1 hg with hg | hg
        ·exact hG.inn g hg
        ·rw [List.mem_singleton.1 hg]; exact .inr ⟨_, Hmem.out, rfl⟩⟩
       have HG2 := Lib.hid hG2
       have hlb : G0.length ≤ G.length := by
        cases b with
        | true => exact Nat.le_of_lt (Hb1.out rfl)
        | false => rw [(Hb2.out rfl).1]; exact Nat.le_refl _
       clear h1n h2n hG2 h1 h2
       go_wp2_with (at_builtin; refine stop_here ?_)
       refine Stop.go ?_
       generalize hw5 : World.alloc wr _ = w5
       have hc5 : Chg NoB wr w5 := by
        rw [← hw5]
        repeat (first | exact Chg.refl _ _ | apply Chg.alloc | apply Chg.drew)
       have hb5 : Blk w5 (wr.heap.size) ([.int .i64 xi]) 3 := by
        rw [← hw5]
        repeat (first | exact Blk.newAt (by first | rfl | (simp; done) | (simp; omega)) | apply Blk.alloc | apply Blk.drew)
       clear hw5
       have ho5 := hoG.keep hc5 (fun _ e => e.elim) (fun _ _ => nbE)
       refine wpList_own rfl (.tmp 42) (.tmp 49) 112 rfl w.heap.size 3 Tryz.underlying112 infoInt1 rfl (by decide) rfl ho5 rfl [intDt xi] [.int .i64 xi] rfl (ReadsC.single rfl ⟨rfl, rfl⟩) hb5.news (fun e => by cases e) ?_ ?_ (Nat.le_trans hcx.size hc5.size) ?_
       ·rw [List.length_map]; simp [maxLen]; omega
       ·rw [List.length_map]; omega
       intro ao2 cp2 w6 ho6 hc6 hat6
       rw [List.length_map] at ho6 ⊢
       have hc06 : Chg NoB w w6 := (hcx.tr hc5).trans hc6 (fun y e => .inr (ho5.block y e).1)
       clear hat6 hc6 hb5
       go_wp2_with fail
       go_roundw
       case rel => exact ⟨G ++ [xi], true, i + 1, hlt, by go_num, rfl, HG2.out, by rw [List.map_append]; exact ho6, hc06, fun _ => by rw [List.length_append, List.length_singleton]; omega, fun e => by cases e⟩
       case measure => simp [intOf]; omega
    ·have hltI : ¬ (i : Int) < (its.length : Int) := by omega
     go_wp2_with fail
     go_roundw
     case rel => exact ⟨G, b, rfl, hG, hoG, hcx, fun hb x hx hxa => by
      obtain ⟨j, hj⟩ := List.getElem?_of_mem hx
      have := (List.getElem?_eq_some_iff.1 hj).1
      exact (Hb2.out hb).2 j x (by omega) hj hxa⟩
     case measure =>
      cases b with
      | false =>
       obtain ⟨rfl, _⟩ := Hb2.out rfl
       simp only [lenS, boolN]; omega
      | true =>
       have := Hb1.out rfl
       simp only [lenS, boolN]; omega
def keepD (id : Int) (l : List Nd) : List Nd := (dropL id l).filter fun x => !delB id x
theorem keepD_cons (id : Int) (n : Nd) (ns : List Nd) : keepD id (n :: ns) = if delB id (dropN id n) = true then keepD id ns else dropN id n :: keepD id ns := by
 unfold keepD
 rw [dropL, List.filter_cons]
 cases delB id (dropN id n) <;> rfl
theorem dropN_eq (id i : Int) (nm : ByteArray) (r k : Int) (s : List Nd) : dropN id (.mk i nm r k s) = .mk i nm r k (keepD id s) := by rw [dropN]; rfl
theorem drop_id (id : Int) (n : Nd) : (dropN id n).id = n.id := by cases n; rw [dropN]; rfl
theorem drop_bare (id : Int) (n : Nd) : (dropN id n).bare = n.bare := by cases n; rw [dropN]; rfl
theorem drop_sub (id : Int) (n : Nd) : (dropN id n).sub = keepD id n.sub := by cases n; rw [dropN_eq]; rfl
theorem keepD_mem {id : Int} {l : List Nd} {m : Nd} : m ∈ keepD id l ↔ ∃ n ∈ l, m = dropN id n ∧ delB id (dropN id n) = false := by
 unfold keepD
 rw [List.mem_filter, dropL_eq, List.mem_map]
 constructor
 ·rintro ⟨⟨n, h1, rfl⟩, h2⟩
  exact ⟨n, h1, rfl, by simpa using h2⟩
 ·rintro ⟨n, h1, rfl, h2⟩
  exact ⟨⟨n, h1, rfl⟩, by rw [h2]; rfl⟩
mutual
theorem drop_idsN {id : Int} : ∀ n : Nd, (idsN (dropN id n)).Sublist (idsN n)
 | .mk i nm r k s => by
  rw [dropN_eq]
  simp only [idsN]
  exact (drop_idsL s).cons_cons i
theorem drop_idsL {id : Int} : ∀ l : List Nd, (idsL (keepD id l)).Sublist (idsL l)
 | [] => List.Sublist.refl _
 | n :: ns => by
  rw [keepD_cons]
  simp only [idsL]
  split
  ·exact (drop_idsL ns).trans (List.sublist_append_right _ _)
  ·simp only [idsL]
   exact (drop_idsN n).append (drop_idsL ns)
end
mutual
theorem fnd_dropN {id p : Int} : ∀ (n q' : Nd), (idsN n).Nodup → fndN p (dropN id n) = some q' → ∃ q, fndN p n = some q ∧ q' = dropN id q
 | .mk i nm r k s, q', hn, h => by
  simp only [idsN, List.nodup_cons] at hn
  rw [dropN_eq, fndN] at h
  rw [fndN]
  by_cases e : i = p
  ·rw [if_pos e] at h ⊢
   exact ⟨_, rfl, by rw [dropN_eq]; exact (Option.some.inj h).symm⟩
  ·rw [if_neg e] at h ⊢
   exact fnd_dropL s q' hn.2 h
theorem fnd_dropL {id p : Int} : ∀ (l : List Nd) (q' : Nd), (idsL l).Nodup → fndL p (keepD id l) = some q' → ∃ q, fndL p l = some q ∧ q' = dropN id q
 | [], q', _, h => by cases h
 | n :: ns, q', hn, h => by
  simp only [idsL] at hn
  rw [List.nodup_append] at hn
  rw [keepD_cons] at h
  have later : fndL p (keepD id ns) = some q' → ∃ q, fndL p (n :: ns) = some q ∧ q' = dropN id q := fun h2 => by
   obtain ⟨q, h3, h4⟩ := fnd_dropL ns q' hn.2.1 h2
   have hp := fndL_iff.2 ⟨q, h3⟩
   exact ⟨q, by rw [fndL, fndN_no p n (fun e => hn.2.2 _ e _ hp rfl)]; exact h3, h4⟩
  split at h
  ·exact later h
  ·rw [fndL] at h
   split at h
   ·rename_i x hx
    cases h
    obtain ⟨q, h3, h4⟩ := fnd_dropN n _ hn.1 hx
    exact ⟨q, by rw [fndL, h3], h4⟩
   ·exact later h
end
section
variable {its : List It} {l : List Nd} {id : Int} {nx : Int}
theorem keepD_numb (hl : Numb l) : Numb (keepD id l) := ⟨(drop_idsL l).nodup hl.nodup, fun x hx => hl.pos x ((drop_idsL l).subset hx)⟩
theorem kids_drop (hl : Numb l) {p : Int} (hp : p = 0 ∨ p ∈ idsL (keepD id l)) : kidsT p (keepD id l) = keepD id (kidsT p l) := by
 by_cases h0 : p = 0
 ·subst h0; rw [kids_zero, kids_zero]
 ·obtain ⟨q', hq'⟩ := fndL_iff.1 (hp.resolve_left h0)
  obtain ⟨q, h1, rfl⟩ := fnd_dropL l q' hl.nodup hq'
  rw [kids_some h0 hq', kids_some h0 h1, drop_sub]
theorem kept_iff (h : Rep its l) (hl : Numb l) (hn : (its.map fun x => x.n.id).Nodup) {p : Int} {n : Nd} (hk : n ∈ kidsT p l) :
  n.id ∈ idsL (keepD id l) ↔ (p = 0 ∨ p ∈ idsL (keepD id l)) ∧ delB id (dropN id n) = false := by
 constructor
 ·intro hm
  obtain ⟨p', hp', n', h1, h2⟩ := par_of (keepD_numb hl) hm
  rw [kids_drop hl hp'] at h1
  obtain ⟨m, h3, rfl, h4⟩ := keepD_mem.1 h1
  rw [drop_id] at h2
  have e1 := kids_fnd hl.nodup h3
  have e2 := kids_fnd hl.nodup hk
  rw [h2, e2] at e1
  obtain rfl := Option.some.inj e1
  have hx1 : itm p n ∈ its := (rep_mem h).2 ⟨n, hk, rfl⟩
  have hx2 : itm p' n ∈ its := (rep_mem h).2 ⟨n, h3, rfl⟩
  have := congrArg It.ar (item_one hn hx1 hx2 rfl)
  simp only [itm] at this
  subst this
  exact ⟨hp', h4⟩
 ·rintro ⟨hp, hd⟩
  have h1 : dropN id n ∈ kidsT p (keepD id l) := by
   rw [kids_drop hl hp]
   exact keepD_mem.2 ⟨n, hk, rfl, hd⟩
  have h2 := kids_fnd (keepD_numb hl).nodup h1
  rw [drop_id] at h2
  exact fndL_iff.2 ⟨_, h2⟩
theorem hangs_pos (h : Rep its l) (hl : Numb l) (hid : 1 ≤ id) {g : Int} (hg : Hangs its id g) : 1 ≤ g := by
 cases hg with
 | self => exact hid
 | on x hx _ =>
  obtain ⟨n, h1, _, _⟩ := item_fnd h hl.nodup hx
  exact hl.pos _ (fndL_iff.2 ⟨n, h1⟩)
theorem hangs_gone (h : Rep its l) (hl : Numb l) (hn : (its.map fun x => x.n.id).Nodup) (hid : 1 ≤ id) {g : Int} (hg : Hangs its id g) : g ∉ idsL (keepD id l) := by
 induction hg with
 | self =>
  intro hm
  have hml : id ∈ idsL l := (drop_idsL l).subset hm
  obtain ⟨p, _, n, h1, h2⟩ := par_of hl hml
  have := ((kept_iff h hl hn h1).1 (by rw [h2]; exact hm)).2
  unfold delB at this
  rw [drop_id, h2] at this
  simp at this
 | on x hx hg ih =>
  intro hm
  obtain ⟨n, h1, h2, h3⟩ := item_fnd h hl.nodup hx
  have e : x.n.id = n.id := by rw [h2, bare_id]
  rw [e] at hm
  rcases ((kept_iff h hl hn h3).1 hm).1 with h0 | h0
  ·have := hangs_pos h hl hid hg
   omega
  ·exact ih h0
end
structure WoI (its : List It) (K : It → Prop) (m : List It) : Prop where
 sub : m.Sublist its
 kept : ∀ x ∈ its, K x → x ∈ m
 up : ∀ x ∈ m, x.ar = 0 ∨ ∃ y ∈ m, y.n.id = x.ar
theorem mem_erase {m : List It} (hn : (m.map fun x => x.n.id).Nodup) {i : Nat} {x y : It} (hi : m[i]? = some x) (hy : y ∈ m) (hne : y.n.id ≠ x.n.id) : y ∈ m.eraseIdx i := by
 obtain ⟨l1, l2, rfl, rfl, _⟩ := list_split hi
 rw [List.eraseIdx_append_of_length_le (Nat.le_refl _)]
 simp only [Nat.sub_self, List.eraseIdx_cons_zero]
 rcases List.mem_append.1 hy with hy | hy
 ·exact List.mem_append_left _ hy
 ·rcases List.mem_cons.1 hy with rfl | hy
  ·exact absurd rfl hne
  ·exact List.mem_append_right _ hy
theorem wo_inv {its : List It} {K : It → Prop} (hn : (its.map fun x => x.n.id).Nodup) (hK : ∀ x ∈ its, K x → x.n.kind = 0 → ∃ y ∈ its, K y ∧ y.ar = x.n.id) {m r : List It} (hw : Wo m r) : WoI its K m → WoI its K r ∧ ∀ x ∈ r, emptyB r x = false := by
 induction hw with
 | stop m hs => exact fun h => ⟨h, hs⟩
 | step m r i x hi he _ ih =>
  intro h
  have hxm := List.mem_of_getElem? hi
  have hnm : (m.map fun x => x.n.id).Nodup := (h.sub.map _).nodup hn
  have hx0 : x.n.kind = 0 ∧ ∀ y ∈ m, y.ar ≠ x.n.id := by
   unfold emptyB at he
   simpa using he
  refine ih ⟨(List.eraseIdx_sublist ..).trans h.sub, fun y hy hKy => ?_, fun y hy => ?_⟩
  ·refine mem_erase hnm hi (h.kept y hy hKy) (fun e => ?_)
   obtain rfl := item_one hn (h.sub.subset hxm) hy e.symm
   obtain ⟨z, h1, h2, h3⟩ := hK _ hy hKy hx0.1
   exact hx0.2 z (h.kept z h1 h2) h3
  ·have hym := (List.eraseIdx_sublist ..).subset hy
   rcases h.up y hym with h0 | ⟨z, h1, h2⟩
   ·exact .inl h0
   ·exact .inr ⟨z, mem_erase hnm hi h1 (fun e => hx0.2 y hym (h2.symm.trans e)), h2⟩
theorem sub_filter {K : It → Bool} {r its : List It} (h : r.Sublist its) : its.Nodup → (∀ x ∈ its, x ∈ r ↔ K x = true) → r = its.filter K := by
 induction h with
 | slnil => exact fun _ _ => rfl
 | cons a h ih =>
  intro hn hK
  rw [List.nodup_cons] at hn
  have ha : ¬ K a = true := fun e => hn.1 (h.subset ((hK a (List.mem_cons_self ..)).2 e))
  rw [List.filter_cons_of_neg ha]
  exact ih hn.2 (fun x hx => hK x (List.mem_cons_of_mem _ hx))
 | cons_cons a h ih =>
  intro hn hK
  rw [List.nodup_cons] at hn
  rw [List.filter_cons_of_pos ((hK a (List.mem_cons_self ..)).1 (List.mem_cons_self ..))]
  congr 1
  refine ih hn.2 (fun x hx => ?_)
  rw [← hK x (List.mem_cons_of_mem _ hx), List.mem_cons]
  exact ⟨fun e => .inr e, fun e => e.resolve_left (fun e => hn.1 (e ▸ hx))⟩
theorem nodup_of_ids {its : List It} (hn : (its.map fun x => x.n.id).Nodup) : its.Nodup := List.Pairwise.of_map (fun x : It => x.n.id) (fun a b hne e => hne (e ▸ rfl)) hn
theorem rep_drop {its r : List It} {l : List Nd} {id nx : Int} {G : List Int} (h : Rep its l) (hl : Numb l) (hn : (its.map fun x => x.n.id).Nodup) (hg : Grow its nx) (hid : 1 ≤ id)
  (hG : ∀ g, g ∈ G ↔ Hangs its id g) (hw : Wo (its.filter fun x => !has G x.n.id) r) : Rep r (keepD id l) ∧ r.Sublist its := by
 have hdel : ∀ n : Nd, n.id ≠ id → n.kind = 0 → keepD id n.sub ≠ [] → delB id (dropN id n) = false := fun n h1 h2 h3 => by
  obtain ⟨i, nm, rr, k, s⟩ := n
  simp only [Nd.id, Nd.kind, Nd.sub] at h1 h2 h3
  rw [dropN_eq]
  unfold delB
  simp only [Nd.id, Nd.kind, Nd.sub]
  rw [Bool.or_eq_false_iff, Bool.and_eq_false_imp]
  refine ⟨decide_eq_false h1, fun _ => ?_⟩
  cases hs : keepD id s with
  | nil => exact absurd hs h3
  | cons x xs => rfl
 have hK : ∀ x ∈ its, x.n.id ∈ idsL (keepD id l) → x.n.kind = 0 → ∃ y ∈ its, y.n.id ∈ idsL (keepD id l) ∧ y.ar = x.n.id := by
  intro x hx hkx hk0
  obtain ⟨n, h1, h2, h3⟩ := item_fnd h hl.nodup hx
  have e : x.n.id = n.id := by rw [h2, bare_id]
  have hkx2 := hkx
  rw [e] at hkx2
  have h4 := ((kept_iff h hl hn h3).1 hkx2).2
  have hkn : n.kind = 0 := by rw [← hk0, h2, bare_kind]
  have h5 : keepD id n.sub ≠ [] := by
   intro e0
   obtain ⟨i, nm, rr, k, s⟩ := n
   rw [dropN_eq] at h4
   unfold delB at h4
   simp only [Nd.id, Nd.kind, Nd.sub] at h4 hkn e0
   rw [e0, hkn] at h4
   simp at h4
  obtain ⟨c', hc'⟩ := List.exists_mem_of_ne_nil _ h5
  obtain ⟨c, hc, rfl, hcd⟩ := keepD_mem.1 hc'
  have h1n : fndL n.id l = some n := by rw [← e]; exact h1
  have hn0 : n.id ≠ 0 := by have := hl.pos _ (fndL_iff.2 ⟨n, h1n⟩); omega
  have hck : c ∈ kidsT n.id l := by rw [kids_some hn0 h1n]; exact hc
  refine ⟨itm n.id c, (rep_mem h).2 ⟨c, hck, rfl⟩, ?_, by rw [e]; rfl⟩
  simp only [itm, bare_id]
  exact (kept_iff h hl hn hck).2 ⟨.inr hkx2, hcd⟩
 have hI : WoI its (fun x => x.n.id ∈ idsL (keepD id l)) (its.filter fun x => !has G x.n.id) := by
  refine ⟨List.filter_sublist .., fun x hx hkx => List.mem_filter.2 ⟨hx, ?_⟩, fun x hx => ?_⟩
  ·cases hh : has G x.n.id with
   | false => rfl
   | true => exact absurd hkx (hangs_gone h hl hn hid ((hG _).1 ((has_iff _ _).1 hh)))
  ·obtain ⟨hxi, hxG⟩ := List.mem_filter.1 hx
   have hxG2 : x.n.id ∉ G := (has_not _ _).1 (by simpa using hxG)
   by_cases h0 : x.ar = 0
   ·exact .inl h0
   ·right
    obtain ⟨n, h1, h2, h3⟩ := item_fnd h hl.nodup hxi
    have hpl : x.ar ∈ idsL l := by
     unfold kidsT at h3
     rw [if_neg h0] at h3
     split at h3
     ·rename_i q hq; exact fndL_iff.2 ⟨q, hq⟩
     ·cases h3
    obtain ⟨p, _, m, h4, h5⟩ := par_of hl hpl
    have hy : itm p m ∈ its := (rep_mem h).2 ⟨m, h4, rfl⟩
    have hyi : (itm p m).n.id = x.ar := by simp only [itm, bare_id]; exact h5
    refine ⟨itm p m, List.mem_filter.2 ⟨hy, ?_⟩, hyi⟩
    cases hh : has G (itm p m).n.id with
    | false => rfl
    | true =>
     have hyG := (has_iff _ _).1 hh
     rw [hyi] at hyG
     exact absurd ((hG _).2 (Hangs.on x hxi ((hG _).1 hyG))) hxG2
 obtain ⟨hr, hem⟩ := wo_inv hn hK hw hI
 have hrG : ∀ x ∈ r, x.n.id ∉ G := by
  have hsub : r.Sublist (its.filter fun x => !has G x.n.id) := wo_sub hw
  intro x hx
  have := (List.mem_filter.1 (hsub.subset hx)).2
  exact (has_not _ _).1 (by simpa using this)
 have hlive : ∀ (w : Nat) (p : Int) (n : Nd), n.weigh ≤ w → n ∈ kidsT p l → itm p n ∈ r → delB id (dropN id n) = false := by
  intro w
  induction w with
  | zero => intro p n hw; cases n; simp [Nd.weigh] at hw
  | succ w ih =>
   intro p n hw hk hx
   have hne : n.id ≠ id := fun e => hrG _ hx (by simp only [itm, bare_id]; rw [e]; exact (hG _).2 Hangs.self)
   by_cases hk0 : n.kind = 0
   ·have he := hem _ hx
    unfold emptyB at he
    simp only [itm, bare_kind, bare_id, decide_eq_true hk0, Bool.true_and, Bool.not_eq_false', List.any_eq_true, decide_eq_true_eq] at he
    obtain ⟨y, hy, hya⟩ := he
    obtain ⟨c, h1, h2⟩ := (rep_mem h).1 (hr.sub.subset hy)
    rw [hya] at h1 h2
    have hf := kids_fnd hl.nodup hk
    have hn0 : n.id ≠ 0 := by have := hl.pos _ (fndL_iff.2 ⟨n, hf⟩); omega
    rw [kids_some hn0 hf] at h1
    have hwc := Nd.weigh_mem h1
    have hwn : n.weigh = 1 + Nd.weighs n.sub := by cases n; rfl
    have hcd := ih n.id c (by omega) (by rw [kids_some hn0 hf]; exact h1) (by rw [← h2]; exact hy)
    exact hdel n hne hk0 (List.ne_nil_of_mem (keepD_mem.2 ⟨c, h1, rfl, hcd⟩))
   ·obtain ⟨i, nm, rr, k, s⟩ := n
    simp only [Nd.id, Nd.kind] at hne hk0
    rw [dropN_eq]
    unfold delB
    simp only [Nd.id, Nd.kind, Nd.sub]
    rw [Bool.or_eq_false_iff, Bool.and_eq_false_imp]
    exact ⟨decide_eq_false hne, fun hk => absurd (of_decide_eq_true hk) hk0⟩
 have hup : ∀ (b : Nat) (x : It), x.n.id ≤ b → x ∈ r → x.n.id ∈ idsL (keepD id l) := by
  intro b
  induction b with
  | zero =>
   intro x hxb hx
   obtain ⟨n, h1, _, _⟩ := item_fnd h hl.nodup (hr.sub.subset hx)
   have := hl.pos _ (fndL_iff.2 ⟨n, h1⟩)
   omega
  | succ b ih =>
   intro x hxb hx
   have hxi := hr.sub.subset hx
   obtain ⟨n, h1, h2, h3⟩ := item_fnd h hl.nodup hxi
   have e : x.n.id = n.id := by rw [h2, bare_id]
   have hxe : x = itm x.ar n := by cases x; simp only at h2; rw [h2]; rfl
   rw [e]
   refine (kept_iff h hl hn h3).2 ⟨?_, hlive _ x.ar n (Nat.le_refl _) h3 (by rw [← hxe]; exact hx)⟩
   rcases hr.up x hx with h0 | ⟨y, hy, hyi⟩
   ·exact .inl h0
   ·right
    rw [← hyi]
    refine ih y ?_ hy
    have := (hg.up x hxi).2
    omega
 have hrK : r = its.filter fun x => decide (x.n.id ∈ idsL (keepD id l)) := sub_filter hr.sub (nodup_of_ids hn) (fun x hx => by
  rw [decide_eq_true_eq]
  refine ⟨fun hxr => hup x.n.id.toNat x ?_ hxr, hr.kept x hx⟩
  omega)
 refine ⟨fun p => ?_, hr.sub⟩
 rw [hrK, List.filter_filter, show (its.filter fun x => (arB p x && decide (x.n.id ∈ idsL (keepD id l)))) = (its.filter (arB p)).filter fun x => decide (x.n.id ∈ idsL (keepD id l)) from by
  rw [List.filter_filter]
  exact List.filter_congr fun x _ => Bool.and_comm _ _, h p, List.filter_map]
 by_cases hp : p = 0 ∨ p ∈ idsL (keepD id l)
 ·rw [kids_drop hl hp]
  have e1 : keepD id (kidsT p l) = ((kidsT p l).filter fun n => !delB id (dropN id n)).map (dropN id) := by
   unfold keepD
   rw [dropL_eq, List.filter_map]; rfl
  rw [e1, List.map_map]
  have e2 : ((kidsT p l).filter ((fun x : It => decide (x.n.id ∈ idsL (keepD id l))) ∘ itm p)) = (kidsT p l).filter fun n => !delB id (dropN id n) := List.filter_congr fun n hnk => by
   have := kept_iff h hl hn hnk (id := id)
   simp only [Function.comp, itm, bare_id]
   rw [Bool.eq_iff_iff, decide_eq_true_eq, this]
   simp [hp]
  rw [e2]
  refine List.map_congr_left fun n _ => ?_
  show itm p n = itm p (dropN id n)
  unfold itm
  rw [drop_bare]
 ·have hp0 : p ≠ 0 := fun e => hp (.inl e)
  have e1 : kidsT p (keepD id l) = [] := kids_none hp0 (fndL_no p _ (fun e => hp (.inr e)))
  have e2 : ((kidsT p l).filter ((fun x : It => decide (x.n.id ∈ idsL (keepD id l))) ∘ itm p)) = [] := by
   rw [List.filter_eq_nil_iff]
   intro n hnk e
   simp only [Function.comp, itm, bare_id, decide_eq_true_eq] at e
   exact hp ((kept_iff h hl hn hnk).1 e).1
  rw [e1, e2]
where
 wo_sub {m r : List It} (hw : Wo m r) : r.Sublist m := by
  induction hw with
  | stop m _ => exact List.Sublist.refl _
  | step m r i x _ _ _ ih => exact ih.trans (List.eraseIdx_sublist ..)
theorem laid_get {P : Program} {W : World} {n : String} {d : DataW Unit} : ∀ {l : List (String × DataW Unit)} {ps : List MemPlace}, DataW.LaidVars P W l ps → (n, d) ∈ l →
  ∃ g t cs fuel p, P.globalNamed n = some g ∧ (P.globals[g]?).map (·.type) = some t ∧ W.var? P n = some cs ∧ DataW.trod (fun _ => ()) P W 0 (fun _ => true) false fuel t cs.toList = some (d, p)
 | [], _, _, h => by cases h
 | (n', d') :: r, ps, hl, h => by
  obtain ⟨g, t, cs, fuel, p, q, h1, h2, h3, h4, h5, _⟩ := hl
  rcases List.mem_cons.1 h with h | h
  ·obtain ⟨rfl, rfl⟩ := Prod.mk.inj h
   exact ⟨g, t, cs, fuel, p, h1, h2, h3, h4⟩
  ·exact laid_get h5 h
theorem laid_iface {P : Program} {W : World} {n nm : String} {d : DataW Unit} {l : List (String × DataW Unit)} {ps : List MemPlace} {g t : Nat} {ms : Array (String × TypeId)} (hL : DataW.LaidVars P W l ps) (hm : (n, .iface nm d) ∈ l)
  (hg : P.globalNamed n = some g) (hty : (P.globals[g]?).map (·.type) = some t) (ht : P.underlying t = some (.interface ms)) : ∃ T v, W.cell? ⟨g, 0, none⟩ = some (.iface T v) := by
 obtain ⟨g', t', cs, fuel, p, h1, h2, h3, h4⟩ := laid_get hL hm
 obtain rfl := Option.some.inj (hg.symm.trans h1)
 obtain rfl := Option.some.inj (hty.symm.trans h2)
 obtain ⟨_, u, v, h5, _, _⟩ := iface_of_trod ht h4
 refine ⟨u, v, ?_⟩
 rw [World.var?_cell hg h3, ← Array.getElem?_toList, h5]
 rfl
theorem strs_of {H : Type} {enc : TypeId × Value → H} {P : Program} {W : World} {base : Nat} {sp : Nat → Bool} {held : Bool} {fuel : Nat} {t e : TypeId} {n : Nat} {cs : List Value} {l : List (List UInt8)} {p : List MemPlace}
  (ht : P.underlying t = some (.array n e)) (he : P.underlying e = some TypeDesc.string) (hce : P.cellsOf e = 1) (h : DataW.trod enc P W base sp held fuel t cs = some (DataW.agg (l.map fun b => DataW.lit (Lit.string b)), p)) :
  ∀ (i : Nat) (b : List UInt8), l[i]? = some b → cs[i]? = some (.string ⟨b.toArray⟩) := by
 obtain ⟨xs, m, _, hx, hcl, hxl, hi⟩ := DataW.trod_array ht h
 intro i b hb
 have hx1 : (l.map fun b => (DataW.lit (Lit.string b) : DataW H)) = xs.map (fun z => z.1) := by
  have := congrArg Prod.fst hx
  simpa using this
 have hll : l.length = xs.length := by simpa using congrArg List.length hx1
 have hil : i < l.length := (List.getElem?_eq_some_iff.1 hb).1
 have h1 := congrArg (fun z => z[i]?) hx1
 simp only [List.getElem?_map, hb, Option.map_some] at h1
 rw [List.getElem?_eq_getElem (by omega)] at h1
 simp only [Option.map_some, Option.some.injEq] at h1
 have h2 := hi i (by omega)
 rw [hce, Nat.mul_one, List.getElem?_eq_getElem (by omega)] at h2
 obtain ⟨s, h3, h4, _⟩ := DataW.trod_string he h2
 rw [h4] at h1
 simp only [DataW.lit.injEq, Lit.string.injEq] at h1
 have h5 : cs[i]? = some (.string s) := by
  have := congrArg (fun z => z[0]?) h3
  simpa using this
 rw [h5, h1]
theorem laid_strs {P : Program} {W : World} {nm : String} {l : List (List UInt8)} {lv : List (String × DataW Unit)} {ps : List MemPlace} {g t e n : Nat} (hL : DataW.LaidVars P W lv ps) (hm : (nm, DataW.agg (l.map fun b => DataW.lit (Lit.string b))) ∈ lv)
  (hg : P.globalNamed nm = some g) (hty : (P.globals[g]?).map (·.type) = some t) (ht : P.underlying t = some (.array n e)) (he : P.underlying e = some TypeDesc.string) (hce : P.cellsOf e = 1) :
  ∀ (i : Nat) (b : List UInt8), l[i]? = some b → W.cell? ⟨g, i, none⟩ = some (.string ⟨b.toArray⟩) := by
 obtain ⟨g', t', cs, fuel, p, h1, h2, h3, h4⟩ := laid_get hL hm
 obtain rfl := Option.some.inj (hg.symm.trans h1)
 obtain rfl := Option.some.inj (hty.symm.trans h2)
 intro i b hb
 rw [World.var?_cell hg h3, ← Array.getElem?_toList]
 exact strs_of ht he hce h4 i b hb
theorem laid_tab {P : Program} {W : World} {nm : String} {k : IntKind} {zs : List Int} {lv : List (String × DataW Unit)} {ps : List MemPlace} {g t e n : Nat} (hL : DataW.LaidVars P W lv ps) (hm : (nm, Lib.tabData k zs) ∈ lv)
  (hg : P.globalNamed nm = some g) (hty : (P.globals[g]?).map (·.type) = some t) (ht : P.underlying t = some (.array n e)) (he : P.underlying e = some (.int k)) (hce : P.cellsOf e = 1) (hct : P.cellsOf t = n) : Lib.TabIs P W nm k zs := by
 obtain ⟨g', t', cs, fuel, p, h1, h2, h3, h4⟩ := laid_get hL hm
 obtain rfl := Option.some.inj (hg.symm.trans h1)
 obtain rfl := Option.some.inj (hty.symm.trans h2)
 unfold Lib.TabIs
 rw [h3, ← Lib.cells_of_tab ht he hce hct h4]
theorem gB : Tryz.prog.globalNamed "shredcol/api.ErrBound" = some 0 := by kernel_rfl
theorem gT : Tryz.prog.globalNamed "shredcol/api.ErrText" = some 2 := by kernel_rfl
theorem gS : Tryz.prog.globalNamed "shredcol/api.ErrShape" = some 5 := by kernel_rfl
theorem gN : Tryz.prog.globalNamed "shredcol/api.ErrName" = some 4 := by kernel_rfl
theorem gY : Tryz.prog.globalNamed "strconv.ErrSyntax" = some 13 := by kernel_rfl
theorem gR : Tryz.prog.globalNamed "strconv.ErrRange" = some 14 := by kernel_rfl
theorem gReps : Tryz.prog.globalNamed "shredcol/schema.reps" = some 9 := by kernel_rfl
theorem gKinds : Tryz.prog.globalNamed "shredcol/schema.kinds" = some 10 := by kernel_rfl
def errText (l : List UInt8) : DataW Unit := .iface "*errors.errorString" (.ptr (.agg [.lit (.string l)]))
def repsD : DataW Unit := .agg [.lit (.string []), .lit (.string [114, 101, 113, 117, 105, 114, 101, 100]), .lit (.string [111, 112, 116, 105, 111, 110, 97, 108]), .lit (.string [114, 101, 112, 101, 97, 116, 101, 100])]
def kindsD : DataW Unit := .agg [.lit (.string [103, 114, 111, 117, 112]), .lit (.string [98, 111, 111, 108]), .lit (.string [105, 110, 116]), .lit (.string [108, 111, 110, 103]), .lit (.string [98, 121, 116, 101, 115]), .lit (.string [100, 111, 117, 98, 108, 101])]
structure Lists (lv : List (String × DataW Unit)) : Prop where
 b : ∃ l, ("shredcol/api.ErrBound", errText l) ∈ lv
 t : ∃ l, ("shredcol/api.ErrText", errText l) ∈ lv
 s : ∃ l, ("shredcol/api.ErrShape", errText l) ∈ lv
 n : ∃ l, ("shredcol/api.ErrName", errText l) ∈ lv
 y : ∃ l, ("strconv.ErrSyntax", errText l) ∈ lv
 r : ∃ l, ("strconv.ErrRange", errText l) ∈ lv
 reps : ("shredcol/schema.reps", repsD) ∈ lv
 kinds : ("shredcol/schema.kinds", kindsD) ∈ lv
 pow : ("internal/strconv.uint64pow10", Lib.tabData .u64 Lib.pow10Tab) ∈ lv
theorem glo_of {lv : List (String × DataW Unit)} {W : World} (hlv : Lists lv) (hL : laidMet Tryz.prog lv W) : ∃ E, Glo W.heap.size E W := by
 obtain ⟨ps, hV, _⟩ := hL
 obtain ⟨_, m1⟩ := hlv.b
 obtain ⟨_, m2⟩ := hlv.t
 obtain ⟨_, m3⟩ := hlv.s
 obtain ⟨_, m4⟩ := hlv.n
 obtain ⟨_, m5⟩ := hlv.y
 obtain ⟨_, m6⟩ := hlv.r
 obtain ⟨T1, v1, c1⟩ := laid_iface hV m1 gB (by kernel_rfl) Tryz.underlying30
 obtain ⟨T2, v2, c2⟩ := laid_iface hV m2 gT (by kernel_rfl) Tryz.underlying30
 obtain ⟨T3, v3, c3⟩ := laid_iface hV m3 gS (by kernel_rfl) Tryz.underlying30
 obtain ⟨T4, v4, c4⟩ := laid_iface hV m4 gN (by kernel_rfl) Tryz.underlying30
 obtain ⟨T5, v5, c5⟩ := laid_iface hV m5 gY (by kernel_rfl) Tryz.underlying30
 obtain ⟨T6, v6, c6⟩ := laid_iface hV m6 gR (by kernel_rfl) Tryz.underlying30
 have hreps := laid_strs (l := [[], [114, 101, 113, 117, 105, 114, 101, 100], [111, 112, 116, 105, 111, 110, 97, 108], [114, 101, 112, 101, 97, 116, 101, 100]]) (e := 9) hV hlv.reps gReps (by kernel_rfl) Tryz.underlying210 Tryz.underlying9 (by kernel_rfl)
 have hkinds := laid_strs (l := [[103, 114, 111, 117, 112], [98, 111, 111, 108], [105, 110, 116], [108, 111, 110, 103], [98, 121, 116, 101, 115], [100, 111, 117, 98, 108, 101]]) (e := 9) hV hlv.kinds gKinds (by kernel_rfl) Tryz.underlying211 Tryz.underlying9 (by kernel_rfl)
 have hpow : Lib.TabIs Tryz.prog W "internal/strconv.uint64pow10" .u64 Lib.pow10Tab := laid_tab hV hlv.pow pow_at (t := 266) (e := 227) (by kernel_rfl) Tryz.underlying266 Tryz.underlying227 (by kernel_rfl) (by kernel_rfl)
 have l1 := lt_of_cell c1
 have l2 := lt_of_cell c2
 have l3 := lt_of_cell c3
 have l4 := lt_of_cell c4
 have l5 := lt_of_cell c5
 have l6 := lt_of_cell c6
 have l7 := lt_of_cell (hreps 0 _ rfl)
 have l8 := lt_of_cell (hkinds 0 _ rfl)
 have l9 : 18 < W.heap.size := by
  have h1 := hpow.cell pow_at 0 (by decide)
  exact lt_of_cell h1
 refine ⟨fun e => match e with | .bound => .iface T1 v1 | .text => .iface T2 v2 | .shape => .iface T3 v3 | .name => .iface T4 v4, ⟨fun e => ?_, fun e => ?_⟩, ⟨⟨l7, l8, l9⟩, fun i s hi => ?_, fun i s hi => ?_, hpow⟩, ⟨T5, v5, c5⟩, ⟨T6, v6, c6⟩, ⟨fun e => ?_, l5, l6⟩⟩
 ·cases e
  ·exact c1
  ·exact c2
  ·exact c3
  ·exact c4
 ·cases e
  ·exact ⟨_, _, rfl⟩
  ·exact ⟨_, _, rfl⟩
  ·exact ⟨_, _, rfl⟩
  ·exact ⟨_, _, rfl⟩
 ·have := hreps i s.data.toList (by
   have h1 := congrArg (fun z => z.map (fun x : ByteArray => x.data.toList)) hi
   rw [← List.getElem?_map] at h1
   exact h1)
  rw [this]
 ·have := hkinds i s.data.toList (by
   have h1 := congrArg (fun z => z.map (fun x : ByteArray => x.data.toList)) hi
   rw [← List.getElem?_map] at h1
   exact h1)
  rw [this]
 ·cases e
  ·exact l1
  ·exact l2
  ·exact l3
  ·exact l4
end Go.Proofs.YtgcmfpcgmkkobaaGreatDoor
