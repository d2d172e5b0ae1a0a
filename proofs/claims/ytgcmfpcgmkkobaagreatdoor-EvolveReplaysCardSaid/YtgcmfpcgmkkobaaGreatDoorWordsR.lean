/-
  A log that stands for a tree, after a move.; The document's Words: a line by its single blanks.; One cell of an item in a slice of one's own.; The list in which a number stands.
-/
import Derived.Test.YtgcmfpcgmkkobaaGreatDoorShort
import Derived.Test.YtgcmfpcgmkkobaaGreatDoorTwiceP
import Derived.Test.YtgcmfpcgmkkobaaGreatDoorMoveLaw
set_option linter.unusedVariables false
set_option maxHeartbeats 20000000
set_option maxRecDepth 100000
set_option linter.unusedSimpArgs false
namespace Go.Proofs.YtgcmfpcgmkkobaaGreatDoor
open Go.RowKit
mutual
theorem perm_grpN {id : Int} {k : Nat} : ∀ n : Nd, (idsN n).Nodup → (idsN (grpN id (movTo id k) n)).Perm (idsN n)
 | .mk i nm r kd s, hn => by
  simp only [idsN, List.nodup_cons] at hn
  have e : grpN id (movTo id k) (.mk i nm r kd s) = .mk i nm r kd (grpT id (movTo id k) s) := by rw [grpN_eq]; rfl
  rw [e, idsN, idsN]
  exact (perm_grpL s hn.2).cons i
theorem perm_grpL {id : Int} {k : Nat} : ∀ l : List Nd, (idsL l).Nodup → (idsL (grpT id (movTo id k) l)).Perm (idsL l)
 | l, hn => by
  by_cases ha : (l.any fun c => decide (c.id = id)) = true
  ·have e : grpT id (movTo id k) l = movTo id k l := if_pos ha
   rw [e, idsL_flat, idsL_flat]
   exact (movTo_perm hn).flatMap_right _
  ·have e : grpT id (movTo id k) l = grpL id (movTo id k) l := if_neg ha
   rw [e]
   exact perm_grpLL l hn
theorem perm_grpLL {id : Int} {k : Nat} : ∀ l : List Nd, (idsL l).Nodup → (idsL (grpL id (movTo id k) l)).Perm (idsL l)
 | [], _ => List.Perm.refl _
 | n :: ns, hn => by
  simp only [idsL] at hn
  rw [List.nodup_append] at hn
  rw [grpL, idsL, idsL]
  exact (perm_grpN n hn.1).append (perm_grpLL ns hn.2.1)
end
mutual
theorem leafy_grpN {id : Int} {k : Nat} : ∀ n : Nd, n.All Leafy → (grpN id (movTo id k) n).All Leafy
 | .mk i nm r kd s, h => by
  have e : grpN id (movTo id k) (.mk i nm r kd s) = .mk i nm r kd (grpT id (movTo id k) s) := by rw [grpN_eq]; rfl
  rw [e]
  refine ⟨fun hk => ?_, leafy_grpL s h.2⟩
  have h9 : s = [] := h.1 hk
  subst h9; rfl
theorem leafy_grpL {id : Int} {k : Nat} : ∀ l : List Nd, Nd.Alls Leafy l → Nd.Alls Leafy (grpT id (movTo id k) l)
 | l, h => by
  by_cases ha : (l.any fun c => decide (c.id = id)) = true
  ·have e : grpT id (movTo id k) l = movTo id k l := if_pos ha
   rw [e]
   exact all_sub movTo_mem h
  ·have e : grpT id (movTo id k) l = grpL id (movTo id k) l := if_neg ha
   rw [e]
   exact leafy_grpLL l h
theorem leafy_grpLL {id : Int} {k : Nat} : ∀ l : List Nd, Nd.Alls Leafy l → Nd.Alls Leafy (grpL id (movTo id k) l)
 | [], _ => trivial
 | n :: ns, h => by
  rw [grpL]
  exact ⟨leafy_grpN n h.1, leafy_grpLL ns h.2⟩
end
theorem ins_filter {m : List It} {x : It} {n k : Nat} (hk : ((m.take n).filter (arB x.ar)).length = k) :
  (m.take n ++ x :: m.drop n).filter (arB x.ar) = (m.filter (arB x.ar)).take k ++ x :: (m.filter (arB x.ar)).drop k := by
 have h1 : m.filter (arB x.ar) = (m.take n).filter (arB x.ar) ++ (m.drop n).filter (arB x.ar) := by rw [← List.filter_append, List.take_append_drop]
 have h2 : (m.filter (arB x.ar)).take k = (m.take n).filter (arB x.ar) := by rw [h1, ← hk, List.take_left]
 have h3 : (m.filter (arB x.ar)).drop k = (m.drop n).filter (arB x.ar) := by rw [h1, ← hk, List.drop_left]
 rw [h2, h3, List.filter_append, List.filter_cons_of_pos (show arB x.ar x = true from decide_eq_true rfl)]
theorem erase_split {its : List It} {x : It} {j : Nat} (hj : its[j]? = some x) : ∃ l1 l2, its = l1 ++ x :: l2 ∧ its.eraseIdx j = l1 ++ l2 := by
 have hlt := (List.getElem?_eq_some_iff.1 hj).1
 have hx : its[j] = x := by rw [List.getElem?_eq_getElem hlt] at hj; exact Option.some.inj hj
 refine ⟨its.take j, its.drop (j + 1), ?_, List.eraseIdx_eq_take_drop_succ ..⟩
 rw [← hx, List.getElem_cons_drop, List.take_append_drop]
theorem Rdy.move {its : List It} {l : List Nd} {nx id : Int} {x : It} {q : Nd} {j n k : Nat} (h : Rdy its l nx) (hj : its[j]? = some x) (hxi : x.n.id = id) (hq : fndL id l = some q) (hk : (((its.eraseIdx j).take n).filter (arB x.ar)).length = k) :
  Rdy ((its.eraseIdx j).take n ++ x :: (its.eraseIdx j).drop n) (grpT id (movTo id k) l) nx := by
 obtain ⟨l1, l2, e1, e2⟩ := erase_split hj
 have hp : ((its.eraseIdx j).take n ++ x :: (its.eraseIdx j).drop n).Perm its := by
  refine List.perm_middle.trans ?_
  rw [List.take_append_drop, e2]
  conv => rhs; rw [e1]
  exact List.perm_middle.symm
 have hids := h.ids
 have hfil : ∀ p, ((its.filter (arB p)).filter fun y => !decide (y.n.id = id)) = (its.eraseIdx j).filter (arB p) := fun p => by
  have hf : its.filter (fun y => !decide (y.n.id = id)) = its.eraseIdx j := by
   rw [e2, e1, List.filter_append, List.filter_cons_of_neg (by simp [hxi]), List.filter_eq_self.2, List.filter_eq_self.2]
   ·intro y hy
    rw [e1, List.map_append, List.map_cons, List.nodup_append, List.nodup_cons] at hids
    have : y.n.id ≠ id := fun e => hids.2.1.1 (by rw [hxi, ← e]; exact List.mem_map_of_mem (f := fun x : It => x.n.id) hy)
    simpa using this
   ·intro y hy
    rw [e1, List.map_append, List.map_cons, List.nodup_append] at hids
    have : y.n.id ≠ id := fun e => hids.2.2 _ (List.mem_map_of_mem (f := fun x : It => x.n.id) hy) _ (List.mem_cons_self ..) (e.trans hxi.symm)
    simpa using this
  rw [← hf, List.filter_filter, List.filter_filter]
  congr 1
  funext y
  rw [Bool.and_comm]
 exact {
  rep := by
   refine rep_move h.rep h.numb h.ids (List.mem_of_getElem? hj) hxi hq (fun p hpx => ?_) ?_
   ·have hno : arB p x = false := decide_eq_false fun e => hpx e.symm
    rw [List.filter_append, List.filter_cons_of_neg (by rw [hno]; simp), ← List.filter_append, List.take_append_drop, e2]
    conv => rhs; rw [e1]
    rw [List.filter_append, List.filter_append, List.filter_cons_of_neg (by rw [hno]; simp)]
   ·rw [hfil]; exact ins_filter hk
  numb := by
   have h1 := perm_grpL (id := id) (k := k) l h.numb.nodup
   exact ⟨h1.nodup_iff.2 h.numb.nodup, fun y hy => h.numb.pos y (h1.mem_iff.1 hy)⟩
  grow := ⟨fun y hy => h.grow.up y (hp.mem_iff.1 hy), fun y hy => h.grow.le y (hp.mem_iff.1 hy)⟩
  ids := (hp.map _).nodup_iff.2 h.ids
  leaf := leafy_grpL l h.leaf }
def splGo (st : List (List UInt8) × List UInt8) (b : UInt8) : List (List UInt8) × List UInt8 := if b = 32 then (st.1 ++ [st.2], []) else (st.1, st.2 ++ [b])
theorem splGo_pre : ∀ (l : List UInt8) (out : List (List UInt8)) (cur : List UInt8), (∀ b ∈ cur, b ≠ 32) → (l.foldl splGo (out, cur)).1 ++ [(l.foldl splGo (out, cur)).2] = out ++ splB (cur ++ l)
 | [], out, cur, hc => by rw [List.foldl_nil, List.append_nil, splB_no cur hc]
 | b :: l, out, cur, hc => by
  rw [List.foldl_cons]
  by_cases hb : b = 32
  ·subst hb
   rw [show splGo (out, cur) 32 = (out ++ [cur], []) from if_pos rfl, splGo_pre l _ [] (fun x hx => (List.not_mem_nil hx).elim), splB_app _ _ hc, List.nil_append, List.append_assoc]
   rfl
  ·rw [show splGo (out, cur) b = (out, cur ++ [b]) from if_neg hb, splGo_pre l _ (cur ++ [b]) (fun x hx => by
    rcases List.mem_append.1 hx with hx | hx
    ·exact hc x hx
    ·rw [List.mem_singleton.1 hx]; exact hb), List.append_assoc]
   rfl
theorem splGo_all (l : List UInt8) : (l.foldl splGo ([], [])).1 ++ [(l.foldl splGo ([], [])).2] = splB l := by
 rw [splGo_pre l [] [] (fun x hx => (List.not_mem_nil hx).elim)]; rfl
def WrdRel (s : ByteArray) (w : World) (B : Nat) (vo vw vi : Value) (wr : World) : Prop :=
 ∃ (j : Nat) (out : List (List UInt8)) (cur : List UInt8) (ao : Option Addr) (cp : Nat), j ≤ s.size ∧ vi = .int .i64 (j : Nat) ∧ vw = .string (mkB cur) ∧ vo = .slice ao out.length cp ∧ (s.data.toList.take j).foldl splGo ([], []) = (out, cur) ∧ out.length ≤ j ∧ cur.length ≤ j ∧
  Own wr B 9 1 (fun _ => False) vo ((out.map mkB).map strDt) ∧ Chg NoB w wr
theorem wordsR_any (s : ByteArray) (w : World) (hs : s.size ≤ 1000000) :
  Calls Tryz.prog 77 #[.string s] w (fun en w' => ∃ v, en = .returned v ∧ Own w' w.heap.size 9 1 (fun _ => False) v ((wordsB s).map strDt) ∧ Chg NoB w w') := by
 go_enter Tryz.func77, Tryz.ntmps77
 go_wp2_with fail
 go_loopw [3, 4, 5] (fun vo vw vi wr => WrdRel s w w.heap.size vo vw vi wr) (fun _ _ vi _ => s.size - (intOf vi).toNat)
 case atStart => exact ⟨0, [], [], none, 0, Nat.zero_le _, rfl, rfl, rfl, rfl, Nat.le_refl _, Nat.le_refl _, Own.nil _ _ _ _ _, Chg.refl _ _⟩
 case round =>
  obtain ⟨j, out, cur, ao, cp, hj, rfl, rfl, rfl, hf, ho, hcu, hown, hc⟩ := hrel
  by_cases hlt : j < s.size
  ·have hltI : (j : Int) < (s.size : Int) := by omega
   have hjl : j < s.data.toList.length := by rw [length_data]; exact hlt
   have htake : s.data.toList.take (j + 1) = s.data.toList.take j ++ [s.data.toList[j]] := List.take_succ_eq_append_getElem hjl
   have hb : s.data.toList[j] = s[j] := rfl
   rw [hb] at htake
   have hf2 : (s.data.toList.take (j + 1)).foldl splGo ([], []) = splGo (out, cur) s[j] := by rw [htake, List.foldl_append, hf]; rfl
   have Hf2 := Lib.hid hf2
   clear hf hf2 htake hb
   have hlen : (out.map mkB).length = out.length := List.length_map ..
   by_cases hb : s[j] = 32
   ·have hst : splGo (out, cur) s[j] = (out ++ [cur], []) := if_pos hb
    have hbI : ((s[j].toNat : Int) == 32) = true := by rw [hb]; rfl
    have Hst := Lib.hid hst
    clear hst hb
    go_wp2_with (at_builtin; refine stop_here ?_)
    refine Stop.go ?_
    generalize hw2 : World.alloc wr _ = w2
    have hc2 : Chg NoB wr w2 := by
     rw [← hw2]
     repeat (first | exact Chg.refl _ _ | apply Chg.alloc | apply Chg.drew)
    have hb2 : Blk w2 (wr.heap.size) ([.string (mkB cur)]) 9 := by
     rw [← hw2]
     repeat (first | exact Blk.newAt (by first | rfl | (simp; done) | (simp; omega)) | apply Blk.alloc | apply Blk.drew)
    clear hw2
    have ho2 := hown.keep hc2 (fun _ e => e.elim) (fun _ _ => nbE)
    refine wpList_own rfl (.tmp 16) (.tmp 18) 22 rfl w.heap.size 9 Tryz.underlying22 infoStr rfl (by decide) rfl ho2 rfl [strDt (mkB cur)] [.string (mkB cur)] rfl (ReadsC.single rfl (reads_str _ _ _)) hb2.news (fun e => by cases e) ?_ ?_ (Nat.le_trans hc.size hc2.size) ?_
    ·rw [List.length_map, hlen]; simp [maxLen]; omega
    ·rw [List.length_map, hlen]; omega
    intro ao2 cp2 w3 ho3 hc3 hat3
    rw [List.length_map, hlen] at ho3 ⊢
    have hc4 : Chg NoB w w3 := (hc.tr hc2).trans hc3 (fun x e => .inr (ho2.block x e).1)
    clear hat3 hb2
    go_wp2_with fail
    go_roundw
    case rel =>
     refine ⟨j + 1, out ++ [cur], [], ao2, cp2, hlt, by go_num, rfl, by simp, ?_, by simp; omega, Nat.zero_le _, ?_, hc4⟩
     ·rw [Hf2.out, Hst.out]
     ·rw [List.map_append, List.map_append]; exact ho3
    case measure => simp [intOf]; omega
   ·have hst : splGo (out, cur) s[j] = (out, cur ++ [s[j]]) := if_neg hb
    have hbI : ((s[j].toNat : Int) == 32) = false := by
     rw [beq_eq_false_iff_ne]
     intro h
     exact hb (UInt8.toNat_inj.1 (by have : (32 : UInt8).toNat = 32 := rfl; omega))
    have Hst := Lib.hid hst
    clear hst hb
    have hcz : (mkB cur).size = cur.length := by simp [mkB, ByteArray.size]
    have hov : ¬ 9223372036854775807 < (mkB cur).size + (min (j + 1) s.size - j) := by omega
    have hex : s.extract j (j + 1) = mkB [s[j]] := by
     apply ByteArray.ext
     apply Array.ext'
     rw [ByteArray.data_extract, Array.toList_extract]
     rw [List.extract_eq_take_drop, Nat.add_sub_cancel_left, List.drop_eq_getElem_cons hjl]
     rfl
    have hcat : mkB cur ++ s.extract j (j + 1) = mkB (cur ++ [s[j]]) := by
     rw [hex]
     apply ByteArray.ext
     apply Array.ext'
     simp [mkB]
    have Hcat := Lib.hid hcat
    clear hcat hex
    go_wp2_with fail
    go_roundw
    case rel =>
     refine ⟨j + 1, out, cur ++ [s[j]], ao, cp, hlt, by go_num, by rw [Hcat.out], rfl, ?_, by omega, by simp; omega, hown, hc⟩
     rw [Hf2.out, Hst.out]
    case measure => simp [intOf]; omega
  ·have hltI : ¬ (j : Int) < (s.size : Int) := by omega
   have hjs : s.data.toList.take j = s.data.toList := List.take_of_length_le (by rw [length_data]; omega)
   rw [hjs] at hf
   have hall := splGo_all s.data.toList
   rw [hf] at hall
   have Hall := Lib.hid hall
   clear hf hjs hall
   have hlen : (out.map mkB).length = out.length := List.length_map ..
   go_wp2_with (at_builtin; refine stop_here ?_)
   refine Stop.go ?_
   generalize hw2 : World.alloc wr _ = w2
   have hc2 : Chg NoB wr w2 := by
    rw [← hw2]
    repeat (first | exact Chg.refl _ _ | apply Chg.alloc | apply Chg.drew)
   have hb2 : Blk w2 (wr.heap.size) ([.string (mkB cur)]) 9 := by
    rw [← hw2]
    repeat (first | exact Blk.newAt (by first | rfl | (simp; done) | (simp; omega)) | apply Blk.alloc | apply Blk.drew)
   clear hw2
   have ho2 := hown.keep hc2 (fun _ e => e.elim) (fun _ _ => nbE)
   refine wpList_own rfl (.tmp 27) (.tmp 29) 22 rfl w.heap.size 9 Tryz.underlying22 infoStr rfl (by decide) rfl ho2 rfl [strDt (mkB cur)] [.string (mkB cur)] rfl (ReadsC.single rfl (reads_str _ _ _)) hb2.news (fun e => by cases e) ?_ ?_ (Nat.le_trans hc.size hc2.size) ?_
   ·rw [List.length_map, hlen]; simp [maxLen]; omega
   ·rw [List.length_map, hlen]; omega
   intro ao2 cp2 w3 ho3 hc3 hat3
   rw [List.length_map, hlen] at ho3 ⊢
   have hc4 : Chg NoB w w3 := (hc.tr hc2).trans hc3 (fun x e => .inr (ho2.block x e).1)
   clear hat3 hb2
   go_wp2_with fail
   go_ret
   refine ⟨_, rfl, ?_, hc4⟩
   have e : (wordsB s).map strDt = (out.map mkB).map strDt ++ [strDt (mkB cur)] := by
    unfold wordsB
    rw [← Hall.out, List.map_append, List.map_append]; rfl
   rw [e]
   exact ho3
theorem flat_set : ∀ (its : List It) (j : Nat) (x x' : It) (f : Nat) (u : Value), its[j]? = some x → f < 6 → itCells x' = (itCells x).set f u → (its.flatMap itCells).set (j * 6 + f) u = (its.set j x').flatMap itCells
 | [], j, x, x', f, u, h, _, _ => by simp at h
 | y :: its, 0, x, x', f, u, h, hf, hx => by
  obtain rfl : y = x := by simpa using h
  rw [List.flatMap_cons, List.set_cons_zero, List.flatMap_cons, hx, Nat.zero_mul, Nat.zero_add, List.set_append_left _ _ (by exact hf)]
 | y :: its, j + 1, x, x', f, u, h, hf, hx => by
  have hl : (itCells y).length = 6 := rfl
  rw [List.flatMap_cons, List.set_cons_succ, List.flatMap_cons, List.set_append_right _ _ (by rw [hl]; omega), hl, show (j + 1) * 6 + f - 6 = j * 6 + f from by omega, flat_set its j x x' f u (by simpa using h) hf hx]
theorem Own.setIt {w : World} {B : Nat} {v : Value} {its : List It} (h : Own w B 124 6 (fun _ => False) v (its.map It.dt)) {j : Nat} {x : It} (hj : its[j]? = some x) (f : Nat) (hf : f < 6) (u : Value) (x' : It) (hx : itCells x' = (itCells x).set f u) :
  ∃ g cap, v = .slice (some ⟨g, 0, none⟩) its.length cap ∧ B ≤ g ∧ g < w.heap.size ∧ w.cell? ⟨g, j * 6 + f, none⟩ = (itCells x)[f]? ∧ w.frozen? ⟨g, j * 6 + f, none⟩ = false ∧ Own (w.setCell ⟨g, j * 6 + f, none⟩ u) B 124 6 (fun _ => False) v ((its.set j x').map It.dt) := by
 obtain ⟨xs, h1, h2⟩ := h
 have hxs := it_news h2
 have hjl := (List.getElem?_eq_some_iff.1 hj).1
 rcases h1.2 with ⟨_, h0⟩ | ⟨g, cap, cur, rfl, hb, hg, hn, hc, hsz, htk⟩
 ·rw [List.length_map] at h0
  omega
 ·rw [List.length_map] at hn htk ⊢
  have hB : Blk w g cur.toList 124 := by unfold Blk; simpa using hg
  have hB2 := hB.set (j * 6 + f) u
  have hl1 := h1.1
  rw [List.length_map] at hl1
  refine ⟨g, cap, rfl, hb, hB.lt, ?_, hB.free _, xs.set (j * 6 + f) u, ⟨by rw [List.length_set, hl1, List.length_map, List.length_set], .inr ⟨g, cap, (cur.toList.set (j * 6 + f) u).toArray, by rw [List.length_map, List.length_set], hb, hB2, by rw [List.length_map, List.length_set]; exact hn, hc, by simpa using hsz, ?_⟩⟩, ?_⟩
  ·have h3 : xs[j * 6 + f]? = (itCells x)[f]? := by
    rw [hxs]
    exact key its j x f hj hf
   rw [hB.cell, ← h3, ← htk, List.getElem?_take, if_pos (by omega)]
  ·rw [List.length_map, List.length_set, ← htk]
   simp [List.take_set]
  ·rw [hxs, flat_set its j x x' f u hj hf hx]
   exact it_chunks _ _ _
where
 key : ∀ (its : List It) (j : Nat) (x : It) (f : Nat), its[j]? = some x → f < 6 → (its.flatMap itCells)[j * 6 + f]? = (itCells x)[f]?
  | [], j, x, f, h, _ => by simp at h
  | y :: its, 0, x, f, h, hf => by
   obtain rfl : y = x := by simpa using h
   rw [List.flatMap_cons, Nat.zero_mul, Nat.zero_add, List.getElem?_append_left (by exact hf)]
  | y :: its, j + 1, x, f, h, hf => by
   have hl : (itCells y).length = 6 := rfl
   rw [List.flatMap_cons, List.getElem?_append_right (by rw [hl]; omega), hl, show (j + 1) * 6 + f - 6 = j * 6 + f from by omega]
   exact key its j x f (by simpa using h) hf
mutual
theorem holdsN {p : Int} : ∀ (n m : Nd), fndN p n = some m → ∃ C, Holds n m C
 | .mk i nm r k s, m, h => by
  rw [fndN] at h
  split at h
  ·cases h; exact ⟨_, .here _⟩
  ·obtain ⟨c, j, hj, C, hC⟩ := holdsL s m h
   exact ⟨_, .down hj hC⟩
theorem holdsL {p : Int} : ∀ (l : List Nd) (m : Nd), fndL p l = some m → ∃ (c : Nd) (j : Nat), l[j]? = some c ∧ ∃ C, Holds c m C
 | [], m, h => by cases h
 | n :: ns, m, h => by
  rw [fndL] at h
  split at h
  ·rename_i x hx
   cases h
   obtain ⟨C, hC⟩ := holdsN n _ hx
   exact ⟨n, 0, rfl, C, hC⟩
  ·obtain ⟨c, j, hj, r⟩ := holdsL ns m h
   exact ⟨c, j + 1, hj, r⟩
end
theorem holds_of {p : Int} {l : List Nd} {m : Nd} (h : fndL p l = some m) : ∃ C, Holds (rootNd l) m C := by
 obtain ⟨c, j, hj, C, hC⟩ := holdsL l m h
 exact ⟨_, .down hj hC⟩
theorem fndG_kids {id p : Int} {l : List Nd} {q : Nd} (hl : Numb l) (hq : q ∈ kidsT p l) (hid : q.id = id) : fndG id (rootNd l) = some (kidsT p l) := by
 obtain ⟨j, hj⟩ := List.getElem?_of_mem hq
 by_cases hp : p = 0
 ·subst hp
  rw [kids_zero] at hj ⊢
  exact holds_fndG (Holds.here (rootNd l)) hj hid hl.nodup
 ·cases hf : fndL p l with
  | none =>
   rw [kids_none hp hf] at hq
   cases hq
  | some m =>
   rw [kids_some hp hf] at hj ⊢
   obtain ⟨C, hC⟩ := holds_of hf
   exact holds_fndG hC hj hid hl.nodup
end Go.Proofs.YtgcmfpcgmkkobaaGreatDoor
