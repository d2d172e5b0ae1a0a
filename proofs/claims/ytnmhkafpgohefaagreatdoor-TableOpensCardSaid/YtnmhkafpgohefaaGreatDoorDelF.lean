/-
  slices.DeleteFunc over nodes, in their row: at drop's closure.
-/
import Derived.Test.YtnmhkafpgohefaaGreatDoorIdx
import Derived.Test.YtnmhkafpgohefaaGreatDoorTreeMore
set_option linter.unusedVariables false
set_option maxHeartbeats 20000000
set_option maxRecDepth 100000
set_option linter.unusedSimpArgs false
namespace Go.Proofs.YtnmhkafpgohefaaGreatDoor
open Go.RowKit
abbrev Ch := Nd × List Value × List Nat
def celL (L : List Ch) : List Value := L.flatMap (·.2.1)
def footL (L : List Ch) : List Nat := L.flatMap (·.2.2)
theorem celL_nil : celL [] = [] := rfl
theorem celL_cons (x : Ch) (L : List Ch) : celL (x :: L) = x.2.1 ++ celL L := rfl
theorem celL_append (L M : List Ch) : celL (L ++ M) = celL L ++ celL M := List.flatMap_append ..
theorem celL_len : ∀ (L : List Ch), (∀ x ∈ L, x.2.1.length = 5) → (celL L).length = L.length * 5
 | [], _ => rfl
 | x :: L, h => by
  rw [celL_cons, List.length_append, h x (List.mem_cons_self ..), celL_len L (fun y hy => h y (List.mem_cons_of_mem _ hy)), List.length_cons]
  omega
theorem footL_sub {K L : List Ch} (h : K.Sublist L) : (footL K).Sublist (footL L) := by
 unfold footL
 induction h with
 | slnil => exact List.Sublist.refl _
 | cons a _ ih => rw [List.flatMap_cons]; exact ih.trans (List.sublist_append_right _ _)
 | cons_cons a _ ih => rw [List.flatMap_cons, List.flatMap_cons]; exact (List.Sublist.refl _).append ih
theorem five_at {w : World} {g : Nat} {X Y : List Value} {i : Int} {n : ByteArray} {r k : Int} {v : Value} {t : TypeId} {o : Nat} (h : Blk w g (X ++ (ndCells i n r k v ++ Y)) t) (ho : X.length = o) :
  w.cell? ⟨g, o, none⟩ = some (.int .i64 i) ∧ w.cell? ⟨g, o + 1, none⟩ = some (.string n) ∧ w.cell? ⟨g, o + 2, none⟩ = some (.int .i64 r) ∧ w.cell? ⟨g, o + 3, none⟩ = some (.int .i64 k) ∧ w.cell? ⟨g, o + 4, none⟩ = some v := by
 subst ho
 have hc : ∀ j x, (ndCells i n r k v)[j]? = some x → w.cell? ⟨g, X.length + j, none⟩ = some x := fun j x hj => by
  rw [h.cell, List.getElem?_append_right (Nat.le_add_right _ _), Nat.add_sub_cancel_left, List.getElem?_append_left (List.getElem?_eq_some_iff.1 hj).1]
  exact hj
 exact ⟨hc 0 _ rfl, hc 1 _ rfl, hc 2 _ rfl, hc 3 _ rfl, hc 4 _ rfl⟩
theorem some_at {w : World} {g : Nat} {X Y M : List Value} {t : TypeId} (h : Blk w g (X ++ (M ++ Y)) t) (j : Nat) (hj : j < M.length) : w.cell? ⟨g, X.length + j, none⟩ = some M[j] := by
 rw [h.cell, List.getElem?_append_right (Nat.le_add_right _ _), Nat.add_sub_cancel_left, List.getElem?_append_left hj, List.getElem?_eq_getElem hj]
theorem five_split {M : List Value} (h : 5 ≤ M.length) : ∃ m0 m1 m2 m3 m4 R, M = [m0, m1, m2, m3, m4] ++ R := by
 rcases M with _ | ⟨m0, _ | ⟨m1, _ | ⟨m2, _ | ⟨m3, _ | ⟨m4, R⟩⟩⟩⟩⟩ <;> simp only [List.length_cons, List.length_nil] at h <;> first | omega | exact ⟨m0, m1, m2, m3, m4, R, rfl⟩
theorem store5_mid {w : World} {g : Nat} {X Y : List Value} {c0 c1 c2 c3 c4 : Value} {t : TypeId} {o : Nat} (h : Blk w g (X ++ ([c0, c1, c2, c3, c4] ++ Y)) t) (ho : X.length = o) (v0 v1 v2 v3 v4 : Value) :
  Blk (World.setCell (World.setCell (World.setCell (World.setCell (World.setCell w ⟨g, o, none⟩ v0) ⟨g, o + 1, none⟩ v1) ⟨g, o + 2, none⟩ v2) ⟨g, o + 3, none⟩ v3) ⟨g, o + 4, none⟩ v4) g (X ++ ([v0, v1, v2, v3, v4] ++ Y)) t := by
 subst ho
 have h0 := h.set (X.length + 0) v0
 rw [set_mid (by simp)] at h0
 have h1 := h0.set (X.length + 1) v1
 rw [set_mid (by simp)] at h1
 have h2 := h1.set (X.length + 2) v2
 rw [set_mid (by simp)] at h2
 have h3 := h2.set (X.length + 3) v3
 rw [set_mid (by simp)] at h3
 have h4 := h3.set (X.length + 4) v4
 rw [set_mid (by simp)] at h4
 exact h4
theorem store5_at_chg (w : World) (g o : Nat) (v0 v1 v2 v3 v4 : Value) :
  Chg (OneB g) w (World.setCell (World.setCell (World.setCell (World.setCell (World.setCell w ⟨g, o, none⟩ v0) ⟨g, o + 1, none⟩ v1) ⟨g, o + 2, none⟩ v2) ⟨g, o + 3, none⟩ v3) ⟨g, o + 4, none⟩ v4) :=
 (((((Chg.refl (OneB g) w).setCell (p := ⟨g, o, none⟩) (.inl rfl) v0).setCell (p := ⟨g, o + 1, none⟩) (.inl rfl) v1).setCell (p := ⟨g, o + 2, none⟩) (.inl rfl) v2).setCell (p := ⟨g, o + 3, none⟩) (.inl rfl) v3).setCell (p := ⟨g, o + 4, none⟩) (.inl rfl) v4
def RetDel (B : Nat) (p : Nd → Bool) (s : List Nd) (F : List Nat) (w : World) (en : Ending) (w' : World) : Prop :=
 ∃ v' F', en = .returned v' ∧ TrL w' B (s.filter fun n => !p n) v' F' ∧ Chg (fun x => x ∈ F) w w' ∧ (∀ x ∈ F', x ∈ F) ∧ F'.Nodup
def keepL (p : Nd → Bool) (L : List Ch) : List Ch := L.filter fun x => !p x.1
def DelRel (p : Nd → Bool) (L : List Ch) (g : Nat) (r : List Value) (w : World) (vi vj : Value) (wr : World) : Prop :=
 ∃ (j i : Nat) (M : List Value), j ≤ L.length ∧ (keepL p (L.take j)).length = i ∧ i < j ∧ vi = .int .i64 (i : Nat) ∧ vj = .int .i64 (j : Nat) ∧ M.length = (j - i) * 5 ∧
  Blk wr g (celL (keepL p (L.take j)) ++ (M ++ (celL (L.drop j) ++ r))) 56 ∧ Chg (OneB g) w wr
theorem celL_at {L : List Ch} {j : Nat} {x : Ch} (h : L[j]? = some x) : celL (L.drop j) = x.2.1 ++ celL (L.drop (j + 1)) := by
 obtain ⟨hj, rfl⟩ := List.getElem?_eq_some_iff.1 h
 rw [List.drop_eq_getElem_cons hj, celL_cons]
theorem keepL_snoc {p : Nd → Bool} {L : List Ch} {j : Nat} {x : Ch} (h : L[j]? = some x) : keepL p (L.take (j + 1)) = keepL p (L.take j) ++ if p x.1 then [] else [x] := by
 obtain ⟨hj, rfl⟩ := List.getElem?_eq_some_iff.1 h
 unfold keepL
 rw [List.take_succ_eq_append_getElem hj, List.filter_append]
 cases hp : p L[j].1 <;> simp [hp]
theorem keepL_mem {p : Nd → Bool} {L : List Ch} {x : Ch} (h : x ∈ keepL p L) : x ∈ L := (List.mem_filter.1 h).1
theorem keepL_map (p : Nd → Bool) (L : List Ch) : (keepL p L).map (·.1) = (L.map (·.1)).filter fun n => !p n := by
 unfold keepL
 rw [List.filter_map]
 rfl
theorem delF_any (s : List Nd) (id : Int) (c : Nat) (w : World) (B : Nat) (v : Value) (F : List Nat) (ht : TrL w B s v F) (hnd : F.Nodup) (hcF : c ∉ F) (hc0 : w.cell? ⟨c, 0, none⟩ = some (.int .i64 id)) :
  Calls Tryz.prog 96 #[v, .func (.func 97) #[] #[.pointer (some ⟨c, 0, none⟩)]] w (RetDel B (delB id) s F w) := by
 have he := enters_of Tryz.func97 (P := Tryz.prog) (by kernel_rfl) rfl
 have hidx := indexD_any s id c w (fun _ => True) v (ht.reads fun _ _ => trivial) hc0
 obtain ⟨a, cap, rfl, hlen, hcap⟩ := ht.form
 unfold maxLen at hcap
 have Ht := Lib.hid ht
 clear ht
 go_enter Tryz.func96, Tryz.ntmps96
 go_wp2_with fail
 refine hidx.mono ?_
 rintro en w1 ⟨k, rfl, hk, hc1⟩
 clear hidx
 rcases hk with ⟨rfl, hall⟩ | ⟨j0, a0, rfl, hj0, hp0, hbef⟩
 ·have Hall := Lib.hid hall
  clear hall
  go_wp2_with fail
  go_ret
  refine ⟨_, F, rfl, ?_, hc1.mono (fun _ _ e => nbE e), fun x hx => hx, hnd⟩
  have hfe : (s.filter fun n => !delB id n) = s := List.filter_eq_self.2 (fun x hx => by rw [Hall.out x hx]; rfl)
  rw [hfe]
  exact Ht.out.keep (fun x hx => hc1.block x (Ht.out.lt x hx).2 nbE)
 ·obtain ⟨hjs, hje⟩ := List.getElem?_eq_some_iff.1 hj0
  rcases Ht.out with ⟨rfl, _⟩ | ⟨g, cap', cur, F1, e1, e2, e3, e4, e5, e6, e7, rfl⟩
  ·simp at hjs
  obtain ⟨rfl, -, rfl⟩ := Value.slice.inj e1
  obtain ⟨L, r, hLs, rfl, rfl, hL⟩ := e7.chunks
  have hg1 := e5.keep hc1 nbE
  have hl1 : s.length ≤ L.length := by rw [← hLs, List.length_map]; omega
  have hl2 : L.length ≤ s.length := by rw [← hLs, List.length_map]; omega
  obtain ⟨x0, hx0⟩ : ∃ x, L[j0]? = some x := ⟨_, List.getElem?_eq_getElem (by omega)⟩
  have hp0' : delB id x0.1 = true := by
   have h1 : (L.map (·.1))[j0]? = some x0.1 := by rw [List.getElem?_map, hx0]; rfl
   rw [hLs, hj0] at h1
   rw [← Option.some.inj h1]; exact hp0
  have hk0 : keepL (delB id) (L.take j0) = L.take j0 := List.filter_eq_self.2 (fun x hx => by
   obtain ⟨q, hq⟩ := List.mem_iff_getElem?.1 hx
   have hqj : q < j0 := by have := (List.getElem?_eq_some_iff.1 hq).1; rw [List.length_take] at this; omega
   rw [List.getElem?_take, if_pos hqj] at hq
   have h1 : (L.map (·.1))[q]? = some x.1 := by rw [List.getElem?_map, hq]; rfl
   rw [hLs] at h1
   rw [hbef q _ hqj h1]; rfl)
  have hk1 : keepL (delB id) (L.take (j0 + 1)) = L.take j0 := by rw [keepL_snoc hx0, hp0', hk0]; simp
  have hL5 : ∀ x ∈ L, x.2.1.length = 5 := fun x hx => (hL x hx).five
  have h00 : (keepL (delB id) (L.take (j0 + 1))).length = j0 := by rw [hk1, List.length_take]; omega
  have h01 : Blk w1 g (celL (keepL (delB id) (L.take (j0 + 1))) ++ (x0.2.1 ++ (celL (L.drop (j0 + 1)) ++ r))) 56 := by
   rw [hk1, ← List.append_assoc x0.2.1, ← celL_at hx0, ← List.append_assoc, ← celL_append, List.take_append_drop]
   exact hg1
  have h02 : x0.2.1.length = (j0 + 1 - j0) * 5 := by rw [hL5 x0 (List.mem_of_getElem? hx0)]; omega
  have H00 := Lib.hid h00
  have H01 := Lib.hid h01
  have H02 := Lib.hid h02
  have HLs := Lib.hid hLs
  have HL5 := Lib.hid hL5
  have HL := Lib.hid hL
  have He6 := Lib.hid e6
  have Hnd := Lib.hid hnd
  have hgc : g ≠ c := fun e => hcF (by rw [e]; exact List.mem_cons_self ..)
  have hgw : g < w.heap.size := e5.lt
  have hcw : c < w.heap.size := lt_of_cell hc0
  have hltF := Lib.hid Ht.out.lt
  clear h00 h01 h02 hLs hL5 hL hk0 hk1 hj0 hbef hje e6 e5 hx0 hp0' hp0 hnd e7 Ht hg1
  have hneg : ((j0 : Int) == -1) = false := by rw [beq_eq_false_iff_ne]; omega
  go_wp2_with fail
  go_loopw [5, 6] (fun vi vj wr => DelRel (delB id) L g r w1 vi vj wr) (fun _ vj _ => L.length - (intOf vj).toNat)
  case atStart => exact ⟨j0 + 1, j0, x0.2.1, by omega, H00.out, by omega, rfl, by go_num, H02.out, H01.out, Chg.refl _ _⟩
  case round =>
   obtain ⟨j, i, M, hj, hKi, hij, rfl, rfl, hM, hb, hc⟩ := hrel
   have HKi := Lib.hid hKi
   have HM := Lib.hid hM
   clear hKi hM
   have hKl : (celL (keepL (delB id) (L.take j))).length = i * 5 := by
    rw [celL_len _ (fun x hx => HL5.out x (List.mem_of_mem_take (keepL_mem hx))), HKi.out]
   have HKl := Lib.hid hKl
   clear hKl
   have hgl := hb.lt
   by_cases hlt : j < L.length
   ·have hltI : (j : Int) < (s.length : Int) := by omega
    obtain ⟨x, hx⟩ : ∃ x, L[j]? = some x := ⟨_, List.getElem?_eq_getElem hlt⟩
    have htr := HL.out x (List.mem_of_getElem? hx)
    have hfoot : ∀ y ∈ x.2.2, y ∈ g :: L.flatMap (·.2.2) := fun y hy => List.mem_cons_of_mem _ (List.mem_flatMap.2 ⟨x, List.mem_of_getElem? hx, hy⟩)
    have hgx : g ∉ x.2.2 := fun e => (List.nodup_cons.1 Hnd.out).1 (List.mem_flatMap.2 ⟨x, List.mem_of_getElem? hx, e⟩)
    have hdrop := celL_at hx
    have hsnoc := keepL_snoc (p := delB id) hx
    obtain ⟨⟨i1, n1, r1, k1, s1⟩, cs, Fx⟩ := x
    obtain ⟨v1, hcs, hv1⟩ := trN.1 htr
    obtain ⟨a1, cap1, rfl, _, _⟩ := hv1.form
    generalize s1.length = z1 at hcs
    simp only at hcs htr hfoot hgx hdrop hsnoc
    subst hcs
    have Hsnoc := Lib.hid hsnoc
    clear hsnoc
    rw [hdrop] at hb
    have hb' : Blk wr g ((celL (keepL (delB id) (L.take j)) ++ M) ++ (ndCells i1 n1 r1 k1 (.slice a1 z1 cap1) ++ (celL (L.drop (j + 1)) ++ r))) 56 := by
     rw [List.append_assoc, ← List.append_assoc (ndCells i1 n1 r1 k1 (.slice a1 z1 cap1))]; exact hb
    obtain ⟨q0, q1, q2, q3, q4⟩ := five_at hb' (o := j * 5) (by rw [List.length_append, HKl.out, HM.out, ← Nat.add_mul]; congr 1; omega)
    have hcw1 : Chg NoB w w1 := hc1
    have htr1 : TrN wr B (.mk i1 n1 r1 k1 s1) (ndCells i1 n1 r1 k1 (.slice a1 z1 cap1)) Fx := TrN.keep _ _ _ htr (fun y hy => by
     have h1 := (hltF.out y (hfoot y hy)).2
     rw [hc.block y (Nat.lt_of_lt_of_le h1 hc1.size) (fun e => hgx (by have e : y = g := e; exact e ▸ hy)), hc1.block y h1 nbE])
    have hrd := TrN.reads (S := fun _ => True) _ _ _ htr1 (fun _ _ => trivial)
    have hcr0 : wr.cell? ⟨c, 0, none⟩ = some (.int .i64 id) := (hc.cell (p := ⟨c, 0, none⟩) (Nat.lt_of_lt_of_le hcw hc1.size) (fun e => hgc (by have e : c = g := e; exact e.symm))).trans ((hc1.cell (p := ⟨c, 0, none⟩) hcw nbE).trans hc0)
    clear hx hdrop hb
    go_wp2_with fail
    generalize hwA : World.alloc wr _ = wA
    have hcA : Chg NoB wr wA := by
     rw [← hwA]
     repeat (first | exact Chg.refl _ _ | apply Chg.alloc | apply Chg.drew)
    have hxA : Blk wA (wr.heap.size) ([.int .i64 i1, .string n1, .int .i64 r1, .int .i64 k1, .slice a1 z1 cap1]) 56 := by
     rw [← hwA]
     repeat (first | exact Blk.newAt (by first | rfl | (simp; done) | (simp; omega)) | apply Blk.alloc | apply Blk.drew)
    clear hwA
    refine (drop1_any (.mk i1 n1 r1 k1 s1) id c wA (fun _ => True) _ (hrd.chg0 hcA) ((hcA.cell (p := ⟨c, 0, none⟩) (lt_of_cell hcr0) nbE).trans hcr0)).mono ?_
    rintro en w2 ⟨rfl, hc2⟩
    have hx2 := hxA.keep hc2 nbE
    have hcr2 : Chg NoB wr w2 := hcA.tr hc2
    have hb2 := hb'.keep hcr2 nbE
    cases hp : delB id (.mk i1 n1 r1 k1 s1) with
    | true =>
     have Hp := Lib.hid hp
     clear hp
     go_wp2_with fail
     go_roundw
     case rel =>
      refine ⟨j + 1, i, M ++ ndCells i1 n1 r1 k1 (.slice a1 z1 cap1), hlt, ?_, by omega, rfl, by go_num, ?_, ?_, hc.tr hcr2⟩
      ·rw [Hsnoc.out, if_pos Hp.out, List.append_nil, HKi.out]
      ·rw [List.length_append, HM.out, show (ndCells i1 n1 r1 k1 (.slice a1 z1 cap1)).length = 5 from rfl]; omega
      ·rw [Hsnoc.out, if_pos Hp.out, List.append_nil, List.append_assoc]
       rw [List.append_assoc] at hb2
       exact hb2
     case measure => simp [intOf]; omega
    | false =>
     have Hp := Lib.hid hp
     clear hp
     obtain ⟨m0, m1, m2, m3, m4, R, rfl⟩ := five_split (M := M) (by rw [HM.out]; omega)
     have hb3 : Blk w2 g (celL (keepL (delB id) (L.take j)) ++ ([m0, m1, m2, m3, m4] ++ (R ++ (ndCells i1 n1 r1 k1 (.slice a1 z1 cap1) ++ (celL (L.drop (j + 1)) ++ r))))) 56 := by
      rw [List.append_assoc, List.append_assoc] at hb2
      exact hb2
     have g0 := some_at hb3 0 (by simp)
     have g1 := some_at hb3 1 (by simp)
     have g2 := some_at hb3 2 (by simp)
     have g3 := some_at hb3 3 (by simp)
     have g4 := some_at hb3 4 (by simp)
     rw [HKl.out] at g0 g1 g2 g3 g4
     simp only [Nat.add_zero, List.getElem_cons_zero, List.getElem_cons_succ] at g0 g1 g2 g3 g4
     have f0 := hb3.free (i * 5)
     have f1 := hb3.free (i * 5 + 1)
     have f2 := hb3.free (i * 5 + 2)
     have f3 := hb3.free (i * 5 + 3)
     have f4 := hb3.free (i * 5 + 4)
     have x0 : w2.cell? ⟨wr.heap.size, 0, none⟩ = some (.int .i64 (i1)) := hx2.cell 0
     have x1 : w2.cell? ⟨wr.heap.size, 1, none⟩ = some (.string n1) := hx2.cell 1
     have x2 : w2.cell? ⟨wr.heap.size, 2, none⟩ = some (.int .i64 (r1)) := hx2.cell 2
     have x3 : w2.cell? ⟨wr.heap.size, 3, none⟩ = some (.int .i64 (k1)) := hx2.cell 3
     have x4 : w2.cell? ⟨wr.heap.size, 4, none⟩ = some (.slice a1 z1 cap1) := hx2.cell 4
     have hgl2 := hb3.lt
     have hxl2 := hx2.lt
     clear hb2
     go_wp2_with fail
     have hS := store5_mid hb3 HKl.out (.int .i64 i1) (.string n1) (.int .i64 r1) (.int .i64 k1) (.slice a1 z1 cap1)
     have hSc := store5_at_chg w2 g (i * 5) (.int .i64 i1) (.string n1) (.int .i64 r1) (.int .i64 k1) (.slice a1 z1 cap1)
     generalize World.setCell (World.setCell (World.setCell (World.setCell (World.setCell w2 ⟨g, i * 5, none⟩ (.int .i64 i1)) ⟨g, i * 5 + 1, none⟩ (.string n1)) ⟨g, i * 5 + 2, none⟩ (.int .i64 r1)) ⟨g, i * 5 + 3, none⟩ (.int .i64 k1)) ⟨g, i * 5 + 4, none⟩ (.slice a1 z1 cap1) = w9 at hS hSc ⊢
     go_roundw
     case rel =>
      refine ⟨j + 1, i + 1, R ++ ndCells i1 n1 r1 k1 (.slice a1 z1 cap1), hlt, ?_, by omega, by go_num, by go_num, ?_, ?_, (hc.tr hcr2).trans hSc (fun _ e => .inl e)⟩
      ·rw [Hsnoc.out, if_neg (by rw [Hp.out]; decide), List.length_append, HKi.out]; rfl
      ·have h1 := HM.out
       rw [List.length_append] at h1 ⊢
       simp only [List.length_cons, List.length_nil] at h1
       rw [show (ndCells i1 n1 r1 k1 (.slice a1 z1 cap1)).length = 5 from rfl]; omega
      ·rw [Hsnoc.out, if_neg (by rw [Hp.out]; decide), celL_append, List.append_assoc, List.append_assoc]
       exact hS
     case measure => simp [intOf]; omega
   ·have hjl : j = L.length := by omega
    have hltI : ¬ (j : Int) < (s.length : Int) := by omega
    rw [hjl, List.drop_length, celL_nil, List.nil_append] at hb
    have hicap : ¬ cap = i := by omega
    have hile : i ≤ cap := by omega
    have hils : i ≤ s.length := by omega
    have htake : L.take j = L := List.take_of_length_le (by omega)
    rw [← hjl, htake] at hb
    have hki := HKi.out
    have hkl := HKl.out
    rw [htake] at hki hkl
    have HKi2 := Lib.hid hki
    have HKl2 := Lib.hid hkl
    clear hki hkl htake HKi HKl
    obtain ⟨w9, hr9, hm9⟩ := run_clear_mid (P := Tryz.prog) (n := s.length - i) (c := cap - i) wr 54 56 0 Tryz.underlying54 zero_nodeV (zero_one _) hb (by rw [HM.out, zero_five]; congr 1; omega)
    rw [HKl2.out] at hr9
    have hzl : (Builtin.zeroCells zeroAgg.cells (s.length - i)).toList.length = (s.length - i) * 5 := by rw [Array.length_toList, Builtin.zeroCells, Array.size_map, Array.size_range, zero_five]
    generalize (Builtin.zeroCells zeroAgg.cells (s.length - i)).toList = zs at hm9 hzl
    have Hzl := Lib.hid hzl
    clear hzl
    have Hm9 := Lib.hid hm9
    clear hm9 hb
    go_wp2_with fail
    go_ret
    have hfs : ∀ x ∈ footL (keepL (delB id) L), x ∈ L.flatMap (·.2.2) := fun x hx => (footL_sub List.filter_sublist).subset hx
    have hcF9 : Chg (OneB g) w1 w9 := hc.trans Hm9.out.chg (fun _ e => .inl e)
    have hcw9 : Chg (fun x => x ∈ g :: L.flatMap (·.2.2)) w w9 := (hc1.mono (fun _ _ e => nbE e)).trans hcF9 (fun x e => .inl (by have e : x = g := e; rw [e]; exact List.mem_cons_self ..))
    refine ⟨.slice (some ⟨g, 0, none⟩) i cap, g :: footL (keepL (delB id) L), rfl, .inr ⟨g, cap, _, _, ?_, ?_, e3, e4, Hm9.out.blk, ?_, ?_, rfl⟩, hcw9, ?_, ?_⟩
    ·rw [← HLs.out, ← keepL_map, List.length_map, HKi2.out]
    ·rw [← HLs.out, ← keepL_map, List.length_map, HKi2.out]; exact hile
    ·have h6 := He6.out
     have h7 := celL_len L HL5.out
     rw [List.length_append] at h6
     rw [List.length_append, List.length_append, HKl2.out, Hzl.out]
     have h8 : (L.flatMap (·.2.1)).length = L.length * 5 := h7
     omega
    ·rw [← HLs.out, ← keepL_map]
     refine TrC.ofChunks _ _ (fun x hx => TrN.keep _ _ _ (HL.out x (keepL_mem hx)) (fun y hy => ?_))
     have hxm : y ∈ L.flatMap (·.2.2) := List.mem_flatMap.2 ⟨x, keepL_mem hx, hy⟩
     have h1 := (hltF.out y (List.mem_cons_of_mem _ hxm)).2
     rw [hcF9.block y (Nat.lt_of_lt_of_le h1 hc1.size) (fun e => (List.nodup_cons.1 Hnd.out).1 (by have e : y = g := e; exact e ▸ hxm)), hc1.block y h1 nbE]
    ·intro x hx
     rcases List.mem_cons.1 hx with rfl | hx
     ·exact List.mem_cons_self ..
     ·exact List.mem_cons_of_mem _ (hfs x hx)
    ·have h1 := List.nodup_cons.1 Hnd.out
     exact List.nodup_cons.2 ⟨fun e => h1.1 (hfs g e), h1.2.sublist (footL_sub List.filter_sublist)⟩
end Go.Proofs.YtnmhkafpgohefaaGreatDoor
