/-
  shredcolref2.LeavesOf: the leaves of a right schema, each by going up from it.
-/
import Derived.Test.YtkchmgjmecojcaaGreatDoorOwnIn
import Derived.Test.YtkchmgjmecojcaaGreatDoorLeafLaw
import Derived.Test.YtkchmgjmecojcaaGreatDoorRefName
import Derived.Test.YtkchmgjmecojcaaGreatDoorSumR
set_option linter.unusedVariables false
set_option maxHeartbeats 20000000
set_option maxRecDepth 100000
set_option linter.unusedSimpArgs false
namespace Go.Proofs.YtkchmgjmecojcaaGreatDoor
open Go.RowKit
theorem wid_len (t : List Pl) : (wid t).length = t.length := List.length_map ..
theorem readsC_ints {w : World} {S S' : Nat → Prop} {k : Nat} : ∀ (l : List Int) (xs : List Value), ReadsC w S k (l.map intDt) xs → ReadsC w S' k (l.map intDt) xs
 | [], _, h => h
 | x :: xs, _, h => by
  obtain ⟨c, r, h1, h2, h3, h4⟩ := h
  exact ⟨c, r, h1, h2, h3, readsC_ints xs r h4⟩
theorem Own.ofInt {w : World} {b : Nat} {x : Int} (h : Blk w b [.int .i64 x] 3) : Own w b 3 1 (fun _ => False) (.slice (some ⟨b, 0, none⟩) 1 1) [intDt x] :=
 ⟨[.int .i64 x], ⟨rfl, .inr ⟨b, 1, #[.int .i64 x], rfl, Nat.le_refl _, h, Nat.le_refl _, by unfold maxLen; omega, rfl, rfl⟩⟩, [.int .i64 x], [], rfl, rfl, ⟨rfl, rfl⟩, rfl⟩
theorem infoLeafRef : (Tryz.prog.info? 169).map (fun i => (i.zero, i.size, i.bytes)) = some (some (.agg #[.int .i64 0, .int .i64 0, .int .i64 0, .int .i64 0, .slice none 0 0]), 5, 56) := by kernel_rfl
def lvT (W : List (Pl × List Pl)) (j : Nat) : List Lf := ((W.take j).drop 1).flatMap lfOf
theorem lvT_step {W : List (Pl × List Pl)} {j : Nat} (h1 : 1 ≤ j) (h2 : j < W.length) : lvT W (j + 1) = lvT W j ++ lfOf W[j] := by
 unfold lvT
 rw [List.take_succ_eq_append_getElem h2, List.drop_append_of_le_length (by rw [List.length_take]; omega), List.flatMap_append]
 simp
theorem lfOf_len (x : Pl × List Pl) : (lfOf x).length ≤ 1 := by
 unfold lfOf
 split <;> simp
theorem lfs_len : ∀ l : List (Pl × List Pl), (l.flatMap lfOf).length ≤ l.length
 | [] => Nat.le_refl _
 | x :: xs => by
  have h1 := lfOf_len x
  have h2 := lfs_len xs
  simp only [List.flatMap_cons, List.length_append, List.length_cons]
  omega
theorem lvT_len (W : List (Pl × List Pl)) (j : Nat) : (lvT W j).length ≤ j := by
 have h := lfs_len ((W.take j).drop 1)
 unfold lvT
 rw [List.length_drop, List.length_take] at h
 omega
theorem way_le {nd : Nd} : ∀ (j : Nat) (q : Pl) (t : List Pl), (waysOf nd)[j]? = some (q, t) → t.length ≤ j := by
 intro j
 induction j using Nat.strongRecOn with
 | _ j ih =>
  intro q t h
  by_cases h0 : j = 0
  ·subst h0
   simp only [waysOf, List.getElem?_cons_zero, Option.some.injEq, Prod.mk.injEq] at h
   rw [← h.2]
   simp
  ·have hl := (List.getElem?_eq_some_iff.1 h).1
   obtain ⟨q', t', b, qb, h1, h2, h3, h4⟩ := ways_goes nd j (by omega) hl
   have h5 := ih b h3 _ _ h4
   rw [h] at h1
   simp only [Option.some.injEq, Prod.mk.injEq] at h1
   rw [h1.2, List.length_append, List.length_singleton]
   omega
def LoIn (W : List (Pl × List Pl)) (tot : List Pl) (li lk : Int) (fb : Nat) (wX : World) (vk : Value) (wr : World) : Prop :=
 ∃ (kk : Nat) (t tk : List Pl) (qk : Pl) (pa : Option Addr) (pc : Nat), vk = .int .i64 (kk : Nat) ∧ W[kk]? = some (qk, tk) ∧ tot = tk ++ t ∧ Chg (OneB fb) wX wr ∧
  Blk wr fb [.int .i64 li, .int .i64 lk, .int .i64 (c3 t), .int .i64 (c1 t), .slice pa t.length pc] 169 ∧ Reads wr (fun x => fb < x) (.list 1 ((wid t).map intDt)) [.slice pa t.length pc]
def LoOut (W : List (Pl × List Pl)) (w w2 : World) (vl vi : Value) (wr : World) : Prop :=
 ∃ j ao cap, 1 ≤ j ∧ j ≤ W.length ∧ vi = .int .i64 (j : Nat) ∧ vl = .slice ao (lvT W j).length cap ∧ (Chg NoB w wr ∧ Chg NoB w2 wr) ∧ Own wr w2.heap.size 169 5 (fun b => w2.heap.size ≤ b) vl ((lvT W j).map Lf.dt)
theorem leavesOf_any (nd : Nd) (w : World) (S : Nat → Prop) (cs : List Value) (hv : validF nd = none) (hr : Reads w S nd.dt cs) (hok : nd.ok) :
  Calls Tryz.prog 38 #[.agg cs.toArray] w (RetList 5 (fun _ => False) ((leavesRef nd).map Lf.dt) w) := by
 have hL0 := flat_valid hv
 have hWL : (waysOf nd).map Prod.fst = flatOf nd := by rw [ways_fst, hL0]
 have hgo := ways_goes nd
 have hwl := way_le (nd := nd)
 have hfin : leavesRef nd = lvT (waysOf nd) (waysOf nd).length := by unfold leavesRef lvT; rw [List.take_length]
 have hW0 : (waysOf nd)[0]? = some (⟨nd, 1, -1⟩, []) := rfl
 clear hL0 hv
 rw [hfin]
 clear hfin
 generalize waysOf nd = W at *
 have hLW : (flatOf nd).length = W.length := by rw [← hWL, List.length_map]
 have hget : ∀ (j : Nat) (x : Pl × List Pl), W[j]? = some x → (flatOf nd)[j]? = some x.1 := fun j x h => by rw [← hWL, List.getElem?_map, h]; rfl
 have hLle : (flatOf nd).length ≤ 2001 := flatN_le nd [] 1 (-1) (by simp)
 have HLW := Lib.hid hLW
 have Hget := Lib.hid hget
 have Hgo := Lib.hid hgo
 have Hwl := Lib.hid hwl
 have HW0 := Lib.hid hW0
 clear hWL hget hgo hwl hW0
 have hr' := hr
 obtain ⟨i, nm, r, k, sb⟩ := nd
 obtain ⟨sv, rfl, hs⟩ := reads_nd.1 hr
 obtain ⟨sa, cap, rfl, _, _, _⟩ := reads_subs hs
 go_enter Tryz.func38, Tryz.ntmps38
 go_wp2_with fail
 generalize hw1 : w.alloc _ = w1
 have hc1 : Chg NoB w w1 := by
  rw [← hw1]
  repeat (first | exact Chg.refl _ _ | apply Chg.alloc | apply Chg.drew)
 clear hw1
 refine (Flat_any (.mk i nm r k sb) w1 S _ (hr'.chg0 hc1) hok).mono ?_
 rintro en w2 ⟨ao, c2, rfl, hrl, hc2⟩
 replace hc2 := hc1.tr hc2
 rw [List.length_map] at hrl ⊢
 obtain ⟨-, hL1, hL2, hel⟩ := pl_cells hrl
 clear hrl
 rw [hLW] at hLle hL1 hel ⊢
 clear hLW
 have hel2 : W.length ≠ 0 → ∃ b off, ao = some ⟨b, off, none⟩ ∧ b < w2.heap.size ∧ ∀ j x, W[j]? = some x → PlAt w2 b (off + j * 7) x.1 := fun h => by
  obtain ⟨b, off, e1, e2, e3⟩ := hel h
  exact ⟨b, off, e1, e2, fun j x hx => e3 j x.1 (Hget.out j x hx)⟩
 have Hel := Lib.hid hel2
 clear hel hel2 Hget HLW
 have hsz2 := hc2.size
 have hpos : 1 ≤ W.length := by have := (List.getElem?_eq_some_iff.1 HW0.out).1; omega
 go_wp2_with fail
 go_loopw [4, 5] (fun vl vi wr => LoOut W w w2 vl vi wr) (fun _ vi _ => W.length - (intOf vi).toNat)
 case atStart =>
  have e0 : lvT W 1 = [] := by
   unfold lvT
   rw [List.drop_eq_nil_of_le (by rw [List.length_take]; omega)]
   rfl
  refine ⟨1, none, 0, Nat.le_refl _, hpos, rfl, ?_, ⟨hc2, Chg.refl _ _⟩, ?_⟩
  ·rw [e0]; rfl
  ·rw [e0]; exact Own.nil _ _ _ _ _
 case round =>
  obtain ⟨j, ao2, ac, hj1, hj, rfl, rfl, ⟨hcr, hcr2⟩, ho⟩ := hrel
  have hul := lvT_len W j
  have hlm : ((lvT W j).map Lf.dt).length = (lvT W j).length := List.length_map ..
  obtain ⟨lb, off, rfl, hlb2, hel⟩ := Hel.out (by omega)
  by_cases hlt : j < W.length
  ·have hP := (hel j W[j] (by simp [hlt])).keep0 hlb2 hcr2
   have hstep := lvT_step hj1 hlt
   have hgetj : W[j]? = some W[j] := by simp [hlt]
   generalize W[j] = x at hP hstep hgetj
   obtain ⟨p, tot⟩ := x
   have Hstep := Lib.hid hstep
   have Hgetj := Lib.hid hgetj
   clear hstep hgetj
   have e0 := hP.id
   have e3 := hP.kind
   obtain ⟨li, hli⟩ : ∃ x, p.n.id = x := ⟨_, rfl⟩
   obtain ⟨lk, hlk⟩ : ∃ x, p.n.kind = x := ⟨_, rfl⟩
   rw [hli] at e0
   rw [hlk] at e3
   have Hli := Lib.hid hli
   have Hlk := Lib.hid hlk
   clear hli hlk hP
   by_cases hk : lk = 0
   ·subst hk
    have hone : lfOf (p, tot) = [] := by unfold lfOf; rw [if_pos Hlk.out]
    rw [hone, List.append_nil] at Hstep
    clear hone
    have hjL : (j : Int) < (W.length : Int) := by omega
    go_wp2_with fail
    refine ⟨⟨j + 1, ao2, ac, by omega, hlt, by go_num, ?_, ⟨hcr, hcr2⟩, ?_⟩, by simp [intOf]; omega⟩
    ·rw [Hstep.out]
    ·rw [Hstep.out]; exact ho
   ·have hone : lfOf (p, tot) = [⟨li, lk, c3 tot, c1 tot, wid tot⟩] := by unfold lfOf; rw [if_neg (by rw [Hlk.out]; exact hk), Hli.out, Hlk.out]
    rw [hone] at Hstep
    have hk' : (lk == 0) = false := by simpa using hk
    have hjL : (j : Int) < (W.length : Int) := by omega
    clear hone hk
    have hsz2r := hcr2.size
    have hlbr : lb < wr.heap.size := by omega
    go_wp2_with fail
    refine wp_region_n (fun w' => w'.cell? ⟨lb, off + j * 7, none⟩ = some (.int .i64 li) ∧ w'.cell? ⟨lb, off + j * 7 + 3, none⟩ = some (.int .i64 lk)) [] (by kernel_rfl) ?_ (fun hSh => ?_)
    ·exact ⟨e0, e3⟩
    refine n_from 0 ?_
    intro htk
    iterate 13
     refine n_tB (v := ?_) htk rfl (Or.inl ⟨by rfl, ?_⟩) ?_
     rotate_left 1
     ·(intro w' hSw; (try dsimp only at hSw); go_simp; try with_reducible rfl)
     clear htk
     intro htk
     simp only [Nat.reduceAdd] at htk
     simp only [Act.put, qA, qB, qC, qD, qE, qF]
    clear htk
    refine n_step 13 rfl (by kernel_rfl) ?_
    go_wp2_with fail
    generalize hwA : World.drew (World.alloc wr _) = wA
    have hcA : Chg NoB wr wA := by
     rw [← hwA]
     repeat (first | exact Chg.refl _ _ | apply Chg.alloc | apply Chg.drew)
    have hbA : Blk wA (wr.heap.size) ([.int .i64 0, .int .i64 0, .int .i64 0, .int .i64 0, .slice none 0 0]) 169 := by
     rw [← hwA]
     repeat (first | exact Blk.newAt (by first | rfl | (simp; done) | (simp; omega)) | apply Blk.alloc | apply Blk.drew)
    clear hwA
    refine ⟨fun _ => ?_, fun hSk => ?_⟩
    ·(repeat' refine And.intro ?_ ?_) <;> exact (hcA.cell (by first | assumption | (simp; done) | (simp; omega) | omega) nbE).trans (by assumption)
    replace hSk := hSk (by rfl)
    generalize hfb : wr.heap.size = fb at hbA ⊢
    have z0 : wA.frozen? ⟨fb, 0, none⟩ = false := hbA.free 0
    have z1 : wA.frozen? ⟨fb, 1, none⟩ = false := hbA.free 1
    have z2 : wA.frozen? ⟨fb, 2, none⟩ = false := hbA.free 2
    have z3 : wA.frozen? ⟨fb, 3, none⟩ = false := hbA.free 3
    have z4 : wA.frozen? ⟨fb, 4, none⟩ = false := hbA.free 4
    have y0 : wA.cell? ⟨fb, 0, none⟩ = some (.int .i64 0) := hbA.cell 0
    have y1 : wA.cell? ⟨fb, 1, none⟩ = some (.int .i64 0) := hbA.cell 1
    have y2 : wA.cell? ⟨fb, 2, none⟩ = some (.int .i64 0) := hbA.cell 2
    have y3 : wA.cell? ⟨fb, 3, none⟩ = some (.int .i64 0) := hbA.cell 3
    have y4 : wA.cell? ⟨fb, 4, none⟩ = some (.slice none 0 0) := hbA.cell 4
    have lA := hbA.lt
    refine n_step 14 rfl (by kernel_rfl) ?_
    go_wp2_with fail
    have hbX : Blk _ fb [.int .i64 li, .int .i64 lk, .int .i64 0, .int .i64 0, .slice none 0 0] 169 := ((((hbA.set 0 (.int .i64 li)).set 1 (.int .i64 lk)).set 2 (.int .i64 0)).set 3 (.int .i64 0)).set 4 (.slice none 0 0)
    have hcX := store5_chg wA fb (.int .i64 li) (.int .i64 lk) (.int .i64 0) (.int .i64 0) (.slice none 0 0)
    have hcX0 : Chg NoB wr (World.setCell (World.setCell (World.setCell (World.setCell (World.setCell wA ⟨fb, 0, none⟩ (.int .i64 li)) ⟨fb, 1, none⟩ (.int .i64 lk)) ⟨fb, 2, none⟩ (.int .i64 0)) ⟨fb, 3, none⟩ (.int .i64 0)) ⟨fb, 4, none⟩ (.slice none 0 0)) := hcA.trans hcX (fun x e => .inr (by have e : x = fb := e; omega))
    generalize hwX : World.setCell _ _ (Value.slice none 0 0) = wX at hbX hcX0 ⊢
    clear hwX hcX hbA y0 y1 y2 y3 y4 z0 z1 z2 z3 z4 lA
    refine ⟨fun _ => ?_, fun hSk => ?_⟩
    ·(repeat' refine And.intro ?_ ?_) <;> exact (hcX0.cell (by first | assumption | (simp; done) | (simp; omega) | omega) nbE).trans (by assumption)
    replace hSk := hSk (by rfl)
    refine n_done (by kernel_rfl) ?_
    clear hSk hSh
    have hcW := hcr.tr hcX0
    have hcW2 := hcr2.tr hcX0
    have hoI := (ho.inHeap).keep hcX0 (fun _ _ => nbE) (fun _ _ => nbE)
    have hvb := ho.block
    have hlbX := hcX0.size
    have hfX := hbX.lt
    go_wp2_with fail
    obtain ⟨wo, rfl⟩ : ∃ x, x = wr := ⟨_, rfl⟩
    go_loopw [7] (fun vk wq => LoIn W tot li lk fb wX vk wq) (fun vk _ => (intOf vk).toNat)
    case atStart => exact ⟨j, [], tot, p, none, 0, rfl, Hgetj.out, by simp, Chg.refl _ _, hbX, none, 0, rfl, Nat.le_refl _, Nat.zero_le _, .inl ⟨rfl, fun _ => rfl⟩⟩
    case round =>
     obtain ⟨kk, t, tk, qk, pa, pc, rfl, hWk, htot, hcr, hb, hrd⟩ := hrel
     have htl : tot.length ≤ 2001 := by have := Hwl.out j _ _ Hgetj.out; omega
     have htt : t.length ≤ tot.length := by rw [htot, List.length_append]; omega
     have h3 := c3_len t
     have h1 := c1_len t
     have hlt : lb < wX.heap.size := by omega
     by_cases hk0 : 0 < kk
     ·have hkW := (List.getElem?_eq_some_iff.1 hWk).1
      obtain ⟨q, t0, b, qb, hg1, hg2, hg3, hg4⟩ := Hgo.out kk hk0 hkW
      rw [hWk] at hg1
      simp only [Option.some.injEq, Prod.mk.injEq] at hg1
      obtain ⟨rfl, rfl⟩ := hg1
      have Htot : Hid (tot = t0 ++ (qk :: t)) := Lib.hid (by rw [htot]; simp)
      have hP := hel kk _ hWk
      have hPc : ∀ {o : Nat} {v : Value}, w2.cell? ⟨lb, o, none⟩ = some v → wr.cell? ⟨lb, o, none⟩ = some v := fun h => (hcr.cell (p := ⟨lb, _, none⟩) (by show lb < wX.heap.size; omega) (fun e => by have e : lb = fb := e; omega)).trans ((hcW2.cell (p := ⟨lb, _, none⟩) hlb2 nbE).trans h)
      have p0 := hPc hP.id
      have p2 := hPc hP.rep
      have p6 := hPc hP.around
      rw [hg2] at p6
      obtain ⟨qi, hqi⟩ : ∃ x, qk.n.id = x := ⟨_, rfl⟩
      obtain ⟨qr, hqr⟩ : ∃ x, qk.n.rep = x := ⟨_, rfl⟩
      rw [hqi] at p0
      rw [hqr] at p2
      have lfr := hb.lt
      have Hqi := Lib.hid hqi
      have Hqr := Lib.hid hqr
      have HWb := Lib.hid hg4
      clear hqi hqr hg4 hg2 htot hP hPc hWk
      have z0 : wr.frozen? ⟨fb, 0, none⟩ = false := hb.free 0
      have z1 : wr.frozen? ⟨fb, 1, none⟩ = false := hb.free 1
      have z2 : wr.frozen? ⟨fb, 2, none⟩ = false := hb.free 2
      have z3 : wr.frozen? ⟨fb, 3, none⟩ = false := hb.free 3
      have z4 : wr.frozen? ⟨fb, 4, none⟩ = false := hb.free 4
      have y0 : wr.cell? ⟨fb, 0, none⟩ = some (.int .i64 li) := hb.cell 0
      have y1 : wr.cell? ⟨fb, 1, none⟩ = some (.int .i64 lk) := hb.cell 1
      have y2 : wr.cell? ⟨fb, 2, none⟩ = some (.int .i64 (c3 t)) := hb.cell 2
      have y3 : wr.cell? ⟨fb, 3, none⟩ = some (.int .i64 (c1 t)) := hb.cell 3
      have y4 : wr.cell? ⟨fb, 4, none⟩ = some (.slice pa t.length pc) := hb.cell 4
      have hne : fb ≠ lb := by omega
      have hkW1 : (kk : Int) < (W.length : Int) := by omega
      have hk1 : (0 : Int) < (kk : Int) := by omega
      by_cases hr3 : qr = 3
      ·subst hr3
       have hbS := (hb.set 2 (.int .i64 (c3 t + 1))).set 3 (.int .i64 (c1 t + 1))
       have hcS := ((Chg.refl (OneB fb) wr).setCell (p := ⟨fb, 2, none⟩) (.inl rfl) (.int .i64 (c3 t + 1))).setCell (p := ⟨fb, 3, none⟩) (.inl rfl) (.int .i64 (c1 t + 1))
       go_wp2_with (at_builtin; refine stop_here ?_)
       refine Stop.go ?_
       have hszS : ((wr.setCell ⟨fb, 2, none⟩ (.int .i64 (c3 t + 1))).setCell ⟨fb, 3, none⟩ (.int .i64 (c1 t + 1))).heap.size = wr.heap.size := by simp
       generalize hwS : World.setCell (World.setCell wr _ _) _ _ = wS at hbS hcS hszS ⊢
       clear hwS y0 y1 y2 y3 y4 z0 z1 z2 z3 z4
       have hr1 : True := trivial
       have hrS := hrd.chg (hcS) (fun x hx e => by have e : x = fb := e; have hx : fb < x := hx; omega)
       generalize hwA : World.alloc wS _ = wA
       have hcA : Chg NoB wS wA := by
        rw [← hwA]
        repeat (first | exact Chg.refl _ _ | apply Chg.alloc | apply Chg.drew)
       have hpA : Blk wA wr.heap.size [.int .i64 qi] 3 := by
        rw [← hwA]
        exact Blk.newAt (by first | exact hszS.symm | rfl)
       clear hwA
       have hbA := (hbS).keep hcA nbE
       have lbA := hbA.lt
       obtain ⟨a8, c8, news, e8, hn8, hm8, hnews, hcell8, hnone8⟩ := news_of (hrS.chg0 hcA)
       rw [List.length_map, wid_len] at e8 hnone8 hn8
       obtain ⟨rfl, -, rfl⟩ := Value.slice.inj e8
       clear e8
       refine wpList_own rfl (.tmp 74) (.tmp 76) 65 rfl wr.heap.size 3 Tryz.underlying65 infoInt1 rfl (by decide) rfl (Own.ofInt hpA) rfl ((wid t).map intDt) news (by rw [List.length_map, wid_len]) (readsC_ints _ _ hnews) hcell8 hnone8 ?_ ?_ ?_ ?_
       ·simp only [List.length_singleton]; unfold maxLen; omega
       ·simp only [List.length_singleton]; omega
       ·have := hcA.size; omega
       intro ao2 cap2 wB hoB hcB hatB
       simp only [List.length_singleton] at hoB hatB ⊢
       have hbB := hbA.keep hcB (fun e => by have e := Option.some.inj e; have e : wr.heap.size = fb := e; omega)
       have hcC : Chg (OneB fb) wX wB := ((hcr.trans (hcS) (fun _ e => .inl e)).tr hcA).trans hcB (fun x e => .inr (by have e := Option.some.inj e; have e : wr.heap.size = x := e; have := hcr.size; omega))
       have hlbB := hbB.lt
       have hcK : Chg (OneB fb) wr wB := ((hcS).tr hcA).trans hcB (fun x e => .inr (by have e := Option.some.inj e; have e : wr.heap.size = x := e; omega))
       have hltr : lb < wr.heap.size := by have := hcr.size; omega
       have g6 : wB.cell? ⟨lb, off + kk * 7 + 6, none⟩ = some (.int .i64 (b : Nat)) := (hcK.cell (p := ⟨lb, off + kk * 7 + 6, none⟩) hltr (fun e => by have e : lb = fb := e; omega)).trans p6
       clear p0 p2 p6
       have z0 : wB.frozen? ⟨fb, 0, none⟩ = false := hbB.free 0
       have z1 : wB.frozen? ⟨fb, 1, none⟩ = false := hbB.free 1
       have z2 : wB.frozen? ⟨fb, 2, none⟩ = false := hbB.free 2
       have z3 : wB.frozen? ⟨fb, 3, none⟩ = false := hbB.free 3
       have z4 : wB.frozen? ⟨fb, 4, none⟩ = false := hbB.free 4
       have y0 : wB.cell? ⟨fb, 0, none⟩ = some ((.int .i64 li)) := hbB.cell 0
       have y1 : wB.cell? ⟨fb, 1, none⟩ = some ((.int .i64 lk)) := hbB.cell 1
       have y2 : wB.cell? ⟨fb, 2, none⟩ = some ((.int .i64 (c3 t + 1))) := hbB.cell 2
       have y3 : wB.cell? ⟨fb, 3, none⟩ = some ((.int .i64 (c1 t + 1))) := hbB.cell 3
       have y4 : wB.cell? ⟨fb, 4, none⟩ = some (.slice pa t.length pc) := hbB.cell 4
       have hne : fb ≠ lb := by omega
       go_wp2_with fail
       refine ⟨⟨b, qk :: t, t0, qb, ao2, cap2, rfl, HWb.out, Htot.out, hcC.setCell (p := ⟨fb, 4, none⟩) (.inl rfl) _, ?_, ?_⟩, ?_⟩
       ·have h9 := hbB.set 4 (.slice ao2 (1 + t.length) cap2)
        rw [show c3 (qk :: t) = c3 t + 1 from by rw [c3_cons, Hqr.out]; first | rfl | exact if_neg hr3, show c1 (qk :: t) = c1 t + 1 from by rw [c1_cons, Hqr.out]; first | rfl | exact if_neg hr1, List.length_cons, Nat.add_comm t.length 1]
        exact h9
       ·have h9 := (hoB.reads (S' := fun x => fb < x) (fun _ h => h.elim) (fun x hx _ => by omega) (by simp only [List.length_append, List.length_map, List.length_singleton, wid_len]; unfold maxLen; omega))
        have h10 := h9.chg ((Chg.refl (OneB fb) wB).setCell (p := ⟨fb, 4, none⟩) (.inl rfl) (.slice ao2 (1 + t.length) cap2)) (fun x hx e => by have e : x = fb := e; have hx : fb < x := hx; omega)
        have e9 : (wid (qk :: t)).map intDt = [intDt qi] ++ (wid t).map intDt := by unfold wid; rw [List.map_cons, Hqi.out]; rfl
        rw [e9, List.length_cons, Nat.add_comm t.length 1]
        exact h10
       ·simp [intOf]; omega
      ·by_cases hr1 : qr = 1
       ·subst hr1
        have hbS := hb
        have hcS := Chg.refl (OneB fb) wr
        have hszS : wr.heap.size = wr.heap.size := rfl
        go_wp2_with (at_builtin; refine stop_here ?_)
        refine Stop.go ?_
        clear y0 y1 y2 y3 y4 z0 z1 z2 z3 z4
        have hrS := hrd.chg (hcS) (fun x hx e => by have e : x = fb := e; have hx : fb < x := hx; omega)
        generalize hwA : World.alloc wr _ = wA
        have hcA : Chg NoB wr wA := by
         rw [← hwA]
         repeat (first | exact Chg.refl _ _ | apply Chg.alloc | apply Chg.drew)
        have hpA : Blk wA wr.heap.size [.int .i64 qi] 3 := by
         rw [← hwA]
         exact Blk.newAt (by first | exact hszS.symm | rfl)
        clear hwA
        have hbA := (hbS).keep hcA nbE
        have lbA := hbA.lt
        obtain ⟨a8, c8, news, e8, hn8, hm8, hnews, hcell8, hnone8⟩ := news_of (hrS.chg0 hcA)
        rw [List.length_map, wid_len] at e8 hnone8 hn8
        obtain ⟨rfl, -, rfl⟩ := Value.slice.inj e8
        clear e8
        refine wpList_own rfl (.tmp 74) (.tmp 76) 65 rfl wr.heap.size 3 Tryz.underlying65 infoInt1 rfl (by decide) rfl (Own.ofInt hpA) rfl ((wid t).map intDt) news (by rw [List.length_map, wid_len]) (readsC_ints _ _ hnews) hcell8 hnone8 ?_ ?_ ?_ ?_
        ·simp only [List.length_singleton]; unfold maxLen; omega
        ·simp only [List.length_singleton]; omega
        ·have := hcA.size; omega
        intro ao2 cap2 wB hoB hcB hatB
        simp only [List.length_singleton] at hoB hatB ⊢
        have hbB := hbA.keep hcB (fun e => by have e := Option.some.inj e; have e : wr.heap.size = fb := e; omega)
        have hcC : Chg (OneB fb) wX wB := ((hcr.trans (hcS) (fun _ e => .inl e)).tr hcA).trans hcB (fun x e => .inr (by have e := Option.some.inj e; have e : wr.heap.size = x := e; have := hcr.size; omega))
        have hlbB := hbB.lt
        have hcK : Chg (OneB fb) wr wB := ((hcS).tr hcA).trans hcB (fun x e => .inr (by have e := Option.some.inj e; have e : wr.heap.size = x := e; omega))
        have hltr : lb < wr.heap.size := by have := hcr.size; omega
        have g6 : wB.cell? ⟨lb, off + kk * 7 + 6, none⟩ = some (.int .i64 (b : Nat)) := (hcK.cell (p := ⟨lb, off + kk * 7 + 6, none⟩) hltr (fun e => by have e : lb = fb := e; omega)).trans p6
        clear p0 p2 p6
        have z0 : wB.frozen? ⟨fb, 0, none⟩ = false := hbB.free 0
        have z1 : wB.frozen? ⟨fb, 1, none⟩ = false := hbB.free 1
        have z2 : wB.frozen? ⟨fb, 2, none⟩ = false := hbB.free 2
        have z3 : wB.frozen? ⟨fb, 3, none⟩ = false := hbB.free 3
        have z4 : wB.frozen? ⟨fb, 4, none⟩ = false := hbB.free 4
        have y0 : wB.cell? ⟨fb, 0, none⟩ = some ((.int .i64 li)) := hbB.cell 0
        have y1 : wB.cell? ⟨fb, 1, none⟩ = some ((.int .i64 lk)) := hbB.cell 1
        have y2 : wB.cell? ⟨fb, 2, none⟩ = some ((.int .i64 (c3 t))) := hbB.cell 2
        have y3 : wB.cell? ⟨fb, 3, none⟩ = some ((.int .i64 (c1 t))) := hbB.cell 3
        have y4 : wB.cell? ⟨fb, 4, none⟩ = some (.slice pa t.length pc) := hbB.cell 4
        have hne : fb ≠ lb := by omega
        go_wp2_with fail
        refine ⟨⟨b, qk :: t, t0, qb, ao2, cap2, rfl, HWb.out, Htot.out, hcC.setCell (p := ⟨fb, 4, none⟩) (.inl rfl) _, ?_, ?_⟩, ?_⟩
        ·have h9 := hbB.set 4 (.slice ao2 (1 + t.length) cap2)
         rw [show c3 (qk :: t) = c3 t from by rw [c3_cons, Hqr.out]; first | rfl | exact if_neg hr3, show c1 (qk :: t) = c1 t from by rw [c1_cons, Hqr.out]; first | rfl | exact if_neg hr1, List.length_cons, Nat.add_comm t.length 1]
         exact h9
        ·have h9 := (hoB.reads (S' := fun x => fb < x) (fun _ h => h.elim) (fun x hx _ => by omega) (by simp only [List.length_append, List.length_map, List.length_singleton, wid_len]; unfold maxLen; omega))
         have h10 := h9.chg ((Chg.refl (OneB fb) wB).setCell (p := ⟨fb, 4, none⟩) (.inl rfl) (.slice ao2 (1 + t.length) cap2)) (fun x hx e => by have e : x = fb := e; have hx : fb < x := hx; omega)
         have e9 : (wid (qk :: t)).map intDt = [intDt qi] ++ (wid t).map intDt := by unfold wid; rw [List.map_cons, Hqi.out]; rfl
         rw [e9, List.length_cons, Nat.add_comm t.length 1]
         exact h10
        ·simp [intOf]; omega
       ·have hr3' : (qr == 3) = false := by simpa using hr3
        have hr1' : (qr != 1) = true := by simpa using hr1
        have hbS := hb.set 3 (.int .i64 (c1 t + 1))
        have hcS := (Chg.refl (OneB fb) wr).setCell (p := ⟨fb, 3, none⟩) (.inl rfl) (.int .i64 (c1 t + 1))
        go_wp2_with (at_builtin; refine stop_here ?_)
        refine Stop.go ?_
        have hszS : (wr.setCell ⟨fb, 3, none⟩ (.int .i64 (c1 t + 1))).heap.size = wr.heap.size := by simp
        generalize hwS : World.setCell wr _ _ = wS at hbS hcS hszS ⊢
        clear hwS y0 y1 y2 y3 y4 z0 z1 z2 z3 z4
        have hrS := hrd.chg (hcS) (fun x hx e => by have e : x = fb := e; have hx : fb < x := hx; omega)
        generalize hwA : World.alloc wS _ = wA
        have hcA : Chg NoB wS wA := by
         rw [← hwA]
         repeat (first | exact Chg.refl _ _ | apply Chg.alloc | apply Chg.drew)
        have hpA : Blk wA wr.heap.size [.int .i64 qi] 3 := by
         rw [← hwA]
         exact Blk.newAt (by first | exact hszS.symm | rfl)
        clear hwA
        have hbA := (hbS).keep hcA nbE
        have lbA := hbA.lt
        obtain ⟨a8, c8, news, e8, hn8, hm8, hnews, hcell8, hnone8⟩ := news_of (hrS.chg0 hcA)
        rw [List.length_map, wid_len] at e8 hnone8 hn8
        obtain ⟨rfl, -, rfl⟩ := Value.slice.inj e8
        clear e8
        refine wpList_own rfl (.tmp 74) (.tmp 76) 65 rfl wr.heap.size 3 Tryz.underlying65 infoInt1 rfl (by decide) rfl (Own.ofInt hpA) rfl ((wid t).map intDt) news (by rw [List.length_map, wid_len]) (readsC_ints _ _ hnews) hcell8 hnone8 ?_ ?_ ?_ ?_
        ·simp only [List.length_singleton]; unfold maxLen; omega
        ·simp only [List.length_singleton]; omega
        ·have := hcA.size; omega
        intro ao2 cap2 wB hoB hcB hatB
        simp only [List.length_singleton] at hoB hatB ⊢
        have hbB := hbA.keep hcB (fun e => by have e := Option.some.inj e; have e : wr.heap.size = fb := e; omega)
        have hcC : Chg (OneB fb) wX wB := ((hcr.trans (hcS) (fun _ e => .inl e)).tr hcA).trans hcB (fun x e => .inr (by have e := Option.some.inj e; have e : wr.heap.size = x := e; have := hcr.size; omega))
        have hlbB := hbB.lt
        have hcK : Chg (OneB fb) wr wB := ((hcS).tr hcA).trans hcB (fun x e => .inr (by have e := Option.some.inj e; have e : wr.heap.size = x := e; omega))
        have hltr : lb < wr.heap.size := by have := hcr.size; omega
        have g6 : wB.cell? ⟨lb, off + kk * 7 + 6, none⟩ = some (.int .i64 (b : Nat)) := (hcK.cell (p := ⟨lb, off + kk * 7 + 6, none⟩) hltr (fun e => by have e : lb = fb := e; omega)).trans p6
        clear p0 p2 p6
        have z0 : wB.frozen? ⟨fb, 0, none⟩ = false := hbB.free 0
        have z1 : wB.frozen? ⟨fb, 1, none⟩ = false := hbB.free 1
        have z2 : wB.frozen? ⟨fb, 2, none⟩ = false := hbB.free 2
        have z3 : wB.frozen? ⟨fb, 3, none⟩ = false := hbB.free 3
        have z4 : wB.frozen? ⟨fb, 4, none⟩ = false := hbB.free 4
        have y0 : wB.cell? ⟨fb, 0, none⟩ = some ((.int .i64 li)) := hbB.cell 0
        have y1 : wB.cell? ⟨fb, 1, none⟩ = some ((.int .i64 lk)) := hbB.cell 1
        have y2 : wB.cell? ⟨fb, 2, none⟩ = some ((.int .i64 (c3 t))) := hbB.cell 2
        have y3 : wB.cell? ⟨fb, 3, none⟩ = some ((.int .i64 (c1 t + 1))) := hbB.cell 3
        have y4 : wB.cell? ⟨fb, 4, none⟩ = some (.slice pa t.length pc) := hbB.cell 4
        have hne : fb ≠ lb := by omega
        go_wp2_with fail
        refine ⟨⟨b, qk :: t, t0, qb, ao2, cap2, rfl, HWb.out, Htot.out, hcC.setCell (p := ⟨fb, 4, none⟩) (.inl rfl) _, ?_, ?_⟩, ?_⟩
        ·have h9 := hbB.set 4 (.slice ao2 (1 + t.length) cap2)
         rw [show c3 (qk :: t) = c3 t from by rw [c3_cons, Hqr.out]; first | rfl | exact if_neg hr3, show c1 (qk :: t) = c1 t + 1 from by rw [c1_cons, Hqr.out]; first | rfl | exact if_neg hr1, List.length_cons, Nat.add_comm t.length 1]
         exact h9
        ·have h9 := (hoB.reads (S' := fun x => fb < x) (fun _ h => h.elim) (fun x hx _ => by omega) (by simp only [List.length_append, List.length_map, List.length_singleton, wid_len]; unfold maxLen; omega))
         have h10 := h9.chg ((Chg.refl (OneB fb) wB).setCell (p := ⟨fb, 4, none⟩) (.inl rfl) (.slice ao2 (1 + t.length) cap2)) (fun x hx e => by have e : x = fb := e; have hx : fb < x := hx; omega)
         have e9 : (wid (qk :: t)).map intDt = [intDt qi] ++ (wid t).map intDt := by unfold wid; rw [List.map_cons, Hqi.out]; rfl
         rw [e9, List.length_cons, Nat.add_comm t.length 1]
         exact h10
        ·simp [intOf]; omega
     ·obtain rfl : kk = 0 := by omega
      rw [HW0.out] at hWk
      simp only [Option.some.injEq, Prod.mk.injEq] at hWk
      obtain ⟨-, rfl⟩ := hWk
      rw [List.nil_append] at htot
      subst htot
      have lfr := hb.lt
      have y0 : wr.cell? ⟨fb, 0, none⟩ = some (.int .i64 li) := hb.cell 0
      have y1 : wr.cell? ⟨fb, 1, none⟩ = some (.int .i64 lk) := hb.cell 1
      have y2 : wr.cell? ⟨fb, 2, none⟩ = some (.int .i64 (c3 tot)) := hb.cell 2
      have y3 : wr.cell? ⟨fb, 3, none⟩ = some (.int .i64 (c1 tot)) := hb.cell 3
      have y4 : wr.cell? ⟨fb, 4, none⟩ = some (.slice pa tot.length pc) := hb.cell 4
      go_wp2_with (at_builtin; refine stop_here ?_)
      refine Stop.go ?_
      generalize hwB : World.alloc wr _ = wB
      have hcB : Chg NoB wr wB := by
       rw [← hwB]
       repeat (first | exact Chg.refl _ _ | apply Chg.alloc | apply Chg.drew)
      have hbn : Blk wB (wr.heap.size) ([.int .i64 li, .int .i64 lk, .int .i64 (c3 tot), .int .i64 (c1 tot), .slice pa tot.length pc]) 169 := by
       rw [← hwB]
       repeat (first | exact Blk.newAt (by first | rfl | (simp; done) | (simp; omega)) | apply Blk.alloc | apply Blk.drew)
      clear hwB
      have hcXr : Chg (OneB fb) wX wB := hcr.tr hcB
      have hoB := (hoI.keep hcXr (fun b hb e => by have e : b = fb := e; have := hb.2; omega) (fun b hb e => by have e : b = fb := e; have := (hvb b hb).2; omega)).mono (Nat.le_refl _) (fun b hb => hb.1)
      have hrB : Reads wB (fun x => fb < x) (Lf.dt ⟨li, lk, c3 tot, c1 tot, wid tot⟩) [.int .i64 li, .int .i64 lk, .int .i64 (c3 tot), .int .i64 (c1 tot), .slice pa tot.length pc] := reads_lf.2 ⟨_, rfl, hrd.chg0 hcB⟩
      refine wpList_own rfl (.tmp 79) (.tmp 81) 97 rfl w2.heap.size 169 Tryz.underlying97 infoLeafRef rfl (by decide) rfl hoB rfl [Lf.dt ⟨li, lk, c3 tot, c1 tot, wid tot⟩] _ rfl (ReadsC.single rfl (hrB.mono ?_)) hbn.news (fun e => by cases e) ?_ ?_ ?_ ?_
      ·intro b hb
       have hb : fb < b := hb
       exact ⟨by omega, fun e => by have := (hvb b e).2; omega⟩
      ·rw [hlm]; unfold maxLen; omega
      ·rw [hlm]; omega
      ·have := hcXr.size; omega
      intro ao4 cap4 wC hoC hcC hatC
      rw [hlm] at hoC ⊢
      have hcWr : Chg NoB w wB := hcW.trans hcXr (fun x e => .inr (by have e : x = fb := e; omega))
      have hcW2r : Chg NoB w2 wB := hcW2.trans hcXr (fun x e => .inr (by have e : x = fb := e; omega))
      have hcWC : Chg NoB w wC := hcWr.trans hcC (fun x e => .inr (by have := (hvb x e).1; omega))
      have hcW2C : Chg NoB w2 wC := hcW2r.trans hcC (fun x e => .inr (by have := (hvb x e).1; omega))
      go_wp2_with fail
      refine ⟨⟨j + 1, ao4, cap4, by omega, by omega, by go_num, ?_, ⟨hcWC, hcW2C⟩, ?_⟩, by simp [intOf]; omega⟩
      ·rw [Hstep.out, List.length_append]; rfl
      ·rw [Hstep.out, List.map_append]
       exact hoC
  ·have hjl : j = W.length := by omega
   subst hjl
   have hjL : ¬ ((W.length : Nat) : Int) < (W.length : Int) := by omega
   go_wp2_with fail
   go_ret
   refine ⟨ao2, ac, by rw [List.length_map]; rfl, ?_, hcr⟩
   rw [List.length_map]
   exact ho.reads (fun b hb => .inr (by have hb : w2.heap.size ≤ b := hb; omega)) (fun b hb _ => .inr (by omega)) (by rw [List.length_map]; unfold maxLen; omega)
end Go.Proofs.YtkchmgjmecojcaaGreatDoor
