/-
  evolve.Move: a right datum moved from one node to another; new memory; nothing else has changed.
-/
import Derived.Test.YtgcmfpcgmkkobaaGreatDoorFresh
set_option linter.unusedVariables false
set_option maxHeartbeats 20000000
set_option maxRecDepth 100000
set_option linter.unusedSimpArgs false
namespace Go.Proofs.YtgcmfpcgmkkobaaGreatDoor
open Go.RowKit
theorem move1_any (n : Nd) (id : Int) (c : Nat) (w : World) (S : Nat → Prop) (cs : List Value) (hr : Reads w S n.dt cs) (hc0 : w.cell? ⟨c, 0, none⟩ = some (.int .i64 id)) :
  Calls Tryz.prog 73 #[.agg cs.toArray, .pointer (some ⟨c, 0, none⟩)] w (RetV (.bool (decide (n.id = id))) w) := by
 obtain ⟨i, nm, r, k, s⟩ := n
 obtain ⟨sv, rfl, hs⟩ := reads_nd.1 hr
 have hlt := lt_of_cell hc0
 show Calls _ _ _ _ (RetV (.bool (decide (i = id))) w)
 by_cases h : i = id
 ·subst h
  go_enter Tryz.func73, Tryz.ntmps73
  go_wp2_with fail
  go_ret
  exact ⟨by simp, (Chg.refl _ _).alloc _⟩
 ·have hb : (i == id) = false := by simpa using h
  go_enter Tryz.func73, Tryz.ntmps73
  go_wp2_with fail
  go_ret
  exact ⟨by simp [h], (Chg.refl _ _).alloc _⟩
def IdxAt (l : List Nd) (id k : Int) : Prop :=
 (k = -1 ∧ ∀ a ∈ l, a.id ≠ id) ∨ ∃ (j : Nat) (a : Nd), k = (j : Int) ∧ l[j]? = some a ∧ a.id = id ∧ ∀ (i : Nat) (a' : Nd), i < j → l[i]? = some a' → a'.id ≠ id
def RetIdx (l : List Nd) (id : Int) (w : World) (e : Ending) (w' : World) : Prop := ∃ k, e = .returned (.int .i64 k) ∧ IdxAt l id k ∧ Chg NoB w w'
def IdxRel (l : List Nd) (id : Int) (w : World) (vi : Value) (wr : World) : Prop := ∃ j : Nat, j ≤ l.length ∧ vi = .int .i64 (j : Nat) ∧ Chg NoB w wr ∧ ∀ (i : Nat) (a' : Nd), i < j → l[i]? = some a' → a'.id ≠ id
theorem indexN_any (l : List Nd) (id : Int) (c : Nat) (w : World) (S : Nat → Prop) (v : Value) (hr : Reads w S (.list 5 (Nd.dts l)) [v]) (hc0 : w.cell? ⟨c, 0, none⟩ = some (.int .i64 id)) :
  Calls Tryz.prog 57 #[v, .func (.func 73) #[] #[.pointer (some ⟨c, 0, none⟩)]] w (RetIdx l id w) := by
 obtain ⟨a, cap, rfl, hlen, hcap, hel⟩ := reads_subs hr
 unfold maxLen at hcap
 have he := enters_of Tryz.func73 (P := Tryz.prog) (by kernel_rfl) rfl
 go_enter Tryz.func57, Tryz.ntmps57
 go_wp2_with fail
 go_loopw [8] (fun vi wr => IdxRel l id w vi wr) (fun vi _ => l.length - (intOf vi).toNat)
 case atStart => exact ⟨0, Nat.zero_le _, rfl, Chg.refl _ _, fun i a' h => absurd h (by omega)⟩
 case round =>
  obtain ⟨j, hj, rfl, hc, hno⟩ := hrel
  have Hno := Lib.hid hno
  clear hno
  by_cases hlt : j < l.length
  ·have hltI : (j : Int) < (l.length : Int) := by omega
   obtain ⟨b, off, rfl, hSb, hbw, hE⟩ := hel (by omega)
   obtain ⟨ecs, hl5, hcells, hre⟩ := hE.get j l[j].dt (by simp [hlt])
   have Hat := Lib.hid (List.getElem?_eq_getElem hlt)
   generalize l[j] = nj at hre Hat
   obtain ⟨i1, n1, r1, k1, s1⟩ := nj
   obtain ⟨v1, rfl, hs1⟩ := reads_nd.1 hre
   have ef : ∀ t c, [Value.int .i64 i1, .string n1, .int .i64 r1, .int .i64 k1, v1][t]? = some c → wr.cell? ⟨b, off + j * 5 + t, none⟩ = some c := fun t c ht => (hc.cell (p := ⟨b, off + j * 5 + t, none⟩) hbw (fun e => e)).trans (hcells t c ht)
   have e0 : wr.cell? ⟨b, off + j * 5, none⟩ = some (.int .i64 i1) := ef 0 _ rfl
   have e1 : wr.cell? ⟨b, off + j * 5 + 1, none⟩ = some (.string n1) := ef 1 _ rfl
   have e2 : wr.cell? ⟨b, off + j * 5 + 2, none⟩ = some (.int .i64 r1) := ef 2 _ rfl
   have e3 : wr.cell? ⟨b, off + j * 5 + 3, none⟩ = some (.int .i64 k1) := ef 3 _ rfl
   have e4 : wr.cell? ⟨b, off + j * 5 + 4, none⟩ = some v1 := ef 4 _ rfl
   clear ef
   go_wp2_with fail
   refine (move1_any (.mk i1 n1 r1 k1 s1) id c wr S _ (hre.chg0 hc) ((hc.cell (lt_of_cell hc0) nbE).trans hc0)).mono ?_
   rintro en w2 ⟨rfl, hc2⟩
   by_cases hid : i1 = id
   ·rw [show decide ((Nd.mk i1 n1 r1 k1 s1).id = id) = true from decide_eq_true hid]
    have Hid := Lib.hid hid
    clear hid
    go_wp2_with fail
    go_ret
    exact ⟨_, rfl, .inr ⟨j, _, rfl, Hat.out, Hid.out, Hno.out⟩, hc.tr hc2⟩
   ·rw [show decide ((Nd.mk i1 n1 r1 k1 s1).id = id) = false from decide_eq_false hid]
    have Hid := Lib.hid hid
    clear hid
    go_wp2_with fail
    go_roundw
    case rel =>
     refine ⟨j + 1, hlt, by go_num, hc.tr hc2, fun i a' hi ha => ?_⟩
     by_cases hij : i = j
     ·subst hij
      obtain rfl := Option.some.inj (Hat.out.symm.trans ha)
      exact Hid.out
     ·exact Hno.out i a' (by omega) ha
    case measure => simp [intOf]; omega
  ·have hjl : j = l.length := by omega
   subst hjl
   have hltI : ¬ ((l.length : Int) < (l.length : Int)) := by omega
   go_wp2_with fail
   go_ret
   refine ⟨_, rfl, .inl ⟨rfl, fun a' ha => ?_⟩, hc⟩
   obtain ⟨i, hi⟩ := List.mem_iff_getElem?.1 ha
   exact Hno.out i a' (List.getElem?_eq_some_iff.1 hi).1 hi
def MvRel (w : World) (ca cb cd : List Value) (gc : Value → List Value) (done : Nat → List Dm) (N : Nat) (vi : Value) (wr : World) : Prop :=
 ∃ j v, j ≤ N ∧ vi = .int .i64 (j : Nat) ∧ Chg NoB w wr ∧ Blk wr w.heap.size ca 28 ∧ Blk wr (w.heap.size + 1) cb 28 ∧ Blk wr (w.heap.size + 2) cd 43 ∧
  Blk wr (w.heap.size + 3) (dmCells false 0 0 ⟨#[]⟩ (.slice none 0 0) (.slice none 0 0)) 43 ∧ Blk wr (w.heap.size + 4) (gc v) 43 ∧
  Own wr (w.heap.size + 5) 43 6 (fun b => w.heap.size + 5 ≤ b) v (Dm.dts (done j))
theorem move_any : ∀ (m : Nat) (d : Dm) (a b : Nd) (one : Bool) (w : World) (Sa Sb Sd : Nat → Prop) (ca cb cd : List Value), d.weigh ≤ m → Reads w Sa a.dt ca → Reads w Sb b.dt cb → Reads w Sd d.dt cd → FitN a → FitN b → rightF d a one = none →
  Calls Tryz.prog 36 #[.agg ca.toArray, .agg cb.toArray, .agg cd.toArray, .bool one] w (RetNew (moveF d a b one).dt w) := by
 intro m
 induction m with
 | zero => intro d a b one w Sa Sb Sd ca cb cd hm; cases d; simp [Dm.weigh] at hm
 | succ m ih =>
  intro d a b one w Sa Sb Sd ca cb cd hm hra hrb hrd hfa hfb hright
  obtain ⟨no, k, v, s, l, f⟩ := d
  simp only [Dm.weigh] at hm
  cases no with
  | true =>
   obtain ⟨i, nm, rp, kd, sa⟩ := a
   obtain ⟨i', nm', rp', kd', sb⟩ := b
   obtain ⟨va, rfl, hsa⟩ := reads_nd.1 hra
   obtain ⟨vb, rfl, hsb⟩ := reads_nd.1 hrb
   obtain ⟨vl, vf, rfl, hsl, hsf⟩ := reads_dm.1 hrd
   obtain ⟨aa, ac, rfl, hal, hac, hea⟩ := reads_subs hsa
   obtain ⟨ba, bc, rfl, hbl, hbc, heb⟩ := reads_subs hsb
   obtain ⟨al, cl, rfl, hll, hlc, hel⟩ := reads_data hsl
   obtain ⟨af, cf, rfl, hfl, hfc, hef⟩ := reads_data hsf
   have Hsa := Lib.hid hsa
   clear hsa hsb hsl hsf hra hrb hrd
   unfold maxLen at hac hbc hlc hfc
   rw [show moveF (.mk true k v s l f) (.mk i nm rp kd sa) (.mk i' nm' rp' kd' sb) one = .mk true 0 0 ⟨#[]⟩ [] [] from by simp [moveF]]
   go_enter Tryz.func36, Tryz.ntmps36
   go_wp2_with fail
   generalize hw1 : World.alloc _ _ = w1
   have hc1 : Chg NoB w w1 := by
    rw [← hw1]
    repeat (first | exact Chg.refl _ _ | apply Chg.alloc | apply Chg.drew)
   have hbE : Blk w1 (w.heap.size + 3) (dmCells true 0 0 ⟨#[]⟩ (.slice none 0 0) (.slice none 0 0)) 43 := by
    rw [← hw1]
    repeat (first | exact Blk.newAt (by first | rfl | (simp; done) | (simp; omega)) | apply Blk.alloc | apply Blk.drew)
   clear hw1
   have n0 : w1.cell? ⟨w.heap.size + 3, 0, none⟩ = some (.bool true) := hbE.cell 0
   have n1 : w1.cell? ⟨w.heap.size + 3, 1, none⟩ = some (.int .i64 (0)) := hbE.cell 1
   have n2 : w1.cell? ⟨w.heap.size + 3, 2, none⟩ = some (.int .i64 (0)) := hbE.cell 2
   have n3 : w1.cell? ⟨w.heap.size + 3, 3, none⟩ = some (.string ⟨#[]⟩) := hbE.cell 3
   have n4 : w1.cell? ⟨w.heap.size + 3, 4, none⟩ = some (.slice none 0 0) := hbE.cell 4
   have n5 : w1.cell? ⟨w.heap.size + 3, 5, none⟩ = some (.slice none 0 0) := hbE.cell 5
   refine bodyPost_ret (v := .agg #[.bool true, .int .i64 (0), .int .i64 (0), .string ⟨#[]⟩, .slice none 0 0, .slice none 0 0]) (by simp [results, Tryz.results36, go_sem, n0, n1, n2, n3, n4, n5]) rfl ?_
   exact ⟨_, rfl, reads_dm.2 ⟨_, _, rfl, nil_data _ _, nil_data _ _⟩, hc1⟩
  | false =>
  by_cases hL : a.rep = 3 ∧ one = false
  ·obtain ⟨h3, rfl⟩ := hL
   obtain ⟨hl40, hrl⟩ := right_list hright rfl h3 rfl
   have hrl' := rightL_none.1 hrl
   have HI := Lib.hid (show ∀ x ∈ l, ∀ (w : World) (Sa Sb Sd : Nat → Prop) (ca cb cd : List Value), Reads w Sa a.dt ca → Reads w Sb b.dt cb → Reads w Sd x.dt cd → Calls Tryz.prog 36 #[.agg ca.toArray, .agg cb.toArray, .agg cd.toArray, .bool true] w (RetNew (moveF x a b true).dt w) from
    fun x hx w Sa Sb Sd ca cb cd h1 h2 h3 => ih x a b true w Sa Sb Sd ca cb cd (by have := Dm.weigh_mem hx; omega) h1 h2 h3 hfa hfb (hrl' x hx))
   clear ih hm hright hrl hrl'
   have Hra := Lib.hid hra
   have Hrb := Lib.hid hrb
   obtain ⟨i, nm, rp, kd, sa⟩ := a
   obtain ⟨i', nm', rp', kd', sb⟩ := b
   have h3 : rp = 3 := h3
   subst h3
   obtain ⟨va, rfl, hsa⟩ := reads_nd.1 hra
   obtain ⟨vb, rfl, hsb⟩ := reads_nd.1 hrb
   obtain ⟨vl, vf, rfl, hsl, hsf⟩ := reads_dm.1 hrd
   obtain ⟨aa, ac, rfl, hal, hac, hea⟩ := reads_subs hsa
   obtain ⟨ba, bc, rfl, hbl, hbc, heb⟩ := reads_subs hsb
   obtain ⟨al, cl, rfl, hll, hlc, hel⟩ := reads_data hsl
   obtain ⟨af, cf, rfl, hfl, hfc, hef⟩ := reads_data hsf
   have Hsa := Lib.hid hsa
   clear hsa hsb hsl hsf hra hrb hrd
   unfold maxLen at hac hbc hlc hfc
   rw [show moveF (.mk false k v s l f) (.mk i nm 3 kd sa) (.mk i' nm' rp' kd' sb) false = .mk false 0 0 ⟨#[]⟩ (l.map fun x => moveF x (.mk i nm 3 kd sa) (.mk i' nm' rp' kd' sb) true) [] from by simp [moveF, Nd.rep, moveL_eq]]
   go_enter Tryz.func36, Tryz.ntmps36
   go_wp2_with fail
   go_loopw [31] (fun vi wr => MvRel w (ndCells i nm 3 kd (.slice aa sa.length ac)) (ndCells i' nm' rp' kd' (.slice ba sb.length bc)) (dmCells false k v s (.slice al l.length cl) (.slice af f.length cf)) (fun v => dmCells false 0 0 ⟨#[]⟩ v (.slice none 0 0)) (fun j => (l.take j).map fun x => moveF x (.mk i nm 3 kd sa) (.mk i' nm' rp' kd' sb) true) l.length vi wr) (fun vi _ => l.length - (intOf vi).toNat)
   case atStart =>
    refine ⟨0, _, Nat.zero_le _, rfl, ?_, ?_, ?_, ?_, ?_, ?_, by simpa [Dm.dts] using Own.nil _ _ _ _ _⟩
    ·repeat (first | exact Chg.refl _ _ | apply Chg.alloc)
    ·repeat (first | exact Blk.newAt (by first | rfl | (simp; done) | (simp; omega)) | apply Blk.alloc)
    ·repeat (first | exact Blk.newAt (by first | rfl | (simp; done) | (simp; omega)) | apply Blk.alloc)
    ·repeat (first | exact Blk.newAt (by first | rfl | (simp; done) | (simp; omega)) | apply Blk.alloc)
    ·repeat (first | exact Blk.newAt (by first | rfl | (simp; done) | (simp; omega)) | apply Blk.alloc)
    ·repeat (first | exact Blk.newAt (by first | rfl | (simp; done) | (simp; omega)) | apply Blk.alloc)
   case round =>
    obtain ⟨j, v0, hj, rfl, hc, hb0, hb1, hb2, hb3, hb4, ho⟩ := hrel
    dsimp only at hb4 ho
    have hsz : w.heap.size + 5 ≤ wr.heap.size := hb4.lt
    have hobr := ho.block
    have hfarAll : ∀ x, (x < w.heap.size + 5 ∨ wr.heap.size ≤ x) → ¬ (v0.ownBlock = some x) := fun x hx e => by
     have h1 := (hobr _ e).1
     have h2 := (hobr _ e).2
     omega
    by_cases hlt : j < l.length
    ·have hltI : (j : Int) < (l.length : Int) := by omega
     obtain ⟨b', off, rfl, hSb, hbw, hE⟩ := hel (by omega)
     obtain ⟨ecs, hl6, hcells, hre⟩ := hE.get j l[j].dt (by simp [hlt])
     have Hc1 := Lib.hid (HI.out _ (List.getElem_mem hlt))
     have Htake := Lib.hid (show ((l.take (j + 1)).map fun x => moveF x (.mk i nm 3 kd sa) (.mk i' nm' rp' kd' sb) true) = ((l.take j).map fun x => moveF x (.mk i nm 3 kd sa) (.mk i' nm' rp' kd' sb) true) ++ [moveF l[j] (.mk i nm 3 kd sa) (.mk i' nm' rp' kd' sb) true] by rw [List.take_succ_eq_append_getElem hlt, List.map_append]; rfl)
     generalize l[j] = dj at hre Hc1 Htake
     obtain ⟨x1, k1, n1, s1, l1, f1⟩ := dj
     obtain ⟨vl1, vf1, rfl, hx8, hx9⟩ := reads_dm.1 hre
     obtain ⟨al1, cl1, rfl, _, _, _⟩ := reads_data hx8
     obtain ⟨af1, cf1, rfl, _, _, _⟩ := reads_data hx9
     clear hx8 hx9
     have ef : ∀ t c, [Value.bool x1, .int .i64 k1, .int .i64 n1, .string s1, (.slice al1 l1.length cl1), (.slice af1 f1.length cf1)][t]? = some c → wr.cell? ⟨b', off + j * 6 + t, none⟩ = some c := fun t c ht => (hc.cell (p := ⟨b', off + j * 6 + t, none⟩) hbw (fun e => e)).trans (hcells t c ht)
     have e0 : wr.cell? ⟨b', off + j * 6, none⟩ = some (.bool x1) := ef 0 _ rfl
     have e1 : wr.cell? ⟨b', off + j * 6 + 1, none⟩ = some (.int .i64 k1) := ef 1 _ rfl
     have e2 : wr.cell? ⟨b', off + j * 6 + 2, none⟩ = some (.int .i64 n1) := ef 2 _ rfl
     have e3 : wr.cell? ⟨b', off + j * 6 + 3, none⟩ = some (.string s1) := ef 3 _ rfl
     have e4 : wr.cell? ⟨b', off + j * 6 + 4, none⟩ = some (.slice al1 l1.length cl1) := ef 4 _ rfl
     have e5 : wr.cell? ⟨b', off + j * 6 + 5, none⟩ = some (.slice af1 f1.length cf1) := ef 5 _ rfl
     clear ef
     go_wp2_with fail
     generalize hw2 : World.alloc wr _ = wz
     have hc2 : Chg NoB wr wz := by
      rw [← hw2]
      repeat (first | exact Chg.refl _ _ | apply Chg.alloc | apply Chg.drew)
     have hn2 : Blk wz (wr.heap.size) (dmCells x1 k1 n1 s1 (.slice al1 l1.length cl1) (.slice af1 f1.length cf1)) 43 := by
      rw [← hw2]
      repeat (first | exact Blk.newAt (by first | rfl | (simp; done) | (simp; omega)) | apply Blk.alloc | apply Blk.drew)
     clear hw2 e0 e1 e2 e3 e4 e5
     replace hb0 := hb0.keep hc2 nbE
     replace hb1 := hb1.keep hc2 nbE
     replace hb2 := hb2.keep hc2 nbE
     replace hb3 := hb3.keep hc2 nbE
     replace hb4 := hb4.keep hc2 nbE
     have hcz := hc.tr hc2
     replace ho := ho.keep hc2 (fun _ _ e => nbE e) (fun _ _ e => nbE e)
     have hszz := hc2.size
     have p0 : wz.cell? ⟨w.heap.size, 0, none⟩ = some (.int .i64 (i)) := hb0.cell 0
     have p1 : wz.cell? ⟨w.heap.size, 1, none⟩ = some (.string nm) := hb0.cell 1
     have p2 : wz.cell? ⟨w.heap.size, 2, none⟩ = some (.int .i64 (3)) := hb0.cell 2
     have p3 : wz.cell? ⟨w.heap.size, 3, none⟩ = some (.int .i64 (kd)) := hb0.cell 3
     have p4 : wz.cell? ⟨w.heap.size, 4, none⟩ = some (.slice aa sa.length ac) := hb0.cell 4
     have q0 : wz.cell? ⟨w.heap.size + 1, 0, none⟩ = some (.int .i64 (i')) := hb1.cell 0
     have q1 : wz.cell? ⟨w.heap.size + 1, 1, none⟩ = some (.string nm') := hb1.cell 1
     have q2 : wz.cell? ⟨w.heap.size + 1, 2, none⟩ = some (.int .i64 (rp')) := hb1.cell 2
     have q3 : wz.cell? ⟨w.heap.size + 1, 3, none⟩ = some (.int .i64 (kd')) := hb1.cell 3
     have q4 : wz.cell? ⟨w.heap.size + 1, 4, none⟩ = some (.slice ba sb.length bc) := hb1.cell 4
     have y0 : wz.cell? ⟨wr.heap.size, 0, none⟩ = some (.bool x1) := hn2.cell 0
     have y1 : wz.cell? ⟨wr.heap.size, 1, none⟩ = some (.int .i64 (k1)) := hn2.cell 1
     have y2 : wz.cell? ⟨wr.heap.size, 2, none⟩ = some (.int .i64 (n1)) := hn2.cell 2
     have y3 : wz.cell? ⟨wr.heap.size, 3, none⟩ = some (.string s1) := hn2.cell 3
     have y4 : wz.cell? ⟨wr.heap.size, 4, none⟩ = some (.slice al1 l1.length cl1) := hn2.cell 4
     have y5 : wz.cell? ⟨wr.heap.size, 5, none⟩ = some (.slice af1 f1.length cf1) := hn2.cell 5
     have g4 : wz.cell? ⟨w.heap.size + 4, 4, none⟩ = some v0 := hb4.cell 4
     refine wp_region_n (fun w' => w'.cell? ⟨w.heap.size, 0, none⟩ = some (.int .i64 i) ∧ w'.cell? ⟨w.heap.size, 1, none⟩ = some (.string nm) ∧ w'.cell? ⟨w.heap.size, 2, none⟩ = some (.int .i64 3) ∧ w'.cell? ⟨w.heap.size, 3, none⟩ = some (.int .i64 kd) ∧ w'.cell? ⟨w.heap.size, 4, none⟩ = some (.slice aa sa.length ac) ∧ w'.cell? ⟨w.heap.size + 1, 0, none⟩ = some (.int .i64 i') ∧ w'.cell? ⟨w.heap.size + 1, 1, none⟩ = some (.string nm') ∧ w'.cell? ⟨w.heap.size + 1, 2, none⟩ = some (.int .i64 rp') ∧ w'.cell? ⟨w.heap.size + 1, 3, none⟩ = some (.int .i64 kd') ∧ w'.cell? ⟨w.heap.size + 1, 4, none⟩ = some (.slice ba sb.length bc) ∧ w'.cell? ⟨wr.heap.size, 0, none⟩ = some (.bool x1) ∧ w'.cell? ⟨wr.heap.size, 1, none⟩ = some (.int .i64 k1) ∧ w'.cell? ⟨wr.heap.size, 2, none⟩ = some (.int .i64 n1) ∧ w'.cell? ⟨wr.heap.size, 3, none⟩ = some (.string s1) ∧ w'.cell? ⟨wr.heap.size, 4, none⟩ = some (.slice al1 l1.length cl1) ∧ w'.cell? ⟨wr.heap.size, 5, none⟩ = some (.slice af1 f1.length cf1) ∧ w'.cell? ⟨w.heap.size + 4, 4, none⟩ = some v0) [9] (by kernel_rfl) ?_ (fun hSh => ?_)
     ·exact ⟨p0, p1, p2, p3, p4, q0, q1, q2, q3, q4, y0, y1, y2, y3, y4, y5, g4⟩
     refine n_from 0 ?_
     intro htk
     iterate 5
      refine n_tB (v := ?_) htk rfl (Or.inl ⟨by rfl, ?_⟩) ?_
      rotate_left 1
      ·(intro w' hSw; (try dsimp only at hSw); go_simp; try with_reducible rfl)
      clear htk
      intro htk
      simp only [Nat.reduceAdd] at htk
      simp only [Act.put, qA, qB, qC, qD, qE, qF]
     clear htk
     refine n_step 5 rfl (by kernel_rfl) ?_
     go_wp2_with fail
     refine (Hc1.out wz.drew Sa Sb Sd _ _ _ (Hra.out.chg0 hcz.drew) (Hrb.out.chg0 hcz.drew) (hre.chg0 hcz.drew)).mono ?_
     rintro en wA ⟨ecs, rfl, hrA, hcA⟩
     replace hcA := hcA.ofDrew
     generalize hX : moveF (.mk x1 k1 n1 s1 l1 f1) (.mk i nm 3 kd sa) (.mk i' nm' rp' kd' sb) true = dx at hrA
     have HX := Lib.hid hX
     clear hX
     obtain ⟨b9, k9, m9, s9, l9, f9⟩ := dx
     obtain ⟨vl9, vf9, rfl, hs8, hs9⟩ := reads_dm.1 hrA
     obtain ⟨a8, c8, rfl, _, _, _⟩ := reads_data hs8
     obtain ⟨a9, c9, rfl, _, _, _⟩ := reads_data hs9
     clear hs8 hs9
     go_wp2_with fail
     refine ⟨fun _ => ?_, fun hSk => ?_⟩
     ·(repeat' refine And.intro ?_ ?_) <;> exact (hcA.cell (lt_of_cell (by assumption)) nbE).trans (by assumption)
     replace hSk := hSk (by rfl)
     refine n_step 6 rfl (by kernel_rfl) ?_
     go_wp2_with fail
     generalize hwB : World.alloc wA _ = wB
     have hcB : Chg NoB wA wB := by
      rw [← hwB]
      repeat (first | exact Chg.refl _ _ | apply Chg.alloc | apply Chg.drew)
     have hbn : Blk wB (wA.heap.size) ([.bool b9, .int .i64 k9, .int .i64 m9, .string s9, .slice a8 l9.length c8, .slice a9 f9.length c9]) 43 := by
      rw [← hwB]
      repeat (first | exact Blk.newAt (by first | rfl | (simp; done) | (simp; omega)) | apply Blk.alloc | apply Blk.drew)
     clear hwB
     have hczB := hcA.tr hcB
     have hrB := hrA.chg0 hcB
     have hoB := ho.keep hczB (fun _ _ e => nbE e) (fun _ _ e => nbE e)
     refine ⟨fun _ => ?_, fun hSk => ?_⟩
     ·(repeat' refine And.intro ?_ ?_) <;> exact (hczB.cell (lt_of_cell (by assumption)) nbE).trans (by assumption)
     replace hSk := hSk (by rfl)
     refine n_step 7 rfl (by kernel_rfl) ?_
     have hlA : (Dm.dts ((l.take j).map fun x => moveF x (.mk i nm 3 kd sa) (.mk i' nm' rp' kd' sb) true)).length = j := by rw [Dm.dts_eq, List.length_map, List.length_map, List.length_take]; omega
     refine wpList_own rfl (.tmp 36) (.tmp 41) 41 rfl (w.heap.size + 5) 43 Tryz.underlying41 infoDatum rfl (by decide) rfl hoB rfl [Dm.dt (.mk b9 k9 m9 s9 l9 f9)] _ rfl (ReadsC.single rfl (hrB.mono ?_)) hbn.news (fun e => by cases e) ?_ ?_ ?_ ?_
     ·intro b hb
      have hb : wz.heap.size ≤ b := hb
      exact ⟨by omega, hfarAll b (.inr (by omega))⟩
     ·rw [hlA]; unfold maxLen; omega
     ·rw [hlA]; omega
     ·have := hczB.size; omega
     intro ao5 cap5 wC hoC hcC hatC
     rw [hlA] at hoC ⊢
     have hcC0 : Chg NoB w wC := (hcz.tr hczB).trans hcC (fun b e => .inr (by have := (hobr b e).1; omega))
     have hbC0 := (hb0.keep hczB nbE).keep hcC (hfarAll _ (.inl (by omega)))
     have hbC1 := (hb1.keep hczB nbE).keep hcC (hfarAll _ (.inl (by omega)))
     have hbC2 := (hb2.keep hczB nbE).keep hcC (hfarAll _ (.inl (by omega)))
     have hbC3 := (hb3.keep hczB nbE).keep hcC (hfarAll _ (.inl (by omega)))
     have hbC4 := (hb4.keep hczB nbE).keep hcC (hfarAll _ (.inl (by omega)))
     have hczC : Chg (fun b => v0.ownBlock = some b) wz wC := (hczB.mono (fun _ _ e => nbE e)).trans hcC (fun _ e => .inl e)
     go_wp2_with fail
     refine ⟨fun _ => ?_, fun hSk => ?_⟩
     ·(repeat' refine And.intro ?_ ?_) <;> exact (hczC.cell (lt_of_cell (by assumption)) (hfarAll _ (by dsimp only; omega))).trans (by assumption)
     replace hSk := hSk (by rfl)
     refine n_tA (v := ?_) 8 rfl (Or.inl ⟨by rfl, ?_⟩) ?_
     rotate_left 1
     ·(intro w' hSw; (try dsimp only at hSw); go_simp; try with_reducible rfl)
     simp only [Act.put, qA, qB, qC, qD, qE, qF]
     refine n_step 9 rfl (by kernel_rfl) ?_
     have o5 : wC.cell? ⟨w.heap.size + 4, 4, none⟩ = some v0 := hbC4.cell 4
     have f5 : wC.frozen? ⟨w.heap.size + 4, 4, none⟩ = false := hbC4.free 4
     go_wp2_with fail
     refine ⟨fun hx => absurd hx (by decide), fun _ => ?_⟩
     refine n_done (by kernel_rfl) ?_
     go_wp2_with fail
     go_roundw
     case rel =>
      refine ⟨j + 1, _, hlt, by go_num, hcC0.setCell (.inr (by dsimp only; omega)) _, hbC0.other (by dsimp only; omega) _, hbC1.other (by dsimp only; omega) _, hbC2.other (by dsimp only; omega) _, hbC3.other (by dsimp only; omega) _, hbC4.set 4 _, ?_⟩
      show Own _ _ _ _ _ _ (Dm.dts ((l.take (j + 1)).map fun x => moveF x (.mk i nm 3 kd sa) (.mk i' nm' rp' kd' sb) true))
      rw [Htake.out, Dm.dts_append, HX.out]
      exact hoC.setCell (fun b hb => by have hb : w.heap.size + 5 ≤ b := hb; dsimp only; omega) (by dsimp only; omega) _
     case measure => simp [intOf]; omega
    ·have hjl : j = l.length := by omega
     subst hjl
     have hltI : ¬ ((l.length : Int) < (l.length : Int)) := by omega
     rw [List.take_length] at ho
     have hlm : (Dm.dts (l.map fun x => moveF x (.mk i nm 3 kd sa) (.mk i' nm' rp' kd' sb) true)).length = l.length := by rw [Dm.dts_eq, List.length_map, List.length_map]
     obtain ⟨ao, cap', hv⟩ := ho.form
     rw [hlm] at hv
     subst hv
     have c0 : wr.cell? ⟨w.heap.size + 4, 0, none⟩ = some (.bool false) := hb4.cell 0
     have c1 : wr.cell? ⟨w.heap.size + 4, 1, none⟩ = some (.int .i64 (0)) := hb4.cell 1
     have c2 : wr.cell? ⟨w.heap.size + 4, 2, none⟩ = some (.int .i64 (0)) := hb4.cell 2
     have c3 : wr.cell? ⟨w.heap.size + 4, 3, none⟩ = some (.string ⟨#[]⟩) := hb4.cell 3
     have c4 : wr.cell? ⟨w.heap.size + 4, 4, none⟩ = some (.slice ao l.length cap') := hb4.cell 4
     have c5 : wr.cell? ⟨w.heap.size + 4, 5, none⟩ = some (.slice none 0 0) := hb4.cell 5
     have d0 : wr.cell? ⟨w.heap.size + 3, 0, none⟩ = some (.bool false) := hb3.cell 0
     have d1 : wr.cell? ⟨w.heap.size + 3, 1, none⟩ = some (.int .i64 (0)) := hb3.cell 1
     have d2 : wr.cell? ⟨w.heap.size + 3, 2, none⟩ = some (.int .i64 (0)) := hb3.cell 2
     have d3 : wr.cell? ⟨w.heap.size + 3, 3, none⟩ = some (.string ⟨#[]⟩) := hb3.cell 3
     have d4 : wr.cell? ⟨w.heap.size + 3, 4, none⟩ = some (.slice none 0 0) := hb3.cell 4
     have d5 : wr.cell? ⟨w.heap.size + 3, 5, none⟩ = some (.slice none 0 0) := hb3.cell 5
     have f0 : wr.frozen? ⟨w.heap.size + 3, 0, none⟩ = false := hb3.free 0
     have f1 : wr.frozen? ⟨w.heap.size + 3, 1, none⟩ = false := hb3.free 1
     have f2 : wr.frozen? ⟨w.heap.size + 3, 2, none⟩ = false := hb3.free 2
     have f3 : wr.frozen? ⟨w.heap.size + 3, 3, none⟩ = false := hb3.free 3
     have f4 : wr.frozen? ⟨w.heap.size + 3, 4, none⟩ = false := hb3.free 4
     have f5 : wr.frozen? ⟨w.heap.size + 3, 5, none⟩ = false := hb3.free 5
     go_wp2_with fail
     have hbE := store6 hb3 (.bool false) (.int .i64 (0)) (.int .i64 (0)) (.string ⟨#[]⟩) (.slice ao l.length cap') (.slice none 0 0)
     have hsE := store6_chg wr (w.heap.size + 3) (.bool false) (.int .i64 (0)) (.int .i64 (0)) (.string ⟨#[]⟩) (.slice ao l.length cap') (.slice none 0 0)
     have hcE := hc.trans hsE (fun i e => .inr (by have e : i = w.heap.size + 3 := e; omega))
     generalize World.setCell (World.setCell (World.setCell (World.setCell (World.setCell (World.setCell wr ⟨w.heap.size + 3, 0, none⟩ (.bool false)) ⟨w.heap.size + 3, 1, none⟩ (.int .i64 (0))) ⟨w.heap.size + 3, 2, none⟩ (.int .i64 (0))) ⟨w.heap.size + 3, 3, none⟩ (.string ⟨#[]⟩)) ⟨w.heap.size + 3, 4, none⟩ (.slice ao l.length cap')) ⟨w.heap.size + 3, 5, none⟩ (.slice none 0 0) = wE at hbE hsE hcE ⊢
     have n0 : wE.cell? ⟨w.heap.size + 3, 0, none⟩ = some (.bool false) := hbE.cell 0
     have n1 : wE.cell? ⟨w.heap.size + 3, 1, none⟩ = some (.int .i64 (0)) := hbE.cell 1
     have n2 : wE.cell? ⟨w.heap.size + 3, 2, none⟩ = some (.int .i64 (0)) := hbE.cell 2
     have n3 : wE.cell? ⟨w.heap.size + 3, 3, none⟩ = some (.string ⟨#[]⟩) := hbE.cell 3
     have n4 : wE.cell? ⟨w.heap.size + 3, 4, none⟩ = some (.slice ao l.length cap') := hbE.cell 4
     have n5 : wE.cell? ⟨w.heap.size + 3, 5, none⟩ = some (.slice none 0 0) := hbE.cell 5
     refine bodyPost_ret (v := .agg #[.bool false, .int .i64 (0), .int .i64 0, .string ⟨#[]⟩, .slice ao l.length cap', .slice none 0 0]) (by simp [results, Tryz.results36, go_sem, n0, n1, n2, n3, n4, n5]) rfl ?_
     refine ⟨_, rfl, reads_dm.2 ⟨_, _, rfl, ?_, nil_data _ _⟩, hcE⟩
     have hof := ho.keep hsE (fun b hb e => by have hb : w.heap.size + 5 ≤ b := hb; have e : b = w.heap.size + 3 := e; omega) (fun b hb e => by have := (ho.block b hb).1; have e : b = w.heap.size + 3 := e; omega)
     exact hof.reads (fun b hb => by have hb : w.heap.size + 5 ≤ b := hb; show w.heap.size ≤ b; omega) (fun b hb _ => by show w.heap.size ≤ b; omega) (by rw [hlm]; unfold maxLen; omega)
  by_cases hk : a.kind = 0
  case neg =>
   clear ih hm hright
   obtain ⟨i, nm, rp, kd, sa⟩ := a
   obtain ⟨i', nm', rp', kd', sb⟩ := b
   have hkd : ¬ kd = 0 := hk
   have hkb : (kd == 0) = false := by simpa using hkd
   have hL : ¬ (rp = 3 ∧ one = false) := hL
   by_cases h3 : rp = 3
   ·subst h3
    have h1 : one = true := by cases one with | true => rfl | false => exact absurd ⟨rfl, rfl⟩ hL
    subst h1
    obtain ⟨va, rfl, hsa⟩ := reads_nd.1 hra
    obtain ⟨vb, rfl, hsb⟩ := reads_nd.1 hrb
    obtain ⟨vl, vf, rfl, hsl, hsf⟩ := reads_dm.1 hrd
    obtain ⟨aa, ac, rfl, hal, hac, hea⟩ := reads_subs hsa
    obtain ⟨ba, bc, rfl, hbl, hbc, heb⟩ := reads_subs hsb
    obtain ⟨al, cl, rfl, hll, hlc, hel⟩ := reads_data hsl
    obtain ⟨af, cf, rfl, hfl, hfc, hef⟩ := reads_data hsf
    have Hsa := Lib.hid hsa
    clear hsa hsb hsl hsf hra hrb hrd
    unfold maxLen at hac hbc hlc hfc
    rw [show moveF (.mk false k v s l f) (.mk i nm 3 kd sa) (.mk i' nm' rp' kd' sb) true = .mk false kd' v s [] [] from by simp [moveF, Nd.rep, Nd.kind, hkd]]
    go_enter Tryz.func36, Tryz.ntmps36
    go_wp2_with fail
    generalize hw1 : World.alloc _ _ = w1
    have hc1 : Chg NoB w w1 := by
     rw [← hw1]
     repeat (first | exact Chg.refl _ _ | apply Chg.alloc | apply Chg.drew)
    have hbE : Blk w1 (w.heap.size + 3) (dmCells false kd' v s (.slice none 0 0) (.slice none 0 0)) 43 := by
     rw [← hw1]
     repeat (first | exact Blk.newAt (by first | rfl | (simp; done) | (simp; omega)) | apply Blk.alloc | apply Blk.drew)
    clear hw1
    have n0 : w1.cell? ⟨w.heap.size + 3, 0, none⟩ = some (.bool false) := hbE.cell 0
    have n1 : w1.cell? ⟨w.heap.size + 3, 1, none⟩ = some (.int .i64 (kd')) := hbE.cell 1
    have n2 : w1.cell? ⟨w.heap.size + 3, 2, none⟩ = some (.int .i64 (v)) := hbE.cell 2
    have n3 : w1.cell? ⟨w.heap.size + 3, 3, none⟩ = some (.string s) := hbE.cell 3
    have n4 : w1.cell? ⟨w.heap.size + 3, 4, none⟩ = some (.slice none 0 0) := hbE.cell 4
    have n5 : w1.cell? ⟨w.heap.size + 3, 5, none⟩ = some (.slice none 0 0) := hbE.cell 5
    refine bodyPost_ret (v := .agg #[.bool false, .int .i64 (kd'), .int .i64 (v), .string s, .slice none 0 0, .slice none 0 0]) (by simp [results, Tryz.results36, go_sem, n0, n1, n2, n3, n4, n5]) rfl ?_
    exact ⟨_, rfl, reads_dm.2 ⟨_, _, rfl, nil_data _ _, nil_data _ _⟩, hc1⟩
   ·have h3b : (rp == 3) = false := by simpa using h3
    obtain ⟨va, rfl, hsa⟩ := reads_nd.1 hra
    obtain ⟨vb, rfl, hsb⟩ := reads_nd.1 hrb
    obtain ⟨vl, vf, rfl, hsl, hsf⟩ := reads_dm.1 hrd
    obtain ⟨aa, ac, rfl, hal, hac, hea⟩ := reads_subs hsa
    obtain ⟨ba, bc, rfl, hbl, hbc, heb⟩ := reads_subs hsb
    obtain ⟨al, cl, rfl, hll, hlc, hel⟩ := reads_data hsl
    obtain ⟨af, cf, rfl, hfl, hfc, hef⟩ := reads_data hsf
    have Hsa := Lib.hid hsa
    clear hsa hsb hsl hsf hra hrb hrd
    unfold maxLen at hac hbc hlc hfc
    rw [show moveF (.mk false k v s l f) (.mk i nm rp kd sa) (.mk i' nm' rp' kd' sb) one = .mk false kd' v s [] [] from by simp [moveF, Nd.rep, Nd.kind, hkd, h3]]
    go_enter Tryz.func36, Tryz.ntmps36
    go_wp2_with fail
    generalize hw1 : World.alloc _ _ = w1
    have hc1 : Chg NoB w w1 := by
     rw [← hw1]
     repeat (first | exact Chg.refl _ _ | apply Chg.alloc | apply Chg.drew)
    have hbE : Blk w1 (w.heap.size + 3) (dmCells false kd' v s (.slice none 0 0) (.slice none 0 0)) 43 := by
     rw [← hw1]
     repeat (first | exact Blk.newAt (by first | rfl | (simp; done) | (simp; omega)) | apply Blk.alloc | apply Blk.drew)
    clear hw1
    have n0 : w1.cell? ⟨w.heap.size + 3, 0, none⟩ = some (.bool false) := hbE.cell 0
    have n1 : w1.cell? ⟨w.heap.size + 3, 1, none⟩ = some (.int .i64 (kd')) := hbE.cell 1
    have n2 : w1.cell? ⟨w.heap.size + 3, 2, none⟩ = some (.int .i64 (v)) := hbE.cell 2
    have n3 : w1.cell? ⟨w.heap.size + 3, 3, none⟩ = some (.string s) := hbE.cell 3
    have n4 : w1.cell? ⟨w.heap.size + 3, 4, none⟩ = some (.slice none 0 0) := hbE.cell 4
    have n5 : w1.cell? ⟨w.heap.size + 3, 5, none⟩ = some (.slice none 0 0) := hbE.cell 5
    refine bodyPost_ret (v := .agg #[.bool false, .int .i64 (kd'), .int .i64 (v), .string s, .slice none 0 0, .slice none 0 0]) (by simp [results, Tryz.results36, go_sem, n0, n1, n2, n3, n4, n5]) rfl ?_
    exact ⟨_, rfl, reads_dm.2 ⟨_, _, rfl, nil_data _ _, nil_data _ _⟩, hc1⟩
  obtain ⟨hlen, hrp⟩ := right_group hright rfl hfa.rep hL hk
  have hrp' := (rightP_none hlen).1 hrp
  have HI := Lib.hid (show ∀ c ∈ b.sub, ∀ (i : Nat) (x : Dm) (y : Nd), f[i]? = some x → a.sub[i]? = some y → ∀ (w : World) (Sa Sb Sd : Nat → Prop) (ca cb cd : List Value), Reads w Sa y.dt ca → Reads w Sb c.dt cb → Reads w Sd x.dt cd → Calls Tryz.prog 36 #[.agg ca.toArray, .agg cb.toArray, .agg cd.toArray, .bool false] w (RetNew (moveF x y c false).dt w) from
   fun c hc i x y hx hy w Sa Sb Sd ca cb cd h1 h2 h3 => ih x y c false w Sa Sb Sd ca cb cd (by have := Dm.weigh_mem (List.mem_of_getElem? hx); omega) h1 h2 h3 (hfa.sub (List.mem_of_getElem? hy)) (hfb.sub hc) (hrp' i x y hx hy))
  have HF := Lib.hid (show ∀ c ∈ b.sub, FitN c from fun c hc => hfb.sub hc)
  have hb39 := hfb.len
  clear ih hm hright hrp hrp' hfa hfb
  obtain ⟨i, nm, rp, kd, sa⟩ := a
  obtain ⟨i', nm', rp', kd', sb⟩ := b
  have hk : kd = 0 := hk
  subst hk
  simp only [Nd.sub] at HI HF hlen hb39
  have Hflen := Lib.hid hlen
  clear hlen
  have hrep : ¬ (rp = 3 ∧ one = false) := hL
  clear hL
  obtain ⟨va, rfl, hsa⟩ := reads_nd.1 hra
  obtain ⟨vb, rfl, hsb⟩ := reads_nd.1 hrb
  obtain ⟨vl, vf, rfl, hsl, hsf⟩ := reads_dm.1 hrd
  obtain ⟨aa, ac, rfl, hal, hac, hea⟩ := reads_subs hsa
  obtain ⟨ba, bc, rfl, hbl, hbc, heb⟩ := reads_subs hsb
  obtain ⟨al, cl, rfl, hll, hlc, hel⟩ := reads_data hsl
  obtain ⟨af, cf, rfl, hfl, hfc, hef⟩ := reads_data hsf
  have Hsa := Lib.hid hsa
  clear hsa hsb hsl hsf hra hrb hrd
  unfold maxLen at hac hbc hlc hfc
  rw [show moveF (.mk false k v s l f) (.mk i nm rp 0 sa) (.mk i' nm' rp' kd' sb) one = .mk false 0 0 ⟨#[]⟩ [] (sb.map (pickF (movers f sa))) from by simp [moveF, Nd.rep, Nd.kind, Nd.sub, hrep]]
  go_enter Tryz.func36, Tryz.ntmps36
  go_upto_region 3 with fail
  go_cut [20] (fun vt wx => vt = .bool false ∧ wx = ((((w.alloc (.cells #[.int .i64 i, .string nm, .int .i64 rp, .int .i64 0, .slice aa sa.length ac] 28)).alloc (.cells #[.int .i64 i', .string nm', .int .i64 rp', .int .i64 kd', .slice ba sb.length bc] 28)).alloc (.cells #[.bool false, .int .i64 k, .int .i64 v, .string s, .slice al l.length cl, .slice af f.length cf] 43)).alloc (.cells #[.bool false, .int .i64 0, .int .i64 0, .string ⟨#[]⟩, .slice none 0 0, .slice none 0 0] 43)))
  case first =>
   by_cases h3 : rp = 3
   ·have h1 : one = true := by cases one with | true => rfl | false => exact absurd ⟨h3, rfl⟩ hrep
    subst h1
    have h3b : (rp == 3) = true := by simpa using h3
    clear h3 hrep
    go_wp2_with fail
    go_meet
    exact ⟨rfl, rfl⟩
   ·have h3b : (rp == 3) = false := by simpa using h3
    clear h3 hrep
    go_wp2_with fail
    go_meet
    exact ⟨rfl, rfl⟩
  case rest =>
  obtain ⟨rfl, hwc⟩ := hcut
  rw [hwc]
  clear hwc
  go_wp2_with fail
  go_loopw [60] (fun vi wr => MvRel w (ndCells i nm rp 0 (.slice aa sa.length ac)) (ndCells i' nm' rp' kd' (.slice ba sb.length bc)) (dmCells false k v s (.slice al l.length cl) (.slice af f.length cf)) (fun v => dmCells false 0 0 ⟨#[]⟩ (.slice none 0 0) v) (fun j => (sb.take j).map (pickF (movers f sa))) sb.length vi wr) (fun vi _ => sb.length - (intOf vi).toNat)
  case atStart =>
   refine ⟨0, _, Nat.zero_le _, rfl, ?_, ?_, ?_, ?_, ?_, ?_, by simpa [Dm.dts] using Own.nil _ _ _ _ _⟩
   ·repeat (first | exact Chg.refl _ _ | apply Chg.alloc)
   ·repeat (first | exact Blk.newAt (by first | rfl | (simp; done) | (simp; omega)) | apply Blk.alloc)
   ·repeat (first | exact Blk.newAt (by first | rfl | (simp; done) | (simp; omega)) | apply Blk.alloc)
   ·repeat (first | exact Blk.newAt (by first | rfl | (simp; done) | (simp; omega)) | apply Blk.alloc)
   ·repeat (first | exact Blk.newAt (by first | rfl | (simp; done) | (simp; omega)) | apply Blk.alloc)
   ·repeat (first | exact Blk.newAt (by first | rfl | (simp; done) | (simp; omega)) | apply Blk.alloc)
  case round =>
   obtain ⟨j, v0, hj, rfl, hc, hb0, hb1, hb2, hb3, hb4, ho⟩ := hrel
   dsimp only at hb4 ho
   have hsz : w.heap.size + 5 ≤ wr.heap.size := hb4.lt
   have hobr := ho.block
   have hfarAll : ∀ x, (x < w.heap.size + 5 ∨ wr.heap.size ≤ x) → ¬ (v0.ownBlock = some x) := fun x hx e => by
    have h1 := (hobr _ e).1
    have h2 := (hobr _ e).2
    omega
   by_cases hlt : j < sb.length
   ·have hltI : (j : Int) < (sb.length : Int) := by omega
    obtain ⟨b', off, rfl, hSb, hbw, hE⟩ := heb (by omega)
    obtain ⟨ecs, hl5, hcells, hre⟩ := hE.get j sb[j].dt (by simp [hlt])
    have hmem := List.getElem_mem hlt
    have Hc1 := Lib.hid (HI.out _ hmem)
    have Hfit := Lib.hid (HF.out _ hmem)
    have Htake := Lib.hid (show (sb.take (j + 1)).map (pickF (movers f sa)) = (sb.take j).map (pickF (movers f sa)) ++ [pickF (movers f sa) sb[j]] by rw [List.take_succ_eq_append_getElem hlt, List.map_append]; rfl)
    clear hmem
    generalize sb[j] = nj at hre Hc1 Hfit Htake
    obtain ⟨i1, n1, r1, k1, s1⟩ := nj
    obtain ⟨v1, rfl, hs1⟩ := reads_nd.1 hre
    obtain ⟨sa1, cap1, rfl, _, _, _⟩ := reads_subs hs1
    clear hs1
    have ef : ∀ t c, [Value.int .i64 i1, .string n1, .int .i64 r1, .int .i64 k1, (.slice sa1 s1.length cap1)][t]? = some c → wr.cell? ⟨b', off + j * 5 + t, none⟩ = some c := fun t c ht => (hc.cell (p := ⟨b', off + j * 5 + t, none⟩) hbw (fun e => e)).trans (hcells t c ht)
    have e0 : wr.cell? ⟨b', off + j * 5, none⟩ = some (.int .i64 i1) := ef 0 _ rfl
    have e1 : wr.cell? ⟨b', off + j * 5 + 1, none⟩ = some (.string n1) := ef 1 _ rfl
    have e2 : wr.cell? ⟨b', off + j * 5 + 2, none⟩ = some (.int .i64 r1) := ef 2 _ rfl
    have e3 : wr.cell? ⟨b', off + j * 5 + 3, none⟩ = some (.int .i64 k1) := ef 3 _ rfl
    have e4 : wr.cell? ⟨b', off + j * 5 + 4, none⟩ = some (.slice sa1 s1.length cap1) := ef 4 _ rfl
    clear ef
    have q0 : wr.cell? ⟨w.heap.size, 4, none⟩ = some (.slice aa sa.length ac) := hb0.cell 4
    have hlt0 := hb0.lt
    go_wp2_with fail
    generalize hw2 : World.alloc wr _ = wy
    have hcy : Chg NoB wr wy := by
     rw [← hw2]
     repeat (first | exact Chg.refl _ _ | apply Chg.alloc | apply Chg.drew)
    have hn0 : Blk wy (wr.heap.size) (ndCells i1 n1 r1 k1 (.slice sa1 s1.length cap1)) 28 := by
     rw [← hw2]
     repeat (first | exact Blk.newAt (by first | rfl | (simp; done) | (simp; omega)) | apply Blk.alloc | apply Blk.drew)
    clear hw2 e0 e1 e2 e3 e4
    have hcwy := hc.tr hcy
    refine (indexN_any sa i1 wr.heap.size wy Sa _ (Hsa.out.chg0 hcwy) (hn0.cell 0)).mono ?_
    rintro en wz ⟨kx, rfl, hidx, hck⟩
    have hc2 := hcy.tr hck
    have hn2 := hn0.keep hck nbE
    clear q0
    replace hb0 := hb0.keep hc2 nbE
    replace hb1 := hb1.keep hc2 nbE
    replace hb2 := hb2.keep hc2 nbE
    replace hb3 := hb3.keep hc2 nbE
    replace hb4 := hb4.keep hc2 nbE
    have hcz := hc.tr hc2
    replace ho := ho.keep hc2 (fun _ _ e => nbE e) (fun _ _ e => nbE e)
    have hszz := hc2.size
    have y0 : wz.cell? ⟨wr.heap.size, 0, none⟩ = some (.int .i64 (i1)) := hn2.cell 0
    have y1 : wz.cell? ⟨wr.heap.size, 1, none⟩ = some (.string n1) := hn2.cell 1
    have y2 : wz.cell? ⟨wr.heap.size, 2, none⟩ = some (.int .i64 (r1)) := hn2.cell 2
    have y3 : wz.cell? ⟨wr.heap.size, 3, none⟩ = some (.int .i64 (k1)) := hn2.cell 3
    have y4 : wz.cell? ⟨wr.heap.size, 4, none⟩ = some (.slice sa1 s1.length cap1) := hn2.cell 4
    have g5 : wz.cell? ⟨w.heap.size + 4, 5, none⟩ = some v0 := hb4.cell 5
    rcases hidx with ⟨rfl, hno⟩ | ⟨jj, na, rfl, hja, hid, hfirst⟩
    ·have Hpick := Lib.hid (pick_un (f := f) (b := .mk i1 n1 r1 k1 s1) hno)
     clear hno
     go_wp2_with fail
     refine wp_region_n (fun w' => w'.cell? ⟨wr.heap.size, 0, none⟩ = some (.int .i64 i1) ∧ w'.cell? ⟨wr.heap.size, 1, none⟩ = some (.string n1) ∧ w'.cell? ⟨wr.heap.size, 2, none⟩ = some (.int .i64 r1) ∧ w'.cell? ⟨wr.heap.size, 3, none⟩ = some (.int .i64 k1) ∧ w'.cell? ⟨wr.heap.size, 4, none⟩ = some (.slice sa1 s1.length cap1) ∧ w'.cell? ⟨w.heap.size + 4, 5, none⟩ = some v0) [7] (by kernel_rfl) ?_ (fun hSh => ?_)
     ·exact ⟨y0, y1, y2, y3, y4, g5⟩
     refine n_from 0 ?_
     intro htk
     iterate 3
      refine n_tB (v := ?_) htk rfl (Or.inl ⟨by rfl, ?_⟩) ?_
      rotate_left 1
      ·(intro w' hSw; (try dsimp only at hSw); go_simp; try with_reducible rfl)
      clear htk
      intro htk
      simp only [Nat.reduceAdd] at htk
      simp only [Act.put, qA, qB, qC, qD, qE, qF]
     clear htk
     refine n_step 3 rfl (by kernel_rfl) ?_
     go_wp2_with fail
     refine (fresh_any _ (.mk i1 n1 r1 k1 s1) wz.drew Sb _ (Nat.le_refl _) (hre.chg0 hcz.drew) Hfit.out.fresh).mono ?_
     rintro en wA ⟨ecs, rfl, hrA, hcA⟩
     replace hcA := hcA.ofDrew
     generalize hX : freshF (.mk i1 n1 r1 k1 s1) = dx at hrA
     have HX := Lib.hid hX
     clear hX
     obtain ⟨b9, k9, m9, s9, l9, f9⟩ := dx
     obtain ⟨vl9, vf9, rfl, hs8, hs9⟩ := reads_dm.1 hrA
     obtain ⟨a8, c8, rfl, _, _, _⟩ := reads_data hs8
     obtain ⟨a9, c9, rfl, _, _, _⟩ := reads_data hs9
     clear hs8 hs9
     go_wp2_with fail
     refine ⟨fun _ => ?_, fun hSk => ?_⟩
     ·(repeat' refine And.intro ?_ ?_) <;> exact (hcA.cell (lt_of_cell (by assumption)) nbE).trans (by assumption)
     replace hSk := hSk (by rfl)
     refine n_step 4 rfl (by kernel_rfl) ?_
     go_wp2_with fail
     generalize hwB : World.alloc wA _ = wB
     have hcB : Chg NoB wA wB := by
      rw [← hwB]
      repeat (first | exact Chg.refl _ _ | apply Chg.alloc | apply Chg.drew)
     have hbn : Blk wB (wA.heap.size) ([.bool b9, .int .i64 k9, .int .i64 m9, .string s9, .slice a8 l9.length c8, .slice a9 f9.length c9]) 43 := by
      rw [← hwB]
      repeat (first | exact Blk.newAt (by first | rfl | (simp; done) | (simp; omega)) | apply Blk.alloc | apply Blk.drew)
     clear hwB
     have hczB := hcA.tr hcB
     have hrB := hrA.chg0 hcB
     have hoB := ho.keep hczB (fun _ _ e => nbE e) (fun _ _ e => nbE e)
     refine ⟨fun _ => ?_, fun hSk => ?_⟩
     ·(repeat' refine And.intro ?_ ?_) <;> exact (hczB.cell (lt_of_cell (by assumption)) nbE).trans (by assumption)
     replace hSk := hSk (by rfl)
     refine n_step 5 rfl (by kernel_rfl) ?_
     have hlA : (Dm.dts ((sb.take j).map (pickF (movers f sa)))).length = j := by rw [Dm.dts_eq, List.length_map, List.length_map, List.length_take]; omega
     refine wpList_own rfl (.tmp 71) (.tmp 74) 41 rfl (w.heap.size + 5) 43 Tryz.underlying41 infoDatum rfl (by decide) rfl hoB rfl [Dm.dt (.mk b9 k9 m9 s9 l9 f9)] _ rfl (ReadsC.single rfl (hrB.mono ?_)) hbn.news (fun e => by cases e) ?_ ?_ ?_ ?_
     ·intro b hb
      have hb : wz.heap.size ≤ b := hb
      exact ⟨by omega, hfarAll b (.inr (by omega))⟩
     ·rw [hlA]; unfold maxLen; omega
     ·rw [hlA]; omega
     ·have := hczB.size; omega
     intro ao5 cap5 wC hoC hcC hatC
     rw [hlA] at hoC ⊢
     have hcC0 : Chg NoB w wC := (hcz.tr hczB).trans hcC (fun b e => .inr (by have := (hobr b e).1; omega))
     have hbC0 := (hb0.keep hczB nbE).keep hcC (hfarAll _ (.inl (by omega)))
     have hbC1 := (hb1.keep hczB nbE).keep hcC (hfarAll _ (.inl (by omega)))
     have hbC2 := (hb2.keep hczB nbE).keep hcC (hfarAll _ (.inl (by omega)))
     have hbC3 := (hb3.keep hczB nbE).keep hcC (hfarAll _ (.inl (by omega)))
     have hbC4 := (hb4.keep hczB nbE).keep hcC (hfarAll _ (.inl (by omega)))
     have hczC : Chg (fun b => v0.ownBlock = some b) wz wC := (hczB.mono (fun _ _ e => nbE e)).trans hcC (fun _ e => .inl e)
     go_wp2_with fail
     refine ⟨fun _ => ?_, fun hSk => ?_⟩
     ·(repeat' refine And.intro ?_ ?_) <;> exact (hczC.cell (lt_of_cell (by assumption)) (hfarAll _ (by dsimp only; omega))).trans (by assumption)
     replace hSk := hSk (by rfl)
     refine n_tA (v := ?_) 6 rfl (Or.inl ⟨by rfl, ?_⟩) ?_
     rotate_left 1
     ·(intro w' hSw; (try dsimp only at hSw); go_simp; try with_reducible rfl)
     simp only [Act.put, qA, qB, qC, qD, qE, qF]
     refine n_step 7 rfl (by kernel_rfl) ?_
     have o5 : wC.cell? ⟨w.heap.size + 4, 5, none⟩ = some v0 := hbC4.cell 5
     have f5 : wC.frozen? ⟨w.heap.size + 4, 5, none⟩ = false := hbC4.free 5
     go_wp2_with fail
     refine ⟨fun hx => absurd hx (by decide), fun _ => ?_⟩
     refine n_done (by kernel_rfl) ?_
     go_wp2_with fail
     go_roundw
     case rel =>
      refine ⟨j + 1, _, hlt, by go_num, hcC0.setCell (.inr (by dsimp only; omega)) _, hbC0.other (by dsimp only; omega) _, hbC1.other (by dsimp only; omega) _, hbC2.other (by dsimp only; omega) _, hbC3.other (by dsimp only; omega) _, hbC4.set 5 _, ?_⟩
      show Own _ _ _ _ _ _ (Dm.dts ((sb.take (j + 1)).map (pickF (movers f sa))))
      rw [Htake.out, Dm.dts_append, Hpick.out, HX.out]
      exact hoC.setCell (fun b hb => by have hb : w.heap.size + 5 ≤ b := hb; dsimp only; omega) (by dsimp only; omega) _
     case measure => simp [intOf]; omega
    ·have hjl := (List.getElem?_eq_some_iff.1 hja).1
     have hflen := Hflen.out
     have hfl' : jj < f.length := by omega
     have hd : f[jj]? = some f[jj] := List.getElem?_eq_getElem hfl'
     have Hpick := Lib.hid (pick_at (b := .mk i1 n1 r1 k1 s1) hd hja hid hfirst)
     have Hc2 := Lib.hid (Hc1.out jj _ na hd hja)
     clear hfirst hid hflen
     have hjI : ¬ ((jj : Int) < 0) := by omega
     have hjS : (jj : Int) < (sa.length : Int) := by omega
     have hjF : (jj : Int) < (f.length : Int) := by omega
     obtain ⟨b2, of2, rfl, hSb2, hbw2, hE2⟩ := hea (by omega)
     obtain ⟨gcs, hg5, hcells2, hrg⟩ := hE2.get jj na.dt (by rw [List.getElem?_map, hja]; rfl)
     obtain ⟨b3, of3, rfl, hSb3, hbw3, hE3⟩ := hef (by omega)
     obtain ⟨fcs, hf6, hcells3, hrf⟩ := hE3.get jj f[jj].dt (by rw [List.getElem?_map, hd]; rfl)
     clear hja hd
     generalize f[jj] = dj at hrf Hpick Hc2
     obtain ⟨x1, k2, n2, s2, l2, f2⟩ := dj
     obtain ⟨i3, n3, r3, k3, s3⟩ := na
     obtain ⟨vl1, vf1, rfl, hx8, hx9⟩ := reads_dm.1 hrf
     obtain ⟨al1, cl1, rfl, _, _, _⟩ := reads_data hx8
     obtain ⟨af1, cf1, rfl, _, _, _⟩ := reads_data hx9
     obtain ⟨vs3, rfl, hx7⟩ := reads_nd.1 hrg
     obtain ⟨as3, cs3, rfl, _, _, _⟩ := reads_subs hx7
     clear hx7 hx8 hx9
     have ef : ∀ t c, [Value.bool x1, .int .i64 k2, .int .i64 n2, .string s2, (.slice al1 l2.length cl1), (.slice af1 f2.length cf1)][t]? = some c → wz.cell? ⟨b3, of3 + jj * 6 + t, none⟩ = some c := fun t c ht => (hcz.cell (p := ⟨b3, of3 + jj * 6 + t, none⟩) hbw3 (fun e => e)).trans (hcells3 t c ht)
     have e0 : wz.cell? ⟨b3, of3 + jj * 6, none⟩ = some (.bool x1) := ef 0 _ rfl
     have e1 : wz.cell? ⟨b3, of3 + jj * 6 + 1, none⟩ = some (.int .i64 k2) := ef 1 _ rfl
     have e2 : wz.cell? ⟨b3, of3 + jj * 6 + 2, none⟩ = some (.int .i64 n2) := ef 2 _ rfl
     have e3 : wz.cell? ⟨b3, of3 + jj * 6 + 3, none⟩ = some (.string s2) := ef 3 _ rfl
     have e4 : wz.cell? ⟨b3, of3 + jj * 6 + 4, none⟩ = some (.slice al1 l2.length cl1) := ef 4 _ rfl
     have e5 : wz.cell? ⟨b3, of3 + jj * 6 + 5, none⟩ = some (.slice af1 f2.length cf1) := ef 5 _ rfl
     clear ef
     have uf : ∀ t c, [Value.int .i64 i3, .string n3, .int .i64 r3, .int .i64 k3, (.slice as3 s3.length cs3)][t]? = some c → wz.cell? ⟨b2, of2 + jj * 5 + t, none⟩ = some c := fun t c ht => (hcz.cell (p := ⟨b2, of2 + jj * 5 + t, none⟩) hbw2 (fun e => e)).trans (hcells2 t c ht)
     have u0 : wz.cell? ⟨b2, of2 + jj * 5, none⟩ = some (.int .i64 i3) := uf 0 _ rfl
     have u1 : wz.cell? ⟨b2, of2 + jj * 5 + 1, none⟩ = some (.string n3) := uf 1 _ rfl
     have u2 : wz.cell? ⟨b2, of2 + jj * 5 + 2, none⟩ = some (.int .i64 r3) := uf 2 _ rfl
     have u3 : wz.cell? ⟨b2, of2 + jj * 5 + 3, none⟩ = some (.int .i64 k3) := uf 3 _ rfl
     have u4 : wz.cell? ⟨b2, of2 + jj * 5 + 4, none⟩ = some (.slice as3 s3.length cs3) := uf 4 _ rfl
     clear uf
     have p4 : wz.cell? ⟨w.heap.size, 4, none⟩ = some (.slice (some ⟨b2, of2, none⟩) sa.length ac) := hb0.cell 4
     have d5 : wz.cell? ⟨w.heap.size + 2, 5, none⟩ = some (.slice (some ⟨b3, of3, none⟩) f.length cf) := hb2.cell 5
     go_wp2_with fail
     refine wp_region_n (fun w' => w'.cell? ⟨b2, of2 + jj * 5, none⟩ = some (.int .i64 i3) ∧ w'.cell? ⟨b2, of2 + jj * 5 + 1, none⟩ = some (.string n3) ∧ w'.cell? ⟨b2, of2 + jj * 5 + 2, none⟩ = some (.int .i64 r3) ∧ w'.cell? ⟨b2, of2 + jj * 5 + 3, none⟩ = some (.int .i64 k3) ∧ w'.cell? ⟨b2, of2 + jj * 5 + 4, none⟩ = some (.slice as3 s3.length cs3) ∧ w'.cell? ⟨b3, of3 + jj * 6, none⟩ = some (.bool x1) ∧ w'.cell? ⟨b3, of3 + jj * 6 + 1, none⟩ = some (.int .i64 k2) ∧ w'.cell? ⟨b3, of3 + jj * 6 + 2, none⟩ = some (.int .i64 n2) ∧ w'.cell? ⟨b3, of3 + jj * 6 + 3, none⟩ = some (.string s2) ∧ w'.cell? ⟨b3, of3 + jj * 6 + 4, none⟩ = some (.slice al1 l2.length cl1) ∧ w'.cell? ⟨b3, of3 + jj * 6 + 5, none⟩ = some (.slice af1 f2.length cf1) ∧ w'.cell? ⟨wr.heap.size, 0, none⟩ = some (.int .i64 i1) ∧ w'.cell? ⟨wr.heap.size, 1, none⟩ = some (.string n1) ∧ w'.cell? ⟨wr.heap.size, 2, none⟩ = some (.int .i64 r1) ∧ w'.cell? ⟨wr.heap.size, 3, none⟩ = some (.int .i64 k1) ∧ w'.cell? ⟨wr.heap.size, 4, none⟩ = some (.slice sa1 s1.length cap1) ∧ w'.cell? ⟨w.heap.size + 4, 5, none⟩ = some v0 ∧ w'.cell? ⟨w.heap.size, 4, none⟩ = some (.slice (some ⟨b2, of2, none⟩) sa.length ac) ∧ w'.cell? ⟨w.heap.size + 2, 5, none⟩ = some (.slice (some ⟨b3, of3, none⟩) f.length cf)) [17] (by kernel_rfl) ?_ (fun hSh => ?_)
     ·exact ⟨u0, u1, u2, u3, u4, e0, e1, e2, e3, e4, e5, y0, y1, y2, y3, y4, g5, p4, d5⟩
     refine n_from 0 ?_
     intro htk
     iterate 13
      refine n_tB (v := ?_) htk rfl (Or.inl ⟨by rfl, ?_⟩) ?_
      rotate_left 1
      ·(intro w' hSw; (try dsimp only at hSw); go_simp; try with_reducible rfl)
      clear htk
      intro htk
      simp only [Nat.reduceAdd] at htk
      simp only [Act.put, qA, qB, qC, qD, qE, qF]
     clear htk
     refine n_step 13 rfl (by kernel_rfl) ?_
     go_wp2_with fail
     refine (Hc2.out wz.drew Sa Sb Sd _ _ _ (hrg.chg0 hcz.drew) (hre.chg0 hcz.drew) (hrf.chg0 hcz.drew)).mono ?_
     rintro en wA ⟨ecs, rfl, hrA, hcA⟩
     replace hcA := hcA.ofDrew
     generalize hX : moveF (.mk x1 k2 n2 s2 l2 f2) (.mk i3 n3 r3 k3 s3) (.mk i1 n1 r1 k1 s1) false = dx at hrA
     have HX := Lib.hid hX
     clear hX
     obtain ⟨b9, k9, m9, s9, l9, f9⟩ := dx
     obtain ⟨vl9, vf9, rfl, hs8, hs9⟩ := reads_dm.1 hrA
     obtain ⟨a8, c8, rfl, _, _, _⟩ := reads_data hs8
     obtain ⟨a9, c9, rfl, _, _, _⟩ := reads_data hs9
     clear hs8 hs9
     go_wp2_with fail
     refine ⟨fun _ => ?_, fun hSk => ?_⟩
     ·(repeat' refine And.intro ?_ ?_) <;> exact (hcA.cell (lt_of_cell (by assumption)) nbE).trans (by assumption)
     replace hSk := hSk (by rfl)
     refine n_step 14 rfl (by kernel_rfl) ?_
     go_wp2_with fail
     generalize hwB : World.alloc wA _ = wB
     have hcB : Chg NoB wA wB := by
      rw [← hwB]
      repeat (first | exact Chg.refl _ _ | apply Chg.alloc | apply Chg.drew)
     have hbn : Blk wB (wA.heap.size) ([.bool b9, .int .i64 k9, .int .i64 m9, .string s9, .slice a8 l9.length c8, .slice a9 f9.length c9]) 43 := by
      rw [← hwB]
      repeat (first | exact Blk.newAt (by first | rfl | (simp; done) | (simp; omega)) | apply Blk.alloc | apply Blk.drew)
     clear hwB
     have hczB := hcA.tr hcB
     have hrB := hrA.chg0 hcB
     have hoB := ho.keep hczB (fun _ _ e => nbE e) (fun _ _ e => nbE e)
     refine ⟨fun _ => ?_, fun hSk => ?_⟩
     ·(repeat' refine And.intro ?_ ?_) <;> exact (hczB.cell (lt_of_cell (by assumption)) nbE).trans (by assumption)
     replace hSk := hSk (by rfl)
     refine n_step 15 rfl (by kernel_rfl) ?_
     have hlA : (Dm.dts ((sb.take j).map (pickF (movers f sa)))).length = j := by rw [Dm.dts_eq, List.length_map, List.length_map, List.length_take]; omega
     refine wpList_own rfl (.tmp 78) (.tmp 91) 41 rfl (w.heap.size + 5) 43 Tryz.underlying41 infoDatum rfl (by decide) rfl hoB rfl [Dm.dt (.mk b9 k9 m9 s9 l9 f9)] _ rfl (ReadsC.single rfl (hrB.mono ?_)) hbn.news (fun e => by cases e) ?_ ?_ ?_ ?_
     ·intro b hb
      have hb : wz.heap.size ≤ b := hb
      exact ⟨by omega, hfarAll b (.inr (by omega))⟩
     ·rw [hlA]; unfold maxLen; omega
     ·rw [hlA]; omega
     ·have := hczB.size; omega
     intro ao5 cap5 wC hoC hcC hatC
     rw [hlA] at hoC ⊢
     have hcC0 : Chg NoB w wC := (hcz.tr hczB).trans hcC (fun b e => .inr (by have := (hobr b e).1; omega))
     have hbC0 := (hb0.keep hczB nbE).keep hcC (hfarAll _ (.inl (by omega)))
     have hbC1 := (hb1.keep hczB nbE).keep hcC (hfarAll _ (.inl (by omega)))
     have hbC2 := (hb2.keep hczB nbE).keep hcC (hfarAll _ (.inl (by omega)))
     have hbC3 := (hb3.keep hczB nbE).keep hcC (hfarAll _ (.inl (by omega)))
     have hbC4 := (hb4.keep hczB nbE).keep hcC (hfarAll _ (.inl (by omega)))
     have hczC : Chg (fun b => v0.ownBlock = some b) wz wC := (hczB.mono (fun _ _ e => nbE e)).trans hcC (fun _ e => .inl e)
     go_wp2_with fail
     refine ⟨fun _ => ?_, fun hSk => ?_⟩
     ·(repeat' refine And.intro ?_ ?_) <;> exact (hczC.cell (lt_of_cell (by assumption)) (hfarAll _ (by dsimp only; omega))).trans (by assumption)
     replace hSk := hSk (by rfl)
     refine n_tA (v := ?_) 16 rfl (Or.inl ⟨by rfl, ?_⟩) ?_
     rotate_left 1
     ·(intro w' hSw; (try dsimp only at hSw); go_simp; try with_reducible rfl)
     simp only [Act.put, qA, qB, qC, qD, qE, qF]
     refine n_step 17 rfl (by kernel_rfl) ?_
     have o5 : wC.cell? ⟨w.heap.size + 4, 5, none⟩ = some v0 := hbC4.cell 5
     have f5 : wC.frozen? ⟨w.heap.size + 4, 5, none⟩ = false := hbC4.free 5
     go_wp2_with fail
     refine ⟨fun hx => absurd hx (by decide), fun _ => ?_⟩
     refine n_done (by kernel_rfl) ?_
     go_wp2_with fail
     go_roundw
     case rel =>
      refine ⟨j + 1, _, hlt, by go_num, hcC0.setCell (.inr (by dsimp only; omega)) _, hbC0.other (by dsimp only; omega) _, hbC1.other (by dsimp only; omega) _, hbC2.other (by dsimp only; omega) _, hbC3.other (by dsimp only; omega) _, hbC4.set 5 _, ?_⟩
      show Own _ _ _ _ _ _ (Dm.dts ((sb.take (j + 1)).map (pickF (movers f sa))))
      rw [Htake.out, Dm.dts_append, Hpick.out, HX.out]
      exact hoC.setCell (fun b hb => by have hb : w.heap.size + 5 ≤ b := hb; dsimp only; omega) (by dsimp only; omega) _
     case measure => simp [intOf]; omega
   ·have hjl : j = sb.length := by omega
    subst hjl
    have hltI : ¬ ((sb.length : Int) < (sb.length : Int)) := by omega
    rw [List.take_length] at ho
    have hlm : (Dm.dts (sb.map (pickF (movers f sa)))).length = sb.length := by rw [Dm.dts_eq, List.length_map, List.length_map]
    obtain ⟨ao, cap', hv⟩ := ho.form
    rw [hlm] at hv
    subst hv
    have c0 : wr.cell? ⟨w.heap.size + 4, 0, none⟩ = some (.bool false) := hb4.cell 0
    have c1 : wr.cell? ⟨w.heap.size + 4, 1, none⟩ = some (.int .i64 (0)) := hb4.cell 1
    have c2 : wr.cell? ⟨w.heap.size + 4, 2, none⟩ = some (.int .i64 (0)) := hb4.cell 2
    have c3 : wr.cell? ⟨w.heap.size + 4, 3, none⟩ = some (.string ⟨#[]⟩) := hb4.cell 3
    have c4 : wr.cell? ⟨w.heap.size + 4, 4, none⟩ = some (.slice none 0 0) := hb4.cell 4
    have c5 : wr.cell? ⟨w.heap.size + 4, 5, none⟩ = some (.slice ao sb.length cap') := hb4.cell 5
    have d0 : wr.cell? ⟨w.heap.size + 3, 0, none⟩ = some (.bool false) := hb3.cell 0
    have d1 : wr.cell? ⟨w.heap.size + 3, 1, none⟩ = some (.int .i64 (0)) := hb3.cell 1
    have d2 : wr.cell? ⟨w.heap.size + 3, 2, none⟩ = some (.int .i64 (0)) := hb3.cell 2
    have d3 : wr.cell? ⟨w.heap.size + 3, 3, none⟩ = some (.string ⟨#[]⟩) := hb3.cell 3
    have d4 : wr.cell? ⟨w.heap.size + 3, 4, none⟩ = some (.slice none 0 0) := hb3.cell 4
    have d5 : wr.cell? ⟨w.heap.size + 3, 5, none⟩ = some (.slice none 0 0) := hb3.cell 5
    have f0 : wr.frozen? ⟨w.heap.size + 3, 0, none⟩ = false := hb3.free 0
    have f1 : wr.frozen? ⟨w.heap.size + 3, 1, none⟩ = false := hb3.free 1
    have f2 : wr.frozen? ⟨w.heap.size + 3, 2, none⟩ = false := hb3.free 2
    have f3 : wr.frozen? ⟨w.heap.size + 3, 3, none⟩ = false := hb3.free 3
    have f4 : wr.frozen? ⟨w.heap.size + 3, 4, none⟩ = false := hb3.free 4
    have f5 : wr.frozen? ⟨w.heap.size + 3, 5, none⟩ = false := hb3.free 5
    go_wp2_with fail
    have hbE := store6 hb3 (.bool false) (.int .i64 (0)) (.int .i64 (0)) (.string ⟨#[]⟩) (.slice none 0 0) (.slice ao sb.length cap')
    have hsE := store6_chg wr (w.heap.size + 3) (.bool false) (.int .i64 (0)) (.int .i64 (0)) (.string ⟨#[]⟩) (.slice none 0 0) (.slice ao sb.length cap')
    have hcE := hc.trans hsE (fun i e => .inr (by have e : i = w.heap.size + 3 := e; omega))
    generalize World.setCell (World.setCell (World.setCell (World.setCell (World.setCell (World.setCell wr ⟨w.heap.size + 3, 0, none⟩ (.bool false)) ⟨w.heap.size + 3, 1, none⟩ (.int .i64 (0))) ⟨w.heap.size + 3, 2, none⟩ (.int .i64 (0))) ⟨w.heap.size + 3, 3, none⟩ (.string ⟨#[]⟩)) ⟨w.heap.size + 3, 4, none⟩ (.slice none 0 0)) ⟨w.heap.size + 3, 5, none⟩ (.slice ao sb.length cap') = wE at hbE hsE hcE ⊢
    have n0 : wE.cell? ⟨w.heap.size + 3, 0, none⟩ = some (.bool false) := hbE.cell 0
    have n1 : wE.cell? ⟨w.heap.size + 3, 1, none⟩ = some (.int .i64 (0)) := hbE.cell 1
    have n2 : wE.cell? ⟨w.heap.size + 3, 2, none⟩ = some (.int .i64 (0)) := hbE.cell 2
    have n3 : wE.cell? ⟨w.heap.size + 3, 3, none⟩ = some (.string ⟨#[]⟩) := hbE.cell 3
    have n4 : wE.cell? ⟨w.heap.size + 3, 4, none⟩ = some (.slice none 0 0) := hbE.cell 4
    have n5 : wE.cell? ⟨w.heap.size + 3, 5, none⟩ = some (.slice ao sb.length cap') := hbE.cell 5
    refine bodyPost_ret (v := .agg #[.bool false, .int .i64 (0), .int .i64 0, .string ⟨#[]⟩, .slice none 0 0, .slice ao sb.length cap']) (by simp [results, Tryz.results36, go_sem, n0, n1, n2, n3, n4, n5]) rfl ?_
    refine ⟨_, rfl, reads_dm.2 ⟨_, _, rfl, nil_data _ _, ?_⟩, hcE⟩
    have hof := ho.keep hsE (fun b hb e => by have hb : w.heap.size + 5 ≤ b := hb; have e : b = w.heap.size + 3 := e; omega) (fun b hb e => by have := (ho.block b hb).1; have e : b = w.heap.size + 3 := e; omega)
    exact hof.reads (fun b hb => by have hb : w.heap.size + 5 ≤ b := hb; show w.heap.size ≤ b; omega) (fun b hb _ => by show w.heap.size ≤ b; omega) (by rw [hlm]; unfold maxLen; omega)
end Go.Proofs.YtgcmfpcgmkkobaaGreatDoor
