/-
  schema.Find: the first node with an ID, of a right schema.
-/
import Derived.Test.YtfbbfhhhfbibjaaGreatDoorCopy
import Derived.Test.YtfbbfhhhfbibjaaGreatDoorValid
import Derived.Test.YtfbbfhhhfbibjaaGreatDoorRead
namespace Go.Proofs.YtfbbfhhhfbibjaaGreatDoor
open Go.RowKit

/-- What walk is handed by Find: it goes on until the ID is met, and keeps the last node. -/
def findG (id : Int) (n : Nd) (_ : Int) (_ : Nd) : Bool × Nd := (!decide (n.id = id), n)
theorem findG_hit {id i : Int} (h : i = id) (nm : ByteArray) (r k : Int) (sb : List Nd) (d : Int) (s : Nd) : findG id (.mk i nm r k sb) d s = (false, .mk i nm r k sb) := by simp [findG, Nd.id, h]
theorem findG_miss {id i : Int} (h : ¬ i = id) (nm : ByteArray) (r k : Int) (sb : List Nd) (d : Int) (s : Nd) : findG id (.mk i nm r k sb) d s = (true, .mk i nm r k sb) := by simp [findG, Nd.id, h]
def zeroNd : Nd := .mk 0 ⟨#[]⟩ 0 0 []
/-- Find: the first node with the ID. -/
def findF (nd : Nd) (id : Int) : Option Nd := match walkF (findG id) nd 0 zeroNd with
  | (true, _) => none
  | (false, n) => some n
mutual
theorem findG_ok (id : Int) : ∀ (n : Nd) (d : Int) (s : Nd), n.ok → s.ok → (walkF (findG id) n d s).2.ok
  | .mk i nm r k sb, d, s, hA, hs => by
    simp only [walkF]
    by_cases h : i = id
    · rw [findG_hit h]; exact hA
    · rw [findG_miss h]
      exact findG_okL id sb (d + 1) (.mk i nm r k sb) hA.2.2.2.2.2 hA
theorem findG_okL (id : Int) : ∀ (l : List Nd) (d : Int) (s : Nd), Nd.oks l → s.ok → (walkFs (findG id) l d s).2.ok
  | [], d, s, hA, hs => hs
  | n :: ns, d, s, hA, hs => by
    simp only [walkFs]
    have h1 := findG_ok id n d s hA.1 hs
    rcases hw : walkF (findG id) n d s with ⟨b, s'⟩
    rw [hw] at h1
    cases b
    · exact h1
    · exact findG_okL id ns d s' hA.2 h1
end
theorem zeroNd_ok : zeroNd.ok := ⟨⟨by decide, by decide⟩, by decide, ⟨by decide, by decide⟩, ⟨by decide, by decide⟩, by decide, trivial⟩

/-- ErrNone lies where the program has it. -/
structure Non (w : World) (N : Value) : Prop where
  cell : w.cell? ⟨6, 0, none⟩ = some N
  form : ∃ T v, N = .iface T v
theorem Non.keep0 {w w' : World} {N : Value} (h : Non w N) (hc : Chg NoB w w') : Non w' N :=
  ⟨(hc.cell (lt_of_cell h.cell) NoB.elim).trans h.cell, h.form⟩

/-- Two boxes: the node that was last met, and the ID. -/
structure BoxN (B c q : Nat) (id : Int) (s : Nd) (w : World) : Prop where
  nd : ∃ cs, Blk w c cs 24 ∧ Reads w (fun b => b < B) s.dt cs
  num : Blk w q [.int .i64 id] 3

set_option maxHeartbeats 400000 in
theorem sees_find (B c q : Nat) (id : Int) (hB : B ≤ c) (hq : q ≠ c) : Sees 60 #[.pointer (some ⟨c, 0, none⟩), .pointer (some ⟨q, 0, none⟩)] 26 B c (BoxN B c q id) (findG id) Low (fun _ => True) where
  enters := enters_of Tryz.func60 (by kernel_rfl) rfl
  lt := fun s w h => by obtain ⟨cs, h1, _⟩ := h.nd; exact h1.lt
  keep := fun s w w' h hc => by
    obtain ⟨cs, h1, h2⟩ := h.nd
    exact ⟨⟨cs, h1.keep hc NoB.elim, h2.chg0 hc⟩, h.num.keep hc NoB.elim⟩
  deep := fun n d h => h.deep
  down := fun n d s h _ => h.down
  go := fun n d s _ _ _ => trivial
  call := by
    intro n d s w S cs hO hG hok hr hSB hBw hSt
    obtain ⟨i, nm, r, k, sb⟩ := n
    obtain ⟨sv, rfl, hs⟩ := reads_nd.1 hr
    obtain ⟨sa, cap, rfl, hlen, hcap, hel⟩ := reads_subs hs
    obtain ⟨⟨ccs, hb, hrd⟩, hnum⟩ := hSt
    obtain ⟨i0, nm0, r0, k0, sb0⟩ := s
    obtain ⟨sv0, rfl, hs0⟩ := reads_nd.1 hrd
    obtain ⟨sa0, cap0, rfl, _, _, _⟩ := reads_subs hs0
    have cq : w.cell? ⟨q, 0, none⟩ = some (.int .i64 id) := hnum.cell 0
    have lq := hnum.lt
    have lc := hb.lt
    have x0 : w.cell? ⟨c, 0, none⟩ = some (.int .i64 (i0)) := hb.cell 0
    have x1 : w.cell? ⟨c, 1, none⟩ = some (.string nm0) := hb.cell 1
    have x2 : w.cell? ⟨c, 2, none⟩ = some (.int .i64 (r0)) := hb.cell 2
    have x3 : w.cell? ⟨c, 3, none⟩ = some (.int .i64 (k0)) := hb.cell 3
    have x4 : w.cell? ⟨c, 4, none⟩ = some (.slice sa0 sb0.length cap0) := hb.cell 4
    have f0 : w.frozen? ⟨c, 0, none⟩ = false := hb.free 0
    have f1 : w.frozen? ⟨c, 1, none⟩ = false := hb.free 1
    have f2 : w.frozen? ⟨c, 2, none⟩ = false := hb.free 2
    have f3 : w.frozen? ⟨c, 3, none⟩ = false := hb.free 3
    have f4 : w.frozen? ⟨c, 4, none⟩ = false := hb.free 4
    have HSB := Lib.hid hSB
    have Hhr := Lib.hid hr
    have Hb := Lib.hid hb
    have Hn := Lib.hid hnum
    clear hO hSB hs hlen hcap hel hrd hs0 hnum hok hr hb
    have hq' : c ≠ q := fun e => hq e.symm
    have hfin : ∀ x : Bool, RetSt (BoxN B c q id) (x, .mk i nm r k sb) 26 B c w (.returned (.bool x)) ((((((w.setCell ⟨c, 0, none⟩ (.int .i64 i)).setCell ⟨c, 1, none⟩ (.string nm)).setCell ⟨c, 2, none⟩ (.int .i64 r)).setCell ⟨c, 3, none⟩ (.int .i64 k)).setCell ⟨c, 4, none⟩ (.slice sa sb.length cap)).alloc (.cells #[.int .i64 i, .string nm, .int .i64 r, .int .i64 k, .slice sa sb.length cap] 24)) := fun x => by
      have h5 := store5_chg w c (.int .i64 i) (.string nm) (.int .i64 r) (.int .i64 k) (.slice sa sb.length cap)
      have h6 := h5.alloc (.cells #[.int .i64 i, .string nm, .int .i64 r, .int .i64 k, .slice sa sb.length cap] 24)
      refine ⟨rfl, ⟨⟨_, (store5 Hb.out (.int .i64 i) (.string nm) (.int .i64 r) (.int .i64 k) (.slice sa sb.length cap)).alloc _, ?_⟩, (store5_other Hn.out hq _ _ _ _ _).alloc _⟩, h6.mono (fun b _ e => ?_)⟩
      · exact (Hhr.out.mono HSB.out).chg h6 (fun b hb e => by have e : b = c := e; have hb : b < B := hb; omega)
      · have e : b = c := e
        subst e
        exact ⟨hB, .inl rfl⟩
    have Hfin := Lib.hid hfin
    clear hfin
    by_cases h : i = id
    · rw [findG_hit h]
      subst h
      go_enter Tryz.func60, Tryz.ntmps60
      go_wp2_with fail
      go_ret
      exact Hfin.out false
    · rw [findG_miss h]
      have hne : (i != id) = true := by simpa using h
      clear h
      go_enter Tryz.func60, Tryz.ntmps60
      go_wp2_with fail
      go_ret
      exact Hfin.out true

/-- What Find and Project hand back: a node of its own; an error of Valid's, or ErrShape; ErrNone. -/
inductive PJ where
  | ok (n : Nd) | er (e : Er) | non
def RetPJ (E : Er → Value) (N : Value) (r : PJ) (w : World) (en : Ending) (w' : World) : Prop :=
  Chg NoB w w' ∧ match r with
    | .ok n => ∃ cs, en = .returned (.tuple #[.agg cs.toArray, .nilIface]) ∧ Reads w' (fun b => w.heap.size ≤ b) n.dt cs
    | .er e => en = .returned (.tuple #[zeroNode, E e])
    | .non => en = .returned (.tuple #[zeroNode, N])
def findR (nd : Nd) (id : Int) : PJ := match validF nd with
  | some e => .er e
  | none => match findF nd id with
    | none => .non
    | some n => .ok n

theorem high_of_valid {nd : Nd} (h : validF nd = none) : nd.high ≤ 6 := by
  unfold validF at h
  split at h
  · cases h
  rename_i h1
  have := v1_high nd 1 0 (by simpa using h1)
  omega

set_option maxHeartbeats 1000000 in
theorem find_any (nd : Nd) (id : Int) (w : World) (S : Nat → Prop) (cs : List Value) (E : Er → Value) (N : Value) (hE : Errs w E) (hN : Non w N) (hok : nd.ok) (hr : Reads w S nd.dt cs) (hSB : ∀ b, S b → b < w.heap.size) :
    Calls Tryz.prog 24 #[.agg cs.toArray, .int .i64 id] w (RetPJ E N (findR nd id) w) := by
  have hok' := hok
  have hr' := hr
  obtain ⟨i, nm, r, k, sb⟩ := nd
  obtain ⟨sv, rfl, hs⟩ := reads_nd.1 hr'
  obtain ⟨sa, cap, rfl, _, _, _⟩ := reads_subs hs
  go_enter Tryz.func24, Tryz.ntmps24
  go_wp2_with fail
  generalize hw1 : ((w.alloc _).alloc _).alloc _ = w1
  have hc1 : Chg NoB w w1 := by
    rw [← hw1]
    repeat (first | exact Chg.refl _ _ | apply Chg.alloc | apply Chg.drew)
  have hb0 : Blk w1 (w.heap.size) (ndCells i nm r k (.slice sa sb.length cap)) 24 := by
    rw [← hw1]
    repeat (first | exact Blk.newAt (by first | rfl | (simp; done) | (simp; omega)) | apply Blk.alloc | apply Blk.drew)
  have hb1 : Blk w1 (w.heap.size + 1) ([.int .i64 id]) 3 := by
    rw [← hw1]
    repeat (first | exact Blk.newAt (by first | rfl | (simp; done) | (simp; omega)) | apply Blk.alloc | apply Blk.drew)
  have hb2 : Blk w1 (w.heap.size + 1 + 1) (ndCells 0 ⟨#[]⟩ 0 0 (.slice none 0 0)) 24 := by
    rw [← hw1]
    repeat (first | exact Blk.newAt (by first | rfl | (simp; done) | (simp; omega)) | apply Blk.alloc | apply Blk.drew)
  clear hw1
  have hsz1 := hc1.size
  refine (valid_any (.mk i nm r k sb) w1 S _ E (hE.keep0 hc1) hok (hr.chg0 hc1) (fun b hb => by have := hSB b hb; omega)).mono ?_
  rintro en w2 ⟨rfl, hc2⟩
  replace hb0 := hb0.keep hc2 NoB.elim
  replace hb1 := hb1.keep hc2 NoB.elim
  replace hb2 := hb2.keep hc2 NoB.elim
  replace hc2 := hc1.tr hc2
  have x0 : w2.cell? ⟨w.heap.size, 0, none⟩ = some (.int .i64 (i)) := hb0.cell 0
  have x1 : w2.cell? ⟨w.heap.size, 1, none⟩ = some (.string nm) := hb0.cell 1
  have x2 : w2.cell? ⟨w.heap.size, 2, none⟩ = some (.int .i64 (r)) := hb0.cell 2
  have x3 : w2.cell? ⟨w.heap.size, 3, none⟩ = some (.int .i64 (k)) := hb0.cell 3
  have x4 : w2.cell? ⟨w.heap.size, 4, none⟩ = some (.slice sa sb.length cap) := hb0.cell 4
  have y0 : w2.cell? ⟨w.heap.size + 1 + 1, 0, none⟩ = some (.int .i64 (0)) := hb2.cell 0
  have y1 : w2.cell? ⟨w.heap.size + 1 + 1, 1, none⟩ = some (.string ⟨#[]⟩) := hb2.cell 1
  have y2 : w2.cell? ⟨w.heap.size + 1 + 1, 2, none⟩ = some (.int .i64 (0)) := hb2.cell 2
  have y3 : w2.cell? ⟨w.heap.size + 1 + 1, 3, none⟩ = some (.int .i64 (0)) := hb2.cell 3
  have y4 : w2.cell? ⟨w.heap.size + 1 + 1, 4, none⟩ = some (.slice none 0 0) := hb2.cell 4
  have z0 : w2.frozen? ⟨w.heap.size + 1 + 1, 0, none⟩ = false := hb2.free 0
  have z1 : w2.frozen? ⟨w.heap.size + 1 + 1, 1, none⟩ = false := hb2.free 1
  have z2 : w2.frozen? ⟨w.heap.size + 1 + 1, 2, none⟩ = false := hb2.free 2
  have z3 : w2.frozen? ⟨w.heap.size + 1 + 1, 3, none⟩ = false := hb2.free 3
  have z4 : w2.frozen? ⟨w.heap.size + 1 + 1, 4, none⟩ = false := hb2.free 4
  have l0 := hb0.lt
  have l1 := hb1.lt
  have l2 := hb2.lt
  cases hv : validF (.mk i nm r k sb) with
  | some e =>
    obtain ⟨T, v, hEv⟩ := hE.form e
    have hR : findR (.mk i nm r k sb) id = .er e := by unfold findR; rw [hv]
    rw [show errVal E (some e) = .iface T v from hEv]
    have HEv := Lib.hid hEv
    have HR := Lib.hid hR
    clear hv hR hEv
    go_wp2_with fail
    have hb9 := store5 hb2 (.int .i64 0) (.string ⟨#[]⟩) (.int .i64 0) (.int .i64 0) (.slice none 0 0)
    have hc9 := hc2.trans' (store5_chg w2 (w.heap.size + 1 + 1) (.int .i64 0) (.string ⟨#[]⟩) (.int .i64 0) (.int .i64 0) (.slice none 0 0)) (fun x e => by have e : x = w.heap.size + 1 + 1 := e; omega)
    generalize World.setCell (World.setCell (World.setCell (World.setCell (World.setCell w2 ⟨w.heap.size + 1 + 1, 0, none⟩ (.int .i64 0)) ⟨w.heap.size + 1 + 1, 1, none⟩ (.string ⟨#[]⟩)) ⟨w.heap.size + 1 + 1, 2, none⟩ (.int .i64 0)) ⟨w.heap.size + 1 + 1, 3, none⟩ (.int .i64 0)) ⟨w.heap.size + 1 + 1, 4, none⟩ (.slice none 0 0) = w9 at *
    have n0 : w9.cell? ⟨w.heap.size + 1 + 1, 0, none⟩ = some (.int .i64 (0)) := hb9.cell 0
    have n1 : w9.cell? ⟨w.heap.size + 1 + 1, 1, none⟩ = some (.string ⟨#[]⟩) := hb9.cell 1
    have n2 : w9.cell? ⟨w.heap.size + 1 + 1, 2, none⟩ = some (.int .i64 (0)) := hb9.cell 2
    have n3 : w9.cell? ⟨w.heap.size + 1 + 1, 3, none⟩ = some (.int .i64 (0)) := hb9.cell 3
    have n4 : w9.cell? ⟨w.heap.size + 1 + 1, 4, none⟩ = some (.slice none 0 0) := hb9.cell 4
    refine bodyPost_ret (v := .tuple #[zeroNode, (.iface T v)]) (by simp [results, Tryz.results24, go_sem, n0, n1, n2, n3, n4, zeroNode]) rfl ?_
    rw [HR.out]
    exact ⟨hc9, congrArg (fun x => Ending.returned (.tuple #[zeroNode, x])) HEv.out.symm⟩
  | none =>
    rw [show errVal E none = .nilIface from rfl]
    have hhigh := high_of_valid hv
    have hfr : findR (.mk i nm r k sb) id = match findF (.mk i nm r k sb) id with
      | none => .non
      | some n => .ok n := by unfold findR; rw [hv]
    have Hfr := Lib.hid hfr
    have Hv := Lib.hid hv
    clear hv hfr
    go_wp2_with fail
    generalize hw3 : w2.alloc _ = w3
    have hc3 : Chg NoB w2 w3 := by
      rw [← hw3]
      repeat (first | exact Chg.refl _ _ | apply Chg.alloc | apply Chg.drew)
    have hf3 : Blk w3 (w2.heap.size) (ndCells 0 ⟨#[]⟩ 0 0 (.slice none 0 0)) 24 := by
      rw [← hw3]
      repeat (first | exact Blk.newAt (by first | rfl | (simp; done) | (simp; omega)) | apply Blk.alloc | apply Blk.drew)
    clear hw3
    have hsz2 := hc2.size
    have hc03 := hc2.tr hc3
    have hz : Reads w3 (fun b => b < w.heap.size) zeroNd.dt (ndCells 0 ⟨#[]⟩ 0 0 (.slice none 0 0)) := reads_nd.2 ⟨_, rfl, none, 0, rfl, Nat.le_refl _, Nat.zero_le _, .inl ⟨rfl, fun _ => rfl⟩⟩
    refine (walk_any (sees_find w.heap.size w2.heap.size (w.heap.size + 1) id hsz2 (by omega)) (by decide) _ (.mk i nm r k sb) w3 S _ 0 zeroNd (Nat.le_refl _) ⟨by omega, by omega⟩ trivial hok (hr.chg0 hc03) hSB hc03.size ⟨⟨_, hf3, hz⟩, hb1.keep hc3 NoB.elim⟩).mono ?_
    rintro en w4 ⟨rfl, hSt4, hc4⟩
    obtain ⟨⟨fcs, hf4, hrd4⟩, _⟩ := hSt4
    have hb24 := (hb2.keep hc3 NoB.elim).rows hc4 (by omega) (by decide)
    replace hc4 : Chg NoB w w4 := by
      refine (hc03.mono (fun _ _ e => NoB.elim e)).trans hc4 ?_
      intro b hb
      exact .inr hb.1
    have hsz4 := hc4.size
    have hN4 := hN.keep0 hc4
    obtain ⟨NT, Nv, rfl⟩ := hN.form
    have gN := hN4.cell
    have hok4 := findG_ok id (.mk i nm r k sb) 0 zeroNd hok zeroNd_ok
    rcases hw : walkF (findG id) (.mk i nm r k sb) 0 zeroNd with ⟨b, st⟩
    rw [hw] at hrd4 hok4
    have hff : findF (.mk i nm r k sb) id = if b = true then none else some st := by
      unfold findF; rw [hw]; cases b <;> rfl
    have hfr := Hfr.out
    rw [hff] at hfr
    clear hw hff
    obtain ⟨i4, nm4, r4, k4, sb4⟩ := st
    obtain ⟨sv4, rfl, hs4⟩ := reads_nd.1 hrd4
    obtain ⟨sa4, cap4, rfl, _, _, _⟩ := reads_subs hs4
    clear hb0 hb2 x0 x1 x2 x3 x4 y0 y1 y2 y3 y4 z0 z1 z2 z3 z4 Hfr
    have y0 : w4.cell? ⟨w.heap.size + 1 + 1, 0, none⟩ = some (.int .i64 (0)) := hb24.cell 0
    have y1 : w4.cell? ⟨w.heap.size + 1 + 1, 1, none⟩ = some (.string ⟨#[]⟩) := hb24.cell 1
    have y2 : w4.cell? ⟨w.heap.size + 1 + 1, 2, none⟩ = some (.int .i64 (0)) := hb24.cell 2
    have y3 : w4.cell? ⟨w.heap.size + 1 + 1, 3, none⟩ = some (.int .i64 (0)) := hb24.cell 3
    have y4 : w4.cell? ⟨w.heap.size + 1 + 1, 4, none⟩ = some (.slice none 0 0) := hb24.cell 4
    have z0 : w4.frozen? ⟨w.heap.size + 1 + 1, 0, none⟩ = false := hb24.free 0
    have z1 : w4.frozen? ⟨w.heap.size + 1 + 1, 1, none⟩ = false := hb24.free 1
    have z2 : w4.frozen? ⟨w.heap.size + 1 + 1, 2, none⟩ = false := hb24.free 2
    have z3 : w4.frozen? ⟨w.heap.size + 1 + 1, 3, none⟩ = false := hb24.free 3
    have z4 : w4.frozen? ⟨w.heap.size + 1 + 1, 4, none⟩ = false := hb24.free 4
    have u0 : w4.cell? ⟨w2.heap.size, 0, none⟩ = some (.int .i64 (i4)) := hf4.cell 0
    have u1 : w4.cell? ⟨w2.heap.size, 1, none⟩ = some (.string nm4) := hf4.cell 1
    have u2 : w4.cell? ⟨w2.heap.size, 2, none⟩ = some (.int .i64 (r4)) := hf4.cell 2
    have u3 : w4.cell? ⟨w2.heap.size, 3, none⟩ = some (.int .i64 (k4)) := hf4.cell 3
    have u4 : w4.cell? ⟨w2.heap.size, 4, none⟩ = some (.slice sa4 sb4.length cap4) := hf4.cell 4
    have l4 := hb24.lt
    have lf4 := hf4.lt
    cases b with
    | true =>
      simp only [if_true] at hfr
      have HR := Lib.hid hfr
      clear hfr
      go_wp2_with fail
      have hgl := lt_of_cell hN.cell
      simp only at hgl
      refine wp_region_n (fun w' => w'.cell? ⟨6, 0, none⟩ = some (.iface NT Nv)) [3] (by kernel_rfl) ?_ (fun hSh => ?_)
      · exact gN
      refine n_take (v := ?_) 0 rfl (Or.inl ⟨by rfl, ?_⟩) (by kernel_rfl) (fun _ _ _ h => h) (by assumption) ?_
      rotate_left 1
      · (intro w' hSw; (try dsimp only at hSw); go_simp; try with_reducible rfl)
      simp only [Act.put, List.getElem_toArray, List.getElem_cons_zero, List.setIfInBounds_toArray, List.set_cons_zero, List.set_cons_succ]
      refine n_take (v := ?_) 1 rfl (Or.inl ⟨by rfl, ?_⟩) (by kernel_rfl) (fun _ _ _ h => h) (by assumption) ?_
      rotate_left 1
      · (intro w' hSw; (try dsimp only at hSw); go_simp; try with_reducible rfl)
      simp only [Act.put, List.getElem_toArray, List.getElem_cons_zero, List.getElem_cons_succ, List.setIfInBounds_toArray, List.set_cons_zero, List.set_cons_succ]
      refine n_step 2 rfl (by kernel_rfl) ?_
      go_wp2_with fail
      refine ⟨fun _ => ((store5_chg w4 (w.heap.size + 1 + 1) _ _ _ _ _).drew.cell (lt_of_cell gN) (fun e => by have e : 6 = w.heap.size + 1 + 1 := e; omega)).trans gN, fun hSk => ?_⟩
      refine n_step 3 rfl (by kernel_rfl) ?_
      go_wp2_with fail
      refine ⟨fun hx => absurd hx (by decide), fun _ => ?_⟩
      refine n_done (by kernel_rfl) ?_
      go_wp2_with fail
      have hb9 := store5 hb24 (.int .i64 0) (.string ⟨#[]⟩) (.int .i64 0) (.int .i64 0) (.slice none 0 0)
      have hc9 := hc4.trans' (store5_chg w4 (w.heap.size + 1 + 1) (.int .i64 0) (.string ⟨#[]⟩) (.int .i64 0) (.int .i64 0) (.slice none 0 0)) (fun x e => by have e : x = w.heap.size + 1 + 1 := e; omega)
      generalize World.setCell (World.setCell (World.setCell (World.setCell (World.setCell w4 ⟨w.heap.size + 1 + 1, 0, none⟩ (.int .i64 0)) ⟨w.heap.size + 1 + 1, 1, none⟩ (.string ⟨#[]⟩)) ⟨w.heap.size + 1 + 1, 2, none⟩ (.int .i64 0)) ⟨w.heap.size + 1 + 1, 3, none⟩ (.int .i64 0)) ⟨w.heap.size + 1 + 1, 4, none⟩ (.slice none 0 0) = w9 at *
      have n0 : w9.cell? ⟨w.heap.size + 1 + 1, 0, none⟩ = some (.int .i64 (0)) := hb9.cell 0
      have n1 : w9.cell? ⟨w.heap.size + 1 + 1, 1, none⟩ = some (.string ⟨#[]⟩) := hb9.cell 1
      have n2 : w9.cell? ⟨w.heap.size + 1 + 1, 2, none⟩ = some (.int .i64 (0)) := hb9.cell 2
      have n3 : w9.cell? ⟨w.heap.size + 1 + 1, 3, none⟩ = some (.int .i64 (0)) := hb9.cell 3
      have n4 : w9.cell? ⟨w.heap.size + 1 + 1, 4, none⟩ = some (.slice none 0 0) := hb9.cell 4
      refine bodyPost_ret (v := .tuple #[zeroNode, (.iface NT Nv)]) (by simp [results, Tryz.results24, go_sem, n0, n1, n2, n3, n4, zeroNode]) rfl ?_
      rw [HR.out]
      exact ⟨hc9.drew, rfl⟩
    | false =>
      simp only [Bool.false_eq_true, if_false] at hfr
      have HR := Lib.hid hfr
      clear hfr
      go_wp2_with fail
      refine (copy_any _ (.mk i4 nm4 r4 k4 sb4) w4 _ _ (Nat.le_refl _) hrd4 hok4).mono ?_
      rintro en w5 ⟨cs5, rfl, hr5, hc5⟩
      have hb5 := hb24.keep hc5 NoB.elim
      have hc05 := hc4.tr hc5
      obtain ⟨sv5, rfl, hs5⟩ := reads_nd.1 hr5
      obtain ⟨sa5, cap5, rfl, _, _, _⟩ := reads_subs hs5
      clear hb24 y0 y1 y2 y3 y4 z0 z1 z2 z3 z4
      have y0 : w5.cell? ⟨w.heap.size + 1 + 1, 0, none⟩ = some (.int .i64 (0)) := hb5.cell 0
      have y1 : w5.cell? ⟨w.heap.size + 1 + 1, 1, none⟩ = some (.string ⟨#[]⟩) := hb5.cell 1
      have y2 : w5.cell? ⟨w.heap.size + 1 + 1, 2, none⟩ = some (.int .i64 (0)) := hb5.cell 2
      have y3 : w5.cell? ⟨w.heap.size + 1 + 1, 3, none⟩ = some (.int .i64 (0)) := hb5.cell 3
      have y4 : w5.cell? ⟨w.heap.size + 1 + 1, 4, none⟩ = some (.slice none 0 0) := hb5.cell 4
      have z0 : w5.frozen? ⟨w.heap.size + 1 + 1, 0, none⟩ = false := hb5.free 0
      have z1 : w5.frozen? ⟨w.heap.size + 1 + 1, 1, none⟩ = false := hb5.free 1
      have z2 : w5.frozen? ⟨w.heap.size + 1 + 1, 2, none⟩ = false := hb5.free 2
      have z3 : w5.frozen? ⟨w.heap.size + 1 + 1, 3, none⟩ = false := hb5.free 3
      have z4 : w5.frozen? ⟨w.heap.size + 1 + 1, 4, none⟩ = false := hb5.free 4
      have l5 := hb5.lt
      go_wp2_with fail
      have hb9 := store5 hb5 (.int .i64 (i4)) (.string nm4) (.int .i64 (r4)) (.int .i64 (k4)) (.slice sa5 sb4.length cap5)
      have hc9 := hc05.trans' (store5_chg w5 (w.heap.size + 1 + 1) (.int .i64 (i4)) (.string nm4) (.int .i64 (r4)) (.int .i64 (k4)) (.slice sa5 sb4.length cap5)) (fun x e => by have e : x = w.heap.size + 1 + 1 := e; omega)
      have hone := store5_chg w5 (w.heap.size + 1 + 1) (.int .i64 (i4)) (.string nm4) (.int .i64 (r4)) (.int .i64 (k4)) (.slice sa5 sb4.length cap5)
      generalize World.setCell (World.setCell (World.setCell (World.setCell (World.setCell w5 ⟨w.heap.size + 1 + 1, 0, none⟩ (.int .i64 (i4))) ⟨w.heap.size + 1 + 1, 1, none⟩ (.string nm4)) ⟨w.heap.size + 1 + 1, 2, none⟩ (.int .i64 (r4))) ⟨w.heap.size + 1 + 1, 3, none⟩ (.int .i64 (k4))) ⟨w.heap.size + 1 + 1, 4, none⟩ (.slice sa5 sb4.length cap5) = w9 at hb9 hc9 hone ⊢
      have n0 : w9.cell? ⟨w.heap.size + 1 + 1, 0, none⟩ = some (.int .i64 (i4)) := hb9.cell 0
      have n1 : w9.cell? ⟨w.heap.size + 1 + 1, 1, none⟩ = some (.string nm4) := hb9.cell 1
      have n2 : w9.cell? ⟨w.heap.size + 1 + 1, 2, none⟩ = some (.int .i64 (r4)) := hb9.cell 2
      have n3 : w9.cell? ⟨w.heap.size + 1 + 1, 3, none⟩ = some (.int .i64 (k4)) := hb9.cell 3
      have n4 : w9.cell? ⟨w.heap.size + 1 + 1, 4, none⟩ = some (.slice sa5 sb4.length cap5) := hb9.cell 4
      refine bodyPost_ret (v := .tuple #[.agg #[.int .i64 (i4), .string nm4, .int .i64 (r4), .int .i64 (k4), .slice sa5 sb4.length cap5], .nilIface]) (by simp [results, Tryz.results24, go_sem, n0, n1, n2, n3, n4]) rfl ?_
      rw [HR.out]
      exact ⟨hc9, _, rfl, (hr5.chg hone (fun b hb e => by have e : b = w.heap.size + 1 + 1 := e; have hb : w4.heap.size ≤ b := hb; omega)).mono (fun b hb => by have hb : w4.heap.size ≤ b := hb; omega)⟩
end Go.Proofs.YtfbbfhhhfbibjaaGreatDoor
