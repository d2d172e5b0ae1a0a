/-
  schema.leaves: the leaves in a node, with their levels and ways.; shredcolref2.IsName, and the places of a schema's nodes as they lie in memory.; What shredcolref2.SchemaError tells of the list of all places.
-/
import Derived.Test.YtkchmgjmecojcaaGreatDoorSumR
import Derived.Test.YtkchmgjmecojcaaGreatDoorAll
import Derived.Test.YtkchmgjmecojcaaGreatDoorNames
import Derived.Test.YtkchmgjmecojcaaGreatDoorSumC
import Derived.Test.YtkchmgjmecojcaaGreatDoorValid
set_option linter.unusedVariables false
set_option maxHeartbeats 20000000
set_option maxRecDepth 100000
set_option linter.unusedSimpArgs false
namespace Go.Proofs.YtkchmgjmecojcaaGreatDoor
open Go.RowKit
structure Lf where
 id : Int
 kind : Int
 mr : Int
 md : Int
 path : List Int
mutual
def lvN (mr md : Int) (p : List Int) : Nd → List Lf
 | .mk i _ r k s => if k = 0 then lvL (if r = 3 then mr + 1 else mr) (if r = 1 then md else md + 1) (p ++ [i]) s
  else [⟨i, k, if r = 3 then mr + 1 else mr, if r = 1 then md else md + 1, p ++ [i]⟩]
def lvL (mr md : Int) (p : List Int) : List Nd → List Lf
 | [] => []
 | n :: ns => lvN mr md p n ++ lvL mr md p ns
end
theorem lvL_append (mr md : Int) (p : List Int) : ∀ (a b : List Nd), lvL mr md p (a ++ b) = lvL mr md p a ++ lvL mr md p b
 | [], b => rfl
 | x :: xs, b => by simp only [List.cons_append, lvL, lvL_append mr md p xs b, List.append_assoc]
theorem lvL_one (mr md : Int) (p : List Int) (n : Nd) : lvL mr md p [n] = lvN mr md p n := by simp [lvL]
mutual
theorem lvN_len : ∀ (n : Nd) (mr md : Int) (p : List Int), (lvN mr md p n).length ≤ n.weigh
 | .mk i n r k s, mr, md, p => by
  simp only [lvN, Nd.weigh]
  split
  ·have := lvL_len s (if r = 3 then mr + 1 else mr) (if r = 1 then md else md + 1) (p ++ [i])
   omega
  ·simp
theorem lvL_len : ∀ (l : List Nd) (mr md : Int) (p : List Int), (lvL mr md p l).length ≤ Nd.weighs l
 | [], mr, md, p => Nat.le_refl _
 | n :: ns, mr, md, p => by
  have h1 := lvN_len n mr md p
  have h2 := lvL_len ns mr md p
  simp only [lvL, Nd.weighs, List.length_append]
  omega
end
theorem weighs_app : ∀ (a b : List Nd), Nd.weighs (a ++ b) = Nd.weighs a + Nd.weighs b
 | [], b => by simp [Nd.weighs]
 | x :: xs, b => by simp only [List.cons_append, Nd.weighs, weighs_app xs b]; omega
def Lf.dt (l : Lf) : Dt := .agg [.lit (.int .i64 l.id), .lit (.int .i64 l.kind), .lit (.int .i64 l.mr), .lit (.int .i64 l.md), .list 1 (l.path.map intDt)]
theorem reads_lf {w : World} {S : Nat → Prop} {l : Lf} {cs : List Value} :
  Reads w S l.dt cs ↔ ∃ v, cs = [.int .i64 l.id, .int .i64 l.kind, .int .i64 l.mr, .int .i64 l.md, v] ∧ Reads w S (.list 1 (l.path.map intDt)) [v] := by
 simp only [Lf.dt, Reads, ReadsF]
 constructor
 ·rintro ⟨c0, r0, rfl, ⟨rfl, _⟩, c1, r1, rfl, ⟨rfl, _⟩, c2, r2, rfl, ⟨rfl, _⟩, c3, r3, rfl, ⟨rfl, _⟩, c4, r4, rfl, ⟨a, cap, rfl, h⟩, rfl⟩
  exact ⟨_, rfl, a, cap, rfl, h⟩
 ·rintro ⟨v, rfl, a, cap, h0, h⟩
  exact ⟨[_], _, rfl, ⟨rfl, rfl⟩, [_], _, rfl, ⟨rfl, rfl⟩, [_], _, rfl, ⟨rfl, rfl⟩, [_], _, rfl, ⟨rfl, rfl⟩, [v], [], rfl, ⟨a, cap, h0, h⟩, rfl⟩
theorem infoLeaf : (Tryz.prog.info? 72).map (fun i => (i.zero, i.size, i.bytes)) = some (some (.agg #[.int .i64 0, .int .i64 0, .int .i64 0, .int .i64 0, .slice none 0 0]), 5, 56) := by kernel_rfl
section
open Region
variable {P : Program} {ops : Array Oper} {Q : Exit → Act → World → Prop} {md : Region.Mode} {S : World → Prop} {ns : List Nat}
theorem n_fork3 (i j k : Nat) {oi oj ok : Oper} {fuel : Nat} {listed : Array Bool} {a : Act} {w : World} (hi : ops[i]? = some oi) (hj : ops[j]? = some oj) (hk : ops[k]? = some ok) (hr : Region.ready md ops listed = [i, j, k])
  (h1 : wpList P ops (Exit.then (fun a' w' => (ns.contains i = false → S w') ∧ ((ns.contains i = false → S w') → wpAnyN P md ops Q S ns fuel (listed.setIfInBounds i true) a' w')) Q) [oi] a w)
  (h2 : wpList P ops (Exit.then (fun a' w' => (ns.contains j = false → S w') ∧ ((ns.contains j = false → S w') → wpAnyN P md ops Q S ns fuel (listed.setIfInBounds j true) a' w')) Q) [oj] a w)
  (h3 : wpList P ops (Exit.then (fun a' w' => (ns.contains k = false → S w') ∧ ((ns.contains k = false → S w') → wpAnyN P md ops Q S ns fuel (listed.setIfInBounds k true) a' w')) Q) [ok] a w) : wpAnyN P md ops Q S ns (fuel + 1) listed a w := by
 refine ⟨fun h0 => absurd (hr ▸ h0) (by simp), fun x hx => ?_⟩
 rw [hr] at hx
 simp only [List.mem_cons, List.not_mem_nil, or_false] at hx
 rcases hx with rfl | rfl | rfl
 ·exact n_walk _ hi h1
 ·exact n_walk _ hj h2
 ·exact n_walk _ hk h3
end
theorem Own.form1 {w : World} {B e k : Nat} {S : Nat → Prop} {v : Value} {l : List Int} (h : Own w B e k S v (l.map intDt)) : ∃ a c, v = .slice a l.length c := by
 obtain ⟨a, c, e⟩ := h.form
 exact ⟨a, c, by rw [e, List.length_map]⟩
structure LvSit (w3 : World) (p : List Int) (i1 : Int) (c10 c13 c16 : Bool) (v : Value) (sb lb : Nat) (wk : World) : Prop where
 chg : Chg NoB w3 wk
 own : c10 = true → Own wk w3.heap.size 3 1 (fun _ => False) v (p.map intDt)
 sl : c13 = true → Blk wk sb [.int .i64 i1] 3 ∧ w3.heap.size ≤ sb
 lf : c16 = true → Blk wk lb [.int .i64 0, .int .i64 0, .int .i64 0, .int .i64 0, .slice none 0 0] 72 ∧ w3.heap.size ≤ lb
 ne : c10 = true → c16 = true → v.ownBlock ≠ some lb
theorem LvSit.call {w3 wk wn : World} {p : List Int} {i1 : Int} {c13 c16 : Bool} {v0 v : Value} {sb lb : Nat} (h : LvSit w3 p i1 false c13 c16 v0 sb lb wk) (ho : Own wn wk.heap.size 3 1 (fun _ => False) v (p.map intDt)) (hc : Chg NoB wk wn) :
  LvSit w3 p i1 true c13 c16 v sb lb wn where
 chg := h.chg.tr hc
 own := fun _ => ho.mono h.chg.size (fun _ e => e)
 sl := fun e => ⟨(h.sl e).1.keep hc nbE, (h.sl e).2⟩
 lf := fun e => ⟨(h.lf e).1.keep hc nbE, (h.lf e).2⟩
 ne := fun _ e he => by
  have h1 := (ho.block lb he).1
  have h2 := (h.lf e).1.lt
  omega
theorem LvSit.one {w3 wk : World} {p : List Int} {i1 : Int} {c10 c16 : Bool} {v : Value} {sb0 lb : Nat} (h : LvSit w3 p i1 c10 false c16 v sb0 lb wk) :
  LvSit w3 p i1 c10 true c16 v wk.heap.size lb (wk.alloc (.cells #[.int .i64 i1] 3)) where
 chg := h.chg.alloc _
 own := fun e => (h.own e).keep ((Chg.refl NoB wk).alloc _) (fun _ _ => nbE) (fun _ _ => nbE)
 sl := fun _ => ⟨Blk.new wk [.int .i64 i1] 3, h.chg.size⟩
 lf := fun e => ⟨(h.lf e).1.alloc _, (h.lf e).2⟩
 ne := h.ne
theorem LvSit.box {w3 wk : World} {p : List Int} {i1 : Int} {c10 c13 : Bool} {v : Value} {sb lb0 : Nat} (h : LvSit w3 p i1 c10 c13 false v sb lb0 wk) :
  LvSit w3 p i1 c10 c13 true v sb wk.heap.size (wk.alloc (.cells #[.int .i64 0, .int .i64 0, .int .i64 0, .int .i64 0, .slice none 0 0] 72)) where
 chg := h.chg.alloc _
 own := fun e => (h.own e).keep ((Chg.refl NoB wk).alloc _) (fun _ _ => nbE) (fun _ _ => nbE)
 sl := fun e => ⟨(h.sl e).1.alloc _, (h.sl e).2⟩
 lf := fun _ => ⟨Blk.new wk [.int .i64 0, .int .i64 0, .int .i64 0, .int .i64 0, .slice none 0 0] 72, h.chg.size⟩
 ne := fun e _ he => by
  have := ((h.own e).block _ he).2
  omega
structure LvWay (w3 : World) (p : List Int) (i1 : Int) (c16 : Bool) (v : Value) (lb : Nat) (wk : World) : Prop where
 chg : Chg NoB w3 wk
 own : Own wk w3.heap.size 3 1 (fun _ => False) v ((p ++ [i1]).map intDt)
 lf : c16 = true → Blk wk lb [.int .i64 0, .int .i64 0, .int .i64 0, .int .i64 0, .slice none 0 0] 72 ∧ w3.heap.size ≤ lb
 ne : c16 = true → v.ownBlock ≠ some lb
theorem LvSit.way {w3 wk wn : World} {p : List Int} {i1 : Int} {c16 : Bool} {v v' : Value} {sb lb : Nat} (h : LvSit w3 p i1 true true c16 v sb lb wk) (ho : Own wn w3.heap.size 3 1 (fun _ => False) v' (p.map intDt ++ [intDt i1]))
  (hc : Chg (fun b => v.ownBlock = some b) wk wn) (hat : v'.ownBlock = v.ownBlock ∨ v'.ownBlock = some wk.heap.size) : LvWay w3 p i1 c16 v' lb wn where
 chg := h.chg.trans hc (fun b e => .inr ((h.own rfl).block b e).1)
 own := by rw [List.map_append]; exact ho
 lf := fun e => ⟨(h.lf e).1.keep hc (h.ne rfl e), (h.lf e).2⟩
 ne := fun e he => by
  have h1 := h.ne rfl e
  rcases hat with hx | hx
  ·exact h1 (hx ▸ he)
  ·have := (h.lf e).1.lt
   have := Option.some.inj (hx.symm.trans he)
   omega
theorem LvWay.box {w3 wk : World} {p : List Int} {i1 : Int} {v : Value} {lb0 : Nat} (h : LvWay w3 p i1 false v lb0 wk) :
  LvWay w3 p i1 true v wk.heap.size (wk.alloc (.cells #[.int .i64 0, .int .i64 0, .int .i64 0, .int .i64 0, .slice none 0 0] 72)) where
 chg := h.chg.alloc _
 own := h.own.keep ((Chg.refl NoB wk).alloc _) (fun _ _ => nbE) (fun _ _ => nbE)
 lf := fun _ => ⟨Blk.new wk [.int .i64 0, .int .i64 0, .int .i64 0, .int .i64 0, .slice none 0 0] 72, h.chg.size⟩
 ne := fun _ he => by
  have := (h.own.block _ he).2
  omega
structure LvLeaf (w3 : World) (p : List Int) (i1 k1 mr md : Int) (v : Value) (lb : Nat) (wk : World) : Prop where
 chg : Chg NoB w3 wk
 own : Own wk w3.heap.size 3 1 (fun _ => False) v ((p ++ [i1]).map intDt)
 lf : Blk wk lb [.int .i64 i1, .int .i64 k1, .int .i64 mr, .int .i64 md, v] 72
 le : w3.heap.size ≤ lb
 ne : v.ownBlock ≠ some lb
theorem blk_set5 {w : World} {b : Nat} {c0 c1 c2 c3 c4 : Value} {t : TypeId} (h : Blk w b [c0, c1, c2, c3, c4] t) (v0 v1 v2 v3 v4 : Value) :
  Blk (((((w.setCell ⟨b, 0, none⟩ v0).setCell ⟨b, 1, none⟩ v1).setCell ⟨b, 2, none⟩ v2).setCell ⟨b, 3, none⟩ v3).setCell ⟨b, 4, none⟩ v4) b [v0, v1, v2, v3, v4] t :=
 ((((h.set 0 v0).set 1 v1).set 2 v2).set 3 v3).set 4 v4
theorem chg_set5 {C : Nat → Prop} {a w : World} (h : Chg C a w) (b : Nat) (hb : C b ∨ a.heap.size ≤ b) (v0 v1 v2 v3 v4 : Value) :
  Chg C a (((((w.setCell ⟨b, 0, none⟩ v0).setCell ⟨b, 1, none⟩ v1).setCell ⟨b, 2, none⟩ v2).setCell ⟨b, 3, none⟩ v3).setCell ⟨b, 4, none⟩ v4) :=
 ((((h.setCell (p := ⟨b, 0, none⟩) hb v0).setCell (p := ⟨b, 1, none⟩) hb v1).setCell (p := ⟨b, 2, none⟩) hb v2).setCell (p := ⟨b, 3, none⟩) hb v3).setCell (p := ⟨b, 4, none⟩) hb v4
theorem LvWay.leaf {w3 wk : World} {p : List Int} {i1 : Int} {v : Value} {lb : Nat} (h : LvWay w3 p i1 true v lb wk) (k1 mr md : Int) :
  LvLeaf w3 p i1 k1 mr md v lb (((((wk.setCell ⟨lb, 0, none⟩ (.int .i64 i1)).setCell ⟨lb, 1, none⟩ (.int .i64 k1)).setCell ⟨lb, 2, none⟩ (.int .i64 mr)).setCell ⟨lb, 3, none⟩ (.int .i64 md)).setCell ⟨lb, 4, none⟩ v) where
 chg := chg_set5 h.chg lb (.inr (h.lf rfl).2) _ _ _ _ _
 own := h.own.keep (chg_set5 (Chg.refl (OneB lb) wk) lb (.inl rfl) _ _ _ _ _) (fun _ hb => hb.elim) (fun b hb e => h.ne rfl (by rw [← show b = lb from e]; exact hb))
 lf := blk_set5 (h.lf rfl).1 _ _ _ _ _
 le := (h.lf rfl).2
 ne := h.ne rfl
theorem LvLeaf.set2 {w3 wk : World} {p : List Int} {i1 k1 mr md : Int} {v : Value} {lb : Nat} (h : LvLeaf w3 p i1 k1 mr md v lb wk) (x : Int) : LvLeaf w3 p i1 k1 x md v lb (wk.setCell ⟨lb, 2, none⟩ (.int .i64 x)) where
 chg := h.chg.setCell (.inr h.le) _
 own := h.own.keep ((Chg.refl (OneB lb) wk).setCell (p := ⟨lb, 2, none⟩) (.inl rfl) _) (fun _ hb => hb.elim) (fun b hb e => h.ne (by rw [← show b = lb from e]; exact hb))
 lf := h.lf.set 2 _
 le := h.le
 ne := h.ne
theorem LvLeaf.set3 {w3 wk : World} {p : List Int} {i1 k1 mr md : Int} {v : Value} {lb : Nat} (h : LvLeaf w3 p i1 k1 mr md v lb wk) (x : Int) : LvLeaf w3 p i1 k1 mr x v lb (wk.setCell ⟨lb, 3, none⟩ (.int .i64 x)) where
 chg := h.chg.setCell (.inr h.le) _
 own := h.own.keep ((Chg.refl (OneB lb) wk).setCell (p := ⟨lb, 3, none⟩) (.inl rfl) _) (fun _ hb => hb.elim) (fun b hb e => h.ne (by rw [← show b = lb from e]; exact hb))
 lf := h.lf.set 3 _
 le := h.le
 ne := h.ne
theorem LvLeaf.reads {w3 wk : World} {p : List Int} {i1 k1 mr md : Int} {v : Value} {lb : Nat} (h : LvLeaf w3 p i1 k1 mr md v lb wk) (hl : p.length + 1 ≤ maxLen) : Reads wk (fun b => w3.heap.size ≤ b) (Lf.dt ⟨i1, k1, mr, md, p ++ [i1]⟩) [.int .i64 i1, .int .i64 k1, .int .i64 mr, .int .i64 md, v] :=
 reads_lf.2 ⟨v, rfl, h.own.reads (fun _ e => e.elim) (fun _ hb _ => hb) (by simpa using hl)⟩
def LeavesRel (w : World) (i : Int) (n : ByteArray) (r k : Int) (s : List Nd) (sv : Value) (ai ak mr md : Int) (p : List Int) (pv : Value) (vl vi : Value) (wr : World) : Prop :=
 ∃ j ao cap, j ≤ s.length ∧ vi = .int .i64 (j : Nat) ∧ vl = .slice ao (lvL mr md p (s.take j)).length cap ∧ Chg NoB w wr ∧ Blk wr w.heap.size (ndCells i n r k sv) 33 ∧
  Blk wr (w.heap.size + 1) [.int .i64 ai, .int .i64 ak, .int .i64 mr, .int .i64 md, pv] 72 ∧
  Own wr (w.heap.size + 2) 72 5 (fun b => w.heap.size + 2 ≤ b) vl ((lvL mr md p (s.take j)).map Lf.dt)
theorem leaves_any : ∀ (m : Nat) (nd : Nd) (w : World) (S T : Nat → Prop) (cs ls : List Value) (a : Lf), nd.weigh ≤ m → Reads w S nd.dt cs → nd.ok → Reads w T a.dt ls →
  nd.weigh ≤ 1099511627776 → 0 ≤ a.mr → a.mr + nd.high ≤ 1099511627776 → 0 ≤ a.md → a.md + nd.high ≤ 1099511627776 → a.path.length + nd.high ≤ 1099511627776 →
  Calls Tryz.prog 50 #[.agg cs.toArray, .agg ls.toArray] w (RetList 5 (fun _ => False) ((lvL a.mr a.md a.path nd.sub).map Lf.dt) w) := by
 intro m
 induction m with
 | zero => intro nd w S T cs ls a hm; cases nd; simp [Nd.weigh] at hm
 | succ m ih =>
  intro nd w S T cs ls a hm hr hok hra hw0 hmr0 hmr1 hmd0 hmd1 hp1
  obtain ⟨i, n, r, k, s⟩ := nd
  obtain ⟨sv, rfl, hs⟩ := reads_nd.1 hr
  obtain ⟨sa, cap, rfl, hlen, hcap, hel⟩ := reads_subs hs
  obtain ⟨hi, hn, hrr, hk, hsl, hoks⟩ := hok
  obtain ⟨ai, ak, mr, md, p⟩ := a
  obtain ⟨pv, rfl, hpv⟩ := reads_lf.1 hra
  simp only [Nd.high] at hmr0 hmr1 hmd0 hmd1 hp1 ⊢
  simp only [Nd.weigh] at hw0
  have hpv' := hpv
  obtain ⟨pa, pc, rfl, hpl1, hpl2, hpe⟩ := reads_list hpv
  rw [List.length_map] at *
  have Hih := Lib.hid ih
  clear ih hpe
  unfold reach at hsl
  have hp8 : p.length * 8 ≤ 140737488355328 := by omega
  go_enter Tryz.func50, Tryz.ntmps50
  go_wp2_with fail
  go_loopw [5, 12] (fun vl vi wr => LeavesRel w i n r k s (.slice sa s.length cap) ai ak mr md p (.slice pa p.length pc) vl vi wr) (fun _ vi _ => s.length - (intOf vi).toNat)
  case atStart =>
   exact ⟨0, none, 0, Nat.zero_le _, rfl, rfl, ((Chg.refl _ _).alloc _).alloc _, (Blk.newAt rfl).alloc _, Blk.newAt (by simp), Own.nil _ _ _ _ _⟩
  case round =>
   obtain ⟨j, ao, ac, hj, rfl, rfl, hc, hb0, hb1, ho⟩ := hrel
   have hsz : w.heap.size + 2 ≤ wr.heap.size := hb1.lt
   by_cases hlt : j < s.length
   ·obtain ⟨b, off, rfl, hSb, hbw, hE⟩ := hel (by omega)
    obtain ⟨ecs, hl5, hcells, hre⟩ := hE.get j s[j].dt (by simp [hlt])
    have hmem : s[j] ∈ s := List.getElem_mem hlt
    have hw1 := Nd.weigh_mem hmem
    have hh1 := Nd.high_mem hmem
    have hok1 := Nd.oks_mem hoks _ hmem
    have htake : s.take (j + 1) = s.take j ++ [s[j]] := List.take_succ_eq_append_getElem hlt
    have hll := lvL_len (s.take (j + 1)) mr md p
    have hlw : Nd.weighs (s.take (j + 1)) ≤ Nd.weighs s := by
     have h9 := weighs_app (s.take (j + 1)) (s.drop (j + 1))
     rw [List.take_append_drop] at h9
     omega
    rw [htake, lvL_append, lvL_one, List.length_append] at hll
    rw [htake] at hlw
    have Hlw := Lib.hid hlw
    have Htake := Lib.hid htake
    clear htake hlw
    generalize s[j] = nj at hre hw1 hh1 hok1 Htake hll Hlw
    obtain ⟨i1, n1, r1, k1, s1⟩ := nj
    obtain ⟨v1, rfl, hs1⟩ := reads_nd.1 hre
    obtain ⟨sa1, cap1, rfl, _, _, _⟩ := reads_subs hs1
    have ef : ∀ t c, [Value.int .i64 i1, .string n1, .int .i64 r1, .int .i64 k1, (.slice sa1 s1.length cap1)][t]? = some c → wr.cell? ⟨b, off + j * 5 + t, none⟩ = some c := fun t c ht => (hc.cell (p := ⟨b, off + j * 5 + t, none⟩) hbw (fun e => e)).trans (hcells t c ht)
    have e0 : wr.cell? ⟨b, off + j * 5, none⟩ = some (.int .i64 i1) := ef 0 _ rfl
    have e1 : wr.cell? ⟨b, off + j * 5 + 1, none⟩ = some (.string n1) := ef 1 _ rfl
    have e2 : wr.cell? ⟨b, off + j * 5 + 2, none⟩ = some (.int .i64 r1) := ef 2 _ rfl
    have e3 : wr.cell? ⟨b, off + j * 5 + 3, none⟩ = some (.int .i64 k1) := ef 3 _ rfl
    have e4 : wr.cell? ⟨b, off + j * 5 + 4, none⟩ = some (.slice sa1 s1.length cap1) := ef 4 _ rfl
    clear ef
    go_wp2_with fail
    generalize hw3 : wr.alloc _ = w3
    have hc3 : Chg NoB wr w3 := by
     rw [← hw3]
     repeat (first | exact Chg.refl _ _ | apply Chg.alloc | apply Chg.drew)
    have hn3 : Blk w3 (wr.heap.size) (ndCells i1 n1 r1 k1 (.slice sa1 s1.length cap1)) 33 := by
     rw [← hw3]
     repeat (first | exact Blk.newAt (by first | rfl | (simp; done) | (simp; omega)) | apply Blk.alloc | apply Blk.drew)
    clear hw3
    have hld3 := hb1.keep hc3 nbE
    have x0 : w3.drew.cell? ⟨wr.heap.size, 0, none⟩ = some (.int .i64 (i1)) := hn3.cell 0
    have x1 : w3.drew.cell? ⟨wr.heap.size, 1, none⟩ = some (.string n1) := hn3.cell 1
    have x2 : w3.drew.cell? ⟨wr.heap.size, 2, none⟩ = some (.int .i64 (r1)) := hn3.cell 2
    have x3 : w3.drew.cell? ⟨wr.heap.size, 3, none⟩ = some (.int .i64 (k1)) := hn3.cell 3
    have x4 : w3.drew.cell? ⟨wr.heap.size, 4, none⟩ = some (.slice sa1 s1.length cap1) := hn3.cell 4
    have a2 : w3.drew.cell? ⟨w.heap.size + 1, 2, none⟩ = some (.int .i64 mr) := hld3.cell 2
    have a3 : w3.drew.cell? ⟨w.heap.size + 1, 3, none⟩ = some (.int .i64 md) := hld3.cell 3
    have a4 : w3.drew.cell? ⟨w.heap.size + 1, 4, none⟩ = some (.slice pa p.length pc) := hld3.cell 4
    have l0 : wr.heap.size < w3.drew.heap.size := hn3.lt
    have l1 : w.heap.size + 1 < w3.drew.heap.size := hld3.lt
    have hpd : Reads w3.drew T (.list 1 (p.map intDt)) [.slice pa p.length pc] := hpv'.chg0 ((hc.tr hc3).drew)
    refine wp_region_n (fun w' => w'.cell? ⟨wr.heap.size, 0, none⟩ = some (.int .i64 i1) ∧ w'.cell? ⟨wr.heap.size, 3, none⟩ = some (.int .i64 k1) ∧ w'.cell? ⟨w.heap.size + 1, 2, none⟩ = some (.int .i64 mr) ∧ w'.cell? ⟨w.heap.size + 1, 3, none⟩ = some (.int .i64 md) ∧ w'.cell? ⟨w.heap.size + 1, 4, none⟩ = some (.slice pa p.length pc)) [17] (by kernel_rfl) ?_ (fun hSh => ?_)
    ·exact ⟨x0, x3, a2, a3, a4⟩
    refine n_from 0 ?_
    intro htk
    iterate 10
     refine n_tB (v := ?_) htk rfl (Or.inl ⟨by rfl, ?_⟩) ?_
     rotate_left 1
     ·(intro w' hSw; (try dsimp only at hSw); go_simp; try with_reducible rfl)
     clear htk
     intro htk
     simp only [Nat.reduceAdd] at htk
     simp only [Act.put, qA, qB, qC, qD, qE, qF]
    clear htk
    refine n_tA (v := ?_) 11 rfl (Or.inl ⟨by rfl, ?_⟩) ?_
    rotate_left 1
    ·(intro w' hSw; (try dsimp only at hSw); go_simp; try with_reducible rfl)
    simp only [Act.put, qA, qB, qC, qD, qE, qF]
    refine n_tA (v := ?_) 12 rfl (Or.inl ⟨by rfl, ?_⟩) ?_
    rotate_left 1
    ·(intro w' hSw; (try dsimp only at hSw); go_simp; try with_reducible rfl)
    simp only [Act.put, qA, qB, qC, qD, qE, qF]
    have hs0 : LvSit w3.drew p i1 false false false undef 0 0 w3.drew := ⟨Chg.refl _ _, (fun e => by cases e), (fun e => by cases e), (fun e => by cases e), (fun e => by cases e)⟩
    have hcd : Chg NoB wr w3.drew := hc3.drew
    have hnd : Blk w3.drew wr.heap.size (ndCells i1 n1 r1 k1 (.slice sa1 s1.length cap1)) 33 := hn3
    clear hn3 hld3 hc3
    generalize hwd : w3.drew = wd at *
    clear hwd
    have hSk := hSh
    clear hSh
    apply n_share
    ·intro key3
     apply n_share
     ·intro key2
      apply n_share
      ·intro key1
       refine n_fork3 10 13 16 rfl rfl rfl (by kernel_rfl) ?_ ?_ ?_
       ·go_wp2_with fail
        refine (clone_any p _ wd _ (hpd.chg0 hs0.chg) hp8).mono ?_
        rintro en w1 ⟨v0, rfl, hoN, hcN⟩
        obtain ⟨ca, cc, rfl⟩ := hoN.form1
        have h1 := hs0.call hoN hcN
        clear hoN hcN
        go_wp2_with fail
        have hck := h1.chg
        refine ⟨fun _ => ?_, fun hSk => ?_⟩
        ·(repeat' refine And.intro ?_ ?_) <;> exact (hck.cell (by first | assumption | (simp; done) | (simp; omega) | omega) nbE).trans (by assumption)
        replace hSk := hSk (by rfl)
        clear hck
        (try clear hs0)
        refine n_fork 13 16 rfl rfl (by kernel_rfl) ?_ ?_
        ·go_wp2_with fail
         have h2 := h1.one
         generalize hsb : w1.heap.size = sb at h2 ⊢
         generalize hwn : World.alloc w1 _ = w2 at h2 ⊢
         clear hsb hwn
         have hck := h2.chg
         refine ⟨fun _ => ?_, fun hSk => ?_⟩
         ·(repeat' refine And.intro ?_ ?_) <;> exact (hck.cell (by first | assumption | (simp; done) | (simp; omega) | omega) nbE).trans (by assumption)
         replace hSk := hSk (by rfl)
         clear hck
         (try clear h1)
         revert hSk; revert h2; revert w2; revert sb; revert cc; revert ca
         exact key1.goes
        ·go_wp2_with fail
         have h2 := h1.box
         generalize hlb : w1.heap.size = lb at h2 ⊢
         generalize hwn : World.alloc w1 _ = w2 at h2 ⊢
         clear hlb hwn
         have hck := h2.chg
         refine ⟨fun _ => ?_, fun hSk => ?_⟩
         ·(repeat' refine And.intro ?_ ?_) <;> exact (hck.cell (by first | assumption | (simp; done) | (simp; omega) | omega) nbE).trans (by assumption)
         replace hSk := hSk (by rfl)
         clear hck
         (try clear h1)
         refine n_step 13 rfl (by kernel_rfl) ?_
         go_wp2_with fail
         have h5 := h2.one
         generalize hsb : w2.heap.size = sb at h5 ⊢
         generalize hwn : World.alloc w2 _ = w5 at h5 ⊢
         clear hsb hwn
         have hck := h5.chg
         refine ⟨fun _ => ?_, fun hSk => ?_⟩
         ·(repeat' refine And.intro ?_ ?_) <;> exact (hck.cell (by first | assumption | (simp; done) | (simp; omega) | omega) nbE).trans (by assumption)
         replace hSk := hSk (by rfl)
         clear hck
         (try clear h2)
         revert hSk; revert h5; revert w5; revert sb; revert lb; revert cc; revert ca
         exact key2.goes
       ·go_wp2_with fail
        have h1 := hs0.one
        generalize hsb : wd.heap.size = sb at h1 ⊢
        generalize hwn : World.alloc wd _ = w1 at h1 ⊢
        clear hsb hwn
        have hck := h1.chg
        refine ⟨fun _ => ?_, fun hSk => ?_⟩
        ·(repeat' refine And.intro ?_ ?_) <;> exact (hck.cell (by first | assumption | (simp; done) | (simp; omega) | omega) nbE).trans (by assumption)
        replace hSk := hSk (by rfl)
        clear hck
        (try clear hs0)
        refine n_fork 10 16 rfl rfl (by kernel_rfl) ?_ ?_
        ·go_wp2_with fail
         refine (clone_any p _ w1 _ (hpd.chg0 h1.chg) hp8).mono ?_
         rintro en w2 ⟨v0, rfl, hoN, hcN⟩
         obtain ⟨ca, cc, rfl⟩ := hoN.form1
         have h2 := h1.call hoN hcN
         clear hoN hcN
         go_wp2_with fail
         have hck := h2.chg
         refine ⟨fun _ => ?_, fun hSk => ?_⟩
         ·(repeat' refine And.intro ?_ ?_) <;> exact (hck.cell (by first | assumption | (simp; done) | (simp; omega) | omega) nbE).trans (by assumption)
         replace hSk := hSk (by rfl)
         clear hck
         (try clear h1)
         exact n_listed (by kernel_rfl) (key1.goes ca cc sb w2 h2 hSk)
        ·go_wp2_with fail
         have h2 := h1.box
         generalize hlb : w1.heap.size = lb at h2 ⊢
         generalize hwn : World.alloc w1 _ = w2 at h2 ⊢
         clear hlb hwn
         have hck := h2.chg
         refine ⟨fun _ => ?_, fun hSk => ?_⟩
         ·(repeat' refine And.intro ?_ ?_) <;> exact (hck.cell (by first | assumption | (simp; done) | (simp; omega) | omega) nbE).trans (by assumption)
         replace hSk := hSk (by rfl)
         clear hck
         (try clear h1)
         refine n_step 10 rfl (by kernel_rfl) ?_
         go_wp2_with fail
         refine (clone_any p _ w2 _ (hpd.chg0 h2.chg) hp8).mono ?_
         rintro en w5 ⟨v0, rfl, hoN, hcN⟩
         obtain ⟨ca, cc, rfl⟩ := hoN.form1
         have h5 := h2.call hoN hcN
         clear hoN hcN
         go_wp2_with fail
         have hck := h5.chg
         refine ⟨fun _ => ?_, fun hSk => ?_⟩
         ·(repeat' refine And.intro ?_ ?_) <;> exact (hck.cell (by first | assumption | (simp; done) | (simp; omega) | omega) nbE).trans (by assumption)
         replace hSk := hSk (by rfl)
         clear hck
         (try clear h2)
         exact n_listed (by kernel_rfl) (key2.goes ca cc lb sb w5 h5 hSk)
       ·go_wp2_with fail
        have h1 := hs0.box
        generalize hlb : wd.heap.size = lb at h1 ⊢
        generalize hwn : World.alloc wd _ = w1 at h1 ⊢
        clear hlb hwn
        have hck := h1.chg
        refine ⟨fun _ => ?_, fun hSk => ?_⟩
        ·(repeat' refine And.intro ?_ ?_) <;> exact (hck.cell (by first | assumption | (simp; done) | (simp; omega) | omega) nbE).trans (by assumption)
        replace hSk := hSk (by rfl)
        clear hck
        (try clear hs0)
        refine n_fork 10 13 rfl rfl (by kernel_rfl) ?_ ?_
        ·go_wp2_with fail
         refine (clone_any p _ w1 _ (hpd.chg0 h1.chg) hp8).mono ?_
         rintro en w2 ⟨v0, rfl, hoN, hcN⟩
         obtain ⟨ca, cc, rfl⟩ := hoN.form1
         have h2 := h1.call hoN hcN
         clear hoN hcN
         go_wp2_with fail
         have hck := h2.chg
         refine ⟨fun _ => ?_, fun hSk => ?_⟩
         ·(repeat' refine And.intro ?_ ?_) <;> exact (hck.cell (by first | assumption | (simp; done) | (simp; omega) | omega) nbE).trans (by assumption)
         replace hSk := hSk (by rfl)
         clear hck
         (try clear h1)
         refine n_step 13 rfl (by kernel_rfl) ?_
         go_wp2_with fail
         have h5 := h2.one
         generalize hsb : w2.heap.size = sb at h5 ⊢
         generalize hwn : World.alloc w2 _ = w5 at h5 ⊢
         clear hsb hwn
         have hck := h5.chg
         refine ⟨fun _ => ?_, fun hSk => ?_⟩
         ·(repeat' refine And.intro ?_ ?_) <;> exact (hck.cell (by first | assumption | (simp; done) | (simp; omega) | omega) nbE).trans (by assumption)
         replace hSk := hSk (by rfl)
         clear hck
         (try clear h2)
         exact n_listed (by kernel_rfl) (key2.goes ca cc lb sb w5 h5 hSk)
        ·go_wp2_with fail
         have h2 := h1.one
         generalize hsb : w1.heap.size = sb at h2 ⊢
         generalize hwn : World.alloc w1 _ = w2 at h2 ⊢
         clear hsb hwn
         have hck := h2.chg
         refine ⟨fun _ => ?_, fun hSk => ?_⟩
         ·(repeat' refine And.intro ?_ ?_) <;> exact (hck.cell (by first | assumption | (simp; done) | (simp; omega) | omega) nbE).trans (by assumption)
         replace hSk := hSk (by rfl)
         clear hck
         (try clear h1)
         refine n_step 10 rfl (by kernel_rfl) ?_
         go_wp2_with fail
         refine (clone_any p _ w2 _ (hpd.chg0 h2.chg) hp8).mono ?_
         rintro en w5 ⟨v0, rfl, hoN, hcN⟩
         obtain ⟨ca, cc, rfl⟩ := hoN.form1
         have h5 := h2.call hoN hcN
         clear hoN hcN
         go_wp2_with fail
         have hck := h5.chg
         refine ⟨fun _ => ?_, fun hSk => ?_⟩
         ·(repeat' refine And.intro ?_ ?_) <;> exact (hck.cell (by first | assumption | (simp; done) | (simp; omega) | omega) nbE).trans (by assumption)
         replace hSk := hSk (by rfl)
         clear hck
         (try clear h2)
         exact n_listed (by kernel_rfl) (key2.goes ca cc lb sb w5 h5 hSk)
      ·intro ca cc sb w2 h2 hSk
       refine n_fork 14 16 rfl rfl (by kernel_rfl) ?_ ?_
       ·have hownK := h2.own rfl
        have hsbK := (h2.sl rfl).1
        refine wpList_own rfl (.tmp 26) (.tmp 29) 65 rfl wd.heap.size 3 Tryz.underlying65 infoInt1 rfl (by decide) rfl hownK rfl [intDt i1] [.int .i64 i1] rfl (ReadsC.single rfl ⟨rfl, rfl⟩) hsbK.news (fun e => by cases e) ?_ ?_ h2.chg.size ?_
        ·simp [maxLen]; omega
        ·simp; omega
        intro ao2 cap2 w6 hoN hcN hatN
        have h6 := h2.way hoN hcN hatN
        rw [List.length_map] at h6 ⊢
        clear hoN hcN hatN hownK hsbK
        go_wp2_with fail
        have hck := h6.chg
        refine ⟨fun _ => ?_, fun hSk => ?_⟩
        ·(repeat' refine And.intro ?_ ?_) <;> exact (hck.cell (by first | assumption | (simp; done) | (simp; omega) | omega) nbE).trans (by assumption)
        replace hSk := hSk (by rfl)
        clear hck
        (try clear h2)
        refine n_tA (v := ?_) 15 rfl (Or.inl ⟨by rfl, ?_⟩) ?_
        rotate_left 1
        ·(intro w' hSw; (try dsimp only at hSw); go_simp; try with_reducible rfl)
        simp only [Act.put, qA, qB, qC, qD, qE, qF]
        refine n_step 16 rfl (by kernel_rfl) ?_
        go_wp2_with fail
        have h7 := h6.box
        generalize hlb : w6.heap.size = lb at h7 ⊢
        generalize hwn : World.alloc w6 _ = w7 at h7 ⊢
        clear hlb hwn
        have hck := h7.chg
        refine ⟨fun _ => ?_, fun hSk => ?_⟩
        ·(repeat' refine And.intro ?_ ?_) <;> exact (hck.cell (by first | assumption | (simp; done) | (simp; omega) | omega) nbE).trans (by assumption)
        replace hSk := hSk (by rfl)
        clear hck
        (try clear h6)
        refine n_step 17 rfl (by kernel_rfl) ?_
        have hlfK := (h7.lf rfl).1
        have y0 : w7.cell? ⟨lb, 0, none⟩ = some (.int .i64 0) := hlfK.cell 0
        have y1 : w7.cell? ⟨lb, 1, none⟩ = some (.int .i64 0) := hlfK.cell 1
        have y2 : w7.cell? ⟨lb, 2, none⟩ = some (.int .i64 0) := hlfK.cell 2
        have y3 : w7.cell? ⟨lb, 3, none⟩ = some (.int .i64 0) := hlfK.cell 3
        have y4 : w7.cell? ⟨lb, 4, none⟩ = some (.slice none 0 0) := hlfK.cell 4
        have z0 : w7.frozen? ⟨lb, 0, none⟩ = false := hlfK.free 0
        have z1 : w7.frozen? ⟨lb, 1, none⟩ = false := hlfK.free 1
        have z2 : w7.frozen? ⟨lb, 2, none⟩ = false := hlfK.free 2
        have z3 : w7.frozen? ⟨lb, 3, none⟩ = false := hlfK.free 3
        have z4 : w7.frozen? ⟨lb, 4, none⟩ = false := hlfK.free 4
        have lK := hlfK.lt
        go_wp2_with fail
        have hlf := h7.leaf k1 mr md
        clear hlfK y0 y1 y2 y3 y4 z0 z1 z2 z3 z4 lK
        generalize hwn : World.setCell _ _ (Value.slice ao2 _ cap2) = w9 at hlf ⊢
        clear hwn
        (try clear h7)
        refine ⟨fun hx => absurd hx (by decide), fun hjk => ?_⟩
        clear hjk
        refine n_done (by kernel_rfl) ?_
        revert hlf; revert w9; revert lb; revert cap2; revert ao2; revert sb; revert cc; revert ca
        exact key3.goes
       ·go_wp2_with fail
        have h5 := h2.box
        generalize hlb : w2.heap.size = lb at h5 ⊢
        generalize hwn : World.alloc w2 _ = w5 at h5 ⊢
        clear hlb hwn
        have hck := h5.chg
        refine ⟨fun _ => ?_, fun hSk => ?_⟩
        ·(repeat' refine And.intro ?_ ?_) <;> exact (hck.cell (by first | assumption | (simp; done) | (simp; omega) | omega) nbE).trans (by assumption)
        replace hSk := hSk (by rfl)
        clear hck
        (try clear h2)
        exact n_listed (by kernel_rfl) (key2.goes ca cc lb sb w5 h5 hSk)
     ·intro ca cc lb sb w5 h5 hSk
      refine n_step 14 rfl (by kernel_rfl) ?_
      have hownK := h5.own rfl
      have hsbK := (h5.sl rfl).1
      refine wpList_own rfl (.tmp 26) (.tmp 29) 65 rfl wd.heap.size 3 Tryz.underlying65 infoInt1 rfl (by decide) rfl hownK rfl [intDt i1] [.int .i64 i1] rfl (ReadsC.single rfl ⟨rfl, rfl⟩) hsbK.news (fun e => by cases e) ?_ ?_ h5.chg.size ?_
      ·simp [maxLen]; omega
      ·simp; omega
      intro ao2 cap2 w6 hoN hcN hatN
      have h6 := h5.way hoN hcN hatN
      rw [List.length_map] at h6 ⊢
      clear hoN hcN hatN hownK hsbK
      go_wp2_with fail
      have hck := h6.chg
      refine ⟨fun _ => ?_, fun hSk => ?_⟩
      ·(repeat' refine And.intro ?_ ?_) <;> exact (hck.cell (by first | assumption | (simp; done) | (simp; omega) | omega) nbE).trans (by assumption)
      replace hSk := hSk (by rfl)
      clear hck
      (try clear h5)
      refine n_tA (v := ?_) 15 rfl (Or.inl ⟨by rfl, ?_⟩) ?_
      rotate_left 1
      ·(intro w' hSw; (try dsimp only at hSw); go_simp; try with_reducible rfl)
      simp only [Act.put, qA, qB, qC, qD, qE, qF]
      refine n_step 17 rfl (by kernel_rfl) ?_
      have hlfK := (h6.lf rfl).1
      have y0 : w6.cell? ⟨lb, 0, none⟩ = some (.int .i64 0) := hlfK.cell 0
      have y1 : w6.cell? ⟨lb, 1, none⟩ = some (.int .i64 0) := hlfK.cell 1
      have y2 : w6.cell? ⟨lb, 2, none⟩ = some (.int .i64 0) := hlfK.cell 2
      have y3 : w6.cell? ⟨lb, 3, none⟩ = some (.int .i64 0) := hlfK.cell 3
      have y4 : w6.cell? ⟨lb, 4, none⟩ = some (.slice none 0 0) := hlfK.cell 4
      have z0 : w6.frozen? ⟨lb, 0, none⟩ = false := hlfK.free 0
      have z1 : w6.frozen? ⟨lb, 1, none⟩ = false := hlfK.free 1
      have z2 : w6.frozen? ⟨lb, 2, none⟩ = false := hlfK.free 2
      have z3 : w6.frozen? ⟨lb, 3, none⟩ = false := hlfK.free 3
      have z4 : w6.frozen? ⟨lb, 4, none⟩ = false := hlfK.free 4
      have lK := hlfK.lt
      go_wp2_with fail
      have hlf := h6.leaf k1 mr md
      clear hlfK y0 y1 y2 y3 y4 z0 z1 z2 z3 z4 lK
      generalize hwn : World.setCell _ _ (Value.slice ao2 _ cap2) = w9 at hlf ⊢
      clear hwn
      (try clear h6)
      refine ⟨fun hx => absurd hx (by decide), fun hjk => ?_⟩
      clear hjk
      refine n_done (by kernel_rfl) ?_
      exact key3.goes ca cc sb ao2 cap2 lb w9 hlf
    intro ca cc sb ao2 cap2 lb w9 hlf
    have hn9 := hnd.keep hlf.chg nbE
    have hcl := hlf.lf
    have hll9 := hcl.lt
    have x0 : w9.cell? ⟨wr.heap.size, 0, none⟩ = some (.int .i64 (i1)) := hn9.cell 0
    have x1 : w9.cell? ⟨wr.heap.size, 1, none⟩ = some (.string n1) := hn9.cell 1
    have x2 : w9.cell? ⟨wr.heap.size, 2, none⟩ = some (.int .i64 (r1)) := hn9.cell 2
    have x3 : w9.cell? ⟨wr.heap.size, 3, none⟩ = some (.int .i64 (k1)) := hn9.cell 3
    have x4 : w9.cell? ⟨wr.heap.size, 4, none⟩ = some (.slice sa1 s1.length cap1) := hn9.cell 4
    have y0 : w9.cell? ⟨lb, 0, none⟩ = some (.int .i64 i1) := hcl.cell 0
    have y1 : w9.cell? ⟨lb, 1, none⟩ = some (.int .i64 k1) := hcl.cell 1
    have y2 : w9.cell? ⟨lb, 2, none⟩ = some (.int .i64 mr) := hcl.cell 2
    have y3 : w9.cell? ⟨lb, 3, none⟩ = some (.int .i64 md) := hcl.cell 3
    have y4 : w9.cell? ⟨lb, 4, none⟩ = some (.slice ao2 (p.length + 1) cap2) := hcl.cell 4
    have z0 : w9.frozen? ⟨lb, 0, none⟩ = false := hcl.free 0
    have z1 : w9.frozen? ⟨lb, 1, none⟩ = false := hcl.free 1
    have z2 : w9.frozen? ⟨lb, 2, none⟩ = false := hcl.free 2
    have z3 : w9.frozen? ⟨lb, 3, none⟩ = false := hcl.free 3
    have z4 : w9.frozen? ⟨lb, 4, none⟩ = false := hcl.free 4
    have hln9 := hn9.lt
    have hne9 : lb ≠ wr.heap.size := by have := hlf.le; omega
    clear hSk hs0
    by_cases hk0 : k1 = 0
    ·subst hk0
     by_cases hr3 : r1 = 3
     ·subst hr3
      go_wp2_with fail
      replace hlf := (hlf.set2 (mr + 1)).set3 (md + 1)
      generalize hW : World.setCell _ _ (Value.int .i64 (md + 1)) = w10 at hlf ⊢
      clear hW
      have hcT := hcd.tr hlf.chg
      have hoT := ho.keep hcT (fun _ _ => nbE) (fun _ _ => nbE)
      have hszT := hcT.size
      refine (Hih.out (.mk i1 n1 3 0 s1) w10 S (fun b => wd.heap.size ≤ b) _ _ ⟨i1, 0, mr + 1, md + 1, p ++ [i1]⟩ ?_ (hre.chg0 (hc.tr hcT)) hok1 (hlf.reads (by unfold maxLen; omega)) ?_ ?_ ?_ ?_ ?_ ?_).mono ?_
      ·simp only [Nd.weigh] at hm hw1 ⊢; omega
      ·simp only [Nd.weigh] at hw1 ⊢; omega
      ·dsimp only; omega
      ·simp only [Nd.high] at hh1 ⊢; omega
      ·dsimp only; omega
      ·simp only [Nd.high] at hh1 ⊢; omega
      ·simp only [Nd.high, List.length_append, List.length_cons, List.length_nil] at hh1 ⊢; omega
      rintro en w11 ⟨ao3, cap3, rfl, hrd3, hc3⟩
      rw [List.length_map] at hrd3
      have hN : lvN mr md p (.mk i1 n1 3 0 s1) = lvL (mr + 1) (md + 1) (p ++ [i1]) s1 := by simp [lvN, *]
      rw [hN] at hll
      have HN := Lib.hid hN
      have Hlw1 := Hlw.out
      clear hN
      obtain ⟨a3, c3, news, e3, _, _, hnews, hcell3, hnone3⟩ := news_of hrd3
      rw [List.length_map] at e3 hnone3
      obtain ⟨rfl, -, rfl⟩ := Value.slice.inj e3
      clear e3
      rw [show (Nd.mk i1 n1 3 0 s1).sub = s1 from rfl] at *
      go_wp2_with (at_builtin; refine stop_here ?_)
      refine Stop.go ?_
      have hcU := hcT.tr hc3
      have hoU := ho.keep hcU (fun _ _ => nbE) (fun _ _ => nbE)
      have hlA : ((lvL mr md p (s.take j)).map Lf.dt).length = (lvL mr md p (s.take j)).length := List.length_map ..
      refine wpList_own rfl (.tmp 49) (.tmp 52) 54 rfl (w.heap.size + 2) 72 Tryz.underlying54 infoLeaf rfl (by decide) rfl hoU rfl ((lvL (mr + 1) (md + 1) (p ++ [i1]) s1).map Lf.dt) news (List.length_map ..) (hnews.keep (fun b hb => ?_) (Nat.le_refl _) (fun _ _ _ => rfl)) hcell3 hnone3 ?_ ?_ ?_ ?_
      ·rcases hb with hb | hb
       ·exact hb.elim
       ·exact ⟨by omega, fun e => by have := (ho.block _ e).2; omega⟩
      ·rw [hlA]; unfold maxLen; omega
      ·rw [hlA]; omega
      ·have := hcU.size; omega
      intro ao4 cap4 wB hoB hcB hatB
      rw [hlA] at hoB ⊢
      have hcV : Chg NoB w wB := (hc.tr hcU).trans hcB (fun x e => .inr (by have := (hoU.block x e).1; omega))
      have hbV0 := (hb0.keep hcU nbE).keep hcB (fun e => by have := (hoU.block _ e).1; omega)
      have hbV1 := (hb1.keep hcU nbE).keep hcB (fun e => by have := (hoU.block _ e).1; omega)
      go_wp2_with fail
      go_roundw
      case rel =>
       have hl9 : lvL mr md p (s.take (j + 1)) = lvL mr md p (s.take j) ++ (lvL (mr + 1) (md + 1) (p ++ [i1]) s1) := by rw [Htake.out, lvL_append, lvL_one, HN.out]
       refine ⟨j + 1, ao4, cap4, hlt, by go_num, ?_, hcV, hbV0, hbV1, ?_⟩
       ·show Value.slice ao4 ((lvL mr md p (s.take j)).length + ((lvL (mr + 1) (md + 1) (p ++ [i1]) s1)).length) cap4 = _
        rw [hl9, List.length_append]
       ·rw [hl9, List.map_append]
        exact hoB
      case measure => simp [intOf]; omega
     ·by_cases hr1 : r1 = 1
      ·subst hr1
       go_wp2_with fail
       have hW : ∃ x, x = w9 := ⟨_, rfl⟩
       obtain ⟨w10, rfl⟩ := hW
       have hcT := hcd.tr hlf.chg
       have hoT := ho.keep hcT (fun _ _ => nbE) (fun _ _ => nbE)
       have hszT := hcT.size
       refine (Hih.out (.mk i1 n1 1 0 s1) w10 S (fun b => wd.heap.size ≤ b) _ _ ⟨i1, 0, mr, md, p ++ [i1]⟩ ?_ (hre.chg0 (hc.tr hcT)) hok1 (hlf.reads (by unfold maxLen; omega)) ?_ ?_ ?_ ?_ ?_ ?_).mono ?_
       ·simp only [Nd.weigh] at hm hw1 ⊢; omega
       ·simp only [Nd.weigh] at hw1 ⊢; omega
       ·dsimp only; omega
       ·simp only [Nd.high] at hh1 ⊢; omega
       ·dsimp only; omega
       ·simp only [Nd.high] at hh1 ⊢; omega
       ·simp only [Nd.high, List.length_append, List.length_cons, List.length_nil] at hh1 ⊢; omega
       rintro en w11 ⟨ao3, cap3, rfl, hrd3, hc3⟩
       rw [List.length_map] at hrd3
       have hN : lvN mr md p (.mk i1 n1 1 0 s1) = lvL (mr) (md) (p ++ [i1]) s1 := by simp [lvN, *]
       rw [hN] at hll
       have HN := Lib.hid hN
       have Hlw1 := Hlw.out
       clear hN
       obtain ⟨a3, c3, news, e3, _, _, hnews, hcell3, hnone3⟩ := news_of hrd3
       rw [List.length_map] at e3 hnone3
       obtain ⟨rfl, -, rfl⟩ := Value.slice.inj e3
       clear e3
       rw [show (Nd.mk i1 n1 1 0 s1).sub = s1 from rfl] at *
       go_wp2_with (at_builtin; refine stop_here ?_)
       refine Stop.go ?_
       have hcU := hcT.tr hc3
       have hoU := ho.keep hcU (fun _ _ => nbE) (fun _ _ => nbE)
       have hlA : ((lvL mr md p (s.take j)).map Lf.dt).length = (lvL mr md p (s.take j)).length := List.length_map ..
       refine wpList_own rfl (.tmp 49) (.tmp 52) 54 rfl (w.heap.size + 2) 72 Tryz.underlying54 infoLeaf rfl (by decide) rfl hoU rfl ((lvL (mr) (md) (p ++ [i1]) s1).map Lf.dt) news (List.length_map ..) (hnews.keep (fun b hb => ?_) (Nat.le_refl _) (fun _ _ _ => rfl)) hcell3 hnone3 ?_ ?_ ?_ ?_
       ·rcases hb with hb | hb
        ·exact hb.elim
        ·exact ⟨by omega, fun e => by have := (ho.block _ e).2; omega⟩
       ·rw [hlA]; unfold maxLen; omega
       ·rw [hlA]; omega
       ·have := hcU.size; omega
       intro ao4 cap4 wB hoB hcB hatB
       rw [hlA] at hoB ⊢
       have hcV : Chg NoB w wB := (hc.tr hcU).trans hcB (fun x e => .inr (by have := (hoU.block x e).1; omega))
       have hbV0 := (hb0.keep hcU nbE).keep hcB (fun e => by have := (hoU.block _ e).1; omega)
       have hbV1 := (hb1.keep hcU nbE).keep hcB (fun e => by have := (hoU.block _ e).1; omega)
       go_wp2_with fail
       go_roundw
       case rel =>
        have hl9 : lvL mr md p (s.take (j + 1)) = lvL mr md p (s.take j) ++ (lvL (mr) (md) (p ++ [i1]) s1) := by rw [Htake.out, lvL_append, lvL_one, HN.out]
        refine ⟨j + 1, ao4, cap4, hlt, by go_num, ?_, hcV, hbV0, hbV1, ?_⟩
        ·show Value.slice ao4 ((lvL mr md p (s.take j)).length + ((lvL (mr) (md) (p ++ [i1]) s1)).length) cap4 = _
         rw [hl9, List.length_append]
        ·rw [hl9, List.map_append]
         exact hoB
       case measure => simp [intOf]; omega
      ·go_wp2_with fail
       replace hlf := hlf.set3 (md + 1)
       generalize hW : World.setCell _ _ (Value.int .i64 (md + 1)) = w10 at hlf ⊢
       clear hW
       have hcT := hcd.tr hlf.chg
       have hoT := ho.keep hcT (fun _ _ => nbE) (fun _ _ => nbE)
       have hszT := hcT.size
       refine (Hih.out (.mk i1 n1 r1 0 s1) w10 S (fun b => wd.heap.size ≤ b) _ _ ⟨i1, 0, mr, md + 1, p ++ [i1]⟩ ?_ (hre.chg0 (hc.tr hcT)) hok1 (hlf.reads (by unfold maxLen; omega)) ?_ ?_ ?_ ?_ ?_ ?_).mono ?_
       ·simp only [Nd.weigh] at hm hw1 ⊢; omega
       ·simp only [Nd.weigh] at hw1 ⊢; omega
       ·dsimp only; omega
       ·simp only [Nd.high] at hh1 ⊢; omega
       ·dsimp only; omega
       ·simp only [Nd.high] at hh1 ⊢; omega
       ·simp only [Nd.high, List.length_append, List.length_cons, List.length_nil] at hh1 ⊢; omega
       rintro en w11 ⟨ao3, cap3, rfl, hrd3, hc3⟩
       rw [List.length_map] at hrd3
       have hN : lvN mr md p (.mk i1 n1 r1 0 s1) = lvL (mr) (md + 1) (p ++ [i1]) s1 := by simp [lvN, *]
       rw [hN] at hll
       have HN := Lib.hid hN
       have Hlw1 := Hlw.out
       clear hN
       obtain ⟨a3, c3, news, e3, _, _, hnews, hcell3, hnone3⟩ := news_of hrd3
       rw [List.length_map] at e3 hnone3
       obtain ⟨rfl, -, rfl⟩ := Value.slice.inj e3
       clear e3
       rw [show (Nd.mk i1 n1 r1 0 s1).sub = s1 from rfl] at *
       go_wp2_with (at_builtin; refine stop_here ?_)
       refine Stop.go ?_
       have hcU := hcT.tr hc3
       have hoU := ho.keep hcU (fun _ _ => nbE) (fun _ _ => nbE)
       have hlA : ((lvL mr md p (s.take j)).map Lf.dt).length = (lvL mr md p (s.take j)).length := List.length_map ..
       refine wpList_own rfl (.tmp 49) (.tmp 52) 54 rfl (w.heap.size + 2) 72 Tryz.underlying54 infoLeaf rfl (by decide) rfl hoU rfl ((lvL (mr) (md + 1) (p ++ [i1]) s1).map Lf.dt) news (List.length_map ..) (hnews.keep (fun b hb => ?_) (Nat.le_refl _) (fun _ _ _ => rfl)) hcell3 hnone3 ?_ ?_ ?_ ?_
       ·rcases hb with hb | hb
        ·exact hb.elim
        ·exact ⟨by omega, fun e => by have := (ho.block _ e).2; omega⟩
       ·rw [hlA]; unfold maxLen; omega
       ·rw [hlA]; omega
       ·have := hcU.size; omega
       intro ao4 cap4 wB hoB hcB hatB
       rw [hlA] at hoB ⊢
       have hcV : Chg NoB w wB := (hc.tr hcU).trans hcB (fun x e => .inr (by have := (hoU.block x e).1; omega))
       have hbV0 := (hb0.keep hcU nbE).keep hcB (fun e => by have := (hoU.block _ e).1; omega)
       have hbV1 := (hb1.keep hcU nbE).keep hcB (fun e => by have := (hoU.block _ e).1; omega)
       go_wp2_with fail
       go_roundw
       case rel =>
        have hl9 : lvL mr md p (s.take (j + 1)) = lvL mr md p (s.take j) ++ (lvL (mr) (md + 1) (p ++ [i1]) s1) := by rw [Htake.out, lvL_append, lvL_one, HN.out]
        refine ⟨j + 1, ao4, cap4, hlt, by go_num, ?_, hcV, hbV0, hbV1, ?_⟩
        ·show Value.slice ao4 ((lvL mr md p (s.take j)).length + ((lvL (mr) (md + 1) (p ++ [i1]) s1)).length) cap4 = _
         rw [hl9, List.length_append]
        ·rw [hl9, List.map_append]
         exact hoB
       case measure => simp [intOf]; omega
    ·by_cases hr3 : r1 = 3
     ·subst hr3
      go_wp2_with (at_builtin; refine stop_here ?_)
      refine Stop.go ?_
      replace hlf := (hlf.set2 (mr + 1)).set3 (md + 1)
      generalize hW : World.setCell _ _ (Value.int .i64 (md + 1)) = w10 at hlf ⊢
      have hsz10 : w10.heap.size = w9.heap.size := by rw [← hW]; simp
      clear hW
      have hcT := hcd.tr hlf.chg
      have hoT := ho.keep hcT (fun _ _ => nbE) (fun _ _ => nbE)
      have hszT := hcT.size
      have hN : lvN mr md p (.mk i1 n1 3 k1 s1) = [⟨i1, k1, mr + 1, md + 1, p ++ [i1]⟩] := by simp [lvN, *]
      rw [hN] at hll
      have HN := Lib.hid hN
      have Hlw1 := Hlw.out
      clear hN
      generalize hwA : World.alloc w10 _ = wA
      have hcA : Chg NoB w10 wA := by
       rw [← hwA]
       repeat (first | exact Chg.refl _ _ | apply Chg.alloc | apply Chg.drew)
      have hbA : Blk wA (w9.heap.size) [.int .i64 i1, .int .i64 k1, .int .i64 (mr + 1), .int .i64 (md + 1), .slice ao2 (p.length + 1) cap2] 72 := by
       rw [← hwA]
       exact Blk.newAt hsz10.symm
      clear hwA
      have hcU := hcT.tr hcA
      have hoU := ho.keep hcU (fun _ _ => nbE) (fun _ _ => nbE)
      have hlA : ((lvL mr md p (s.take j)).map Lf.dt).length = (lvL mr md p (s.take j)).length := List.length_map ..
      have hrA := (hlf.reads (by unfold maxLen; omega)).chg0 hcA
      refine wpList_own rfl (.tmp 54) (.tmp 56) 54 rfl (w.heap.size + 2) 72 Tryz.underlying54 infoLeaf rfl (by decide) rfl hoU rfl [Lf.dt ⟨i1, k1, mr + 1, md + 1, p ++ [i1]⟩] _ rfl (ReadsC.single rfl (hrA.mono ?_)) hbA.news (fun e => by cases e) ?_ ?_ ?_ ?_
      ·intro x hx
       have hx : wd.heap.size ≤ x := hx
       have := hcd.size
       exact ⟨by omega, fun e => by have := (ho.block x e).2; omega⟩
      ·rw [hlA]; unfold maxLen; omega
      ·rw [hlA]; omega
      ·have := hcU.size; omega
      intro ao4 cap4 wB hoB hcB hatB
      rw [hlA] at hoB ⊢
      have hcV : Chg NoB w wB := (hc.tr hcU).trans hcB (fun x e => .inr (by have := (hoU.block x e).1; omega))
      have hbV0 := (hb0.keep hcU nbE).keep hcB (fun e => by have := (hoU.block _ e).1; omega)
      have hbV1 := (hb1.keep hcU nbE).keep hcB (fun e => by have := (hoU.block _ e).1; omega)
      go_wp2_with fail
      go_roundw
      case rel =>
       have hl9 : lvL mr md p (s.take (j + 1)) = lvL mr md p (s.take j) ++ ([⟨i1, k1, mr + 1, md + 1, p ++ [i1]⟩] : List Lf) := by rw [Htake.out, lvL_append, lvL_one, HN.out]
       refine ⟨j + 1, ao4, cap4, hlt, by go_num, ?_, hcV, hbV0, hbV1, ?_⟩
       ·show Value.slice ao4 ((lvL mr md p (s.take j)).length + (([⟨i1, k1, mr + 1, md + 1, p ++ [i1]⟩] : List Lf)).length) cap4 = _
        rw [hl9, List.length_append]
       ·rw [hl9, List.map_append]
        exact hoB
      case measure => simp [intOf]; omega
     ·by_cases hr1 : r1 = 1
      ·subst hr1
       have hW : ∃ x, x = w9 := ⟨_, rfl⟩
       obtain ⟨w10, rfl⟩ := hW
       go_wp2_with (at_builtin; refine stop_here ?_)
       refine Stop.go ?_
       have hsz10 : w10.heap.size = w10.heap.size := rfl
       have hcT := hcd.tr hlf.chg
       have hoT := ho.keep hcT (fun _ _ => nbE) (fun _ _ => nbE)
       have hszT := hcT.size
       have hN : lvN mr md p (.mk i1 n1 1 k1 s1) = [⟨i1, k1, mr, md, p ++ [i1]⟩] := by simp [lvN, *]
       rw [hN] at hll
       have HN := Lib.hid hN
       have Hlw1 := Hlw.out
       clear hN
       generalize hwA : World.alloc w10 _ = wA
       have hcA : Chg NoB w10 wA := by
        rw [← hwA]
        repeat (first | exact Chg.refl _ _ | apply Chg.alloc | apply Chg.drew)
       have hbA : Blk wA (w10.heap.size) [.int .i64 i1, .int .i64 k1, .int .i64 (mr), .int .i64 (md), .slice ao2 (p.length + 1) cap2] 72 := by
        rw [← hwA]
        exact Blk.newAt hsz10.symm
       clear hwA
       have hcU := hcT.tr hcA
       have hoU := ho.keep hcU (fun _ _ => nbE) (fun _ _ => nbE)
       have hlA : ((lvL mr md p (s.take j)).map Lf.dt).length = (lvL mr md p (s.take j)).length := List.length_map ..
       have hrA := (hlf.reads (by unfold maxLen; omega)).chg0 hcA
       refine wpList_own rfl (.tmp 54) (.tmp 56) 54 rfl (w.heap.size + 2) 72 Tryz.underlying54 infoLeaf rfl (by decide) rfl hoU rfl [Lf.dt ⟨i1, k1, mr, md, p ++ [i1]⟩] _ rfl (ReadsC.single rfl (hrA.mono ?_)) hbA.news (fun e => by cases e) ?_ ?_ ?_ ?_
       ·intro x hx
        have hx : wd.heap.size ≤ x := hx
        have := hcd.size
        exact ⟨by omega, fun e => by have := (ho.block x e).2; omega⟩
       ·rw [hlA]; unfold maxLen; omega
       ·rw [hlA]; omega
       ·have := hcU.size; omega
       intro ao4 cap4 wB hoB hcB hatB
       rw [hlA] at hoB ⊢
       have hcV : Chg NoB w wB := (hc.tr hcU).trans hcB (fun x e => .inr (by have := (hoU.block x e).1; omega))
       have hbV0 := (hb0.keep hcU nbE).keep hcB (fun e => by have := (hoU.block _ e).1; omega)
       have hbV1 := (hb1.keep hcU nbE).keep hcB (fun e => by have := (hoU.block _ e).1; omega)
       go_wp2_with fail
       go_roundw
       case rel =>
        have hl9 : lvL mr md p (s.take (j + 1)) = lvL mr md p (s.take j) ++ ([⟨i1, k1, mr, md, p ++ [i1]⟩] : List Lf) := by rw [Htake.out, lvL_append, lvL_one, HN.out]
        refine ⟨j + 1, ao4, cap4, hlt, by go_num, ?_, hcV, hbV0, hbV1, ?_⟩
        ·show Value.slice ao4 ((lvL mr md p (s.take j)).length + (([⟨i1, k1, mr, md, p ++ [i1]⟩] : List Lf)).length) cap4 = _
         rw [hl9, List.length_append]
        ·rw [hl9, List.map_append]
         exact hoB
       case measure => simp [intOf]; omega
      ·go_wp2_with (at_builtin; refine stop_here ?_)
       refine Stop.go ?_
       replace hlf := hlf.set3 (md + 1)
       generalize hW : World.setCell _ _ (Value.int .i64 (md + 1)) = w10 at hlf ⊢
       have hsz10 : w10.heap.size = w9.heap.size := by rw [← hW]; simp
       clear hW
       have hcT := hcd.tr hlf.chg
       have hoT := ho.keep hcT (fun _ _ => nbE) (fun _ _ => nbE)
       have hszT := hcT.size
       have hN : lvN mr md p (.mk i1 n1 r1 k1 s1) = [⟨i1, k1, mr, md + 1, p ++ [i1]⟩] := by simp [lvN, *]
       rw [hN] at hll
       have HN := Lib.hid hN
       have Hlw1 := Hlw.out
       clear hN
       generalize hwA : World.alloc w10 _ = wA
       have hcA : Chg NoB w10 wA := by
        rw [← hwA]
        repeat (first | exact Chg.refl _ _ | apply Chg.alloc | apply Chg.drew)
       have hbA : Blk wA (w9.heap.size) [.int .i64 i1, .int .i64 k1, .int .i64 (mr), .int .i64 (md + 1), .slice ao2 (p.length + 1) cap2] 72 := by
        rw [← hwA]
        exact Blk.newAt hsz10.symm
       clear hwA
       have hcU := hcT.tr hcA
       have hoU := ho.keep hcU (fun _ _ => nbE) (fun _ _ => nbE)
       have hlA : ((lvL mr md p (s.take j)).map Lf.dt).length = (lvL mr md p (s.take j)).length := List.length_map ..
       have hrA := (hlf.reads (by unfold maxLen; omega)).chg0 hcA
       refine wpList_own rfl (.tmp 54) (.tmp 56) 54 rfl (w.heap.size + 2) 72 Tryz.underlying54 infoLeaf rfl (by decide) rfl hoU rfl [Lf.dt ⟨i1, k1, mr, md + 1, p ++ [i1]⟩] _ rfl (ReadsC.single rfl (hrA.mono ?_)) hbA.news (fun e => by cases e) ?_ ?_ ?_ ?_
       ·intro x hx
        have hx : wd.heap.size ≤ x := hx
        have := hcd.size
        exact ⟨by omega, fun e => by have := (ho.block x e).2; omega⟩
       ·rw [hlA]; unfold maxLen; omega
       ·rw [hlA]; omega
       ·have := hcU.size; omega
       intro ao4 cap4 wB hoB hcB hatB
       rw [hlA] at hoB ⊢
       have hcV : Chg NoB w wB := (hc.tr hcU).trans hcB (fun x e => .inr (by have := (hoU.block x e).1; omega))
       have hbV0 := (hb0.keep hcU nbE).keep hcB (fun e => by have := (hoU.block _ e).1; omega)
       have hbV1 := (hb1.keep hcU nbE).keep hcB (fun e => by have := (hoU.block _ e).1; omega)
       go_wp2_with fail
       go_roundw
       case rel =>
        have hl9 : lvL mr md p (s.take (j + 1)) = lvL mr md p (s.take j) ++ ([⟨i1, k1, mr, md + 1, p ++ [i1]⟩] : List Lf) := by rw [Htake.out, lvL_append, lvL_one, HN.out]
        refine ⟨j + 1, ao4, cap4, hlt, by go_num, ?_, hcV, hbV0, hbV1, ?_⟩
        ·show Value.slice ao4 ((lvL mr md p (s.take j)).length + (([⟨i1, k1, mr, md + 1, p ++ [i1]⟩] : List Lf)).length) cap4 = _
         rw [hl9, List.length_append]
        ·rw [hl9, List.map_append]
         exact hoB
       case measure => simp [intOf]; omega
   ·have hjl : j = s.length := by omega
    subst hjl
    rw [List.take_length] at ho
    go_wp2_with fail
    go_ret
    rw [List.take_length]
    refine ⟨ao, ac, by rw [List.length_map]; rfl, ?_, hc⟩
    rw [List.length_map]
    refine ho.reads (fun b hb => .inr ?_) (fun b hb _ => .inr ?_) ?_
    ·have hb : w.heap.size + 2 ≤ b := hb
     omega
    ·omega
    ·have := lvL_len s mr md p
     rw [List.length_map]
     unfold maxLen
     omega
def NameRel (s : ByteArray) (vi : Value) : Prop := ∃ j : Nat, j ≤ s.size ∧ vi = .int .i64 (j : Nat) ∧ (s.data.toList.take j).all lower = true
theorem notName {s : ByteArray} {j : Nat} {c : UInt8} {l : List UInt8} (h : s.data.toList.drop j = c :: l) (hc : lower c = false) : isNameB s = false := by
 unfold isNameB
 have h1 : s.data.toList.all lower = false := by
  rw [← List.take_append_drop j s.data.toList, h, List.all_append, List.all_cons, hc]
  simp
 rw [h1, Bool.and_false]
theorem isName2_any (s : ByteArray) (w : World) (hs : s.size ≤ 9223372036854775807) :
  Calls Tryz.prog 115 #[.string s] w fun e w' => e = .returned (.bool (isNameB s)) ∧ w' = w := by
 go_enter Tryz.func115, Tryz.ntmps115
 go_wp2_with fail
 go_loop [3] (fun vi => NameRel s vi) (fun vi => s.size - (intOf vi).toNat)
 case atStart => exact ⟨0, Nat.zero_le _, rfl, rfl⟩
 case round =>
  obtain ⟨j, hj, rfl, hall⟩ := hrel
  have Hall := Lib.hid hall
  clear hall
  have hsz : s.data.toList.length = s.size := Array.length_toList
  by_cases hlt : j < s.size
  ·have hlt2 : j < s.data.toList.length := by omega
   have htake : s.data.toList.take (j + 1) = s.data.toList.take j ++ [s[j]'hlt] := by
    rw [List.take_succ_eq_append_getElem hlt2]
    rfl
   have hdrop : s.data.toList.drop j = (s[j]'hlt) :: s.data.toList.drop (j + 1) := List.drop_eq_getElem_cons hlt2
   have Htake := Lib.hid htake
   have Hdrop := Lib.hid hdrop
   clear htake hdrop
   by_cases h1 : (s[j]'hlt).toNat < 97
   ·have h1' : (((s[j]'hlt).toNat : Nat) : Int) < 97 := by omega
    have hl : lower (s[j]'hlt) = false := by simp only [lower, decide_eq_false_iff_not]; omega
    have Hl := Lib.hid hl
    clear hl
    go_wp2_with fail
    go_ret
    rw [notName Hdrop.out Hl.out]
    exact ⟨rfl, rfl⟩
   ·have h1' : ¬ (((s[j]'hlt).toNat : Nat) : Int) < 97 := by omega
    by_cases h2 : 122 < (s[j]'hlt).toNat
    ·have h2' : (122 : Int) < (((s[j]'hlt).toNat : Nat) : Int) := by omega
     have hl : lower (s[j]'hlt) = false := by simp only [lower, decide_eq_false_iff_not]; omega
     have Hl := Lib.hid hl
     clear hl
     go_wp2_with fail
     go_ret
     rw [notName Hdrop.out Hl.out]
     exact ⟨rfl, rfl⟩
    ·have h2' : ¬ (122 : Int) < (((s[j]'hlt).toNat : Nat) : Int) := by omega
     have hl : lower (s[j]'hlt) = true := by simp only [lower, decide_eq_true_eq]; omega
     have Hl := Lib.hid hl
     clear hl
     go_wp2_with fail
     refine ⟨⟨j + 1, hlt, by go_num, ?_⟩, by simp [intOf]; omega⟩
     rw [Htake.out, List.all_append, Hall.out]
     simp [Hl.out]
  ·have hjs : j = s.size := by omega
   subst hjs
   have hfin : isNameB s = (decide (s.size ≠ 0) && decide (s.size ≤ 12)) := by
    have h3 := Hall.out
    rw [List.take_of_length_le (by omega)] at h3
    unfold isNameB
    rw [h3, Bool.and_true]
   have Hfin := Lib.hid hfin
   clear hfin
   by_cases h1 : s.size = 0
   ·go_wp2_with fail
    go_ret
    rw [Hfin.out]
    exact ⟨by simp [h1], rfl⟩
   ·by_cases h2 : s.size ≤ 12
    ·go_wp2_with fail
     go_ret
     rw [Hfin.out]
     refine ⟨?_, rfl⟩
     have h3 : (s.size : Int) ≤ 12 := by omega
     simp [h1, h2, h3]
    ·go_wp2_with fail
     go_ret
     rw [Hfin.out]
     refine ⟨?_, rfl⟩
     have h3 : ¬ (s.size : Int) ≤ 12 := by omega
     simp [h1, h2, h3]
structure PlAt (w : World) (b o : Nat) (p : Pl) : Prop where
 id : w.cell? ⟨b, o, none⟩ = some (.int .i64 p.n.id)
 name : w.cell? ⟨b, o + 1, none⟩ = some (.string p.n.name)
 rep : w.cell? ⟨b, o + 2, none⟩ = some (.int .i64 p.n.rep)
 kind : w.cell? ⟨b, o + 3, none⟩ = some (.int .i64 p.n.kind)
 sub : ∃ sa cap, w.cell? ⟨b, o + 4, none⟩ = some (.slice sa p.n.sub.length cap)
 deep : w.cell? ⟨b, o + 5, none⟩ = some (.int .i64 p.deep)
 around : w.cell? ⟨b, o + 6, none⟩ = some (.int .i64 p.around)
theorem PlAt.keep0 {w w' : World} {b o : Nat} {p : Pl} (h : PlAt w b o p) (hb : b < w.heap.size) (hc : Chg NoB w w') : PlAt w' b o p := by
 obtain ⟨sa, cap, hs⟩ := h.sub
 exact ⟨(hc.cell (p := ⟨b, o, none⟩) hb nbE).trans h.id, (hc.cell (p := ⟨b, o + 1, none⟩) hb nbE).trans h.name, (hc.cell (p := ⟨b, o + 2, none⟩) hb nbE).trans h.rep,
  (hc.cell (p := ⟨b, o + 3, none⟩) hb nbE).trans h.kind, ⟨sa, cap, (hc.cell (p := ⟨b, o + 4, none⟩) hb nbE).trans hs⟩, (hc.cell (p := ⟨b, o + 5, none⟩) hb nbE).trans h.deep, (hc.cell (p := ⟨b, o + 6, none⟩) hb nbE).trans h.around⟩
theorem pl_cells {w : World} {S : Nat → Prop} {l : List Pl} {a : Option Addr} {n c : Nat} (h : Reads w S (.list 7 (l.map Pl.dt)) [.slice a n c]) :
  n = l.length ∧ l.length ≤ c ∧ c ≤ maxLen ∧ (l.length ≠ 0 → ∃ b off, a = some ⟨b, off, none⟩ ∧ b < w.heap.size ∧ ∀ j p, l[j]? = some p → PlAt w b (off + j * 7) p) := by
 obtain ⟨a', c', h1, h2, h3, h4⟩ := reads_list h
 simp only [List.length_map] at h1 h2 h4
 obtain ⟨rfl, rfl, rfl⟩ := Value.slice.inj h1
 refine ⟨rfl, h2, h3, fun hne => ?_⟩
 obtain ⟨b, off, ha, hb, hlt, hE⟩ := h4 hne
 refine ⟨b, off, ha, hlt, fun j p hj => ?_⟩
 obtain ⟨cs, h5, h6, h7⟩ := hE.get j p.dt (by simp [hj])
 obtain ⟨⟨i1, n1, r1, k1, s1⟩, d1, a1⟩ := p
 obtain ⟨c, r', rfl, hnd, hrest⟩ := h7
 obtain ⟨v1, rfl, hs1⟩ := reads_nd.1 hnd
 obtain ⟨sa1, cap1, rfl, _, _, _⟩ := reads_subs hs1
 obtain ⟨c2, r2, rfl, ⟨rfl, _⟩, c3, r3, rfl, ⟨rfl, _⟩, rfl⟩ := hrest
 exact ⟨h6 0 _ rfl, h6 1 _ rfl, h6 2 _ rfl, h6 3 _ rfl, ⟨sa1, cap1, h6 4 _ rfl⟩, h6 5 _ rfl, h6 6 _ rfl⟩
def NameOk (L : List Pl) (i : Nat) (p : Pl) : Prop := isNameB p.n.name = true ∧ ∀ k q, 1 ≤ k → k < i → L[k]? = some q → ¬ (q.around = p.around ∧ q.n.name = p.n.name)
def IdOk (L : List Pl) (i : Nat) (p : Pl) : Prop := 1 ≤ p.n.id ∧ p.n.id ≤ 1000 ∧ ∀ k q, 1 ≤ k → k < i → L[k]? = some q → q.n.id ≠ p.n.id
def AllOk (L : List Pl) (F : Nat → Pl → Prop) : Prop := ∀ i p, 1 ≤ i → L[i]? = some p → F i p
def FitOk (_ : Nat) (p : Pl) : Prop := 1 ≤ p.n.rep ∧ p.n.rep ≤ 3 ∧ 0 ≤ p.n.kind ∧ p.n.kind ≤ 5 ∧ (p.n.kind = 0 ↔ p.n.sub.length ≠ 0)
inductive ErrSpec (nd : Nd) (L : List Pl) : Int → Prop
 | many (h : 40 < L.length) : ErrSpec nd L 2
 | high (h : L.length ≤ 40) (p : Pl) (hp : p ∈ L) (h6 : 6 < p.deep) : ErrSpec nd L 2
 | root (h : L.length ≤ 40) (hd : ∀ p ∈ L, p.deep ≤ 6) (hr : rootB nd = false) : ErrSpec nd L 3
 | fit (h : L.length ≤ 40) (hd : ∀ p ∈ L, p.deep ≤ 6) (hr : rootB nd = true) (hf : ¬ AllOk L FitOk) : ErrSpec nd L 3
 | name (h : L.length ≤ 40) (hd : ∀ p ∈ L, p.deep ≤ 6) (hr : rootB nd = true) (hf : AllOk L FitOk) (hn : ¬ AllOk L (NameOk L)) : ErrSpec nd L 5
 | num (h : L.length ≤ 40) (hd : ∀ p ∈ L, p.deep ≤ 6) (hr : rootB nd = true) (hf : AllOk L FitOk) (hn : AllOk L (NameOk L)) (hi : ¬ AllOk L (IdOk L)) : ErrSpec nd L 5
 | ok (h : L.length ≤ 40) (hd : ∀ p ∈ L, p.deep ≤ 6) (hr : rootB nd = true) (hf : AllOk L FitOk) (hn : AllOk L (NameOk L)) (hi : AllOk L (IdOk L)) : ErrSpec nd L 0
end Go.Proofs.YtkchmgjmecojcaaGreatDoor
