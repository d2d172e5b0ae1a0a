/-
  A datum as plain data, and as it reads in memory.; The copy of a datum (shredcolref2.OwnDatum, OwnData): new memory that reads the same; nothing that was there has changed.; strings.Builder: what WriteString does to a builder of the call's own, with all that it leaves as it was (the shelf's contract, walked over this translation, whose copyCheck bears a stop).; append of one node to a list that li
-/
import Derived.Test.YtgcmfpcgmkkobaaGreatDoorNode
import Derived.Test.YtgcmfpcgmkkobaaGreatDoorWalk
import Derived.Test.YtgcmfpcgmkkobaaGreatDoorProg
import Derived.Lib.Builder
import Derived.Lib.AppendStr
import Derived.Lib.UnsafeStr
import Derived.Lib.MakeNoZero
import Derived.Laws.Externs
import Derived.Lib.OthersKept
import Derived.Test.YtgcmfpcgmkkobaaGreatDoorTree
import Derived.Maps.AppendAt
import Derived.OpenShut
import Derived.ProofKit
set_option linter.unusedVariables false
set_option maxHeartbeats 20000000
set_option maxRecDepth 100000
set_option linter.unusedSimpArgs false
namespace Go.Proofs.YtgcmfpcgmkkobaaGreatDoor
open Go.RowKit
inductive Dm where
 | mk (no : Bool) (k n : Int) (s : ByteArray) (l f : List Dm)
def Dm.no : Dm → Bool | .mk b _ _ _ _ _ => b
def Dm.k : Dm → Int | .mk _ k _ _ _ _ => k
def Dm.n : Dm → Int | .mk _ _ n _ _ _ => n
def Dm.s : Dm → ByteArray | .mk _ _ _ s _ _ => s
def Dm.l : Dm → List Dm | .mk _ _ _ _ l _ => l
def Dm.f : Dm → List Dm | .mk _ _ _ _ _ f => f
mutual
def Dm.dt : Dm → Dt
 | .mk b k n s l f => .agg [.lit (.bool b), .lit (.int .i64 k), .lit (.int .i64 n), .lit (.string s), .list 6 (Dm.dts l), .list 6 (Dm.dts f)]
def Dm.dts : List Dm → List Dt
 | [] => []
 | d :: ds => d.dt :: Dm.dts ds
end
theorem Dm.dts_eq : ∀ l : List Dm, Dm.dts l = l.map Dm.dt
 | [] => rfl
 | n :: ns => by simp [Dm.dts, Dm.dts_eq ns]
theorem Dm.dts_append (a b : List Dm) : Dm.dts (a ++ b) = Dm.dts a ++ Dm.dts b := by simp [Dm.dts_eq]
mutual
def Dm.ok : Dm → Prop
 | .mk _ k n s l f => I64 k ∧ I64 n ∧ s.size ≤ reach ∧ l.length * 88 ≤ reach ∧ f.length * 88 ≤ reach ∧ Dm.oks l ∧ Dm.oks f
def Dm.oks : List Dm → Prop
 | [] => True
 | d :: ds => d.ok ∧ Dm.oks ds
end
theorem Dm.oks_mem : ∀ {l : List Dm}, Dm.oks l → ∀ n ∈ l, n.ok
 | [], _, n, h => by cases h
 | x :: xs, h, n, hn => by
  rcases List.mem_cons.1 hn with rfl | hn
  ·exact h.1
  ·exact Dm.oks_mem h.2 n hn
mutual
def Dm.weigh : Dm → Nat
 | .mk _ _ _ _ l f => 1 + Dm.weighs l + Dm.weighs f
def Dm.weighs : List Dm → Nat
 | [] => 0
 | d :: ds => d.weigh + Dm.weighs ds
end
theorem Dm.weigh_mem : ∀ {l : List Dm} {n : Dm}, n ∈ l → n.weigh ≤ Dm.weighs l
 | [], n, h => by cases h
 | x :: xs, n, h => by
  rcases List.mem_cons.1 h with rfl | h
  ·simp [Dm.weighs]
  ·have := Dm.weigh_mem h
   simp [Dm.weighs]; omega
def dmCells (b : Bool) (k n : Int) (s : ByteArray) (l f : Value) : List Value := [.bool b, .int .i64 k, .int .i64 n, .string s, l, f]
theorem reads_dm {w : World} {S : Nat → Prop} {b : Bool} {k n : Int} {s : ByteArray} {l f : List Dm} {cs : List Value} :
  Reads w S (Dm.dt (.mk b k n s l f)) cs ↔ ∃ vl vf, cs = [.bool b, .int .i64 k, .int .i64 n, .string s, vl, vf] ∧ Reads w S (.list 6 (Dm.dts l)) [vl] ∧ Reads w S (.list 6 (Dm.dts f)) [vf] := by
 simp only [Dm.dt, Reads, ReadsF]
 constructor
 ·rintro ⟨c0, r0, rfl, ⟨rfl, _⟩, c1, r1, rfl, ⟨rfl, _⟩, c2, r2, rfl, ⟨rfl, _⟩, c3, r3, rfl, ⟨rfl, _⟩, c4, r4, rfl, ⟨a, cap, rfl, h⟩, c5, r5, rfl, ⟨a', cap', rfl, h'⟩, rfl⟩
  exact ⟨_, _, rfl, ⟨a, cap, rfl, h⟩, ⟨a', cap', rfl, h'⟩⟩
 ·rintro ⟨vl, vf, rfl, ⟨a, cap, h0, h⟩, ⟨a', cap', h0', h'⟩⟩
  exact ⟨[_], _, rfl, ⟨rfl, rfl⟩, [_], _, rfl, ⟨rfl, rfl⟩, [_], _, rfl, ⟨rfl, rfl⟩, [_], _, rfl, ⟨rfl, rfl⟩, [vl], _, rfl, ⟨a, cap, h0, h⟩, [vf], [], rfl, ⟨a', cap', h0', h'⟩, rfl⟩
theorem reads_data {w : World} {S : Nat → Prop} {l : List Dm} {v : Value} (h : Reads w S (.list 6 (Dm.dts l)) [v]) :
  ∃ a cap, v = .slice a l.length cap ∧ l.length ≤ cap ∧ cap ≤ maxLen ∧ (l.length ≠ 0 → ∃ b off, a = some ⟨b, off, none⟩ ∧ S b ∧ b < w.heap.size ∧ ReadsE w S 6 b off (l.map Dm.dt)) := by
 obtain ⟨a, cap, h1, h2, h3, h4⟩ := reads_list h
 simp only [Dm.dts_eq, List.length_map] at h1 h2 h4
 exact ⟨a, cap, h1, h2, h3, h4⟩
theorem store6 {w : World} {b : Nat} {c0 c1 c2 c3 c4 c5 : Value} {t : TypeId} (h : Blk w b [c0, c1, c2, c3, c4, c5] t) (v0 v1 v2 v3 v4 v5 : Value) :
  Blk (World.setCell (World.setCell (World.setCell (World.setCell (World.setCell (World.setCell w ⟨b, 0, none⟩ v0) ⟨b, 1, none⟩ v1) ⟨b, 2, none⟩ v2) ⟨b, 3, none⟩ v3) ⟨b, 4, none⟩ v4) ⟨b, 5, none⟩ v5) b [v0, v1, v2, v3, v4, v5] t :=
 (((((h.set 0 v0).set 1 v1).set 2 v2).set 3 v3).set 4 v4).set 5 v5
theorem store6_chg (w : World) (b : Nat) (v0 v1 v2 v3 v4 v5 : Value) :
  Chg (OneB b) w (World.setCell (World.setCell (World.setCell (World.setCell (World.setCell (World.setCell w ⟨b, 0, none⟩ v0) ⟨b, 1, none⟩ v1) ⟨b, 2, none⟩ v2) ⟨b, 3, none⟩ v3) ⟨b, 4, none⟩ v4) ⟨b, 5, none⟩ v5) :=
 ((((((Chg.refl (OneB b) w).setCell (p := ⟨b, 0, none⟩) (.inl rfl) v0).setCell (p := ⟨b, 1, none⟩) (.inl rfl) v1).setCell (p := ⟨b, 2, none⟩) (.inl rfl) v2).setCell (p := ⟨b, 3, none⟩) (.inl rfl) v3).setCell (p := ⟨b, 4, none⟩) (.inl rfl) v4).setCell (p := ⟨b, 5, none⟩) (.inl rfl) v5
theorem infoDatum : (Tryz.prog.info? 43).map (fun i => (i.zero, i.size, i.bytes)) = some (some (.agg #[.bool false, .int .i64 0, .int .i64 0, .string ⟨#[]⟩, .slice none 0 0, .slice none 0 0]), 6, 88) := by kernel_rfl
def RetData (l : List Dm) (w : World) (e : Ending) (w' : World) : Prop :=
 ∃ v, e = .returned v ∧ Reads w' (fun b => w.heap.size ≤ b) (.list 6 (Dm.dts l)) [v] ∧ Chg NoB w w'
def OwnDRel (w : World) (l : List Dm) (vo vi : Value) (wr : World) : Prop :=
 ∃ j ao c, j ≤ l.length ∧ vi = .int .i64 (j : Nat) ∧ vo = .slice ao j c ∧ Chg NoB w wr ∧ Own wr w.heap.size 43 6 (fun b => w.heap.size ≤ b) vo (Dm.dts (l.take j))
theorem ownData_of (l : List Dm) (hcall : ∀ d ∈ l, ∀ (w : World) (S : Nat → Prop) (cs : List Value), Reads w S d.dt cs → Calls Tryz.prog 20 #[.agg cs.toArray] w (RetNew d.dt w))
  (w : World) (S : Nat → Prop) (v : Value) (hr : Reads w S (.list 6 (Dm.dts l)) [v]) (hl : l.length * 88 ≤ reach) : Calls Tryz.prog 37 #[v] w (RetData l w) := by
 obtain ⟨a, cap, rfl, hlen, hcap, hel⟩ := reads_data hr
 unfold reach at hl
 have Hcall := Lib.hid hcall
 clear hcall
 go_enter Tryz.func37, Tryz.ntmps37
 go_wp2_with fail
 go_loopw [3, 4] (fun vo vi wr => OwnDRel w l vo vi wr) (fun _ vi _ => l.length - (intOf vi).toNat)
 case atStart => exact ⟨0, none, 0, Nat.zero_le _, rfl, rfl, Chg.refl _ _, by simpa [Dm.dts] using Own.nil _ _ _ _ _⟩
 case round =>
  obtain ⟨j, ao, c, hj, rfl, rfl, hc, ho⟩ := hrel
  by_cases hlt : j < l.length
  ·have hltI : (j : Int) < (l.length : Int) := by omega
   obtain ⟨b, off, rfl, hSb, hbw, hE⟩ := hel (by omega)
   obtain ⟨ecs, hl6, hcells, hre⟩ := hE.get j l[j].dt (by simp [hlt])
   have hmem : l[j] ∈ l := List.getElem_mem hlt
   have hcall := Hcall.out _ hmem
   have htake : l.take (j + 1) = l.take j ++ [l[j]] := List.take_succ_eq_append_getElem hlt
   have Htake := Lib.hid htake
   have Hc1 := Lib.hid hcall
   clear htake hcall hmem
   generalize l[j] = dj at hre Htake Hc1
   obtain ⟨b1, k1, n1, s1, l1, f1⟩ := dj
   obtain ⟨vl1, vf1, rfl, hs1, hs2⟩ := reads_dm.1 hre
   have hf : ∀ t c, [Value.bool b1, .int .i64 k1, .int .i64 n1, .string s1, vl1, vf1][t]? = some c → wr.cell? ⟨b, off + j * 6 + t, none⟩ = some c := fun t c ht => (hc.cell (p := ⟨b, off + j * 6 + t, none⟩) hbw (fun e => e)).trans (hcells t c ht)
   have e0 : wr.cell? ⟨b, off + j * 6, none⟩ = some (.bool b1) := hf 0 _ rfl
   have e1 : wr.cell? ⟨b, off + j * 6 + 1, none⟩ = some (.int .i64 k1) := hf 1 _ rfl
   have e2 : wr.cell? ⟨b, off + j * 6 + 2, none⟩ = some (.int .i64 n1) := hf 2 _ rfl
   have e3 : wr.cell? ⟨b, off + j * 6 + 3, none⟩ = some (.string s1) := hf 3 _ rfl
   have e4 : wr.cell? ⟨b, off + j * 6 + 4, none⟩ = some vl1 := hf 4 _ rfl
   have e5 : wr.cell? ⟨b, off + j * 6 + 5, none⟩ = some vf1 := hf 5 _ rfl
   clear hf hcells
   go_wp2_with fail
   refine (Hc1.out wr S _ (hre.chg0 hc)).mono ?_
   rintro e w1 ⟨ecs, rfl, hr1, hc1⟩
   obtain ⟨vl2, vf2, rfl, hs3, hs4⟩ := reads_dm.1 hr1
   obtain ⟨a3, c3, rfl, _, _, _⟩ := reads_data hs3
   obtain ⟨a4, c4, rfl, _, _, _⟩ := reads_data hs4
   clear e0 e1 e2 e3 e4 e5
   go_wp2_with (at_builtin; refine stop_here ?_)
   refine Stop.go ?_
   generalize hw2 : w1.alloc _ = w2
   have hc2 : Chg NoB w1 w2 := by
    rw [← hw2]
    repeat (first | exact Chg.refl _ _ | apply Chg.alloc | apply Chg.drew)
   have hb2 : Blk w2 (w1.heap.size) ([.bool b1, .int .i64 k1, .int .i64 n1, .string s1, .slice a3 l1.length c3, .slice a4 f1.length c4]) 43 := by
    rw [← hw2]
    repeat (first | exact Blk.newAt (by first | rfl | (simp; done) | (simp; omega)) | apply Blk.alloc | apply Blk.drew)
   clear hw2
   have hr2 := hr1.chg0 hc2
   have hc12 := hc1.tr hc2
   have ho2 := ho.keep hc12 (fun _ _ e => nbE e) (fun _ _ e => nbE e)
   have hob := ho.block
   have hsz := hc.size
   have hjl : (Dm.dts (l.take j)).length = j := by rw [Dm.dts_eq, List.length_map, List.length_take]; omega
   refine wpList_own rfl (.tmp 11) (.tmp 17) 41 rfl w.heap.size 43 Tryz.underlying41 infoDatum rfl (by decide) rfl ho2 rfl [Dm.dt (.mk b1 k1 n1 s1 l1 f1)] _ rfl (ReadsC.single rfl (hr2.mono ?_)) hb2.news (fun e => by cases e) ?_ ?_ ?_ ?_
   ·intro b hb
    have hb : wr.heap.size ≤ b := hb
    exact ⟨by omega, fun e => by have := (hob b e).2; omega⟩
   ·rw [hjl]; unfold maxLen; omega
   ·rw [hjl]; omega
   ·have := hc12.size; omega
   intro ao3 cap3 w3 ho3 hc3 hat
   rw [hjl] at ho3 hat ⊢
   go_wp2_with fail
   go_roundw
   case rel =>
    refine ⟨j + 1, _, _, hlt, by go_num, rfl, (hc.tr hc12).trans hc3 (fun b e => .inr (hob b e).1), ?_⟩
    rw [Htake.out, Dm.dts_append]
    exact ho3
   case measure => simp [intOf]; omega
  ·have hjl : j = l.length := by omega
   subst hjl
   have hltI : ¬ ((l.length : Int) < (l.length : Int)) := by omega
   rw [List.take_length] at ho
   go_wp2_with fail
   go_ret
   refine ⟨.slice ao l.length c, rfl, ho.reads (fun b hb => hb) (fun b hb _ => hb) ?_, hc⟩
   rw [Dm.dts_eq, List.length_map]; omega
theorem ownDatum_any : ∀ (m : Nat) (d : Dm) (w : World) (S : Nat → Prop) (cs : List Value), d.weigh ≤ m → Reads w S d.dt cs → d.ok →
  Calls Tryz.prog 20 #[.agg cs.toArray] w (RetNew d.dt w) := by
 intro m
 induction m with
 | zero => intro d w S cs hm; cases d; simp [Dm.weigh] at hm
 | succ m ih =>
  intro d w S cs hm hr hok
  obtain ⟨b, k, n, s, l, f⟩ := d
  obtain ⟨vl, vf, rfl, hsl, hsf⟩ := reads_dm.1 hr
  obtain ⟨hk, hn, hs, hl, hf, hol, hof⟩ := hok
  simp only [Dm.weigh] at hm
  have dl := fun w => ownData_of l (fun d hd w S cs hr => ih d w S cs (by have := Dm.weigh_mem hd; omega) hr (Dm.oks_mem hol d hd)) w
  have df := fun w => ownData_of f (fun d hd w S cs hr => ih d w S cs (by have := Dm.weigh_mem hd; omega) hr (Dm.oks_mem hof d hd)) w
  have Dl := Lib.hid dl
  have Df := Lib.hid df
  clear dl df ih
  have hsl' := hsl
  have hsf' := hsf
  obtain ⟨al, cl, rfl, _, _, _⟩ := reads_data hsl
  obtain ⟨af, cf, rfl, _, _, _⟩ := reads_data hsf
  clear hsl hsf
  go_enter Tryz.func20, Tryz.ntmps20
  go_wp2_with fail
  generalize hw1 : World.alloc _ _ = w1
  have hc1 : Chg NoB w w1 := by
   rw [← hw1]
   repeat (first | exact Chg.refl _ _ | apply Chg.alloc | apply Chg.drew)
  have hb1 : Blk w1 (w.heap.size) (dmCells b k n s (.slice al l.length cl) (.slice af f.length cf)) 43 := by
   rw [← hw1]
   repeat (first | exact Blk.newAt (by first | rfl | (simp; done) | (simp; omega)) | apply Blk.alloc | apply Blk.drew)
  have hr1 : Blk w1 (w.heap.size + 1) (dmCells false 0 0 ⟨#[]⟩ (.slice none 0 0) (.slice none 0 0)) 43 := by
   rw [← hw1]
   repeat (first | exact Blk.newAt (by first | rfl | (simp; done) | (simp; omega)) | apply Blk.alloc | apply Blk.drew)
  clear hw1
  have x0 : w1.cell? ⟨w.heap.size, 0, none⟩ = some (.bool b) := hb1.cell 0
  have x1 : w1.cell? ⟨w.heap.size, 1, none⟩ = some (.int .i64 (k)) := hb1.cell 1
  have x2 : w1.cell? ⟨w.heap.size, 2, none⟩ = some (.int .i64 (n)) := hb1.cell 2
  have x3 : w1.cell? ⟨w.heap.size, 3, none⟩ = some (.string s) := hb1.cell 3
  have x4 : w1.cell? ⟨w.heap.size, 4, none⟩ = some (.slice al l.length cl) := hb1.cell 4
  have x5 : w1.cell? ⟨w.heap.size, 5, none⟩ = some (.slice af f.length cf) := hb1.cell 5
  refine wp_region_n (fun w' => w'.cell? ⟨w.heap.size, 0, none⟩ = some (.bool b) ∧ w'.cell? ⟨w.heap.size, 1, none⟩ = some (.int .i64 k) ∧ w'.cell? ⟨w.heap.size, 2, none⟩ = some (.int .i64 n) ∧ w'.cell? ⟨w.heap.size, 3, none⟩ = some (.string s) ∧ w'.cell? ⟨w.heap.size, 4, none⟩ = some (.slice al l.length cl) ∧ w'.cell? ⟨w.heap.size, 5, none⟩ = some (.slice af f.length cf)) [11] (by kernel_rfl) ?_ (fun hSh => ?_)
  ·exact ⟨x0, x1, x2, x3, x4, x5⟩
  refine n_from 0 ?_
  intro htk
  iterate 6
   refine n_tB (v := ?_) htk rfl (Or.inl ⟨by rfl, ?_⟩) ?_
   rotate_left 1
   ·(intro w' hSw; (try dsimp only at hSw); go_simp; try with_reducible rfl)
   clear htk
   intro htk
   simp only [Nat.reduceAdd] at htk
   simp only [Act.put, qA, qB, qC, qD, qE, qF]
  clear htk
  refine n_tA (v := ?_) 7 rfl (Or.inl ⟨by rfl, ?_⟩) ?_
  rotate_left 1
  ·(intro w' hSw; (try dsimp only at hSw); go_simp; try with_reducible rfl)
  simp only [Act.put, qA, qB, qC, qD, qE, qF]
  refine n_tA (v := ?_) 8 rfl (Or.inl ⟨by rfl, ?_⟩) ?_
  rotate_left 1
  ·(intro w' hSw; (try dsimp only at hSw); go_simp; try with_reducible rfl)
  simp only [Act.put, qA, qB, qC, qD, qE, qF]
  refine n_step 6 rfl (by kernel_rfl) ?_
  go_wp2_with fail
  refine (Dl.out w1.drew S _ (hsl'.chg0 hc1.drew) hl).mono ?_
  rintro en w2 ⟨v2, rfl, hr2, hc2⟩
  replace hc2 := hc2.ofDrew
  obtain ⟨a2, c2, rfl, _, _, _⟩ := reads_data hr2
  go_wp2_with fail
  have hb2 := hb1.keep hc2 nbE
  refine ⟨fun _ => ⟨hb2.cell 0, hb2.cell 1, hb2.cell 2, hb2.cell 3, hb2.cell 4, hb2.cell 5⟩, fun hSk => ?_⟩
  replace hSk := hSk (by rfl)
  refine n_step 9 rfl (by kernel_rfl) ?_
  go_wp2_with fail
  refine (Df.out w2 S _ (hsf'.chg0 (hc1.tr hc2)) hf).mono ?_
  rintro en w3 ⟨v3, rfl, hr3, hc3⟩
  obtain ⟨a3, c3, rfl, _, _, _⟩ := reads_data hr3
  go_wp2_with fail
  have hb3 := hb2.keep hc3 nbE
  refine ⟨fun _ => ⟨hb3.cell 0, hb3.cell 1, hb3.cell 2, hb3.cell 3, hb3.cell 4, hb3.cell 5⟩, fun hSk3 => ?_⟩
  replace hSk3 := hSk3 (by rfl)
  refine n_tA (v := ?_) 10 rfl (Or.inl ⟨by rfl, ?_⟩) ?_
  rotate_left 1
  ·(intro w' hSw; (try dsimp only at hSw); go_simp; try with_reducible rfl)
  simp only [Act.put, qA, qB, qC, qD, qE, qF]
  have hr3' := (hr1.keep hc2 nbE).keep hc3 nbE
  have y0 : w3.cell? ⟨w.heap.size + 1, 0, none⟩ = some (.bool false) := hr3'.cell 0
  have y1 : w3.cell? ⟨w.heap.size + 1, 1, none⟩ = some (.int .i64 (0)) := hr3'.cell 1
  have y2 : w3.cell? ⟨w.heap.size + 1, 2, none⟩ = some (.int .i64 (0)) := hr3'.cell 2
  have y3 : w3.cell? ⟨w.heap.size + 1, 3, none⟩ = some (.string ⟨#[]⟩) := hr3'.cell 3
  have y4 : w3.cell? ⟨w.heap.size + 1, 4, none⟩ = some (.slice none 0 0) := hr3'.cell 4
  have y5 : w3.cell? ⟨w.heap.size + 1, 5, none⟩ = some (.slice none 0 0) := hr3'.cell 5
  have z0 : w3.frozen? ⟨w.heap.size + 1, 0, none⟩ = false := hr3'.free 0
  have z1 : w3.frozen? ⟨w.heap.size + 1, 1, none⟩ = false := hr3'.free 1
  have z2 : w3.frozen? ⟨w.heap.size + 1, 2, none⟩ = false := hr3'.free 2
  have z3 : w3.frozen? ⟨w.heap.size + 1, 3, none⟩ = false := hr3'.free 3
  have z4 : w3.frozen? ⟨w.heap.size + 1, 4, none⟩ = false := hr3'.free 4
  have z5 : w3.frozen? ⟨w.heap.size + 1, 5, none⟩ = false := hr3'.free 5
  refine n_step 11 rfl (by kernel_rfl) ?_
  go_wp2_with fail
  refine ⟨fun hx => absurd hx (by decide), fun _ => ?_⟩
  refine n_done (by kernel_rfl) ?_
  have hck := (hc1.tr hc2).tr hc3
  have hz1 := hr1.lt
  have hz2 := hc2.size
  have hz3 := hc3.size
  have hbE := store6 hr3' (.bool b) (.int .i64 (k)) (.int .i64 (n)) (.string s) (.slice a2 l.length c2) (.slice a3 f.length c3)
  have hsE := store6_chg w3 (w.heap.size + 1) (.bool b) (.int .i64 (k)) (.int .i64 (n)) (.string s) (.slice a2 l.length c2) (.slice a3 f.length c3)
  have hcE := hck.trans hsE (fun i e => .inr (by have e : i = w.heap.size + 1 := e; omega))
  generalize World.setCell (World.setCell (World.setCell (World.setCell (World.setCell (World.setCell w3 ⟨w.heap.size + 1, 0, none⟩ (.bool b)) ⟨w.heap.size + 1, 1, none⟩ (.int .i64 (k))) ⟨w.heap.size + 1, 2, none⟩ (.int .i64 (n))) ⟨w.heap.size + 1, 3, none⟩ (.string s)) ⟨w.heap.size + 1, 4, none⟩ (.slice a2 l.length c2)) ⟨w.heap.size + 1, 5, none⟩ (.slice a3 f.length c3) = wE at hbE hsE hcE ⊢
  have n0 : wE.cell? ⟨w.heap.size + 1, 0, none⟩ = some (.bool b) := hbE.cell 0
  have n1 : wE.cell? ⟨w.heap.size + 1, 1, none⟩ = some (.int .i64 (k)) := hbE.cell 1
  have n2 : wE.cell? ⟨w.heap.size + 1, 2, none⟩ = some (.int .i64 (n)) := hbE.cell 2
  have n3 : wE.cell? ⟨w.heap.size + 1, 3, none⟩ = some (.string s) := hbE.cell 3
  have n4 : wE.cell? ⟨w.heap.size + 1, 4, none⟩ = some (.slice a2 l.length c2) := hbE.cell 4
  have n5 : wE.cell? ⟨w.heap.size + 1, 5, none⟩ = some (.slice a3 f.length c3) := hbE.cell 5
  go_wp2_with fail
  refine bodyPost_ret (v := .agg #[.bool b, .int .i64 (k), .int .i64 (n), .string s, .slice a2 l.length c2, .slice a3 f.length c3]) (by simp [results, Tryz.results20, go_sem, n0, n1, n2, n3, n4, n5]) rfl ?_
  refine ⟨_, rfl, reads_dm.2 ⟨_, _, rfl, ?_, ?_⟩, hcE⟩
  ·exact ((hr2.chg0 hc3).chg hsE (fun b hb e => by have hb : w1.drew.heap.size ≤ b := hb; have hd : w1.drew.heap.size = w1.heap.size := rfl; have e : b = w.heap.size + 1 := e; omega)).mono (fun b hb => by have hb : w1.drew.heap.size ≤ b := hb; have hd : w1.drew.heap.size = w1.heap.size := rfl; omega)
  ·exact (hr3.chg hsE (fun b hb e => by have hb : w2.heap.size ≤ b := hb; have e : b = w.heap.size + 1 := e; omega)).mono (fun b hb => by have hb : w2.heap.size ≤ b := hb; omega)
theorem bd_size : (Tryz.prog.info? 135).map (·.size) = some 2 := by kernel_rfl
theorem bd_lies : liesAt Tryz.prog Tryz.prog.depth 135 (2 / Tryz.prog.cellsOf 135) 0 135 1 = true := by kernel_rfl
theorem infoByte : (Tryz.prog.info? 5).map (fun i => (i.zero, i.size, i.bytes)) = some (some (.int .u8 0), 1, 1) := by kernel_rfl
abbrev IsB (B b : Nat) (bs : List Value) (w : World) : Prop := Lib.IsBuilder 135 5 B b bs w
abbrev BAt (B b : Nat) (p : Value) (bs : List Value) (w : World) : Prop := Lib.BuilderAt 135 5 B b p bs w
theorem copyCheck_used (b : Nat) (w : World) (h0 : w.cell? ⟨b, 0, none⟩ = some (.pointer (some ⟨b, 0, none⟩))) :
  Calls Tryz.prog 122 #[.pointer (some ⟨b, 0, none⟩)] w fun e w' => e = .returned (.tuple #[]) ∧ w' = w := by
 obtain ⟨j, hj, _⟩ := Option.map_eq_some_iff.1 bd_size
 go_enter Tryz.func122, Tryz.ntmps122
 go_wp2_with fail
 rw [Lib.run_neq_ptr_same w _ Tryz.underlying132 hj]
 go_wp2_with fail
 go_end0
 exact ⟨rfl, rfl⟩
theorem copyCheck_fresh (b : Nat) (w : World) (h0 : w.cell? ⟨b, 0, none⟩ = some (.pointer none)) (hsh : w.shape? b = some (135, 2)) (hfz : w.frozen? ⟨b, 0, none⟩ = false) :
  Calls Tryz.prog 122 #[.pointer (some ⟨b, 0, none⟩)] w fun e w' => e = .returned (.tuple #[]) ∧ w' = w.setCell ⟨b, 0, none⟩ (.pointer (some ⟨b, 0, none⟩)) := by
 obtain ⟨j, hj, hjs⟩ := Option.map_eq_some_iff.1 bd_size
 go_enter Tryz.func122, Tryz.ntmps122
 go_wp2_with fail
 rw [Lib.run_to_unsafe w ⟨b, 0, none⟩ Tryz.underlying132 Tryz.underlying150 hj (by rw [hjs]; decide) hsh (Nat.zero_lt_succ 1)]
 simp only [Result.andThen]
 rw [Oper.upon_value]
 go_wp2_with fail
 rw [run_callFunc_extern Tryz.func149 (by kernel_rfl) (by kernel_rfl) (by kernel_rfl) (e := Extern.AbiNoEscape.same) (by kernel_rfl)]
 rw [Lib.run_noEscape]
 simp only [Result.andThen]
 rw [Oper.upon_value]
 go_wp2_with fail
 rw [Lib.run_from_unsafe w ⟨b, 0, none⟩ Tryz.underlying150 Tryz.underlying132 hj hsh bd_lies]
 simp only [Result.andThen]
 rw [Oper.upon_value]
 go_wp2_with fail
 go_end0
 exact ⟨rfl, rfl⟩
theorem copyCheck_any (B b : Nat) (bs : List Value) (w : World) (h : IsB B b bs w) :
  Calls Tryz.prog 122 #[.pointer (some ⟨b, 0, none⟩)] w fun e w' => e = .returned (.tuple #[]) ∧ BAt B b (.pointer (some ⟨b, 0, none⟩)) bs w' ∧ Chg (RowsOf w 5 B b) w w' := by
 rcases h with h | h
 ·refine (copyCheck_fresh b w h.cell0 h.shape h.frozen0).mono ?_
  rintro e w' ⟨rfl, rfl⟩
  exact ⟨rfl, h.used _, (Chg.refl _ w).setCell (p := ⟨b, 0, none⟩) (.inl ⟨h.1, .inl rfl⟩) _⟩
 ·refine (copyCheck_used b w h.cell0).mono ?_
  rintro e w' ⟨rfl, rfl⟩
  exact ⟨rfl, h, Chg.refl _ _⟩
theorem writeString_any (B b : Nat) (bs : List Value) (s : ByteArray) (w : World) (h : IsB B b bs w) (hlen : bs.length + s.size ≤ 140737488355328) (hBw : B ≤ w.heap.size) :
  Calls Tryz.prog 92 #[.pointer (some ⟨b, 0, none⟩), .string s] w fun e w' => e = .returned (.tuple #[.int .i64 s.size, .nilIface]) ∧ IsB B b (bs ++ Lib.strCells s) w' ∧ Chg (RowsOf w 5 B b) w w' := by
 obtain ⟨i0, hi, hz0, hz1, hz2⟩ := info_parts infoByte
 go_enter Tryz.func92, Tryz.ntmps92
 go_wp2_with fail
 refine (copyCheck_any B b bs w h).mono ?_
 rintro e w1 ⟨rfl, h1, hc1⟩
 obtain ⟨hB, v, hbk, hown, hne⟩ := h1
 have c0 : w1.cell? ⟨b, 0, none⟩ = some (.pointer (some ⟨b, 0, none⟩)) := by rw [Lib.cell_of_heap hbk]; rfl
 have c1 : w1.cell? ⟨b, 1, none⟩ = some v := by rw [Lib.cell_of_heap hbk]; rfl
 go_wp2_with (at_builtin; refine Lib.wpList_append_own_string _ rfl _ _ 133 9 rfl B 5 i0 Tryz.underlying133 Tryz.underlying9 hi hz0 hz1 hz2 _ _ _ rfl hown s rfl ?c3 ?c4 ?c5 ?_)
 case c3 => unfold maxLen; omega
 case c4 => omega
 case c5 => have := hc1.size; omega
 intro v' w2 hown' hgrow _
 have hlt : b < w1.heap.size := lt_of_block hbk
 have hb2 : w2.heap[b]? = some (.cells #[.pointer (some ⟨b, 0, none⟩), v] 135 (0, 0)) := by
  rw [hgrow.block b hlt (fun e => hne e.symm)]
  exact hbk
 have d0 : w2.cell? ⟨b, 0, none⟩ = some (.pointer (some ⟨b, 0, none⟩)) := by rw [Lib.cell_of_heap hb2]; rfl
 have d1 : w2.cell? ⟨b, 1, none⟩ = some v := by rw [Lib.cell_of_heap hb2]; rfl
 have f1 : w2.frozen? ⟨b, 1, none⟩ = false := Lib.frozen_of_heap hb2 1
 obtain ⟨ao, n', cap, rfl⟩ : ∃ ao n' cap, v' = .slice ao n' cap := by
  rcases hown'.2 with ⟨hv, _⟩ | ⟨g, cap, cur, hv, _⟩
  ·exact ⟨_, _, _, hv⟩
  ·exact ⟨_, _, _, hv⟩
 have hrow : ∀ g, v.ownBlock = some g → RowsOf w1 5 B b g := fun g hg => by
  rcases hown.2 with ⟨rfl, _⟩ | ⟨g', cap, cur, rfl, hb', hg', _⟩
  ·cases hg
  ·obtain rfl := Option.some.inj hg
   exact ⟨hb', .inr ⟨_, _, hg'⟩⟩
 go_wp2_with fail
 go_ret2
 refine ⟨rfl, .inr ?_, ?_⟩
 ·exact Lib.BuilderAt.put (T := 135) (e := 5) hB hb2 (bs' := bs ++ Lib.strCells s) (by simpa [Lib.strCells_length] using hown') (by decide)
 ·exact hc1.rows (((Chg.refl _ w1).grown hgrow (fun k hk => .inl (hrow k hk))).setCell (p := ⟨b, 1, none⟩) (.inl ⟨hB, .inl rfl⟩) _)
theorem IsB.keep {B b : Nat} {bs : List Value} {C : Nat → Prop} {w w' : World} (h : IsB B b bs w) (hc : Chg C w w') (hb : ¬ C b) (hrow : ∀ k c fz, B ≤ k → w.heap[k]? = some (.cells c 5 fz) → ¬ C k) : IsB B b bs w' := by
 have key : ∀ p, BAt B b p bs w → BAt B b p bs w' := by
  rintro p ⟨hB, v, hbk, hown, hne⟩
  refine ⟨hB, v, hc.at hbk hb, ⟨hown.1, ?_⟩, hne⟩
  rcases hown.2 with h0 | ⟨g, cap, cur, rfl, hg, hh, r⟩
  ·exact .inl h0
  ·exact .inr ⟨g, cap, cur, rfl, hg, hc.at hh (hrow g _ _ hg hh), r⟩
 exact h.imp (key _) (key _)
theorem IsB.keep0 {B b : Nat} {bs : List Value} {w w' : World} (h : IsB B b bs w) (hc : Chg NoB w w') : IsB B b bs w' := h.keep hc nbE (fun _ _ _ _ _ => nbE)
theorem IsB.lt {B b : Nat} {bs : List Value} {w : World} (h : IsB B b bs w) : b < w.heap.size := h.elim Lib.BuilderAt.lt Lib.BuilderAt.lt
theorem IsB.from {B b : Nat} {bs : List Value} {w : World} (h : IsB B b bs w) : B ≤ b := h.elim (·.1) (·.1)
theorem TrN.cells1 {w : World} {B : Nat} {n : Nd} {cs : List Value} {F : List Nat} (h : TrN w B n cs F) : ∀ u ∈ cs, u.oneCell' = true :=
 Reads.one n.dt cs (TrN.reads (S := fun _ => True) n cs F h (fun _ _ => trivial))
theorem TrC.cells1 {w : World} {B : Nat} : ∀ {l : List Nd} {xs : List Value} {F : List Nat}, TrC w B l xs F → xs.length = l.length * 5 → ∀ u ∈ xs, u.oneCell' = true
 | [], xs, F, _, hl => by
  obtain rfl := List.eq_nil_of_length_eq_zero hl
  exact fun u hu => (List.not_mem_nil hu).elim
 | n :: ns, xs, F, h, hl => by
  obtain ⟨c, r, F1, F2, rfl, h2, h3, rfl⟩ := trC_cons.1 h
  rw [List.length_append, h2.five, List.length_cons] at hl
  intro u hu
  rcases List.mem_append.1 hu with hu | hu
  ·exact h2.cells1 u hu
  ·exact TrC.cells1 h3 (by omega) u hu
theorem TrL.owns {w : World} {B : Nat} {l : List Nd} {v : Value} {F : List Nat} (h : TrL w B l v F) : ∃ xs G, w.ownsRow B 28 5 v l.length xs ∧ xs.length = l.length * 5 ∧ TrC w B l xs G ∧ (F = G ∧ v = .slice none 0 0 ∨ ∃ b, v.ownBlock = some b ∧ F = b :: G) := by
 rcases h with ⟨rfl, rfl, rfl⟩ | ⟨b, cap, cur, F', rfl, e2, e3, e4, e5, e6, e7, rfl⟩
 ·exact ⟨[], [], World.ownsRow_nil _ _ _ _, rfl, trC_nil.2 rfl, .inl ⟨rfl, rfl⟩⟩
 ·obtain ⟨x1, x2, rfl, h2, h3⟩ := e7.junk
  refine ⟨x1, F', ⟨h2, .inr ⟨b, cap, (x1 ++ x2).toArray, rfl, e4, e5, e2, e3, by simpa using e6, ?_⟩⟩, h2, h3, .inr ⟨b, rfl, rfl⟩⟩
  rw [List.toList_toArray, ← h2, List.take_left]
theorem TrL.ofOwns {w : World} {B : Nat} {l : List Nd} {v : Value} {xs : List Value} {G : List Nat} (h : w.ownsRow B 28 5 v l.length xs) (hl : 0 < l.length) (hx : xs.length = l.length * 5) (hc : TrC w B l xs G) : ∃ g, v.ownBlock = some g ∧ TrL w B l v (g :: G) := by
 rcases h.2 with ⟨_, h0⟩ | ⟨g, cap, cur, rfl, hg, hh, hn, hcm, hcs, htk⟩
 ·omega
 ·refine ⟨g, rfl, .inr ⟨g, cap, cur.toList, G, rfl, hn, hcm, hg, ?_, by simpa using hcs, ?_, rfl⟩⟩
  ·unfold Blk; rw [hh]
  ·have := hc.more (cur.toList.drop (l.length * 5))
   rw [← htk, List.take_append_drop] at this
   exact this
section
variable {P : Program}
theorem TrL.push {w : World} {B : Nat} {l : List Nd} {v : Value} {F : List Nat} (h : TrL w B l v F) (hn : F.Nodup) {nd : Nd} {cs : List Value} {Fx : List Nat} (hx : TrN w B nd cs Fx) (hxn : Fx.Nodup) (hd : ∀ y ∈ Fx, y ∉ F)
  (t ty : TypeId) {z : Value} {bytes : Nat} (ht : P.underlying t = some (.slice 28)) (hinfo : (P.info? 28).map (fun i => (i.zero, i.size, i.bytes)) = some (some z, 5, bytes)) (hzs : z.cells.size = 5)
  {xb c : Nat} {T : TypeId} (hb : Blk w xb cs T) (h63 : l.length + 1 ≤ maxLen) (hbytes : (l.length + 1) * bytes ≤ 140737488355328) (hB : B ≤ w.heap.size) :
  ∃ ao cap w' F', (Builtin.append_ #[t, t] ty #[v, .slice (some ⟨xb, 0, none⟩) 1 c]).run P w = .ok (.slice ao (l.length + 1) cap) w' ∧ TrL w' B (l ++ [nd]) (.slice ao (l.length + 1) cap) F' ∧ F'.Nodup ∧ (∀ y ∈ F', y ∈ F ∨ y ∈ Fx ∨ y = w.heap.size) ∧
   Chg (fun b => v.ownBlock = some b) w w' ∧ ((Value.slice ao (l.length + 1) cap).ownBlock = v.ownBlock ∨ (Value.slice ao (l.length + 1) cap).ownBlock = some w.heap.size) := by
 obtain ⟨i, hi, hz, hsz, hby⟩ := info_parts hinfo
 obtain ⟨xs, G, h1, h2, h3, h4⟩ := h.owns
 obtain ⟨v', w', r1, r2, r3, _, r5⟩ := run_append_own_at (P := P) w B t ty 28 i z 5 bytes ht hi hz hsz hby hzs (by decide) v l.length xs h1 ⟨xb, 0, none⟩ 1 c cs (by rw [hx.five]) (fun j u hj => by rw [Addr.add_lit, Nat.zero_add, hb.cell]; exact hj) hx.cells1 h63 hbytes hB
 have hlt := h.lt
 have hltx := TrN.lt nd cs Fx hx
 have hGF : ∀ y ∈ G, y ∈ F := fun y hy => by
  rcases h4 with ⟨rfl, _⟩ | ⟨b, _, rfl⟩
  ·exact hy
  ·exact List.mem_cons_of_mem _ hy
 have hown : ∀ b, v.ownBlock = some b → b ∈ F ∧ b ∉ G := fun b hvb => by
  rcases h4 with ⟨rfl, rfl⟩ | ⟨b', hb', rfl⟩
  ·cases hvb
  ·obtain rfl := Option.some.inj (hb'.symm.trans hvb)
   exact ⟨List.mem_cons_self .., (List.nodup_cons.1 hn).1⟩
 have hGn : G.Nodup := by
  rcases h4 with ⟨rfl, _⟩ | ⟨b', _, rfl⟩
  ·exact hn
  ·exact (List.nodup_cons.1 hn).2
 have hkeep : ∀ y, y < w.heap.size → v.ownBlock ≠ some y → w'.heap[y]? = w.heap[y]? := fun y hy hne => r3.block y hy (fun e => hne e.symm)
 have hG' := TrC.keep l xs G h3 (fun y hy => hkeep y (hlt y (hGF y hy)).2 (fun e => (hown y e).2 hy))
 have hX' := TrN.keep nd cs Fx hx (fun y hy => hkeep y (hltx y hy).2 (fun e => hd y hy (hown y e).1))
 have hC' := trC_split.2 ⟨xs, cs, G, Fx, rfl, h2, hG', trC_cons.2 ⟨cs, [], Fx, [], by simp, hX', trC_nil.2 rfl, by simp⟩, rfl⟩
 have hlen : (l ++ [nd]).length = l.length + 1 := by simp
 rw [← hlen] at r2
 obtain ⟨g, hg, hT⟩ := TrL.ofOwns r2 (by rw [hlen]; omega) (by rw [List.length_append, h2, hx.five, hlen]; omega) hC'
 obtain ⟨ao, cap, rfl, _, _⟩ := hT.form
 rw [hlen] at hT r5 hg r1
 refine ⟨ao, cap, w', g :: (G ++ Fx), r1, hT, ?_, ?_, (Chg.refl _ w).grown r3 (fun j hj => .inl hj), r5⟩
 ·rw [List.nodup_cons, List.nodup_append, List.mem_append, not_or]
  have hgn : g ∉ G ∧ g ∉ Fx := by
   rcases r5 with e | e
   ·have e2 := e.symm.trans hg
    exact ⟨(hown g e2).2, fun h9 => hd g h9 (hown g e2).1⟩
   ·have e2 : w.heap.size = g := Option.some.inj (e.symm.trans hg)
    exact ⟨fun h9 => by have := (hlt g (hGF g h9)).2; omega, fun h9 => by have := (hltx g h9).2; omega⟩
  exact ⟨hgn, hGn, hxn, fun x hx y hy e => hd y hy (e ▸ hGF x hx)⟩
 ·intro y hy
  rcases List.mem_cons.1 hy with rfl | hy
  ·rcases r5 with e | e
   ·exact .inl (hown y (e.symm.trans hg)).1
   ·exact .inr (.inr (Option.some.inj (e.symm.trans hg)).symm)
  ·rcases List.mem_append.1 hy with hy | hy
   ·exact .inl (hGF y hy)
   ·exact .inr (.inl hy)
def OwnT (w : World) (B : Nat) (S : Nat → Prop) (v : Value) (l : List Nd) : Prop := ∃ F, TrL w B l v F ∧ F.Nodup ∧ ∀ x ∈ F, S x
theorem OwnT.nil (w : World) (B : Nat) (S : Nat → Prop) : OwnT w B S (.slice none 0 0) [] := ⟨[], .inl ⟨rfl, rfl, rfl⟩, List.nodup_nil, fun x hx => (List.not_mem_nil hx).elim⟩
theorem OwnT.form {w : World} {B : Nat} {S : Nat → Prop} {v : Value} {l : List Nd} (h : OwnT w B S v l) : ∃ a c, v = .slice a l.length c ∧ l.length ≤ c ∧ c ≤ maxLen := by
 obtain ⟨F, h1, _⟩ := h
 exact h1.form
theorem OwnT.keep {C : Nat → Prop} {w w' : World} {B : Nat} {S : Nat → Prop} {v : Value} {l : List Nd} (h : OwnT w B S v l) (hc : Chg C w w') (hn : ∀ b, B ≤ b → S b → ¬ C b) : OwnT w' B S v l := by
 obtain ⟨F, h1, h2, h3⟩ := h
 exact ⟨F, h1.keep (fun x hx => hc.block x (h1.lt x hx).2 (hn x (h1.lt x hx).1 (h3 x hx))), h2, h3⟩
theorem OwnT.inHeap {w : World} {B : Nat} {S : Nat → Prop} {v : Value} {l : List Nd} (h : OwnT w B S v l) : OwnT w B (fun b => S b ∧ b < w.heap.size) v l := by
 obtain ⟨F, h1, h2, h3⟩ := h
 exact ⟨F, h1, h2, fun x hx => ⟨h3 x hx, (h1.lt x hx).2⟩⟩
theorem OwnT.mono {w : World} {B B' : Nat} {S S' : Nat → Prop} {v : Value} {l : List Nd} (h : OwnT w B S v l) (hB : B' ≤ B) (hS : ∀ b, S b → S' b) : OwnT w B' S' v l := by
 obtain ⟨F, h1, h2, h3⟩ := h
 exact ⟨F, h1.mono hB, h2, fun x hx => hS x (h3 x hx)⟩
theorem OwnT.block {w : World} {B : Nat} {S : Nat → Prop} {v : Value} {l : List Nd} (h : OwnT w B S v l) : ∀ b, v.ownBlock = some b → B ≤ b ∧ b < w.heap.size ∧ S b := by
 obtain ⟨F, h1, h2, h3⟩ := h
 intro b hb
 obtain ⟨xs, G, _, _, _, h4⟩ := h1.owns
 rcases h4 with ⟨_, rfl⟩ | ⟨b', hb', rfl⟩
 ·cases hb
 ·obtain rfl := Option.some.inj (hb'.symm.trans hb)
  have := h1.lt b' (List.mem_cons_self ..)
  exact ⟨this.1, this.2, h3 b' (List.mem_cons_self ..)⟩
theorem OwnT.reads {w : World} {B : Nat} {S S' : Nat → Prop} {v : Value} {l : List Nd} (h : OwnT w B S v l) (hS : ∀ b, B ≤ b → S b → S' b) : Reads w S' (.list 5 (Nd.dts l)) [v] := by
 obtain ⟨F, h1, h2, h3⟩ := h
 exact h1.reads (fun x hx => hS x (h1.lt x hx).1 (h3 x hx))
theorem wpList_ownT {w : World} {ops : Array Oper} {rest : List Oper} {o : Oper} {a : Act} {Q : Exit → Act → World → Prop} (hgd : o.guard = none) (s x : Operand) (t : TypeId) (ho : o.op = .call { callee := .builtin .append, args := #[s, x], argTypes := #[t, t] })
  (B : Nat) {bytes : Nat} {z : Value} (ht : P.underlying t = some (.slice 28)) (hinfo : (P.info? 28).map (fun i => (i.zero, i.size, i.bytes)) = some (some z, 5, bytes)) (hzs : z.cells.size = 5)
  {S : Nat → Prop} {v : Value} {l : List Nd} (hs : a.eval s = v) (hown : OwnT w B S v l) {nd : Nd} {cs : List Value} (hx : ∃ Fx, TrN w B nd cs Fx ∧ Fx.Nodup ∧ ∀ y ∈ Fx, ¬ S y)
  {xb c : Nat} {T : TypeId} (hxv : a.eval x = .slice (some ⟨xb, 0, none⟩) 1 c) (hb : Blk w xb cs T) (h63 : l.length + 1 ≤ maxLen) (hbytes : (l.length + 1) * bytes ≤ 140737488355328) (hB : B ≤ w.heap.size)
  (h : ∀ ao cap w', OwnT w' B (fun _ => True) (.slice ao (l.length + 1) cap) (l ++ [nd]) → Chg (fun b => v.ownBlock = some b) w w' → wpList P ops Q rest (a.put o.dst (.slice ao (l.length + 1) cap)) w') : wpList P ops Q (o :: rest) a w := by
 obtain ⟨F, h1, h2, h3⟩ := hown
 obtain ⟨Fx, g1, g2, g3⟩ := hx
 obtain ⟨ao, cap, w', F', k1, k2, k3, _, k5, _⟩ := h1.push h2 g1 g2 (fun y hy h9 => g3 y hy (h3 y h9)) t o.type ht hinfo hzs hb h63 hbytes hB (c := c)
 refine wpList_plain hgd fun _ hK => ?_
 unfold Oper.wp execOp
 simp only [ho, resolve, invoke, builtin, Sem.run_bind, Sem.run_pure, Result.andThen_ok, List.map_toArray, List.map_cons, List.map_nil, hs, hxv, k1]
 exact hK _ _ (h ao cap w' ⟨F', k2, k3, fun _ _ => trivial⟩ k5)
end
theorem readsE_of {w : World} {S : Nat → Prop} {k b : Nat} : ∀ (l : List Dt) (off : Nat),
  (∀ (i : Nat) (d : Dt), l[i]? = some d → ∃ cs, cs.length = k ∧ (∀ (j : Nat) (c : Value), cs[j]? = some c → w.cell? ⟨b, off + i * k + j, none⟩ = some c) ∧ Reads w S d cs) → ReadsE w S k b off l
 | [], off, h => trivial
 | d :: ds, off, h => by
  refine ⟨?_, readsE_of ds (off + k) fun i d' hd => ?_⟩
  ·obtain ⟨cs, h1, h2, h3⟩ := h 0 d rfl
   exact ⟨cs, h1, fun j c hj => by simpa using h2 j c hj, h3⟩
  ·obtain ⟨cs, h1, h2, h3⟩ := h (i + 1) d' (by simpa using hd)
   refine ⟨cs, h1, fun j c hj => ?_, h3⟩
   rw [← h2 j c hj]
   congr 2
   rw [Nat.succ_mul]; omega
theorem choose_list {α : Type} {P : Nat → α → Prop} : ∀ n : Nat, (∀ i, i < n → ∃ y, P i y) → ∃ l : List α, l.length = n ∧ ∀ i y, l[i]? = some y → P i y
 | 0, _ => ⟨[], rfl, fun i y h => by simp at h⟩
 | n + 1, h => by
  obtain ⟨l, h1, h2⟩ := choose_list n (fun i hi => h i (by omega))
  obtain ⟨y, hy⟩ := h n (by omega)
  refine ⟨l ++ [y], by simp [h1], fun i z hz => ?_⟩
  by_cases hi : i < n
  ·rw [List.getElem?_append_left (by omega)] at hz; exact h2 i z hz
  ·rw [List.getElem?_append_right (by omega), h1] at hz
   have : i = n := by
    have := (List.getElem?_eq_some_iff.1 hz).1
    simp at this; omega
   subst this
   simp at hz
   exact hz ▸ hy
theorem cells_of {w : World} {base k : Nat} {a : Addr} {cs : List Value} (h : w.cells? base a k = some cs) : cs.length = k ∧ ∀ j c, cs[j]? = some c → w.cell? (a.add j) = some c := by
 unfold World.cells? at h
 split at h
 ·refine ⟨by simpa using mapM_some_length h, fun j c hj => ?_⟩
  have hl : cs.length = k := by simpa using mapM_some_length h
  have hjk : j < k := by have := (List.getElem?_eq_some_iff.1 hj).1; omega
  rw [mapM_some_get h j j (by simp [hjk]), hj]
 ·cases h
theorem length_data' (s : ByteArray) : s.data.toList.length = s.size := Array.length_toList
theorem lt_of_cell' {w : World} {p : Addr} {v : Value} (h : w.cell? p = some v) : p.block < w.heap.size := by
 unfold World.cell? at h
 cases hb : w.heap[p.block]? with
 | none => rw [hb] at h; simp at h
 | some o => exact lt_of_block hb
theorem weights_mem {H : Type} {P : Program} {e : TypeId} {d : DataW H} : ∀ {l : List (DataW H)}, d ∈ l → (DataW.weightsAll P e l).all (· ≤ reachBytes) = true → (d.weights P e).all (· ≤ reachBytes) = true
 | x :: xs, hd, h => by
  simp only [DataW.weightsAll, List.all_append, Bool.and_eq_true] at h
  rcases List.mem_cons.1 hd with rfl | hd
  ·exact h.1
  ·exact weights_mem hd h.2
theorem add_none (b off j : Nat) : (⟨b, off, none⟩ : Addr).add j = ⟨b, off + j, none⟩ := by unfold Addr.add; split <;> simp_all
theorem stringCells : Tryz.prog.cellsOf 9 = 1 := by kernel_rfl
section
variable {H : Type} {enc : TypeId × Value → H} {W : World}
end
end Go.Proofs.YtgcmfpcgmkkobaaGreatDoor
