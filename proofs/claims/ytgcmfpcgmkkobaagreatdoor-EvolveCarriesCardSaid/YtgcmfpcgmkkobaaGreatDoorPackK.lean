/-
 A datum as plain data, and as it reads in memory.
 The copy of a datum (shredcolref2.OwnDatum, OwnData): new memory that reads the same; nothing that was there has changed.
 Two data that read the same: shredcolref2.SameDatum and SameData answer true; nothing has changed.
 data.bare, enc.OK: what is set of a datum; is a value one of a kind?
-/
import Derived.Test.YtgcmfpcgmkkobaaGreatDoorPackA
set_option linter.unusedVariables false
set_option linter.unusedSimpArgs false
namespace Go.Proofs.YtgcmfpcgmkkobaaGreatDoor
open Go.RowKit

/-- A datum: is it none, its value's kind, number and text, its list, its fields. -/
inductive Dm where
 | mk (no : Bool) (k n : Int) (s : ByteArray) (l f : List Dm)

def Dm.no : Dm → Bool | .mk b _ _ _ _ _ => b
def Dm.k : Dm → Int | .mk _ k _ _ _ _ => k
def Dm.n : Dm → Int | .mk _ _ n _ _ _ => n
def Dm.s : Dm → ByteArray | .mk _ _ _ s _ _ => s
def Dm.l : Dm → List Dm | .mk _ _ _ _ l _ => l
def Dm.f : Dm → List Dm | .mk _ _ _ _ _ f => f

mutual
def Dm.dt : Dm → Dt
 | .mk b k n s l f => .agg [.lit (.bool b), .lit (.int .i64 k), .lit (.int .i64 n), .lit (.string s), .list 6 (Dm.dts l), .list 6 (Dm.dts f)]
def Dm.dts : List Dm → List Dt
 | [] => []
 | d :: ds => d.dt :: Dm.dts ds
end
theorem Dm.dts_eq : ∀ l : List Dm, Dm.dts l = l.map Dm.dt
 | [] => rfl
 | n :: ns => by simp [Dm.dts, Dm.dts_eq ns]
theorem Dm.dts_append (a b : List Dm) : Dm.dts (a ++ b) = Dm.dts a ++ Dm.dts b := by simp [Dm.dts_eq]

mutual
def Dm.ok : Dm → Prop
 | .mk _ k n s l f => I64 k ∧ I64 n ∧ s.size ≤ reach ∧ l.length * 88 ≤ reach ∧ f.length * 88 ≤ reach ∧ Dm.oks l ∧ Dm.oks f
def Dm.oks : List Dm → Prop
 | [] => True
 | d :: ds => d.ok ∧ Dm.oks ds
end
theorem Dm.oks_mem : ∀ {l : List Dm}, Dm.oks l → ∀ n ∈ l, n.ok
 | [], _, n, h => by cases h
 | x :: xs, h, n, hn => by
  rcases List.mem_cons.1 hn with rfl | hn
  ·exact h.1
  ·exact Dm.oks_mem h.2 n hn

mutual
def Dm.weigh : Dm → Nat
 | .mk _ _ _ _ l f => 1 + Dm.weighs l + Dm.weighs f
def Dm.weighs : List Dm → Nat
 | [] => 0
 | d :: ds => d.weigh + Dm.weighs ds
end
theorem Dm.weigh_mem : ∀ {l : List Dm} {n : Dm}, n ∈ l → n.weigh ≤ Dm.weighs l
 | [], n, h => by cases h
 | x :: xs, n, h => by
  rcases List.mem_cons.1 h with rfl | h
  ·simp [Dm.weighs]
  ·have := Dm.weigh_mem h
   simp [Dm.weighs]; omega

/-- A datum's cells, with the values of its slices. -/
def dmCells (b : Bool) (k n : Int) (s : ByteArray) (l f : Value) : List Value := [.bool b, .int .i64 k, .int .i64 n, .string s, l, f]

theorem reads_dm {w : World} {S : Nat → Prop} {b : Bool} {k n : Int} {s : ByteArray} {l f : List Dm} {cs : List Value} :
  Reads w S (Dm.dt (.mk b k n s l f)) cs ↔ ∃ vl vf, cs = [.bool b, .int .i64 k, .int .i64 n, .string s, vl, vf] ∧ Reads w S (.list 6 (Dm.dts l)) [vl] ∧ Reads w S (.list 6 (Dm.dts f)) [vf] := by
 simp only [Dm.dt, Reads, ReadsF]
 constructor
 ·rintro ⟨c0, r0, rfl, ⟨rfl, _⟩, c1, r1, rfl, ⟨rfl, _⟩, c2, r2, rfl, ⟨rfl, _⟩, c3, r3, rfl, ⟨rfl, _⟩, c4, r4, rfl, ⟨a, cap, rfl, h⟩, c5, r5, rfl, ⟨a', cap', rfl, h'⟩, rfl⟩
  exact ⟨_, _, rfl, ⟨a, cap, rfl, h⟩, ⟨a', cap', rfl, h'⟩⟩
 ·rintro ⟨vl, vf, rfl, ⟨a, cap, h0, h⟩, ⟨a', cap', h0', h'⟩⟩
  exact ⟨[_], _, rfl, ⟨rfl, rfl⟩, [_], _, rfl, ⟨rfl, rfl⟩, [_], _, rfl, ⟨rfl, rfl⟩, [_], _, rfl, ⟨rfl, rfl⟩, [vl], _, rfl, ⟨a, cap, h0, h⟩, [vf], [], rfl, ⟨a', cap', h0', h'⟩, rfl⟩
theorem reads_data {w : World} {S : Nat → Prop} {l : List Dm} {v : Value} (h : Reads w S (.list 6 (Dm.dts l)) [v]) :
  ∃ a cap, v = .slice a l.length cap ∧ l.length ≤ cap ∧ cap ≤ maxLen ∧ (l.length ≠ 0 → ∃ b off, a = some ⟨b, off, none⟩ ∧ S b ∧ b < w.heap.size ∧ ReadsE w S 6 b off (l.map Dm.dt)) := by
 obtain ⟨a, cap, h1, h2, h3, h4⟩ := reads_list h
 simp only [Dm.dts_eq, List.length_map] at h1 h2 h4
 exact ⟨a, cap, h1, h2, h3, h4⟩
theorem store6 {w : World} {b : Nat} {c0 c1 c2 c3 c4 c5 : Value} {t : TypeId} (h : Blk w b [c0, c1, c2, c3, c4, c5] t) (v0 v1 v2 v3 v4 v5 : Value) :
  Blk (World.setCell (World.setCell (World.setCell (World.setCell (World.setCell (World.setCell w ⟨b, 0, none⟩ v0) ⟨b, 1, none⟩ v1) ⟨b, 2, none⟩ v2) ⟨b, 3, none⟩ v3) ⟨b, 4, none⟩ v4) ⟨b, 5, none⟩ v5) b [v0, v1, v2, v3, v4, v5] t :=
 (((((h.set 0 v0).set 1 v1).set 2 v2).set 3 v3).set 4 v4).set 5 v5
theorem store6_other {w : World} {b p : Nat} {cs : List Value} {t : TypeId} (h : Blk w p cs t) (hp : p ≠ b) (v0 v1 v2 v3 v4 v5 : Value) :
  Blk (World.setCell (World.setCell (World.setCell (World.setCell (World.setCell (World.setCell w ⟨b, 0, none⟩ v0) ⟨b, 1, none⟩ v1) ⟨b, 2, none⟩ v2) ⟨b, 3, none⟩ v3) ⟨b, 4, none⟩ v4) ⟨b, 5, none⟩ v5) p cs t :=
 (((((h.other (p := ⟨b, 0, none⟩) hp v0).other (p := ⟨b, 1, none⟩) hp v1).other (p := ⟨b, 2, none⟩) hp v2).other (p := ⟨b, 3, none⟩) hp v3).other (p := ⟨b, 4, none⟩) hp v4).other (p := ⟨b, 5, none⟩) hp v5
theorem store6_chg (w : World) (b : Nat) (v0 v1 v2 v3 v4 v5 : Value) :
  Chg (OneB b) w (World.setCell (World.setCell (World.setCell (World.setCell (World.setCell (World.setCell w ⟨b, 0, none⟩ v0) ⟨b, 1, none⟩ v1) ⟨b, 2, none⟩ v2) ⟨b, 3, none⟩ v3) ⟨b, 4, none⟩ v4) ⟨b, 5, none⟩ v5) :=
 ((((((Chg.refl (OneB b) w).setCell (p := ⟨b, 0, none⟩) (.inl rfl) v0).setCell (p := ⟨b, 1, none⟩) (.inl rfl) v1).setCell (p := ⟨b, 2, none⟩) (.inl rfl) v2).setCell (p := ⟨b, 3, none⟩) (.inl rfl) v3).setCell (p := ⟨b, 4, none⟩) (.inl rfl) v4).setCell (p := ⟨b, 5, none⟩) (.inl rfl) v5
end Go.Proofs.YtgcmfpcgmkkobaaGreatDoor
namespace Go.Proofs.YtgcmfpcgmkkobaaGreatDoor
open Go.RowKit

theorem infoDatum : (Tryz.prog.info? 43).map (fun i => (i.zero, i.size, i.bytes)) = some (some (.agg #[.bool false, .int .i64 0, .int .i64 0, .string ⟨#[]⟩, .slice none 0 0, .slice none 0 0]), 6, 88) := by kernel_rfl

/-- A slice of data: new memory; nothing else has changed. -/
def RetData (l : List Dm) (w : World) (e : Ending) (w' : World) : Prop :=
 ∃ v, e = .returned v ∧ Reads w' (fun b => w.heap.size ≤ b) (.list 6 (Dm.dts l)) [v] ∧ Chg NoB w w'
def OwnDRel (w : World) (l : List Dm) (vo vi : Value) (wr : World) : Prop :=
 ∃ j ao c, j ≤ l.length ∧ vi = .int .i64 (j : Nat) ∧ vo = .slice ao j c ∧ Chg NoB w wr ∧ Own wr w.heap.size 43 6 (fun b => w.heap.size ≤ b) vo (Dm.dts (l.take j))

set_option maxHeartbeats 1000000 in
theorem ownData_of (l : List Dm) (hcall : ∀ d ∈ l, ∀ (w : World) (S : Nat → Prop) (cs : List Value), Reads w S d.dt cs → Calls Tryz.prog 20 #[.agg cs.toArray] w (RetNew d.dt w))
  (w : World) (S : Nat → Prop) (v : Value) (hr : Reads w S (.list 6 (Dm.dts l)) [v]) (hl : l.length * 88 ≤ reach) : Calls Tryz.prog 37 #[v] w (RetData l w) := by
 obtain ⟨a, cap, rfl, hlen, hcap, hel⟩ := reads_data hr
 unfold reach at hl
 have Hcall := Lib.hid hcall
 clear hcall
 go_enter Tryz.func37, Tryz.ntmps37
 go_wp2_with fail
 go_loopw [3, 4] (fun vo vi wr => OwnDRel w l vo vi wr) (fun _ vi _ => l.length - (intOf vi).toNat)
 case atStart => exact ⟨0, none, 0, Nat.zero_le _, rfl, rfl, Chg.refl _ _, by simpa [Dm.dts] using Own.nil _ _ _ _ _⟩
 case round =>
  obtain ⟨j, ao, c, hj, rfl, rfl, hc, ho⟩ := hrel
  by_cases hlt : j < l.length
  ·have hltI : (j : Int) < (l.length : Int) := by omega
   obtain ⟨b, off, rfl, hSb, hbw, hE⟩ := hel (by omega)
   obtain ⟨ecs, hl6, hcells, hre⟩ := hE.get j l[j].dt (by simp [hlt])
   have hmem : l[j] ∈ l := List.getElem_mem hlt
   have hcall := Hcall.out _ hmem
   have htake : l.take (j + 1) = l.take j ++ [l[j]] := List.take_succ_eq_append_getElem hlt
   have Htake := Lib.hid htake
   have Hc1 := Lib.hid hcall
   clear htake hcall hmem
   generalize l[j] = dj at hre Htake Hc1
   obtain ⟨b1, k1, n1, s1, l1, f1⟩ := dj
   obtain ⟨vl1, vf1, rfl, hs1, hs2⟩ := reads_dm.1 hre
   have hf : ∀ t c, [Value.bool b1, .int .i64 k1, .int .i64 n1, .string s1, vl1, vf1][t]? = some c → wr.cell? ⟨b, off + j * 6 + t, none⟩ = some c := fun t c ht => (hc.cell (p := ⟨b, off + j * 6 + t, none⟩) hbw (fun e => e)).trans (hcells t c ht)
   have e0 : wr.cell? ⟨b, off + j * 6, none⟩ = some (.bool b1) := hf 0 _ rfl
   have e1 : wr.cell? ⟨b, off + j * 6 + 1, none⟩ = some (.int .i64 k1) := hf 1 _ rfl
   have e2 : wr.cell? ⟨b, off + j * 6 + 2, none⟩ = some (.int .i64 n1) := hf 2 _ rfl
   have e3 : wr.cell? ⟨b, off + j * 6 + 3, none⟩ = some (.string s1) := hf 3 _ rfl
   have e4 : wr.cell? ⟨b, off + j * 6 + 4, none⟩ = some vl1 := hf 4 _ rfl
   have e5 : wr.cell? ⟨b, off + j * 6 + 5, none⟩ = some vf1 := hf 5 _ rfl
   clear hf hcells
   go_wp2_with fail
   refine (Hc1.out wr S _ (hre.chg0 hc)).mono ?_
   rintro e w1 ⟨ecs, rfl, hr1, hc1⟩
   obtain ⟨vl2, vf2, rfl, hs3, hs4⟩ := reads_dm.1 hr1
   obtain ⟨a3, c3, rfl, _, _, _⟩ := reads_data hs3
   obtain ⟨a4, c4, rfl, _, _, _⟩ := reads_data hs4
   clear e0 e1 e2 e3 e4 e5
   go_wp2_with (at_builtin; refine stop_here ?_)
   refine Stop.go ?_
   generalize hw2 : w1.alloc _ = w2
   have hc2 : Chg NoB w1 w2 := by
    rw [← hw2]
    repeat (first | exact Chg.refl _ _ | apply Chg.alloc | apply Chg.drew)
   have hb2 : Blk w2 (w1.heap.size) ([.bool b1, .int .i64 k1, .int .i64 n1, .string s1, .slice a3 l1.length c3, .slice a4 f1.length c4]) 43 := by
    rw [← hw2]
    repeat (first | exact Blk.newAt (by first | rfl | (simp; done) | (simp; omega)) | apply Blk.alloc | apply Blk.drew)
   clear hw2
   have hr2 := hr1.chg0 hc2
   have hc12 := hc1.tr hc2
   have ho2 := ho.keep hc12 (fun _ _ e => NoB.elim e) (fun _ _ e => NoB.elim e)
   have hob := ho.block
   have hsz := hc.size
   have hjl : (Dm.dts (l.take j)).length = j := by rw [Dm.dts_eq, List.length_map, List.length_take]; omega
   refine wpList_own rfl (.tmp 11) (.tmp 17) 41 rfl w.heap.size 43 Tryz.underlying41 infoDatum rfl (by decide) rfl ho2 rfl [Dm.dt (.mk b1 k1 n1 s1 l1 f1)] _ rfl (ReadsC.single rfl (hr2.mono ?_)) hb2.news (fun e => by cases e) ?_ ?_ ?_ ?_
   ·intro b hb
    have hb : wr.heap.size ≤ b := hb
    exact ⟨by omega, fun e => by have := (hob b e).2; omega⟩
   ·rw [hjl]; unfold maxLen; omega
   ·rw [hjl]; omega
   ·have := hc12.size; omega
   intro ao3 cap3 w3 ho3 hc3 hat
   rw [hjl] at ho3 hat ⊢
   go_wp2_with fail
   go_roundw
   case rel =>
    refine ⟨j + 1, _, _, hlt, by go_num, rfl, (hc.tr hc12).trans hc3 (fun b e => .inr (hob b e).1), ?_⟩
    rw [Htake.out, Dm.dts_append]
    exact ho3
   case measure => simp [intOf]; omega
  ·have hjl : j = l.length := by omega
   subst hjl
   have hltI : ¬ ((l.length : Int) < (l.length : Int)) := by omega
   rw [List.take_length] at ho
   go_wp2_with fail
   go_ret
   refine ⟨.slice ao l.length c, rfl, ho.reads (fun b hb => hb) (fun b hb _ => hb) ?_, hc⟩
   rw [Dm.dts_eq, List.length_map]; omega

set_option maxHeartbeats 1000000 in
theorem ownDatum_any : ∀ (m : Nat) (d : Dm) (w : World) (S : Nat → Prop) (cs : List Value), d.weigh ≤ m → Reads w S d.dt cs → d.ok →
  Calls Tryz.prog 20 #[.agg cs.toArray] w (RetNew d.dt w) := by
 intro m
 induction m with
 | zero => intro d w S cs hm; cases d; simp [Dm.weigh] at hm
 | succ m ih =>
  intro d w S cs hm hr hok
  obtain ⟨b, k, n, s, l, f⟩ := d
  obtain ⟨vl, vf, rfl, hsl, hsf⟩ := reads_dm.1 hr
  obtain ⟨hk, hn, hs, hl, hf, hol, hof⟩ := hok
  simp only [Dm.weigh] at hm
  have dl := fun w => ownData_of l (fun d hd w S cs hr => ih d w S cs (by have := Dm.weigh_mem hd; omega) hr (Dm.oks_mem hol d hd)) w
  have df := fun w => ownData_of f (fun d hd w S cs hr => ih d w S cs (by have := Dm.weigh_mem hd; omega) hr (Dm.oks_mem hof d hd)) w
  have Dl := Lib.hid dl
  have Df := Lib.hid df
  clear dl df ih
  have hsl' := hsl
  have hsf' := hsf
  obtain ⟨al, cl, rfl, _, _, _⟩ := reads_data hsl
  obtain ⟨af, cf, rfl, _, _, _⟩ := reads_data hsf
  clear hsl hsf
  go_enter Tryz.func20, Tryz.ntmps20
  go_wp2_with fail
  generalize hw1 : World.alloc _ _ = w1
  have hc1 : Chg NoB w w1 := by
   rw [← hw1]
   repeat (first | exact Chg.refl _ _ | apply Chg.alloc | apply Chg.drew)
  have hb1 : Blk w1 (w.heap.size) (dmCells b k n s (.slice al l.length cl) (.slice af f.length cf)) 43 := by
   rw [← hw1]
   repeat (first | exact Blk.newAt (by first | rfl | (simp; done) | (simp; omega)) | apply Blk.alloc | apply Blk.drew)
  have hr1 : Blk w1 (w.heap.size + 1) (dmCells false 0 0 ⟨#[]⟩ (.slice none 0 0) (.slice none 0 0)) 43 := by
   rw [← hw1]
   repeat (first | exact Blk.newAt (by first | rfl | (simp; done) | (simp; omega)) | apply Blk.alloc | apply Blk.drew)
  clear hw1
  have x0 : w1.cell? ⟨w.heap.size, 0, none⟩ = some (.bool b) := hb1.cell 0
  have x1 : w1.cell? ⟨w.heap.size, 1, none⟩ = some (.int .i64 (k)) := hb1.cell 1
  have x2 : w1.cell? ⟨w.heap.size, 2, none⟩ = some (.int .i64 (n)) := hb1.cell 2
  have x3 : w1.cell? ⟨w.heap.size, 3, none⟩ = some (.string s) := hb1.cell 3
  have x4 : w1.cell? ⟨w.heap.size, 4, none⟩ = some (.slice al l.length cl) := hb1.cell 4
  have x5 : w1.cell? ⟨w.heap.size, 5, none⟩ = some (.slice af f.length cf) := hb1.cell 5
  refine wp_region_n (fun w' => w'.cell? ⟨w.heap.size, 0, none⟩ = some (.bool b) ∧ w'.cell? ⟨w.heap.size, 1, none⟩ = some (.int .i64 k) ∧ w'.cell? ⟨w.heap.size, 2, none⟩ = some (.int .i64 n) ∧ w'.cell? ⟨w.heap.size, 3, none⟩ = some (.string s) ∧ w'.cell? ⟨w.heap.size, 4, none⟩ = some (.slice al l.length cl) ∧ w'.cell? ⟨w.heap.size, 5, none⟩ = some (.slice af f.length cf)) [11] (by kernel_rfl) ?_ (fun hSh => ?_)
  ·exact ⟨x0, x1, x2, x3, x4, x5⟩
  refine n_take (v := ?_) 0 rfl (Or.inl ⟨by rfl, ?_⟩) (by kernel_rfl) (fun _ _ _ h => h) (by assumption) ?_
  rotate_left 1
  ·(intro w' hSw; (try dsimp only at hSw); go_simp; try with_reducible rfl)
  simp only [Act.put, List.getElem_toArray, List.getElem_cons_zero, List.getElem_cons_succ, List.setIfInBounds_toArray, List.set_cons_zero, List.set_cons_succ]
  refine n_take (v := ?_) 1 rfl (Or.inl ⟨by rfl, ?_⟩) (by kernel_rfl) (fun _ _ _ h => h) (by assumption) ?_
  rotate_left 1
  ·(intro w' hSw; (try dsimp only at hSw); go_simp; try with_reducible rfl)
  simp only [Act.put, List.getElem_toArray, List.getElem_cons_zero, List.getElem_cons_succ, List.setIfInBounds_toArray, List.set_cons_zero, List.set_cons_succ]
  refine n_take (v := ?_) 2 rfl (Or.inl ⟨by rfl, ?_⟩) (by kernel_rfl) (fun _ _ _ h => h) (by assumption) ?_
  rotate_left 1
  ·(intro w' hSw; (try dsimp only at hSw); go_simp; try with_reducible rfl)
  simp only [Act.put, List.getElem_toArray, List.getElem_cons_zero, List.getElem_cons_succ, List.setIfInBounds_toArray, List.set_cons_zero, List.set_cons_succ]
  refine n_take (v := ?_) 3 rfl (Or.inl ⟨by rfl, ?_⟩) (by kernel_rfl) (fun _ _ _ h => h) (by assumption) ?_
  rotate_left 1
  ·(intro w' hSw; (try dsimp only at hSw); go_simp; try with_reducible rfl)
  simp only [Act.put, List.getElem_toArray, List.getElem_cons_zero, List.getElem_cons_succ, List.setIfInBounds_toArray, List.set_cons_zero, List.set_cons_succ]
  refine n_take (v := ?_) 4 rfl (Or.inl ⟨by rfl, ?_⟩) (by kernel_rfl) (fun _ _ _ h => h) (by assumption) ?_
  rotate_left 1
  ·(intro w' hSw; (try dsimp only at hSw); go_simp; try with_reducible rfl)
  simp only [Act.put, List.getElem_toArray, List.getElem_cons_zero, List.getElem_cons_succ, List.setIfInBounds_toArray, List.set_cons_zero, List.set_cons_succ]
  refine n_take (v := ?_) 5 rfl (Or.inl ⟨by rfl, ?_⟩) (by kernel_rfl) (fun _ _ _ h => h) (by assumption) ?_
  rotate_left 1
  ·(intro w' hSw; (try dsimp only at hSw); go_simp; try with_reducible rfl)
  simp only [Act.put, List.getElem_toArray, List.getElem_cons_zero, List.getElem_cons_succ, List.setIfInBounds_toArray, List.set_cons_zero, List.set_cons_succ]
  refine n_take (v := ?_) 7 rfl (Or.inl ⟨by rfl, ?_⟩) (by kernel_rfl) (fun _ _ _ h => h) (by assumption) ?_
  rotate_left 1
  ·(intro w' hSw; (try dsimp only at hSw); go_simp; try with_reducible rfl)
  simp only [Act.put, List.getElem_toArray, List.getElem_cons_zero, List.getElem_cons_succ, List.setIfInBounds_toArray, List.set_cons_zero, List.set_cons_succ]
  refine n_take (v := ?_) 8 rfl (Or.inl ⟨by rfl, ?_⟩) (by kernel_rfl) (fun _ _ _ h => h) (by assumption) ?_
  rotate_left 1
  ·(intro w' hSw; (try dsimp only at hSw); go_simp; try with_reducible rfl)
  simp only [Act.put, List.getElem_toArray, List.getElem_cons_zero, List.getElem_cons_succ, List.setIfInBounds_toArray, List.set_cons_zero, List.set_cons_succ]
  refine n_step 6 rfl (by kernel_rfl) ?_
  go_wp2_with fail
  refine (Dl.out w1.drew S _ (hsl'.chg0 hc1.drew) hl).mono ?_
  rintro en w2 ⟨v2, rfl, hr2, hc2⟩
  replace hc2 := hc2.ofDrew
  obtain ⟨a2, c2, rfl, _, _, _⟩ := reads_data hr2
  go_wp2_with fail
  have hb2 := hb1.keep hc2 NoB.elim
  refine ⟨fun _ => ⟨hb2.cell 0, hb2.cell 1, hb2.cell 2, hb2.cell 3, hb2.cell 4, hb2.cell 5⟩, fun hSk => ?_⟩
  replace hSk := hSk (by rfl)
  refine n_step 9 rfl (by kernel_rfl) ?_
  go_wp2_with fail
  refine (Df.out w2 S _ (hsf'.chg0 (hc1.tr hc2)) hf).mono ?_
  rintro en w3 ⟨v3, rfl, hr3, hc3⟩
  obtain ⟨a3, c3, rfl, _, _, _⟩ := reads_data hr3
  go_wp2_with fail
  have hb3 := hb2.keep hc3 NoB.elim
  refine ⟨fun _ => ⟨hb3.cell 0, hb3.cell 1, hb3.cell 2, hb3.cell 3, hb3.cell 4, hb3.cell 5⟩, fun hSk3 => ?_⟩
  replace hSk3 := hSk3 (by rfl)
  refine n_take (v := ?_) 10 rfl (Or.inl ⟨by rfl, ?_⟩) (by kernel_rfl) (fun _ _ _ h => h) (by assumption) ?_
  rotate_left 1
  ·(intro w' hSw; (try dsimp only at hSw); go_simp; try with_reducible rfl)
  simp only [Act.put, List.getElem_toArray, List.getElem_cons_zero, List.getElem_cons_succ, List.setIfInBounds_toArray, List.set_cons_zero, List.set_cons_succ]
  have hr3' := (hr1.keep hc2 NoB.elim).keep hc3 NoB.elim
  have y0 : w3.cell? ⟨w.heap.size + 1, 0, none⟩ = some (.bool false) := hr3'.cell 0
  have y1 : w3.cell? ⟨w.heap.size + 1, 1, none⟩ = some (.int .i64 (0)) := hr3'.cell 1
  have y2 : w3.cell? ⟨w.heap.size + 1, 2, none⟩ = some (.int .i64 (0)) := hr3'.cell 2
  have y3 : w3.cell? ⟨w.heap.size + 1, 3, none⟩ = some (.string ⟨#[]⟩) := hr3'.cell 3
  have y4 : w3.cell? ⟨w.heap.size + 1, 4, none⟩ = some (.slice none 0 0) := hr3'.cell 4
  have y5 : w3.cell? ⟨w.heap.size + 1, 5, none⟩ = some (.slice none 0 0) := hr3'.cell 5
  have z0 : w3.frozen? ⟨w.heap.size + 1, 0, none⟩ = false := hr3'.free 0
  have z1 : w3.frozen? ⟨w.heap.size + 1, 1, none⟩ = false := hr3'.free 1
  have z2 : w3.frozen? ⟨w.heap.size + 1, 2, none⟩ = false := hr3'.free 2
  have z3 : w3.frozen? ⟨w.heap.size + 1, 3, none⟩ = false := hr3'.free 3
  have z4 : w3.frozen? ⟨w.heap.size + 1, 4, none⟩ = false := hr3'.free 4
  have z5 : w3.frozen? ⟨w.heap.size + 1, 5, none⟩ = false := hr3'.free 5
  refine n_step 11 rfl (by kernel_rfl) ?_
  go_wp2_with fail
  refine ⟨fun hx => absurd hx (by decide), fun _ => ?_⟩
  refine n_done (by kernel_rfl) ?_
  have hck := (hc1.tr hc2).tr hc3
  have hz1 := hr1.lt
  have hz2 := hc2.size
  have hz3 := hc3.size
  have hbE := store6 hr3' (.bool b) (.int .i64 (k)) (.int .i64 (n)) (.string s) (.slice a2 l.length c2) (.slice a3 f.length c3)
  have hsE := store6_chg w3 (w.heap.size + 1) (.bool b) (.int .i64 (k)) (.int .i64 (n)) (.string s) (.slice a2 l.length c2) (.slice a3 f.length c3)
  have hcE := hck.trans hsE (fun i e => .inr (by have e : i = w.heap.size + 1 := e; omega))
  generalize World.setCell (World.setCell (World.setCell (World.setCell (World.setCell (World.setCell w3 ⟨w.heap.size + 1, 0, none⟩ (.bool b)) ⟨w.heap.size + 1, 1, none⟩ (.int .i64 (k))) ⟨w.heap.size + 1, 2, none⟩ (.int .i64 (n))) ⟨w.heap.size + 1, 3, none⟩ (.string s)) ⟨w.heap.size + 1, 4, none⟩ (.slice a2 l.length c2)) ⟨w.heap.size + 1, 5, none⟩ (.slice a3 f.length c3) = wE at hbE hsE hcE ⊢
  have n0 : wE.cell? ⟨w.heap.size + 1, 0, none⟩ = some (.bool b) := hbE.cell 0
  have n1 : wE.cell? ⟨w.heap.size + 1, 1, none⟩ = some (.int .i64 (k)) := hbE.cell 1
  have n2 : wE.cell? ⟨w.heap.size + 1, 2, none⟩ = some (.int .i64 (n)) := hbE.cell 2
  have n3 : wE.cell? ⟨w.heap.size + 1, 3, none⟩ = some (.string s) := hbE.cell 3
  have n4 : wE.cell? ⟨w.heap.size + 1, 4, none⟩ = some (.slice a2 l.length c2) := hbE.cell 4
  have n5 : wE.cell? ⟨w.heap.size + 1, 5, none⟩ = some (.slice a3 f.length c3) := hbE.cell 5
  go_wp2_with fail
  refine bodyPost_ret (v := .agg #[.bool b, .int .i64 (k), .int .i64 (n), .string s, .slice a2 l.length c2, .slice a3 f.length c3]) (by simp [results, Tryz.results20, go_sem, n0, n1, n2, n3, n4, n5]) rfl ?_
  refine ⟨_, rfl, reads_dm.2 ⟨_, _, rfl, ?_, ?_⟩, hcE⟩
  ·exact ((hr2.chg0 hc3).chg hsE (fun b hb e => by have hb : w1.drew.heap.size ≤ b := hb; have hd : w1.drew.heap.size = w1.heap.size := rfl; have e : b = w.heap.size + 1 := e; omega)).mono (fun b hb => by have hb : w1.drew.heap.size ≤ b := hb; have hd : w1.drew.heap.size = w1.heap.size := rfl; omega)
  ·exact (hr3.chg hsE (fun b hb e => by have hb : w2.heap.size ≤ b := hb; have e : b = w.heap.size + 1 := e; omega)).mono (fun b hb => by have hb : w2.heap.size ≤ b := hb; omega)
end Go.Proofs.YtgcmfpcgmkkobaaGreatDoor
namespace Go.Proofs.YtgcmfpcgmkkobaaGreatDoor
open Go.RowKit

def SameDRel (w : World) (l : List Dm) (vi : Value) (wr : World) : Prop := ∃ j, j ≤ l.length ∧ vi = .int .i64 (j : Nat) ∧ Chg NoB w wr

set_option maxHeartbeats 1000000 in
theorem sameData_of (l : List Dm) (hcall : ∀ d ∈ l, ∀ (w : World) (S S' : Nat → Prop) (cs cs' : List Value), Reads w S d.dt cs → Reads w S' d.dt cs' → Calls Tryz.prog 21 #[.agg cs.toArray, .agg cs'.toArray] w (RetV (.bool true) w))
  (w : World) (S S' : Nat → Prop) (v v' : Value) (hr : Reads w S (.list 6 (Dm.dts l)) [v]) (hr' : Reads w S' (.list 6 (Dm.dts l)) [v']) : Calls Tryz.prog 38 #[v, v'] w (RetV (.bool true) w) := by
 obtain ⟨a, cap, rfl, hlen, hcap, hel⟩ := reads_data hr
 obtain ⟨a', cap', rfl, hlen', hcap', hel'⟩ := reads_data hr'
 have hl : l.length ≤ 9223372036854775807 := by unfold maxLen at hcap; omega
 have Hcall := Lib.hid hcall
 clear hcall
 go_enter Tryz.func38, Tryz.ntmps38
 go_wp2_with fail
 go_loopw [5] (fun vi wr => SameDRel w l vi wr) (fun vi _ => l.length - (intOf vi).toNat)
 case atStart => exact ⟨0, Nat.zero_le _, rfl, Chg.refl _ _⟩
 case round =>
  obtain ⟨j, hj, rfl, hc⟩ := hrel
  by_cases hlt : j < l.length
  ·have hltI : (j : Int) < (l.length : Int) := by omega
   obtain ⟨b, off, rfl, hSb, hbw, hE⟩ := hel (by omega)
   obtain ⟨b', off', rfl, hSb', hbw', hE'⟩ := hel' (by omega)
   obtain ⟨ecs, hl6, hcells, hre⟩ := hE.get j l[j].dt (by simp [hlt])
   obtain ⟨ecs', hl6', hcells', hre'⟩ := hE'.get j l[j].dt (by simp [hlt])
   have hcall := Hcall.out _ (List.getElem_mem hlt)
   have Hc1 := Lib.hid hcall
   clear hcall
   generalize l[j] = dj at hre hre' Hc1
   obtain ⟨b1, k1, n1, s1, l1, f1⟩ := dj
   obtain ⟨vl1, vf1, rfl, _, _⟩ := reads_dm.1 hre
   obtain ⟨vl1', vf1', rfl, _, _⟩ := reads_dm.1 hre'
   have ef : ∀ t c, [Value.bool b1, .int .i64 k1, .int .i64 n1, .string s1, vl1, vf1][t]? = some c → wr.cell? ⟨b, off + j * 6 + t, none⟩ = some c := fun t c ht => (hc.cell (p := ⟨b, off + j * 6 + t, none⟩) hbw (fun e => e)).trans (hcells t c ht)
   have e0 : wr.cell? ⟨b, off + j * 6, none⟩ = some (.bool b1) := ef 0 _ rfl
   have e1 : wr.cell? ⟨b, off + j * 6 + 1, none⟩ = some (.int .i64 k1) := ef 1 _ rfl
   have e2 : wr.cell? ⟨b, off + j * 6 + 2, none⟩ = some (.int .i64 n1) := ef 2 _ rfl
   have e3 : wr.cell? ⟨b, off + j * 6 + 3, none⟩ = some (.string s1) := ef 3 _ rfl
   have e4 : wr.cell? ⟨b, off + j * 6 + 4, none⟩ = some vl1 := ef 4 _ rfl
   have e5 : wr.cell? ⟨b, off + j * 6 + 5, none⟩ = some vf1 := ef 5 _ rfl
   clear ef
   have gf : ∀ t c, [Value.bool b1, .int .i64 k1, .int .i64 n1, .string s1, vl1', vf1'][t]? = some c → wr.cell? ⟨b', off' + j * 6 + t, none⟩ = some c := fun t c ht => (hc.cell (p := ⟨b', off' + j * 6 + t, none⟩) hbw' (fun e => e)).trans (hcells' t c ht)
   have g0 : wr.cell? ⟨b', off' + j * 6, none⟩ = some (.bool b1) := gf 0 _ rfl
   have g1 : wr.cell? ⟨b', off' + j * 6 + 1, none⟩ = some (.int .i64 k1) := gf 1 _ rfl
   have g2 : wr.cell? ⟨b', off' + j * 6 + 2, none⟩ = some (.int .i64 n1) := gf 2 _ rfl
   have g3 : wr.cell? ⟨b', off' + j * 6 + 3, none⟩ = some (.string s1) := gf 3 _ rfl
   have g4 : wr.cell? ⟨b', off' + j * 6 + 4, none⟩ = some vl1' := gf 4 _ rfl
   have g5 : wr.cell? ⟨b', off' + j * 6 + 5, none⟩ = some vf1' := gf 5 _ rfl
   clear gf
   go_wp2_with fail
   refine wp_region_n (fun w' => w'.cell? ⟨b, off + j * 6, none⟩ = some (.bool b1) ∧ w'.cell? ⟨b, off + j * 6 + 1, none⟩ = some (.int .i64 k1) ∧ w'.cell? ⟨b, off + j * 6 + 2, none⟩ = some (.int .i64 n1) ∧ w'.cell? ⟨b, off + j * 6 + 3, none⟩ = some (.string s1) ∧ w'.cell? ⟨b, off + j * 6 + 4, none⟩ = some (vl1) ∧ w'.cell? ⟨b, off + j * 6 + 5, none⟩ = some (vf1) ∧ w'.cell? ⟨b', off' + j * 6, none⟩ = some (.bool b1) ∧ w'.cell? ⟨b', off' + j * 6 + 1, none⟩ = some (.int .i64 k1) ∧ w'.cell? ⟨b', off' + j * 6 + 2, none⟩ = some (.int .i64 n1) ∧ w'.cell? ⟨b', off' + j * 6 + 3, none⟩ = some (.string s1) ∧ w'.cell? ⟨b', off' + j * 6 + 4, none⟩ = some (vl1') ∧ w'.cell? ⟨b', off' + j * 6 + 5, none⟩ = some (vf1')) [] (by kernel_rfl) ?_ (fun hSh => ?_)
   ·exact ⟨e0, e1, e2, e3, e4, e5, g0, g1, g2, g3, g4, g5⟩
   refine n_take (v := ?_) 0 rfl (Or.inl ⟨by rfl, ?_⟩) (by kernel_rfl) (fun _ _ _ h => h) (by assumption) ?_
   rotate_left 1
   ·(intro w' hSw; (try dsimp only at hSw); go_simp; try with_reducible rfl)
   simp only [Act.put, List.getElem_toArray, List.getElem_cons_zero, List.getElem_cons_succ, List.setIfInBounds_toArray, List.set_cons_zero, List.set_cons_succ]
   refine n_take (v := ?_) 1 rfl (Or.inl ⟨by rfl, ?_⟩) (by kernel_rfl) (fun _ _ _ h => h) (by assumption) ?_
   rotate_left 1
   ·(intro w' hSw; (try dsimp only at hSw); go_simp; try with_reducible rfl)
   simp only [Act.put, List.getElem_toArray, List.getElem_cons_zero, List.getElem_cons_succ, List.setIfInBounds_toArray, List.set_cons_zero, List.set_cons_succ]
   refine n_take (v := ?_) 2 rfl (Or.inl ⟨by rfl, ?_⟩) (by kernel_rfl) (fun _ _ _ h => h) (by assumption) ?_
   rotate_left 1
   ·(intro w' hSw; (try dsimp only at hSw); go_simp; try with_reducible rfl)
   simp only [Act.put, List.getElem_toArray, List.getElem_cons_zero, List.getElem_cons_succ, List.setIfInBounds_toArray, List.set_cons_zero, List.set_cons_succ]
   refine n_take (v := ?_) 3 rfl (Or.inl ⟨by rfl, ?_⟩) (by kernel_rfl) (fun _ _ _ h => h) (by assumption) ?_
   rotate_left 1
   ·(intro w' hSw; (try dsimp only at hSw); go_simp; try with_reducible rfl)
   simp only [Act.put, List.getElem_toArray, List.getElem_cons_zero, List.getElem_cons_succ, List.setIfInBounds_toArray, List.set_cons_zero, List.set_cons_succ]
   refine n_take (v := ?_) 4 rfl (Or.inl ⟨by rfl, ?_⟩) (by kernel_rfl) (fun _ _ _ h => h) (by assumption) ?_
   rotate_left 1
   ·(intro w' hSw; (try dsimp only at hSw); go_simp; try with_reducible rfl)
   simp only [Act.put, List.getElem_toArray, List.getElem_cons_zero, List.getElem_cons_succ, List.setIfInBounds_toArray, List.set_cons_zero, List.set_cons_succ]
   refine n_take (v := ?_) 5 rfl (Or.inl ⟨by rfl, ?_⟩) (by kernel_rfl) (fun _ _ _ h => h) (by assumption) ?_
   rotate_left 1
   ·(intro w' hSw; (try dsimp only at hSw); go_simp; try with_reducible rfl)
   simp only [Act.put, List.getElem_toArray, List.getElem_cons_zero, List.getElem_cons_succ, List.setIfInBounds_toArray, List.set_cons_zero, List.set_cons_succ]
   refine n_take (v := ?_) 6 rfl (Or.inl ⟨by rfl, ?_⟩) (by kernel_rfl) (fun _ _ _ h => h) (by assumption) ?_
   rotate_left 1
   ·(intro w' hSw; (try dsimp only at hSw); go_simp; try with_reducible rfl)
   simp only [Act.put, List.getElem_toArray, List.getElem_cons_zero, List.getElem_cons_succ, List.setIfInBounds_toArray, List.set_cons_zero, List.set_cons_succ]
   refine n_take (v := ?_) 7 rfl (Or.inl ⟨by rfl, ?_⟩) (by kernel_rfl) (fun _ _ _ h => h) (by assumption) ?_
   rotate_left 1
   ·(intro w' hSw; (try dsimp only at hSw); go_simp; try with_reducible rfl)
   simp only [Act.put, List.getElem_toArray, List.getElem_cons_zero, List.getElem_cons_succ, List.setIfInBounds_toArray, List.set_cons_zero, List.set_cons_succ]
   refine n_step 8 rfl (by kernel_rfl) ?_
   go_wp2_with fail
   refine (Hc1.out wr.drew S S' _ _ (hre.chg0 hc.drew) (hre'.chg0 hc.drew)).mono ?_
   rintro e w1 ⟨rfl, hc1⟩
   replace hc1 := hc1.ofDrew
   go_wp2_with fail
   refine ⟨fun _ => ?_, fun hSk => ?_⟩
   ·(repeat' refine And.intro ?_ ?_) <;> exact (hc1.cell (by first | assumption | (simp; done) | (have := hc.size; simp; omega)) NoB.elim).trans (by assumption)
   replace hSk := hSk (by rfl)
   refine n_take (v := ?_) 9 rfl (Or.inl ⟨by rfl, ?_⟩) (by kernel_rfl) (fun _ _ _ h => h) (by assumption) ?_
   rotate_left 1
   ·(intro w' hSw; (try dsimp only at hSw); go_simp; try with_reducible rfl)
   simp only [Act.put, List.getElem_toArray, List.getElem_cons_zero, List.getElem_cons_succ, List.setIfInBounds_toArray, List.set_cons_zero, List.set_cons_succ]
   refine n_done (by kernel_rfl) ?_
   go_wp2_with fail
   go_roundw
   case rel => exact ⟨j + 1, hlt, by go_num, hc.tr hc1⟩
   case measure => simp [intOf]; omega
  ·have hltI : ¬ ((j : Int) < (l.length : Int)) := by omega
   go_wp2_with fail
   go_ret
   exact ⟨rfl, hc⟩

set_option maxHeartbeats 1000000 in
theorem sameDatum_yes : ∀ (m : Nat) (d : Dm) (w : World) (S S' : Nat → Prop) (cs cs' : List Value), d.weigh ≤ m → Reads w S d.dt cs → Reads w S' d.dt cs' →
  Calls Tryz.prog 21 #[.agg cs.toArray, .agg cs'.toArray] w (RetV (.bool true) w) := by
 intro m
 induction m with
 | zero => intro d w S S' cs cs' hm; cases d; simp [Dm.weigh] at hm
 | succ m ih =>
  intro d w S S' cs cs' hm hr hr'
  obtain ⟨b, k, n, s, l, f⟩ := d
  obtain ⟨vl, vf, rfl, hsl, hsf⟩ := reads_dm.1 hr
  obtain ⟨vl', vf', rfl, hsl', hsf'⟩ := reads_dm.1 hr'
  simp only [Dm.weigh] at hm
  have dl := fun w => sameData_of l (fun d hd w S S' cs cs' hr hr' => ih d w S S' cs cs' (by have := Dm.weigh_mem hd; omega) hr hr') w
  have df := fun w => sameData_of f (fun d hd w S S' cs cs' hr hr' => ih d w S S' cs cs' (by have := Dm.weigh_mem hd; omega) hr hr') w
  have Dl := Lib.hid dl
  have Df := Lib.hid df
  clear dl df ih
  have h1 := hsl
  have h2 := hsf
  have h3 := hsl'
  have h4 := hsf'
  obtain ⟨al, cl, rfl, _, _, _⟩ := reads_data h1
  obtain ⟨af, cf, rfl, _, _, _⟩ := reads_data h2
  obtain ⟨al', cl', rfl, _, _, _⟩ := reads_data h3
  obtain ⟨af', cf', rfl, _, _, _⟩ := reads_data h4
  clear h1 h2 h3 h4
  go_enter Tryz.func21, Tryz.ntmps21
  go_wp2_with fail
  generalize hw1 : World.alloc _ _ = w1
  have hc1 : Chg NoB w w1 := by
   rw [← hw1]
   repeat (first | exact Chg.refl _ _ | apply Chg.alloc | apply Chg.drew)
  have hx1 : Blk w1 (w.heap.size) (dmCells b k n s (.slice al l.length cl) (.slice af f.length cf)) 43 := by
   rw [← hw1]
   repeat (first | exact Blk.newAt (by first | rfl | (simp; done) | (simp; omega)) | apply Blk.alloc | apply Blk.drew)
  have hy1 : Blk w1 (w.heap.size + 1) (dmCells b k n s (.slice al' l.length cl') (.slice af' f.length cf')) 43 := by
   rw [← hw1]
   repeat (first | exact Blk.newAt (by first | rfl | (simp; done) | (simp; omega)) | apply Blk.alloc | apply Blk.drew)
  clear hw1
  refine (Dl.out w1 S S' _ _ (hsl.chg0 hc1) (hsl'.chg0 hc1)).mono ?_
  rintro e w2 ⟨rfl, hc2⟩
  have hx2 := hx1.keep hc2 NoB.elim
  have hy2 := hy1.keep hc2 NoB.elim
  have x0 : w2.cell? ⟨w.heap.size, 0, none⟩ = some (.bool b) := hx2.cell 0
  have x1 : w2.cell? ⟨w.heap.size, 1, none⟩ = some (.int .i64 (k)) := hx2.cell 1
  have x2 : w2.cell? ⟨w.heap.size, 2, none⟩ = some (.int .i64 (n)) := hx2.cell 2
  have x3 : w2.cell? ⟨w.heap.size, 3, none⟩ = some (.string s) := hx2.cell 3
  have x4 : w2.cell? ⟨w.heap.size, 4, none⟩ = some (.slice al l.length cl) := hx2.cell 4
  have x5 : w2.cell? ⟨w.heap.size, 5, none⟩ = some (.slice af f.length cf) := hx2.cell 5
  have y0 : w2.cell? ⟨w.heap.size + 1, 0, none⟩ = some (.bool b) := hy2.cell 0
  have y1 : w2.cell? ⟨w.heap.size + 1, 1, none⟩ = some (.int .i64 (k)) := hy2.cell 1
  have y2 : w2.cell? ⟨w.heap.size + 1, 2, none⟩ = some (.int .i64 (n)) := hy2.cell 2
  have y3 : w2.cell? ⟨w.heap.size + 1, 3, none⟩ = some (.string s) := hy2.cell 3
  have y4 : w2.cell? ⟨w.heap.size + 1, 4, none⟩ = some (.slice al' l.length cl') := hy2.cell 4
  have y5 : w2.cell? ⟨w.heap.size + 1, 5, none⟩ = some (.slice af' f.length cf') := hy2.cell 5
  go_wp2_with fail
  refine (Df.out w2 S S' _ _ (hsf.chg0 (hc1.tr hc2)) (hsf'.chg0 (hc1.tr hc2))).mono ?_
  rintro e w3 ⟨rfl, hc3⟩
  go_wp2_with fail
  go_ret
  exact ⟨rfl, (hc1.tr hc2).tr hc3⟩
end Go.Proofs.YtgcmfpcgmkkobaaGreatDoor
namespace Go.Proofs.YtgcmfpcgmkkobaaGreatDoor
open Go.RowKit

def zeroV (k n : Int) (s : ByteArray) : Bool := decide (k = 0 ∧ n = 0 ∧ s = ⟨#[]⟩)
theorem bytes_ne {s : ByteArray} (h : ¬ s = ⟨#[]⟩) : ¬ s.toList = [] := by
 intro e
 rw [ByteArray.toList_eq] at e
 apply h
 obtain ⟨a⟩ := s
 have e : a.toList = [] := e
 rw [Array.toList_eq_nil_iff.1 e]
def bareF (no : Bool) (k n : Int) (s : ByteArray) (l f : Nat) (a b c e : Bool) : Bool := (a || !no) && (b || zeroV k n s) && (c || l == 0) && (e || f == 0)

set_option maxHeartbeats 1000000 in
theorem bare_1000 (no : Bool) (k n : Int) (s : ByteArray) (al af : Option Addr) (l cl f cf : Nat) (w : World) :
  Calls Tryz.prog 75 #[.agg #[.bool no, .int .i64 k, .int .i64 n, .string s, .slice al l cl, .slice af f cf], .bool true, .bool false, .bool false, .bool false] w (RetV (.bool (bareF no k n s l f true false false false)) w) := by
 go_enter Tryz.func75, Tryz.ntmps75
 by_cases hk : k = 0
 case neg =>
  go_wp2_with fail
  go_ret
  refine ⟨?_, (Chg.refl _ _).alloc _⟩
  simp [bareF, zeroV, *]
 subst hk
 by_cases hn : n = 0
 case neg =>
  go_wp2_with fail
  go_ret
  refine ⟨?_, (Chg.refl _ _).alloc _⟩
  simp [bareF, zeroV, *]
 subst hn
 by_cases hs : s = ⟨#[]⟩
 case neg =>
  have hs2 := bytes_ne hs
  go_wp2_with fail
  go_ret
  refine ⟨?_, (Chg.refl _ _).alloc _⟩
  simp [bareF, zeroV, *]
 subst hs
 by_cases hl : l = 0
 case neg =>
  have hI : ¬ ((l : Int) = 0) := by omega
  have hI2 : ((l : Int) == 0) = false := by simpa using hI
  go_wp2_with fail
  go_ret
  refine ⟨?_, (Chg.refl _ _).alloc _⟩
  simp [bareF, zeroV, *]
 subst hl
 by_cases hf : f = 0
 case neg =>
  have hI : ¬ ((f : Int) = 0) := by omega
  have hI2 : ((f : Int) == 0) = false := by simpa using hI
  go_wp2_with fail
  go_ret
  refine ⟨?_, (Chg.refl _ _).alloc _⟩
  simp [bareF, zeroV, *]
 subst hf
 go_wp2_with fail
 go_ret
 refine ⟨?_, (Chg.refl _ _).alloc _⟩
 simp [bareF, zeroV, *]

set_option maxHeartbeats 1000000 in
theorem bare_0010 (no : Bool) (k n : Int) (s : ByteArray) (al af : Option Addr) (l cl f cf : Nat) (w : World) :
  Calls Tryz.prog 75 #[.agg #[.bool no, .int .i64 k, .int .i64 n, .string s, .slice al l cl, .slice af f cf], .bool false, .bool false, .bool true, .bool false] w (RetV (.bool (bareF no k n s l f false false true false)) w) := by
 go_enter Tryz.func75, Tryz.ntmps75
 cases no with
 | true =>
  go_wp2_with fail
  go_ret
  refine ⟨?_, (Chg.refl _ _).alloc _⟩
  simp [bareF, zeroV, *]
 | false =>
 by_cases hk : k = 0
 case neg =>
  go_wp2_with fail
  go_ret
  refine ⟨?_, (Chg.refl _ _).alloc _⟩
  simp [bareF, zeroV, *]
 subst hk
 by_cases hn : n = 0
 case neg =>
  go_wp2_with fail
  go_ret
  refine ⟨?_, (Chg.refl _ _).alloc _⟩
  simp [bareF, zeroV, *]
 subst hn
 by_cases hs : s = ⟨#[]⟩
 case neg =>
  have hs2 := bytes_ne hs
  go_wp2_with fail
  go_ret
  refine ⟨?_, (Chg.refl _ _).alloc _⟩
  simp [bareF, zeroV, *]
 subst hs
 by_cases hf : f = 0
 case neg =>
  have hI : ¬ ((f : Int) = 0) := by omega
  have hI2 : ((f : Int) == 0) = false := by simpa using hI
  go_wp2_with fail
  go_ret
  refine ⟨?_, (Chg.refl _ _).alloc _⟩
  simp [bareF, zeroV, *]
 subst hf
 go_wp2_with fail
 go_ret
 refine ⟨?_, (Chg.refl _ _).alloc _⟩
 simp [bareF, zeroV, *]

set_option maxHeartbeats 1000000 in
theorem bare_0100 (no : Bool) (k n : Int) (s : ByteArray) (al af : Option Addr) (l cl f cf : Nat) (w : World) :
  Calls Tryz.prog 75 #[.agg #[.bool no, .int .i64 k, .int .i64 n, .string s, .slice al l cl, .slice af f cf], .bool false, .bool true, .bool false, .bool false] w (RetV (.bool (bareF no k n s l f false true false false)) w) := by
 go_enter Tryz.func75, Tryz.ntmps75
 cases no with
 | true =>
  go_wp2_with fail
  go_ret
  refine ⟨?_, (Chg.refl _ _).alloc _⟩
  simp [bareF, zeroV, *]
 | false =>
 by_cases hl : l = 0
 case neg =>
  have hI : ¬ ((l : Int) = 0) := by omega
  have hI2 : ((l : Int) == 0) = false := by simpa using hI
  go_wp2_with fail
  go_ret
  refine ⟨?_, (Chg.refl _ _).alloc _⟩
  simp [bareF, zeroV, *]
 subst hl
 by_cases hf : f = 0
 case neg =>
  have hI : ¬ ((f : Int) = 0) := by omega
  have hI2 : ((f : Int) == 0) = false := by simpa using hI
  go_wp2_with fail
  go_ret
  refine ⟨?_, (Chg.refl _ _).alloc _⟩
  simp [bareF, zeroV, *]
 subst hf
 go_wp2_with fail
 go_ret
 refine ⟨?_, (Chg.refl _ _).alloc _⟩
 simp [bareF, zeroV, *]

set_option maxHeartbeats 1000000 in
theorem bare_0001 (no : Bool) (k n : Int) (s : ByteArray) (al af : Option Addr) (l cl f cf : Nat) (w : World) :
  Calls Tryz.prog 75 #[.agg #[.bool no, .int .i64 k, .int .i64 n, .string s, .slice al l cl, .slice af f cf], .bool false, .bool false, .bool false, .bool true] w (RetV (.bool (bareF no k n s l f false false false true)) w) := by
 go_enter Tryz.func75, Tryz.ntmps75
 cases no with
 | true =>
  go_wp2_with fail
  go_ret
  refine ⟨?_, (Chg.refl _ _).alloc _⟩
  simp [bareF, zeroV, *]
 | false =>
 by_cases hk : k = 0
 case neg =>
  go_wp2_with fail
  go_ret
  refine ⟨?_, (Chg.refl _ _).alloc _⟩
  simp [bareF, zeroV, *]
 subst hk
 by_cases hn : n = 0
 case neg =>
  go_wp2_with fail
  go_ret
  refine ⟨?_, (Chg.refl _ _).alloc _⟩
  simp [bareF, zeroV, *]
 subst hn
 by_cases hs : s = ⟨#[]⟩
 case neg =>
  have hs2 := bytes_ne hs
  go_wp2_with fail
  go_ret
  refine ⟨?_, (Chg.refl _ _).alloc _⟩
  simp [bareF, zeroV, *]
 subst hs
 by_cases hl : l = 0
 case neg =>
  have hI : ¬ ((l : Int) = 0) := by omega
  have hI2 : ((l : Int) == 0) = false := by simpa using hI
  go_wp2_with fail
  go_ret
  refine ⟨?_, (Chg.refl _ _).alloc _⟩
  simp [bareF, zeroV, *]
 subst hl
 go_wp2_with fail
 go_ret
 refine ⟨?_, (Chg.refl _ _).alloc _⟩
 simp [bareF, zeroV, *]
end Go.Proofs.YtgcmfpcgmkkobaaGreatDoor
