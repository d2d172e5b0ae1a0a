/-
 schema.Read.
 The plain law: the text of a right schema is read as it.
 The text of a right schema is read as it: the plain law.
 schema.Find: the first node with an ID, of a right schema.
 A projection of a right schema, as plain data: it is right, its leaves are some of the schema's, projected again it is the same.
-/
import Derived.Test.YtgcmfpcgmkkobaaGreatDoorNodes
import Derived.Test.YtgcmfpcgmkkobaaGreatDoorPackA
import Derived.Test.YtgcmfpcgmkkobaaGreatDoorPackC
import Derived.Test.YtgcmfpcgmkkobaaGreatDoorPackB
set_option linter.unusedVariables false
set_option linter.unusedSimpArgs false
namespace Go.Proofs.YtgcmfpcgmkkobaaGreatDoor
open Go.RowKit

theorem idxFrom_bd (x : ByteArray) : ∀ (zs : List ByteArray) (i : Nat), -1 ≤ Lib.idxFromS zs x i ∧ Lib.idxFromS zs x i ≤ (i + zs.length : Nat)
 | [], i => by simp [Lib.idxFromS]
 | z :: zs, i => by
  have := idxFrom_bd x zs (i + 1)
  simp only [Lib.idxFromS]
  split
  ·simp; omega
  ·simp only [List.length_cons]; omega
theorem idxT_bd (l : List ByteArray) (w : List UInt8) : -1 ≤ idxT l w ∧ idxT l w ≤ l.length := by
 have := idxFrom_bd ⟨w.toArray⟩ l 0
 simpa [idxT, Lib.idxOfS] using this
theorem numOk_bd {w : List UInt8} {v : Int} (h : numOk w = some v) : I64 v := by
 unfold numOk at h
 split at h
 ·rename_i v' ha
  obtain rfl := Option.some.inj h
  unfold Lib.atoiAll at ha
  split at ha
  ·cases ha
  ·dsimp only at ha
   split at ha
   ·cases ha
   ·cases ha
   ·split at ha
    ·cases ha
    ·split at ha
     ·cases ha
     ·rename_i h1 h2
      injection ha with ha
      subst ha
      unfold I64
      split <;> omega
 ·cases h
theorem wordId_bd {w : List UInt8} {v : Int} (h : wordId w = some v) : I64 v := by
 unfold wordId at h
 split at h
 ·cases h
 ·split at h
  ·split at h
   ·cases h
   ·rename_i hn
    split at h
    ·cases h
    ·split at h
     ·cases h
     ·obtain rfl := Option.some.inj h
      exact numOk_bd hn
  ·cases h
theorem tok_size (l : List UInt8) (h : l.length ≤ 8000) : (⟨(tok l).toArray⟩ : ByteArray).size ≤ reach := by
 have := tok_le l
 show (tok l).length ≤ reach
 unfold reach
 omega
theorem head_leaf_ok {deep : Int} {rest q : List UInt8} {n : Nd} (hl : rest.length ≤ 8000) (h : headN deep rest = .leaf n q) : n.ok := by
 have h1 := nxt_le' rest
 have h2 := nxt_le' (nxt rest)
 unfold headN at h
 split at h
 ·cases h
 split at h
 ·cases h
 split at h
 ·cases h
 split at h
 ·cases h
 split at h
 ·cases h
 rename_i i hw
 split at h
 ·split at h
  ·cases h
  ·split at h <;> cases h
 ·split at h
  ·cases h
  ·cases h
   have a := idxT_bd repT (tok rest)
   have b := idxT_bd kindT (tok (nxt rest))
   have c : repT.length = 4 := rfl
   have d : kindT.length = 6 := rfl
   refine ⟨wordId_bd hw, tok_size _ (by omega), ⟨by omega, by omega⟩, ⟨by omega, by omega⟩, by simp [reach], trivial⟩
theorem head_group_ok {deep : Int} {rest q : List UInt8} {i p : Int} {nm : ByteArray} (hl : rest.length ≤ 8000) (h : headN deep rest = .group i nm p q) : I64 i ∧ nm.size ≤ reach ∧ I64 p := by
 have h1 := nxt_le' rest
 have h2 := nxt_le' (nxt rest)
 unfold headN at h
 split at h
 ·cases h
 split at h
 ·cases h
 split at h
 ·cases h
 split at h
 ·cases h
 split at h
 ·cases h
 rename_i i' hw
 split at h
 ·split at h
  ·cases h
  ·split at h
   ·cases h
   ·cases h
    have a := idxT_bd repT (tok rest)
    have c : repT.length = 4 := rfl
    exact ⟨wordId_bd hw, tok_size _ (by omega), ⟨by omega, by omega⟩⟩
 ·split at h <;> cases h
theorem PR.cons_eq {n : Nd} {p : PR} {l : List Nd} {q : List UInt8} (h : p.cons n = .ok l q) : ∃ l', l = n :: l' ∧ p = .ok l' q := by
 cases p with
 | ok l' r => simp only [PR.cons, PR.ok.injEq] at h; exact ⟨l', h.1.symm, by rw [h.2]⟩
 | bad e r => simp [PR.cons] at h
theorem parse_ok : ∀ (m : Nat) (deep : Int) (rest : List UInt8) (l : List Nd) (q : List UInt8), rest.length ≤ m → rest.length ≤ 8000 → parseL deep rest = .ok l q → Nd.oks l ∧ l.length + q.length ≤ rest.length := by
 intro m
 induction m using Nat.strongRecOn with
 | _ m ih =>
  intro deep rest l q hm h8 h
  cases hh : headN deep rest with
  | stop =>
   rw [parse_stop hh] at h
   cases h
   exact ⟨trivial, by simp⟩
  | bad e r => rw [parse_bad hh] at h; cases h
  | leaf n r =>
   rw [parse_leaf hh] at h
   have hlt := head_leaf hh
   obtain ⟨l', rfl, h'⟩ := PR.cons_eq h
   have := ih _ (by omega) deep _ _ _ (Nat.le_refl _) (by omega) h'
   exact ⟨⟨head_leaf_ok h8 hh, this.1⟩, by simp only [List.length_cons]; omega⟩
  | group i nm p r =>
   have hlt := (head_group hh).1
   cases hp : parseL (deep + 1) r with
   | bad e q2 => rw [parse_group_bad hh hp] at h; cases h
   | ok sub q2 =>
    by_cases h3 : tok q2 = [125]
    ·have h4 := parse_group hh hp h3
     rw [h4.1] at h
     obtain ⟨l', rfl, h'⟩ := PR.cons_eq h
     have h5 := ih _ (by omega) deep _ _ _ (Nat.le_refl _) (by omega) h'
     have h6 := ih _ (by omega) (deep + 1) _ _ _ (Nat.le_refl _) (by omega) hp
     have h7 := head_group_ok h8 hh
     refine ⟨⟨⟨h7.1, h7.2.1, h7.2.2, ⟨by omega, by omega⟩, ?_, h6.1⟩, h5.1⟩, ?_⟩
     ·unfold reach; omega
     ·have := h4.2; simp only [List.length_cons]; omega
    ·rw [parse_group_open hh hp h3] at h; cases h

theorem Chg.trans' {C D : Nat → Prop} {a b c : World} (h : Chg C a b) (k : Chg D b c) (hd : ∀ i, D i → a.heap.size ≤ i) : Chg C a c := h.trans k (fun i hi => .inr (hd i hi))

theorem store5 {w : World} {b : Nat} {c0 c1 c2 c3 c4 : Value} {t : TypeId} (h : Blk w b [c0, c1, c2, c3, c4] t) (v0 v1 v2 v3 v4 : Value) :
  Blk (World.setCell (World.setCell (World.setCell (World.setCell (World.setCell w ⟨b, 0, none⟩ v0) ⟨b, 1, none⟩ v1) ⟨b, 2, none⟩ v2) ⟨b, 3, none⟩ v3) ⟨b, 4, none⟩ v4) b [v0, v1, v2, v3, v4] t :=
 ((((h.set 0 v0).set 1 v1).set 2 v2).set 3 v3).set 4 v4
theorem store5_other {w : World} {b p : Nat} {cs : List Value} {t : TypeId} (h : Blk w p cs t) (hp : p ≠ b) (v0 v1 v2 v3 v4 : Value) :
  Blk (World.setCell (World.setCell (World.setCell (World.setCell (World.setCell w ⟨b, 0, none⟩ v0) ⟨b, 1, none⟩ v1) ⟨b, 2, none⟩ v2) ⟨b, 3, none⟩ v3) ⟨b, 4, none⟩ v4) p cs t :=
 ((((h.other (p := ⟨b, 0, none⟩) hp v0).other (p := ⟨b, 1, none⟩) hp v1).other (p := ⟨b, 2, none⟩) hp v2).other (p := ⟨b, 3, none⟩) hp v3).other (p := ⟨b, 4, none⟩) hp v4
theorem store5_chg (w : World) (b : Nat) (v0 v1 v2 v3 v4 : Value) :
  Chg (OneB b) w (World.setCell (World.setCell (World.setCell (World.setCell (World.setCell w ⟨b, 0, none⟩ v0) ⟨b, 1, none⟩ v1) ⟨b, 2, none⟩ v2) ⟨b, 3, none⟩ v3) ⟨b, 4, none⟩ v4) :=
 (((((Chg.refl (OneB b) w).setCell (p := ⟨b, 0, none⟩) (.inl rfl) v0).setCell (p := ⟨b, 1, none⟩) (.inl rfl) v1).setCell (p := ⟨b, 2, none⟩) (.inl rfl) v2).setCell (p := ⟨b, 3, none⟩) (.inl rfl) v3).setCell (p := ⟨b, 4, none⟩) (.inl rfl) v4

inductive RR where
 | ok (n : Nd)
 | er (e : Er)
 | bad (e : Er) (rest : List UInt8)
def readF (s : ByteArray) : RR :=
 if 8000 < s.size then .er .bound
 else match parseL 2 (skipW s.data.toList) with
 | .bad e q => .bad e q
 | .ok l q => if tok q = [] then (match validF (.mk 0 rootName 1 0 l) with
  | none => .ok (.mk 0 rootName 1 0 l)
  | some e => .er e) else .bad .text q
def zeroNode : Value := .agg #[.int .i64 0, .string ⟨#[]⟩, .int .i64 0, .int .i64 0, .slice none 0 0]
/-- What Read hands back: a tree of its own. -/
def RetReadT (E : Er → Value) (s : ByteArray) (p : RR) (w : World) (en : Ending) (w' : World) : Prop :=
 Chg NoB w w' ∧ match p with
 | .ok n => ∃ cs F, en = .returned (.tuple #[.agg cs.toArray, .nilIface]) ∧ TrN w' w.heap.size n cs F ∧ F.Nodup
 | .er e => en = .returned (.tuple #[zeroNode, E e])
 | .bad e q => ∃ v, en = .returned (.tuple #[zeroNode, v]) ∧ FaultAt w' (E e) (s.size - q.length) v
/-- What Read hands back. -/
def RetRead (E : Er → Value) (s : ByteArray) (p : RR) (w : World) (en : Ending) (w' : World) : Prop :=
 Chg NoB w w' ∧ match p with
 | .ok n => ∃ cs, en = .returned (.tuple #[.agg cs.toArray, .nilIface]) ∧ Reads w' (fun b => w.heap.size ≤ b) n.dt cs
 | .er e => en = .returned (.tuple #[zeroNode, E e])
 | .bad e q => ∃ v, en = .returned (.tuple #[zeroNode, v]) ∧ FaultAt w' (E e) (s.size - q.length) v

set_option maxHeartbeats 4000000 in
set_option maxRecDepth 100000 in
theorem read_tree (s : ByteArray) (w : World) (E : Er → Value) (hG : Glo w.heap.size E w) (hbig : s.size ≤ 9223372036854775807) :
  Calls Tryz.prog 118 #[.string s] w (RetReadT E s (readF s) w) := by
 by_cases h8 : 8000 < s.size
 ·have hr : readF s = .er .bound := by unfold readF; rw [if_pos h8]
  have Hr := Lib.hid hr
  have h8' : (8000 : Int) < s.size := by omega
  have g3 := hG.errs.cell .bound
  simp only [Er.g] at g3
  clear hr
  go_enter Tryz.func118, Tryz.ntmps118
  go_wp2_with fail
  generalize hw1 : w.alloc _ = w1
  have hc1 : Chg NoB w w1 := by
   rw [← hw1]
   repeat (first | exact Chg.refl _ _ | apply Chg.alloc | apply Chg.drew)
  have hb1 : Blk w1 (w.heap.size) (ndCells 0 ⟨#[]⟩ 0 0 (.slice none 0 0)) 28 := by
   rw [← hw1]
   repeat (first | exact Blk.newAt (by first | rfl | (simp; done) | (simp; omega)) | apply Blk.alloc | apply Blk.drew)
  clear hw1
  have hG1 := hG.keep0 hc1
  have g4 := hG1.errs.cell .bound
  simp only [Er.g] at g4
  refine wp_region_n (fun w' => w'.cell? ⟨0, 0, none⟩ = some (E .bound)) [3] (by kernel_rfl) ?_ (fun hSh => ?_)
  ·exact g4
  refine n_take (v := ?_) 0 rfl (Or.inl ⟨by rfl, ?_⟩) (by kernel_rfl) (fun _ _ _ h => h) (by assumption) ?_
  rotate_left 1
  ·(intro w' hSw; (try dsimp only at hSw); go_simp; try with_reducible rfl)
  simp only [Act.put, List.getElem_toArray, List.getElem_cons_zero, List.getElem_cons_succ, List.setIfInBounds_toArray, List.set_cons_zero, List.set_cons_succ]
  refine n_take (v := ?_) 1 rfl (Or.inl ⟨by rfl, ?_⟩) (by kernel_rfl) (fun _ _ _ h => h) (by assumption) ?_
  rotate_left 1
  ·(intro w' hSw; (try dsimp only at hSw); go_simp; try with_reducible rfl)
  simp only [Act.put, List.getElem_toArray, List.getElem_cons_zero, List.getElem_cons_succ, List.setIfInBounds_toArray, List.set_cons_zero, List.set_cons_succ]
  have x0 : w1.cell? ⟨w.heap.size, 0, none⟩ = some (.int .i64 (0)) := hb1.cell 0
  have x1 : w1.cell? ⟨w.heap.size, 1, none⟩ = some (.string ⟨#[]⟩) := hb1.cell 1
  have x2 : w1.cell? ⟨w.heap.size, 2, none⟩ = some (.int .i64 (0)) := hb1.cell 2
  have x3 : w1.cell? ⟨w.heap.size, 3, none⟩ = some (.int .i64 (0)) := hb1.cell 3
  have x4 : w1.cell? ⟨w.heap.size, 4, none⟩ = some (.slice none 0 0) := hb1.cell 4
  have z0 : w1.frozen? ⟨w.heap.size, 0, none⟩ = false := hb1.free 0
  have z1 : w1.frozen? ⟨w.heap.size, 1, none⟩ = false := hb1.free 1
  have z2 : w1.frozen? ⟨w.heap.size, 2, none⟩ = false := hb1.free 2
  have z3 : w1.frozen? ⟨w.heap.size, 3, none⟩ = false := hb1.free 3
  have z4 : w1.frozen? ⟨w.heap.size, 4, none⟩ = false := hb1.free 4
  refine n_step 2 rfl (by kernel_rfl) ?_
  go_wp2_with fail
  have hlt2 := lt_of_cell g3
  refine ⟨fun _ => ((store5_chg w1 w.heap.size _ _ _ _ _).drew.cell (lt_of_cell g4) (fun e => by have e : 0 = w.heap.size := e; simp only at hlt2; omega)).trans g4, fun hSk => ?_⟩
  refine n_step 3 rfl (by kernel_rfl) ?_
  go_wp2_with fail
  refine ⟨by kernel_rfl, ?_⟩
  go_wp2_with fail
  have hb9 := store5 hb1 (.int .i64 0) (.string ⟨#[]⟩) (.int .i64 0) (.int .i64 0) (.slice none 0 0)
  have hc9 := hc1.trans' (store5_chg w1 w.heap.size (.int .i64 0) (.string ⟨#[]⟩) (.int .i64 0) (.int .i64 0) (.slice none 0 0)) (fun b e => Nat.le_of_eq (Eq.symm e))
  generalize World.setCell (World.setCell (World.setCell (World.setCell (World.setCell w1 ⟨w.heap.size, 0, none⟩ (.int .i64 0)) ⟨w.heap.size, 1, none⟩ (.string ⟨#[]⟩)) ⟨w.heap.size, 2, none⟩ (.int .i64 0)) ⟨w.heap.size, 3, none⟩ (.int .i64 0)) ⟨w.heap.size, 4, none⟩ (.slice none 0 0) = w9 at *
  have n0 : w9.cell? ⟨w.heap.size, 0, none⟩ = some (.int .i64 (0)) := hb9.cell 0
  have n1 : w9.cell? ⟨w.heap.size, 1, none⟩ = some (.string ⟨#[]⟩) := hb9.cell 1
  have n2 : w9.cell? ⟨w.heap.size, 2, none⟩ = some (.int .i64 (0)) := hb9.cell 2
  have n3 : w9.cell? ⟨w.heap.size, 3, none⟩ = some (.int .i64 (0)) := hb9.cell 3
  have n4 : w9.cell? ⟨w.heap.size, 4, none⟩ = some (.slice none 0 0) := hb9.cell 4
  refine bodyPost_ret (v := .tuple #[zeroNode, (E .bound)]) (by simp [results, Tryz.results118, go_sem, n0, n1, n2, n3, n4, zeroNode]) rfl ?_
  rw [Hr.out]
  exact ⟨hc9.drew, rfl⟩
 have h8' : ¬ (8000 : Int) < s.size := by omega
 have hs : s.size ≤ 8000 := by omega
 go_enter Tryz.func118, Tryz.ntmps118
 go_wp2_with fail
 generalize hw1 : (w.alloc _).alloc _ = w1
 have hc1 : Chg NoB w w1 := by
  rw [← hw1]
  repeat (first | exact Chg.refl _ _ | apply Chg.alloc | apply Chg.drew)
 have hb1 : Blk w1 (w.heap.size) (ndCells 0 ⟨#[]⟩ 0 0 (.slice none 0 0)) 28 := by
  rw [← hw1]
  repeat (first | exact Blk.newAt (by first | rfl | (simp; done) | (simp; omega)) | apply Blk.alloc | apply Blk.drew)
 have hr1 : Blk w1 (w.heap.size + 1) ([.string s, .int .i64 ((0 : Nat) : Int), .string ⟨#[]⟩]) 205 := by
  rw [← hw1]
  repeat (first | exact Blk.newAt (by first | rfl | (simp; done) | (simp; omega)) | apply Blk.alloc | apply Blk.drew)
 clear hw1
 refine (next_any (w.heap.size + 1) s ⟨#[]⟩ 0 w1 hr1 hbig (Nat.zero_le _)).mono ?_
 rintro en w2 ⟨rfl, hrd2, hc2⟩
 rw [show (0 : Nat) + (⟨#[]⟩ : ByteArray).size = 0 from rfl, List.drop_zero] at hrd2
 have hne : w.heap.size ≠ w.heap.size + 1 := by omega
 have hb2 := hb1.keep hc2 hne
 have hc02 : Chg NoB w w2 := hc1.trans' hc2 (by intro b e; have e : b = w.heap.size + 1 := e; omega)
 have hG2 := hG.keep0 hc02
 clear hc2 hb1 hr1
 obtain ⟨rest, hrest⟩ : ∃ rest, rest = skipW s.data.toList := ⟨_, rfl⟩
 rw [← hrest] at hrd2
 have hrl : rest.length ≤ 8000 := by
  have h1 := hrd2.1.length_le
  rw [length_data] at h1
  omega
 have hspec : readF s = match parseL 2 rest with
   | .bad e q => .bad e q
   | .ok l q => if tok q = [] then (match validF (.mk 0 rootName 1 0 l) with
    | none => .ok (.mk 0 rootName 1 0 l)
    | some e => .er e) else .bad .text q := by
  unfold readF
  rw [if_neg h8, ← hrest]
 have Hspec := Lib.hid hspec
 clear hspec hrest
 go_wp2_with fail
 refine (nodes_any E w.heap.size (w.heap.size + 1) s (by omega) hs 5 2 rest w2 (by omega) (by omega) (by omega) hG2 hrd2).mono ?_
 rintro en w3 ⟨hc3, hm3⟩
 have hb3 := hb2.keep hc3 hne
 have hsz2 := hc02.size
 have hc03 : Chg NoB w w3 := hc02.trans' hc3 (by intro b e; have e : b = w.heap.size + 1 := e; omega)
 have hpok := parse_ok rest.length 2 rest
 cases hpar : parseL 2 rest with
 | bad e q =>
  rw [hpar] at hm3
  obtain ⟨v, rfl, hf3⟩ := hm3
  have hf3' := hf3
  obtain ⟨p3, rfl, hp3⟩ := hf3'
  have hr := Hspec.out
  rw [hpar] at hr
  have Hr := Lib.hid hr
  clear hr hpar hpok
  have x0 : w3.cell? ⟨w.heap.size, 0, none⟩ = some (.int .i64 (0)) := hb3.cell 0
  have x1 : w3.cell? ⟨w.heap.size, 1, none⟩ = some (.string ⟨#[]⟩) := hb3.cell 1
  have x2 : w3.cell? ⟨w.heap.size, 2, none⟩ = some (.int .i64 (0)) := hb3.cell 2
  have x3 : w3.cell? ⟨w.heap.size, 3, none⟩ = some (.int .i64 (0)) := hb3.cell 3
  have x4 : w3.cell? ⟨w.heap.size, 4, none⟩ = some (.slice none 0 0) := hb3.cell 4
  have z0 : w3.frozen? ⟨w.heap.size, 0, none⟩ = false := hb3.free 0
  have z1 : w3.frozen? ⟨w.heap.size, 1, none⟩ = false := hb3.free 1
  have z2 : w3.frozen? ⟨w.heap.size, 2, none⟩ = false := hb3.free 2
  have z3 : w3.frozen? ⟨w.heap.size, 3, none⟩ = false := hb3.free 3
  have z4 : w3.frozen? ⟨w.heap.size, 4, none⟩ = false := hb3.free 4
  go_wp2_with fail
  have hpnb : p3 ≠ w.heap.size := by
   intro e
   subst e
   have h1 := hb3
   unfold Blk at h1 hp3
   rw [h1] at hp3
   simp only [Option.some.injEq, Obj.cells.injEq] at hp3
   exact absurd hp3.2.1 (by decide)
  have hf9 := store5_other hp3 hpnb (.int .i64 0) (.string ⟨#[]⟩) (.int .i64 0) (.int .i64 0) (.slice none 0 0)
  have hb9 := store5 hb3 (.int .i64 0) (.string ⟨#[]⟩) (.int .i64 0) (.int .i64 0) (.slice none 0 0)
  have hc9 := hc03.trans' (store5_chg w3 w.heap.size (.int .i64 0) (.string ⟨#[]⟩) (.int .i64 0) (.int .i64 0) (.slice none 0 0)) (fun b e => Nat.le_of_eq (Eq.symm e))
  generalize World.setCell (World.setCell (World.setCell (World.setCell (World.setCell w3 ⟨w.heap.size, 0, none⟩ (.int .i64 0)) ⟨w.heap.size, 1, none⟩ (.string ⟨#[]⟩)) ⟨w.heap.size, 2, none⟩ (.int .i64 0)) ⟨w.heap.size, 3, none⟩ (.int .i64 0)) ⟨w.heap.size, 4, none⟩ (.slice none 0 0) = w9 at *
  have n0 : w9.cell? ⟨w.heap.size, 0, none⟩ = some (.int .i64 (0)) := hb9.cell 0
  have n1 : w9.cell? ⟨w.heap.size, 1, none⟩ = some (.string ⟨#[]⟩) := hb9.cell 1
  have n2 : w9.cell? ⟨w.heap.size, 2, none⟩ = some (.int .i64 (0)) := hb9.cell 2
  have n3 : w9.cell? ⟨w.heap.size, 3, none⟩ = some (.int .i64 (0)) := hb9.cell 3
  have n4 : w9.cell? ⟨w.heap.size, 4, none⟩ = some (.slice none 0 0) := hb9.cell 4
  refine bodyPost_ret (v := .tuple #[zeroNode, (.iface 66 (.pointer (some ⟨p3, 0, none⟩)))]) (by simp [results, Tryz.results118, go_sem, n0, n1, n2, n3, n4, zeroNode]) rfl ?_
  rw [Hr.out]
  exact ⟨hc9, _, rfl, p3, rfl, hf9⟩
 | ok l q =>
  rw [hpar] at hm3
  obtain ⟨v, rfl, ho3, hrd3⟩ := hm3
  obtain ⟨a3, cap3, rfl, _, _⟩ := ho3.form
  obtain ⟨hoks, hll⟩ := hpok l q (Nat.le_refl _) hrl hpar
  have wd := rd_word hrd3
  by_cases ht : tok q = []
  ·have hr := Hspec.out
   rw [hpar] at hr
   simp only [if_pos ht] at hr
   have Hr := Lib.hid hr
   have ht' : (tok q).isEmpty = true := by rw [ht]; rfl
   clear hr hpar hpok ht
   go_wp2_with fail
   generalize hw4 : w3.alloc _ = w4
   have hc4 : Chg NoB w3 w4 := by
    rw [← hw4]
    repeat (first | exact Chg.refl _ _ | apply Chg.alloc | apply Chg.drew)
   have hroot4 : Blk w4 (w3.heap.size) ([.int .i64 0, .string ⟨#[114, 111, 111, 116]⟩, .int .i64 1, .int .i64 0, .slice a3 l.length cap3]) 28 := by
    rw [← hw4]
    repeat (first | exact Blk.newAt (by first | rfl | (simp; done) | (simp; omega)) | apply Blk.alloc | apply Blk.drew)
   clear hw4
   have hsz3 := hc03.size
   have hsz32 := hc3.size
   have hc04 := hc03.tr hc4
   have hlow : w.heap.size < w3.heap.size := hb3.lt
   have hrd0 : Reads w3 (fun b => w2.heap.size ≤ b ∧ b < w3.heap.size) (.list 5 (Nd.dts l)) [.slice a3 l.length cap3] := (ho3.reads (S' := fun b => w2.heap.size ≤ b) (fun b h _ => h)).lt
   have hnd : Reads w4 (fun b => w2.heap.size ≤ b ∧ b < w3.heap.size) (Nd.dt (.mk 0 rootName 1 0 l)) [.int .i64 0, .string ⟨#[114, 111, 111, 116]⟩, .int .i64 1, .int .i64 0, .slice a3 l.length cap3] := reads_nd.2 ⟨_, rfl, hrd0.chg0 hc4⟩
   have hok : (Nd.mk 0 rootName 1 0 l).ok := ⟨⟨by decide, by decide⟩, by decide, ⟨by decide, by decide⟩, ⟨by decide, by decide⟩, by unfold reach; omega, hoks⟩
   refine (valid_any (.mk 0 rootName 1 0 l) w4 (fun b => w2.heap.size ≤ b ∧ b < w3.heap.size) _ E (hG.keep0 hc04).errs hok hnd (fun b hb => by have := hc4.size; omega)).mono ?_
   rintro en w5 ⟨rfl, hc5⟩
   have hroot5 := hroot4.keep hc5 NoB.elim
   have hc05 := hc04.tr hc5
   have hb5 := (hb3.keep hc4 NoB.elim).keep hc5 NoB.elim
   have hnd5 := hnd.chg0 hc5
   have x0 : w5.cell? ⟨w.heap.size, 0, none⟩ = some (.int .i64 (0)) := hb5.cell 0
   have x1 : w5.cell? ⟨w.heap.size, 1, none⟩ = some (.string ⟨#[]⟩) := hb5.cell 1
   have x2 : w5.cell? ⟨w.heap.size, 2, none⟩ = some (.int .i64 (0)) := hb5.cell 2
   have x3 : w5.cell? ⟨w.heap.size, 3, none⟩ = some (.int .i64 (0)) := hb5.cell 3
   have x4 : w5.cell? ⟨w.heap.size, 4, none⟩ = some (.slice none 0 0) := hb5.cell 4
   have z0 : w5.frozen? ⟨w.heap.size, 0, none⟩ = false := hb5.free 0
   have z1 : w5.frozen? ⟨w.heap.size, 1, none⟩ = false := hb5.free 1
   have z2 : w5.frozen? ⟨w.heap.size, 2, none⟩ = false := hb5.free 2
   have z3 : w5.frozen? ⟨w.heap.size, 3, none⟩ = false := hb5.free 3
   have z4 : w5.frozen? ⟨w.heap.size, 4, none⟩ = false := hb5.free 4
   have o0 : w5.cell? ⟨w3.heap.size, 0, none⟩ = some (.int .i64 (0)) := hroot5.cell 0
   have o1 : w5.cell? ⟨w3.heap.size, 1, none⟩ = some (.string ⟨#[114, 111, 111, 116]⟩) := hroot5.cell 1
   have o2 : w5.cell? ⟨w3.heap.size, 2, none⟩ = some (.int .i64 (1)) := hroot5.cell 2
   have o3 : w5.cell? ⟨w3.heap.size, 3, none⟩ = some (.int .i64 (0)) := hroot5.cell 3
   have o4 : w5.cell? ⟨w3.heap.size, 4, none⟩ = some (.slice a3 l.length cap3) := hroot5.cell 4
   have hr := Hr.out
   cases hv : validF (.mk 0 rootName 1 0 l) with
   | none =>
    rw [hv] at hr
    have Hr2 := Lib.hid hr
    rw [show errVal E none = .nilIface from rfl]
    clear hr hv
    go_wp2_with fail
    have hb9 := store5 hb5 (.int .i64 0) (.string ⟨#[114, 111, 111, 116]⟩) (.int .i64 1) (.int .i64 0) (.slice a3 l.length cap3)
    have hk9 := store5_chg w5 w.heap.size (.int .i64 0) (.string ⟨#[114, 111, 111, 116]⟩) (.int .i64 1) (.int .i64 0) (.slice a3 l.length cap3)
    have hlt2 := hb2.lt
    have hnd9 := ((ho3.keep hc4 (fun _ _ _ => NoB.elim)).keep hc5 (fun _ _ _ => NoB.elim)).keep hk9 (fun b hb _ e => by have e : b = w.heap.size := e; omega)
    have hc9 := hc05.trans' hk9 (fun b e => Nat.le_of_eq (Eq.symm e))
    clear hk9
    generalize World.setCell (World.setCell (World.setCell (World.setCell (World.setCell w5 ⟨w.heap.size, 0, none⟩ (.int .i64 0)) ⟨w.heap.size, 1, none⟩ (.string ⟨#[114, 111, 111, 116]⟩)) ⟨w.heap.size, 2, none⟩ (.int .i64 1)) ⟨w.heap.size, 3, none⟩ (.int .i64 0)) ⟨w.heap.size, 4, none⟩ (.slice a3 l.length cap3) = w9 at *
    have n0 : w9.cell? ⟨w.heap.size, 0, none⟩ = some (.int .i64 (0)) := hb9.cell 0
    have n1 : w9.cell? ⟨w.heap.size, 1, none⟩ = some (.string ⟨#[114, 111, 111, 116]⟩) := hb9.cell 1
    have n2 : w9.cell? ⟨w.heap.size, 2, none⟩ = some (.int .i64 (1)) := hb9.cell 2
    have n3 : w9.cell? ⟨w.heap.size, 3, none⟩ = some (.int .i64 (0)) := hb9.cell 3
    have n4 : w9.cell? ⟨w.heap.size, 4, none⟩ = some (.slice a3 l.length cap3) := hb9.cell 4
    refine bodyPost_ret (v := .tuple #[.agg #[.int .i64 0, .string ⟨#[114, 111, 111, 116]⟩, .int .i64 1, .int .i64 0, .slice a3 l.length cap3], .nilIface]) (by simp [results, Tryz.results118, go_sem, n0, n1, n2, n3, n4]) rfl ?_
    rw [Hr2.out]
    obtain ⟨F9, k1, k2, _⟩ := hnd9
    exact ⟨hc9, _, F9, rfl, trN.2 ⟨_, rfl, k1.mono hsz2⟩, k2⟩
   | some e =>
    rw [hv] at hr
    have Hr2 := Lib.hid hr
    obtain ⟨T, v, hEv⟩ := hG.errs.form e
    rw [show errVal E (some e) = .iface T v from hEv]
    have HE := Lib.hid hEv
    clear hr hv hEv
    go_wp2_with fail
    have hb9 := store5 hb5 (.int .i64 0) (.string ⟨#[]⟩) (.int .i64 0) (.int .i64 0) (.slice none 0 0)
    have hc9 := hc05.trans' (store5_chg w5 w.heap.size (.int .i64 0) (.string ⟨#[]⟩) (.int .i64 0) (.int .i64 0) (.slice none 0 0)) (fun b e => Nat.le_of_eq (Eq.symm e))
    generalize World.setCell (World.setCell (World.setCell (World.setCell (World.setCell w5 ⟨w.heap.size, 0, none⟩ (.int .i64 0)) ⟨w.heap.size, 1, none⟩ (.string ⟨#[]⟩)) ⟨w.heap.size, 2, none⟩ (.int .i64 0)) ⟨w.heap.size, 3, none⟩ (.int .i64 0)) ⟨w.heap.size, 4, none⟩ (.slice none 0 0) = w9 at *
    have n0 : w9.cell? ⟨w.heap.size, 0, none⟩ = some (.int .i64 (0)) := hb9.cell 0
    have n1 : w9.cell? ⟨w.heap.size, 1, none⟩ = some (.string ⟨#[]⟩) := hb9.cell 1
    have n2 : w9.cell? ⟨w.heap.size, 2, none⟩ = some (.int .i64 (0)) := hb9.cell 2
    have n3 : w9.cell? ⟨w.heap.size, 3, none⟩ = some (.int .i64 (0)) := hb9.cell 3
    have n4 : w9.cell? ⟨w.heap.size, 4, none⟩ = some (.slice none 0 0) := hb9.cell 4
    refine bodyPost_ret (v := .tuple #[zeroNode, (.iface T v)]) (by simp [results, Tryz.results118, go_sem, n0, n1, n2, n3, n4, zeroNode]) rfl ?_
    rw [Hr2.out]
    exact ⟨hc9, congrArg (fun x => Ending.returned (.tuple #[zeroNode, x])) HE.out.symm⟩
  ·have hr := Hspec.out
   rw [hpar] at hr
   simp only [if_neg ht] at hr
   have Hr := Lib.hid hr
   have ht' : (tok q).isEmpty = false := by simpa using ht
   have hG3 := hG.keep0 hc03
   have g3 := hG3.errs.cell .text
   simp only [Er.g] at g3
   clear hr hpar hpok ht
   go_wp2_with fail
   refine (fault_rd (w.heap.size + 1) s q w3 (E .text) hrd3 (hG.errs.form .text)).mono ?_
   rintro en w4 ⟨v4, rfl, ⟨p4, rfl, hp4⟩, hc4⟩
   have hb4 := hb3.keep hc4 NoB.elim
   have hc04 := hc03.tr hc4
   have x0 : w4.cell? ⟨w.heap.size, 0, none⟩ = some (.int .i64 (0)) := hb4.cell 0
   have x1 : w4.cell? ⟨w.heap.size, 1, none⟩ = some (.string ⟨#[]⟩) := hb4.cell 1
   have x2 : w4.cell? ⟨w.heap.size, 2, none⟩ = some (.int .i64 (0)) := hb4.cell 2
   have x3 : w4.cell? ⟨w.heap.size, 3, none⟩ = some (.int .i64 (0)) := hb4.cell 3
   have x4 : w4.cell? ⟨w.heap.size, 4, none⟩ = some (.slice none 0 0) := hb4.cell 4
   have z0 : w4.frozen? ⟨w.heap.size, 0, none⟩ = false := hb4.free 0
   have z1 : w4.frozen? ⟨w.heap.size, 1, none⟩ = false := hb4.free 1
   have z2 : w4.frozen? ⟨w.heap.size, 2, none⟩ = false := hb4.free 2
   have z3 : w4.frozen? ⟨w.heap.size, 3, none⟩ = false := hb4.free 3
   have z4 : w4.frozen? ⟨w.heap.size, 4, none⟩ = false := hb4.free 4
   go_wp2_with fail
   have hpnb : p4 ≠ w.heap.size := by
    intro e
    subst e
    have h1 := hb4
    unfold Blk at h1 hp4
    rw [h1] at hp4
    simp only [Option.some.injEq, Obj.cells.injEq] at hp4
    exact absurd hp4.2.1 (by decide)
   have hf9 := store5_other hp4 hpnb (.int .i64 0) (.string ⟨#[]⟩) (.int .i64 0) (.int .i64 0) (.slice none 0 0)
   have hb9 := store5 hb4 (.int .i64 0) (.string ⟨#[]⟩) (.int .i64 0) (.int .i64 0) (.slice none 0 0)
   have hc9 := hc04.trans' (store5_chg w4 w.heap.size (.int .i64 0) (.string ⟨#[]⟩) (.int .i64 0) (.int .i64 0) (.slice none 0 0)) (fun b e => Nat.le_of_eq (Eq.symm e))
   generalize World.setCell (World.setCell (World.setCell (World.setCell (World.setCell w4 ⟨w.heap.size, 0, none⟩ (.int .i64 0)) ⟨w.heap.size, 1, none⟩ (.string ⟨#[]⟩)) ⟨w.heap.size, 2, none⟩ (.int .i64 0)) ⟨w.heap.size, 3, none⟩ (.int .i64 0)) ⟨w.heap.size, 4, none⟩ (.slice none 0 0) = w9 at *
   have n0 : w9.cell? ⟨w.heap.size, 0, none⟩ = some (.int .i64 (0)) := hb9.cell 0
   have n1 : w9.cell? ⟨w.heap.size, 1, none⟩ = some (.string ⟨#[]⟩) := hb9.cell 1
   have n2 : w9.cell? ⟨w.heap.size, 2, none⟩ = some (.int .i64 (0)) := hb9.cell 2
   have n3 : w9.cell? ⟨w.heap.size, 3, none⟩ = some (.int .i64 (0)) := hb9.cell 3
   have n4 : w9.cell? ⟨w.heap.size, 4, none⟩ = some (.slice none 0 0) := hb9.cell 4
   refine bodyPost_ret (v := .tuple #[zeroNode, (.iface 66 (.pointer (some ⟨p4, 0, none⟩)))]) (by simp [results, Tryz.results118, go_sem, n0, n1, n2, n3, n4, zeroNode]) rfl ?_
   rw [Hr.out]
   exact ⟨hc9, _, rfl, p4, rfl, hf9⟩
theorem read_any (s : ByteArray) (w : World) (E : Er → Value) (hG : Glo w.heap.size E w) (hbig : s.size ≤ 9223372036854775807) :
  Calls Tryz.prog 118 #[.string s] w (RetRead E s (readF s) w) := by
 refine (read_tree s w E hG hbig).mono ?_
 intro en w' h
 obtain ⟨h1, h2⟩ := h
 refine ⟨h1, ?_⟩
 revert h2
 cases readF s with
 | ok n =>
  rintro ⟨cs, F, rfl, k1, k2⟩
  exact ⟨cs, rfl, TrN.reads n cs F k1 (fun x hx => (TrN.lt n cs F k1 x hx).1)⟩
 | er e => exact id
 | bad e q => exact id
end Go.Proofs.YtgcmfpcgmkkobaaGreatDoor
namespace Go.Proofs.YtgcmfpcgmkkobaaGreatDoor
open Go.RowKit

/-- A node of a right schema. -/
def Right (n : Nd) : Prop := 1 ≤ n.rep ∧ n.rep ≤ 3 ∧ 0 ≤ n.kind ∧ n.kind ≤ 5 ∧ (n.kind ≠ 0 → n.sub = []) ∧ (n.kind = 0 → n.sub ≠ []) ∧ isNameB n.name = true ∧ 1 ≤ n.id ∧ n.id ≤ 1000
mutual
def Nd.All (P : Nd → Prop) : Nd → Prop
 | .mk i n r k s => P (.mk i n r k s) ∧ Nd.Alls P s
def Nd.Alls (P : Nd → Prop) : List Nd → Prop
 | [] => True
 | n :: ns => n.All P ∧ Nd.Alls P ns
end
mutual
theorem walk_all {σ : Type} {f : Nd → Int → σ → Bool × σ} {P : Nd → Prop} (hP : ∀ n d s, 1 ≤ d → (f n d s).1 = true → P n) : ∀ (n : Nd) (d : Int) (s : σ), 1 ≤ d → (walkF f n d s).1 = true → n.All P
 | .mk i nm r k sb, d, s, hd, h => by
  have h1 := hP (.mk i nm r k sb) d s hd
  simp only [walkF] at h
  rcases hf : f (.mk i nm r k sb) d s with ⟨b, s'⟩
  rw [hf] at h h1
  cases b
  ·cases h
  ·exact ⟨h1 rfl, walk_alls hP sb (d + 1) s' (by omega) h⟩
theorem walk_alls {σ : Type} {f : Nd → Int → σ → Bool × σ} {P : Nd → Prop} (hP : ∀ n d s, 1 ≤ d → (f n d s).1 = true → P n) : ∀ (l : List Nd) (d : Int) (s : σ), 1 ≤ d → (walkFs f l d s).1 = true → Nd.Alls P l
 | [], d, s, hd, h => trivial
 | n :: ns, d, s, hd, h => by
  simp only [walkFs] at h
  rcases hf : walkF f n d s with ⟨b, s'⟩
  rw [hf] at h
  cases b
  ·cases h
  ·exact ⟨walk_all hP n d s hd (by rw [hf]), walk_alls hP ns d s' hd h⟩
end
theorem walk_root {σ : Type} {f : Nd → Int → σ → Bool × σ} {P : Nd → Prop} (hP : ∀ n d s, 1 ≤ d → (f n d s).1 = true → P n) (n : Nd) (s : σ) (h : (walkF f n 0 s).1 = true) : Nd.Alls P n.sub ∧ (f n 0 s).1 = true := by
 obtain ⟨i, nm, r, k, sb⟩ := n
 simp only [walkF] at h
 rcases hf : f (.mk i nm r k sb) 0 s with ⟨b, s'⟩
 rw [hf] at h
 cases b
 ·cases h
 ·exact ⟨walk_alls hP sb 1 s' (by omega) h, rfl⟩
mutual
theorem Nd.All.and {P Q : Nd → Prop} : ∀ (n : Nd), n.All P → n.All Q → n.All (fun n => P n ∧ Q n)
 | .mk i n r k s, h, g => ⟨⟨h.1, g.1⟩, Nd.Alls.and s h.2 g.2⟩
theorem Nd.Alls.and {P Q : Nd → Prop} : ∀ (l : List Nd), Nd.Alls P l → Nd.Alls Q l → Nd.Alls (fun n => P n ∧ Q n) l
 | [], h, g => trivial
 | n :: ns, h, g => ⟨Nd.All.and n h.1 g.1, Nd.Alls.and ns h.2 g.2⟩
end
mutual
theorem Nd.All.imp {P Q : Nd → Prop} (hi : ∀ n, P n → Q n) : ∀ (n : Nd), n.All P → n.All Q
 | .mk i n r k s, h => ⟨hi _ h.1, Nd.Alls.imp hi s h.2⟩
theorem Nd.Alls.imp {P Q : Nd → Prop} (hi : ∀ n, P n → Q n) : ∀ (l : List Nd), Nd.Alls P l → Nd.Alls Q l
 | [], h => trivial
 | n :: ns, h => ⟨Nd.All.imp hi n h.1, Nd.Alls.imp hi ns h.2⟩
end
-- The names of the nodes in each node, told of the nodes themselves.
mutual
theorem names_all : ∀ (n : Nd), n.All (fun x => namesB x.sub = true) → Nd.Alls (fun x => isNameB x.name = true) n.sub
 | .mk i n r k s, h => names_alls s h.2 (by
  have h1 : namesB s = true := h.1
  unfold namesB at h1
  rw [Bool.and_eq_true] at h1
  exact fun x hx => List.all_eq_true.1 h1.1 x hx)
theorem names_alls : ∀ (l : List Nd), Nd.Alls (fun x => namesB x.sub = true) l → (∀ x ∈ l, isNameB x.name = true) → Nd.Alls (fun x => isNameB x.name = true) l
 | [], h, g => trivial
 | .mk i n r k s :: ns, h, g => ⟨⟨g _ (List.mem_cons_self ..), names_all (.mk i n r k s) h.1⟩, names_alls ns h.2 (fun x hx => g x (List.mem_cons_of_mem _ hx))⟩
end

structure Schema (nd : Nd) : Prop where
 root : nd = .mk 0 rootName 1 0 nd.sub
 right : Nd.Alls Right nd.sub
 high : nd.high ≤ 6
 small : nd.weigh ≤ 40
mutual
theorem v1_count : ∀ (n : Nd) (d s : Int), (walkF v1F n d s).1 = true → (walkF v1F n d s).2 = s + n.weigh ∧ s + n.weigh ≤ 40
 | .mk i nm r k sb, d, s, h => by
  simp only [walkF] at h ⊢
  rcases hf : v1F (.mk i nm r k sb) d s with ⟨b, s'⟩
  rw [hf] at h
  cases b
  ·cases h
  ·simp only [v1F, Prod.mk.injEq, Bool.and_eq_true, decide_eq_true_eq] at hf
   have h1 := v1_counts sb (d + 1) s' h
   simp only [Nd.weigh]
   refine ⟨by rw [h1.1]; omega, ?_⟩
   rcases h1.2 with h2 | h2
   ·omega
   ·subst h2; simp only [Nd.weighs]; omega
theorem v1_counts : ∀ (l : List Nd) (d s : Int), (walkFs v1F l d s).1 = true → (walkFs v1F l d s).2 = s + Nd.weighs l ∧ (s + Nd.weighs l ≤ 40 ∨ l = [])
 | [], d, s, h => ⟨by simp [walkFs, Nd.weighs], .inr rfl⟩
 | n :: ns, d, s, h => by
  simp only [walkFs] at h ⊢
  rcases hf : walkF v1F n d s with ⟨b, s'⟩
  rw [hf] at h
  cases b
  ·cases h
  ·have h0 := v1_count n d s (by rw [hf])
   rw [hf] at h0
   have h1 := v1_counts ns d s' h
   simp only [Nd.weighs]
   have e0 : s' = s + n.weigh := h0.1
   refine ⟨by rw [h1.1]; omega, .inl ?_⟩
   rcases h1.2 with h2 | h2
   ·omega
   ·subst h2; simp only [Nd.weighs]; omega
end
theorem schema_of_valid {nd : Nd} (h : validF nd = none) : Schema nd := by
 unfold validF at h
 split at h
 ·cases h
 rename_i h1
 split at h
 ·cases h
 rename_i h2
 split at h
 ·cases h
 rename_i h3
 split at h
 ·cases h
 rename_i h4
 split at h
 ·cases h
 rename_i h5
 rw [Bool.not_eq_false] at h1 h2 h3 h4 h5
 have hh := v1_high nd 1 0 h1
 have hc := v1_count nd 1 0 h1
 have a3 := (walk_root (P := fun n => (v3F n ()).1 = true) (fun n d s hd hf => by simp only [allF, if_neg (show ¬ d = 0 by omega)] at hf; exact hf) nd () h3).1
 have a4 := walk_root (P := fun n => namesB n.sub = true) (fun n d s hd hf => hf) nd () h4
 have a5 := (walk_root (P := fun n => 1 ≤ n.id ∧ n.id ≤ 1000) (fun n d s hd hf => by
  simp only [allF, if_neg (show ¬ d = 0 by omega), v5F, Bool.and_eq_true, decide_eq_true_eq] at hf
  exact hf.1) nd [] h5).1
 obtain ⟨i, nm, r, k, sb⟩ := nd
 have a6 := names_all (.mk i nm r k sb) ⟨a4.2, a4.1⟩
 refine ⟨?_, ?_, by omega, by omega⟩
 ·unfold rootB at h2
  rw [Bool.and_eq_true, Bool.and_eq_true, Bool.and_eq_true, Bool.and_eq_true] at h2
  obtain ⟨⟨⟨⟨e1, e2⟩, e3⟩, e4⟩, _⟩ := h2
  have q1 : i = 0 := of_decide_eq_true e1
  have q2 : nm = rootName := of_decide_eq_true e2
  have q3 : r = 1 := of_decide_eq_true e3
  have q4 : k = 0 := of_decide_eq_true e4
  show Nd.mk i nm r k sb = Nd.mk 0 rootName 1 0 sb
  rw [q1, q2, q3, q4]
 ·refine Nd.Alls.imp ?_ _ (Nd.Alls.and _ a3 (Nd.Alls.and _ a6 a5))
  rintro n ⟨h1, h2, h3, h4⟩
  simp only [v3F, Bool.and_eq_true, decide_eq_true_eq, beq_iff_eq] at h1
  obtain ⟨⟨⟨⟨b1, b2⟩, b3⟩, b4⟩, b5⟩ := h1
  refine ⟨b1, b2, b3, b4, fun hk => ?_, fun hk => ?_, h2, h3, h4⟩
  ·simp only [hk, decide_false, Bool.not_false] at b5
   exact List.isEmpty_iff.1 b5.symm
  ·simp only [hk, decide_true, Bool.not_true] at b5
   intro e
   rw [e] at b5
   cases b5

theorem skip_ws {c : UInt8} (h : c = 32 ∨ c = 10) (l : List UInt8) : skipW (c :: l) = skipW l := by
 unfold skipW
 rw [List.dropWhile_cons, if_pos (by rcases h with rfl | rfl <;> rfl)]
theorem skip_at {c : UInt8} (h : c ≠ 32 ∧ c ≠ 10) (l : List UInt8) : skipW (c :: l) = c :: l := by
 unfold skipW
 rw [List.dropWhile_cons, if_neg]
 simp [h.1, h.2]
theorem skip_ind : ∀ (ind : List UInt8) (l : List UInt8), (∀ c ∈ ind, c = 32) → skipW (ind ++ l) = skipW l
 | [], l, h => rfl
 | c :: cs, l, h => by
  rw [List.cons_append, skip_ws (.inl (h c (List.mem_cons_self ..))), skip_ind cs l (fun x hx => h x (List.mem_cons_of_mem _ hx))]
/-- No letter and no digit comes first. -/
def Soft (l : List UInt8) : Prop := ∀ c, l.head? = some c → lower c = false ∧ digits.contains c = false
theorem take_soft {p : UInt8 → Bool} {l : List UInt8} (h : ∀ c, l.head? = some c → p c = false) : l.takeWhile p = [] := by
 cases l with
 | nil => rfl
 | cons c r => rw [List.takeWhile_cons, h c rfl]; rfl
theorem lower_ne {c : UInt8} (h : lower c = true) : c.toNat ≠ 35 ∧ c ≠ 32 ∧ c ≠ 10 := by
 unfold lower at h
 have := of_decide_eq_true h
 refine ⟨by omega, ?_, ?_⟩
 ·rintro rfl; exact absurd this (by decide)
 ·rintro rfl; exact absurd this (by decide)
theorem nxt_of {w rest : List UInt8} (h : tok (w ++ rest) = w) : nxt (w ++ rest) = skipW rest := by
 unfold nxt
 rw [h, List.drop_left]
theorem tok_letters {c : UInt8} {cs rest : List UInt8} (h : ∀ x ∈ c :: cs, lower x = true) (hs : Soft rest) : tok ((c :: cs) ++ rest) = c :: cs := by
 have hc := h c (List.mem_cons_self ..)
 have h1 : ((c :: cs) ++ rest).takeWhile lower = c :: cs := by
  rw [List.takeWhile_append_of_pos h, take_soft (fun x hx => (hs x hx).1), List.append_nil]
 rw [List.cons_append] at h1 ⊢
 simp only [tok, if_neg (lower_ne hc).1, if_pos hc]
 exact h1
theorem tok_number {ds rest : List UInt8} (h : ∀ x ∈ ds, digits.contains x = true) (hs : Soft rest) : tok ((35 :: ds) ++ rest) = 35 :: ds := by
 have h1 : (ds ++ rest).takeWhile (digits.contains ·) = ds := by
  rw [List.takeWhile_append_of_pos h, take_soft (fun x hx => (hs x hx).2), List.append_nil]
 rw [List.cons_append]
 simp only [tok, if_pos (show (35 : UInt8).toNat = 35 from rfl)]
 rw [h1]

def dig4 (u : Nat) : List UInt8 :=
 if u < 10 then [UInt8.ofNat (48 + u)] else if u < 100 then [UInt8.ofNat (48 + u / 10), UInt8.ofNat (48 + u % 10)]
 else if u < 1000 then [UInt8.ofNat (48 + u / 10 / 10), UInt8.ofNat (48 + u / 10 % 10), UInt8.ofNat (48 + u % 10)]
 else [UInt8.ofNat (48 + u / 10 / 10 / 10), UInt8.ofNat (48 + u / 10 / 10 % 10), UInt8.ofNat (48 + u / 10 % 10), UInt8.ofNat (48 + u % 10)]
theorem dec_four (u : Nat) (h : u ≤ 1000) : Lib.decDigits u = dig4 u := by
 unfold dig4
 split
 ·exact Lib.decDigits_one (by assumption)
 split
 ·exact Lib.decDigits_two (by assumption) (by assumption)
 split
 ·rw [Lib.decDigits, dif_neg (by assumption), Lib.decDigits_two (by omega) (by omega)]; rfl
 ·rw [Lib.decDigits, dif_neg (by assumption), Lib.decDigits, dif_neg (by omega), Lib.decDigits_two (by omega) (by omega)]; rfl
theorem num_fin : ∀ p : Fin 1001, p.val = 0 ∨ (wordId (35 :: dig4 p.val) = some (p.val : Int) ∧ (dig4 p.val).all (digits.contains ·) = true) := by decide +kernel
theorem num_all {i : Int} (h1 : 1 ≤ i) (h2 : i ≤ 1000) : wordId (35 :: Lib.itoa i) = some i ∧ (∀ x ∈ Lib.itoa i, digits.contains x = true) ∧ (Lib.itoa i).length ≤ 4 := by
 obtain ⟨u, rfl⟩ := Int.eq_ofNat_of_zero_le (show 0 ≤ i by omega)
 have hu : Lib.itoa (u : Int) = dig4 u := by
  unfold Lib.itoa
  rw [if_neg (by omega), Int.toNat_natCast, dec_four u (by omega)]
 have := num_fin ⟨u, by omega⟩
 rw [hu]
 rcases this with h | ⟨h3, h4⟩
 ·simp only at h; omega
 ·refine ⟨h3, fun x hx => List.all_eq_true.1 h4 x hx, ?_⟩
  unfold dig4
  split
  ·simp
  ·split
   ·simp
   ·split <;> simp
theorem rep_fin : ∀ p : Fin 4, p.val = 0 ∨ (idxT repT (repS (p.val : Int)) = (p.val : Int) ∧ (repS (p.val : Int)).all lower = true ∧ (repS (p.val : Int)).isEmpty = false) := by decide +kernel
theorem kind_fin : ∀ p : Fin 6, idxT kindT (kindS (p.val : Int)) = (p.val : Int) ∧ (kindS (p.val : Int)).all lower = true ∧ (kindS (p.val : Int)).isEmpty = false := by decide +kernel
end Go.Proofs.YtgcmfpcgmkkobaaGreatDoor
namespace Go.Proofs.YtgcmfpcgmkkobaaGreatDoor
open Go.RowKit

theorem soft_of {c : UInt8} {l : List UInt8} (h1 : lower c = false) (h2 : digits.contains c = false) : Soft (c :: l) := by
 intro x hx
 obtain rfl := Option.some.inj hx
 exact ⟨h1, h2⟩
theorem soft32 (l : List UInt8) : Soft (32 :: l) := soft_of rfl rfl
theorem soft59 (l : List UInt8) : Soft (59 :: l) := soft_of rfl rfl

/-- A word, then what comes next. -/
theorem word_step {w rest : List UInt8} (hw : w.all lower = true) (hne : w.isEmpty = false) (hs : Soft rest) : tok (w ++ rest) = w ∧ nxt (w ++ rest) = skipW rest ∧ skipW (w ++ rest) = w ++ rest := by
 cases w with
 | nil => cases hne
 | cons c cs =>
  have h := fun x hx => List.all_eq_true.1 hw x hx
  have h1 := tok_letters (c := c) (cs := cs) (rest := rest) h hs
  exact ⟨h1, nxt_of h1, skip_at (lower_ne (h c (List.mem_cons_self ..))).2 _⟩

/-- A node's head in its text. -/
theorem head_text {i : Int} {nm : ByteArray} {r k : Int} {deep : Int} {ind Z : List UInt8} (hind : ∀ c ∈ ind, c = 32) (hr1 : 1 ≤ r) (hr3 : r ≤ 3) (hk0 : 0 ≤ k) (hk5 : k ≤ 5) (hn : isNameB nm = true) (hi1 : 1 ≤ i) (hi2 : i ≤ 1000) (hZ : Soft Z) :
  ∃ rest, skipW (headS i nm r k ind ++ Z) = rest ∧ ¬ (tok rest = [125] ∨ (tok rest = [] ∧ deep ≤ 2)) ∧ idxT repT (tok rest) = r ∧ idxT kindT (tok (nxt rest)) = k ∧ tok (nxt (nxt rest)) = nm.data.toList ∧ headB nm.data.toList = true ∧
   wordId (tok (nxt (nxt (nxt rest)))) = some i ∧ nxt (nxt (nxt (nxt rest))) = skipW Z := by
 obtain ⟨rn, rfl⟩ := Int.eq_ofNat_of_zero_le (show 0 ≤ r by omega)
 obtain ⟨kn, rfl⟩ := Int.eq_ofNat_of_zero_le hk0
 have hR := rep_fin ⟨rn, by omega⟩
 have hK := kind_fin ⟨kn, by omega⟩
 simp only at hR hK
 rcases hR with h0 | ⟨hR1, hR2, hR3⟩
 ·omega
 obtain ⟨hK1, hK2, hK3⟩ := hK
 obtain ⟨hI1, hI2, _⟩ := num_all hi1 hi2
 unfold isNameB at hn
 rw [Bool.and_eq_true, Bool.and_eq_true] at hn
 have hne : nm.data.toList.isEmpty = false := by
  have h1 : nm.size ≠ 0 := of_decide_eq_true hn.1.1
  cases hl : nm.data.toList with
  | nil => exact absurd (by rw [← length_data, hl]; rfl) h1
  | cons x xs => rfl
 have e : headS i nm rn kn ind ++ Z = ind ++ (repS rn ++ (32 :: (kindS kn ++ (32 :: (nm.data.toList ++ (32 :: ((35 :: Lib.itoa i) ++ Z))))))) := by
  unfold headS
  simp only [List.append_assoc, List.cons_append, List.nil_append]
 rw [e, skip_ind _ _ hind]
 have s1 := word_step (rest := 32 :: (kindS kn ++ (32 :: (nm.data.toList ++ (32 :: ((35 :: Lib.itoa i) ++ Z)))))) hR2 hR3 (soft32 _)
 have s2 := word_step (rest := 32 :: (nm.data.toList ++ (32 :: ((35 :: Lib.itoa i) ++ Z)))) hK2 hK3 (soft32 _)
 have s3 := word_step (rest := 32 :: ((35 :: Lib.itoa i) ++ Z)) hn.2 hne (soft32 _)
 have t4 := tok_number (rest := Z) hI2 hZ
 have n1 : nxt (repS rn ++ (32 :: (kindS kn ++ (32 :: (nm.data.toList ++ (32 :: ((35 :: Lib.itoa i) ++ Z))))))) = kindS kn ++ (32 :: (nm.data.toList ++ (32 :: ((35 :: Lib.itoa i) ++ Z)))) := by
  rw [s1.2.1, skip_ws (.inl rfl), s2.2.2]
 have n2 : nxt (kindS kn ++ (32 :: (nm.data.toList ++ (32 :: ((35 :: Lib.itoa i) ++ Z))))) = nm.data.toList ++ (32 :: ((35 :: Lib.itoa i) ++ Z)) := by
  rw [s2.2.1, skip_ws (.inl rfl), s3.2.2]
 have n3 : nxt (nm.data.toList ++ (32 :: ((35 :: Lib.itoa i) ++ Z))) = (35 :: Lib.itoa i) ++ Z := by
  rw [s3.2.1, skip_ws (.inl rfl), List.cons_append, skip_at (by decide)]
 have n4 : nxt ((35 :: Lib.itoa i) ++ Z) = skipW Z := nxt_of t4
 refine ⟨_, s1.2.2, ?_, ?_, ?_, ?_, ?_, ?_, ?_⟩
 ·rw [s1.1]
  rintro (h | ⟨h, _⟩)
  ·rw [h] at hR2; exact absurd hR2 (by decide)
  ·rw [h] at hR3; exact absurd hR3 (by decide)
 ·rw [s1.1]; exact hR1
 ·rw [n1, s2.1]; exact hK1
 ·rw [n1, n2, s3.1]
 ·cases hl : nm.data.toList with
  | nil => rw [hl] at hne; cases hne
  | cons x xs => rw [hl] at hn; exact List.all_eq_true.1 hn.2 x (List.mem_cons_self ..)
 ·rw [n1, n2, n3, t4]; exact hI1
 ·rw [n1, n2, n3, n4]

theorem tok59 (l : List UInt8) : tok (59 :: l) = [59] := rfl
theorem tok123 (l : List UInt8) : tok (123 :: l) = [123] := rfl
theorem tok125 (l : List UInt8) : tok (125 :: l) = [125] := rfl
theorem nxt59 (l : List UInt8) : nxt (59 :: l) = skipW l := nxt_of (w := [59]) (tok59 l)
theorem nxt123 (l : List UInt8) : nxt (123 :: l) = skipW l := nxt_of (w := [123]) (tok123 l)
theorem nxt125 (l : List UInt8) : nxt (125 :: l) = skipW l := nxt_of (w := [125]) (tok125 l)
theorem back_name (nm : ByteArray) : (⟨nm.data.toList.toArray⟩ : ByteArray) = nm := by cases nm; rfl

mutual
theorem parse_textN : ∀ (n : Nd) (deep : Int) (ind more : List UInt8), n.All Right → deep + n.high ≤ 7 → (∀ c ∈ ind, c = 32) → parseL deep (skipW (textN n ind ++ more)) = (parseL deep (skipW more)).cons n
 | .mk i nm r k s, deep, ind, more, hA, hd, hind => by
  obtain ⟨⟨b1, b2, b3, b4, b5, b6, b7, b8, b9⟩, hs⟩ := hA
  simp only [Nd.rep, Nd.kind, Nd.sub, Nd.name, Nd.id] at b1 b2 b3 b4 b5 b6 b7 b8 b9
  by_cases hk : k = 0
  ·subst hk
   have hne := b6 rfl
   have hhi : 2 ≤ (Nd.mk i nm r 0 s).high := by
    cases s with
    | nil => exact absurd rfl hne
    | cons x xs =>
     simp only [Nd.high, Nd.highs]
     have : 1 ≤ x.high := by cases x; simp only [Nd.high]; omega
     omega
   have e : textN (.mk i nm r 0 s) ind ++ more = headS i nm r 0 ind ++ (32 :: 123 :: 10 :: (textL s (ind ++ [32, 32]) ++ (ind ++ (125 :: 10 :: more)))) := by
    simp only [textN, if_true, List.append_assoc, List.cons_append, List.nil_append]
   obtain ⟨rest, h0, h1, h2, h3, h4, h5, h6, h7⟩ := head_text (deep := deep) (Z := 32 :: 123 :: 10 :: (textL s (ind ++ [32, 32]) ++ (ind ++ (125 :: 10 :: more)))) hind b1 b2 b3 b4 b7 b8 b9 (soft32 _)
   rw [skip_ws (.inl rfl), skip_at (by decide)] at h7
   have hh : headN deep rest = .group i nm r (skipW (textL s (ind ++ [32, 32]) ++ (ind ++ (125 :: 10 :: more)))) := by
    unfold headN
    rw [if_neg h1, h2, if_neg (by omega), h3, if_neg (by omega), h4, h5, if_neg (by simp), h6]
    simp only [if_true]
    rw [h7, tok123, if_neg (by simp), if_neg (by omega), back_name, nxt123, skip_ws (.inr rfl)]
   have hp : parseL (deep + 1) (skipW (textL s (ind ++ [32, 32]) ++ (ind ++ (125 :: 10 :: more)))) = .ok s (125 :: 10 :: more) := by
    rw [parse_textL s (deep + 1) (ind ++ [32, 32]) _ hs (by simp only [Nd.high] at hd; omega) (fun c hc => by
     rcases List.mem_append.1 hc with h | h
     ·exact hind c h
     ·simpa using h), skip_ind _ _ hind, skip_at (by decide), parse_stop (show headN (deep + 1) (125 :: 10 :: more) = .stop from if_pos (.inl (tok125 _)))]
    simp [PR.app]
   rw [e, h0, (parse_group hh hp (tok125 _)).1, nxt125, skip_ws (.inr rfl)]
  ·have hsub := b5 hk
   subst hsub
   have e : textN (.mk i nm r k []) ind ++ more = headS i nm r k ind ++ (59 :: 10 :: more) := by
    simp only [textN, if_neg hk, List.append_assoc, List.cons_append, List.nil_append]
   obtain ⟨rest, h0, h1, h2, h3, h4, h5, h6, h7⟩ := head_text (deep := deep) (Z := 59 :: 10 :: more) hind b1 b2 b3 b4 b7 b8 b9 (soft59 _)
   rw [skip_at (by decide)] at h7
   have hh : headN deep rest = .leaf (.mk i nm r k []) (skipW more) := by
    unfold headN
    rw [if_neg h1, h2, if_neg (by omega), h3, if_neg (by omega), h4, h5, if_neg (by simp), h6]
    simp only [if_neg hk]
    rw [h7, tok59, if_neg (by simp), back_name, nxt59, skip_ws (.inr rfl)]
   rw [e, h0, parse_leaf hh]
theorem parse_textL : ∀ (l : List Nd) (deep : Int) (ind more : List UInt8), Nd.Alls Right l → deep + Nd.highs l ≤ 7 → (∀ c ∈ ind, c = 32) → parseL deep (skipW (textL l ind ++ more)) = (parseL deep (skipW more)).app l
 | [], deep, ind, more, hA, hd, hind => by
  simp only [textL, List.nil_append]
  cases parseL deep (skipW more) <;> simp [PR.app]
 | n :: ns, deep, ind, more, hA, hd, hind => by
  simp only [Nd.highs] at hd
  simp only [textL, List.append_assoc]
  rw [parse_textN n deep ind _ hA.1 (by omega) hind, parse_textL ns deep ind more hA.2 (by omega) hind]
  cases parseL deep (skipW more) <;> simp [PR.app, PR.cons]
end

theorem read_text {nd : Nd} (hv : validF nd = none) (hl : (textL nd.sub []).length ≤ 8000) : readF ⟨(textL nd.sub []).toArray⟩ = .ok nd := by
 have hS := schema_of_valid hv
 have hh := hS.high
 have hp := parse_textL nd.sub 2 [] [] hS.right (by
  obtain ⟨i, nm, r, k, s⟩ := nd
  simp only [Nd.high, Nd.sub] at hh ⊢
  omega) (fun c hc => by cases hc)
 rw [List.append_nil, show skipW [] = [] from rfl, parse_stop (show headN 2 [] = .stop from if_pos (.inr ⟨rfl, by decide⟩))] at hp
 unfold readF
 rw [if_neg (show ¬ 8000 < (⟨(textL nd.sub []).toArray⟩ : ByteArray).size by show ¬ 8000 < (textL nd.sub []).length; omega)]
 rw [show (⟨(textL nd.sub []).toArray⟩ : ByteArray).data.toList = textL nd.sub [] from rfl, hp]
 simp only [PR.app, List.append_nil, show tok [] = [] from rfl, if_true]
 rw [← hS.root, hv]
end Go.Proofs.YtgcmfpcgmkkobaaGreatDoor
namespace Go.Proofs.YtgcmfpcgmkkobaaGreatDoor
open Go.RowKit

/-- What walk is handed by Find: it goes on until the ID is met, and keeps the last node. -/
def findG (id : Int) (n : Nd) (_ : Int) (_ : Nd) : Bool × Nd := (!decide (n.id = id), n)
theorem findG_hit {id i : Int} (h : i = id) (nm : ByteArray) (r k : Int) (sb : List Nd) (d : Int) (s : Nd) : findG id (.mk i nm r k sb) d s = (false, .mk i nm r k sb) := by simp [findG, Nd.id, h]
theorem findG_miss {id i : Int} (h : ¬ i = id) (nm : ByteArray) (r k : Int) (sb : List Nd) (d : Int) (s : Nd) : findG id (.mk i nm r k sb) d s = (true, .mk i nm r k sb) := by simp [findG, Nd.id, h]
def zeroNd : Nd := .mk 0 ⟨#[]⟩ 0 0 []
/-- Find: the first node with the ID. -/
def findF (nd : Nd) (id : Int) : Option Nd := match walkF (findG id) nd 0 zeroNd with
 | (true, _) => none
 | (false, n) => some n
mutual
theorem findG_ok (id : Int) : ∀ (n : Nd) (d : Int) (s : Nd), n.ok → s.ok → (walkF (findG id) n d s).2.ok
 | .mk i nm r k sb, d, s, hA, hs => by
  simp only [walkF]
  by_cases h : i = id
  ·rw [findG_hit h]; exact hA
  ·rw [findG_miss h]
   exact findG_okL id sb (d + 1) (.mk i nm r k sb) hA.2.2.2.2.2 hA
theorem findG_okL (id : Int) : ∀ (l : List Nd) (d : Int) (s : Nd), Nd.oks l → s.ok → (walkFs (findG id) l d s).2.ok
 | [], d, s, hA, hs => hs
 | n :: ns, d, s, hA, hs => by
  simp only [walkFs]
  have h1 := findG_ok id n d s hA.1 hs
  rcases hw : walkF (findG id) n d s with ⟨b, s'⟩
  rw [hw] at h1
  cases b
  ·exact h1
  ·exact findG_okL id ns d s' hA.2 h1
end
theorem zeroNd_ok : zeroNd.ok := ⟨⟨by decide, by decide⟩, by decide, ⟨by decide, by decide⟩, ⟨by decide, by decide⟩, by decide, trivial⟩

/-- ErrNone lies where the program has it. -/
structure Non (w : World) (N : Value) : Prop where
 cell : w.cell? ⟨3, 0, none⟩ = some N
 form : ∃ T v, N = .iface T v
theorem Non.keep0 {w w' : World} {N : Value} (h : Non w N) (hc : Chg NoB w w') : Non w' N :=
 ⟨(hc.cell (lt_of_cell h.cell) NoB.elim).trans h.cell, h.form⟩

/-- Two boxes: the node that was last met, and the ID. -/
structure BoxN (B c q : Nat) (id : Int) (s : Nd) (w : World) : Prop where
 nd : ∃ cs, Blk w c cs 28 ∧ Reads w (fun b => b < B) s.dt cs
 num : Blk w q [.int .i64 id] 3

/-- What Find and Project hand back: a node of its own; an error of Valid's, or ErrShape; ErrNone. -/
inductive PJ where
 | ok (n : Nd) | er (e : Er) | non
def RetPJ (E : Er → Value) (N : Value) (r : PJ) (w : World) (en : Ending) (w' : World) : Prop :=
 Chg NoB w w' ∧ match r with
  | .ok n => ∃ cs, en = .returned (.tuple #[.agg cs.toArray, .nilIface]) ∧ Reads w' (fun b => w.heap.size ≤ b) n.dt cs
  | .er e => en = .returned (.tuple #[zeroNode, E e])
  | .non => en = .returned (.tuple #[zeroNode, N])
def findR (nd : Nd) (id : Int) : PJ := match validF nd with
 | some e => .er e
 | none => match findF nd id with
  | none => .non
  | some n => .ok n

theorem high_of_valid {nd : Nd} (h : validF nd = none) : nd.high ≤ 6 := by
 unfold validF at h
 split at h
 ·cases h
 rename_i h1
 have := v1_high nd 1 0 (by simpa using h1)
 omega

end Go.Proofs.YtgcmfpcgmkkobaaGreatDoor
namespace Go.Proofs.YtgcmfpcgmkkobaaGreatDoor
open Go.RowKit

mutual
/-- A node under a projection: itself, or what is left of it, or nothing. -/
def projN (ids : List Int) : Nd → List Nd
 | .mk i n r k s => if has ids i = true then [.mk i n r k s] else match projL ids s with
  | [] => []
  | x :: xs => [.mk i n r k (x :: xs)]
def projL (ids : List Int) : List Nd → List Nd
 | [] => []
 | n :: ns => projN ids n ++ projL ids ns
end
mutual
/-- The IDs, in order. -/
def idsN : Nd → List Int
 | .mk i _ _ _ s => i :: idsL s
def idsL : List Nd → List Int
 | [] => []
 | n :: ns => idsN n ++ idsL ns
end
theorem projN_cases (ids : List Int) (i : Int) (n : ByteArray) (r k : Int) (s : List Nd) :
  (i ∈ ids ∧ projN ids (.mk i n r k s) = [.mk i n r k s]) ∨ (i ∉ ids ∧ projL ids s = [] ∧ projN ids (.mk i n r k s) = []) ∨
   (i ∉ ids ∧ projL ids s ≠ [] ∧ projN ids (.mk i n r k s) = [.mk i n r k (projL ids s)]) := by
 simp only [projN]
 by_cases h : has ids i = true
 ·exact .inl ⟨(has_iff _ _).1 h, if_pos h⟩
 ·have h' : i ∉ ids := (has_not _ _).1 (by simpa using h)
  rw [if_neg h]
  rcases hp : projL ids s with _ | ⟨x, xs⟩
  ·exact .inr (.inl ⟨h', rfl, rfl⟩)
  ·exact .inr (.inr ⟨h', by simp, rfl⟩)
theorem projL_append (ids : List Int) : ∀ (a b : List Nd), projL ids (a ++ b) = projL ids a ++ projL ids b
 | [], b => rfl
 | x :: xs, b => by simp only [List.cons_append, projL, projL_append ids xs b, List.append_assoc]
theorem projL_one (ids : List Int) (n : Nd) : projL ids [n] = projN ids n := by simp [projL]
theorem idsL_append : ∀ (a b : List Nd), idsL (a ++ b) = idsL a ++ idsL b
 | [], b => rfl
 | x :: xs, b => by simp only [List.cons_append, idsL, idsL_append xs b, List.append_assoc]
theorem highs_append : ∀ (a b : List Nd), Nd.highs (a ++ b) = max (Nd.highs a) (Nd.highs b)
 | [], b => by simp [Nd.highs]
 | x :: xs, b => by simp only [List.cons_append, Nd.highs, highs_append xs b]; omega
theorem alls_append {P : Nd → Prop} : ∀ (a b : List Nd), Nd.Alls P a → Nd.Alls P b → Nd.Alls P (a ++ b)
 | [], b, _, hb => hb
 | x :: xs, b, ha, hb => ⟨ha.1, alls_append xs b ha.2 hb⟩

mutual
theorem projN_ids (ids : List Int) : ∀ n : Nd, (idsL (projN ids n)).Sublist (idsN n)
 | .mk i n r k s => by
  rcases projN_cases ids i n r k s with ⟨_, h⟩ | ⟨_, _, h⟩ | ⟨_, _, h⟩
  ·rw [h]; simp [idsL]
  ·rw [h]; exact List.nil_sublist _
  ·rw [h]
   simp only [idsL, idsN, List.append_nil]
   exact (projL_ids ids s).cons_cons i
theorem projL_ids (ids : List Int) : ∀ l : List Nd, (idsL (projL ids l)).Sublist (idsL l)
 | [] => List.Sublist.refl _
 | n :: ns => by
  simp only [projL, idsL_append, idsL]
  exact (projN_ids ids n).append (projL_ids ids ns)
end
mutual
theorem projN_high (ids : List Int) : ∀ n : Nd, Nd.highs (projN ids n) ≤ n.high
 | .mk i n r k s => by
  have := projL_high ids s
  rcases projN_cases ids i n r k s with ⟨_, h⟩ | ⟨_, _, h⟩ | ⟨_, _, h⟩ <;> rw [h] <;> simp only [Nd.highs, Nd.high] <;> omega
theorem projL_high (ids : List Int) : ∀ l : List Nd, Nd.highs (projL ids l) ≤ Nd.highs l
 | [] => Nat.le_refl _
 | n :: ns => by
  have h1 := projN_high ids n
  have h2 := projL_high ids ns
  simp only [projL, highs_append, Nd.highs]
  omega
end
mutual
theorem projN_weigh (ids : List Int) : ∀ n : Nd, Nd.weighs (projN ids n) ≤ n.weigh
 | .mk i n r k s => by
  have := projL_weigh ids s
  rcases projN_cases ids i n r k s with ⟨_, h⟩ | ⟨_, _, h⟩ | ⟨_, _, h⟩ <;> rw [h] <;> simp only [Nd.weighs, Nd.weigh] <;> omega
theorem projL_weigh (ids : List Int) : ∀ l : List Nd, Nd.weighs (projL ids l) ≤ Nd.weighs l
 | [] => Nat.le_refl _
 | n :: ns => by
  have h1 := projN_weigh ids n
  have h2 := projL_weigh ids ns
  simp only [projL, weighs_app, Nd.weighs]
  omega
end
theorem projL_names (ids : List Int) : ∀ l : List Nd, ((projL ids l).map Nd.name).Sublist (l.map Nd.name)
 | [] => List.Sublist.refl _
 | .mk i n r k s :: ns => by
  simp only [projL, List.map_append, List.map_cons]
  have h1 : ((projN ids (.mk i n r k s)).map Nd.name).Sublist [n] := by
   rcases projN_cases ids i n r k s with ⟨_, h⟩ | ⟨_, _, h⟩ | ⟨_, _, h⟩ <;> rw [h]
   ·exact List.Sublist.refl _
   ·exact List.nil_sublist _
   ·exact List.Sublist.refl _
  exact h1.append (projL_names ids ns)
mutual
theorem projN_alls {P : Nd → Prop} {ids : List Int} (hP : ∀ i n r k s, P (.mk i n r k s) → projL ids s ≠ [] → P (.mk i n r k (projL ids s))) : ∀ n : Nd, n.All P → Nd.Alls P (projN ids n)
 | .mk i n r k s, h => by
  rcases projN_cases ids i n r k s with ⟨_, e⟩ | ⟨_, _, e⟩ | ⟨_, hne, e⟩ <;> rw [e]
  ·exact ⟨h, trivial⟩
  ·trivial
  ·exact ⟨⟨hP i n r k s h.1 hne, projL_alls hP s h.2⟩, trivial⟩
theorem projL_alls {P : Nd → Prop} {ids : List Int} (hP : ∀ i n r k s, P (.mk i n r k s) → projL ids s ≠ [] → P (.mk i n r k (projL ids s))) : ∀ l : List Nd, Nd.Alls P l → Nd.Alls P (projL ids l)
 | [], _ => trivial
 | n :: ns, h => by
  simp only [projL]
  exact alls_append _ _ (projN_alls hP n h.1) (projL_alls hP ns h.2)
end
mutual
theorem projN_again (ids : List Int) : ∀ n : Nd, projL ids (projN ids n) = projN ids n
 | .mk i n r k s => by
  rcases projN_cases ids i n r k s with ⟨_, e⟩ | ⟨_, _, e⟩ | ⟨hi, hne, e⟩ <;> rw [e]
  ·rw [projL_one, e]
  ·rfl
  ·rw [projL_one]
   have h2 := projL_again ids s
   rcases projN_cases ids i n r k (projL ids s) with ⟨h, _⟩ | ⟨_, h, _⟩ | ⟨_, _, h⟩
   ·exact absurd h hi
   ·rw [h2] at h; exact absurd h hne
   ·rw [h, h2]
theorem projL_again (ids : List Int) : ∀ l : List Nd, projL ids (projL ids l) = projL ids l
 | [] => rfl
 | n :: ns => by simp only [projL, projL_append, projN_again ids n, projL_again ids ns]
end
mutual
theorem projN_has {ids : List Int} {x : Int} (hx : x ∈ ids) : ∀ n : Nd, x ∈ idsN n → x ∈ idsL (projN ids n)
 | .mk i n r k s, h => by
  simp only [idsN, List.mem_cons] at h
  rcases projN_cases ids i n r k s with ⟨_, e⟩ | ⟨hi, he, e⟩ | ⟨hi, hne, e⟩ <;> rw [e]
  ·simpa [idsL, idsN] using h
  ·rcases h with rfl | h
   ·exact absurd hx hi
   ·have := projL_has hx s h
    rw [he] at this
    cases this
  ·rcases h with rfl | h
   ·exact absurd hx hi
   ·simp only [idsL, idsN, List.append_nil, List.mem_cons]
    exact .inr (projL_has hx s h)
theorem projL_has {ids : List Int} {x : Int} (hx : x ∈ ids) : ∀ l : List Nd, x ∈ idsL l → x ∈ idsL (projL ids l)
 | [], h => h
 | n :: ns, h => by
  simp only [idsL, List.mem_append] at h
  simp only [projL, idsL_append, List.mem_append]
  exact h.imp (projN_has hx n) (projL_has hx ns)
end

/-- What makes a schema right, told of what is in the root. -/
structure Fit (s : List Nd) : Prop where
 ne : s ≠ []
 high : Nd.highs s ≤ 5
 small : Nd.weighs s ≤ 39
 nodes : Nd.Alls (fun n => (v3F n ()).1 = true) s
 names : namesB s = true
 deep : Nd.Alls (fun n => namesB n.sub = true) s
 nodup : (idsL s).Nodup
 range : ∀ x ∈ idsL s, 1 ≤ x ∧ x ≤ 1000

mutual
theorem v5_ids : ∀ (n : Nd) (d : Int) (s : List Int), 1 ≤ d → (walkF (allF v5F) n d s).1 = true → s.Nodup → (walkF (allF v5F) n d s).2 = s ++ idsN n ∧ (s ++ idsN n).Nodup ∧ ∀ x ∈ idsN n, 1 ≤ x ∧ x ≤ 1000
 | .mk i nm r k sb, d, s, hd, h, hn => by
  simp only [walkF] at h ⊢
  have hf : allF v5F (.mk i nm r k sb) d s = (decide (1 ≤ i) && decide (i ≤ 1000) && !has s i, s ++ [i]) := by
   simp only [allF, if_neg (show ¬ d = 0 by omega)]; rfl
  rw [hf] at h ⊢
  cases hb : (decide (1 ≤ i) && decide (i ≤ 1000) && !has s i) with
  | false => rw [hb] at h; cases h
  | true =>
   rw [hb] at h
   simp only [Bool.and_eq_true, decide_eq_true_eq, Bool.not_eq_true', has_not] at hb
   have hn2 : (s ++ [i]).Nodup := List.nodup_append.2 ⟨hn, by simp, fun a ha b hb2 => by
    simp only [List.mem_cons, List.not_mem_nil, or_false] at hb2
    subst hb2
    rintro rfl
    exact hb.2 ha⟩
   obtain ⟨h1, h2, h3⟩ := v5_idsL sb (d + 1) (s ++ [i]) (by omega) h hn2
   have e : s ++ idsN (.mk i nm r k sb) = (s ++ [i]) ++ idsL sb := by simp [idsN]
   rw [e]
   refine ⟨h1, h2, fun x hx => ?_⟩
   simp only [idsN, List.mem_cons] at hx
   rcases hx with rfl | hx
   ·exact hb.1
   ·exact h3 x hx
theorem v5_idsL : ∀ (l : List Nd) (d : Int) (s : List Int), 1 ≤ d → (walkFs (allF v5F) l d s).1 = true → s.Nodup → (walkFs (allF v5F) l d s).2 = s ++ idsL l ∧ (s ++ idsL l).Nodup ∧ ∀ x ∈ idsL l, 1 ≤ x ∧ x ≤ 1000
 | [], d, s, hd, h, hn => by
  simp only [walkFs, idsL, List.append_nil]
  exact ⟨trivial, hn, fun x hx => by cases hx⟩
 | n :: ns, d, s, hd, h, hn => by
  simp only [walkFs] at h ⊢
  have h0 := v5_ids n d s hd
  rcases hw : walkF (allF v5F) n d s with ⟨b, s'⟩
  rw [hw] at h h0
  cases b
  ·cases h
  ·obtain ⟨e, h1, h2⟩ := h0 rfl hn
   simp only at e h
   subst e
   obtain ⟨h3, h4, h5⟩ := v5_idsL ns d (s ++ idsN n) hd h h1
   have e : s ++ idsL (n :: ns) = (s ++ idsN n) ++ idsL ns := by simp [idsL]
   rw [e]
   refine ⟨h3, h4, fun x hx => ?_⟩
   simp only [idsL, List.mem_append] at hx
   exact hx.elim (h2 x) (h5 x)
end
mutual
theorem v5_of : ∀ (n : Nd) (d : Int) (s : List Int), 1 ≤ d → (s ++ idsN n).Nodup → (∀ x ∈ idsN n, 1 ≤ x ∧ x ≤ 1000) → walkF (allF v5F) n d s = (true, s ++ idsN n)
 | .mk i nm r k sb, d, s, hd, hn, hr => by
  have e : s ++ idsN (.mk i nm r k sb) = (s ++ [i]) ++ idsL sb := by simp [idsN]
  rw [e] at hn ⊢
  have hi := hr i (by simp [idsN])
  have hni : i ∉ s := fun h => by
   have := (List.nodup_append.1 (List.nodup_append.1 hn).1).2.2 i h i (by simp)
   exact this rfl
  have hf : allF v5F (.mk i nm r k sb) d s = (true, s ++ [i]) := by
   simp only [allF, if_neg (show ¬ d = 0 by omega), v5F, Nd.id, hi.1, hi.2, (has_not _ _).2 hni, decide_true, Bool.not_false, Bool.and_self]
  simp only [walkF]
  rw [hf]
  exact v5_ofL sb (d + 1) (s ++ [i]) (by omega) hn (fun x hx => hr x (by simp [idsN, hx]))
theorem v5_ofL : ∀ (l : List Nd) (d : Int) (s : List Int), 1 ≤ d → (s ++ idsL l).Nodup → (∀ x ∈ idsL l, 1 ≤ x ∧ x ≤ 1000) → walkFs (allF v5F) l d s = (true, s ++ idsL l)
 | [], d, s, hd, hn, hr => by simp [walkFs, idsL]
 | n :: ns, d, s, hd, hn, hr => by
  have e : s ++ idsL (n :: ns) = (s ++ idsN n) ++ idsL ns := by simp [idsL]
  rw [e] at hn ⊢
  simp only [walkFs]
  rw [v5_of n d s hd (List.nodup_append.1 hn).1 (fun x hx => hr x (by simp [idsL, hx]))]
  exact v5_ofL ns d (s ++ idsN n) hd hn (fun x hx => hr x (by simp [idsL, hx]))
end
mutual
theorem v1_of : ∀ (n : Nd) (d s : Int), d + n.high ≤ 7 → s + n.weigh ≤ 40 → walkF v1F n d s = (true, s + n.weigh)
 | .mk i nm r k sb, d, s, hd, hs => by
  simp only [Nd.high] at hd
  simp only [Nd.weigh] at hs ⊢
  have hf : v1F (.mk i nm r k sb) d s = (true, s + 1) := by
   have e1 : decide (s + 1 ≤ 40) = true := decide_eq_true (by omega)
   have e2 : decide (d ≤ 6) = true := decide_eq_true (by omega)
   simp only [v1F, e1, e2, Bool.and_self]
  simp only [walkF]
  rw [hf]
  simp only
  rw [v1_ofL sb (d + 1) (s + 1) (by omega) (by omega)]
  simp only [Prod.mk.injEq, true_and]
  omega
theorem v1_ofL : ∀ (l : List Nd) (d s : Int), d + Nd.highs l ≤ 7 → s + Nd.weighs l ≤ 40 → walkFs v1F l d s = (true, s + Nd.weighs l)
 | [], d, s, hd, hs => by simp [walkFs, Nd.weighs]
 | n :: ns, d, s, hd, hs => by
  simp only [Nd.highs] at hd
  simp only [Nd.weighs] at hs ⊢
  simp only [walkFs]
  rw [v1_of n d s (by omega) (by omega)]
  simp only
  rw [v1_ofL ns d _ (by omega) (by omega)]
  simp only [Prod.mk.injEq, true_and]
  omega
end
mutual
theorem walk_of {f : Nd → Int → Unit → Bool × Unit} {P : Nd → Prop} (hP : ∀ n d, 1 ≤ d → P n → (f n d ()).1 = true) : ∀ (n : Nd) (d : Int), 1 ≤ d → n.All P → walkF f n d () = (true, ())
 | .mk i nm r k sb, d, hd, h => by
  have hf : f (.mk i nm r k sb) d () = (true, ()) := Prod.ext (hP _ d hd h.1) rfl
  simp only [walkF]
  rw [hf]
  exact walk_ofL hP sb (d + 1) (by omega) h.2
theorem walk_ofL {f : Nd → Int → Unit → Bool × Unit} {P : Nd → Prop} (hP : ∀ n d, 1 ≤ d → P n → (f n d ()).1 = true) : ∀ (l : List Nd) (d : Int), 1 ≤ d → Nd.Alls P l → walkFs f l d () = (true, ())
 | [], d, hd, h => rfl
 | n :: ns, d, hd, h => by
  simp only [walkFs]
  rw [walk_of hP n d hd h.1]
  exact walk_ofL hP ns d hd h.2
end
theorem fit_of {nd : Nd} (h : validF nd = none) : Fit nd.sub := by
 have hS := schema_of_valid h
 unfold validF at h
 split at h
 ·cases h
 rename_i h1
 split at h
 ·cases h
 rename_i h2
 split at h
 ·cases h
 rename_i h3
 split at h
 ·cases h
 rename_i h4
 split at h
 ·cases h
 rename_i h5
 rw [Bool.not_eq_false] at h1 h2 h3 h4 h5
 have a3 := (walk_root (P := fun n => (v3F n ()).1 = true) (fun n d s hd hf => by simp only [allF, if_neg (show ¬ d = 0 by omega)] at hf; exact hf) nd () h3).1
 have a4 := walk_root (P := fun n => namesB n.sub = true) (fun n d s hd hf => hf) nd () h4
 have h6 := hS.high
 have h7 := hS.small
 obtain ⟨i, nm, r, k, sb⟩ := nd
 simp only [walkF] at h5
 have hf : allF v5F (.mk i nm r k sb) 0 [] = (true, []) := by simp [allF]
 rw [hf] at h5
 have a5 := v5_idsL sb (0 + 1) [] (by omega) h5 (by simp)
 simp only [Nd.high] at h6
 simp only [Nd.weigh] at h7
 unfold rootB at h2
 rw [Bool.and_eq_true, Bool.and_eq_true, Bool.and_eq_true, Bool.and_eq_true] at h2
 have h8 := of_decide_eq_true h2.2
 refine ⟨fun e => h8 ?_, by simp only [Nd.sub]; omega, by simp only [Nd.sub]; omega, a3, a4.2, a4.1, by simpa [Nd.sub] using a5.2.1, a5.2.2⟩
 rw [e]; rfl
theorem valid_of {s : List Nd} (h : Fit s) : validF (.mk 0 rootName 1 0 s) = none := by
 have h1 : (walkF v1F (.mk 0 rootName 1 0 s) 1 0) = (true, _) := v1_of (.mk 0 rootName 1 0 s) 1 0 (by have := h.high; simp only [Nd.high]; omega) (by have := h.small; simp only [Nd.weigh]; omega)
 have h2 : rootB (.mk 0 rootName 1 0 s) = true := by
  unfold rootB
  have h9 : ((s.length : Nat) : Int) ≠ 0 := by
   have := h.ne
   cases s with
   | nil => exact absurd rfl this
   | cons x xs => simp only [List.length_cons]; omega
  have h10 : decide (((s.length : Nat) : Int) ≠ 0) = true := decide_eq_true h9
  simp only [Nd.id, Nd.name, Nd.rep, Nd.kind, Nd.sub, decide_true, Bool.true_and]
  exact h10
 have h3 : (walkF (allF v3F) (.mk 0 rootName 1 0 s) 0 ()).1 = true := by
  simp only [walkF]
  have hf : allF v3F (.mk 0 rootName 1 0 s) 0 () = (true, ()) := by simp [allF]
  rw [hf]
  simp only
  rw [walk_ofL (P := fun n => (v3F n ()).1 = true) (fun n d hd hp => by simp only [allF, if_neg (show ¬ d = 0 by omega)]; exact hp) s (0 + 1) (by omega) h.nodes]
 have h4 : (walkF v4F (.mk 0 rootName 1 0 s) 0 ()).1 = true := by
  simp only [walkF]
  have hf : v4F (.mk 0 rootName 1 0 s) 0 () = (true, ()) := Prod.ext h.names rfl
  rw [hf]
  simp only
  rw [walk_ofL (P := fun n => namesB n.sub = true) (fun n d hd hp => hp) s (0 + 1) (by omega) h.deep]
 have h5 : (walkF (allF v5F) (.mk 0 rootName 1 0 s) 0 []).1 = true := by
  simp only [walkF]
  have hf : allF v5F (.mk 0 rootName 1 0 s) 0 [] = (true, []) := by simp [allF]
  rw [hf]
  simp only
  rw [v5_ofL s (0 + 1) [] (by omega) (by simpa using h.nodup) h.range]
 unfold validF
 rw [h1, if_neg (by simp), h2, if_neg (by simp), h3, if_neg (by simp), h4, if_neg (by simp), h5, if_neg (by simp)]
theorem names_proj (ids : List Int) (s : List Nd) (h : namesB s = true) : namesB (projL ids s) = true := by
 unfold namesB at h ⊢
 rw [Bool.and_eq_true] at h ⊢
 have hs := projL_names ids s
 refine ⟨List.all_eq_true.2 fun x hx => ?_, decide_eq_true ((of_decide_eq_true h.2).sublist hs)⟩
 have h1 : x.name ∈ s.map Nd.name := hs.subset (List.mem_map_of_mem hx)
 obtain ⟨y, hy, e⟩ := List.mem_map.1 h1
 rw [← e]
 exact List.all_eq_true.1 h.1 y hy

theorem Fit.proj {s : List Nd} (h : Fit s) (ids : List Int) (hne : projL ids s ≠ []) : Fit (projL ids s) where
 ne := hne
 high := Nat.le_trans (projL_high ids s) h.high
 small := Nat.le_trans (projL_weigh ids s) h.small
 nodes := projL_alls (fun i n r k s hp hn => by
  simp only [v3F, Nd.rep, Nd.kind, Nd.sub] at hp ⊢
  have e : (projL ids s).isEmpty = s.isEmpty := by
   cases s with
   | nil => rfl
   | cons x xs => cases hq : projL ids (x :: xs) with
    | nil => exact absurd hq hn
    | cons y ys => rfl
  rw [e]; exact hp) s h.nodes
 names := names_proj ids s h.names
 deep := projL_alls (fun i n r k s hp _ => names_proj ids s hp) s h.deep
 nodup := h.nodup.sublist (projL_ids ids s)
 range := fun x hx => h.range x ((projL_ids ids s).subset hx)
mutual
theorem projN_lv (ids : List Int) : ∀ (n : Nd) (mr md : Int) (p : List Int), (lvL mr md p (projN ids n)).Sublist (lvN mr md p n)
 | .mk i n r k s, mr, md, p => by
  rcases projN_cases ids i n r k s with ⟨_, e⟩ | ⟨_, _, e⟩ | ⟨_, _, e⟩ <;> rw [e]
  ·rw [lvL_one]; exact List.Sublist.refl _
  ·exact List.nil_sublist _
  ·rw [lvL_one]
   simp only [lvN]
   split
   ·exact projL_lv ids s _ _ _
   ·exact List.Sublist.refl _
theorem projL_lv (ids : List Int) : ∀ (l : List Nd) (mr md : Int) (p : List Int), (lvL mr md p (projL ids l)).Sublist (lvL mr md p l)
 | [], mr, md, p => List.Sublist.refl _
 | n :: ns, mr, md, p => by
  simp only [projL, lvL_append, lvL]
  exact (projN_lv ids n mr md p).append (projL_lv ids ns mr md p)
end
mutual
theorem lvN_ids : ∀ (n : Nd) (mr md : Int) (p : List Int), ((lvN mr md p n).map Lf.id).Sublist (idsN n)
 | .mk i n r k s, mr, md, p => by
  simp only [lvN, idsN]
  split
  ·exact (lvL_ids s _ _ _).trans (List.sublist_cons_self _ _)
  ·simp only [List.map_cons, List.map_nil]
   exact (List.nil_sublist _).cons_cons i
theorem lvL_ids : ∀ (l : List Nd) (mr md : Int) (p : List Int), ((lvL mr md p l).map Lf.id).Sublist (idsL l)
 | [], mr, md, p => List.Sublist.refl _
 | n :: ns, mr, md, p => by
  simp only [lvL, List.map_append, idsL]
  exact (lvN_ids n mr md p).append (lvL_ids ns mr md p)
end

mutual
theorem findG_ids (id : Int) : ∀ (n : Nd) (d : Int) (s : Nd), (walkF (findG id) n d s).1 = true ↔ id ∉ idsN n
 | .mk i nm r k sb, d, s => by
  simp only [walkF]
  by_cases h : i = id
  ·rw [findG_hit h]
   simp [idsN, h]
  ·rw [findG_miss h]
   simp only
   have := findG_idsL id sb (d + 1) (.mk i nm r k sb)
   simp only [idsN, List.mem_cons, not_or]
   rw [this]
   exact ⟨fun h1 => ⟨fun e => h e.symm, h1⟩, fun h1 => h1.2⟩
theorem findG_idsL (id : Int) : ∀ (l : List Nd) (d : Int) (s : Nd), (walkFs (findG id) l d s).1 = true ↔ id ∉ idsL l
 | [], d, s => by simp [walkFs, idsL]
 | n :: ns, d, s => by
  simp only [walkFs, idsL, List.mem_append, not_or]
  have h1 := findG_ids id n d s
  rcases hw : walkF (findG id) n d s with ⟨b, s'⟩
  rw [hw] at h1
  cases b
  ·simp only [Bool.false_eq_true, false_iff] at h1 ⊢
   exact fun h => h1 h.1
  ·simp only [true_iff] at h1
   simp only
   rw [findG_idsL id ns d s']
   exact ⟨fun h => ⟨h1, h⟩, fun h => h.2⟩
end
theorem findF_none {nd : Nd} {id : Int} : findF nd id = none ↔ id ∉ idsN nd := by
 unfold findF
 rw [← findG_ids id nd 0 zeroNd]
 rcases walkF (findG id) nd 0 zeroNd with ⟨b, s⟩
 cases b <;> simp

def subOf (ids : List Int) (l : List Nd) : List Nd := if has ids 0 = true then l else projL ids l
def projectF (nd : Nd) (ids : List Int) : PJ := match validF nd with
 | some e => .er e
 | none => bif ids.any (fun i => (findF nd i).isNone) then .non
  else bif (subOf ids nd.sub).isEmpty then .er .shape
  else .ok (.mk nd.id nd.name nd.rep nd.kind (subOf ids nd.sub))
theorem subOf_again (ids : List Int) (l : List Nd) : subOf ids (subOf ids l) = subOf ids l := by
 unfold subOf
 by_cases h : has ids 0 = true
 ·simp only [if_pos h]
 ·simp only [if_neg h]; exact projL_again ids l
def leavesOf (nd : Nd) : List Lf := lvL 0 0 [] nd.sub

theorem project_law {nd p : Nd} {ids : List Int} (h : projectF nd ids = .ok p) :
  validF nd = none ∧ validF p = none ∧ (leavesOf p).Sublist (leavesOf nd) ∧ ((leavesOf nd).map Lf.id).Nodup ∧ projectF p ids = .ok p := by
 have hv : validF nd = none := by
  cases hv : validF nd with
  | none => rfl
  | some e => unfold projectF at h; rw [hv] at h; cases h
 have hS := schema_of_valid hv
 have hF := fit_of hv
 unfold projectF at h
 rw [hv] at h
 simp only at h
 obtain ⟨i, nm, r, k, sb⟩ := nd
 have hroot := hS.root
 simp only [Nd.mk.injEq, Nd.sub, and_true] at hroot
 obtain ⟨rfl, rfl, rfl, rfl⟩ := hroot
 simp only [Nd.sub, Nd.id, Nd.name, Nd.rep, Nd.kind] at h hF
 have hids : ((leavesOf (.mk 0 rootName 1 0 sb)).map Lf.id).Nodup := hF.nodup.sublist (lvL_ids sb 0 0 [])
 refine ⟨hv, ?_⟩
 cases hany : ids.any (fun i => (findF (.mk 0 rootName 1 0 sb) i).isNone) with
 | true => rw [hany] at h; cases h
 | false =>
  rw [hany] at h
  simp only [cond_false] at h
  cases hne : (subOf ids sb).isEmpty with
  | true => rw [hne] at h; cases h
  | false =>
   rw [hne] at h
   simp only [cond_false] at h
   obtain rfl := PJ.ok.inj h
   have hne' : subOf ids sb ≠ [] := fun e => by rw [e] at hne; cases hne
   have hF2 : Fit (subOf ids sb) := by
    unfold subOf at hne' ⊢
    by_cases h0 : has ids 0 = true
    ·simp only [if_pos h0]; exact hF
    ·simp only [if_neg h0] at hne' ⊢; exact hF.proj ids hne'
   have hlv : (lvL 0 0 [] (subOf ids sb)).Sublist (lvL 0 0 [] sb) := by
    unfold subOf
    by_cases h0 : has ids 0 = true
    ·simp only [if_pos h0]; exact List.Sublist.refl _
    ·simp only [if_neg h0]; exact projL_lv ids sb 0 0 []
   have hsome : ∀ x, x ∈ ids → x ∈ idsL sb → x ∈ idsL (subOf ids sb) := fun x hx hm => by
    unfold subOf
    by_cases h0 : has ids 0 = true
    ·simp only [if_pos h0]; exact hm
    ·simp only [if_neg h0]; exact projL_has hx sb hm
   have hv2 := valid_of hF2
   refine ⟨hv2, hlv, hids, ?_⟩
   have hany2 : ids.any (fun i => (findF (.mk 0 rootName 1 0 (subOf ids sb)) i).isNone) = false := by
    rw [List.any_eq_false] at hany ⊢
    intro x hx hxn
    apply hany x hx
    rw [Option.isNone_iff_eq_none, findF_none] at hxn ⊢
    intro hm
    apply hxn
    simp only [idsN, List.mem_cons] at hm ⊢
    exact hm.imp (fun e => e) (hsome x hx)
   unfold projectF
   rw [hv2]
   simp only [Nd.sub, Nd.id, Nd.name, Nd.rep, Nd.kind, hany2, subOf_again, hne, cond_false]

/-- From two lists, one a part of the other: what the law's own loop looks for. -/
theorem next_of {α : Type} {x a : α} {l m : List α} (h : (x :: l).Sublist (a :: m)) (hne : x ≠ a) : (x :: l).Sublist m := by
 cases h with
 | cons _ h => exact h
 | cons_cons _ h => exact absurd rfl hne
end Go.Proofs.YtgcmfpcgmkkobaaGreatDoor
