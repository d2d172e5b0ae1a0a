/-
  schema.Read.; The plain law: the text of a right schema is read as it.
-/
import Derived.Test.YtgcmfpcgmkkobaaGreatDoorNodes
set_option linter.unusedVariables false
set_option maxHeartbeats 20000000
set_option maxRecDepth 100000
set_option linter.unusedSimpArgs false
namespace Go.Proofs.YtgcmfpcgmkkobaaGreatDoor
open Go.RowKit
theorem idxFrom_bd (x : ByteArray) : ∀ (zs : List ByteArray) (i : Nat), -1 ≤ Lib.idxFromS zs x i ∧ Lib.idxFromS zs x i ≤ (i + zs.length : Nat)
 | [], i => by simp [Lib.idxFromS]
 | z :: zs, i => by
  have := idxFrom_bd x zs (i + 1)
  simp only [Lib.idxFromS]
  split
  ·simp; omega
  ·simp only [List.length_cons]; omega
theorem idxT_bd (l : List ByteArray) (w : List UInt8) : -1 ≤ idxT l w ∧ idxT l w ≤ l.length := by
 have := idxFrom_bd ⟨w.toArray⟩ l 0
 simpa [idxT, Lib.idxOfS] using this
theorem numOk_bd {w : List UInt8} {v : Int} (h : numOk w = some v) : I64 v := by
 unfold numOk at h
 split at h
 ·rename_i v' ha
  obtain rfl := Option.some.inj h
  unfold Lib.atoiAll at ha
  split at ha
  ·cases ha
  ·dsimp only at ha
   split at ha
   ·cases ha
   ·cases ha
   ·split at ha
    ·cases ha
    ·split at ha
     ·cases ha
     ·rename_i h1 h2
      injection ha with ha
      subst ha
      unfold I64
      split <;> omega
 ·cases h
theorem wordId_bd {w : List UInt8} {v : Int} (h : wordId w = some v) : I64 v := by
 unfold wordId at h
 split at h
 ·cases h
 ·split at h
  ·split at h
   ·cases h
   ·rename_i hn
    split at h
    ·cases h
    ·split at h
     ·cases h
     ·obtain rfl := Option.some.inj h
      exact numOk_bd hn
  ·cases h
theorem tok_size (l : List UInt8) (h : l.length ≤ 8000) : (⟨(tok l).toArray⟩ : ByteArray).size ≤ reach := by
 have := tok_le l
 show (tok l).length ≤ reach
 unfold reach
 omega
theorem head_leaf_ok {deep : Int} {rest q : List UInt8} {n : Nd} (hl : rest.length ≤ 8000) (h : headN deep rest = .leaf n q) : n.ok := by
 have h1 := nxt_le' rest
 have h2 := nxt_le' (nxt rest)
 unfold headN at h
 split at h
 ·cases h
 split at h
 ·cases h
 split at h
 ·cases h
 split at h
 ·cases h
 split at h
 ·cases h
 rename_i i hw
 split at h
 ·split at h
  ·cases h
  ·split at h <;> cases h
 ·split at h
  ·cases h
  ·cases h
   have a := idxT_bd repT (tok rest)
   have b := idxT_bd kindT (tok (nxt rest))
   have c : repT.length = 4 := rfl
   have d : kindT.length = 6 := rfl
   refine ⟨wordId_bd hw, tok_size _ (by omega), ⟨by omega, by omega⟩, ⟨by omega, by omega⟩, by simp [reach], trivial⟩
theorem head_group_ok {deep : Int} {rest q : List UInt8} {i p : Int} {nm : ByteArray} (hl : rest.length ≤ 8000) (h : headN deep rest = .group i nm p q) : I64 i ∧ nm.size ≤ reach ∧ I64 p := by
 have h1 := nxt_le' rest
 have h2 := nxt_le' (nxt rest)
 unfold headN at h
 split at h
 ·cases h
 split at h
 ·cases h
 split at h
 ·cases h
 split at h
 ·cases h
 split at h
 ·cases h
 rename_i i' hw
 split at h
 ·split at h
  ·cases h
  ·split at h
   ·cases h
   ·cases h
    have a := idxT_bd repT (tok rest)
    have c : repT.length = 4 := rfl
    exact ⟨wordId_bd hw, tok_size _ (by omega), ⟨by omega, by omega⟩⟩
 ·split at h <;> cases h
theorem PR.cons_eq {n : Nd} {p : PR} {l : List Nd} {q : List UInt8} (h : p.cons n = .ok l q) : ∃ l', l = n :: l' ∧ p = .ok l' q := by
 cases p with
 | ok l' r => simp only [PR.cons, PR.ok.injEq] at h; exact ⟨l', h.1.symm, by rw [h.2]⟩
 | bad e r => simp [PR.cons] at h
theorem parse_ok : ∀ (m : Nat) (deep : Int) (rest : List UInt8) (l : List Nd) (q : List UInt8), rest.length ≤ m → rest.length ≤ 8000 → parseL deep rest = .ok l q → Nd.oks l ∧ l.length + q.length ≤ rest.length := by
 intro m
 induction m using Nat.strongRecOn with
 | _ m ih =>
  intro deep rest l q hm h8 h
  cases hh : headN deep rest with
  | stop =>
   rw [parse_stop hh] at h
   cases h
   exact ⟨trivial, by simp⟩
  | bad e r => rw [parse_bad hh] at h; cases h
  | leaf n r =>
   rw [parse_leaf hh] at h
   have hlt := head_leaf hh
   obtain ⟨l', rfl, h'⟩ := PR.cons_eq h
   have := ih _ (by omega) deep _ _ _ (Nat.le_refl _) (by omega) h'
   exact ⟨⟨head_leaf_ok h8 hh, this.1⟩, by simp only [List.length_cons]; omega⟩
  | group i nm p r =>
   have hlt := (head_group hh).1
   cases hp : parseL (deep + 1) r with
   | bad e q2 => rw [parse_group_bad hh hp] at h; cases h
   | ok sub q2 =>
    by_cases h3 : tok q2 = [125]
    ·have h4 := parse_group hh hp h3
     rw [h4.1] at h
     obtain ⟨l', rfl, h'⟩ := PR.cons_eq h
     have h5 := ih _ (by omega) deep _ _ _ (Nat.le_refl _) (by omega) h'
     have h6 := ih _ (by omega) (deep + 1) _ _ _ (Nat.le_refl _) (by omega) hp
     have h7 := head_group_ok h8 hh
     refine ⟨⟨⟨h7.1, h7.2.1, h7.2.2, ⟨by omega, by omega⟩, ?_, h6.1⟩, h5.1⟩, ?_⟩
     ·unfold reach; omega
     ·have := h4.2; simp only [List.length_cons]; omega
    ·rw [parse_group_open hh hp h3] at h; cases h
theorem Chg.trans' {C D : Nat → Prop} {a b c : World} (h : Chg C a b) (k : Chg D b c) (hd : ∀ i, D i → a.heap.size ≤ i) : Chg C a c := h.trans k (fun i hi => .inr (hd i hi))
theorem store5 {w : World} {b : Nat} {c0 c1 c2 c3 c4 : Value} {t : TypeId} (h : Blk w b [c0, c1, c2, c3, c4] t) (v0 v1 v2 v3 v4 : Value) :
  Blk (World.setCell (World.setCell (World.setCell (World.setCell (World.setCell w ⟨b, 0, none⟩ v0) ⟨b, 1, none⟩ v1) ⟨b, 2, none⟩ v2) ⟨b, 3, none⟩ v3) ⟨b, 4, none⟩ v4) b [v0, v1, v2, v3, v4] t :=
 ((((h.set 0 v0).set 1 v1).set 2 v2).set 3 v3).set 4 v4
theorem store5_other {w : World} {b p : Nat} {cs : List Value} {t : TypeId} (h : Blk w p cs t) (hp : p ≠ b) (v0 v1 v2 v3 v4 : Value) :
  Blk (World.setCell (World.setCell (World.setCell (World.setCell (World.setCell w ⟨b, 0, none⟩ v0) ⟨b, 1, none⟩ v1) ⟨b, 2, none⟩ v2) ⟨b, 3, none⟩ v3) ⟨b, 4, none⟩ v4) p cs t :=
 ((((h.other (p := ⟨b, 0, none⟩) hp v0).other (p := ⟨b, 1, none⟩) hp v1).other (p := ⟨b, 2, none⟩) hp v2).other (p := ⟨b, 3, none⟩) hp v3).other (p := ⟨b, 4, none⟩) hp v4
theorem store5_chg (w : World) (b : Nat) (v0 v1 v2 v3 v4 : Value) :
  Chg (OneB b) w (World.setCell (World.setCell (World.setCell (World.setCell (World.setCell w ⟨b, 0, none⟩ v0) ⟨b, 1, none⟩ v1) ⟨b, 2, none⟩ v2) ⟨b, 3, none⟩ v3) ⟨b, 4, none⟩ v4) :=
 (((((Chg.refl (OneB b) w).setCell (p := ⟨b, 0, none⟩) (.inl rfl) v0).setCell (p := ⟨b, 1, none⟩) (.inl rfl) v1).setCell (p := ⟨b, 2, none⟩) (.inl rfl) v2).setCell (p := ⟨b, 3, none⟩) (.inl rfl) v3).setCell (p := ⟨b, 4, none⟩) (.inl rfl) v4
inductive RR where
 | ok (n : Nd)
 | er (e : Er)
 | bad (e : Er) (rest : List UInt8)
def readF (s : ByteArray) : RR :=
 if 8000 < s.size then .er .bound
 else match parseL 2 (skipW s.data.toList) with
 | .bad e q => .bad e q
 | .ok l q => if tok q = [] then (match validF (.mk 0 rootName 1 0 l) with
  | none => .ok (.mk 0 rootName 1 0 l)
  | some e => .er e) else .bad .text q
def zeroNode : Value := .agg #[.int .i64 0, .string ⟨#[]⟩, .int .i64 0, .int .i64 0, .slice none 0 0]
def RetReadT (E : Er → Value) (s : ByteArray) (p : RR) (w : World) (en : Ending) (w' : World) : Prop :=
 Chg NoB w w' ∧ match p with
 | .ok n => ∃ cs F, en = .returned (.tuple #[.agg cs.toArray, .nilIface]) ∧ TrN w' w.heap.size n cs F ∧ F.Nodup
 | .er e => en = .returned (.tuple #[zeroNode, E e])
 | .bad e q => ∃ v, en = .returned (.tuple #[zeroNode, v]) ∧ FaultAt w' (E e) (s.size - q.length) v
theorem read_tree (s : ByteArray) (w : World) (E : Er → Value) (hG : Glo w.heap.size E w) (hbig : s.size ≤ 9223372036854775807) :
  Calls Tryz.prog 118 #[.string s] w (RetReadT E s (readF s) w) := by
 by_cases h8 : 8000 < s.size
 ·have hr : readF s = .er .bound := by unfold readF; rw [if_pos h8]
  have Hr := Lib.hid hr
  have h8' : (8000 : Int) < s.size := by omega
  have g3 := hG.errs.cell .bound
  simp only [Er.g] at g3
  clear hr
  go_enter Tryz.func118, Tryz.ntmps118
  go_wp2_with fail
  generalize hw1 : w.alloc _ = w1
  have hc1 : Chg NoB w w1 := by
   rw [← hw1]
   repeat (first | exact Chg.refl _ _ | apply Chg.alloc | apply Chg.drew)
  have hb1 : Blk w1 (w.heap.size) (ndCells 0 ⟨#[]⟩ 0 0 (.slice none 0 0)) 28 := by
   rw [← hw1]
   repeat (first | exact Blk.newAt (by first | rfl | (simp; done) | (simp; omega)) | apply Blk.alloc | apply Blk.drew)
  clear hw1
  have hG1 := hG.keep0 hc1
  have g4 := hG1.errs.cell .bound
  simp only [Er.g] at g4
  refine wp_region_n (fun w' => w'.cell? ⟨0, 0, none⟩ = some (E .bound)) [3] (by kernel_rfl) ?_ (fun hSh => ?_)
  ·exact g4
  refine n_tA (v := ?_) 0 rfl (Or.inl ⟨by rfl, ?_⟩) ?_
  rotate_left 1
  ·(intro w' hSw; (try dsimp only at hSw); go_simp; try with_reducible rfl)
  simp only [Act.put, qA, qB, qC, qD, qE, qF]
  refine n_tA (v := ?_) 1 rfl (Or.inl ⟨by rfl, ?_⟩) ?_
  rotate_left 1
  ·(intro w' hSw; (try dsimp only at hSw); go_simp; try with_reducible rfl)
  simp only [Act.put, qA, qB, qC, qD, qE, qF]
  have x0 : w1.cell? ⟨w.heap.size, 0, none⟩ = some (.int .i64 (0)) := hb1.cell 0
  have x1 : w1.cell? ⟨w.heap.size, 1, none⟩ = some (.string ⟨#[]⟩) := hb1.cell 1
  have x2 : w1.cell? ⟨w.heap.size, 2, none⟩ = some (.int .i64 (0)) := hb1.cell 2
  have x3 : w1.cell? ⟨w.heap.size, 3, none⟩ = some (.int .i64 (0)) := hb1.cell 3
  have x4 : w1.cell? ⟨w.heap.size, 4, none⟩ = some (.slice none 0 0) := hb1.cell 4
  have z0 : w1.frozen? ⟨w.heap.size, 0, none⟩ = false := hb1.free 0
  have z1 : w1.frozen? ⟨w.heap.size, 1, none⟩ = false := hb1.free 1
  have z2 : w1.frozen? ⟨w.heap.size, 2, none⟩ = false := hb1.free 2
  have z3 : w1.frozen? ⟨w.heap.size, 3, none⟩ = false := hb1.free 3
  have z4 : w1.frozen? ⟨w.heap.size, 4, none⟩ = false := hb1.free 4
  refine n_step 2 rfl (by kernel_rfl) ?_
  go_wp2_with fail
  have hlt2 := lt_of_cell g3
  refine ⟨fun _ => ((store5_chg w1 w.heap.size _ _ _ _ _).drew.cell (lt_of_cell g4) (fun e => by have e : 0 = w.heap.size := e; simp only at hlt2; omega)).trans g4, fun hSk => ?_⟩
  refine n_step 3 rfl (by kernel_rfl) ?_
  go_wp2_with fail
  refine ⟨by kernel_rfl, ?_⟩
  go_wp2_with fail
  have hb9 := store5 hb1 (.int .i64 0) (.string ⟨#[]⟩) (.int .i64 0) (.int .i64 0) (.slice none 0 0)
  have hc9 := hc1.trans' (store5_chg w1 w.heap.size (.int .i64 0) (.string ⟨#[]⟩) (.int .i64 0) (.int .i64 0) (.slice none 0 0)) (fun b e => Nat.le_of_eq (Eq.symm e))
  generalize World.setCell (World.setCell (World.setCell (World.setCell (World.setCell w1 ⟨w.heap.size, 0, none⟩ (.int .i64 0)) ⟨w.heap.size, 1, none⟩ (.string ⟨#[]⟩)) ⟨w.heap.size, 2, none⟩ (.int .i64 0)) ⟨w.heap.size, 3, none⟩ (.int .i64 0)) ⟨w.heap.size, 4, none⟩ (.slice none 0 0) = w9 at *
  have n0 : w9.cell? ⟨w.heap.size, 0, none⟩ = some (.int .i64 (0)) := hb9.cell 0
  have n1 : w9.cell? ⟨w.heap.size, 1, none⟩ = some (.string ⟨#[]⟩) := hb9.cell 1
  have n2 : w9.cell? ⟨w.heap.size, 2, none⟩ = some (.int .i64 (0)) := hb9.cell 2
  have n3 : w9.cell? ⟨w.heap.size, 3, none⟩ = some (.int .i64 (0)) := hb9.cell 3
  have n4 : w9.cell? ⟨w.heap.size, 4, none⟩ = some (.slice none 0 0) := hb9.cell 4
  refine bodyPost_ret (v := .tuple #[zeroNode, (E .bound)]) (by simp [results, Tryz.results118, go_sem, n0, n1, n2, n3, n4, zeroNode]) rfl ?_
  rw [Hr.out]
  exact ⟨hc9.drew, rfl⟩
 have h8' : ¬ (8000 : Int) < s.size := by omega
 have hs : s.size ≤ 8000 := by omega
 go_enter Tryz.func118, Tryz.ntmps118
 go_wp2_with fail
 generalize hw1 : (w.alloc _).alloc _ = w1
 have hc1 : Chg NoB w w1 := by
  rw [← hw1]
  repeat (first | exact Chg.refl _ _ | apply Chg.alloc | apply Chg.drew)
 have hb1 : Blk w1 (w.heap.size) (ndCells 0 ⟨#[]⟩ 0 0 (.slice none 0 0)) 28 := by
  rw [← hw1]
  repeat (first | exact Blk.newAt (by first | rfl | (simp; done) | (simp; omega)) | apply Blk.alloc | apply Blk.drew)
 have hr1 : Blk w1 (w.heap.size + 1) ([.string s, .int .i64 ((0 : Nat) : Int), .string ⟨#[]⟩]) 205 := by
  rw [← hw1]
  repeat (first | exact Blk.newAt (by first | rfl | (simp; done) | (simp; omega)) | apply Blk.alloc | apply Blk.drew)
 clear hw1
 refine (next_any (w.heap.size + 1) s ⟨#[]⟩ 0 w1 hr1 hbig (Nat.zero_le _)).mono ?_
 rintro en w2 ⟨rfl, hrd2, hc2⟩
 rw [show (0 : Nat) + (⟨#[]⟩ : ByteArray).size = 0 from rfl, List.drop_zero] at hrd2
 have hne : w.heap.size ≠ w.heap.size + 1 := by omega
 have hb2 := hb1.keep hc2 hne
 have hc02 : Chg NoB w w2 := hc1.trans' hc2 (by intro b e; have e : b = w.heap.size + 1 := e; omega)
 have hG2 := hG.keep0 hc02
 clear hc2 hb1 hr1
 obtain ⟨rest, hrest⟩ : ∃ rest, rest = skipW s.data.toList := ⟨_, rfl⟩
 rw [← hrest] at hrd2
 have hrl : rest.length ≤ 8000 := by
  have h1 := hrd2.1.length_le
  rw [length_data] at h1
  omega
 have hspec : readF s = match parseL 2 rest with
   | .bad e q => .bad e q
   | .ok l q => if tok q = [] then (match validF (.mk 0 rootName 1 0 l) with
    | none => .ok (.mk 0 rootName 1 0 l)
    | some e => .er e) else .bad .text q := by
  unfold readF
  rw [if_neg h8, ← hrest]
 have Hspec := Lib.hid hspec
 clear hspec hrest
 go_wp2_with fail
 refine (nodes_any E w.heap.size (w.heap.size + 1) s (by omega) hs 5 2 rest w2 (by omega) (by omega) (by omega) hG2 hrd2).mono ?_
 rintro en w3 ⟨hc3, hm3⟩
 have hb3 := hb2.keep hc3 hne
 have hsz2 := hc02.size
 have hc03 : Chg NoB w w3 := hc02.trans' hc3 (by intro b e; have e : b = w.heap.size + 1 := e; omega)
 have hpok := parse_ok rest.length 2 rest
 cases hpar : parseL 2 rest with
 | bad e q =>
  rw [hpar] at hm3
  obtain ⟨v, rfl, hf3⟩ := hm3
  have hf3' := hf3
  obtain ⟨p3, rfl, hp3⟩ := hf3'
  have hr := Hspec.out
  rw [hpar] at hr
  have Hr := Lib.hid hr
  clear hr hpar hpok
  have x0 : w3.cell? ⟨w.heap.size, 0, none⟩ = some (.int .i64 (0)) := hb3.cell 0
  have x1 : w3.cell? ⟨w.heap.size, 1, none⟩ = some (.string ⟨#[]⟩) := hb3.cell 1
  have x2 : w3.cell? ⟨w.heap.size, 2, none⟩ = some (.int .i64 (0)) := hb3.cell 2
  have x3 : w3.cell? ⟨w.heap.size, 3, none⟩ = some (.int .i64 (0)) := hb3.cell 3
  have x4 : w3.cell? ⟨w.heap.size, 4, none⟩ = some (.slice none 0 0) := hb3.cell 4
  have z0 : w3.frozen? ⟨w.heap.size, 0, none⟩ = false := hb3.free 0
  have z1 : w3.frozen? ⟨w.heap.size, 1, none⟩ = false := hb3.free 1
  have z2 : w3.frozen? ⟨w.heap.size, 2, none⟩ = false := hb3.free 2
  have z3 : w3.frozen? ⟨w.heap.size, 3, none⟩ = false := hb3.free 3
  have z4 : w3.frozen? ⟨w.heap.size, 4, none⟩ = false := hb3.free 4
  go_wp2_with fail
  have hpnb : p3 ≠ w.heap.size := by
   intro e
   subst e
   have h1 := hb3
   unfold Blk at h1 hp3
   rw [h1] at hp3
   simp only [Option.some.injEq, Obj.cells.injEq] at hp3
   exact absurd hp3.2.1 (by decide)
  have hf9 := store5_other hp3 hpnb (.int .i64 0) (.string ⟨#[]⟩) (.int .i64 0) (.int .i64 0) (.slice none 0 0)
  have hb9 := store5 hb3 (.int .i64 0) (.string ⟨#[]⟩) (.int .i64 0) (.int .i64 0) (.slice none 0 0)
  have hc9 := hc03.trans' (store5_chg w3 w.heap.size (.int .i64 0) (.string ⟨#[]⟩) (.int .i64 0) (.int .i64 0) (.slice none 0 0)) (fun b e => Nat.le_of_eq (Eq.symm e))
  generalize World.setCell (World.setCell (World.setCell (World.setCell (World.setCell w3 ⟨w.heap.size, 0, none⟩ (.int .i64 0)) ⟨w.heap.size, 1, none⟩ (.string ⟨#[]⟩)) ⟨w.heap.size, 2, none⟩ (.int .i64 0)) ⟨w.heap.size, 3, none⟩ (.int .i64 0)) ⟨w.heap.size, 4, none⟩ (.slice none 0 0) = w9 at *
  have n0 : w9.cell? ⟨w.heap.size, 0, none⟩ = some (.int .i64 (0)) := hb9.cell 0
  have n1 : w9.cell? ⟨w.heap.size, 1, none⟩ = some (.string ⟨#[]⟩) := hb9.cell 1
  have n2 : w9.cell? ⟨w.heap.size, 2, none⟩ = some (.int .i64 (0)) := hb9.cell 2
  have n3 : w9.cell? ⟨w.heap.size, 3, none⟩ = some (.int .i64 (0)) := hb9.cell 3
  have n4 : w9.cell? ⟨w.heap.size, 4, none⟩ = some (.slice none 0 0) := hb9.cell 4
  refine bodyPost_ret (v := .tuple #[zeroNode, (.iface 66 (.pointer (some ⟨p3, 0, none⟩)))]) (by simp [results, Tryz.results118, go_sem, n0, n1, n2, n3, n4, zeroNode]) rfl ?_
  rw [Hr.out]
  exact ⟨hc9, _, rfl, p3, rfl, hf9⟩
 | ok l q =>
  rw [hpar] at hm3
  obtain ⟨v, rfl, ho3, hrd3⟩ := hm3
  obtain ⟨a3, cap3, rfl, _, _⟩ := ho3.form
  obtain ⟨hoks, hll⟩ := hpok l q (Nat.le_refl _) hrl hpar
  have wd := rd_word hrd3
  by_cases ht : tok q = []
  ·have hr := Hspec.out
   rw [hpar] at hr
   simp only [if_pos ht] at hr
   have Hr := Lib.hid hr
   have ht' : (tok q).isEmpty = true := by rw [ht]; rfl
   clear hr hpar hpok ht
   go_wp2_with fail
   generalize hw4 : w3.alloc _ = w4
   have hc4 : Chg NoB w3 w4 := by
    rw [← hw4]
    repeat (first | exact Chg.refl _ _ | apply Chg.alloc | apply Chg.drew)
   have hroot4 : Blk w4 (w3.heap.size) ([.int .i64 0, .string ⟨#[114, 111, 111, 116]⟩, .int .i64 1, .int .i64 0, .slice a3 l.length cap3]) 28 := by
    rw [← hw4]
    repeat (first | exact Blk.newAt (by first | rfl | (simp; done) | (simp; omega)) | apply Blk.alloc | apply Blk.drew)
   clear hw4
   have hsz3 := hc03.size
   have hsz32 := hc3.size
   have hc04 := hc03.tr hc4
   have hlow : w.heap.size < w3.heap.size := hb3.lt
   have hrd0 : Reads w3 (fun b => w2.heap.size ≤ b ∧ b < w3.heap.size) (.list 5 (Nd.dts l)) [.slice a3 l.length cap3] := (ho3.reads (S' := fun b => w2.heap.size ≤ b) (fun b h _ => h)).lt
   have hnd : Reads w4 (fun b => w2.heap.size ≤ b ∧ b < w3.heap.size) (Nd.dt (.mk 0 rootName 1 0 l)) [.int .i64 0, .string ⟨#[114, 111, 111, 116]⟩, .int .i64 1, .int .i64 0, .slice a3 l.length cap3] := reads_nd.2 ⟨_, rfl, hrd0.chg0 hc4⟩
   have hok : (Nd.mk 0 rootName 1 0 l).ok := ⟨⟨by decide, by decide⟩, by decide, ⟨by decide, by decide⟩, ⟨by decide, by decide⟩, by unfold reach; omega, hoks⟩
   refine (valid_any (.mk 0 rootName 1 0 l) w4 (fun b => w2.heap.size ≤ b ∧ b < w3.heap.size) _ E (hG.keep0 hc04).errs hok hnd (fun b hb => by have := hc4.size; omega)).mono ?_
   rintro en w5 ⟨rfl, hc5⟩
   have hroot5 := hroot4.keep hc5 nbE
   have hc05 := hc04.tr hc5
   have hb5 := (hb3.keep hc4 nbE).keep hc5 nbE
   have hnd5 := hnd.chg0 hc5
   have x0 : w5.cell? ⟨w.heap.size, 0, none⟩ = some (.int .i64 (0)) := hb5.cell 0
   have x1 : w5.cell? ⟨w.heap.size, 1, none⟩ = some (.string ⟨#[]⟩) := hb5.cell 1
   have x2 : w5.cell? ⟨w.heap.size, 2, none⟩ = some (.int .i64 (0)) := hb5.cell 2
   have x3 : w5.cell? ⟨w.heap.size, 3, none⟩ = some (.int .i64 (0)) := hb5.cell 3
   have x4 : w5.cell? ⟨w.heap.size, 4, none⟩ = some (.slice none 0 0) := hb5.cell 4
   have z0 : w5.frozen? ⟨w.heap.size, 0, none⟩ = false := hb5.free 0
   have z1 : w5.frozen? ⟨w.heap.size, 1, none⟩ = false := hb5.free 1
   have z2 : w5.frozen? ⟨w.heap.size, 2, none⟩ = false := hb5.free 2
   have z3 : w5.frozen? ⟨w.heap.size, 3, none⟩ = false := hb5.free 3
   have z4 : w5.frozen? ⟨w.heap.size, 4, none⟩ = false := hb5.free 4
   have o0 : w5.cell? ⟨w3.heap.size, 0, none⟩ = some (.int .i64 (0)) := hroot5.cell 0
   have o1 : w5.cell? ⟨w3.heap.size, 1, none⟩ = some (.string ⟨#[114, 111, 111, 116]⟩) := hroot5.cell 1
   have o2 : w5.cell? ⟨w3.heap.size, 2, none⟩ = some (.int .i64 (1)) := hroot5.cell 2
   have o3 : w5.cell? ⟨w3.heap.size, 3, none⟩ = some (.int .i64 (0)) := hroot5.cell 3
   have o4 : w5.cell? ⟨w3.heap.size, 4, none⟩ = some (.slice a3 l.length cap3) := hroot5.cell 4
   have hr := Hr.out
   cases hv : validF (.mk 0 rootName 1 0 l) with
   | none =>
    rw [hv] at hr
    have Hr2 := Lib.hid hr
    rw [show errVal E none = .nilIface from rfl]
    clear hr hv
    go_wp2_with fail
    have hb9 := store5 hb5 (.int .i64 0) (.string ⟨#[114, 111, 111, 116]⟩) (.int .i64 1) (.int .i64 0) (.slice a3 l.length cap3)
    have hk9 := store5_chg w5 w.heap.size (.int .i64 0) (.string ⟨#[114, 111, 111, 116]⟩) (.int .i64 1) (.int .i64 0) (.slice a3 l.length cap3)
    have hlt2 := hb2.lt
    have hnd9 := ((ho3.keep hc4 (fun _ _ _ => nbE)).keep hc5 (fun _ _ _ => nbE)).keep hk9 (fun b hb _ e => by have e : b = w.heap.size := e; omega)
    have hc9 := hc05.trans' hk9 (fun b e => Nat.le_of_eq (Eq.symm e))
    clear hk9
    generalize World.setCell (World.setCell (World.setCell (World.setCell (World.setCell w5 ⟨w.heap.size, 0, none⟩ (.int .i64 0)) ⟨w.heap.size, 1, none⟩ (.string ⟨#[114, 111, 111, 116]⟩)) ⟨w.heap.size, 2, none⟩ (.int .i64 1)) ⟨w.heap.size, 3, none⟩ (.int .i64 0)) ⟨w.heap.size, 4, none⟩ (.slice a3 l.length cap3) = w9 at *
    have n0 : w9.cell? ⟨w.heap.size, 0, none⟩ = some (.int .i64 (0)) := hb9.cell 0
    have n1 : w9.cell? ⟨w.heap.size, 1, none⟩ = some (.string ⟨#[114, 111, 111, 116]⟩) := hb9.cell 1
    have n2 : w9.cell? ⟨w.heap.size, 2, none⟩ = some (.int .i64 (1)) := hb9.cell 2
    have n3 : w9.cell? ⟨w.heap.size, 3, none⟩ = some (.int .i64 (0)) := hb9.cell 3
    have n4 : w9.cell? ⟨w.heap.size, 4, none⟩ = some (.slice a3 l.length cap3) := hb9.cell 4
    refine bodyPost_ret (v := .tuple #[.agg #[.int .i64 0, .string ⟨#[114, 111, 111, 116]⟩, .int .i64 1, .int .i64 0, .slice a3 l.length cap3], .nilIface]) (by simp [results, Tryz.results118, go_sem, n0, n1, n2, n3, n4]) rfl ?_
    rw [Hr2.out]
    obtain ⟨F9, k1, k2, _⟩ := hnd9
    exact ⟨hc9, _, F9, rfl, trN.2 ⟨_, rfl, k1.mono hsz2⟩, k2⟩
   | some e =>
    rw [hv] at hr
    have Hr2 := Lib.hid hr
    obtain ⟨T, v, hEv⟩ := hG.errs.form e
    rw [show errVal E (some e) = .iface T v from hEv]
    have HE := Lib.hid hEv
    clear hr hv hEv
    go_wp2_with fail
    have hb9 := store5 hb5 (.int .i64 0) (.string ⟨#[]⟩) (.int .i64 0) (.int .i64 0) (.slice none 0 0)
    have hc9 := hc05.trans' (store5_chg w5 w.heap.size (.int .i64 0) (.string ⟨#[]⟩) (.int .i64 0) (.int .i64 0) (.slice none 0 0)) (fun b e => Nat.le_of_eq (Eq.symm e))
    generalize World.setCell (World.setCell (World.setCell (World.setCell (World.setCell w5 ⟨w.heap.size, 0, none⟩ (.int .i64 0)) ⟨w.heap.size, 1, none⟩ (.string ⟨#[]⟩)) ⟨w.heap.size, 2, none⟩ (.int .i64 0)) ⟨w.heap.size, 3, none⟩ (.int .i64 0)) ⟨w.heap.size, 4, none⟩ (.slice none 0 0) = w9 at *
    have n0 : w9.cell? ⟨w.heap.size, 0, none⟩ = some (.int .i64 (0)) := hb9.cell 0
    have n1 : w9.cell? ⟨w.heap.size, 1, none⟩ = some (.string ⟨#[]⟩) := hb9.cell 1
    have n2 : w9.cell? ⟨w.heap.size, 2, none⟩ = some (.int .i64 (0)) := hb9.cell 2
    have n3 : w9.cell? ⟨w.heap.size, 3, none⟩ = some (.int .i64 (0)) := hb9.cell 3
    have n4 : w9.cell? ⟨w.heap.size, 4, none⟩ = some (.slice none 0 0) := hb9.cell 4
    refine bodyPost_ret (v := .tuple #[zeroNode, (.iface T v)]) (by simp [results, Tryz.results118, go_sem, n0, n1, n2, n3, n4, zeroNode]) rfl ?_
    rw [Hr2.out]
    exact ⟨hc9, congrArg (fun x => Ending.returned (.tuple #[zeroNode, x])) HE.out.symm⟩
  ·have hr := Hspec.out
   rw [hpar] at hr
   simp only [if_neg ht] at hr
   have Hr := Lib.hid hr
   have ht' : (tok q).isEmpty = false := by simpa using ht
   have hG3 := hG.keep0 hc03
   have g3 := hG3.errs.cell .text
   simp only [Er.g] at g3
   clear hr hpar hpok ht
   go_wp2_with fail
   refine (fault_rd (w.heap.size + 1) s q w3 (E .text) hrd3 (hG.errs.form .text)).mono ?_
   rintro en w4 ⟨v4, rfl, ⟨p4, rfl, hp4⟩, hc4⟩
   have hb4 := hb3.keep hc4 nbE
   have hc04 := hc03.tr hc4
   have x0 : w4.cell? ⟨w.heap.size, 0, none⟩ = some (.int .i64 (0)) := hb4.cell 0
   have x1 : w4.cell? ⟨w.heap.size, 1, none⟩ = some (.string ⟨#[]⟩) := hb4.cell 1
   have x2 : w4.cell? ⟨w.heap.size, 2, none⟩ = some (.int .i64 (0)) := hb4.cell 2
   have x3 : w4.cell? ⟨w.heap.size, 3, none⟩ = some (.int .i64 (0)) := hb4.cell 3
   have x4 : w4.cell? ⟨w.heap.size, 4, none⟩ = some (.slice none 0 0) := hb4.cell 4
   have z0 : w4.frozen? ⟨w.heap.size, 0, none⟩ = false := hb4.free 0
   have z1 : w4.frozen? ⟨w.heap.size, 1, none⟩ = false := hb4.free 1
   have z2 : w4.frozen? ⟨w.heap.size, 2, none⟩ = false := hb4.free 2
   have z3 : w4.frozen? ⟨w.heap.size, 3, none⟩ = false := hb4.free 3
   have z4 : w4.frozen? ⟨w.heap.size, 4, none⟩ = false := hb4.free 4
   go_wp2_with fail
   have hpnb : p4 ≠ w.heap.size := by
    intro e
    subst e
    have h1 := hb4
    unfold Blk at h1 hp4
    rw [h1] at hp4
    simp only [Option.some.injEq, Obj.cells.injEq] at hp4
    exact absurd hp4.2.1 (by decide)
   have hf9 := store5_other hp4 hpnb (.int .i64 0) (.string ⟨#[]⟩) (.int .i64 0) (.int .i64 0) (.slice none 0 0)
   have hb9 := store5 hb4 (.int .i64 0) (.string ⟨#[]⟩) (.int .i64 0) (.int .i64 0) (.slice none 0 0)
   have hc9 := hc04.trans' (store5_chg w4 w.heap.size (.int .i64 0) (.string ⟨#[]⟩) (.int .i64 0) (.int .i64 0) (.slice none 0 0)) (fun b e => Nat.le_of_eq (Eq.symm e))
   generalize World.setCell (World.setCell (World.setCell (World.setCell (World.setCell w4 ⟨w.heap.size, 0, none⟩ (.int .i64 0)) ⟨w.heap.size, 1, none⟩ (.string ⟨#[]⟩)) ⟨w.heap.size, 2, none⟩ (.int .i64 0)) ⟨w.heap.size, 3, none⟩ (.int .i64 0)) ⟨w.heap.size, 4, none⟩ (.slice none 0 0) = w9 at *
   have n0 : w9.cell? ⟨w.heap.size, 0, none⟩ = some (.int .i64 (0)) := hb9.cell 0
   have n1 : w9.cell? ⟨w.heap.size, 1, none⟩ = some (.string ⟨#[]⟩) := hb9.cell 1
   have n2 : w9.cell? ⟨w.heap.size, 2, none⟩ = some (.int .i64 (0)) := hb9.cell 2
   have n3 : w9.cell? ⟨w.heap.size, 3, none⟩ = some (.int .i64 (0)) := hb9.cell 3
   have n4 : w9.cell? ⟨w.heap.size, 4, none⟩ = some (.slice none 0 0) := hb9.cell 4
   refine bodyPost_ret (v := .tuple #[zeroNode, (.iface 66 (.pointer (some ⟨p4, 0, none⟩)))]) (by simp [results, Tryz.results118, go_sem, n0, n1, n2, n3, n4, zeroNode]) rfl ?_
   rw [Hr.out]
   exact ⟨hc9, _, rfl, p4, rfl, hf9⟩
def Right (n : Nd) : Prop := 1 ≤ n.rep ∧ n.rep ≤ 3 ∧ 0 ≤ n.kind ∧ n.kind ≤ 5 ∧ (n.kind ≠ 0 → n.sub = []) ∧ (n.kind = 0 → n.sub ≠ []) ∧ isNameB n.name = true ∧ 1 ≤ n.id ∧ n.id ≤ 1000
mutual
def Nd.All (P : Nd → Prop) : Nd → Prop
 | .mk i n r k s => P (.mk i n r k s) ∧ Nd.Alls P s
def Nd.Alls (P : Nd → Prop) : List Nd → Prop
 | [] => True
 | n :: ns => n.All P ∧ Nd.Alls P ns
end
mutual
theorem walk_all {σ : Type} {f : Nd → Int → σ → Bool × σ} {P : Nd → Prop} (hP : ∀ n d s, 1 ≤ d → (f n d s).1 = true → P n) : ∀ (n : Nd) (d : Int) (s : σ), 1 ≤ d → (walkF f n d s).1 = true → n.All P
 | .mk i nm r k sb, d, s, hd, h => by
  have h1 := hP (.mk i nm r k sb) d s hd
  simp only [walkF] at h
  rcases hf : f (.mk i nm r k sb) d s with ⟨b, s'⟩
  rw [hf] at h h1
  cases b
  ·cases h
  ·exact ⟨h1 rfl, walk_alls hP sb (d + 1) s' (by omega) h⟩
theorem walk_alls {σ : Type} {f : Nd → Int → σ → Bool × σ} {P : Nd → Prop} (hP : ∀ n d s, 1 ≤ d → (f n d s).1 = true → P n) : ∀ (l : List Nd) (d : Int) (s : σ), 1 ≤ d → (walkFs f l d s).1 = true → Nd.Alls P l
 | [], d, s, hd, h => trivial
 | n :: ns, d, s, hd, h => by
  simp only [walkFs] at h
  rcases hf : walkF f n d s with ⟨b, s'⟩
  rw [hf] at h
  cases b
  ·cases h
  ·exact ⟨walk_all hP n d s hd (by rw [hf]), walk_alls hP ns d s' hd h⟩
end
theorem walk_root {σ : Type} {f : Nd → Int → σ → Bool × σ} {P : Nd → Prop} (hP : ∀ n d s, 1 ≤ d → (f n d s).1 = true → P n) (n : Nd) (s : σ) (h : (walkF f n 0 s).1 = true) : Nd.Alls P n.sub ∧ (f n 0 s).1 = true := by
 obtain ⟨i, nm, r, k, sb⟩ := n
 simp only [walkF] at h
 rcases hf : f (.mk i nm r k sb) 0 s with ⟨b, s'⟩
 rw [hf] at h
 cases b
 ·cases h
 ·exact ⟨walk_alls hP sb 1 s' (by omega) h, rfl⟩
mutual
theorem Nd.All.and {P Q : Nd → Prop} : ∀ (n : Nd), n.All P → n.All Q → n.All (fun n => P n ∧ Q n)
 | .mk i n r k s, h, g => ⟨⟨h.1, g.1⟩, Nd.Alls.and s h.2 g.2⟩
theorem Nd.Alls.and {P Q : Nd → Prop} : ∀ (l : List Nd), Nd.Alls P l → Nd.Alls Q l → Nd.Alls (fun n => P n ∧ Q n) l
 | [], h, g => trivial
 | n :: ns, h, g => ⟨Nd.All.and n h.1 g.1, Nd.Alls.and ns h.2 g.2⟩
end
mutual
theorem Nd.All.imp {P Q : Nd → Prop} (hi : ∀ n, P n → Q n) : ∀ (n : Nd), n.All P → n.All Q
 | .mk i n r k s, h => ⟨hi _ h.1, Nd.Alls.imp hi s h.2⟩
theorem Nd.Alls.imp {P Q : Nd → Prop} (hi : ∀ n, P n → Q n) : ∀ (l : List Nd), Nd.Alls P l → Nd.Alls Q l
 | [], h => trivial
 | n :: ns, h => ⟨Nd.All.imp hi n h.1, Nd.Alls.imp hi ns h.2⟩
end
mutual
theorem names_all : ∀ (n : Nd), n.All (fun x => namesB x.sub = true) → Nd.Alls (fun x => isNameB x.name = true) n.sub
 | .mk i n r k s, h => names_alls s h.2 (by
  have h1 : namesB s = true := h.1
  unfold namesB at h1
  rw [Bool.and_eq_true] at h1
  exact fun x hx => List.all_eq_true.1 h1.1 x hx)
theorem names_alls : ∀ (l : List Nd), Nd.Alls (fun x => namesB x.sub = true) l → (∀ x ∈ l, isNameB x.name = true) → Nd.Alls (fun x => isNameB x.name = true) l
 | [], h, g => trivial
 | .mk i n r k s :: ns, h, g => ⟨⟨g _ (List.mem_cons_self ..), names_all (.mk i n r k s) h.1⟩, names_alls ns h.2 (fun x hx => g x (List.mem_cons_of_mem _ hx))⟩
end
structure Schema (nd : Nd) : Prop where
 root : nd = .mk 0 rootName 1 0 nd.sub
 right : Nd.Alls Right nd.sub
 high : nd.high ≤ 6
 small : nd.weigh ≤ 40
mutual
theorem v1_count : ∀ (n : Nd) (d s : Int), (walkF v1F n d s).1 = true → (walkF v1F n d s).2 = s + n.weigh ∧ s + n.weigh ≤ 40
 | .mk i nm r k sb, d, s, h => by
  simp only [walkF] at h ⊢
  rcases hf : v1F (.mk i nm r k sb) d s with ⟨b, s'⟩
  rw [hf] at h
  cases b
  ·cases h
  ·simp only [v1F, Prod.mk.injEq, Bool.and_eq_true, decide_eq_true_eq] at hf
   have h1 := v1_counts sb (d + 1) s' h
   simp only [Nd.weigh]
   refine ⟨by rw [h1.1]; omega, ?_⟩
   rcases h1.2 with h2 | h2
   ·omega
   ·subst h2; simp only [Nd.weighs]; omega
theorem v1_counts : ∀ (l : List Nd) (d s : Int), (walkFs v1F l d s).1 = true → (walkFs v1F l d s).2 = s + Nd.weighs l ∧ (s + Nd.weighs l ≤ 40 ∨ l = [])
 | [], d, s, h => ⟨by simp [walkFs, Nd.weighs], .inr rfl⟩
 | n :: ns, d, s, h => by
  simp only [walkFs] at h ⊢
  rcases hf : walkF v1F n d s with ⟨b, s'⟩
  rw [hf] at h
  cases b
  ·cases h
  ·have h0 := v1_count n d s (by rw [hf])
   rw [hf] at h0
   have h1 := v1_counts ns d s' h
   simp only [Nd.weighs]
   have e0 : s' = s + n.weigh := h0.1
   refine ⟨by rw [h1.1]; omega, .inl ?_⟩
   rcases h1.2 with h2 | h2
   ·omega
   ·subst h2; simp only [Nd.weighs]; omega
end
theorem schema_of_valid {nd : Nd} (h : validF nd = none) : Schema nd := by
 unfold validF at h
 split at h
 ·cases h
 rename_i h1
 split at h
 ·cases h
 rename_i h2
 split at h
 ·cases h
 rename_i h3
 split at h
 ·cases h
 rename_i h4
 split at h
 ·cases h
 rename_i h5
 rw [Bool.not_eq_false] at h1 h2 h3 h4 h5
 have hh := v1_high nd 1 0 h1
 have hc := v1_count nd 1 0 h1
 have a3 := (walk_root (P := fun n => (v3F n ()).1 = true) (fun n d s hd hf => by simp only [allF, if_neg (show ¬ d = 0 by omega)] at hf; exact hf) nd () h3).1
 have a4 := walk_root (P := fun n => namesB n.sub = true) (fun n d s hd hf => hf) nd () h4
 have a5 := (walk_root (P := fun n => 1 ≤ n.id ∧ n.id ≤ 1000) (fun n d s hd hf => by
  simp only [allF, if_neg (show ¬ d = 0 by omega), v5F, Bool.and_eq_true, decide_eq_true_eq] at hf
  exact hf.1) nd [] h5).1
 obtain ⟨i, nm, r, k, sb⟩ := nd
 have a6 := names_all (.mk i nm r k sb) ⟨a4.2, a4.1⟩
 refine ⟨?_, ?_, by omega, by omega⟩
 ·unfold rootB at h2
  rw [Bool.and_eq_true, Bool.and_eq_true, Bool.and_eq_true, Bool.and_eq_true] at h2
  obtain ⟨⟨⟨⟨e1, e2⟩, e3⟩, e4⟩, _⟩ := h2
  have q1 : i = 0 := of_decide_eq_true e1
  have q2 : nm = rootName := of_decide_eq_true e2
  have q3 : r = 1 := of_decide_eq_true e3
  have q4 : k = 0 := of_decide_eq_true e4
  show Nd.mk i nm r k sb = Nd.mk 0 rootName 1 0 sb
  rw [q1, q2, q3, q4]
 ·refine Nd.Alls.imp ?_ _ (Nd.Alls.and _ a3 (Nd.Alls.and _ a6 a5))
  rintro n ⟨h1, h2, h3, h4⟩
  simp only [v3F, Bool.and_eq_true, decide_eq_true_eq, beq_iff_eq] at h1
  obtain ⟨⟨⟨⟨b1, b2⟩, b3⟩, b4⟩, b5⟩ := h1
  refine ⟨b1, b2, b3, b4, fun hk => ?_, fun hk => ?_, h2, h3, h4⟩
  ·simp only [hk, decide_false, Bool.not_false] at b5
   exact List.isEmpty_iff.1 b5.symm
  ·simp only [hk, decide_true, Bool.not_true] at b5
   intro e
   rw [e] at b5
   cases b5
theorem skip_ws {c : UInt8} (h : c = 32 ∨ c = 10) (l : List UInt8) : skipW (c :: l) = skipW l := by
 unfold skipW
 rw [List.dropWhile_cons, if_pos (by rcases h with rfl | rfl <;> rfl)]
theorem skip_at {c : UInt8} (h : c ≠ 32 ∧ c ≠ 10) (l : List UInt8) : skipW (c :: l) = c :: l := by
 unfold skipW
 rw [List.dropWhile_cons, if_neg]
 simp [h.1, h.2]
theorem skip_ind : ∀ (ind : List UInt8) (l : List UInt8), (∀ c ∈ ind, c = 32) → skipW (ind ++ l) = skipW l
 | [], l, h => rfl
 | c :: cs, l, h => by
  rw [List.cons_append, skip_ws (.inl (h c (List.mem_cons_self ..))), skip_ind cs l (fun x hx => h x (List.mem_cons_of_mem _ hx))]
def Soft (l : List UInt8) : Prop := ∀ c, l.head? = some c → lower c = false ∧ digits.contains c = false
theorem take_soft {p : UInt8 → Bool} {l : List UInt8} (h : ∀ c, l.head? = some c → p c = false) : l.takeWhile p = [] := by
 cases l with
 | nil => rfl
 | cons c r => rw [List.takeWhile_cons, h c rfl]; rfl
theorem lower_ne {c : UInt8} (h : lower c = true) : c.toNat ≠ 35 ∧ c ≠ 32 ∧ c ≠ 10 := by
 unfold lower at h
 have := of_decide_eq_true h
 refine ⟨by omega, ?_, ?_⟩
 ·rintro rfl; exact absurd this (by decide)
 ·rintro rfl; exact absurd this (by decide)
theorem nxt_of {w rest : List UInt8} (h : tok (w ++ rest) = w) : nxt (w ++ rest) = skipW rest := by
 unfold nxt
 rw [h, List.drop_left]
theorem tok_letters {c : UInt8} {cs rest : List UInt8} (h : ∀ x ∈ c :: cs, lower x = true) (hs : Soft rest) : tok ((c :: cs) ++ rest) = c :: cs := by
 have hc := h c (List.mem_cons_self ..)
 have h1 : ((c :: cs) ++ rest).takeWhile lower = c :: cs := by
  rw [List.takeWhile_append_of_pos h, take_soft (fun x hx => (hs x hx).1), List.append_nil]
 rw [List.cons_append] at h1 ⊢
 simp only [tok, if_neg (lower_ne hc).1, if_pos hc]
 exact h1
theorem tok_number {ds rest : List UInt8} (h : ∀ x ∈ ds, digits.contains x = true) (hs : Soft rest) : tok ((35 :: ds) ++ rest) = 35 :: ds := by
 have h1 : (ds ++ rest).takeWhile (digits.contains ·) = ds := by
  rw [List.takeWhile_append_of_pos h, take_soft (fun x hx => (hs x hx).2), List.append_nil]
 rw [List.cons_append]
 simp only [tok, if_pos (show (35 : UInt8).toNat = 35 from rfl)]
 rw [h1]
def dig4 (u : Nat) : List UInt8 :=
 if u < 10 then [UInt8.ofNat (48 + u)] else if u < 100 then [UInt8.ofNat (48 + u / 10), UInt8.ofNat (48 + u % 10)]
 else if u < 1000 then [UInt8.ofNat (48 + u / 10 / 10), UInt8.ofNat (48 + u / 10 % 10), UInt8.ofNat (48 + u % 10)]
 else [UInt8.ofNat (48 + u / 10 / 10 / 10), UInt8.ofNat (48 + u / 10 / 10 % 10), UInt8.ofNat (48 + u / 10 % 10), UInt8.ofNat (48 + u % 10)]
theorem dec_four (u : Nat) (h : u ≤ 1000) : Lib.decDigits u = dig4 u := by
 unfold dig4
 split
 ·exact Lib.decDigits_one (by assumption)
 split
 ·exact Lib.decDigits_two (by assumption) (by assumption)
 split
 ·rw [Lib.decDigits, dif_neg (by assumption), Lib.decDigits_two (by omega) (by omega)]; rfl
 ·rw [Lib.decDigits, dif_neg (by assumption), Lib.decDigits, dif_neg (by omega), Lib.decDigits_two (by omega) (by omega)]; rfl
theorem num_fin : ∀ p : Fin 1001, p.val = 0 ∨ (wordId (35 :: dig4 p.val) = some (p.val : Int) ∧ (dig4 p.val).all (digits.contains ·) = true) := by decide +kernel
theorem num_all {i : Int} (h1 : 1 ≤ i) (h2 : i ≤ 1000) : wordId (35 :: Lib.itoa i) = some i ∧ (∀ x ∈ Lib.itoa i, digits.contains x = true) ∧ (Lib.itoa i).length ≤ 4 := by
 obtain ⟨u, rfl⟩ := Int.eq_ofNat_of_zero_le (show 0 ≤ i by omega)
 have hu : Lib.itoa (u : Int) = dig4 u := by
  unfold Lib.itoa
  rw [if_neg (by omega), Int.toNat_natCast, dec_four u (by omega)]
 have := num_fin ⟨u, by omega⟩
 rw [hu]
 rcases this with h | ⟨h3, h4⟩
 ·simp only at h; omega
 ·refine ⟨h3, fun x hx => List.all_eq_true.1 h4 x hx, ?_⟩
  unfold dig4
  split
  ·simp
  ·split
   ·simp
   ·split <;> simp
theorem rep_fin : ∀ p : Fin 4, p.val = 0 ∨ (idxT repT (repS (p.val : Int)) = (p.val : Int) ∧ (repS (p.val : Int)).all lower = true ∧ (repS (p.val : Int)).isEmpty = false) := by decide +kernel
theorem kind_fin : ∀ p : Fin 6, idxT kindT (kindS (p.val : Int)) = (p.val : Int) ∧ (kindS (p.val : Int)).all lower = true ∧ (kindS (p.val : Int)).isEmpty = false := by decide +kernel
end Go.Proofs.YtgcmfpcgmkkobaaGreatDoor
