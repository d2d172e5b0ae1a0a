/-
  schema.Read.
-/
import Derived.Test.YtnmhkafpgohefaaGreatDoorNodes
set_option linter.unusedVariables false
set_option maxHeartbeats 20000000
set_option maxRecDepth 100000
set_option linter.unusedSimpArgs false
namespace Go.Proofs.YtnmhkafpgohefaaGreatDoor
open Go.RowKit
theorem idxFrom_bd (x : ByteArray) : ∀ (zs : List ByteArray) (i : Nat), -1 ≤ Lib.idxFromS zs x i ∧ Lib.idxFromS zs x i ≤ (i + zs.length : Nat)
 | [], i => by simp [Lib.idxFromS]
 | z :: zs, i => by
  have := idxFrom_bd x zs (i + 1)
  simp only [Lib.idxFromS]
  split
  ·simp; omega
  ·simp only [List.length_cons]; omega
theorem idxT_bd (l : List ByteArray) (w : List UInt8) : -1 ≤ idxT l w ∧ idxT l w ≤ l.length := by
 have := idxFrom_bd ⟨w.toArray⟩ l 0
 simpa [idxT, Lib.idxOfS] using this
theorem numOk_bd {w : List UInt8} {v : Int} (h : numOk w = some v) : I64 v := by
 unfold numOk at h
 split at h
 ·rename_i v' ha
  obtain rfl := Option.some.inj h
  unfold Lib.atoiAll at ha
  split at ha
  ·cases ha
  ·dsimp only at ha
   split at ha
   ·cases ha
   ·cases ha
   ·split at ha
    ·cases ha
    ·split at ha
     ·cases ha
     ·rename_i h1 h2
      injection ha with ha
      subst ha
      unfold I64
      split <;> omega
 ·cases h
theorem wordId_bd {w : List UInt8} {v : Int} (h : wordId w = some v) : I64 v := by
 unfold wordId at h
 split at h
 ·cases h
 ·split at h
  ·split at h
   ·cases h
   ·rename_i hn
    split at h
    ·cases h
    ·split at h
     ·cases h
     ·obtain rfl := Option.some.inj h
      exact numOk_bd hn
  ·cases h
theorem tok_size (l : List UInt8) (h : l.length ≤ 8000) : (⟨(tok l).toArray⟩ : ByteArray).size ≤ reach := by
 have := tok_le l
 show (tok l).length ≤ reach
 unfold reach
 omega
theorem head_leaf_ok {deep : Int} {rest q : List UInt8} {n : Nd} (hl : rest.length ≤ 8000) (h : headN deep rest = .leaf n q) : n.ok := by
 have h1 := nxt_le' rest
 have h2 := nxt_le' (nxt rest)
 unfold headN at h
 split at h
 ·cases h
 split at h
 ·cases h
 split at h
 ·cases h
 split at h
 ·cases h
 split at h
 ·cases h
 rename_i i hw
 split at h
 ·split at h
  ·cases h
  ·split at h <;> cases h
 ·split at h
  ·cases h
  ·cases h
   have a := idxT_bd repT (tok rest)
   have b := idxT_bd kindT (tok (nxt rest))
   have c : repT.length = 4 := rfl
   have d : kindT.length = 6 := rfl
   refine ⟨wordId_bd hw, tok_size _ (by omega), ⟨by omega, by omega⟩, ⟨by omega, by omega⟩, by simp [reach], trivial⟩
theorem head_group_ok {deep : Int} {rest q : List UInt8} {i p : Int} {nm : ByteArray} (hl : rest.length ≤ 8000) (h : headN deep rest = .group i nm p q) : I64 i ∧ nm.size ≤ reach ∧ I64 p := by
 have h1 := nxt_le' rest
 have h2 := nxt_le' (nxt rest)
 unfold headN at h
 split at h
 ·cases h
 split at h
 ·cases h
 split at h
 ·cases h
 split at h
 ·cases h
 split at h
 ·cases h
 rename_i i' hw
 split at h
 ·split at h
  ·cases h
  ·split at h
   ·cases h
   ·cases h
    have a := idxT_bd repT (tok rest)
    have c : repT.length = 4 := rfl
    exact ⟨wordId_bd hw, tok_size _ (by omega), ⟨by omega, by omega⟩⟩
 ·split at h <;> cases h
theorem PR.cons_eq {n : Nd} {p : PR} {l : List Nd} {q : List UInt8} (h : p.cons n = .ok l q) : ∃ l', l = n :: l' ∧ p = .ok l' q := by
 cases p with
 | ok l' r => simp only [PR.cons, PR.ok.injEq] at h; exact ⟨l', h.1.symm, by rw [h.2]⟩
 | bad e r => simp [PR.cons] at h
theorem parse_ok : ∀ (m : Nat) (deep : Int) (rest : List UInt8) (l : List Nd) (q : List UInt8), rest.length ≤ m → rest.length ≤ 8000 → parseL deep rest = .ok l q → Nd.oks l ∧ l.length + q.length ≤ rest.length := by
 intro m
 induction m using Nat.strongRecOn with
 | _ m ih =>
  intro deep rest l q hm h8 h
  cases hh : headN deep rest with
  | stop =>
   rw [parse_stop hh] at h
   cases h
   exact ⟨trivial, by simp⟩
  | bad e r => rw [parse_bad hh] at h; cases h
  | leaf n r =>
   rw [parse_leaf hh] at h
   have hlt := head_leaf hh
   obtain ⟨l', rfl, h'⟩ := PR.cons_eq h
   have := ih _ (by omega) deep _ _ _ (Nat.le_refl _) (by omega) h'
   exact ⟨⟨head_leaf_ok h8 hh, this.1⟩, by simp only [List.length_cons]; omega⟩
  | group i nm p r =>
   have hlt := (head_group hh).1
   cases hp : parseL (deep + 1) r with
   | bad e q2 => rw [parse_group_bad hh hp] at h; cases h
   | ok sub q2 =>
    by_cases h3 : tok q2 = [125]
    ·have h4 := parse_group hh hp h3
     rw [h4.1] at h
     obtain ⟨l', rfl, h'⟩ := PR.cons_eq h
     have h5 := ih _ (by omega) deep _ _ _ (Nat.le_refl _) (by omega) h'
     have h6 := ih _ (by omega) (deep + 1) _ _ _ (Nat.le_refl _) (by omega) hp
     have h7 := head_group_ok h8 hh
     refine ⟨⟨⟨h7.1, h7.2.1, h7.2.2, ⟨by omega, by omega⟩, ?_, h6.1⟩, h5.1⟩, ?_⟩
     ·unfold reach; omega
     ·have := h4.2; simp only [List.length_cons]; omega
    ·rw [parse_group_open hh hp h3] at h; cases h
theorem Chg.trans' {C D : Nat → Prop} {a b c : World} (h : Chg C a b) (k : Chg D b c) (hd : ∀ i, D i → a.heap.size ≤ i) : Chg C a c := h.trans k (fun i hi => .inr (hd i hi))
theorem store5 {w : World} {b : Nat} {c0 c1 c2 c3 c4 : Value} {t : TypeId} (h : Blk w b [c0, c1, c2, c3, c4] t) (v0 v1 v2 v3 v4 : Value) :
  Blk (World.setCell (World.setCell (World.setCell (World.setCell (World.setCell w ⟨b, 0, none⟩ v0) ⟨b, 1, none⟩ v1) ⟨b, 2, none⟩ v2) ⟨b, 3, none⟩ v3) ⟨b, 4, none⟩ v4) b [v0, v1, v2, v3, v4] t :=
 ((((h.set 0 v0).set 1 v1).set 2 v2).set 3 v3).set 4 v4
theorem store5_other {w : World} {b p : Nat} {cs : List Value} {t : TypeId} (h : Blk w p cs t) (hp : p ≠ b) (v0 v1 v2 v3 v4 : Value) :
  Blk (World.setCell (World.setCell (World.setCell (World.setCell (World.setCell w ⟨b, 0, none⟩ v0) ⟨b, 1, none⟩ v1) ⟨b, 2, none⟩ v2) ⟨b, 3, none⟩ v3) ⟨b, 4, none⟩ v4) p cs t :=
 ((((h.other (p := ⟨b, 0, none⟩) hp v0).other (p := ⟨b, 1, none⟩) hp v1).other (p := ⟨b, 2, none⟩) hp v2).other (p := ⟨b, 3, none⟩) hp v3).other (p := ⟨b, 4, none⟩) hp v4
theorem store5_chg (w : World) (b : Nat) (v0 v1 v2 v3 v4 : Value) :
  Chg (OneB b) w (World.setCell (World.setCell (World.setCell (World.setCell (World.setCell w ⟨b, 0, none⟩ v0) ⟨b, 1, none⟩ v1) ⟨b, 2, none⟩ v2) ⟨b, 3, none⟩ v3) ⟨b, 4, none⟩ v4) :=
 (((((Chg.refl (OneB b) w).setCell (p := ⟨b, 0, none⟩) (.inl rfl) v0).setCell (p := ⟨b, 1, none⟩) (.inl rfl) v1).setCell (p := ⟨b, 2, none⟩) (.inl rfl) v2).setCell (p := ⟨b, 3, none⟩) (.inl rfl) v3).setCell (p := ⟨b, 4, none⟩) (.inl rfl) v4
inductive RR where
 | ok (n : Nd)
 | er (e : Er)
 | bad (e : Er) (rest : List UInt8)
def readF (s : ByteArray) : RR :=
 if 8000 < s.size then .er .bound
 else match parseL 2 (skipW s.data.toList) with
 | .bad e q => .bad e q
 | .ok l q => if tok q = [] then (match validF (.mk 0 rootName 1 0 l) with
  | none => .ok (.mk 0 rootName 1 0 l)
  | some e => .er e) else .bad .text q
def zeroNode : Value := .agg #[.int .i64 0, .string ⟨#[]⟩, .int .i64 0, .int .i64 0, .slice none 0 0]
def RetReadT (E : Er → Value) (s : ByteArray) (p : RR) (w : World) (en : Ending) (w' : World) : Prop :=
 Chg NoB w w' ∧ match p with
 | .ok n => ∃ cs F, en = .returned (.tuple #[.agg cs.toArray, .nilIface]) ∧ TrN w' w.heap.size n cs F ∧ F.Nodup
 | .er e => en = .returned (.tuple #[zeroNode, E e])
 | .bad e q => ∃ v, en = .returned (.tuple #[zeroNode, v]) ∧ FaultAt w' (E e) (s.size - q.length) v
theorem read_tree (s : ByteArray) (w : World) (E : Er → Value) (hG : Glo w.heap.size E w) (hbig : s.size ≤ 9223372036854775807) :
  Calls Tryz.prog 127 #[.string s] w (RetReadT E s (readF s) w) := by
 by_cases h8 : 8000 < s.size
 ·have hr : readF s = .er .bound := by unfold readF; rw [if_pos h8]
  have Hr := Lib.hid hr
  have h8' : (8000 : Int) < s.size := by omega
  have g3 := hG.errs.cell .bound
  simp only [Er.g] at g3
  clear hr
  go_enter Tryz.func127, Tryz.ntmps127
  go_wp2_with fail
  generalize hw1 : w.alloc _ = w1
  have hc1 : Chg NoB w w1 := by
   rw [← hw1]
   repeat (first | exact Chg.refl _ _ | apply Chg.alloc | apply Chg.drew)
  have hb1 : Blk w1 (w.heap.size) (ndCells 0 ⟨#[]⟩ 0 0 (.slice none 0 0)) 56 := by
   rw [← hw1]
   repeat (first | exact Blk.newAt (by first | rfl | (simp; done) | (simp; omega)) | apply Blk.alloc | apply Blk.drew)
  clear hw1
  have hG1 := hG.keep0 hc1
  have g4 := hG1.errs.cell .bound
  simp only [Er.g] at g4
  refine wp_region_n (fun w' => w'.cell? ⟨0, 0, none⟩ = some (E .bound)) [3] (by kernel_rfl) ?_ (fun hSh => ?_)
  ·exact g4
  refine n_tA (v := ?_) 0 rfl (Or.inl ⟨by rfl, ?_⟩) ?_
  rotate_left 1
  ·(intro w' hSw; (try dsimp only at hSw); go_simp; try with_reducible rfl)
  simp only [Act.put, qA, qB, qC, qD, qE, qF]
  refine n_tA (v := ?_) 1 rfl (Or.inl ⟨by rfl, ?_⟩) ?_
  rotate_left 1
  ·(intro w' hSw; (try dsimp only at hSw); go_simp; try with_reducible rfl)
  simp only [Act.put, qA, qB, qC, qD, qE, qF]
  have x0 : w1.cell? ⟨w.heap.size, 0, none⟩ = some (.int .i64 (0)) := hb1.cell 0
  have x1 : w1.cell? ⟨w.heap.size, 1, none⟩ = some (.string ⟨#[]⟩) := hb1.cell 1
  have x2 : w1.cell? ⟨w.heap.size, 2, none⟩ = some (.int .i64 (0)) := hb1.cell 2
  have x3 : w1.cell? ⟨w.heap.size, 3, none⟩ = some (.int .i64 (0)) := hb1.cell 3
  have x4 : w1.cell? ⟨w.heap.size, 4, none⟩ = some (.slice none 0 0) := hb1.cell 4
  have z0 : w1.frozen? ⟨w.heap.size, 0, none⟩ = false := hb1.free 0
  have z1 : w1.frozen? ⟨w.heap.size, 1, none⟩ = false := hb1.free 1
  have z2 : w1.frozen? ⟨w.heap.size, 2, none⟩ = false := hb1.free 2
  have z3 : w1.frozen? ⟨w.heap.size, 3, none⟩ = false := hb1.free 3
  have z4 : w1.frozen? ⟨w.heap.size, 4, none⟩ = false := hb1.free 4
  refine n_step 2 rfl (by kernel_rfl) ?_
  go_wp2_with fail
  have hlt2 := lt_of_cell g3
  refine ⟨fun _ => ((store5_chg w1 w.heap.size _ _ _ _ _).drew.cell (lt_of_cell g4) (fun e => by have e : 0 = w.heap.size := e; simp only at hlt2; omega)).trans g4, fun hSk => ?_⟩
  refine n_step 3 rfl (by kernel_rfl) ?_
  go_wp2_with fail
  refine ⟨by kernel_rfl, ?_⟩
  go_wp2_with fail
  have hb9 := store5 hb1 (.int .i64 0) (.string ⟨#[]⟩) (.int .i64 0) (.int .i64 0) (.slice none 0 0)
  have hc9 := hc1.trans' (store5_chg w1 w.heap.size (.int .i64 0) (.string ⟨#[]⟩) (.int .i64 0) (.int .i64 0) (.slice none 0 0)) (fun b e => Nat.le_of_eq (Eq.symm e))
  generalize World.setCell (World.setCell (World.setCell (World.setCell (World.setCell w1 ⟨w.heap.size, 0, none⟩ (.int .i64 0)) ⟨w.heap.size, 1, none⟩ (.string ⟨#[]⟩)) ⟨w.heap.size, 2, none⟩ (.int .i64 0)) ⟨w.heap.size, 3, none⟩ (.int .i64 0)) ⟨w.heap.size, 4, none⟩ (.slice none 0 0) = w9 at *
  have n0 : w9.cell? ⟨w.heap.size, 0, none⟩ = some (.int .i64 (0)) := hb9.cell 0
  have n1 : w9.cell? ⟨w.heap.size, 1, none⟩ = some (.string ⟨#[]⟩) := hb9.cell 1
  have n2 : w9.cell? ⟨w.heap.size, 2, none⟩ = some (.int .i64 (0)) := hb9.cell 2
  have n3 : w9.cell? ⟨w.heap.size, 3, none⟩ = some (.int .i64 (0)) := hb9.cell 3
  have n4 : w9.cell? ⟨w.heap.size, 4, none⟩ = some (.slice none 0 0) := hb9.cell 4
  refine bodyPost_ret (v := .tuple #[zeroNode, (E .bound)]) (by simp [results, Tryz.results127, go_sem, n0, n1, n2, n3, n4, zeroNode]) rfl ?_
  rw [Hr.out]
  exact ⟨hc9.drew, rfl⟩
 have h8' : ¬ (8000 : Int) < s.size := by omega
 have hs : s.size ≤ 8000 := by omega
 go_enter Tryz.func127, Tryz.ntmps127
 go_wp2_with fail
 generalize hw1 : (w.alloc _).alloc _ = w1
 have hc1 : Chg NoB w w1 := by
  rw [← hw1]
  repeat (first | exact Chg.refl _ _ | apply Chg.alloc | apply Chg.drew)
 have hb1 : Blk w1 (w.heap.size) (ndCells 0 ⟨#[]⟩ 0 0 (.slice none 0 0)) 56 := by
  rw [← hw1]
  repeat (first | exact Blk.newAt (by first | rfl | (simp; done) | (simp; omega)) | apply Blk.alloc | apply Blk.drew)
 have hr1 : Blk w1 (w.heap.size + 1) ([.string s, .int .i64 ((0 : Nat) : Int), .string ⟨#[]⟩]) 242 := by
  rw [← hw1]
  repeat (first | exact Blk.newAt (by first | rfl | (simp; done) | (simp; omega)) | apply Blk.alloc | apply Blk.drew)
 clear hw1
 refine (next_any (w.heap.size + 1) s ⟨#[]⟩ 0 w1 hr1 hbig (Nat.zero_le _)).mono ?_
 rintro en w2 ⟨rfl, hrd2, hc2⟩
 rw [show (0 : Nat) + (⟨#[]⟩ : ByteArray).size = 0 from rfl, List.drop_zero] at hrd2
 have hne : w.heap.size ≠ w.heap.size + 1 := by omega
 have hb2 := hb1.keep hc2 hne
 have hc02 : Chg NoB w w2 := hc1.trans' hc2 (by intro b e; have e : b = w.heap.size + 1 := e; omega)
 have hG2 := hG.keep0 hc02
 clear hc2 hb1 hr1
 obtain ⟨rest, hrest⟩ : ∃ rest, rest = skipW s.data.toList := ⟨_, rfl⟩
 rw [← hrest] at hrd2
 have hrl : rest.length ≤ 8000 := by
  have h1 := hrd2.1.length_le
  rw [length_data] at h1
  omega
 have hspec : readF s = match parseL 2 rest with
   | .bad e q => .bad e q
   | .ok l q => if tok q = [] then (match validF (.mk 0 rootName 1 0 l) with
    | none => .ok (.mk 0 rootName 1 0 l)
    | some e => .er e) else .bad .text q := by
  unfold readF
  rw [if_neg h8, ← hrest]
 have Hspec := Lib.hid hspec
 clear hspec hrest
 go_wp2_with fail
 refine (nodes_any E w.heap.size (w.heap.size + 1) s (by omega) hs 5 2 rest w2 (by omega) (by omega) (by omega) hG2 hrd2).mono ?_
 rintro en w3 ⟨hc3, hm3⟩
 have hb3 := hb2.keep hc3 hne
 have hsz2 := hc02.size
 have hc03 : Chg NoB w w3 := hc02.trans' hc3 (by intro b e; have e : b = w.heap.size + 1 := e; omega)
 have hpok := parse_ok rest.length 2 rest
 cases hpar : parseL 2 rest with
 | bad e q =>
  rw [hpar] at hm3
  obtain ⟨v, rfl, hf3⟩ := hm3
  have hf3' := hf3
  obtain ⟨p3, rfl, hp3⟩ := hf3'
  have hr := Hspec.out
  rw [hpar] at hr
  have Hr := Lib.hid hr
  clear hr hpar hpok
  have x0 : w3.cell? ⟨w.heap.size, 0, none⟩ = some (.int .i64 (0)) := hb3.cell 0
  have x1 : w3.cell? ⟨w.heap.size, 1, none⟩ = some (.string ⟨#[]⟩) := hb3.cell 1
  have x2 : w3.cell? ⟨w.heap.size, 2, none⟩ = some (.int .i64 (0)) := hb3.cell 2
  have x3 : w3.cell? ⟨w.heap.size, 3, none⟩ = some (.int .i64 (0)) := hb3.cell 3
  have x4 : w3.cell? ⟨w.heap.size, 4, none⟩ = some (.slice none 0 0) := hb3.cell 4
  have z0 : w3.frozen? ⟨w.heap.size, 0, none⟩ = false := hb3.free 0
  have z1 : w3.frozen? ⟨w.heap.size, 1, none⟩ = false := hb3.free 1
  have z2 : w3.frozen? ⟨w.heap.size, 2, none⟩ = false := hb3.free 2
  have z3 : w3.frozen? ⟨w.heap.size, 3, none⟩ = false := hb3.free 3
  have z4 : w3.frozen? ⟨w.heap.size, 4, none⟩ = false := hb3.free 4
  go_wp2_with fail
  have hpnb : p3 ≠ w.heap.size := by
   intro e
   subst e
   have h1 := hb3
   unfold Blk at h1 hp3
   rw [h1] at hp3
   simp only [Option.some.injEq, Obj.cells.injEq] at hp3
   exact absurd hp3.2.1 (by decide)
  have hf9 := store5_other hp3 hpnb (.int .i64 0) (.string ⟨#[]⟩) (.int .i64 0) (.int .i64 0) (.slice none 0 0)
  have hb9 := store5 hb3 (.int .i64 0) (.string ⟨#[]⟩) (.int .i64 0) (.int .i64 0) (.slice none 0 0)
  have hc9 := hc03.trans' (store5_chg w3 w.heap.size (.int .i64 0) (.string ⟨#[]⟩) (.int .i64 0) (.int .i64 0) (.slice none 0 0)) (fun b e => Nat.le_of_eq (Eq.symm e))
  generalize World.setCell (World.setCell (World.setCell (World.setCell (World.setCell w3 ⟨w.heap.size, 0, none⟩ (.int .i64 0)) ⟨w.heap.size, 1, none⟩ (.string ⟨#[]⟩)) ⟨w.heap.size, 2, none⟩ (.int .i64 0)) ⟨w.heap.size, 3, none⟩ (.int .i64 0)) ⟨w.heap.size, 4, none⟩ (.slice none 0 0) = w9 at *
  have n0 : w9.cell? ⟨w.heap.size, 0, none⟩ = some (.int .i64 (0)) := hb9.cell 0
  have n1 : w9.cell? ⟨w.heap.size, 1, none⟩ = some (.string ⟨#[]⟩) := hb9.cell 1
  have n2 : w9.cell? ⟨w.heap.size, 2, none⟩ = some (.int .i64 (0)) := hb9.cell 2
  have n3 : w9.cell? ⟨w.heap.size, 3, none⟩ = some (.int .i64 (0)) := hb9.cell 3
  have n4 : w9.cell? ⟨w.heap.size, 4, none⟩ = some (.slice none 0 0) := hb9.cell 4
  refine bodyPost_ret (v := .tuple #[zeroNode, (.iface 84 (.pointer (some ⟨p3, 0, none⟩)))]) (by simp [results, Tryz.results127, go_sem, n0, n1, n2, n3, n4, zeroNode]) rfl ?_
  rw [Hr.out]
  exact ⟨hc9, _, rfl, p3, rfl, hf9⟩
 | ok l q =>
  rw [hpar] at hm3
  obtain ⟨v, rfl, ho3, hrd3⟩ := hm3
  obtain ⟨a3, cap3, rfl, _, _⟩ := ho3.form
  obtain ⟨hoks, hll⟩ := hpok l q (Nat.le_refl _) hrl hpar
  have wd := rd_word hrd3
  by_cases ht : tok q = []
  ·have hr := Hspec.out
   rw [hpar] at hr
   simp only [if_pos ht] at hr
   have Hr := Lib.hid hr
   have ht' : (tok q).isEmpty = true := by rw [ht]; rfl
   clear hr hpar hpok ht
   go_wp2_with fail
   generalize hw4 : w3.alloc _ = w4
   have hc4 : Chg NoB w3 w4 := by
    rw [← hw4]
    repeat (first | exact Chg.refl _ _ | apply Chg.alloc | apply Chg.drew)
   have hroot4 : Blk w4 (w3.heap.size) ([.int .i64 0, .string ⟨#[114, 111, 111, 116]⟩, .int .i64 1, .int .i64 0, .slice a3 l.length cap3]) 56 := by
    rw [← hw4]
    repeat (first | exact Blk.newAt (by first | rfl | (simp; done) | (simp; omega)) | apply Blk.alloc | apply Blk.drew)
   clear hw4
   have hsz3 := hc03.size
   have hsz32 := hc3.size
   have hc04 := hc03.tr hc4
   have hlow : w.heap.size < w3.heap.size := hb3.lt
   have hrd0 : Reads w3 (fun b => w2.heap.size ≤ b ∧ b < w3.heap.size) (.list 5 (Nd.dts l)) [.slice a3 l.length cap3] := (ho3.reads (S' := fun b => w2.heap.size ≤ b) (fun b h _ => h)).lt
   have hnd : Reads w4 (fun b => w2.heap.size ≤ b ∧ b < w3.heap.size) (Nd.dt (.mk 0 rootName 1 0 l)) [.int .i64 0, .string ⟨#[114, 111, 111, 116]⟩, .int .i64 1, .int .i64 0, .slice a3 l.length cap3] := reads_nd.2 ⟨_, rfl, hrd0.chg0 hc4⟩
   have hok : (Nd.mk 0 rootName 1 0 l).ok := ⟨⟨by decide, by decide⟩, by decide, ⟨by decide, by decide⟩, ⟨by decide, by decide⟩, by unfold reach; omega, hoks⟩
   refine (valid_any (.mk 0 rootName 1 0 l) w4 (fun b => w2.heap.size ≤ b ∧ b < w3.heap.size) _ E (hG.keep0 hc04).errs hok hnd (fun b hb => by have := hc4.size; omega)).mono ?_
   rintro en w5 ⟨rfl, hc5⟩
   have hroot5 := hroot4.keep hc5 nbE
   have hc05 := hc04.tr hc5
   have hb5 := (hb3.keep hc4 nbE).keep hc5 nbE
   have hnd5 := hnd.chg0 hc5
   have x0 : w5.cell? ⟨w.heap.size, 0, none⟩ = some (.int .i64 (0)) := hb5.cell 0
   have x1 : w5.cell? ⟨w.heap.size, 1, none⟩ = some (.string ⟨#[]⟩) := hb5.cell 1
   have x2 : w5.cell? ⟨w.heap.size, 2, none⟩ = some (.int .i64 (0)) := hb5.cell 2
   have x3 : w5.cell? ⟨w.heap.size, 3, none⟩ = some (.int .i64 (0)) := hb5.cell 3
   have x4 : w5.cell? ⟨w.heap.size, 4, none⟩ = some (.slice none 0 0) := hb5.cell 4
   have z0 : w5.frozen? ⟨w.heap.size, 0, none⟩ = false := hb5.free 0
   have z1 : w5.frozen? ⟨w.heap.size, 1, none⟩ = false := hb5.free 1
   have z2 : w5.frozen? ⟨w.heap.size, 2, none⟩ = false := hb5.free 2
   have z3 : w5.frozen? ⟨w.heap.size, 3, none⟩ = false := hb5.free 3
   have z4 : w5.frozen? ⟨w.heap.size, 4, none⟩ = false := hb5.free 4
   have o0 : w5.cell? ⟨w3.heap.size, 0, none⟩ = some (.int .i64 (0)) := hroot5.cell 0
   have o1 : w5.cell? ⟨w3.heap.size, 1, none⟩ = some (.string ⟨#[114, 111, 111, 116]⟩) := hroot5.cell 1
   have o2 : w5.cell? ⟨w3.heap.size, 2, none⟩ = some (.int .i64 (1)) := hroot5.cell 2
   have o3 : w5.cell? ⟨w3.heap.size, 3, none⟩ = some (.int .i64 (0)) := hroot5.cell 3
   have o4 : w5.cell? ⟨w3.heap.size, 4, none⟩ = some (.slice a3 l.length cap3) := hroot5.cell 4
   have hr := Hr.out
   cases hv : validF (.mk 0 rootName 1 0 l) with
   | none =>
    rw [hv] at hr
    have Hr2 := Lib.hid hr
    rw [show errVal E none = .nilIface from rfl]
    clear hr hv
    go_wp2_with fail
    have hb9 := store5 hb5 (.int .i64 0) (.string ⟨#[114, 111, 111, 116]⟩) (.int .i64 1) (.int .i64 0) (.slice a3 l.length cap3)
    have hk9 := store5_chg w5 w.heap.size (.int .i64 0) (.string ⟨#[114, 111, 111, 116]⟩) (.int .i64 1) (.int .i64 0) (.slice a3 l.length cap3)
    have hlt2 := hb2.lt
    have hnd9 := ((ho3.keep hc4 (fun _ _ _ => nbE)).keep hc5 (fun _ _ _ => nbE)).keep hk9 (fun b hb _ e => by have e : b = w.heap.size := e; omega)
    have hc9 := hc05.trans' hk9 (fun b e => Nat.le_of_eq (Eq.symm e))
    clear hk9
    generalize World.setCell (World.setCell (World.setCell (World.setCell (World.setCell w5 ⟨w.heap.size, 0, none⟩ (.int .i64 0)) ⟨w.heap.size, 1, none⟩ (.string ⟨#[114, 111, 111, 116]⟩)) ⟨w.heap.size, 2, none⟩ (.int .i64 1)) ⟨w.heap.size, 3, none⟩ (.int .i64 0)) ⟨w.heap.size, 4, none⟩ (.slice a3 l.length cap3) = w9 at *
    have n0 : w9.cell? ⟨w.heap.size, 0, none⟩ = some (.int .i64 (0)) := hb9.cell 0
    have n1 : w9.cell? ⟨w.heap.size, 1, none⟩ = some (.string ⟨#[114, 111, 111, 116]⟩) := hb9.cell 1
    have n2 : w9.cell? ⟨w.heap.size, 2, none⟩ = some (.int .i64 (1)) := hb9.cell 2
    have n3 : w9.cell? ⟨w.heap.size, 3, none⟩ = some (.int .i64 (0)) := hb9.cell 3
    have n4 : w9.cell? ⟨w.heap.size, 4, none⟩ = some (.slice a3 l.length cap3) := hb9.cell 4
    refine bodyPost_ret (v := .tuple #[.agg #[.int .i64 0, .string ⟨#[114, 111, 111, 116]⟩, .int .i64 1, .int .i64 0, .slice a3 l.length cap3], .nilIface]) (by simp [results, Tryz.results127, go_sem, n0, n1, n2, n3, n4]) rfl ?_
    rw [Hr2.out]
    obtain ⟨F9, k1, k2, _⟩ := hnd9
    exact ⟨hc9, _, F9, rfl, trN.2 ⟨_, rfl, k1.mono hsz2⟩, k2⟩
   | some e =>
    rw [hv] at hr
    have Hr2 := Lib.hid hr
    obtain ⟨T, v, hEv⟩ := hG.errs.form e
    rw [show errVal E (some e) = .iface T v from hEv]
    have HE := Lib.hid hEv
    clear hr hv hEv
    go_wp2_with fail
    have hb9 := store5 hb5 (.int .i64 0) (.string ⟨#[]⟩) (.int .i64 0) (.int .i64 0) (.slice none 0 0)
    have hc9 := hc05.trans' (store5_chg w5 w.heap.size (.int .i64 0) (.string ⟨#[]⟩) (.int .i64 0) (.int .i64 0) (.slice none 0 0)) (fun b e => Nat.le_of_eq (Eq.symm e))
    generalize World.setCell (World.setCell (World.setCell (World.setCell (World.setCell w5 ⟨w.heap.size, 0, none⟩ (.int .i64 0)) ⟨w.heap.size, 1, none⟩ (.string ⟨#[]⟩)) ⟨w.heap.size, 2, none⟩ (.int .i64 0)) ⟨w.heap.size, 3, none⟩ (.int .i64 0)) ⟨w.heap.size, 4, none⟩ (.slice none 0 0) = w9 at *
    have n0 : w9.cell? ⟨w.heap.size, 0, none⟩ = some (.int .i64 (0)) := hb9.cell 0
    have n1 : w9.cell? ⟨w.heap.size, 1, none⟩ = some (.string ⟨#[]⟩) := hb9.cell 1
    have n2 : w9.cell? ⟨w.heap.size, 2, none⟩ = some (.int .i64 (0)) := hb9.cell 2
    have n3 : w9.cell? ⟨w.heap.size, 3, none⟩ = some (.int .i64 (0)) := hb9.cell 3
    have n4 : w9.cell? ⟨w.heap.size, 4, none⟩ = some (.slice none 0 0) := hb9.cell 4
    refine bodyPost_ret (v := .tuple #[zeroNode, (.iface T v)]) (by simp [results, Tryz.results127, go_sem, n0, n1, n2, n3, n4, zeroNode]) rfl ?_
    rw [Hr2.out]
    exact ⟨hc9, congrArg (fun x => Ending.returned (.tuple #[zeroNode, x])) HE.out.symm⟩
  ·have hr := Hspec.out
   rw [hpar] at hr
   simp only [if_neg ht] at hr
   have Hr := Lib.hid hr
   have ht' : (tok q).isEmpty = false := by simpa using ht
   have hG3 := hG.keep0 hc03
   have g3 := hG3.errs.cell .text
   simp only [Er.g] at g3
   clear hr hpar hpok ht
   go_wp2_with fail
   refine (fault_rd (w.heap.size + 1) s q w3 (E .text) hrd3 (hG.errs.form .text)).mono ?_
   rintro en w4 ⟨v4, rfl, ⟨p4, rfl, hp4⟩, hc4⟩
   have hb4 := hb3.keep hc4 nbE
   have hc04 := hc03.tr hc4
   have x0 : w4.cell? ⟨w.heap.size, 0, none⟩ = some (.int .i64 (0)) := hb4.cell 0
   have x1 : w4.cell? ⟨w.heap.size, 1, none⟩ = some (.string ⟨#[]⟩) := hb4.cell 1
   have x2 : w4.cell? ⟨w.heap.size, 2, none⟩ = some (.int .i64 (0)) := hb4.cell 2
   have x3 : w4.cell? ⟨w.heap.size, 3, none⟩ = some (.int .i64 (0)) := hb4.cell 3
   have x4 : w4.cell? ⟨w.heap.size, 4, none⟩ = some (.slice none 0 0) := hb4.cell 4
   have z0 : w4.frozen? ⟨w.heap.size, 0, none⟩ = false := hb4.free 0
   have z1 : w4.frozen? ⟨w.heap.size, 1, none⟩ = false := hb4.free 1
   have z2 : w4.frozen? ⟨w.heap.size, 2, none⟩ = false := hb4.free 2
   have z3 : w4.frozen? ⟨w.heap.size, 3, none⟩ = false := hb4.free 3
   have z4 : w4.frozen? ⟨w.heap.size, 4, none⟩ = false := hb4.free 4
   go_wp2_with fail
   have hpnb : p4 ≠ w.heap.size := by
    intro e
    subst e
    have h1 := hb4
    unfold Blk at h1 hp4
    rw [h1] at hp4
    simp only [Option.some.injEq, Obj.cells.injEq] at hp4
    exact absurd hp4.2.1 (by decide)
   have hf9 := store5_other hp4 hpnb (.int .i64 0) (.string ⟨#[]⟩) (.int .i64 0) (.int .i64 0) (.slice none 0 0)
   have hb9 := store5 hb4 (.int .i64 0) (.string ⟨#[]⟩) (.int .i64 0) (.int .i64 0) (.slice none 0 0)
   have hc9 := hc04.trans' (store5_chg w4 w.heap.size (.int .i64 0) (.string ⟨#[]⟩) (.int .i64 0) (.int .i64 0) (.slice none 0 0)) (fun b e => Nat.le_of_eq (Eq.symm e))
   generalize World.setCell (World.setCell (World.setCell (World.setCell (World.setCell w4 ⟨w.heap.size, 0, none⟩ (.int .i64 0)) ⟨w.heap.size, 1, none⟩ (.string ⟨#[]⟩)) ⟨w.heap.size, 2, none⟩ (.int .i64 0)) ⟨w.heap.size, 3, none⟩ (.int .i64 0)) ⟨w.heap.size, 4, none⟩ (.slice none 0 0) = w9 at *
   have n0 : w9.cell? ⟨w.heap.size, 0, none⟩ = some (.int .i64 (0)) := hb9.cell 0
   have n1 : w9.cell? ⟨w.heap.size, 1, none⟩ = some (.string ⟨#[]⟩) := hb9.cell 1
   have n2 : w9.cell? ⟨w.heap.size, 2, none⟩ = some (.int .i64 (0)) := hb9.cell 2
   have n3 : w9.cell? ⟨w.heap.size, 3, none⟩ = some (.int .i64 (0)) := hb9.cell 3
   have n4 : w9.cell? ⟨w.heap.size, 4, none⟩ = some (.slice none 0 0) := hb9.cell 4
   refine bodyPost_ret (v := .tuple #[zeroNode, (.iface 84 (.pointer (some ⟨p4, 0, none⟩)))]) (by simp [results, Tryz.results127, go_sem, n0, n1, n2, n3, n4, zeroNode]) rfl ?_
   rw [Hr.out]
   exact ⟨hc9, _, rfl, p4, rfl, hf9⟩
end Go.Proofs.YtnmhkafpgohefaaGreatDoor
