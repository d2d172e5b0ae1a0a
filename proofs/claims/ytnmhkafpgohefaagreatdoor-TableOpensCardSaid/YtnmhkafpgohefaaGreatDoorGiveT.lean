/-
  The closure of evolve's node: all numbers of a tree are moved, in place.
-/
import Derived.Test.YtnmhkafpgohefaaGreatDoorTreeMore
import Derived.Test.YtnmhkafpgohefaaGreatDoorPlain
import Derived.Laws.EntriesVeiled
set_option linter.unusedVariables false
set_option maxHeartbeats 20000000
set_option maxRecDepth 100000
set_option linter.unusedSimpArgs false
namespace Go.Proofs.YtnmhkafpgohefaaGreatDoor
open Go.RowKit
mutual
def giveN (d : Int) : Nd → Nd
 | .mk i n r k s => .mk (i + d) n r k (giveL d s)
def giveL (d : Int) : List Nd → List Nd
 | [] => []
 | n :: ns => giveN d n :: giveL d ns
end
theorem giveL_eq (d : Int) : ∀ l : List Nd, giveL d l = l.map (giveN d)
 | [] => rfl
 | n :: ns => by simp [giveL, giveL_eq d ns]
def SmallId (n : Nd) : Prop := 0 ≤ n.id ∧ n.id ≤ 1000000
theorem Nd.Alls.mem {P : Nd → Prop} : ∀ {l : List Nd}, Nd.Alls P l → ∀ n ∈ l, n.All P
 | [], _, n, h => by cases h
 | x :: xs, h, n, hn => by
  rcases List.mem_cons.1 hn with rfl | hn
  ·exact h.1
  ·exact Nd.Alls.mem h.2 n hn
structure GiveEnv (gb bx bf : Nat) (nx : Int) (w : World) : Prop where
 log : w.cell? ⟨gb, 5, none⟩ = some (.int .i64 nx)
 box : w.cell? ⟨bx, 0, none⟩ = some (.pointer (some ⟨gb, 0, none⟩))
 fn : w.cell? ⟨bf, 0, none⟩ = some (.func (.func 130) #[] #[.pointer (some ⟨bx, 0, none⟩), .pointer (some ⟨bf, 0, none⟩)])
theorem lt_of_cell2 {w : World} {p : Addr} {v : Value} (h : w.cell? p = some v) : p.block < w.heap.size := by
 rcases Nat.lt_or_ge p.block w.heap.size with h1 | h1
 ·exact h1
 ·simp [World.cell?, Array.getElem?_eq_none h1] at h
theorem GiveEnv.keep {C : Nat → Prop} {gb bx bf : Nat} {nx : Int} {w w' : World} (h : GiveEnv gb bx bf nx w) (hc : Chg C w w') (h1 : ¬ C gb) (h2 : ¬ C bx) (h3 : ¬ C bf) : GiveEnv gb bx bf nx w' :=
 ⟨(hc.cell (lt_of_cell2 h.log) h1).trans h.log, (hc.cell (lt_of_cell2 h.box) h2).trans h.box, (hc.cell (lt_of_cell2 h.fn) h3).trans h.fn⟩
def RetUpdG (B b o : Nat) (n : Nd) (F : List Nat) (n' : Nd) (w : World) (en : Ending) (w' : World) : Prop := en = .returned (.tuple #[]) ∧ ∃ F', Upd w B b o n F w' n' F'
def GiveRel (d : Int) (B b o : Nat) (i : Int) (nm : ByteArray) (r k : Int) (i0 : Int) (s : List Nd) (F : List Nat) (w : World) (vi : Value) (wr : World) : Prop :=
 ∃ (t : Nat) (F' : List Nat), t ≤ s.length ∧ vi = .int .i64 (t : Nat) ∧ Upd w B b o (.mk i0 nm r k s) F wr (.mk i nm r k (giveL d (s.take t) ++ s.drop t)) F'
theorem give_any (B gb bx bf : Nat) (nx : Int) (hnx : 0 ≤ nx ∧ nx ≤ 1000000) : ∀ (m : Nat) (b o : Nat) (n : Nd) (F : List Nat) (w : World), n.weigh ≤ m → n.All SmallId → PtN w B b o n F → GiveEnv gb bx bf nx w → (gb ≠ b ∧ gb ∉ F) → (bx ≠ b ∧ bx ∉ F) → (bf ≠ b ∧ bf ∉ F) →
  Calls Tryz.prog 130 #[.pointer (some ⟨b, o, none⟩), .pointer (some ⟨bx, 0, none⟩), .pointer (some ⟨bf, 0, none⟩)] w (RetUpdG B b o n F (giveN (nx - 1) n) w) := by
 have he := enters_of Tryz.func130 (P := Tryz.prog) (by kernel_rfl) rfl
 intro m
 induction m with
 | zero => intro b o n F w hm; cases n; simp [Nd.weigh] at hm
 | succ m ih =>
  intro b o n F w hm hid hp hE hgb hbx hbf
  have Hih := Lib.hid ih
  clear ih
  obtain ⟨i, nm, r, k, s⟩ := n
  obtain ⟨v, htl, c0, _, _, _, c4, cf⟩ := hp.form
  obtain ⟨a, c, rfl, hlen, hcap⟩ := htl.form
  unfold maxLen at hcap
  simp only [Nd.weigh] at hm
  obtain ⟨hi0, hids⟩ := hid
  obtain ⟨hi1, hi2⟩ : 0 ≤ i ∧ i ≤ 1000000 := hi0
  have Hids := Lib.hid hids
  have hbl := lt_of_cell2 c4
  have f0 := cf o
  have d5 := hE.log
  have x0 := hE.box
  obtain ⟨hgb1, hgb2⟩ := hgb
  obtain ⟨hbx1, hbx2⟩ := hbx
  obtain ⟨hbf1, hbf2⟩ := hbf
  clear htl hids cf
  have hu1 := hp.field 0 (by decide) (.int .i64 (i + (nx - 1))) (i + (nx - 1)) nm r k (fun _ => rfl)
  rw [Nat.add_zero] at hu1
  have Hu1 := Lib.hid hu1
  clear hu1
  go_enter Tryz.func130, Tryz.ntmps130
  go_wp2_with fail
  refine wp_region_n (fun w' => w'.cell? ⟨b, o, none⟩ = some (.int .i64 i) ∧ w'.cell? ⟨gb, 5, none⟩ = some (.int .i64 nx) ∧ w'.cell? ⟨bx, 0, none⟩ = some (.pointer (some ⟨gb, 0, none⟩))) [10, 11, 12] (by kernel_rfl) ?_ (fun hSh => ?_)
  ·exact ⟨c0, d5, x0⟩
  refine n_from 0 ?_
  intro htk
  iterate 10
   refine n_tB (v := ?_) htk rfl (Or.inl ⟨by rfl, ?_⟩) ?_
   rotate_left 1
   ·(intro w' hSw; (try dsimp only at hSw); go_simp; try with_reducible rfl)
   clear htk
   intro htk
   simp only [Nat.reduceAdd] at htk
   simp only [Act.put, qA, qB, qC, qD, qE, qF]
  clear htk
  refine n_step 10 rfl (by kernel_rfl) ?_
  go_wp2_with fail
  refine ⟨fun hx => absurd hx (by decide), fun _ => ?_⟩
  refine n_step 11 rfl (by kernel_rfl) ?_
  go_wp2_with fail
  refine ⟨fun hx => absurd hx (by decide), fun _ => ?_⟩
  refine n_step 12 rfl (by kernel_rfl) ?_
  go_wp2_with fail
  refine ⟨fun hx => absurd hx (by decide), fun _ => ?_⟩
  refine n_done (by kernel_rfl) ?_
  have hd9 : Chg NoB (w.setCell ⟨b, o, none⟩ (.int .i64 (i + (nx - 1)))) (w.setCell ⟨b, o, none⟩ (.int .i64 (i + (nx - 1)))).drew := (Chg.refl _ _).drew
  have hu9 := Hu1.out.later0 hd9
  have hE9 := hE.keep hu9.chg (by rintro (e | e); exact hgb1 e; exact hgb2 e) (by rintro (e | e); exact hbx1 e; exact hbx2 e) (by rintro (e | e); exact hbf1 e; exact hbf2 e)
  generalize World.drew (w.setCell ⟨b, o, none⟩ (.int .i64 (i + (nx - 1)))) = w9 at hu9 hE9 ⊢
  obtain ⟨v9, htl9, _, _, _, _, c49, _⟩ := hu9.pt'.form
  obtain ⟨a9, c9, rfl, hlen9, hcap9⟩ := htl9.form
  unfold maxLen at hcap9
  clear hSh c0 c4 f0 d5 x0 htl9 Hu1 hd9 hbl
  have Hu9 := Lib.hid hu9
  clear hu9
  go_wp2_with fail
  go_loopw [22] (fun vi wr => GiveRel (nx - 1) B b o (i + (nx - 1)) nm r k i s F w vi wr ∧ GiveEnv gb bx bf nx wr) (fun vi _ => s.length - (intOf vi).toNat)
  case atStart => exact ⟨⟨0, F, Nat.zero_le _, rfl, by simpa [giveL] using Hu9.out⟩, hE9⟩
  case round =>
   obtain ⟨⟨t, Fr, ht, rfl, hu⟩, hEr⟩ := hrel
   have Hu := Lib.hid hu
   by_cases hlt : t < s.length
   ·have hltI : (t : Int) < (s.length : Int) := by omega
    have hst : s[t]? = some s[t] := List.getElem?_eq_getElem hlt
    have hmem : s[t] ∈ s := List.getElem_mem hlt
    have hwj := Nd.weigh_mem hmem
    have hidt := Nd.Alls.mem Hids.out _ hmem
    have hl : (giveL (nx - 1) (s.take t)).length = t := by rw [giveL_eq, List.length_map, List.length_take]; omega
    have hj : (giveL (nx - 1) (s.take t) ++ s.drop t)[t]? = some s[t] := by
     rw [List.getElem?_append_right (by omega), hl, Nat.sub_self, List.getElem?_drop, Nat.add_zero, hst]
    have hset : (giveL (nx - 1) (s.take t) ++ s.drop t).set t (giveN (nx - 1) s[t]) = giveL (nx - 1) (s.take (t + 1)) ++ s.drop (t + 1) := by
     rw [List.set_append_right _ _ (by omega), hl, Nat.sub_self, List.drop_eq_getElem_cons hlt, qE, List.take_succ_eq_append_getElem hlt, giveL_eq, giveL_eq, List.map_append, List.append_assoc]
     rfl
    have hlen2 : (giveL (nx - 1) (s.take t) ++ s.drop t).length = s.length := by rw [List.length_append, giveL_eq, List.length_map, List.length_take, List.length_drop]; omega
    generalize s[t] = q at hj hmem hwj hset hst hidt
    obtain ⟨rb, cap, Fc, z4, h1, h2, h3, h4, hpc, hup⟩ := hu.pt'.child hj
    rw [hlen2] at z4 h1
    unfold maxLen at h2
    have Hup := Lib.hid hup
    have Hset := Lib.hid hset
    have fb := hEr.fn
    have hnF : ∀ x, x ∈ Fr → x ∈ F ∨ w.heap.size ≤ x := hu.sub
    have lgb := lt_of_cell2 hE.log
    have lbx := lt_of_cell2 hE.box
    have lbf := lt_of_cell2 hE.fn
    have hgbr : gb ∉ Fr := fun e => by rcases hnF _ e with y | y; exact hgb2 y; exact absurd lgb (by simp only; omega)
    have hbxr : bx ∉ Fr := fun e => by rcases hnF _ e with y | y; exact hbx2 y; exact absurd lbx (by simp only; omega)
    have hbfr : bf ∉ Fr := fun e => by rcases hnF _ e with y | y; exact hbf2 y; exact absurd lbf (by simp only; omega)
    clear hup hset hj hst hu hlen2 hl lgb lbx lbf hnF
    go_wp2_with fail
    refine wp_region_n (fun w' => w'.cell? ⟨b, o + 4, none⟩ = some (.slice (some ⟨rb, 0, none⟩) s.length cap) ∧ w'.cell? ⟨bf, 0, none⟩ = some (.func (.func 130) #[] #[.pointer (some ⟨bx, 0, none⟩), .pointer (some ⟨bf, 0, none⟩)])) [] (by kernel_rfl) ?_ (fun hSh => ?_)
    ·exact ⟨z4, fb⟩
    refine n_from 0 ?_
    intro htk
    iterate 7
     refine n_tB (v := ?_) htk rfl (Or.inl ⟨by rfl, ?_⟩) ?_
     rotate_left 1
     ·(intro w' hSw; (try dsimp only at hSw); go_simp; try with_reducible rfl)
     clear htk
     intro htk
     simp only [Nat.reduceAdd] at htk
     simp only [Act.put, qA, qB, qC, qD, qE, qF]
    clear htk
    refine n_step 7 rfl (by kernel_rfl) ?_
    go_wp2_with fail
    have hd : Chg NoB wr wr.drew := (Chg.refl _ _).drew
    refine (Hih.out rb (t * 5) q Fc wr.drew (by omega) hidt (hpc.keep0 hd) (hEr.keep hd nbE nbE nbE) ⟨fun e => hgbr (e ▸ h3), fun e => hgbr (h4 _ e)⟩ ⟨fun e => hbxr (e ▸ h3), fun e => hbxr (h4 _ e)⟩ ⟨fun e => hbfr (e ▸ h3), fun e => hbfr (h4 _ e)⟩).mono ?_
    rintro en w2 ⟨rfl, Fc', hu2⟩
    have hu3 := hu2.ahead hd hpc nbE (fun _ _ => nbE) (fun _ e => nbE e)
    obtain ⟨F2, hu4⟩ := Hup.out _ _ _ hu3
    have hin : ∀ x, x = rb ∨ x ∈ Fc → x ∈ Fr := fun x hx => by
     rcases hx with hx | hx
     ·exact hx ▸ h3
     ·exact h4 x hx
    have hE2 := hEr.keep hu3.chg (fun e => hgbr (hin _ e)) (fun e => hbxr (hin _ e)) (fun e => hbfr (hin _ e))
    go_wp2_with fail
    refine ⟨fun _ => ⟨(hu3.chg.cell (p := ⟨b, o + 4, none⟩) (lt_of_cell2 z4) (fun e => Hu.out.out' (hin _ e))).trans z4, hE2.fn⟩, fun _ => ?_⟩
    refine n_done (by kernel_rfl) ?_
    go_wp2_with fail
    go_roundw
    case rel =>
     refine ⟨⟨t + 1, F2, hlt, by go_num, ?_⟩, hE2⟩
     rw [← Hset.out]
     exact Hu.out.trans hu4
    case measure => simp [intOf]; omega
   ·have hts : t = s.length := by omega
    have hltI : ¬ (t : Int) < (s.length : Int) := by omega
    have hu := Hu.out
    rw [hts, List.take_length, List.drop_length, List.append_nil] at hu
    have Hu2 := Lib.hid hu
    clear hu hts Hu
    go_wp2_with fail
    refine bodyPost_ret (v := .tuple #[]) (by simp [results, Tryz.results130, go_sem]) rfl ?_
    exact ⟨rfl, Fr, Hu2.out⟩
end Go.Proofs.YtnmhkafpgohefaaGreatDoor
