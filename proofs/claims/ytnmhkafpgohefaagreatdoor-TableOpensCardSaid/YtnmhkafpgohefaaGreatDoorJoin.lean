/-
  strings.Join by single blanks (over a builder whose copyCheck bears a stop: by writeString_any).; evolve.drop: a node, and groups that have nothing left, taken out of a tree in place.
-/
import Derived.Test.YtnmhkafpgohefaaGreatDoorShelf
import Derived.Test.YtnmhkafpgohefaaGreatDoorTreeMore
import Derived.Test.YtnmhkafpgohefaaGreatDoorWalk
import Derived.Test.YtnmhkafpgohefaaGreatDoorDelF
set_option linter.unusedVariables false
set_option maxHeartbeats 20000000
set_option maxRecDepth 100000
set_option linter.unusedSimpArgs false
namespace Go.Proofs.YtnmhkafpgohefaaGreatDoor
open Go.RowKit
def blanks (r : List ByteArray) : List UInt8 := (r.map fun x => (32 : UInt8) :: x.data.toList).flatten
def joinW : List ByteArray → List UInt8
 | [] => []
 | x :: r => x.data.toList ++ blanks r
theorem blanks_snoc (r : List ByteArray) (x : ByteArray) : blanks (r ++ [x]) = blanks r ++ 32 :: x.data.toList := by simp [blanks]
theorem blanks_len : ∀ (r : List ByteArray), (∀ x ∈ r, x.size ≤ 100000) → (blanks r).length ≤ r.length * 100001
 | [], _ => by simp [blanks]
 | x :: r, h => by
  have h1 := h x (List.mem_cons_self ..)
  have h2 := blanks_len r (fun y hy => h y (List.mem_cons_of_mem _ hy))
  have h3 : x.data.toList.length = x.size := Array.length_toList
  have h4 : (blanks (x :: r)).length = x.data.toList.length + 1 + (blanks r).length := by
   unfold blanks
   rw [List.map_cons, List.flatten_cons, List.length_append, List.length_cons]
  rw [h4, List.length_cons, Nat.succ_mul]
  omega
def JoLen (n : Nat) (vn vi : Value) : Prop := ∃ (k m : Nat), k ≤ n ∧ vi = .int .i64 (k : Nat) ∧ vn = .int .i64 (m : Nat) ∧ m ≤ 100000 + k * 100000
def JoRel (B : Nat) (x0 : ByteArray) (r : List ByteArray) (w : World) (vi : Value) (wr : World) : Prop :=
 ∃ k : Nat, k ≤ r.length ∧ vi = .int .i64 (k : Nat) ∧ IsB B B (Lib.byteCells (x0.data.toList ++ blanks (r.take k))) wr ∧ Chg NoB w wr
theorem join_many (bk o c : Nat) (x0 : ByteArray) (r : List ByteArray) (w : World) (hr1 : 1 ≤ r.length) (hc : ∀ (j : Nat) x, (x0 :: r)[j]? = some x → w.cell? ⟨bk, o + j, none⟩ = some (.string x)) (hbk : bk < w.heap.size) (hn : r.length ≤ 99999) (hcap : r.length + 1 ≤ c)
  (hx : ∀ x ∈ x0 :: r, x.size ≤ 100000) : Calls Tryz.prog 48 #[.slice (some ⟨bk, o, none⟩) (r.length + 1) c, .string ⟨#[32]⟩] w (RetV (.string ⟨(joinW (x0 :: r)).toArray⟩) w) := by
 have Hc := Lib.hid hc
 have Hx := Lib.hid hx
 clear hc hx
 have hdv : ¬ ((9223372036854775807 : Int) / (r.length : Int) ≤ 1) := by
  have h1 : (2 : Int) ≤ 9223372036854775807 / (r.length : Int) := Int.le_ediv_of_mul_le (by omega) (by omega)
  omega
 have hrI : ¬ ((r.length : Int) = 0) := by omega
 go_enter Tryz.func48, Tryz.ntmps48
 go_wp2_with fail
 go_loop [5, 41] (fun vn vi => JoLen (r.length + 1) vn vi) (fun _ vi => r.length + 1 - (intOf vi).toNat)
 case atStart => exact ⟨0, r.length, Nat.zero_le _, rfl, rfl, by omega⟩
 case round =>
  obtain ⟨k, m, hk, rfl, rfl, hm⟩ := hrel
  by_cases hlt : k < r.length + 1
  ·obtain ⟨x, hxk⟩ : ∃ x, (x0 :: r)[k]? = some x := ⟨(x0 :: r)[k], List.getElem?_eq_getElem hlt⟩
   have hcx := Hc.out k x hxk
   have hsz := Hx.out x (List.mem_of_getElem? hxk)
   have hltI : (k : Int) < (r.length : Int) + 1 := by omega
   have hszI : ¬ ((9223372036854775807 : Int) - (m : Int) < (x.size : Int)) := by omega
   clear hxk
   go_wp2_with fail
   refine ⟨⟨k + 1, m + x.size, hlt, by go_num, by go_num, by omega⟩, by simp [intOf]; omega⟩
  ·have hltI : ¬ ((k : Int) < (r.length : Int) + 1) := by omega
   go_wp2_with fail
   refine (Tryz.Builder_Grow_fresh w.heap.size w.heap.size m _ (Nat.le_refl _) (heap_alloc_new w _) (by simp) (by omega)).mono ?_
   rintro en w1 ⟨rfl, hB1, hb1⟩
   have hc1 : Chg NoB w w1 := (Chg.ofBelow ⟨hb1.os, hb1.tape, hb1.output, Nat.le_trans (by simp) hb1.size, fun i hi => (hb1.block i hi).trans (Below.heap_alloc w _ i hi)⟩)
   have hI1 : IsB w.heap.size w.heap.size [] w1 := .inr hB1
   have hc0 : w1.cell? ⟨bk, o, none⟩ = some (.string x0) := (hc1.cell (p := ⟨bk, o, none⟩) hbk nbE).trans (Hc.out 0 x0 rfl)
   have hx0 := Hx.out x0 (List.mem_cons_self ..)
   clear hB1 hb1
   go_wp2_with fail
   refine (writeString_any w.heap.size w.heap.size [] x0 w1 hI1 (by simp; omega) hc1.size).mono ?_
   rintro en w2 ⟨rfl, hI2, hc2⟩
   have hc02 : Chg NoB w w2 := hc1.trans hc2 (fun y e => .inr e.1)
   have hst : ([] : List Value) ++ Lib.strCells x0 = Lib.byteCells (x0.data.toList ++ blanks (r.take 0)) := by simp [blanks, Lib.strCells, Lib.byteCells]
   rw [hst] at hI2
   have HI2 := Lib.hid hI2
   clear hst hI1 hI2 hc2 hc0
   go_wp2_with fail
   go_loopw [65] (fun vi wr => JoRel w.heap.size x0 r w vi wr) (fun vi _ => r.length - (intOf vi).toNat)
   case atStart => exact ⟨0, Nat.zero_le _, rfl, HI2.out, hc02⟩
   case round =>
    obtain ⟨j, hj, rfl, hIj, hcj⟩ := hrel
    have HIj := Lib.hid hIj
    clear hIj
    by_cases hltj : j < r.length
    ·have hxm : r[j]'hltj ∈ x0 :: r := List.mem_cons_of_mem _ (List.getElem_mem hltj)
     have hsz := Hx.out _ hxm
     have hcell := Hc.out (j + 1) (r[j]'hltj) (by rw [List.getElem?_cons_succ]; exact List.getElem?_eq_getElem hltj)
     have htake : r.take (j + 1) = r.take j ++ [r[j]'hltj] := List.take_succ_eq_append_getElem hltj
     have hbl := blanks_len (r.take j) (fun y hy => Hx.out y (List.mem_cons_of_mem _ (List.mem_of_mem_take hy)))
     rw [List.length_take] at hbl
     generalize r[j]'hltj = y at hsz hcell htake
     have hnext : Lib.byteCells (x0.data.toList ++ blanks (r.take j)) ++ Lib.strCells ⟨#[32]⟩ ++ Lib.strCells y = Lib.byteCells (x0.data.toList ++ blanks (r.take (j + 1))) := by
      rw [htake, blanks_snoc]
      simp [Lib.byteCells, Lib.strCells]
     have hl0 : (Lib.byteCells (x0.data.toList ++ blanks (r.take j))).length = x0.size + (blanks (r.take j)).length := by
      have h3 : x0.data.toList.length = x0.size := Array.length_toList
      simp only [Lib.byteCells, List.length_map, List.length_append, h3]
     have Hnext := Lib.hid hnext
     have Hl0 := Lib.hid hl0
     have hcy : wr.cell? ⟨bk, o + (j + 1), none⟩ = some (.string y) := (hcj.cell (p := ⟨bk, o + (j + 1), none⟩) hbk nbE).trans hcell
     have hmin : min j r.length * 100001 ≤ 99999 * 100001 := Nat.mul_le_mul_right _ (by omega)
     have hszw := hcj.size
     have hltI2 : (j : Int) < (r.length : Int) := by omega
     clear hxm htake hnext hl0 hcell
     have hcy2 : wr.cell? ⟨bk, o + 1 + j, none⟩ = some (.string y) := by rw [show o + 1 + j = o + (j + 1) by omega]; exact hcy
     go_wp2_with fail
     refine (writeString_any w.heap.size w.heap.size _ ⟨#[32]⟩ wr HIj.out (by rw [Hl0.out]; show _ + 1 ≤ _; omega) hszw).mono ?_
     rintro en w3 ⟨rfl, hI3, hc3⟩
     have HI3 := Lib.hid hI3
     have hc03 : Chg NoB w w3 := hcj.trans hc3 (fun y e => .inr e.1)
     clear hI3 hc3
     go_wp2_with fail
     refine (writeString_any w.heap.size w.heap.size _ y w3 HI3.out (by rw [List.length_append, Hl0.out, Lib.strCells_length]; show _ + 1 + _ ≤ _; omega) hc03.size).mono ?_
     rintro en w4 ⟨rfl, hI4, hc4⟩
     rw [Hnext.out] at hI4
     have HI4 := Lib.hid hI4
     have hc04 : Chg NoB w w4 := hc03.trans hc4 (fun y e => .inr e.1)
     clear hI4 hc4
     go_wp2_with fail
     refine ⟨⟨j + 1, hltj, by go_num, HI4.out, hc04⟩, by simp [intOf]; omega⟩
    ·have hje : r.take j = r := List.take_of_length_le (by omega)
     have hI9 := HIj.out
     rw [hje] at hI9
     have HI9 := Lib.hid hI9
     have hltI2 : ¬ (j : Int) < (r.length : Int) := by omega
     clear hI9 hje
     go_wp2_with fail
     refine (Tryz.Builder_String_any w.heap.size w.heap.size _ wr HI9.out hcj.size).mono ?_
     rintro en w5 ⟨rfl, hb5⟩
     have hc5 : Chg NoB w w5 := ⟨hb5.os.trans hcj.os, hb5.tape.trans hcj.tape, hb5.output.trans hcj.output, Nat.le_trans hcj.size hb5.size, fun i hi hn => (hb5.block i hi).trans (hcj.block i hi hn)⟩
     go_wp2_with fail
     go_ret
     exact ⟨rfl, hc5⟩
theorem join_one (bk o c : Nat) (x0 : ByteArray) (w : World) (hc : w.cell? ⟨bk, o, none⟩ = some (.string x0)) :
  Calls Tryz.prog 48 #[.slice (some ⟨bk, o, none⟩) 1 c, .string ⟨#[32]⟩] w (RetV (.string ⟨(joinW [x0]).toArray⟩) w) := by
 go_enter Tryz.func48, Tryz.ntmps48
 go_wp2_with fail
 go_ret
 refine ⟨?_, Chg.refl _ _⟩
 show Ending.returned (Value.string x0) = _
 simp [joinW, blanks]
theorem join_any (bk o c : Nat) (xs : List ByteArray) (w : World) (h1 : 1 ≤ xs.length) (hc : ∀ (j : Nat) x, xs[j]? = some x → w.cell? ⟨bk, o + j, none⟩ = some (.string x)) (hbk : bk < w.heap.size) (hn : xs.length ≤ 100000) (hcap : xs.length ≤ c)
  (hx : ∀ x ∈ xs, x.size ≤ 100000) : Calls Tryz.prog 48 #[.slice (some ⟨bk, o, none⟩) xs.length c, .string ⟨#[32]⟩] w (RetV (.string ⟨(joinW xs).toArray⟩) w) := by
 match xs, h1, hc, hn, hcap, hx with
 | [x], _, hc, _, _, _ => exact join_one bk o c x w (hc 0 x rfl)
 | x :: y :: r, _, hc, hn, hcap, hx => exact join_many bk o c x (y :: r) w (by simp) hc hbk (by simp only [List.length_cons] at hn ⊢; omega) (by simpa using hcap) hx
mutual
def dropN (id : Int) : Nd → Nd
 | .mk i n r k s => .mk i n r k ((dropL id s).filter fun x => !delB id x)
def dropL (id : Int) : List Nd → List Nd
 | [] => []
 | n :: ns => dropN id n :: dropL id ns
end
theorem dropL_eq (id : Int) : ∀ l : List Nd, dropL id l = l.map (dropN id)
 | [] => rfl
 | n :: ns => by simp [dropL, dropL_eq id ns]
def RetUpd (B b o : Nat) (n : Nd) (F : List Nat) (n' : Nd) (w : World) (en : Ending) (w' : World) : Prop := en = .returned (.tuple #[]) ∧ ∃ F', Upd w B b o n F w' n' F'
def DropRel (id : Int) (B b o : Nat) (i : Int) (nm : ByteArray) (r k : Int) (s : List Nd) (F : List Nat) (w : World) (c : Nat) (vi : Value) (wr : World) : Prop :=
 ∃ (t : Nat) (F' : List Nat), t ≤ s.length ∧ vi = .int .i64 (t : Nat) ∧ Upd w B b o (.mk i nm r k s) F wr (.mk i nm r k (dropL id (s.take t) ++ s.drop t)) F' ∧ Blk wr c [.int .i64 id] 3
theorem drop_any (B : Nat) (id : Int) : ∀ (m : Nat) (b o : Nat) (n : Nd) (F : List Nat) (w : World), n.weigh ≤ m → PtN w B b o n F →
  Calls Tryz.prog 52 #[.pointer (some ⟨b, o, none⟩), .int .i64 id] w (RetUpd B b o n F (dropN id n) w) := by
 intro m
 induction m with
 | zero => intro b o n F w hm; cases n; simp [Nd.weigh] at hm
 | succ m ih =>
  intro b o n F w hm hp
  have Hih := Lib.hid ih
  clear ih
  obtain ⟨i, nm, r, k, s⟩ := n
  obtain ⟨v, htl, _, _, _, _, c4, _⟩ := hp.form
  obtain ⟨a, c, rfl, hlen, hcap⟩ := htl.form
  unfold maxLen at hcap
  simp only [Nd.weigh] at hm
  have hbl := lt_of_cell c4
  have hFl := Lib.hid hp.lt.2
  clear htl
  go_enter Tryz.func52, Tryz.ntmps52
  go_wp2_with fail
  generalize hw1 : World.alloc w _ = w1
  have hc1 : Chg NoB w w1 := by
   rw [← hw1]
   repeat (first | exact Chg.refl _ _ | apply Chg.alloc | apply Chg.drew)
  have hx1 : Blk w1 (w.heap.size) ([.int .i64 id]) 3 := by
   rw [← hw1]
   repeat (first | exact Blk.newAt (by first | rfl | (simp; done) | (simp; omega)) | apply Blk.alloc | apply Blk.drew)
  clear hw1
  have hp1 := hp.keep0 hc1
  have hbx : b ≠ w.heap.size := by have h1 : b < w.heap.size := hbl; omega
  have hxF : w.heap.size ∉ F := fun e => by have := (hFl.out _ e).2; omega
  have hx1l := hx1.lt
  go_loopw [10] (fun vi wr => DropRel id B b o i nm r k s F w1 w.heap.size vi wr) (fun vi _ => s.length - (intOf vi).toNat)
  case atStart => exact ⟨0, F, Nat.zero_le _, rfl, by simpa [dropL] using hp1.refl, hx1⟩
  case round =>
   obtain ⟨t, Fr, ht, rfl, hu, hx⟩ := hrel
   have Hu := Lib.hid hu
   have hxFr : w.heap.size ∉ Fr := fun e => by
    rcases hu.sub _ e with y | y
    ·exact hxF y
    ·omega
   have hxl := hx.lt
   by_cases hlt : t < s.length
   ·have hltI : (t : Int) < (s.length : Int) := by omega
    have hst : s[t]? = some s[t] := List.getElem?_eq_getElem hlt
    have hmem : s[t] ∈ s := List.getElem_mem hlt
    have hwj := Nd.weigh_mem hmem
    have hj : (dropL id (s.take t) ++ s.drop t)[t]? = some s[t] := by
     have hl : (dropL id (s.take t)).length = t := by rw [dropL_eq, List.length_map, List.length_take]; omega
     rw [List.getElem?_append_right (by omega), hl, Nat.sub_self, List.getElem?_drop, Nat.add_zero, hst]
    have hset : (dropL id (s.take t) ++ s.drop t).set t (dropN id s[t]) = dropL id (s.take (t + 1)) ++ s.drop (t + 1) := by
     have hl : (dropL id (s.take t)).length = t := by rw [dropL_eq, List.length_map, List.length_take]; omega
     rw [List.set_append_right _ _ (by omega), hl, Nat.sub_self, List.drop_eq_getElem_cons hlt, qE, List.take_succ_eq_append_getElem hlt, dropL_eq, dropL_eq, List.map_append, List.append_assoc]
     rfl
    have hlen2 : (dropL id (s.take t) ++ s.drop t).length = s.length := by rw [List.length_append, dropL_eq, List.length_map, List.length_take, List.length_drop]; omega
    generalize s[t] = q at hj hmem hwj hset hst
    obtain ⟨rb, cap, Fc, z4, h1, h2, h3, h4, hpc, hup⟩ := hu.pt'.child hj
    rw [hlen2] at z4 h1
    unfold maxLen at h2
    have Hup := Lib.hid hup
    have Hset := Lib.hid hset
    clear hup hset hj hst hu hlen2
    have x0 : wr.cell? ⟨w.heap.size, 0, none⟩ = some (.int .i64 id) := hx.cell 0
    go_wp2_with fail
    refine wp_region_n (fun w' => w'.cell? ⟨b, o + 4, none⟩ = some (.slice (some ⟨rb, 0, none⟩) s.length cap) ∧ w'.cell? ⟨w.heap.size, 0, none⟩ = some (.int .i64 id)) [] (by kernel_rfl) ?_ (fun hSh => ?_)
    ·exact ⟨z4, x0⟩
    refine n_from 0 ?_
    intro htk
    iterate 7
     refine n_tB (v := ?_) htk rfl (Or.inl ⟨by rfl, ?_⟩) ?_
     rotate_left 1
     ·(intro w' hSw; (try dsimp only at hSw); go_simp; try with_reducible rfl)
     clear htk
     intro htk
     simp only [Nat.reduceAdd] at htk
     simp only [Act.put, qA, qB, qC, qD, qE, qF]
    clear htk
    refine n_step 7 rfl (by kernel_rfl) ?_
    go_wp2_with fail
    have hd : Chg NoB wr wr.drew := (Chg.refl _ _).drew
    refine (Hih.out rb (t * 5) q Fc wr.drew (by omega) (hpc.keep0 hd)).mono ?_
    rintro en w2 ⟨rfl, Fc', hu2⟩
    have hu3 := hu2.ahead hd hpc nbE (fun _ _ => nbE) (fun _ e => nbE e)
    obtain ⟨F2, hu4⟩ := Hup.out _ _ _ hu3
    have hx2 := hx.keep hu3.chg (fun e => by
     rcases e with e | e
     ·exact hxFr (e ▸ h3)
     ·exact hxFr (h4 _ e))
    go_wp2_with fail
    have hbn : ∀ x, x = rb ∨ x ∈ Fc → x ≠ b := fun x hx e => Hu.out.out' (by
     rw [← e]
     rcases hx with hx | hx
     ·exact hx ▸ h3
     ·exact h4 x hx)
    refine ⟨fun _ => ⟨(hu3.chg.cell (p := ⟨b, o + 4, none⟩) (lt_of_cell z4) (fun e => hbn b e rfl)).trans z4, hx2.cell 0⟩, fun _ => ?_⟩
    refine n_done (by kernel_rfl) ?_
    go_wp2_with fail
    go_roundw
    case rel =>
     refine ⟨t + 1, F2, hlt, by go_num, ?_, hx2⟩
     rw [← Hset.out]
     exact Hu.out.trans hu4
    case measure => simp [intOf]; omega
   ·have hts : t = s.length := by omega
    have hltI : ¬ (t : Int) < (s.length : Int) := by omega
    have hu := Hu.out
    rw [hts, List.take_length, List.drop_length, List.append_nil] at hu
    obtain ⟨v5, ht5, _, _, _, _, d4, dfz⟩ := hu.pt'.form
    obtain ⟨a5, c5, rfl, hlen5, hcap5⟩ := ht5.form
    have hFr := Lib.hid hu.pt'.lt.2
    have hbr := lt_of_cell d4
    have Hu2 := Lib.hid hu
    have hdel := delF_any (dropL id s) id w.heap.size wr B _ Fr ht5 hu.nd' hxFr (hx.cell 0)
    clear hu hts Hu
    go_wp2_with fail
    refine hdel.mono ?_
    rintro en w3 ⟨v6, F6, rfl, ht6, hc6, hs6, hn6⟩
    obtain ⟨a6, c6, rfl, _, _⟩ := ht6.form
    have e4 := (hc6.cell (p := ⟨b, o + 4, none⟩) hbr Hu2.out.out').trans d4
    have e4f : w3.frozen? ⟨b, o + 4, none⟩ = false := (hc6.frozen (p := ⟨b, o + 4, none⟩) hbr Hu2.out.out').trans (dfz _)
    have hfin := Hu2.out.trans (Hu2.out.pt'.list hc6 ht6 (fun e => Hu2.out.out' (hs6 _ e)) hn6 (fun x hx => .inl (hs6 x hx)))
    have Hfin := Lib.hid (hfin.ahead hc1 hp nbE (fun _ _ => nbE) (fun _ e => nbE e))
    have hbr3 := lt_of_cell e4
    clear hfin hdel ht5 ht6 hn6 hs6 hc6 d4 dfz
    go_wp2_with fail
    refine bodyPost_ret (v := .tuple #[]) (by simp [results, Tryz.results52, go_sem]) rfl ?_
    exact ⟨rfl, F6, Hfin.out⟩
end Go.Proofs.YtnmhkafpgohefaaGreatDoor
