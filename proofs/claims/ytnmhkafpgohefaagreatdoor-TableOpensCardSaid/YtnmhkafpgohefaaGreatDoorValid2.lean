/-
  The functions that schema.Valid hands on: names and numbers.
-/
import Derived.Test.YtnmhkafpgohefaaGreatDoorValid1
set_option linter.unusedVariables false
set_option maxHeartbeats 20000000
set_option maxRecDepth 100000
set_option linter.unusedSimpArgs false
namespace Go.Proofs.YtnmhkafpgohefaaGreatDoor
open Go.RowKit
theorem list_cells {w : World} {S : Nat → Prop} {α : Type} {f : α → Value} {l : List α} {v : Value} (h : Reads w S (.list 1 (l.map fun x => .lit (f x))) [v]) :
  ∃ a cap, v = .slice a l.length cap ∧ l.length ≤ cap ∧ cap ≤ maxLen ∧ (l.length ≠ 0 → ∃ b off, a = some ⟨b, off, none⟩ ∧ S b ∧ b < w.heap.size ∧ ∀ j x, l[j]? = some x → w.cell? ⟨b, off + j, none⟩ = some (f x)) := by
 obtain ⟨a, cap, h1, h2, h3, h4⟩ := reads_list h
 simp only [List.length_map] at h1 h2 h4
 refine ⟨a, cap, h1, h2, h3, fun hne => ?_⟩
 obtain ⟨b, off, ha, hb, hlt, hE⟩ := h4 hne
 refine ⟨b, off, ha, hb, hlt, fun j x hj => ?_⟩
 obtain ⟨cs, h5, h6, h7⟩ := hE.get j (.lit (f x)) (by simp [hj])
 obtain ⟨rfl, _⟩ := h7
 have := h6 0 (f x) rfl
 simpa using this
instance decBytes : DecidableEq ByteArray := fun a b =>
 if h : a.data = b.data then isTrue (by cases a; cases b; cases h; rfl) else isFalse (fun e => h (e ▸ rfl))
def has {α : Type} [DecidableEq α] (l : List α) (x : α) : Bool := l.any (fun y => decide (y = x))
theorem has_iff {α : Type} [DecidableEq α] (l : List α) (x : α) : has l x = true ↔ x ∈ l := by simp [has]
theorem has_not {α : Type} [DecidableEq α] (l : List α) (x : α) : has l x = false ↔ x ∉ l := by
 rw [← has_iff, Bool.not_eq_true]
theorem containsS_any {w : World} {S : Nat → Prop} (l : List ByteArray) (v : Value) (s : ByteArray) (h : Reads w S (.list 1 (l.map fun x => .lit (.string x))) [v]) :
  Calls Tryz.prog 65 #[v, .string s] w fun e w' => e = .returned (.bool (has l s)) ∧ w' = w := by
 obtain ⟨a, cap, rfl, h2, h3, h4⟩ := list_cells (f := Value.string) h
 by_cases h0 : l.length = 0
 ·have : l = [] := List.eq_nil_of_length_eq_zero h0
  subst this
  refine (Tryz.slices_Contains_string_empty a cap s w).mono ?_
  rintro e w' ⟨rfl, rfl⟩
  exact ⟨rfl, rfl⟩
 ·obtain ⟨b, off, rfl, hb, hlt, hc⟩ := h4 h0
  refine (Tryz.slices_Contains_string b off l.length cap l s w (Nat.le_refl _) (by unfold maxLen at h3; omega) (fun j hj => ?_)).mono ?_
  ·exact hc j _ (by simp [List.getD, hj])
  rintro e w' ⟨rfl, rfl⟩
  refine ⟨?_, rfl⟩
  rw [List.take_length]
  congr 2
  rw [Bool.eq_iff_iff, Lib.containsS_iff, has_iff]
theorem containsI_any {w : World} {S : Nat → Prop} (l : List Int) (v : Value) (s : Int) (h : Reads w S (.list 1 (l.map fun x => .lit (.int .i64 x))) [v]) :
  Calls Tryz.prog 67 #[v, .int .i64 s] w fun e w' => e = .returned (.bool (has l s)) ∧ w' = w := by
 obtain ⟨a, cap, rfl, h2, h3, h4⟩ := list_cells (f := Value.int .i64) h
 by_cases h0 : l.length = 0
 ·have : l = [] := List.eq_nil_of_length_eq_zero h0
  subst this
  refine (Tryz.slices_Contains_int_empty a cap s w).mono ?_
  rintro e w' ⟨rfl, rfl⟩
  exact ⟨rfl, rfl⟩
 ·obtain ⟨b, off, rfl, hb, hlt, hc⟩ := h4 h0
  refine (Tryz.slices_Contains_int b off l.length cap l s w (Nat.le_refl _) (by unfold maxLen at h3; omega) (fun j hj => ?_)).mono ?_
  ·exact hc j _ (by simp [List.getD, hj])
  rintro e w' ⟨rfl, rfl⟩
  refine ⟨?_, rfl⟩
  rw [List.take_length]
  congr 2
  rw [Bool.eq_iff_iff, has_iff]
  simp
def namesB (l : List Nd) : Bool := l.all (fun n => isNameB n.name) && decide ((l.map Nd.name).Nodup)
theorem namesB_snoc (l : List Nd) (n : Nd) : namesB (l ++ [n]) = (namesB l && (isNameB n.name && !has (l.map Nd.name) n.name)) := by
 unfold namesB
 rw [Bool.eq_iff_iff]
 simp only [List.all_append, List.all_cons, List.all_nil, Bool.and_true, List.map_append, List.map_cons, List.map_nil, Bool.and_eq_true, decide_eq_true_eq, Bool.not_eq_true', has_not,
  List.nodup_append, List.nodup_cons, List.not_mem_nil, not_false_iff, List.nodup_nil, and_self, and_true, true_and, List.mem_singleton, ne_eq, forall_eq]
 constructor
 ·rintro ⟨⟨h1, h2⟩, h3, h4⟩
  exact ⟨⟨h1, h3⟩, h2, fun h => h4 _ h rfl⟩
 ·rintro ⟨⟨h1, h3⟩, h2, h4⟩
  exact ⟨⟨h1, h2⟩, h3, fun a ha e => h4 (e ▸ ha)⟩
theorem namesB_pre (l m : List Nd) (h : namesB l = false) : namesB (l ++ m) = false := by
 cases hh : namesB (l ++ m) with
 | false => rfl
 | true =>
  unfold namesB at h hh
  simp only [Bool.and_eq_true, decide_eq_true_eq, List.all_append, List.map_append, List.nodup_append] at hh
  rw [hh.1.1, decide_eq_true hh.2.1] at h
  cases h
def v4F (n : Nd) (_ : Int) (s : Unit) : Bool × Unit := (namesB n.sub, s)
theorem infoString : (Tryz.prog.info? 9).map (fun i => (i.zero, i.size, i.bytes)) = some (some (.string ⟨#[]⟩), 1, 16) := by kernel_rfl
theorem infoInt : (Tryz.prog.info? 3).map (fun i => (i.zero, i.size, i.bytes)) = some (some (.int .i64 0), 1, 8) := by kernel_rfl
def V4Rel (w : World) (cells : List Value) (s : List Nd) (vs vi : Value) (wr : World) : Prop :=
 ∃ j ao cap, j ≤ s.length ∧ vi = .int .i64 (j : Nat) ∧ namesB (s.take j) = true ∧ vs = .slice ao j cap ∧
  Own wr (w.heap.size + 1) 9 1 (fun _ => False) vs ((s.take j).map fun n => .lit (.string n.name)) ∧ Chg NoB w wr ∧ Blk wr w.heap.size cells 56
theorem sees_v4 (B c : Nat) : Sees 63 #[] 3 B c (fun _ w => c < w.heap.size) v4F Low (fun _ => True) where
 enters := enters_of Tryz.func63 (by kernel_rfl) rfl
 lt := fun s w h => h
 keep := fun s w w' h hc => by have := hc.size; omega
 deep := fun n d h => h.deep
 down := fun n d s h _ => h.down
 go := fun n d s _ hG _ => hG
 call := by
  intro n d s w S cs hO hG hok hr hSB hBw hSt
  obtain ⟨i, nm, r, k, sb⟩ := n
  obtain ⟨sv, rfl, hs⟩ := reads_nd.1 hr
  obtain ⟨sa, cap, rfl, hlen, hcap, hel⟩ := reads_subs hs
  obtain ⟨hi, hn, hrr, hk, hsl, hoks⟩ := hok
  unfold reach at hsl
  have hfin : v4F (.mk i nm r k sb) d s = (namesB sb, s) := rfl
  rw [hfin]
  go_enter Tryz.func63, Tryz.ntmps63
  go_wp2_with fail
  generalize hw1 : w.alloc _ = w1
  have hc1 : Chg NoB w w1 := by
   rw [← hw1]
   repeat (first | exact Chg.refl _ _ | apply Chg.alloc | apply Chg.drew)
  have hb1 : Blk w1 (w.heap.size) (ndCells i nm r k (.slice sa sb.length cap)) 56 := by
   rw [← hw1]
   repeat (first | exact Blk.newAt (by first | rfl | (simp; done) | (simp; omega)) | apply Blk.alloc | apply Blk.drew)
  clear hw1
  go_loopw [5, 11] (fun vs vi wr => V4Rel w (ndCells i nm r k (.slice sa sb.length cap)) sb vs vi wr) (fun _ vi _ => sb.length - (intOf vi).toNat)
  case atStart => exact ⟨0, none, 0, Nat.zero_le _, rfl, rfl, rfl, Own.nil _ _ _ _ _, hc1, hb1⟩
  case round =>
   obtain ⟨j, ao, c0, hj, rfl, hpre, rfl, hoj, hcj, hbj⟩ := hrel
   have Hpre := Lib.hid hpre
   clear hpre
   have hszj := hbj.lt
   by_cases hlt : j < sb.length
   ·obtain ⟨b, off, rfl, hSb, hbw, hE⟩ := hel (by omega)
    obtain ⟨ecs, hl5, hcells, hre⟩ := hE.get j sb[j].dt (by simp [hlt])
    have hmem : sb[j] ∈ sb := List.getElem_mem hlt
    have hokj := Nd.oks_mem hoks _ hmem
    have htake : sb = sb.take j ++ sb[j] :: sb.drop (j + 1) := by rw [List.getElem_cons_drop, List.take_append_drop]
    have htake1 : sb.take (j + 1) = sb.take j ++ [sb[j]] := List.take_succ_eq_append_getElem hlt
    generalize sb[j] = nj at hre hokj htake htake1
    have hsnoc := namesB_snoc (sb.take j) nj
    rw [← htake1, Hpre.out, Bool.true_and] at hsnoc
    have hpre2 := namesB_pre (sb.take (j + 1)) (sb.drop (j + 1))
    rw [List.take_append_drop] at hpre2
    have Htake1 := Lib.hid htake1
    have Hsnoc := Lib.hid hsnoc
    have Hpre2 := Lib.hid hpre2
    clear htake htake1 hsnoc hpre2
    obtain ⟨i1, n1, r1, k1, s1⟩ := nj
    obtain ⟨v1, rfl, hs1⟩ := reads_nd.1 hre
    obtain ⟨sa1, cap1, rfl, _, _, _⟩ := reads_subs hs1
    have hn1 : n1.size ≤ 9223372036854775807 := by have := hokj.2.1; unfold reach at this; omega
    have ef : ∀ t c, [Value.int .i64 i1, .string n1, .int .i64 r1, .int .i64 k1, (.slice sa1 s1.length cap1)][t]? = some c → wr.cell? ⟨b, off + j * 5 + t, none⟩ = some c := fun t c ht => (hcj.cell (p := ⟨b, off + j * 5 + t, none⟩) hbw (fun e => e)).trans (hcells t c ht)
    have e0 : wr.cell? ⟨b, off + j * 5, none⟩ = some (.int .i64 i1) := ef 0 _ rfl
    have e1 : wr.cell? ⟨b, off + j * 5 + 1, none⟩ = some (.string n1) := ef 1 _ rfl
    have e2 : wr.cell? ⟨b, off + j * 5 + 2, none⟩ = some (.int .i64 r1) := ef 2 _ rfl
    have e3 : wr.cell? ⟨b, off + j * 5 + 3, none⟩ = some (.int .i64 k1) := ef 3 _ rfl
    have e4 : wr.cell? ⟨b, off + j * 5 + 4, none⟩ = some (.slice sa1 s1.length cap1) := ef 4 _ rfl
    clear ef
    have c4 : wr.cell? ⟨w.heap.size, 4, none⟩ = some (.slice (some ⟨b, off, none⟩) sb.length cap) := hbj.cell 4
    go_wp2_with fail
    generalize hw2 : wr.alloc _ = w2
    have hc2 : Chg NoB wr w2 := by
     rw [← hw2]
     repeat (first | exact Chg.refl _ _ | apply Chg.alloc | apply Chg.drew)
    have hb2 : Blk w2 (wr.heap.size) (ndCells i1 n1 r1 k1 (.slice sa1 s1.length cap1)) 56 := by
     rw [← hw2]
     repeat (first | exact Blk.newAt (by first | rfl | (simp; done) | (simp; omega)) | apply Blk.alloc | apply Blk.drew)
    clear hw2
    refine (isName_any n1 w2 hn1).mono ?_
    rintro en w3 ⟨rfl, hc3⟩
    replace hb2 := hb2.keep hc3 nbE
    replace hc3 := hc2.tr hc3
    have d1 : w3.cell? ⟨wr.heap.size, 1, none⟩ = some (.string n1) := hb2.cell 1
    by_cases hq1 : isNameB n1 = true
    ·rw [hq1]
     have hv := hoj.keep hc3 (fun _ hb => hb.elim) (fun _ _ => nbE)
     have hrd := hv.reads (S' := fun _ => True) (fun _ _ => trivial) (fun _ _ _ => trivial) (by simp [maxLen]; omega)
     have hmm : (sb.take j).map (fun n => Dt.lit (.string n.name)) = ((sb.take j).map Nd.name).map (fun x => Dt.lit (.string x)) := by
      rw [List.map_map]
      rfl
     rw [hmm] at hrd
     go_wp2_with fail
     refine (containsS_any _ _ n1 hrd).mono ?_
     rintro en w4 ⟨rfl, rfl⟩
     by_cases hq2 : has ((sb.take j).map Nd.name) n1 = true
     ·have hno : namesB sb = false := by
       apply Hpre2.out
       rw [Hsnoc.out]
       show (isNameB n1 && !has ((sb.take j).map Nd.name) n1) = false
       rw [hq2]
       simp
      have Hno := Lib.hid hno
      rw [hq2]
      go_wp2_with fail
      go_ret
      rw [Hno.out]
      have hcc := hcj.tr hc3
      exact ⟨rfl, by have := hcc.size; omega, hcc.mono (fun _ _ e => nbE e)⟩
     ·have hb2f : has ((sb.take j).map Nd.name) n1 = false := by simpa using hq2
      have hyes : namesB (sb.take (j + 1)) = true := by
       rw [Hsnoc.out]
       show (isNameB n1 && !has ((sb.take j).map Nd.name) n1) = true
       rw [hb2f, hq1]
       rfl
      have Hyes := Lib.hid hyes
      rw [hb2f]
      go_wp2_with (at_builtin; refine stop_here ?_)
      refine Stop.go ?_
      generalize hw5 : w4.alloc _ = w5
      have hc5 : Chg NoB w4 w5 := by
       rw [← hw5]
       repeat (first | exact Chg.refl _ _ | apply Chg.alloc | apply Chg.drew)
      have hb5 : Blk w5 (w4.heap.size) ([.string n1]) 9 := by
       rw [← hw5]
       repeat (first | exact Blk.newAt (by first | rfl | (simp; done) | (simp; omega)) | apply Blk.alloc | apply Blk.drew)
      clear hw5
      have ho5 := hv.keep hc5 (fun _ hb => hb.elim) (fun _ _ => nbE)
      have hsz4 := (hcj.tr hc3).size
      have hsz5 := hc5.size
      have hlenj : ((sb.take j).map fun n => Dt.lit (.string n.name)).length = j := by simp; omega
      refine wpList_own rfl (.tmp 25) (.tmp 28) 37 rfl (w.heap.size + 1) 9 Tryz.underlying37 infoString rfl (by decide) rfl ho5 rfl [Dt.lit (.string n1)] [.string n1] rfl (ReadsC.single rfl ⟨rfl, rfl⟩) hb5.news (fun e => by cases e) ?_ ?_ ?_ ?_
      ·rw [hlenj]; simp [maxLen]; omega
      ·rw [hlenj]; omega
      ·have := hc3.size; omega
      intro ao2 cap2 w6 ho6 hc6 hat6
      rw [hlenj] at ho6 hat6 ⊢
      have hc06 : Chg NoB w w6 := (hcj.tr (hc3.tr hc5)).trans hc6 (fun b hb => .inr (by have := (hoj.block b hb).1; omega))
      have hb6 : Blk w6 w.heap.size (ndCells i nm r k (.slice (some ⟨b, off, none⟩) sb.length cap)) 56 := ((hbj.keep hc3 nbE).keep hc5 nbE).keep hc6 (fun e => by have := (hoj.block _ e).1; omega)
      go_wp2_with fail
      go_roundw
      case rel =>
       refine ⟨j + 1, ao2, cap2, hlt, by go_num, Hyes.out, rfl, ?_, hc06, hb6⟩
       rw [Htake1.out, List.map_append]
       exact ho6
      case measure => simp [intOf]; omega
    ·have hbf : isNameB n1 = false := by simpa using hq1
     have hno : namesB sb = false := by
      apply Hpre2.out
      rw [Hsnoc.out]
      simp [Nd.name, hbf]
     have Hno := Lib.hid hno
     rw [hbf]
     go_wp2_with fail
     go_ret
     rw [Hno.out]
     have hcc := hcj.tr hc3
     exact ⟨rfl, by have := hcc.size; omega, hcc.mono (fun _ _ e => nbE e)⟩
   ·have hjs : sb.take j = sb := List.take_of_length_le (by omega)
    have hfull : namesB sb = true := by rw [← hjs]; exact Hpre.out
    have Hjs := Lib.hid hfull
    clear hjs hfull
    go_wp2_with fail
    go_ret
    rw [Hjs.out]
    exact ⟨rfl, by have := hcj.size; omega, hcj.mono (fun _ _ e => nbE e)⟩
def v5F (n : Nd) (l : List Int) : Bool × List Int := (decide (1 ≤ n.id) && decide (n.id ≤ 1000) && !has l n.id, l ++ [n.id])
def Go5 (l : List Int) : Prop := l.Nodup ∧ ∀ x ∈ l, 1 ≤ x ∧ x ≤ 1000
theorem nodup_len : ∀ (n : Nat) (l : List Int), l.Nodup → (∀ x ∈ l, 1 ≤ x ∧ x ≤ (n : Int)) → l.length ≤ n
 | 0, [], _, _ => Nat.le_refl _
 | 0, x :: xs, _, h => by have := h x (List.mem_cons_self ..); omega
 | n + 1, l, hn, h => by
  by_cases hm : ((n + 1 : Nat) : Int) ∈ l
  ·have h1 := nodup_len n (l.erase ((n + 1 : Nat) : Int)) (hn.erase _) (fun x hx => by
    have h2 := (hn.mem_erase_iff).1 hx
    have := h x h2.2
    have := h2.1
    omega)
   rw [List.length_erase_of_mem hm] at h1
   omega
  ·have h1 := nodup_len n l hn (fun x hx => by
    have h2 := h x hx
    have : x ≠ ((n + 1 : Nat) : Int) := fun e => hm (e ▸ hx)
    omega)
   omega
theorem Go5.len {l : List Int} (h : Go5 l) : l.length ≤ 1000 := nodup_len 1000 l h.1 h.2
theorem Own.rowsOf {w : World} {B e k c : Nat} {S : Nat → Prop} {v : Value} {ds : List Dt} (h : Own w B e k S v ds) {b : Nat} (hb : v.ownBlock = some b) : RowsOf w e B c b := by
 obtain ⟨xs, h1, _⟩ := h
 rcases h1.2 with ⟨rfl, h0⟩ | ⟨g, cap, cur, rfl, hg, hh, _⟩
 ·cases hb
 ·obtain rfl := Option.some.inj hb
  exact ⟨hg, .inr ⟨_, _, hh⟩⟩
def BoxL (B c : Nat) (l : List Int) (w : World) : Prop := ∃ v, Blk w c [v] 131 ∧ Own w B 3 1 (fun _ => False) v (l.map fun x => .lit (.int .i64 x)) ∧ v.ownBlock ≠ some c
theorem oks_v5 (B c : Nat) (hB : B ≤ c) : Oks 66 #[.pointer (some ⟨c, 0, none⟩)] 3 B c (BoxL B c) v5F Go5 where
 enters := enters_of Tryz.func66 (by kernel_rfl) rfl
 lt := fun s w h => h.elim fun _ h => h.1.lt
 keep := fun s w w' h hc => by
  obtain ⟨v, h1, h2, h3⟩ := h
  exact ⟨v, h1.keep hc nbE, h2.keep hc (fun _ e => e.elim) (fun _ _ => nbE), h3⟩
 go := fun n s hG hf => by
  simp only [v5F, Bool.and_eq_true, decide_eq_true_eq, Bool.not_eq_true', has_not] at hf ⊢
  refine ⟨?_, ?_⟩
  ·rw [List.nodup_append]
   exact ⟨hG.1, by simp, fun a ha b hb e => by simp at hb; exact hf.2 (by rw [← hb, ← e]; exact ha)⟩
  ·intro x hx
   rcases List.mem_append.1 hx with hx | hx
   ·exact hG.2 x hx
   ·simp at hx; omega
 call := by
  intro n s w S cs hG hok hr hSB hBw hSt
  obtain ⟨v, hbk, hown, hvc⟩ := hSt
  have hlen := hG.len
  obtain ⟨i, nm, r, k, sb⟩ := n
  obtain ⟨sv, rfl, hs⟩ := reads_nd.1 hr
  obtain ⟨sa, cap, rfl, hlen', hcap, hel⟩ := reads_subs hs
  have hcl := hbk.lt
  obtain ⟨ao, c0, rfl⟩ := hown.form
  rw [List.length_map] at hown hbk hvc
  have hfin : v5F (.mk i nm r k sb) s = (decide (1 ≤ i) && decide (i ≤ 1000) && !has s i, s ++ [i]) := rfl
  rw [hfin]
  have hrd := hown.reads (S' := fun _ => True) (fun _ _ => trivial) (fun _ _ _ => trivial) (by simp [maxLen]; omega)
  have cq : w.cell? ⟨c, 0, none⟩ = some (.slice ao s.length c0) := hbk.cell 0
  have fq : w.frozen? ⟨c, 0, none⟩ = false := hbk.free 0
  have hfst : ∀ w0, Chg NoB w w0 → BoxL B c s w0 := fun w0 h0 => ⟨_, hbk.keep h0 nbE, hown.keep h0 (fun _ e => e.elim) (fun _ _ => nbE), hvc⟩
  -- the append and the return, in whatever world the tests have left
  by_cases h1 : 1 ≤ i
  ·by_cases h2 : i ≤ 1000
   ·have e1 : decide (1 ≤ i) = true := decide_eq_true h1
    have e2 : decide (i ≤ 1000) = true := decide_eq_true h2
    rw [e1, e2, Bool.true_and, Bool.true_and]
    clear e1 e2
    go_enter Tryz.func66, Tryz.ntmps66
    go_wp2_with fail
    generalize hw1 : w.alloc _ = w1
    have hc1 : Chg NoB w w1 := by
     rw [← hw1]
     repeat (first | exact Chg.refl _ _ | apply Chg.alloc | apply Chg.drew)
    have hb1 : Blk w1 (w.heap.size) (ndCells i nm r k (.slice sa sb.length cap)) 56 := by
     rw [← hw1]
     repeat (first | exact Blk.newAt (by first | rfl | (simp; done) | (simp; omega)) | apply Blk.alloc | apply Blk.drew)
    clear hw1
    refine (containsI_any s _ i (hrd.chg0 hc1)).mono ?_
    rintro en w1 ⟨rfl, rfl⟩
    have hbk1 := hbk.keep hc1 nbE
    have cq1 : w1.cell? ⟨c, 0, none⟩ = some (.slice ao s.length c0) := hbk1.cell 0
    have d0 : w1.cell? ⟨w.heap.size, 0, none⟩ = some (.int .i64 i) := hb1.cell 0
    go_wp2_with (at_builtin; refine stop_here ?_)
    refine Stop.go ?_
    generalize hw5 : w1.alloc _ = w5
    have hc5 : Chg NoB w1 w5 := by
     rw [← hw5]
     repeat (first | exact Chg.refl _ _ | apply Chg.alloc | apply Chg.drew)
    have hb5 : Blk w5 (w1.heap.size) ([.int .i64 i]) 3 := by
     rw [← hw5]
     repeat (first | exact Blk.newAt (by first | rfl | (simp; done) | (simp; omega)) | apply Blk.alloc | apply Blk.drew)
    clear hw5
    have hc05 := hc1.tr hc5
    have ho5 := hown.keep hc05 (fun _ hb => hb.elim) (fun _ _ => nbE)
    refine wpList_own rfl (.tmp 20) (.tmp 23) 131 rfl B 3 Tryz.underlying131 infoInt rfl (by decide) rfl ho5 rfl [Dt.lit (.int .i64 i)] [.int .i64 i] rfl (ReadsC.single rfl ⟨rfl, rfl⟩) hb5.news (fun e => by cases e) ?_ ?_ ?_ ?_
    ·rw [List.length_map]; simp [maxLen]; omega
    ·rw [List.length_map]; omega
    ·have := hc05.size; omega
    intro ao2 cap2 w6 ho6 hc6 hat6
    rw [List.length_map] at ho6 hat6 ⊢
    have hb6 : Blk w6 c [.slice ao s.length c0] 131 := (hbk.keep hc05 nbE).keep hc6 (fun e => hvc e)
    have fq6 : w6.frozen? ⟨c, 0, none⟩ = false := hb6.free 0
    have cq6 : w6.cell? ⟨c, 0, none⟩ = some (.slice ao s.length c0) := hb6.cell 0
    have hne6 : (Value.slice ao2 (s.length + 1) cap2).ownBlock ≠ some c := fun e => by
     rcases hat6 with h | h
     ·exact hvc (h ▸ e)
     ·have h9 := Option.some.inj (h.symm.trans e)
      have := hc05.size
      omega
    have hc06 : Chg (RowsOf w 3 B c) w w6 := (hc05.mono (fun _ _ e => nbE e)).trans hc6 (fun b hb => .inl (hown.rowsOf hb))
    go_wp2_with fail
    go_ret
    refine ⟨rfl, ⟨_, hb6.set 0 (.slice ao2 (s.length + 1) cap2), ?_, by exact hne6⟩, hc06.setCell (p := ⟨c, 0, none⟩) (.inl ⟨hB, .inl rfl⟩) _⟩
    rw [List.map_append]
    exact ho6.keep ((Chg.refl (OneB c) w6).setCell (p := ⟨c, 0, none⟩) (.inl rfl) _) (fun _ hb => hb.elim) (fun b hb e => hne6 (by rw [← show b = c from e]; exact hb))
   ·have e2 : decide (i ≤ 1000) = false := decide_eq_false h2
    rw [e2, Bool.and_false, Bool.false_and]
    clear e2
    go_enter Tryz.func66, Tryz.ntmps66
    go_wp2_with (at_builtin; refine stop_here ?_)
    refine Stop.go ?_
    generalize hw5 : (w.alloc _).alloc _ = w5
    have hc05 : Chg NoB w w5 := by
     rw [← hw5]
     repeat (first | exact Chg.refl _ _ | apply Chg.alloc | apply Chg.drew)
    have hb5 : Blk w5 (w.heap.size + 1) ([.int .i64 i]) 3 := by
     rw [← hw5]
     repeat (first | exact Blk.newAt (by first | rfl | (simp; done) | (simp; omega)) | apply Blk.alloc | apply Blk.drew)
    clear hw5
    have ho5 := hown.keep hc05 (fun _ hb => hb.elim) (fun _ _ => nbE)
    refine wpList_own rfl (.tmp 20) (.tmp 23) 131 rfl B 3 Tryz.underlying131 infoInt rfl (by decide) rfl ho5 rfl [Dt.lit (.int .i64 i)] [.int .i64 i] rfl (ReadsC.single rfl ⟨rfl, rfl⟩) hb5.news (fun e => by cases e) ?_ ?_ ?_ ?_
    ·rw [List.length_map]; simp [maxLen]; omega
    ·rw [List.length_map]; omega
    ·have := hc05.size; omega
    intro ao2 cap2 w6 ho6 hc6 hat6
    rw [List.length_map] at ho6 hat6 ⊢
    have hb6 : Blk w6 c [.slice ao s.length c0] 131 := (hbk.keep hc05 nbE).keep hc6 (fun e => hvc e)
    have fq6 : w6.frozen? ⟨c, 0, none⟩ = false := hb6.free 0
    have cq6 : w6.cell? ⟨c, 0, none⟩ = some (.slice ao s.length c0) := hb6.cell 0
    have hne6 : (Value.slice ao2 (s.length + 1) cap2).ownBlock ≠ some c := fun e => by
     rcases hat6 with h | h
     ·exact hvc (h ▸ e)
     ·have h9 := Option.some.inj (h.symm.trans e)
      have := hc05.size
      omega
    have hc06 : Chg (RowsOf w 3 B c) w w6 := (hc05.mono (fun _ _ e => nbE e)).trans hc6 (fun b hb => .inl (hown.rowsOf hb))
    go_wp2_with fail
    go_ret
    refine ⟨rfl, ⟨_, hb6.set 0 (.slice ao2 (s.length + 1) cap2), ?_, by exact hne6⟩, hc06.setCell (p := ⟨c, 0, none⟩) (.inl ⟨hB, .inl rfl⟩) _⟩
    rw [List.map_append]
    exact ho6.keep ((Chg.refl (OneB c) w6).setCell (p := ⟨c, 0, none⟩) (.inl rfl) _) (fun _ hb => hb.elim) (fun b hb e => hne6 (by rw [← show b = c from e]; exact hb))
  ·have e1 : decide (1 ≤ i) = false := decide_eq_false h1
   rw [e1, Bool.false_and, Bool.false_and]
   clear e1
   go_enter Tryz.func66, Tryz.ntmps66
   go_wp2_with (at_builtin; refine stop_here ?_)
   refine Stop.go ?_
   generalize hw5 : (w.alloc _).alloc _ = w5
   have hc05 : Chg NoB w w5 := by
    rw [← hw5]
    repeat (first | exact Chg.refl _ _ | apply Chg.alloc | apply Chg.drew)
   have hb5 : Blk w5 (w.heap.size + 1) ([.int .i64 i]) 3 := by
    rw [← hw5]
    repeat (first | exact Blk.newAt (by first | rfl | (simp; done) | (simp; omega)) | apply Blk.alloc | apply Blk.drew)
   clear hw5
   have ho5 := hown.keep hc05 (fun _ hb => hb.elim) (fun _ _ => nbE)
   refine wpList_own rfl (.tmp 20) (.tmp 23) 131 rfl B 3 Tryz.underlying131 infoInt rfl (by decide) rfl ho5 rfl [Dt.lit (.int .i64 i)] [.int .i64 i] rfl (ReadsC.single rfl ⟨rfl, rfl⟩) hb5.news (fun e => by cases e) ?_ ?_ ?_ ?_
   ·rw [List.length_map]; simp [maxLen]; omega
   ·rw [List.length_map]; omega
   ·have := hc05.size; omega
   intro ao2 cap2 w6 ho6 hc6 hat6
   rw [List.length_map] at ho6 hat6 ⊢
   have hb6 : Blk w6 c [.slice ao s.length c0] 131 := (hbk.keep hc05 nbE).keep hc6 (fun e => hvc e)
   have fq6 : w6.frozen? ⟨c, 0, none⟩ = false := hb6.free 0
   have cq6 : w6.cell? ⟨c, 0, none⟩ = some (.slice ao s.length c0) := hb6.cell 0
   have hne6 : (Value.slice ao2 (s.length + 1) cap2).ownBlock ≠ some c := fun e => by
    rcases hat6 with h | h
    ·exact hvc (h ▸ e)
    ·have h9 := Option.some.inj (h.symm.trans e)
     have := hc05.size
     omega
   have hc06 : Chg (RowsOf w 3 B c) w w6 := (hc05.mono (fun _ _ e => nbE e)).trans hc6 (fun b hb => .inl (hown.rowsOf hb))
   go_wp2_with fail
   go_ret
   refine ⟨rfl, ⟨_, hb6.set 0 (.slice ao2 (s.length + 1) cap2), ?_, by exact hne6⟩, hc06.setCell (p := ⟨c, 0, none⟩) (.inl ⟨hB, .inl rfl⟩) _⟩
   rw [List.map_append]
   exact ho6.keep ((Chg.refl (OneB c) w6).setCell (p := ⟨c, 0, none⟩) (.inl rfl) _) (fun _ hb => hb.elim) (fun b hb e => hne6 (by rw [← show b = c from e]; exact hb))
end Go.Proofs.YtnmhkafpgohefaaGreatDoor
