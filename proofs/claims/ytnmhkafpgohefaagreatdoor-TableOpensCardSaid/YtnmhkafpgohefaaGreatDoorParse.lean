/-
  What a text of a schema is, in plain words: the reader's nodes.; What the reader's nodes call: the tables' index, a number, a fault.
-/
import Derived.Test.YtnmhkafpgohefaaGreatDoorNext
import Derived.Lib.Atoi
set_option linter.unusedVariables false
set_option linter.unusedSimpArgs false
namespace Go.Proofs.YtnmhkafpgohefaaGreatDoor
open Go.RowKit
def nxt (rest : List UInt8) : List UInt8 := skipW (rest.drop (tok rest).length)
theorem tok_le (l : List UInt8) : (tok l).length ≤ l.length := by
 cases l with
 | nil => simp [tok]
 | cons c r =>
  have h1 := (List.takeWhile_sublist (digits.contains ·) (l := r)).length_le
  have h2 := (List.takeWhile_sublist lower (l := c :: r)).length_le
  simp only [tok]
  split
  ·simp only [List.length_cons]; omega
  ·split
   ·exact h2
   ·simp
theorem tok_pos {l : List UInt8} (h : l ≠ []) : 1 ≤ (tok l).length := by
 cases l with
 | nil => exact absurd rfl h
 | cons c r =>
  simp only [tok]
  split
  ·simp
  ·split
   ·rename_i hl
    rw [List.takeWhile_cons, if_pos hl]; simp
   ·simp
theorem nxt_le (l : List UInt8) : (nxt l).length ≤ l.length - (tok l).length := by
 unfold nxt skipW
 have := (List.dropWhile_sublist (([32, 10] : List UInt8).contains ·) (l := l.drop (tok l).length)).length_le
 rwa [List.length_drop] at this
theorem nxt_lt {l : List UInt8} (h : l ≠ []) : (nxt l).length < l.length := by
 have h1 := nxt_le l
 have h2 := tok_pos h
 have h3 := tok_le l
 omega
theorem nxt_le' (l : List UInt8) : (nxt l).length ≤ l.length := by have := nxt_le l; omega
inductive PR where
 | ok (l : List Nd) (rest : List UInt8)
 | bad (e : Er) (rest : List UInt8)
def PR.cons (n : Nd) : PR → PR
 | .ok l r => .ok (n :: l) r
 | .bad e r => .bad e r
def PR.app (a : List Nd) : PR → PR
 | .ok l r => .ok (a ++ l) r
 | .bad e r => .bad e r
theorem PR.app_cons (a : List Nd) (n : Nd) (p : PR) : (p.cons n).app a = p.app (a ++ [n]) := by cases p <;> simp [PR.cons, PR.app]
def idxT (l : List ByteArray) (w : List UInt8) : Int := Lib.idxOfS l ⟨w.toArray⟩
def headB : List UInt8 → Bool
 | [] => false
 | c :: _ => lower c
def numOk (w : List UInt8) : Option Int := match Lib.atoiAll w with
 | .ok v => some v
 | _ => none
def wordId : List UInt8 → Option Int
 | [] => none
 | c :: ds => if c.toNat = 35 then (match numOk ds with
  | none => none
  | some v => if 4 < ds.length then none else if ds.head? = some 48 then none else some v) else none
inductive Step where
 | stop
 | bad (e : Er) (rest : List UInt8)
 | leaf (n : Nd) (rest : List UInt8)
 | group (i : Int) (nm : ByteArray) (r : Int) (rest : List UInt8)
def headN (deep : Int) (rest : List UInt8) : Step :=
 if tok rest = [125] ∨ (tok rest = [] ∧ deep ≤ 2) then .stop
 else if idxT repT (tok rest) < 1 then .bad .text rest
 else if idxT kindT (tok (nxt rest)) < 0 then .bad .text (nxt rest)
 else if headB (tok (nxt (nxt rest))) = false then .bad .text (nxt (nxt rest))
 else match wordId (tok (nxt (nxt (nxt rest)))) with
 | none => .bad .text (nxt (nxt (nxt rest)))
 | some i =>
  if idxT kindT (tok (nxt rest)) = 0 then
   (if tok (nxt (nxt (nxt (nxt rest)))) ≠ [123] then .bad .text (nxt (nxt (nxt (nxt rest))))
   else if 6 ≤ deep then .bad .bound (nxt (nxt (nxt (nxt rest))))
   else .group i ⟨(tok (nxt (nxt rest))).toArray⟩ (idxT repT (tok rest)) (nxt (nxt (nxt (nxt (nxt rest))))))
  else if tok (nxt (nxt (nxt (nxt rest)))) ≠ [59] then .bad .text (nxt (nxt (nxt (nxt rest))))
  else .leaf (.mk i ⟨(tok (nxt (nxt rest))).toArray⟩ (idxT repT (tok rest)) (idxT kindT (tok (nxt rest))) []) (nxt (nxt (nxt (nxt (nxt rest)))))
theorem idx_nil : idxT repT [] = 0 := by rfl
theorem nxt4_lt {rest : List UInt8} (h : rest ≠ []) : (nxt (nxt (nxt (nxt (nxt rest))))).length < rest.length := by
 have := nxt_lt h
 have := nxt_le' (nxt rest)
 have := nxt_le' (nxt (nxt rest))
 have := nxt_le' (nxt (nxt (nxt rest)))
 have := nxt_le' (nxt (nxt (nxt (nxt rest))))
 omega
theorem head_ne {deep : Int} {rest : List UInt8} (h : ¬ idxT repT (tok rest) < 1) : rest ≠ [] := by
 rintro rfl
 exact h (by rw [show tok [] = [] from rfl, idx_nil]; omega)
def parseL (deep : Int) (rest : List UInt8) : PR :=
 match headN deep rest with
 | .stop => .ok [] rest
 | .bad e r => .bad e r
 | .leaf n r => if _h : r.length < rest.length then (parseL deep r).cons n else .bad .text r
 | .group i nm p r => if _h : r.length < rest.length then
   (match parseL (deep + 1) r with
   | .bad e q => .bad e q
   | .ok sub q => if tok q ≠ [125] then .bad .text q else if _h2 : (nxt q).length < rest.length then (parseL deep (nxt q)).cons (.mk i nm p 0 sub) else .bad .text q)
   else .bad .text r
termination_by rest.length
theorem head_leaf {deep : Int} {rest q : List UInt8} {n : Nd} (h : headN deep rest = .leaf n q) : q.length < rest.length := by
 unfold headN at h
 split at h
 ·cases h
 split at h
 ·cases h
 rename_i _ hi
 split at h
 ·cases h
 split at h
 ·cases h
 split at h
 ·cases h
 split at h
 ·split at h
  ·cases h
  ·split at h <;> cases h
 ·split at h
  ·cases h
  ·cases h
   exact nxt4_lt (head_ne (deep := deep) hi)
theorem head_group {deep : Int} {rest q : List UInt8} {i p : Int} {nm : ByteArray} (h : headN deep rest = .group i nm p q) : q.length < rest.length ∧ deep < 6 := by
 unfold headN at h
 split at h
 ·cases h
 split at h
 ·cases h
 rename_i _ hi
 split at h
 ·cases h
 split at h
 ·cases h
 split at h
 ·cases h
 split at h
 ·split at h
  ·cases h
  ·split at h
   ·cases h
   ·rename_i hd
    cases h
    exact ⟨nxt4_lt (head_ne (deep := deep) hi), by omega⟩
 ·split at h <;> cases h
theorem parse_stop {deep : Int} {rest : List UInt8} (h : headN deep rest = .stop) : parseL deep rest = .ok [] rest := by
 rw [parseL, h]
theorem parse_bad {deep : Int} {rest q : List UInt8} {e : Er} (h : headN deep rest = .bad e q) : parseL deep rest = .bad e q := by
 rw [parseL, h]
theorem parse_leaf {deep : Int} {rest q : List UInt8} {n : Nd} (h : headN deep rest = .leaf n q) : parseL deep rest = (parseL deep q).cons n := by
 rw [parseL, h]
 simp only [dif_pos (head_leaf h)]
theorem PR.cons_ok {n : Nd} {p : PR} {l : List Nd} {q : List UInt8} (h : p.cons n = .ok l q) : ∃ l', p = .ok l' q := by
 cases p with
 | ok l' r => simp only [PR.cons, PR.ok.injEq] at h; exact ⟨l', by rw [h.2]⟩
 | bad e r => simp [PR.cons] at h
theorem parse_le : ∀ (m : Nat) (deep : Int) (rest : List UInt8) (l : List Nd) (q : List UInt8), rest.length ≤ m → parseL deep rest = .ok l q → q.length ≤ rest.length := by
 intro m
 induction m using Nat.strongRecOn with
 | _ m ih =>
  intro deep rest l q hm h
  rw [parseL] at h
  split at h
  ·cases h; exact Nat.le_refl _
  ·cases h
  ·split at h
   ·rename_i hlt
    obtain ⟨l', h'⟩ := PR.cons_ok h
    have := ih _ (by omega) deep _ _ _ (Nat.le_refl _) h'
    omega
   ·cases h
  ·split at h
   ·rename_i hlt
    split at h
    ·cases h
    ·split at h
     ·cases h
     ·split at h
      ·rename_i hlt2
       obtain ⟨l', h'⟩ := PR.cons_ok h
       have := ih _ (by omega) deep _ _ _ (Nat.le_refl _) h'
       omega
      ·cases h
   ·cases h
theorem parse_group_bad {deep : Int} {rest q q2 : List UInt8} {i p : Int} {nm : ByteArray} {e : Er} (h : headN deep rest = .group i nm p q) (h2 : parseL (deep + 1) q = .bad e q2) : parseL deep rest = .bad e q2 := by
 rw [parseL, h]
 simp only [dif_pos (head_group h).1, h2]
theorem parse_group_open {deep : Int} {rest q q2 : List UInt8} {i p : Int} {nm : ByteArray} {sub : List Nd} (h : headN deep rest = .group i nm p q) (h2 : parseL (deep + 1) q = .ok sub q2) (h3 : tok q2 ≠ [125]) : parseL deep rest = .bad .text q2 := by
 rw [parseL, h]
 simp only [dif_pos (head_group h).1, h2]
 rw [if_pos h3]
theorem parse_group {deep : Int} {rest q q2 : List UInt8} {i p : Int} {nm : ByteArray} {sub : List Nd} (h : headN deep rest = .group i nm p q) (h2 : parseL (deep + 1) q = .ok sub q2) (h3 : tok q2 = [125]) :
  parseL deep rest = (parseL deep (nxt q2)).cons (.mk i nm p 0 sub) ∧ (nxt q2).length < rest.length := by
 have h4 := (head_group h).1
 have h5 := parse_le _ _ _ _ _ (Nat.le_refl _) h2
 have h6 := nxt_le' q2
 have h7 : (nxt q2).length < rest.length := by omega
 refine ⟨?_, h7⟩
 rw [parseL, h]
 simp only [dif_pos h4, h2]
 rw [if_neg (by simp [h3]), dif_pos h7]
structure Glo (B : Nat) (E : Er → Value) (w : World) : Prop where
 errs : Errs w E
 tabs : Tabs B w
 syn : ∃ T p, w.cell? ⟨16, 0, none⟩ = some (.iface T p)
 ran : ∃ T p, w.cell? ⟨17, 0, none⟩ = some (.iface T p)
 below : (∀ e : Er, e.g < B) ∧ 16 < B ∧ 17 < B
theorem Glo.keep {B : Nat} {E : Er → Value} {C : Nat → Prop} {w w' : World} (h : Glo B E w) (hc : Chg C w w') (hC : ∀ b, b < B → ¬ C b) : Glo B E w' := by
 refine ⟨⟨fun e => ?_, h.errs.form⟩, h.tabs.keep hc hC, ?_, ?_, h.below⟩
 ·have h1 := h.errs.cell e
  exact (hc.cell (lt_of_cell h1) (hC _ (h.below.1 e))).trans h1
 ·obtain ⟨T, p, h1⟩ := h.syn
  exact ⟨T, p, (hc.cell (lt_of_cell h1) (hC _ h.below.2.1)).trans h1⟩
 ·obtain ⟨T, p, h1⟩ := h.ran
  exact ⟨T, p, (hc.cell (lt_of_cell h1) (hC _ h.below.2.2)).trans h1⟩
theorem Glo.keep0 {B : Nat} {E : Er → Value} {w w' : World} (h : Glo B E w) (hc : Chg NoB w w') : Glo B E w' := h.keep hc (fun _ _ => nbE)
theorem Glo.one {B r : Nat} {E : Er → Value} {w w' : World} (h : Glo B E w) (hc : Chg (OneB r) w w') (hr : B ≤ r) : Glo B E w' := h.keep hc (fun b hb e => by have e : b = r := e; omega)
theorem idxR_any {B : Nat} (w : World) (x : List UInt8) (c : Nat) (h : Tabs B w) :
  Calls Tryz.prog 101 #[.slice (some ⟨11, 0, none⟩) 4 c, .string ⟨x.toArray⟩] w fun e w' => e = .returned (.int .i64 (idxT repT x)) ∧ w' = w :=
 Tryz.slices_Index_string 11 0 4 c repT ⟨x.toArray⟩ w (Nat.le_refl 4) (by decide) (fun j hj => by
  rw [Nat.zero_add]
  exact h.reps j _ (by rw [List.getElem?_eq_getElem hj]; simp [List.getD, hj]))
theorem idxK_any {B : Nat} (w : World) (x : List UInt8) (c : Nat) (h : Tabs B w) :
  Calls Tryz.prog 101 #[.slice (some ⟨12, 0, none⟩) 6 c, .string ⟨x.toArray⟩] w fun e w' => e = .returned (.int .i64 (idxT kindT x)) ∧ w' = w :=
 Tryz.slices_Index_string 12 0 6 c kindT ⟨x.toArray⟩ w (Nat.le_refl 6) (by decide) (fun j hj => by
  rw [Nat.zero_add]
  exact h.kinds j _ (by rw [List.getElem?_eq_getElem hj]; simp [List.getD, hj]))
def RetNum (r : Option Int) (w : World) (en : Ending) (w' : World) : Prop :=
 ∃ v err, en = .returned (.tuple #[.int .i64 v, err]) ∧ Chg NoB w w' ∧ (∀ x, r = some x → v = x ∧ err = .nilIface) ∧ (r = none → ∃ T p, err = .iface T p)
theorem chg_bytes {e : TypeId} {w : World} {t : ByteArray} : Chg NoB w (Lib.bytesWorld w e t) := Chg.ofBelow (Lib.bytesWorld_below w e t)
theorem atoi_any {B : Nat} {E : Er → Value} (w : World) (s : ByteArray) (h : Glo B E w) (hs : s.size ≤ 281474976710656) :
  Calls Tryz.prog 95 #[.string s] w (RetNum (numOk s.data.toList) w) := by
 unfold numOk
 rcases ha : Lib.atoiAll s.data.toList with v | _ | _
 ·refine (Tryz.strconv_Atoi_ok s (by omega) v ha w).mono ?_
  rintro e w' ⟨rfl, hw⟩
  refine ⟨v, .nilIface, rfl, ?_, fun x hx => ⟨Option.some.inj hx, rfl⟩, fun hx => by cases hx⟩
  rcases hw with rfl | ⟨t, rfl⟩
  ·exact Chg.refl _ _
  ·exact chg_bytes
 ·obtain ⟨T, p, h1⟩ := h.syn
  refine (Any.strconv_Atoi_syntax Tryz.laysC172 s hs ha _ w h1 (.inr ⟨T, p, rfl⟩)).mono ?_
  rintro e w' ⟨N, rfl, _, _, hb⟩
  exact ⟨_, _, rfl, Chg.ofBelow hb, by simp, by simp⟩
 ·obtain ⟨T, p, h1⟩ := h.ran
  refine (Tryz.strconv_Atoi_range s hs ha _ w h1 (.inr ⟨T, p, rfl⟩)).mono ?_
  rintro e w' ⟨N, rfl, _, _, hb⟩
  exact ⟨_, _, rfl, Chg.ofBelow hb, by simp, by simp⟩
def FaultAt (w : World) (ev : Value) (a : Nat) (v : Value) : Prop := ∃ p, v = .iface 84 (.pointer (some ⟨p, 0, none⟩)) ∧ Blk w p [.int .i64 (a : Int), ev] 86
theorem fault_any (r : Nat) (cs0 wd : Value) (a : Nat) (ev : Value) (w : World) (hb : Blk w r [cs0, .int .i64 (a : Int), wd] 242) (hev : ∃ T p, ev = .iface T p) :
  Calls Tryz.prog 152 #[.pointer (some ⟨r, 0, none⟩), ev] w fun en w' => ∃ v, en = .returned v ∧ FaultAt w' ev a v ∧ Chg NoB w w' := by
 obtain ⟨T, p, rfl⟩ := hev
 have c1 : w.cell? ⟨r, 1, none⟩ = some (.int .i64 (a : Int)) := hb.cell 1
 go_enter Tryz.func152, Tryz.ntmps152
 go_wp2_with fail
 go_ret
 exact ⟨_, rfl, ⟨w.heap.size, rfl, Blk.new w [.int .i64 (a : Int), .iface T p] 86⟩, (Chg.refl _ _).alloc _⟩
end Go.Proofs.YtnmhkafpgohefaaGreatDoor
