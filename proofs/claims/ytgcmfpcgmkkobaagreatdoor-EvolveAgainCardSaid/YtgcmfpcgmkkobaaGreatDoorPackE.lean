/-
 The reader of words: reader.next.
 What a text of a schema is, in plain words: the reader's nodes.
 What the reader's nodes call: the tables' index, a number, a fault.
 What the row's list gives: the package's variables.
-/
import Derived.Test.YtgcmfpcgmkkobaaGreatDoorPackD
import Derived.Lib.Atoi
import Derived.OpenShut
import Derived.LaidLaws
set_option linter.unusedVariables false
set_option linter.unusedSimpArgs false
namespace Go.Proofs.YtgcmfpcgmkkobaaGreatDoor
open Go.RowKit

theorem trimLeft_any (s cs : ByteArray) (w : World) (hcs : cs.size < 4294967281) (ha : cs.data.toList.all (fun b => decide (b.toNat < 128)) = true) :
  Calls Tryz.prog 167 #[.string s, .string cs] w fun e w' => e = .returned (.string ⟨(Lib.trimLeftS s.data.toList cs.data.toList).toArray⟩) ∧ Chg NoB w w' :=
 (Any.strings_TrimLeft_laid Tryz.lays161 (by kernel_rfl) s cs w hcs (ascii_of_all ha)).mono fun e w' h => ⟨h.1, Chg.ofBelow h.2⟩

theorem drop_data (s : ByteArray) (f : Nat) : (s.extract f s.size).data.toList = s.data.toList.drop f := by
 rw [Lib.extract_data, List.take_of_length_le (by rw [List.length_drop, length_data]; omega)]
theorem trimLeft_len (l cs : List UInt8) : (Lib.trimLeftS l cs).length ≤ l.length := by
 unfold Lib.trimLeftS
 exact (List.dropWhile_sublist _).length_le

set_option maxHeartbeats 400000 in
theorem span_any (s cs : ByteArray) (f c : Nat) (w : World) (hb : Blk w c [.string s] 9) (hs : s.size ≤ 9223372036854775807) (hf : f ≤ s.size) (hcs : cs.size < 4294967281) (ha : cs.data.toList.all (fun b => decide (b.toNat < 128)) = true) :
  Calls Tryz.prog 168 #[.string cs, .int .i64 f, .pointer (some ⟨c, 0, none⟩)] w (RetV (.int .i64 ((s.size - (Lib.trimLeftS (s.data.toList.drop f) cs.data.toList).length : Nat) : Int)) w) := by
 have c0 : w.cell? ⟨c, 0, none⟩ = some (.string s) := hb.cell 0
 have hfi : (f : Int) ≤ s.size := by omega
 go_enter Tryz.func168, Tryz.ntmps168
 go_wp2_with fail
 refine wp_region_n (fun w' => w'.cell? ⟨c, 0, none⟩ = some (.string s)) [13] (by kernel_rfl) ?_ (fun hSh => ?_)
 ·exact c0
 refine n_take (v := ?_) 0 rfl (Or.inl ⟨by rfl, ?_⟩) (by kernel_rfl) (fun _ _ _ h => h) (by assumption) ?_
 rotate_left 1
 ·(intro w' hSw; (try dsimp only at hSw); go_simp; try with_reducible rfl)
 simp only [Act.put, List.getElem_toArray, List.getElem_cons_zero, List.getElem_cons_succ, List.setIfInBounds_toArray, List.set_cons_zero, List.set_cons_succ]
 refine n_take (v := ?_) 1 rfl (Or.inl ⟨by rfl, ?_⟩) (by kernel_rfl) (fun _ _ _ h => h) (by assumption) ?_
 rotate_left 1
 ·(intro w' hSw; (try dsimp only at hSw); go_simp; try with_reducible rfl)
 simp only [Act.put, List.getElem_toArray, List.getElem_cons_zero, List.getElem_cons_succ, List.setIfInBounds_toArray, List.set_cons_zero, List.set_cons_succ]
 refine n_take (v := ?_) 2 rfl (Or.inl ⟨by rfl, ?_⟩) (by kernel_rfl) (fun _ _ _ h => h) (by assumption) ?_
 rotate_left 1
 ·(intro w' hSw; (try dsimp only at hSw); go_simp; try with_reducible rfl)
 simp only [Act.put, List.getElem_toArray, List.getElem_cons_zero, List.getElem_cons_succ, List.setIfInBounds_toArray, List.set_cons_zero, List.set_cons_succ]
 refine n_take (v := ?_) 3 rfl (Or.inl ⟨by rfl, ?_⟩) (by kernel_rfl) (fun _ _ _ h => h) (by assumption) ?_
 rotate_left 1
 ·(intro w' hSw; (try dsimp only at hSw); go_simp; try with_reducible rfl)
 simp only [Act.put, List.getElem_toArray, List.getElem_cons_zero, List.getElem_cons_succ, List.setIfInBounds_toArray, List.set_cons_zero, List.set_cons_succ]
 refine n_take (v := ?_) 4 rfl (Or.inl ⟨by rfl, ?_⟩) (by kernel_rfl) (fun _ _ _ h => h) (by assumption) ?_
 rotate_left 1
 ·(intro w' hSw; (try dsimp only at hSw); go_simp; try with_reducible rfl)
 simp only [Act.put, List.getElem_toArray, List.getElem_cons_zero, List.getElem_cons_succ, List.setIfInBounds_toArray, List.set_cons_zero, List.set_cons_succ]
 refine n_take (v := ?_) 5 rfl (Or.inl ⟨by rfl, ?_⟩) (by kernel_rfl) (fun _ _ _ h => h) (by assumption) ?_
 rotate_left 1
 ·(intro w' hSw; (try dsimp only at hSw); go_simp; try with_reducible rfl)
 simp only [Act.put, List.getElem_toArray, List.getElem_cons_zero, List.getElem_cons_succ, List.setIfInBounds_toArray, List.set_cons_zero, List.set_cons_succ]
 refine n_take (v := ?_) 6 rfl (Or.inl ⟨by rfl, ?_⟩) (by kernel_rfl) (fun _ _ _ h => h) (by assumption) ?_
 rotate_left 1
 ·(intro w' hSw; (try dsimp only at hSw); go_simp; try with_reducible rfl)
 simp only [Act.put, List.getElem_toArray, List.getElem_cons_zero, List.getElem_cons_succ, List.setIfInBounds_toArray, List.set_cons_zero, List.set_cons_succ]
 refine n_take (v := ?_) 7 rfl (Or.inl ⟨by rfl, ?_⟩) (by kernel_rfl) (fun _ _ _ h => h) (by assumption) ?_
 rotate_left 1
 ·(intro w' hSw; (try dsimp only at hSw); go_simp; try with_reducible rfl)
 simp only [Act.put, List.getElem_toArray, List.getElem_cons_zero, List.getElem_cons_succ, List.setIfInBounds_toArray, List.set_cons_zero, List.set_cons_succ]
 refine n_take (v := ?_) 8 rfl (Or.inl ⟨by rfl, ?_⟩) (by kernel_rfl) (fun _ _ _ h => h) (by assumption) ?_
 rotate_left 1
 ·(intro w' hSw; (try dsimp only at hSw); go_simp; try with_reducible rfl)
 simp only [Act.put, List.getElem_toArray, List.getElem_cons_zero, List.getElem_cons_succ, List.setIfInBounds_toArray, List.set_cons_zero, List.set_cons_succ]
 refine n_take (v := ?_) 9 rfl (Or.inl ⟨by rfl, ?_⟩) (by kernel_rfl) (fun _ _ _ h => h) (by assumption) ?_
 rotate_left 1
 ·(intro w' hSw; (try dsimp only at hSw); go_simp; try with_reducible rfl)
 simp only [Act.put, List.getElem_toArray, List.getElem_cons_zero, List.getElem_cons_succ, List.setIfInBounds_toArray, List.set_cons_zero, List.set_cons_succ]
 refine n_step 10 rfl (by kernel_rfl) ?_
 go_wp2_with fail
 refine (trimLeft_any (s.extract f s.size) cs w.drew hcs ha).mono ?_
 rintro en w1 ⟨rfl, hc1⟩
 replace hc1 := hc1.ofDrew
 rw [drop_data s f]
 have hlen : (Lib.trimLeftS (s.data.toList.drop f) cs.data.toList).length ≤ s.size - f := by
  have h1 := trimLeft_len (s.data.toList.drop f) cs.data.toList
  rw [List.length_drop, length_data] at h1
  exact h1
 have hb1 := hb.keep hc1 NoB.elim
 go_wp2_with fail
 refine ⟨fun _ => hb1.cell 0, fun hSk => ?_⟩
 replace hSk := hSk (by rfl)
 refine n_take (v := ?_) 11 rfl (Or.inl ⟨by rfl, ?_⟩) (by kernel_rfl) (fun _ _ _ h => h) (by assumption) ?_
 rotate_left 1
 ·(intro w' hSw; (try dsimp only at hSw); go_simp; try with_reducible rfl)
 simp only [Act.put, List.getElem_toArray, List.getElem_cons_zero, List.getElem_cons_succ, List.setIfInBounds_toArray, List.set_cons_zero, List.set_cons_succ]
 refine n_take (v := ?_) 12 rfl (Or.inl ⟨by rfl, ?_⟩) (by kernel_rfl) (fun _ _ _ h => h) (by assumption) ?_
 rotate_left 1
 ·(intro w' hSw; (try dsimp only at hSw); go_simp; try with_reducible rfl)
 simp only [Act.put, List.getElem_toArray, List.getElem_cons_zero, List.getElem_cons_succ, List.setIfInBounds_toArray, List.set_cons_zero, List.set_cons_succ]
 refine n_step 13 rfl (by kernel_rfl) ?_
 go_wp2_with fail
 refine ⟨fun hx => absurd hx (by decide), fun _ => ?_⟩
 refine n_done (by kernel_rfl) ?_
 go_wp2_with fail
 go_ret
 refine ⟨?_, hc1⟩
 show Ending.returned (.int .i64 _) = _
 congr 2
 omega

theorem span_list (l : List UInt8) (cs : ByteArray) (f n c : Nat) (w : World) (hb : Blk w c [.string ⟨l.toArray⟩] 9) (hs : (⟨l.toArray⟩ : ByteArray).size ≤ 9223372036854775807) (hf : f ≤ (⟨l.toArray⟩ : ByteArray).size) (hcs : cs.size < 4294967281)
  (ha : cs.data.toList.all (fun b => decide (b.toNat < 128)) = true) (hn : n = l.length - (Lib.trimLeftS (l.drop f) cs.data.toList).length) :
  Calls Tryz.prog 168 #[.string cs, .int .i64 f, .pointer (some ⟨c, 0, none⟩)] w (RetV (.int .i64 (n : Int)) w) := by
 have h := span_any ⟨l.toArray⟩ cs f c w hb hs hf hcs ha
 rw [show (((⟨l.toArray⟩ : ByteArray).size - (Lib.trimLeftS ((⟨l.toArray⟩ : ByteArray).data.toList.drop f) cs.data.toList).length : Nat) : Int) = (n : Int) from by rw [hn]; rfl] at h
 exact h

def digits : List UInt8 := [48, 49, 50, 51, 52, 53, 54, 55, 56, 57]
def tok : List UInt8 → List UInt8
 | [] => []
 | c :: r => if c.toNat = 35 then c :: r.takeWhile (digits.contains ·) else if lower c then (c :: r).takeWhile lower else [c]
def skipW (l : List UInt8) : List UInt8 := l.dropWhile (([32, 10] : List UInt8).contains ·)
/-- The reader stands at 'rest'. -/
def Rd (r : Nat) (s : ByteArray) (rest : List UInt8) (w : World) : Prop :=
 rest <:+ s.data.toList ∧ Blk w r [.string s, .int .i64 ((s.size - rest.length : Nat) : Int), .string ⟨(tok rest).toArray⟩] 205
def RetNil (Q : World → Prop) (en : Ending) (w' : World) : Prop := en = .returned (.tuple #[]) ∧ Q w'

theorem take_while (p : UInt8 → Bool) : ∀ l : List UInt8, l.take (l.length - (l.dropWhile p).length) = l.takeWhile p
 | [] => rfl
 | x :: xs => by
  rw [List.dropWhile_cons, List.takeWhile_cons]
  cases hp : p x
  ·simp
  ·have h1 := (List.dropWhile_sublist p (l := xs)).length_le
   have h2 := take_while p xs
   simp only [if_true, List.length_cons]
   rw [show xs.length + 1 - (xs.dropWhile p).length = (xs.length - (xs.dropWhile p).length) + 1 by omega, List.take_succ_cons, h2]
theorem abc_list : abc.data.toList = letters := rfl
theorem tok_hash (c : UInt8) (rs : List UInt8) (h : c.toNat = 35) : (c :: rs).take ((c :: rs).length - (Lib.trimLeftS rs digits).length) = tok (c :: rs) := by
 have h1 := take_while (digits.contains ·) rs
 have h2 := (List.dropWhile_sublist (digits.contains ·) (l := rs)).length_le
 unfold Lib.trimLeftS
 rw [List.length_cons, show rs.length + 1 - (rs.dropWhile (digits.contains ·)).length = (rs.length - (rs.dropWhile (digits.contains ·)).length) + 1 by omega, List.take_succ_cons, h1]
 simp only [tok, if_pos h]
theorem tok_lower (c : UInt8) (rs : List UInt8) (h : ¬ c.toNat = 35) (hl : lower c = true) : (c :: rs).take ((c :: rs).length - (Lib.trimLeftS (c :: rs) letters).length) = tok (c :: rs) := by
 unfold Lib.trimLeftS
 rw [show (fun x => letters.contains x) = lower from funext letters_contains, take_while]
 simp only [tok, if_neg h, if_pos hl]
theorem tok_other (c : UInt8) (rs : List UInt8) (h : ¬ c.toNat = 35) (hl : ¬ lower c = true) : (c :: rs).take 1 = tok (c :: rs) := by
 simp only [tok, if_neg h, if_neg hl]
 rfl
theorem length_cons_le {s : ByteArray} {c : UInt8} (rs : List UInt8) (hs : s.size ≤ 9223372036854775807) (h : (c :: rs).length ≤ s.size) : (⟨(c :: rs).toArray⟩ : ByteArray).size ≤ 9223372036854775807 ∧ 1 ≤ (⟨(c :: rs).toArray⟩ : ByteArray).size := by
 show (c :: rs).length ≤ _ ∧ 1 ≤ (c :: rs).length
 exact ⟨by omega, by simp⟩
theorem next_end (r : Nat) (s wd : ByteArray) (a2 : Nat) (rest : List UInt8) (w w5 : World) (hb : Blk w5 r [.string s, .int .i64 (a2 : Int), .string wd] 205) (hc : Chg (OneB r) w w5)
  (hsuf : rest <:+ s.data.toList) (ha2 : a2 = s.size - rest.length) (n : Nat) (hn : rest.take n = tok rest) :
  RetNil (fun w' => Rd r s rest w' ∧ Chg (OneB r) w w') (.returned (.tuple #[])) (w5.setCell ⟨r, 2, none⟩ (.string ((⟨rest.toArray⟩ : ByteArray).extract 0 n))) := by
 refine ⟨rfl, ⟨hsuf, ?_⟩, hc.setCell (p := ⟨r, 2, none⟩) (.inl rfl) _⟩
 have h1 := hb.set 2 (.string ((⟨rest.toArray⟩ : ByteArray).extract 0 n))
 rw [Lib.extract_eq] at h1 ⊢
 simp only [List.drop_zero, Nat.sub_zero] at h1 ⊢
 rw [hn] at h1 ⊢
 rw [ha2] at h1
 exact h1

set_option maxHeartbeats 1000000 in
theorem next_any (r : Nat) (s wd : ByteArray) (a : Nat) (w : World) (hb : Blk w r [.string s, .int .i64 (a : Int), .string wd] 205) (hs : s.size ≤ 9223372036854775807) (ha : a + wd.size ≤ s.size) :
  Calls Tryz.prog 142 #[.pointer (some ⟨r, 0, none⟩)] w (RetNil (fun w' => Rd r s (skipW (s.data.toList.drop (a + wd.size))) w' ∧ Chg (OneB r) w w')) := by
 have he := enters_of Tryz.func168 (P := Tryz.prog) (by kernel_rfl) rfl
 have c0 : w.cell? ⟨r, 0, none⟩ = some (.string s) := hb.cell 0
 have c1 : w.cell? ⟨r, 1, none⟩ = some (.int .i64 (a : Int)) := hb.cell 1
 have c2 : w.cell? ⟨r, 2, none⟩ = some (.string wd) := hb.cell 2
 have f1 : w.frozen? ⟨r, 1, none⟩ = false := hb.free 1
 have hai : (a : Int) + wd.size ≤ s.size := by omega
 go_enter Tryz.func142, Tryz.ntmps142
 go_wp2_with fail
 refine wp_region_n (fun w' => w'.cell? ⟨r, 1, none⟩ = some (.int .i64 (a : Int)) ∧ w'.cell? ⟨r, 2, none⟩ = some (.string wd)) [12] (by kernel_rfl) ?_ (fun hSh => ?_)
 ·exact ⟨c1, c2⟩
 refine n_take (v := ?_) 0 rfl (Or.inl ⟨by rfl, ?_⟩) (by kernel_rfl) (fun _ _ _ h => h) (by assumption) ?_
 rotate_left 1
 ·(intro w' hSw; (try dsimp only at hSw); go_simp; try with_reducible rfl)
 simp only [Act.put, List.getElem_toArray, List.getElem_cons_zero, List.getElem_cons_succ, List.setIfInBounds_toArray, List.set_cons_zero, List.set_cons_succ]
 refine n_take (v := ?_) 1 rfl (Or.inl ⟨by rfl, ?_⟩) (by kernel_rfl) (fun _ _ _ h => h) (by assumption) ?_
 rotate_left 1
 ·(intro w' hSw; (try dsimp only at hSw); go_simp; try with_reducible rfl)
 simp only [Act.put, List.getElem_toArray, List.getElem_cons_zero, List.getElem_cons_succ, List.setIfInBounds_toArray, List.set_cons_zero, List.set_cons_succ]
 refine n_take (v := ?_) 2 rfl (Or.inl ⟨by rfl, ?_⟩) (by kernel_rfl) (fun _ _ _ h => h) (by assumption) ?_
 rotate_left 1
 ·(intro w' hSw; (try dsimp only at hSw); go_simp; try with_reducible rfl)
 simp only [Act.put, List.getElem_toArray, List.getElem_cons_zero, List.getElem_cons_succ, List.setIfInBounds_toArray, List.set_cons_zero, List.set_cons_succ]
 refine n_take (v := ?_) 3 rfl (Or.inl ⟨by rfl, ?_⟩) (by kernel_rfl) (fun _ _ _ h => h) (by assumption) ?_
 rotate_left 1
 ·(intro w' hSw; (try dsimp only at hSw); go_simp; try with_reducible rfl)
 simp only [Act.put, List.getElem_toArray, List.getElem_cons_zero, List.getElem_cons_succ, List.setIfInBounds_toArray, List.set_cons_zero, List.set_cons_succ]
 refine n_take (v := ?_) 4 rfl (Or.inl ⟨by rfl, ?_⟩) (by kernel_rfl) (fun _ _ _ h => h) (by assumption) ?_
 rotate_left 1
 ·(intro w' hSw; (try dsimp only at hSw); go_simp; try with_reducible rfl)
 simp only [Act.put, List.getElem_toArray, List.getElem_cons_zero, List.getElem_cons_succ, List.setIfInBounds_toArray, List.set_cons_zero, List.set_cons_succ]
 refine n_take (v := ?_) 5 rfl (Or.inl ⟨by rfl, ?_⟩) (by kernel_rfl) (fun _ _ _ h => h) (by assumption) ?_
 rotate_left 1
 ·(intro w' hSw; (try dsimp only at hSw); go_simp; try with_reducible rfl)
 simp only [Act.put, List.getElem_toArray, List.getElem_cons_zero, List.getElem_cons_succ, List.setIfInBounds_toArray, List.set_cons_zero, List.set_cons_succ]
 refine n_take (v := ?_) 6 rfl (Or.inl ⟨by rfl, ?_⟩) (by kernel_rfl) (fun _ _ _ h => h) (by assumption) ?_
 rotate_left 1
 ·(intro w' hSw; (try dsimp only at hSw); go_simp; try with_reducible rfl)
 simp only [Act.put, List.getElem_toArray, List.getElem_cons_zero, List.getElem_cons_succ, List.setIfInBounds_toArray, List.set_cons_zero, List.set_cons_succ]
 refine n_take (v := ?_) 7 rfl (Or.inl ⟨by rfl, ?_⟩) (by kernel_rfl) (fun _ _ _ h => h) (by assumption) ?_
 rotate_left 1
 ·(intro w' hSw; (try dsimp only at hSw); go_simp; try with_reducible rfl)
 simp only [Act.put, List.getElem_toArray, List.getElem_cons_zero, List.getElem_cons_succ, List.setIfInBounds_toArray, List.set_cons_zero, List.set_cons_succ]
 refine n_take (v := ?_) 8 rfl (Or.inl ⟨by rfl, ?_⟩) (by kernel_rfl) (fun _ _ _ h => h) (by assumption) ?_
 rotate_left 1
 ·(intro w' hSw; (try dsimp only at hSw); go_simp; try with_reducible rfl)
 simp only [Act.put, List.getElem_toArray, List.getElem_cons_zero, List.getElem_cons_succ, List.setIfInBounds_toArray, List.set_cons_zero, List.set_cons_succ]
 refine n_take (v := ?_) 9 rfl (Or.inl ⟨by rfl, ?_⟩) (by kernel_rfl) (fun _ _ _ h => h) (by assumption) ?_
 rotate_left 1
 ·(intro w' hSw; (try dsimp only at hSw); go_simp; try with_reducible rfl)
 simp only [Act.put, List.getElem_toArray, List.getElem_cons_zero, List.getElem_cons_succ, List.setIfInBounds_toArray, List.set_cons_zero, List.set_cons_succ]
 refine n_step 10 rfl (by kernel_rfl) ?_
 go_wp2_with fail
 refine ⟨fun _ => ?_, fun hSk => ?_⟩
 ·assumption
 replace hSk := hSk (by rfl)
 refine n_step 11 rfl (by kernel_rfl) ?_
 go_wp2_with fail
 refine ⟨fun _ => ?_, fun hSk => ?_⟩
 ·assumption
 replace hSk := hSk (by rfl)
 have k1 : w.drew.cell? ⟨r, 1, none⟩ = some (.int .i64 (a : Int)) := c1
 have k2 : w.drew.frozen? ⟨r, 1, none⟩ = false := f1
 refine n_step 12 rfl (by kernel_rfl) ?_
 go_wp2_with fail
 refine ⟨fun hx => absurd hx (by decide), fun _ => ?_⟩
 refine n_done (by kernel_rfl) ?_
 go_wp2_with fail
 rw [show (a : Int) + wd.size = ((a + wd.size : Nat) : Int) from by omega]
 obtain ⟨a1, ha1⟩ : ∃ a1 : Nat, a1 = a + wd.size := ⟨_, rfl⟩
 rw [← ha1]
 have Ha1 := Lib.hid ha1
 have ha1s : (a1 : Int) ≤ s.size := by omega
 have ha1n : a1 ≤ s.size := by omega
 have hb1 : Blk (w.setCell ⟨r, 1, none⟩ (.int .i64 (a1 : Int))).drew r [.string s, .int .i64 (a1 : Int), .string wd] 205 := hb.set 1 _
 have hc1 : Chg (OneB r) w (w.setCell ⟨r, 1, none⟩ (.int .i64 (a1 : Int))).drew := ((Chg.refl (OneB r) w).setCell (p := ⟨r, 1, none⟩) (.inl rfl) _).drew
 generalize (w.setCell ⟨r, 1, none⟩ (.int .i64 (a1 : Int))).drew = w1 at hb1 hc1 ⊢
 clear ha1 k1 k2
 have d0 : w1.cell? ⟨r, 0, none⟩ = some (.string s) := hb1.cell 0
 have d1 : w1.cell? ⟨r, 1, none⟩ = some (.int .i64 (a1 : Int)) := hb1.cell 1
 refine wp_region_n (fun w' => w'.cell? ⟨r, 0, none⟩ = some (.string s) ∧ w'.cell? ⟨r, 1, none⟩ = some (.int .i64 (a1 : Int))) [29] (by kernel_rfl) ?_ (fun hSh => ?_)
 ·exact ⟨d0, d1⟩
 refine n_take (v := ?_) 0 rfl (Or.inl ⟨by rfl, ?_⟩) (by kernel_rfl) (fun _ _ _ h => h) (by assumption) ?_
 rotate_left 1
 ·(intro w' hSw; (try dsimp only at hSw); go_simp; try with_reducible rfl)
 simp only [Act.put, List.getElem_toArray, List.getElem_cons_zero, List.getElem_cons_succ, List.setIfInBounds_toArray, List.set_cons_zero, List.set_cons_succ]
 refine n_take (v := ?_) 1 rfl (Or.inl ⟨by rfl, ?_⟩) (by kernel_rfl) (fun _ _ _ h => h) (by assumption) ?_
 rotate_left 1
 ·(intro w' hSw; (try dsimp only at hSw); go_simp; try with_reducible rfl)
 simp only [Act.put, List.getElem_toArray, List.getElem_cons_zero, List.getElem_cons_succ, List.setIfInBounds_toArray, List.set_cons_zero, List.set_cons_succ]
 refine n_take (v := ?_) 2 rfl (Or.inl ⟨by rfl, ?_⟩) (by kernel_rfl) (fun _ _ _ h => h) (by assumption) ?_
 rotate_left 1
 ·(intro w' hSw; (try dsimp only at hSw); go_simp; try with_reducible rfl)
 simp only [Act.put, List.getElem_toArray, List.getElem_cons_zero, List.getElem_cons_succ, List.setIfInBounds_toArray, List.set_cons_zero, List.set_cons_succ]
 refine n_take (v := ?_) 3 rfl (Or.inl ⟨by rfl, ?_⟩) (by kernel_rfl) (fun _ _ _ h => h) (by assumption) ?_
 rotate_left 1
 ·(intro w' hSw; (try dsimp only at hSw); go_simp; try with_reducible rfl)
 simp only [Act.put, List.getElem_toArray, List.getElem_cons_zero, List.getElem_cons_succ, List.setIfInBounds_toArray, List.set_cons_zero, List.set_cons_succ]
 refine n_take (v := ?_) 4 rfl (Or.inl ⟨by rfl, ?_⟩) (by kernel_rfl) (fun _ _ _ h => h) (by assumption) ?_
 rotate_left 1
 ·(intro w' hSw; (try dsimp only at hSw); go_simp; try with_reducible rfl)
 simp only [Act.put, List.getElem_toArray, List.getElem_cons_zero, List.getElem_cons_succ, List.setIfInBounds_toArray, List.set_cons_zero, List.set_cons_succ]
 refine n_take (v := ?_) 5 rfl (Or.inl ⟨by rfl, ?_⟩) (by kernel_rfl) (fun _ _ _ h => h) (by assumption) ?_
 rotate_left 1
 ·(intro w' hSw; (try dsimp only at hSw); go_simp; try with_reducible rfl)
 simp only [Act.put, List.getElem_toArray, List.getElem_cons_zero, List.getElem_cons_succ, List.setIfInBounds_toArray, List.set_cons_zero, List.set_cons_succ]
 refine n_take (v := ?_) 6 rfl (Or.inl ⟨by rfl, ?_⟩) (by kernel_rfl) (fun _ _ _ h => h) (by assumption) ?_
 rotate_left 1
 ·(intro w' hSw; (try dsimp only at hSw); go_simp; try with_reducible rfl)
 simp only [Act.put, List.getElem_toArray, List.getElem_cons_zero, List.getElem_cons_succ, List.setIfInBounds_toArray, List.set_cons_zero, List.set_cons_succ]
 refine n_take (v := ?_) 7 rfl (Or.inl ⟨by rfl, ?_⟩) (by kernel_rfl) (fun _ _ _ h => h) (by assumption) ?_
 rotate_left 1
 ·(intro w' hSw; (try dsimp only at hSw); go_simp; try with_reducible rfl)
 simp only [Act.put, List.getElem_toArray, List.getElem_cons_zero, List.getElem_cons_succ, List.setIfInBounds_toArray, List.set_cons_zero, List.set_cons_succ]
 refine n_take (v := ?_) 8 rfl (Or.inl ⟨by rfl, ?_⟩) (by kernel_rfl) (fun _ _ _ h => h) (by assumption) ?_
 rotate_left 1
 ·(intro w' hSw; (try dsimp only at hSw); go_simp; try with_reducible rfl)
 simp only [Act.put, List.getElem_toArray, List.getElem_cons_zero, List.getElem_cons_succ, List.setIfInBounds_toArray, List.set_cons_zero, List.set_cons_succ]
 refine n_take (v := ?_) 9 rfl (Or.inl ⟨by rfl, ?_⟩) (by kernel_rfl) (fun _ _ _ h => h) (by assumption) ?_
 rotate_left 1
 ·(intro w' hSw; (try dsimp only at hSw); go_simp; try with_reducible rfl)
 simp only [Act.put, List.getElem_toArray, List.getElem_cons_zero, List.getElem_cons_succ, List.setIfInBounds_toArray, List.set_cons_zero, List.set_cons_succ]
 refine n_take (v := ?_) 10 rfl (Or.inl ⟨by rfl, ?_⟩) (by kernel_rfl) (fun _ _ _ h => h) (by assumption) ?_
 rotate_left 1
 ·(intro w' hSw; (try dsimp only at hSw); go_simp; try with_reducible rfl)
 simp only [Act.put, List.getElem_toArray, List.getElem_cons_zero, List.getElem_cons_succ, List.setIfInBounds_toArray, List.set_cons_zero, List.set_cons_succ]
 refine n_take (v := ?_) 11 rfl (Or.inl ⟨by rfl, ?_⟩) (by kernel_rfl) (fun _ _ _ h => h) (by assumption) ?_
 rotate_left 1
 ·(intro w' hSw; (try dsimp only at hSw); go_simp; try with_reducible rfl)
 simp only [Act.put, List.getElem_toArray, List.getElem_cons_zero, List.getElem_cons_succ, List.setIfInBounds_toArray, List.set_cons_zero, List.set_cons_succ]
 refine n_take (v := ?_) 12 rfl (Or.inl ⟨by rfl, ?_⟩) (by kernel_rfl) (fun _ _ _ h => h) (by assumption) ?_
 rotate_left 1
 ·(intro w' hSw; (try dsimp only at hSw); go_simp; try with_reducible rfl)
 simp only [Act.put, List.getElem_toArray, List.getElem_cons_zero, List.getElem_cons_succ, List.setIfInBounds_toArray, List.set_cons_zero, List.set_cons_succ]
 refine n_take (v := ?_) 13 rfl (Or.inl ⟨by rfl, ?_⟩) (by kernel_rfl) (fun _ _ _ h => h) (by assumption) ?_
 rotate_left 1
 ·(intro w' hSw; (try dsimp only at hSw); go_simp; try with_reducible rfl)
 simp only [Act.put, List.getElem_toArray, List.getElem_cons_zero, List.getElem_cons_succ, List.setIfInBounds_toArray, List.set_cons_zero, List.set_cons_succ]
 refine n_take (v := ?_) 14 rfl (Or.inl ⟨by rfl, ?_⟩) (by kernel_rfl) (fun _ _ _ h => h) (by assumption) ?_
 rotate_left 1
 ·(intro w' hSw; (try dsimp only at hSw); go_simp; try with_reducible rfl)
 simp only [Act.put, List.getElem_toArray, List.getElem_cons_zero, List.getElem_cons_succ, List.setIfInBounds_toArray, List.set_cons_zero, List.set_cons_succ]
 refine n_take (v := ?_) 15 rfl (Or.inl ⟨by rfl, ?_⟩) (by kernel_rfl) (fun _ _ _ h => h) (by assumption) ?_
 rotate_left 1
 ·(intro w' hSw; (try dsimp only at hSw); go_simp; try with_reducible rfl)
 simp only [Act.put, List.getElem_toArray, List.getElem_cons_zero, List.getElem_cons_succ, List.setIfInBounds_toArray, List.set_cons_zero, List.set_cons_succ]
 refine n_take (v := ?_) 16 rfl (Or.inl ⟨by rfl, ?_⟩) (by kernel_rfl) (fun _ _ _ h => h) (by assumption) ?_
 rotate_left 1
 ·(intro w' hSw; (try dsimp only at hSw); go_simp; try with_reducible rfl)
 simp only [Act.put, List.getElem_toArray, List.getElem_cons_zero, List.getElem_cons_succ, List.setIfInBounds_toArray, List.set_cons_zero, List.set_cons_succ]
 refine n_take (v := ?_) 17 rfl (Or.inl ⟨by rfl, ?_⟩) (by kernel_rfl) (fun _ _ _ h => h) (by assumption) ?_
 rotate_left 1
 ·(intro w' hSw; (try dsimp only at hSw); go_simp; try with_reducible rfl)
 simp only [Act.put, List.getElem_toArray, List.getElem_cons_zero, List.getElem_cons_succ, List.setIfInBounds_toArray, List.set_cons_zero, List.set_cons_succ]
 refine n_take (v := ?_) 18 rfl (Or.inl ⟨by rfl, ?_⟩) (by kernel_rfl) (fun _ _ _ h => h) (by assumption) ?_
 rotate_left 1
 ·(intro w' hSw; (try dsimp only at hSw); go_simp; try with_reducible rfl)
 simp only [Act.put, List.getElem_toArray, List.getElem_cons_zero, List.getElem_cons_succ, List.setIfInBounds_toArray, List.set_cons_zero, List.set_cons_succ]
 refine n_take (v := ?_) 19 rfl (Or.inl ⟨by rfl, ?_⟩) (by kernel_rfl) (fun _ _ _ h => h) (by assumption) ?_
 rotate_left 1
 ·(intro w' hSw; (try dsimp only at hSw); go_simp; try with_reducible rfl)
 simp only [Act.put, List.getElem_toArray, List.getElem_cons_zero, List.getElem_cons_succ, List.setIfInBounds_toArray, List.set_cons_zero, List.set_cons_succ]
 refine n_take (v := ?_) 20 rfl (Or.inl ⟨by rfl, ?_⟩) (by kernel_rfl) (fun _ _ _ h => h) (by assumption) ?_
 rotate_left 1
 ·(intro w' hSw; (try dsimp only at hSw); go_simp; try with_reducible rfl)
 simp only [Act.put, List.getElem_toArray, List.getElem_cons_zero, List.getElem_cons_succ, List.setIfInBounds_toArray, List.set_cons_zero, List.set_cons_succ]
 refine n_take (v := ?_) 21 rfl (Or.inl ⟨by rfl, ?_⟩) (by kernel_rfl) (fun _ _ _ h => h) (by assumption) ?_
 rotate_left 1
 ·(intro w' hSw; (try dsimp only at hSw); go_simp; try with_reducible rfl)
 simp only [Act.put, List.getElem_toArray, List.getElem_cons_zero, List.getElem_cons_succ, List.setIfInBounds_toArray, List.set_cons_zero, List.set_cons_succ]
 refine n_take (v := ?_) 22 rfl (Or.inl ⟨by rfl, ?_⟩) (by kernel_rfl) (fun _ _ _ h => h) (by assumption) ?_
 rotate_left 1
 ·(intro w' hSw; (try dsimp only at hSw); go_simp; try with_reducible rfl)
 simp only [Act.put, List.getElem_toArray, List.getElem_cons_zero, List.getElem_cons_succ, List.setIfInBounds_toArray, List.set_cons_zero, List.set_cons_succ]
 refine n_step 23 rfl (by kernel_rfl) ?_
 go_wp2_with fail
 refine (trimLeft_any (s.extract a1 s.size) ⟨#[32, 10]⟩ w1.drew (by decide) (by decide)).mono ?_
 rintro en w2 ⟨rfl, hc2⟩
 replace hc2 := hc2.ofDrew
 rw [drop_data s a1]
 have hb2 := hb1.keep hc2 NoB.elim
 have hlen : (skipW (s.data.toList.drop a1)).length ≤ s.size - a1 := by
  have h1 := trimLeft_len (s.data.toList.drop a1) [32, 10]
  rw [List.length_drop, length_data] at h1
  exact h1
 have hskip : Lib.trimLeftS (s.data.toList.drop a1) (⟨#[32, 10]⟩ : ByteArray).data.toList = skipW (s.data.toList.drop a1) := rfl
 rw [hskip]
 go_wp2_with fail
 refine ⟨fun _ => ⟨hb2.cell 0, hb2.cell 1⟩, fun hSk => ?_⟩
 replace hSk := hSk (by rfl)
 refine n_take (v := ?_) 24 rfl (Or.inl ⟨by rfl, ?_⟩) (by kernel_rfl) (fun _ _ _ h => h) (by assumption) ?_
 rotate_left 1
 ·(intro w' hSw; (try dsimp only at hSw); go_simp; try with_reducible rfl)
 simp only [Act.put, List.getElem_toArray, List.getElem_cons_zero, List.getElem_cons_succ, List.setIfInBounds_toArray, List.set_cons_zero, List.set_cons_succ]
 refine n_take (v := ?_) 25 rfl (Or.inl ⟨by rfl, ?_⟩) (by kernel_rfl) (fun _ _ _ h => h) (by assumption) ?_
 rotate_left 1
 ·(intro w' hSw; (try dsimp only at hSw); go_simp; try with_reducible rfl)
 simp only [Act.put, List.getElem_toArray, List.getElem_cons_zero, List.getElem_cons_succ, List.setIfInBounds_toArray, List.set_cons_zero, List.set_cons_succ]
 refine n_take (v := ?_) 26 rfl (Or.inl ⟨by rfl, ?_⟩) (by kernel_rfl) (fun _ _ _ h => h) (by assumption) ?_
 rotate_left 1
 ·(intro w' hSw; (try dsimp only at hSw); go_simp; try with_reducible rfl)
 simp only [Act.put, List.getElem_toArray, List.getElem_cons_zero, List.getElem_cons_succ, List.setIfInBounds_toArray, List.set_cons_zero, List.set_cons_succ]
 refine n_step 27 rfl (by kernel_rfl) ?_
 go_wp2_with fail
 refine ⟨fun _ => ?_, fun hSk => ?_⟩
 ·assumption
 replace hSk := hSk (by rfl)
 refine n_step 28 rfl (by kernel_rfl) ?_
 go_wp2_with fail
 refine ⟨fun _ => ?_, fun hSk => ?_⟩
 ·assumption
 replace hSk := hSk (by rfl)
 have k1 : w2.cell? ⟨r, 1, none⟩ = some (.int .i64 (a1 : Int)) := hb2.cell 1
 have k2 : w2.frozen? ⟨r, 1, none⟩ = false := hb2.free 1
 refine n_step 29 rfl (by kernel_rfl) ?_
 go_wp2_with fail
 refine ⟨fun hx => absurd hx (by decide), fun _ => ?_⟩
 refine n_done (by kernel_rfl) ?_
 go_wp2_with fail
 obtain ⟨rest, hrest⟩ : ∃ rest, rest = skipW (s.data.toList.drop a1) := ⟨_, rfl⟩
 have Hrest := Lib.hid hrest
 have hsuf : rest <:+ s.data.toList := by
  rw [hrest]
  exact (List.dropWhile_suffix _).trans (List.drop_suffix _ _)
 rw [← hrest] at hlen
 obtain ⟨a2, ha2⟩ : ∃ a2 : Nat, a2 = s.size - rest.length := ⟨_, rfl⟩
 rw [← hrest, show (a1 : Int) + (((s.size - a1 : Nat) : Int) - ((rest.length : Nat) : Int)) = (a2 : Int) from by omega]
 have ha2i : (a2 : Int) ≤ s.size := by omega
 have hdrop : s.data.toList.drop a2 = rest := by
  rw [ha2, ← length_data]
  exact (List.suffix_iff_eq_drop.1 hsuf).symm
 have hstr : s.extract a2 s.size = ⟨rest.toArray⟩ := by
  have := drop_data s a2
  rw [hdrop] at this
  rw [← this]
 have hb3 : Blk (w2.setCell ⟨r, 1, none⟩ (.int .i64 (a2 : Int))) r [.string s, .int .i64 (a2 : Int), .string wd] 205 := hb2.set 1 _
 have hc3 : Chg (OneB r) w (w2.setCell ⟨r, 1, none⟩ (.int .i64 (a2 : Int))) := (hc1.tr hc2).setCell (p := ⟨r, 1, none⟩) (.inl rfl) _
 generalize w2.setCell ⟨r, 1, none⟩ (.int .i64 (a2 : Int)) = w3 at hb3 hc3 ⊢
 have Ha2 := Lib.hid ha2
 have Hstr := Lib.hid hstr
 clear hstr
 clear hrest k1 k2 hskip ha2
 have g0 : w3.cell? ⟨r, 0, none⟩ = some (.string s) := hb3.cell 0
 have g1 : w3.cell? ⟨r, 1, none⟩ = some (.int .i64 (a2 : Int)) := hb3.cell 1
 refine wp_region_n (fun w' => w'.cell? ⟨r, 0, none⟩ = some (.string s) ∧ w'.cell? ⟨r, 1, none⟩ = some (.int .i64 (a2 : Int))) [10] (by kernel_rfl) ?_ (fun hSh => ?_)
 ·exact ⟨g0, g1⟩
 refine n_take (v := ?_) 0 rfl (Or.inl ⟨by rfl, ?_⟩) (by kernel_rfl) (fun _ _ _ h => h) (by assumption) ?_
 rotate_left 1
 ·(intro w' hSw; (try dsimp only at hSw); go_simp; try with_reducible rfl)
 simp only [Act.put, List.getElem_toArray, List.getElem_cons_zero, List.getElem_cons_succ, List.setIfInBounds_toArray, List.set_cons_zero, List.set_cons_succ]
 refine n_take (v := ?_) 1 rfl (Or.inl ⟨by rfl, ?_⟩) (by kernel_rfl) (fun _ _ _ h => h) (by assumption) ?_
 rotate_left 1
 ·(intro w' hSw; (try dsimp only at hSw); go_simp; try with_reducible rfl)
 simp only [Act.put, List.getElem_toArray, List.getElem_cons_zero, List.getElem_cons_succ, List.setIfInBounds_toArray, List.set_cons_zero, List.set_cons_succ]
 refine n_take (v := ?_) 2 rfl (Or.inl ⟨by rfl, ?_⟩) (by kernel_rfl) (fun _ _ _ h => h) (by assumption) ?_
 rotate_left 1
 ·(intro w' hSw; (try dsimp only at hSw); go_simp; try with_reducible rfl)
 simp only [Act.put, List.getElem_toArray, List.getElem_cons_zero, List.getElem_cons_succ, List.setIfInBounds_toArray, List.set_cons_zero, List.set_cons_succ]
 refine n_take (v := ?_) 3 rfl (Or.inl ⟨by rfl, ?_⟩) (by kernel_rfl) (fun _ _ _ h => h) (by assumption) ?_
 rotate_left 1
 ·(intro w' hSw; (try dsimp only at hSw); go_simp; try with_reducible rfl)
 simp only [Act.put, List.getElem_toArray, List.getElem_cons_zero, List.getElem_cons_succ, List.setIfInBounds_toArray, List.set_cons_zero, List.set_cons_succ]
 refine n_take (v := ?_) 4 rfl (Or.inl ⟨by rfl, ?_⟩) (by kernel_rfl) (fun _ _ _ h => h) (by assumption) ?_
 rotate_left 1
 ·(intro w' hSw; (try dsimp only at hSw); go_simp; try with_reducible rfl)
 simp only [Act.put, List.getElem_toArray, List.getElem_cons_zero, List.getElem_cons_succ, List.setIfInBounds_toArray, List.set_cons_zero, List.set_cons_succ]
 refine n_take (v := ?_) 5 rfl (Or.inl ⟨by rfl, ?_⟩) (by kernel_rfl) (fun _ _ _ h => h) (by assumption) ?_
 rotate_left 1
 ·(intro w' hSw; (try dsimp only at hSw); go_simp; try with_reducible rfl)
 simp only [Act.put, List.getElem_toArray, List.getElem_cons_zero, List.getElem_cons_succ, List.setIfInBounds_toArray, List.set_cons_zero, List.set_cons_succ]
 refine n_take (v := ?_) 6 rfl (Or.inl ⟨by rfl, ?_⟩) (by kernel_rfl) (fun _ _ _ h => h) (by assumption) ?_
 rotate_left 1
 ·(intro w' hSw; (try dsimp only at hSw); go_simp; try with_reducible rfl)
 simp only [Act.put, List.getElem_toArray, List.getElem_cons_zero, List.getElem_cons_succ, List.setIfInBounds_toArray, List.set_cons_zero, List.set_cons_succ]
 refine n_take (v := ?_) 7 rfl (Or.inl ⟨by rfl, ?_⟩) (by kernel_rfl) (fun _ _ _ h => h) (by assumption) ?_
 rotate_left 1
 ·(intro w' hSw; (try dsimp only at hSw); go_simp; try with_reducible rfl)
 simp only [Act.put, List.getElem_toArray, List.getElem_cons_zero, List.getElem_cons_succ, List.setIfInBounds_toArray, List.set_cons_zero, List.set_cons_succ]
 refine n_take (v := ?_) 8 rfl (Or.inl ⟨by rfl, ?_⟩) (by kernel_rfl) (fun _ _ _ h => h) (by assumption) ?_
 rotate_left 1
 ·(intro w' hSw; (try dsimp only at hSw); go_simp; try with_reducible rfl)
 simp only [Act.put, List.getElem_toArray, List.getElem_cons_zero, List.getElem_cons_succ, List.setIfInBounds_toArray, List.set_cons_zero, List.set_cons_succ]
 rw [Hstr.out]
 refine n_step 9 rfl (by kernel_rfl) ?_
 go_wp2_with fail
 generalize hw4 : World.alloc _ _ = w4
 have hc4 : Chg NoB w3 w4 := by
  rw [← hw4]
  repeat (first | exact Chg.refl _ _ | apply Chg.alloc | apply Chg.drew)
 have hd4 : Blk w4 (w3.heap.size) ([.string ⟨#[]⟩]) 9 := by
  rw [← hw4]
  repeat (first | exact Blk.newAt (by first | rfl | (simp; done) | (simp; omega)) | apply Blk.alloc | apply Blk.drew)
 clear hw4
 replace hc4 := hc4.drew
 replace hd4 := hd4.drew
 generalize w4.drew = w4 at hc4 hd4 ⊢
 have hb4 := hb3.keep hc4 NoB.elim
 have hrne : r ≠ w3.heap.size := by have := hb3.lt; omega
 have x1 : w4.cell? ⟨w3.heap.size, 0, none⟩ = some (.string ⟨#[]⟩) := hd4.cell 0
 have x2 : w4.frozen? ⟨w3.heap.size, 0, none⟩ = false := hd4.free 0
 refine ⟨fun _ => ⟨hb4.cell 0, hb4.cell 1⟩, fun hSk => ?_⟩
 replace hSk := hSk (by rfl)
 refine n_step 10 rfl (by kernel_rfl) ?_
 go_wp2_with fail
 refine ⟨fun hx => absurd hx (by decide), fun _ => ?_⟩
 refine n_done (by kernel_rfl) ?_
 have hd5 : Blk (w4.setCell ⟨w3.heap.size, 0, none⟩ (.string ⟨rest.toArray⟩)) w3.heap.size [.string ⟨rest.toArray⟩] 9 := hd4.set 0 _
 have hb5 : Blk (w4.setCell ⟨w3.heap.size, 0, none⟩ (.string ⟨rest.toArray⟩)) r [.string s, .int .i64 (a2 : Int), .string wd] 205 := hb4.other (p := ⟨w3.heap.size, 0, none⟩) hrne _
 have hc5 : Chg (OneB r) w (w4.setCell ⟨w3.heap.size, 0, none⟩ (.string ⟨rest.toArray⟩)) := (hc3.tr hc4).setCell (p := ⟨w3.heap.size, 0, none⟩) (.inr hc3.size) _
 generalize w4.setCell ⟨w3.heap.size, 0, none⟩ (.string ⟨rest.toArray⟩) = w5 at hd5 hb5 hc5 ⊢
 generalize w3.heap.size = bx at hd5 hrne x1 x2 hd4 ⊢
 clear x1 x2 hSk hSh hd4 hb4 hc4 hb3 hc3 g0 g1 hb2 hc2 d0 d1 hb1 hc1 c0 c1 c2 f1 hb
 have y0 : w5.cell? ⟨bx, 0, none⟩ = some (.string ⟨rest.toArray⟩) := hd5.cell 0
 have y2 : w5.cell? ⟨r, 2, none⟩ = some (.string wd) := hb5.cell 2
 have yf : w5.frozen? ⟨r, 2, none⟩ = false := hb5.free 2
 have hend := next_end r s wd a2 rest w w5 hb5 hc5 hsuf Ha2.out
 have Hend := Lib.hid hend
 clear hend
 have hrs : rest.length ≤ s.size := by have := hsuf.length_le; rw [length_data] at this; exact this
 rw [Ha1.out] at Hrest
 rcases rest with _ | ⟨ch, rs⟩
 ·go_wp2_with fail
  go_end0
  rw [← Hrest.out]
  exact Hend.out _ rfl
 have hcs := length_cons_le rs hs hrs
 by_cases hc35 : ch.toNat = 35
 ·have h35 : ((((⟨(ch :: rs).toArray⟩ : ByteArray)[0]'hcs.2).toNat : Int) == 35) = true := by show ((ch.toNat : Int) == 35) = true; simp [hc35]
  obtain ⟨n, hn⟩ : ∃ n, n = (ch :: rs).length - (Lib.trimLeftS rs digits).length := ⟨_, rfl⟩
  have htk := tok_hash ch rs hc35
  rw [← hn] at htk
  have hnb : (n : Int) ≤ (rs.length : Int) + 1 := by simp at hn; omega
  have Htk := Lib.hid htk
  have Hn := Lib.hid hn
  clear htk hn
  go_wp2_with fail
  refine (span_list (ch :: rs) ⟨#[48, 49, 50, 51, 52, 53, 54, 55, 56, 57]⟩ 1 n bx w5 hd5 hcs.1 hcs.2 (by decide) (by decide) Hn.out).mono ?_
  rintro en w6 ⟨rfl, hc6⟩
  have yb6 := hb5.keep hc6 NoB.elim
  have y6 : w6.cell? ⟨bx, 0, none⟩ = some (.string ⟨(ch :: rs).toArray⟩) := (hd5.keep hc6 NoB.elim).cell 0
  have z2 : w6.cell? ⟨r, 2, none⟩ = some (.string wd) := yb6.cell 2
  have zf : w6.frozen? ⟨r, 2, none⟩ = false := yb6.free 2
  go_wp2_with fail
  go_end0
  rw [← Hrest.out]
  exact next_end r s wd a2 (ch :: rs) w w6 yb6 (hc5.tr hc6) hsuf Ha2.out _ Htk.out
 have h35 : ((((⟨(ch :: rs).toArray⟩ : ByteArray)[0]'hcs.2).toNat : Int) == 35) = false := by show ((ch.toNat : Int) == 35) = false; simp; omega
 by_cases hl1 : 97 ≤ ch.toNat
 ·by_cases hl2 : ch.toNat ≤ 122
  ·have hl : lower ch = true := by simp [lower, hl1, hl2]
   have hl1' : (97 : Int) ≤ (((⟨(ch :: rs).toArray⟩ : ByteArray)[0]'hcs.2).toNat : Int) := by show (97 : Int) ≤ ch.toNat; omega
   have hl2' : (((⟨(ch :: rs).toArray⟩ : ByteArray)[0]'hcs.2).toNat : Int) ≤ 122 := by show (ch.toNat : Int) ≤ 122; omega
   obtain ⟨n, hn⟩ : ∃ n, n = (ch :: rs).length - (Lib.trimLeftS ((ch :: rs).drop 0) abc.data.toList).length := ⟨_, rfl⟩
   have htk := tok_lower ch rs hc35 hl
   have hn' : n = (ch :: rs).length - (Lib.trimLeftS (ch :: rs) letters).length := by rw [hn, abc_list]; rfl
   rw [← hn'] at htk
   have hnb : (n : Int) ≤ (rs.length : Int) + 1 := by simp at hn; omega
   have Htk := Lib.hid htk
   have Hn := Lib.hid hn
   clear htk hn hn'
   go_wp2_with fail
   refine (span_list (ch :: rs) abc 0 n bx w5 hd5 hcs.1 (Nat.zero_le _) abc_size abc_ascii Hn.out).mono ?_
   rintro en w6 ⟨rfl, hc6⟩
   have yb6 := hb5.keep hc6 NoB.elim
   have y6 : w6.cell? ⟨bx, 0, none⟩ = some (.string ⟨(ch :: rs).toArray⟩) := (hd5.keep hc6 NoB.elim).cell 0
   have z2 : w6.cell? ⟨r, 2, none⟩ = some (.string wd) := yb6.cell 2
   have zf : w6.frozen? ⟨r, 2, none⟩ = false := yb6.free 2
   go_wp2_with fail
   go_end0
   rw [← Hrest.out]
   exact next_end r s wd a2 (ch :: rs) w w6 yb6 (hc5.tr hc6) hsuf Ha2.out _ Htk.out
  ·have hl : ¬ lower ch = true := by simp [lower, hl2]
   have hl1' : (97 : Int) ≤ (((⟨(ch :: rs).toArray⟩ : ByteArray)[0]'hcs.2).toNat : Int) := by show (97 : Int) ≤ ch.toNat; omega
   have hl2' : ¬ (((⟨(ch :: rs).toArray⟩ : ByteArray)[0]'hcs.2).toNat : Int) ≤ 122 := by show ¬ (ch.toNat : Int) ≤ 122; omega
   have Htk := Lib.hid (tok_other ch rs hc35 hl)
   go_wp2_with fail
   go_end0
   rw [← Hrest.out]
   exact Hend.out _ (by rw [show (min 1 ((rs.length : Int) + 1)).toNat = 1 by omega]; exact Htk.out)
 ·have hl : ¬ lower ch = true := by simp [lower, hl1]
  have hl1' : ¬ (97 : Int) ≤ (((⟨(ch :: rs).toArray⟩ : ByteArray)[0]'hcs.2).toNat : Int) := by show ¬ (97 : Int) ≤ ch.toNat; omega
  have Htk := Lib.hid (tok_other ch rs hc35 hl)
  go_wp2_with fail
  go_end0
  rw [← Hrest.out]
  exact Hend.out _ (by rw [show (min 1 ((rs.length : Int) + 1)).toNat = 1 by omega]; exact Htk.out)
end Go.Proofs.YtgcmfpcgmkkobaaGreatDoor
namespace Go.Proofs.YtgcmfpcgmkkobaaGreatDoor
open Go.RowKit

def nxt (rest : List UInt8) : List UInt8 := skipW (rest.drop (tok rest).length)
theorem tok_le (l : List UInt8) : (tok l).length ≤ l.length := by
 cases l with
 | nil => simp [tok]
 | cons c r =>
  have h1 := (List.takeWhile_sublist (digits.contains ·) (l := r)).length_le
  have h2 := (List.takeWhile_sublist lower (l := c :: r)).length_le
  simp only [tok]
  split
  ·simp only [List.length_cons]; omega
  ·split
   ·exact h2
   ·simp
theorem tok_pos {l : List UInt8} (h : l ≠ []) : 1 ≤ (tok l).length := by
 cases l with
 | nil => exact absurd rfl h
 | cons c r =>
  simp only [tok]
  split
  ·simp
  ·split
   ·rename_i hl
    rw [List.takeWhile_cons, if_pos hl]; simp
   ·simp
theorem tok_nil {l : List UInt8} : tok l = [] ↔ l = [] := by
 constructor
 ·intro h
  cases l with
  | nil => rfl
  | cons c r => have := tok_pos (l := c :: r) (by simp); rw [h] at this; simp at this
 ·rintro rfl; rfl
theorem nxt_le (l : List UInt8) : (nxt l).length ≤ l.length - (tok l).length := by
 unfold nxt skipW
 have := (List.dropWhile_sublist (([32, 10] : List UInt8).contains ·) (l := l.drop (tok l).length)).length_le
 rwa [List.length_drop] at this
theorem nxt_lt {l : List UInt8} (h : l ≠ []) : (nxt l).length < l.length := by
 have h1 := nxt_le l
 have h2 := tok_pos h
 have h3 := tok_le l
 omega
theorem nxt_le' (l : List UInt8) : (nxt l).length ≤ l.length := by have := nxt_le l; omega

inductive PR where
 | ok (l : List Nd) (rest : List UInt8)
 | bad (e : Er) (rest : List UInt8)
def PR.cons (n : Nd) : PR → PR
 | .ok l r => .ok (n :: l) r
 | .bad e r => .bad e r
def PR.app (a : List Nd) : PR → PR
 | .ok l r => .ok (a ++ l) r
 | .bad e r => .bad e r
theorem PR.app_cons (a : List Nd) (n : Nd) (p : PR) : (p.cons n).app a = p.app (a ++ [n]) := by cases p <;> simp [PR.cons, PR.app]

def idxT (l : List ByteArray) (w : List UInt8) : Int := Lib.idxOfS l ⟨w.toArray⟩
def headB : List UInt8 → Bool
 | [] => false
 | c :: _ => lower c
def numOk (w : List UInt8) : Option Int := match Lib.atoiAll w with
 | .ok v => some v
 | _ => none
def wordId : List UInt8 → Option Int
 | [] => none
 | c :: ds => if c.toNat = 35 then (match numOk ds with
  | none => none
  | some v => if 4 < ds.length then none else if ds.head? = some 48 then none else some v) else none

inductive Step where
 | stop
 | bad (e : Er) (rest : List UInt8)
 | leaf (n : Nd) (rest : List UInt8)
 | group (i : Int) (nm : ByteArray) (r : Int) (rest : List UInt8)
/-- One node's head. -/
def headN (deep : Int) (rest : List UInt8) : Step :=
 if tok rest = [125] ∨ (tok rest = [] ∧ deep ≤ 2) then .stop
 else if idxT repT (tok rest) < 1 then .bad .text rest
 else if idxT kindT (tok (nxt rest)) < 0 then .bad .text (nxt rest)
 else if headB (tok (nxt (nxt rest))) = false then .bad .text (nxt (nxt rest))
 else match wordId (tok (nxt (nxt (nxt rest)))) with
 | none => .bad .text (nxt (nxt (nxt rest)))
 | some i =>
  if idxT kindT (tok (nxt rest)) = 0 then
   (if tok (nxt (nxt (nxt (nxt rest)))) ≠ [123] then .bad .text (nxt (nxt (nxt (nxt rest))))
   else if 6 ≤ deep then .bad .bound (nxt (nxt (nxt (nxt rest))))
   else .group i ⟨(tok (nxt (nxt rest))).toArray⟩ (idxT repT (tok rest)) (nxt (nxt (nxt (nxt (nxt rest))))))
  else if tok (nxt (nxt (nxt (nxt rest)))) ≠ [59] then .bad .text (nxt (nxt (nxt (nxt rest))))
  else .leaf (.mk i ⟨(tok (nxt (nxt rest))).toArray⟩ (idxT repT (tok rest)) (idxT kindT (tok (nxt rest))) []) (nxt (nxt (nxt (nxt (nxt rest)))))
theorem idx_nil : idxT repT [] = 0 := by rfl
theorem nxt4_lt {rest : List UInt8} (h : rest ≠ []) : (nxt (nxt (nxt (nxt (nxt rest))))).length < rest.length := by
 have := nxt_lt h
 have := nxt_le' (nxt rest)
 have := nxt_le' (nxt (nxt rest))
 have := nxt_le' (nxt (nxt (nxt rest)))
 have := nxt_le' (nxt (nxt (nxt (nxt rest))))
 omega
theorem head_ne {deep : Int} {rest : List UInt8} (h : ¬ idxT repT (tok rest) < 1) : rest ≠ [] := by
 rintro rfl
 exact h (by rw [show tok [] = [] from rfl, idx_nil]; omega)

def parseL (deep : Int) (rest : List UInt8) : PR :=
 match headN deep rest with
 | .stop => .ok [] rest
 | .bad e r => .bad e r
 | .leaf n r => if _h : r.length < rest.length then (parseL deep r).cons n else .bad .text r
 | .group i nm p r => if _h : r.length < rest.length then
   (match parseL (deep + 1) r with
   | .bad e q => .bad e q
   | .ok sub q => if tok q ≠ [125] then .bad .text q else if _h2 : (nxt q).length < rest.length then (parseL deep (nxt q)).cons (.mk i nm p 0 sub) else .bad .text q)
   else .bad .text r
termination_by rest.length

theorem head_leaf {deep : Int} {rest q : List UInt8} {n : Nd} (h : headN deep rest = .leaf n q) : q.length < rest.length := by
 unfold headN at h
 split at h
 ·cases h
 split at h
 ·cases h
 rename_i _ hi
 split at h
 ·cases h
 split at h
 ·cases h
 split at h
 ·cases h
 split at h
 ·split at h
  ·cases h
  ·split at h <;> cases h
 ·split at h
  ·cases h
  ·cases h
   exact nxt4_lt (head_ne (deep := deep) hi)
theorem head_group {deep : Int} {rest q : List UInt8} {i p : Int} {nm : ByteArray} (h : headN deep rest = .group i nm p q) : q.length < rest.length ∧ deep < 6 := by
 unfold headN at h
 split at h
 ·cases h
 split at h
 ·cases h
 rename_i _ hi
 split at h
 ·cases h
 split at h
 ·cases h
 split at h
 ·cases h
 split at h
 ·split at h
  ·cases h
  ·split at h
   ·cases h
   ·rename_i hd
    cases h
    exact ⟨nxt4_lt (head_ne (deep := deep) hi), by omega⟩
 ·split at h <;> cases h
theorem parse_stop {deep : Int} {rest : List UInt8} (h : headN deep rest = .stop) : parseL deep rest = .ok [] rest := by
 rw [parseL, h]
theorem parse_bad {deep : Int} {rest q : List UInt8} {e : Er} (h : headN deep rest = .bad e q) : parseL deep rest = .bad e q := by
 rw [parseL, h]
theorem parse_leaf {deep : Int} {rest q : List UInt8} {n : Nd} (h : headN deep rest = .leaf n q) : parseL deep rest = (parseL deep q).cons n := by
 rw [parseL, h]
 simp only [dif_pos (head_leaf h)]
theorem PR.cons_ok {n : Nd} {p : PR} {l : List Nd} {q : List UInt8} (h : p.cons n = .ok l q) : ∃ l', p = .ok l' q := by
 cases p with
 | ok l' r => simp only [PR.cons, PR.ok.injEq] at h; exact ⟨l', by rw [h.2]⟩
 | bad e r => simp [PR.cons] at h
theorem parse_le : ∀ (m : Nat) (deep : Int) (rest : List UInt8) (l : List Nd) (q : List UInt8), rest.length ≤ m → parseL deep rest = .ok l q → q.length ≤ rest.length := by
 intro m
 induction m using Nat.strongRecOn with
 | _ m ih =>
  intro deep rest l q hm h
  rw [parseL] at h
  split at h
  ·cases h; exact Nat.le_refl _
  ·cases h
  ·split at h
   ·rename_i hlt
    obtain ⟨l', h'⟩ := PR.cons_ok h
    have := ih _ (by omega) deep _ _ _ (Nat.le_refl _) h'
    omega
   ·cases h
  ·split at h
   ·rename_i hlt
    split at h
    ·cases h
    ·split at h
     ·cases h
     ·split at h
      ·rename_i hlt2
       obtain ⟨l', h'⟩ := PR.cons_ok h
       have := ih _ (by omega) deep _ _ _ (Nat.le_refl _) h'
       omega
      ·cases h
   ·cases h
theorem parse_group_bad {deep : Int} {rest q q2 : List UInt8} {i p : Int} {nm : ByteArray} {e : Er} (h : headN deep rest = .group i nm p q) (h2 : parseL (deep + 1) q = .bad e q2) : parseL deep rest = .bad e q2 := by
 rw [parseL, h]
 simp only [dif_pos (head_group h).1, h2]
theorem parse_group_open {deep : Int} {rest q q2 : List UInt8} {i p : Int} {nm : ByteArray} {sub : List Nd} (h : headN deep rest = .group i nm p q) (h2 : parseL (deep + 1) q = .ok sub q2) (h3 : tok q2 ≠ [125]) : parseL deep rest = .bad .text q2 := by
 rw [parseL, h]
 simp only [dif_pos (head_group h).1, h2]
 rw [if_pos h3]
theorem parse_group {deep : Int} {rest q q2 : List UInt8} {i p : Int} {nm : ByteArray} {sub : List Nd} (h : headN deep rest = .group i nm p q) (h2 : parseL (deep + 1) q = .ok sub q2) (h3 : tok q2 = [125]) :
  parseL deep rest = (parseL deep (nxt q2)).cons (.mk i nm p 0 sub) ∧ (nxt q2).length < rest.length := by
 have h4 := (head_group h).1
 have h5 := parse_le _ _ _ _ _ (Nat.le_refl _) h2
 have h6 := nxt_le' q2
 have h7 : (nxt q2).length < rest.length := by omega
 refine ⟨?_, h7⟩
 rw [parseL, h]
 simp only [dif_pos h4, h2]
 rw [if_neg (by simp [h3]), dif_pos h7]
end Go.Proofs.YtgcmfpcgmkkobaaGreatDoor
namespace Go.Proofs.YtgcmfpcgmkkobaaGreatDoor
open Go.RowKit

/-- What the package's variables hold, below block B. -/
structure Glo (B : Nat) (E : Er → Value) (w : World) : Prop where
 errs : Errs w E
 tabs : Tabs B w
 syn : ∃ T p, w.cell? ⟨13, 0, none⟩ = some (.iface T p)
 ran : ∃ T p, w.cell? ⟨14, 0, none⟩ = some (.iface T p)
 below : (∀ e : Er, e.g < B) ∧ 13 < B ∧ 14 < B
theorem Glo.keep {B : Nat} {E : Er → Value} {C : Nat → Prop} {w w' : World} (h : Glo B E w) (hc : Chg C w w') (hC : ∀ b, b < B → ¬ C b) : Glo B E w' := by
 refine ⟨⟨fun e => ?_, h.errs.form⟩, h.tabs.keep hc hC, ?_, ?_, h.below⟩
 ·have h1 := h.errs.cell e
  exact (hc.cell (lt_of_cell h1) (hC _ (h.below.1 e))).trans h1
 ·obtain ⟨T, p, h1⟩ := h.syn
  exact ⟨T, p, (hc.cell (lt_of_cell h1) (hC _ h.below.2.1)).trans h1⟩
 ·obtain ⟨T, p, h1⟩ := h.ran
  exact ⟨T, p, (hc.cell (lt_of_cell h1) (hC _ h.below.2.2)).trans h1⟩
theorem Glo.keep0 {B : Nat} {E : Er → Value} {w w' : World} (h : Glo B E w) (hc : Chg NoB w w') : Glo B E w' := h.keep hc (fun _ _ => NoB.elim)
theorem Glo.one {B r : Nat} {E : Er → Value} {w w' : World} (h : Glo B E w) (hc : Chg (OneB r) w w') (hr : B ≤ r) : Glo B E w' := h.keep hc (fun b hb e => by have e : b = r := e; omega)

theorem idxR_any {B : Nat} (w : World) (x : List UInt8) (c : Nat) (h : Tabs B w) :
  Calls Tryz.prog 101 #[.slice (some ⟨9, 0, none⟩) 4 c, .string ⟨x.toArray⟩] w fun e w' => e = .returned (.int .i64 (idxT repT x)) ∧ w' = w :=
 Tryz.slices_Index_string 9 0 4 c repT ⟨x.toArray⟩ w (Nat.le_refl 4) (by decide) (fun j hj => by
  rw [Nat.zero_add]
  exact h.reps j _ (by rw [List.getElem?_eq_getElem hj]; simp [List.getD, hj]))
theorem idxK_any {B : Nat} (w : World) (x : List UInt8) (c : Nat) (h : Tabs B w) :
  Calls Tryz.prog 101 #[.slice (some ⟨10, 0, none⟩) 6 c, .string ⟨x.toArray⟩] w fun e w' => e = .returned (.int .i64 (idxT kindT x)) ∧ w' = w :=
 Tryz.slices_Index_string 10 0 6 c kindT ⟨x.toArray⟩ w (Nat.le_refl 6) (by decide) (fun j hj => by
  rw [Nat.zero_add]
  exact h.kinds j _ (by rw [List.getElem?_eq_getElem hj]; simp [List.getD, hj]))

/-- A number and an error (or none). -/
def RetNum (r : Option Int) (w : World) (en : Ending) (w' : World) : Prop :=
 ∃ v err, en = .returned (.tuple #[.int .i64 v, err]) ∧ Chg NoB w w' ∧ (∀ x, r = some x → v = x ∧ err = .nilIface) ∧ (r = none → ∃ T p, err = .iface T p)
theorem chg_bytes {e : TypeId} {w : World} {t : ByteArray} : Chg NoB w (Lib.bytesWorld w e t) := Chg.ofBelow (Lib.bytesWorld_below w e t)
theorem atoi_any {B : Nat} {E : Er → Value} (w : World) (s : ByteArray) (h : Glo B E w) (hs : s.size ≤ 281474976710656) :
  Calls Tryz.prog 94 #[.string s] w (RetNum (numOk s.data.toList) w) := by
 unfold numOk
 rcases ha : Lib.atoiAll s.data.toList with v | _ | _
 ·refine (Tryz.strconv_Atoi_ok s (by omega) v ha w).mono ?_
  rintro e w' ⟨rfl, hw⟩
  refine ⟨v, .nilIface, rfl, ?_, fun x hx => ⟨Option.some.inj hx, rfl⟩, fun hx => by cases hx⟩
  rcases hw with rfl | ⟨t, rfl⟩
  ·exact Chg.refl _ _
  ·exact chg_bytes
 ·obtain ⟨T, p, h1⟩ := h.syn
  refine (Any.strconv_Atoi_syntax Tryz.laysC172 s hs ha _ w h1 (.inr ⟨T, p, rfl⟩)).mono ?_
  rintro e w' ⟨N, rfl, _, _, hb⟩
  exact ⟨_, _, rfl, Chg.ofBelow hb, by simp, by simp⟩
 ·obtain ⟨T, p, h1⟩ := h.ran
  refine (Tryz.strconv_Atoi_range s hs ha _ w h1 (.inr ⟨T, p, rfl⟩)).mono ?_
  rintro e w' ⟨N, rfl, _, _, hb⟩
  exact ⟨_, _, rfl, Chg.ofBelow hb, by simp, by simp⟩

/-- An error that tells a place. -/
def FaultAt (w : World) (ev : Value) (a : Nat) (v : Value) : Prop := ∃ p, v = .iface 66 (.pointer (some ⟨p, 0, none⟩)) ∧ Blk w p [.int .i64 (a : Int), ev] 68
theorem fault_any (r : Nat) (cs0 wd : Value) (a : Nat) (ev : Value) (w : World) (hb : Blk w r [cs0, .int .i64 (a : Int), wd] 205) (hev : ∃ T p, ev = .iface T p) :
  Calls Tryz.prog 144 #[.pointer (some ⟨r, 0, none⟩), ev] w fun en w' => ∃ v, en = .returned v ∧ FaultAt w' ev a v ∧ Chg NoB w w' := by
 obtain ⟨T, p, rfl⟩ := hev
 have c1 : w.cell? ⟨r, 1, none⟩ = some (.int .i64 (a : Int)) := hb.cell 1
 go_enter Tryz.func144, Tryz.ntmps144
 go_wp2_with fail
 go_ret
 exact ⟨_, rfl, ⟨w.heap.size, rfl, Blk.new w [.int .i64 (a : Int), .iface T p] 68⟩, (Chg.refl _ _).alloc _⟩
end Go.Proofs.YtgcmfpcgmkkobaaGreatDoor
namespace Go.Proofs.YtgcmfpcgmkkobaaGreatDoor
open Go.RowKit

theorem laid_get {P : Program} {W : World} {n : String} {d : DataW Unit} : ∀ {l : List (String × DataW Unit)} {ps : List MemPlace}, DataW.LaidVars P W l ps → (n, d) ∈ l →
  ∃ g t cs fuel p, P.globalNamed n = some g ∧ (P.globals[g]?).map (·.type) = some t ∧ W.var? P n = some cs ∧ DataW.trod (fun _ => ()) P W 0 (fun _ => true) false fuel t cs.toList = some (d, p)
 | [], _, _, h => by cases h
 | (n', d') :: r, ps, hl, h => by
  obtain ⟨g, t, cs, fuel, p, q, h1, h2, h3, h4, h5, _⟩ := hl
  rcases List.mem_cons.1 h with h | h
  ·obtain ⟨rfl, rfl⟩ := Prod.mk.inj h
   exact ⟨g, t, cs, fuel, p, h1, h2, h3, h4⟩
  ·exact laid_get h5 h
theorem laid_iface {P : Program} {W : World} {n nm : String} {d : DataW Unit} {l : List (String × DataW Unit)} {ps : List MemPlace} {g t : Nat} {ms : Array (String × TypeId)} (hL : DataW.LaidVars P W l ps) (hm : (n, .iface nm d) ∈ l)
  (hg : P.globalNamed n = some g) (hty : (P.globals[g]?).map (·.type) = some t) (ht : P.underlying t = some (.interface ms)) : ∃ T v, W.cell? ⟨g, 0, none⟩ = some (.iface T v) := by
 obtain ⟨g', t', cs, fuel, p, h1, h2, h3, h4⟩ := laid_get hL hm
 obtain rfl := Option.some.inj (hg.symm.trans h1)
 obtain rfl := Option.some.inj (hty.symm.trans h2)
 obtain ⟨_, u, v, h5, _, _⟩ := iface_of_trod ht h4
 refine ⟨u, v, ?_⟩
 rw [World.var?_cell hg h3, ← Array.getElem?_toList, h5]
 rfl
theorem strs_of {H : Type} {enc : TypeId × Value → H} {P : Program} {W : World} {base : Nat} {sp : Nat → Bool} {held : Bool} {fuel : Nat} {t e : TypeId} {n : Nat} {cs : List Value} {l : List (List UInt8)} {p : List MemPlace}
  (ht : P.underlying t = some (.array n e)) (he : P.underlying e = some TypeDesc.string) (hce : P.cellsOf e = 1) (h : DataW.trod enc P W base sp held fuel t cs = some (DataW.agg (l.map fun b => DataW.lit (Lit.string b)), p)) :
  ∀ (i : Nat) (b : List UInt8), l[i]? = some b → cs[i]? = some (.string ⟨b.toArray⟩) := by
 obtain ⟨xs, m, _, hx, hcl, hxl, hi⟩ := DataW.trod_array ht h
 intro i b hb
 have hx1 : (l.map fun b => (DataW.lit (Lit.string b) : DataW H)) = xs.map (fun z => z.1) := by
  have := congrArg Prod.fst hx
  simpa using this
 have hll : l.length = xs.length := by simpa using congrArg List.length hx1
 have hil : i < l.length := (List.getElem?_eq_some_iff.1 hb).1
 have h1 := congrArg (fun z => z[i]?) hx1
 simp only [List.getElem?_map, hb, Option.map_some] at h1
 rw [List.getElem?_eq_getElem (by omega)] at h1
 simp only [Option.map_some, Option.some.injEq] at h1
 have h2 := hi i (by omega)
 rw [hce, Nat.mul_one, List.getElem?_eq_getElem (by omega)] at h2
 obtain ⟨s, h3, h4, _⟩ := DataW.trod_string he h2
 rw [h4] at h1
 simp only [DataW.lit.injEq, Lit.string.injEq] at h1
 have h5 : cs[i]? = some (.string s) := by
  have := congrArg (fun z => z[0]?) h3
  simpa using this
 rw [h5, h1]
theorem laid_strs {P : Program} {W : World} {nm : String} {l : List (List UInt8)} {lv : List (String × DataW Unit)} {ps : List MemPlace} {g t e n : Nat} (hL : DataW.LaidVars P W lv ps) (hm : (nm, DataW.agg (l.map fun b => DataW.lit (Lit.string b))) ∈ lv)
  (hg : P.globalNamed nm = some g) (hty : (P.globals[g]?).map (·.type) = some t) (ht : P.underlying t = some (.array n e)) (he : P.underlying e = some TypeDesc.string) (hce : P.cellsOf e = 1) :
  ∀ (i : Nat) (b : List UInt8), l[i]? = some b → W.cell? ⟨g, i, none⟩ = some (.string ⟨b.toArray⟩) := by
 obtain ⟨g', t', cs, fuel, p, h1, h2, h3, h4⟩ := laid_get hL hm
 obtain rfl := Option.some.inj (hg.symm.trans h1)
 obtain rfl := Option.some.inj (hty.symm.trans h2)
 intro i b hb
 rw [World.var?_cell hg h3, ← Array.getElem?_toList]
 exact strs_of ht he hce h4 i b hb
theorem laid_tab {P : Program} {W : World} {nm : String} {k : IntKind} {zs : List Int} {lv : List (String × DataW Unit)} {ps : List MemPlace} {g t e n : Nat} (hL : DataW.LaidVars P W lv ps) (hm : (nm, Lib.tabData k zs) ∈ lv)
  (hg : P.globalNamed nm = some g) (hty : (P.globals[g]?).map (·.type) = some t) (ht : P.underlying t = some (.array n e)) (he : P.underlying e = some (.int k)) (hce : P.cellsOf e = 1) (hct : P.cellsOf t = n) : Lib.TabIs P W nm k zs := by
 obtain ⟨g', t', cs, fuel, p, h1, h2, h3, h4⟩ := laid_get hL hm
 obtain rfl := Option.some.inj (hg.symm.trans h1)
 obtain rfl := Option.some.inj (hty.symm.trans h2)
 unfold Lib.TabIs
 rw [h3, ← Lib.cells_of_tab ht he hce hct h4]

theorem gB : Tryz.prog.globalNamed "shredcol/api.ErrBound" = some 0 := by kernel_rfl
theorem gT : Tryz.prog.globalNamed "shredcol/api.ErrText" = some 2 := by kernel_rfl
theorem gS : Tryz.prog.globalNamed "shredcol/api.ErrShape" = some 5 := by kernel_rfl
theorem gN : Tryz.prog.globalNamed "shredcol/api.ErrName" = some 4 := by kernel_rfl
theorem gY : Tryz.prog.globalNamed "strconv.ErrSyntax" = some 13 := by kernel_rfl
theorem gR : Tryz.prog.globalNamed "strconv.ErrRange" = some 14 := by kernel_rfl
theorem gReps : Tryz.prog.globalNamed "shredcol/schema.reps" = some 9 := by kernel_rfl
theorem gKinds : Tryz.prog.globalNamed "shredcol/schema.kinds" = some 10 := by kernel_rfl

def errText (l : List UInt8) : DataW Unit := .iface "*errors.errorString" (.ptr (.agg [.lit (.string l)]))
def repsD : DataW Unit := .agg [.lit (.string []), .lit (.string [114, 101, 113, 117, 105, 114, 101, 100]), .lit (.string [111, 112, 116, 105, 111, 110, 97, 108]), .lit (.string [114, 101, 112, 101, 97, 116, 101, 100])]
def kindsD : DataW Unit := .agg [.lit (.string [103, 114, 111, 117, 112]), .lit (.string [98, 111, 111, 108]), .lit (.string [105, 110, 116]), .lit (.string [108, 111, 110, 103]), .lit (.string [98, 121, 116, 101, 115]), .lit (.string [100, 111, 117, 98, 108, 101])]
/-- What the list must hold. -/
structure Lists (lv : List (String × DataW Unit)) : Prop where
 b : ∃ l, ("shredcol/api.ErrBound", errText l) ∈ lv
 t : ∃ l, ("shredcol/api.ErrText", errText l) ∈ lv
 s : ∃ l, ("shredcol/api.ErrShape", errText l) ∈ lv
 n : ∃ l, ("shredcol/api.ErrName", errText l) ∈ lv
 y : ∃ l, ("strconv.ErrSyntax", errText l) ∈ lv
 r : ∃ l, ("strconv.ErrRange", errText l) ∈ lv
 reps : ("shredcol/schema.reps", repsD) ∈ lv
 kinds : ("shredcol/schema.kinds", kindsD) ∈ lv
 pow : ("internal/strconv.uint64pow10", Lib.tabData .u64 Lib.pow10Tab) ∈ lv
theorem glo_of {lv : List (String × DataW Unit)} {W : World} (hlv : Lists lv) (hL : laidMet Tryz.prog lv W) : ∃ E, Glo W.heap.size E W := by
 obtain ⟨ps, hV, _⟩ := hL
 obtain ⟨_, m1⟩ := hlv.b
 obtain ⟨_, m2⟩ := hlv.t
 obtain ⟨_, m3⟩ := hlv.s
 obtain ⟨_, m4⟩ := hlv.n
 obtain ⟨_, m5⟩ := hlv.y
 obtain ⟨_, m6⟩ := hlv.r
 obtain ⟨T1, v1, c1⟩ := laid_iface hV m1 gB (by kernel_rfl) Tryz.underlying30
 obtain ⟨T2, v2, c2⟩ := laid_iface hV m2 gT (by kernel_rfl) Tryz.underlying30
 obtain ⟨T3, v3, c3⟩ := laid_iface hV m3 gS (by kernel_rfl) Tryz.underlying30
 obtain ⟨T4, v4, c4⟩ := laid_iface hV m4 gN (by kernel_rfl) Tryz.underlying30
 obtain ⟨T5, v5, c5⟩ := laid_iface hV m5 gY (by kernel_rfl) Tryz.underlying30
 obtain ⟨T6, v6, c6⟩ := laid_iface hV m6 gR (by kernel_rfl) Tryz.underlying30
 have hreps := laid_strs (l := [[], [114, 101, 113, 117, 105, 114, 101, 100], [111, 112, 116, 105, 111, 110, 97, 108], [114, 101, 112, 101, 97, 116, 101, 100]]) (e := 9) hV hlv.reps gReps (by kernel_rfl) Tryz.underlying210 Tryz.underlying9 (by kernel_rfl)
 have hkinds := laid_strs (l := [[103, 114, 111, 117, 112], [98, 111, 111, 108], [105, 110, 116], [108, 111, 110, 103], [98, 121, 116, 101, 115], [100, 111, 117, 98, 108, 101]]) (e := 9) hV hlv.kinds gKinds (by kernel_rfl) Tryz.underlying211 Tryz.underlying9 (by kernel_rfl)
 have hpow : Lib.TabIs Tryz.prog W "internal/strconv.uint64pow10" .u64 Lib.pow10Tab := laid_tab hV hlv.pow pow_at (t := 266) (e := 227) (by kernel_rfl) Tryz.underlying266 Tryz.underlying227 (by kernel_rfl) (by kernel_rfl)
 have l1 := lt_of_cell c1
 have l2 := lt_of_cell c2
 have l3 := lt_of_cell c3
 have l4 := lt_of_cell c4
 have l5 := lt_of_cell c5
 have l6 := lt_of_cell c6
 have l7 := lt_of_cell (hreps 0 _ rfl)
 have l8 := lt_of_cell (hkinds 0 _ rfl)
 have l9 : 18 < W.heap.size := by
  have h1 := hpow.cell pow_at 0 (by decide)
  exact lt_of_cell h1
 refine ⟨fun e => match e with | .bound => .iface T1 v1 | .text => .iface T2 v2 | .shape => .iface T3 v3 | .name => .iface T4 v4, ⟨fun e => ?_, fun e => ?_⟩, ⟨⟨l7, l8, l9⟩, fun i s hi => ?_, fun i s hi => ?_, hpow⟩, ⟨T5, v5, c5⟩, ⟨T6, v6, c6⟩, ⟨fun e => ?_, l5, l6⟩⟩
 ·cases e
  ·exact c1
  ·exact c2
  ·exact c3
  ·exact c4
 ·cases e
  ·exact ⟨_, _, rfl⟩
  ·exact ⟨_, _, rfl⟩
  ·exact ⟨_, _, rfl⟩
  ·exact ⟨_, _, rfl⟩
 ·have := hreps i s.data.toList (by
   have h1 := congrArg (fun z => z.map (fun x : ByteArray => x.data.toList)) hi
   rw [← List.getElem?_map] at h1
   exact h1)
  rw [this]
 ·have := hkinds i s.data.toList (by
   have h1 := congrArg (fun z => z.map (fun x : ByteArray => x.data.toList)) hi
   rw [← List.getElem?_map] at h1
   exact h1)
  rw [this]
 ·cases e
  ·exact l1
  ·exact l2
  ·exact l3
  ·exact l4
end Go.Proofs.YtgcmfpcgmkkobaaGreatDoor
