/-
  The reader of words: reader.next.
-/
import Derived.Test.YtnmhkafpgohefaaGreatDoorTextAll
set_option linter.unusedVariables false
set_option maxHeartbeats 20000000
set_option maxRecDepth 100000
set_option linter.unusedSimpArgs false
namespace Go.Proofs.YtnmhkafpgohefaaGreatDoor
open Go.RowKit
theorem trimLeft_any (s cs : ByteArray) (w : World) (hcs : cs.size < 4294967281) (ha : cs.data.toList.all (fun b => decide (b.toNat < 128)) = true) :
  Calls Tryz.prog 173 #[.string s, .string cs] w fun e w' => e = .returned (.string ⟨(Lib.trimLeftS s.data.toList cs.data.toList).toArray⟩) ∧ Chg NoB w w' :=
 (Any.strings_TrimLeft_laid Tryz.lays161 (by kernel_rfl) s cs w hcs (ascii_of_all ha)).mono fun e w' h => ⟨h.1, Chg.ofBelow h.2⟩
theorem drop_data (s : ByteArray) (f : Nat) : (s.extract f s.size).data.toList = s.data.toList.drop f := by
 rw [Lib.extract_data, List.take_of_length_le (by rw [List.length_drop, length_data]; omega)]
theorem trimLeft_len (l cs : List UInt8) : (Lib.trimLeftS l cs).length ≤ l.length := by
 unfold Lib.trimLeftS
 exact (List.dropWhile_sublist _).length_le
theorem span_any (s cs : ByteArray) (f c : Nat) (w : World) (hb : Blk w c [.string s] 9) (hs : s.size ≤ 9223372036854775807) (hf : f ≤ s.size) (hcs : cs.size < 4294967281) (ha : cs.data.toList.all (fun b => decide (b.toNat < 128)) = true) :
  Calls Tryz.prog 174 #[.string cs, .int .i64 f, .pointer (some ⟨c, 0, none⟩)] w (RetV (.int .i64 ((s.size - (Lib.trimLeftS (s.data.toList.drop f) cs.data.toList).length : Nat) : Int)) w) := by
 have c0 : w.cell? ⟨c, 0, none⟩ = some (.string s) := hb.cell 0
 have hfi : (f : Int) ≤ s.size := by omega
 go_enter Tryz.func174, Tryz.ntmps174
 go_wp2_with fail
 refine wp_region_n (fun w' => w'.cell? ⟨c, 0, none⟩ = some (.string s)) [13] (by kernel_rfl) ?_ (fun hSh => ?_)
 ·exact c0
 refine n_from 0 ?_
 intro htk
 iterate 10
  refine n_tB (v := ?_) htk rfl (Or.inl ⟨by rfl, ?_⟩) ?_
  rotate_left 1
  ·(intro w' hSw; (try dsimp only at hSw); go_simp; try with_reducible rfl)
  clear htk
  intro htk
  simp only [Nat.reduceAdd] at htk
  simp only [Act.put, qA, qB, qC, qD, qE, qF]
 clear htk
 refine n_step 10 rfl (by kernel_rfl) ?_
 go_wp2_with fail
 refine (trimLeft_any (s.extract f s.size) cs w.drew hcs ha).mono ?_
 rintro en w1 ⟨rfl, hc1⟩
 replace hc1 := hc1.ofDrew
 rw [drop_data s f]
 have hlen : (Lib.trimLeftS (s.data.toList.drop f) cs.data.toList).length ≤ s.size - f := by
  have h1 := trimLeft_len (s.data.toList.drop f) cs.data.toList
  rw [List.length_drop, length_data] at h1
  exact h1
 have hb1 := hb.keep hc1 nbE
 go_wp2_with fail
 refine ⟨fun _ => hb1.cell 0, fun hSk => ?_⟩
 replace hSk := hSk (by rfl)
 refine n_tA (v := ?_) 11 rfl (Or.inl ⟨by rfl, ?_⟩) ?_
 rotate_left 1
 ·(intro w' hSw; (try dsimp only at hSw); go_simp; try with_reducible rfl)
 simp only [Act.put, qA, qB, qC, qD, qE, qF]
 refine n_tA (v := ?_) 12 rfl (Or.inl ⟨by rfl, ?_⟩) ?_
 rotate_left 1
 ·(intro w' hSw; (try dsimp only at hSw); go_simp; try with_reducible rfl)
 simp only [Act.put, qA, qB, qC, qD, qE, qF]
 refine n_step 13 rfl (by kernel_rfl) ?_
 go_wp2_with fail
 refine ⟨fun hx => absurd hx (by decide), fun _ => ?_⟩
 refine n_done (by kernel_rfl) ?_
 go_wp2_with fail
 go_ret
 refine ⟨?_, hc1⟩
 show Ending.returned (.int .i64 _) = _
 congr 2
 omega
theorem span_list (l : List UInt8) (cs : ByteArray) (f n c : Nat) (w : World) (hb : Blk w c [.string ⟨l.toArray⟩] 9) (hs : (⟨l.toArray⟩ : ByteArray).size ≤ 9223372036854775807) (hf : f ≤ (⟨l.toArray⟩ : ByteArray).size) (hcs : cs.size < 4294967281)
  (ha : cs.data.toList.all (fun b => decide (b.toNat < 128)) = true) (hn : n = l.length - (Lib.trimLeftS (l.drop f) cs.data.toList).length) :
  Calls Tryz.prog 174 #[.string cs, .int .i64 f, .pointer (some ⟨c, 0, none⟩)] w (RetV (.int .i64 (n : Int)) w) := by
 have h := span_any ⟨l.toArray⟩ cs f c w hb hs hf hcs ha
 rw [show (((⟨l.toArray⟩ : ByteArray).size - (Lib.trimLeftS ((⟨l.toArray⟩ : ByteArray).data.toList.drop f) cs.data.toList).length : Nat) : Int) = (n : Int) from by rw [hn]; rfl] at h
 exact h
def digits : List UInt8 := [48, 49, 50, 51, 52, 53, 54, 55, 56, 57]
def tok : List UInt8 → List UInt8
 | [] => []
 | c :: r => if c.toNat = 35 then c :: r.takeWhile (digits.contains ·) else if lower c then (c :: r).takeWhile lower else [c]
def skipW (l : List UInt8) : List UInt8 := l.dropWhile (([32, 10] : List UInt8).contains ·)
def Rd (r : Nat) (s : ByteArray) (rest : List UInt8) (w : World) : Prop :=
 rest <:+ s.data.toList ∧ Blk w r [.string s, .int .i64 ((s.size - rest.length : Nat) : Int), .string ⟨(tok rest).toArray⟩] 242
def RetNil (Q : World → Prop) (en : Ending) (w' : World) : Prop := en = .returned (.tuple #[]) ∧ Q w'
theorem take_while (p : UInt8 → Bool) : ∀ l : List UInt8, l.take (l.length - (l.dropWhile p).length) = l.takeWhile p
 | [] => rfl
 | x :: xs => by
  rw [List.dropWhile_cons, List.takeWhile_cons]
  cases hp : p x
  ·simp
  ·have h1 := (List.dropWhile_sublist p (l := xs)).length_le
   have h2 := take_while p xs
   simp only [if_true, List.length_cons]
   rw [show xs.length + 1 - (xs.dropWhile p).length = (xs.length - (xs.dropWhile p).length) + 1 by omega, List.take_succ_cons, h2]
theorem abc_list : abc.data.toList = letters := rfl
theorem tok_hash (c : UInt8) (rs : List UInt8) (h : c.toNat = 35) : (c :: rs).take ((c :: rs).length - (Lib.trimLeftS rs digits).length) = tok (c :: rs) := by
 have h1 := take_while (digits.contains ·) rs
 have h2 := (List.dropWhile_sublist (digits.contains ·) (l := rs)).length_le
 unfold Lib.trimLeftS
 rw [List.length_cons, show rs.length + 1 - (rs.dropWhile (digits.contains ·)).length = (rs.length - (rs.dropWhile (digits.contains ·)).length) + 1 by omega, List.take_succ_cons, h1]
 simp only [tok, if_pos h]
theorem tok_lower (c : UInt8) (rs : List UInt8) (h : ¬ c.toNat = 35) (hl : lower c = true) : (c :: rs).take ((c :: rs).length - (Lib.trimLeftS (c :: rs) letters).length) = tok (c :: rs) := by
 unfold Lib.trimLeftS
 rw [show (fun x => letters.contains x) = lower from funext letters_contains, take_while]
 simp only [tok, if_neg h, if_pos hl]
theorem tok_other (c : UInt8) (rs : List UInt8) (h : ¬ c.toNat = 35) (hl : ¬ lower c = true) : (c :: rs).take 1 = tok (c :: rs) := by
 simp only [tok, if_neg h, if_neg hl]
 rfl
theorem length_cons_le {s : ByteArray} {c : UInt8} (rs : List UInt8) (hs : s.size ≤ 9223372036854775807) (h : (c :: rs).length ≤ s.size) : (⟨(c :: rs).toArray⟩ : ByteArray).size ≤ 9223372036854775807 ∧ 1 ≤ (⟨(c :: rs).toArray⟩ : ByteArray).size := by
 show (c :: rs).length ≤ _ ∧ 1 ≤ (c :: rs).length
 exact ⟨by omega, by simp⟩
theorem next_end (r : Nat) (s wd : ByteArray) (a2 : Nat) (rest : List UInt8) (w w5 : World) (hb : Blk w5 r [.string s, .int .i64 (a2 : Int), .string wd] 242) (hc : Chg (OneB r) w w5)
  (hsuf : rest <:+ s.data.toList) (ha2 : a2 = s.size - rest.length) (n : Nat) (hn : rest.take n = tok rest) :
  RetNil (fun w' => Rd r s rest w' ∧ Chg (OneB r) w w') (.returned (.tuple #[])) (w5.setCell ⟨r, 2, none⟩ (.string ((⟨rest.toArray⟩ : ByteArray).extract 0 n))) := by
 refine ⟨rfl, ⟨hsuf, ?_⟩, hc.setCell (p := ⟨r, 2, none⟩) (.inl rfl) _⟩
 have h1 := hb.set 2 (.string ((⟨rest.toArray⟩ : ByteArray).extract 0 n))
 rw [Lib.extract_eq] at h1 ⊢
 simp only [List.drop_zero, Nat.sub_zero] at h1 ⊢
 rw [hn] at h1 ⊢
 rw [ha2] at h1
 exact h1
theorem next_any (r : Nat) (s wd : ByteArray) (a : Nat) (w : World) (hb : Blk w r [.string s, .int .i64 (a : Int), .string wd] 242) (hs : s.size ≤ 9223372036854775807) (ha : a + wd.size ≤ s.size) :
  Calls Tryz.prog 150 #[.pointer (some ⟨r, 0, none⟩)] w (RetNil (fun w' => Rd r s (skipW (s.data.toList.drop (a + wd.size))) w' ∧ Chg (OneB r) w w')) := by
 have he := enters_of Tryz.func174 (P := Tryz.prog) (by kernel_rfl) rfl
 have c0 : w.cell? ⟨r, 0, none⟩ = some (.string s) := hb.cell 0
 have c1 : w.cell? ⟨r, 1, none⟩ = some (.int .i64 (a : Int)) := hb.cell 1
 have c2 : w.cell? ⟨r, 2, none⟩ = some (.string wd) := hb.cell 2
 have f1 : w.frozen? ⟨r, 1, none⟩ = false := hb.free 1
 have hai : (a : Int) + wd.size ≤ s.size := by omega
 go_enter Tryz.func150, Tryz.ntmps150
 go_wp2_with fail
 refine wp_region_n (fun w' => w'.cell? ⟨r, 1, none⟩ = some (.int .i64 (a : Int)) ∧ w'.cell? ⟨r, 2, none⟩ = some (.string wd)) [12] (by kernel_rfl) ?_ (fun hSh => ?_)
 ·exact ⟨c1, c2⟩
 refine n_from 0 ?_
 intro htk
 iterate 10
  refine n_tB (v := ?_) htk rfl (Or.inl ⟨by rfl, ?_⟩) ?_
  rotate_left 1
  ·(intro w' hSw; (try dsimp only at hSw); go_simp; try with_reducible rfl)
  clear htk
  intro htk
  simp only [Nat.reduceAdd] at htk
  simp only [Act.put, qA, qB, qC, qD, qE, qF]
 clear htk
 refine n_step 10 rfl (by kernel_rfl) ?_
 go_wp2_with fail
 refine ⟨fun _ => ?_, fun hSk => ?_⟩
 ·assumption
 replace hSk := hSk (by rfl)
 refine n_step 11 rfl (by kernel_rfl) ?_
 go_wp2_with fail
 refine ⟨fun _ => ?_, fun hSk => ?_⟩
 ·assumption
 replace hSk := hSk (by rfl)
 have k1 : w.drew.cell? ⟨r, 1, none⟩ = some (.int .i64 (a : Int)) := c1
 have k2 : w.drew.frozen? ⟨r, 1, none⟩ = false := f1
 refine n_step 12 rfl (by kernel_rfl) ?_
 go_wp2_with fail
 refine ⟨fun hx => absurd hx (by decide), fun _ => ?_⟩
 refine n_done (by kernel_rfl) ?_
 go_wp2_with fail
 rw [show (a : Int) + wd.size = ((a + wd.size : Nat) : Int) from by omega]
 obtain ⟨a1, ha1⟩ : ∃ a1 : Nat, a1 = a + wd.size := ⟨_, rfl⟩
 rw [← ha1]
 have Ha1 := Lib.hid ha1
 have ha1s : (a1 : Int) ≤ s.size := by omega
 have ha1n : a1 ≤ s.size := by omega
 have hb1 : Blk (w.setCell ⟨r, 1, none⟩ (.int .i64 (a1 : Int))).drew r [.string s, .int .i64 (a1 : Int), .string wd] 242 := hb.set 1 _
 have hc1 : Chg (OneB r) w (w.setCell ⟨r, 1, none⟩ (.int .i64 (a1 : Int))).drew := ((Chg.refl (OneB r) w).setCell (p := ⟨r, 1, none⟩) (.inl rfl) _).drew
 generalize (w.setCell ⟨r, 1, none⟩ (.int .i64 (a1 : Int))).drew = w1 at hb1 hc1 ⊢
 clear ha1 k1 k2
 have d0 : w1.cell? ⟨r, 0, none⟩ = some (.string s) := hb1.cell 0
 have d1 : w1.cell? ⟨r, 1, none⟩ = some (.int .i64 (a1 : Int)) := hb1.cell 1
 refine wp_region_n (fun w' => w'.cell? ⟨r, 0, none⟩ = some (.string s) ∧ w'.cell? ⟨r, 1, none⟩ = some (.int .i64 (a1 : Int))) [29] (by kernel_rfl) ?_ (fun hSh => ?_)
 ·exact ⟨d0, d1⟩
 refine n_from 0 ?_
 intro htk
 iterate 23
  refine n_tB (v := ?_) htk rfl (Or.inl ⟨by rfl, ?_⟩) ?_
  rotate_left 1
  ·(intro w' hSw; (try dsimp only at hSw); go_simp; try with_reducible rfl)
  clear htk
  intro htk
  simp only [Nat.reduceAdd] at htk
  simp only [Act.put, qA, qB, qC, qD, qE, qF]
 clear htk
 refine n_step 23 rfl (by kernel_rfl) ?_
 go_wp2_with fail
 refine (trimLeft_any (s.extract a1 s.size) ⟨#[32, 10]⟩ w1.drew (by decide) (by decide)).mono ?_
 rintro en w2 ⟨rfl, hc2⟩
 replace hc2 := hc2.ofDrew
 rw [drop_data s a1]
 have hb2 := hb1.keep hc2 nbE
 have hlen : (skipW (s.data.toList.drop a1)).length ≤ s.size - a1 := by
  have h1 := trimLeft_len (s.data.toList.drop a1) [32, 10]
  rw [List.length_drop, length_data] at h1
  exact h1
 have hskip : Lib.trimLeftS (s.data.toList.drop a1) (⟨#[32, 10]⟩ : ByteArray).data.toList = skipW (s.data.toList.drop a1) := rfl
 rw [hskip]
 go_wp2_with fail
 refine ⟨fun _ => ⟨hb2.cell 0, hb2.cell 1⟩, fun hSk => ?_⟩
 replace hSk := hSk (by rfl)
 refine n_from 24 ?_
 intro htk
 iterate 3
  refine n_tB (v := ?_) htk rfl (Or.inl ⟨by rfl, ?_⟩) ?_
  rotate_left 1
  ·(intro w' hSw; (try dsimp only at hSw); go_simp; try with_reducible rfl)
  clear htk
  intro htk
  simp only [Nat.reduceAdd] at htk
  simp only [Act.put, qA, qB, qC, qD, qE, qF]
 clear htk
 refine n_step 27 rfl (by kernel_rfl) ?_
 go_wp2_with fail
 refine ⟨fun _ => ?_, fun hSk => ?_⟩
 ·assumption
 replace hSk := hSk (by rfl)
 refine n_step 28 rfl (by kernel_rfl) ?_
 go_wp2_with fail
 refine ⟨fun _ => ?_, fun hSk => ?_⟩
 ·assumption
 replace hSk := hSk (by rfl)
 have k1 : w2.cell? ⟨r, 1, none⟩ = some (.int .i64 (a1 : Int)) := hb2.cell 1
 have k2 : w2.frozen? ⟨r, 1, none⟩ = false := hb2.free 1
 refine n_step 29 rfl (by kernel_rfl) ?_
 go_wp2_with fail
 refine ⟨fun hx => absurd hx (by decide), fun _ => ?_⟩
 refine n_done (by kernel_rfl) ?_
 go_wp2_with fail
 obtain ⟨rest, hrest⟩ : ∃ rest, rest = skipW (s.data.toList.drop a1) := ⟨_, rfl⟩
 have Hrest := Lib.hid hrest
 have hsuf : rest <:+ s.data.toList := by
  rw [hrest]
  exact (List.dropWhile_suffix _).trans (List.drop_suffix _ _)
 rw [← hrest] at hlen
 obtain ⟨a2, ha2⟩ : ∃ a2 : Nat, a2 = s.size - rest.length := ⟨_, rfl⟩
 rw [← hrest, show (a1 : Int) + (((s.size - a1 : Nat) : Int) - ((rest.length : Nat) : Int)) = (a2 : Int) from by omega]
 have ha2i : (a2 : Int) ≤ s.size := by omega
 have hdrop : s.data.toList.drop a2 = rest := by
  rw [ha2, ← length_data]
  exact (List.suffix_iff_eq_drop.1 hsuf).symm
 have hstr : s.extract a2 s.size = ⟨rest.toArray⟩ := by
  have := drop_data s a2
  rw [hdrop] at this
  rw [← this]
 have hb3 : Blk (w2.setCell ⟨r, 1, none⟩ (.int .i64 (a2 : Int))) r [.string s, .int .i64 (a2 : Int), .string wd] 242 := hb2.set 1 _
 have hc3 : Chg (OneB r) w (w2.setCell ⟨r, 1, none⟩ (.int .i64 (a2 : Int))) := (hc1.tr hc2).setCell (p := ⟨r, 1, none⟩) (.inl rfl) _
 generalize w2.setCell ⟨r, 1, none⟩ (.int .i64 (a2 : Int)) = w3 at hb3 hc3 ⊢
 have Ha2 := Lib.hid ha2
 have Hstr := Lib.hid hstr
 clear hstr
 clear hrest k1 k2 hskip ha2
 have g0 : w3.cell? ⟨r, 0, none⟩ = some (.string s) := hb3.cell 0
 have g1 : w3.cell? ⟨r, 1, none⟩ = some (.int .i64 (a2 : Int)) := hb3.cell 1
 refine wp_region_n (fun w' => w'.cell? ⟨r, 0, none⟩ = some (.string s) ∧ w'.cell? ⟨r, 1, none⟩ = some (.int .i64 (a2 : Int))) [10] (by kernel_rfl) ?_ (fun hSh => ?_)
 ·exact ⟨g0, g1⟩
 refine n_from 0 ?_
 intro htk
 iterate 9
  refine n_tB (v := ?_) htk rfl (Or.inl ⟨by rfl, ?_⟩) ?_
  rotate_left 1
  ·(intro w' hSw; (try dsimp only at hSw); go_simp; try with_reducible rfl)
  clear htk
  intro htk
  simp only [Nat.reduceAdd] at htk
  simp only [Act.put, qA, qB, qC, qD, qE, qF]
 clear htk
 rw [Hstr.out]
 refine n_step 9 rfl (by kernel_rfl) ?_
 go_wp2_with fail
 generalize hw4 : World.alloc _ _ = w4
 have hc4 : Chg NoB w3 w4 := by
  rw [← hw4]
  repeat (first | exact Chg.refl _ _ | apply Chg.alloc | apply Chg.drew)
 have hd4 : Blk w4 (w3.heap.size) ([.string ⟨#[]⟩]) 9 := by
  rw [← hw4]
  repeat (first | exact Blk.newAt (by first | rfl | (simp; done) | (simp; omega)) | apply Blk.alloc | apply Blk.drew)
 clear hw4
 replace hc4 := hc4.drew
 replace hd4 := hd4.drew
 generalize w4.drew = w4 at hc4 hd4 ⊢
 have hb4 := hb3.keep hc4 nbE
 have hrne : r ≠ w3.heap.size := by have := hb3.lt; omega
 have x1 : w4.cell? ⟨w3.heap.size, 0, none⟩ = some (.string ⟨#[]⟩) := hd4.cell 0
 have x2 : w4.frozen? ⟨w3.heap.size, 0, none⟩ = false := hd4.free 0
 refine ⟨fun _ => ⟨hb4.cell 0, hb4.cell 1⟩, fun hSk => ?_⟩
 replace hSk := hSk (by rfl)
 refine n_step 10 rfl (by kernel_rfl) ?_
 go_wp2_with fail
 refine ⟨fun hx => absurd hx (by decide), fun _ => ?_⟩
 refine n_done (by kernel_rfl) ?_
 have hd5 : Blk (w4.setCell ⟨w3.heap.size, 0, none⟩ (.string ⟨rest.toArray⟩)) w3.heap.size [.string ⟨rest.toArray⟩] 9 := hd4.set 0 _
 have hb5 : Blk (w4.setCell ⟨w3.heap.size, 0, none⟩ (.string ⟨rest.toArray⟩)) r [.string s, .int .i64 (a2 : Int), .string wd] 242 := hb4.other (p := ⟨w3.heap.size, 0, none⟩) hrne _
 have hc5 : Chg (OneB r) w (w4.setCell ⟨w3.heap.size, 0, none⟩ (.string ⟨rest.toArray⟩)) := (hc3.tr hc4).setCell (p := ⟨w3.heap.size, 0, none⟩) (.inr hc3.size) _
 generalize w4.setCell ⟨w3.heap.size, 0, none⟩ (.string ⟨rest.toArray⟩) = w5 at hd5 hb5 hc5 ⊢
 generalize w3.heap.size = bx at hd5 hrne x1 x2 hd4 ⊢
 clear x1 x2 hSk hSh hd4 hb4 hc4 hb3 hc3 g0 g1 hb2 hc2 d0 d1 hb1 hc1 c0 c1 c2 f1 hb
 have y0 : w5.cell? ⟨bx, 0, none⟩ = some (.string ⟨rest.toArray⟩) := hd5.cell 0
 have y2 : w5.cell? ⟨r, 2, none⟩ = some (.string wd) := hb5.cell 2
 have yf : w5.frozen? ⟨r, 2, none⟩ = false := hb5.free 2
 have hend := next_end r s wd a2 rest w w5 hb5 hc5 hsuf Ha2.out
 have Hend := Lib.hid hend
 clear hend
 have hrs : rest.length ≤ s.size := by have := hsuf.length_le; rw [length_data] at this; exact this
 rw [Ha1.out] at Hrest
 rcases rest with _ | ⟨ch, rs⟩
 ·go_wp2_with fail
  go_end0
  rw [← Hrest.out]
  exact Hend.out _ rfl
 have hcs := length_cons_le rs hs hrs
 by_cases hc35 : ch.toNat = 35
 ·have h35 : ((((⟨(ch :: rs).toArray⟩ : ByteArray)[0]'hcs.2).toNat : Int) == 35) = true := by show ((ch.toNat : Int) == 35) = true; simp [hc35]
  obtain ⟨n, hn⟩ : ∃ n, n = (ch :: rs).length - (Lib.trimLeftS rs digits).length := ⟨_, rfl⟩
  have htk := tok_hash ch rs hc35
  rw [← hn] at htk
  have hnb : (n : Int) ≤ (rs.length : Int) + 1 := by simp at hn; omega
  have Htk := Lib.hid htk
  have Hn := Lib.hid hn
  clear htk hn
  go_wp2_with fail
  refine (span_list (ch :: rs) ⟨#[48, 49, 50, 51, 52, 53, 54, 55, 56, 57]⟩ 1 n bx w5 hd5 hcs.1 hcs.2 (by decide) (by decide) Hn.out).mono ?_
  rintro en w6 ⟨rfl, hc6⟩
  have yb6 := hb5.keep hc6 nbE
  have y6 : w6.cell? ⟨bx, 0, none⟩ = some (.string ⟨(ch :: rs).toArray⟩) := (hd5.keep hc6 nbE).cell 0
  have z2 : w6.cell? ⟨r, 2, none⟩ = some (.string wd) := yb6.cell 2
  have zf : w6.frozen? ⟨r, 2, none⟩ = false := yb6.free 2
  go_wp2_with fail
  go_end0
  rw [← Hrest.out]
  exact next_end r s wd a2 (ch :: rs) w w6 yb6 (hc5.tr hc6) hsuf Ha2.out _ Htk.out
 have h35 : ((((⟨(ch :: rs).toArray⟩ : ByteArray)[0]'hcs.2).toNat : Int) == 35) = false := by show ((ch.toNat : Int) == 35) = false; simp; omega
 by_cases hl1 : 97 ≤ ch.toNat
 ·by_cases hl2 : ch.toNat ≤ 122
  ·have hl : lower ch = true := by simp [lower, hl1, hl2]
   have hl1' : (97 : Int) ≤ (((⟨(ch :: rs).toArray⟩ : ByteArray)[0]'hcs.2).toNat : Int) := by show (97 : Int) ≤ ch.toNat; omega
   have hl2' : (((⟨(ch :: rs).toArray⟩ : ByteArray)[0]'hcs.2).toNat : Int) ≤ 122 := by show (ch.toNat : Int) ≤ 122; omega
   obtain ⟨n, hn⟩ : ∃ n, n = (ch :: rs).length - (Lib.trimLeftS ((ch :: rs).drop 0) abc.data.toList).length := ⟨_, rfl⟩
   have htk := tok_lower ch rs hc35 hl
   have hn' : n = (ch :: rs).length - (Lib.trimLeftS (ch :: rs) letters).length := by rw [hn, abc_list]; rfl
   rw [← hn'] at htk
   have hnb : (n : Int) ≤ (rs.length : Int) + 1 := by simp at hn; omega
   have Htk := Lib.hid htk
   have Hn := Lib.hid hn
   clear htk hn hn'
   go_wp2_with fail
   refine (span_list (ch :: rs) abc 0 n bx w5 hd5 hcs.1 (Nat.zero_le _) abc_size abc_ascii Hn.out).mono ?_
   rintro en w6 ⟨rfl, hc6⟩
   have yb6 := hb5.keep hc6 nbE
   have y6 : w6.cell? ⟨bx, 0, none⟩ = some (.string ⟨(ch :: rs).toArray⟩) := (hd5.keep hc6 nbE).cell 0
   have z2 : w6.cell? ⟨r, 2, none⟩ = some (.string wd) := yb6.cell 2
   have zf : w6.frozen? ⟨r, 2, none⟩ = false := yb6.free 2
   go_wp2_with fail
   go_end0
   rw [← Hrest.out]
   exact next_end r s wd a2 (ch :: rs) w w6 yb6 (hc5.tr hc6) hsuf Ha2.out _ Htk.out
  ·have hl : ¬ lower ch = true := by simp [lower, hl2]
   have hl1' : (97 : Int) ≤ (((⟨(ch :: rs).toArray⟩ : ByteArray)[0]'hcs.2).toNat : Int) := by show (97 : Int) ≤ ch.toNat; omega
   have hl2' : ¬ (((⟨(ch :: rs).toArray⟩ : ByteArray)[0]'hcs.2).toNat : Int) ≤ 122 := by show ¬ (ch.toNat : Int) ≤ 122; omega
   have Htk := Lib.hid (tok_other ch rs hc35 hl)
   go_wp2_with fail
   go_end0
   rw [← Hrest.out]
   exact Hend.out _ (by rw [show (min 1 ((rs.length : Int) + 1)).toNat = 1 by omega]; exact Htk.out)
 ·have hl : ¬ lower ch = true := by simp [lower, hl1]
  have hl1' : ¬ (97 : Int) ≤ (((⟨(ch :: rs).toArray⟩ : ByteArray)[0]'hcs.2).toNat : Int) := by show ¬ (97 : Int) ≤ ch.toNat; omega
  have Htk := Lib.hid (tok_other ch rs hc35 hl)
  go_wp2_with fail
  go_end0
  rw [← Hrest.out]
  exact Hend.out _ (by rw [show (min 1 ((rs.length : Int) + 1)).toNat = 1 by omega]; exact Htk.out)
end Go.Proofs.YtnmhkafpgohefaaGreatDoor
