/-
  shredcolref1.Byte; texts one behind the other; a row of bytes of the call's own as a string.; disk: isName, step, Read.; disk: Append to a file that is not there, on a disk without files.; Numbers of 7 bits a byte, and texts behind their length: the plain reading. No condition; nothing of one program stands here.; disk: Rename of the one file.; What one edit leaves: small nodes, not many, numbers 
-/
import Derived.Test.YtnmhkafpgohefaaGreatDoorTreeMore
import Derived.Test.YtnmhkafpgohefaaGreatDoorWalk
import Derived.Laws.IdiomStrings
import Derived.Laws.BitsAllLaws
import Derived.Test.YtnmhkafpgohefaaGreatDoorWordsLaw
import Derived.Test.YtnmhkafpgohefaaGreatDoorNames
import Derived.Test.YtnmhkafpgohefaaGreatDoorPlainE
import Derived.Deep.DeepCutAuto
import Derived.Lib.Varint
import Derived.Test.YtnmhkafpgohefaaGreatDoorShort
set_option linter.unusedVariables false
set_option maxHeartbeats 20000000
set_option maxRecDepth 100000
set_option linter.unusedSimpArgs false
namespace Go.Proofs.YtnmhkafpgohefaaGreatDoor
open Go.RowKit
theorem bcat (a b : List UInt8) : ((⟨a.toArray⟩ : ByteArray) ++ (⟨b.toArray⟩ : ByteArray)) = ⟨(a ++ b).toArray⟩ := by
 apply ByteArray.ext
 simp
theorem bcat1 (a b : ByteArray) : a ++ b = ⟨(a.data.toList ++ b.data.toList).toArray⟩ := by
 have := bcat a.data.toList b.data.toList
 simpa using this
theorem own_string {w : World} {B : Nat} {v : Value} {l : List UInt8} (h : w.ownsRow B 5 1 v l.length (Lib.byteCells l)) (hne : l ≠ []) :
  (convert 63 9 v).run Tryz.prog w = .ok (.string ⟨l.toArray⟩) w := by
 rcases h.2 with ⟨rfl, h0⟩ | ⟨g, cap, cur, rfl, hb, hg, r⟩
 ·exact absurd (List.eq_nil_of_length_eq_zero h0) hne
 ·refine run_convert_bytes_back _ _ _ 5 ⟨g, 0, none⟩ cap l Tryz.underlying63 Tryz.underlying5 Tryz.underlying9 fun j hj => ?_
  refine h.cells (g := g) rfl j _ ?_
  simp [Lib.byteCells, List.getElem?_eq_getElem hj]
open Go.RowKit Go.Maps
def abcD : ByteArray := ⟨#[97, 98, 99, 100, 101, 102, 103, 104, 105, 106, 107, 108, 109, 110, 111, 112, 113, 114, 115, 116, 117, 118, 119, 120, 121, 122, 48, 49, 50, 51, 52, 53, 54, 55, 56, 57]⟩
theorem abcD_ascii : abcD.data.toList.all (fun b => decide (b.toNat < 128)) = true := by decide +kernel
def nameD (s : ByteArray) : Bool := decide (s.size ≠ 0) && decide (s.size ≤ 12) && (Lib.trimS s.data.toList abcD.data.toList).isEmpty
theorem trimD_any (s : ByteArray) (w : World) (hs : s.size ≤ 9223372036854775807) :
  Calls Tryz.prog 36 #[.string s, .string abcD] w fun e w' => e = .returned (.string ⟨(Lib.trimS s.data.toList abcD.data.toList).toArray⟩) ∧ Chg NoB w w' :=
 (Any.strings_Trim_laid Tryz.lays160 (by kernel_rfl) s abcD w hs (by decide) (ascii_of_all abcD_ascii)).mono fun _ _ h => ⟨h.1, Chg.ofBelow h.2⟩
theorem isNameD_any (s : ByteArray) (w : World) (hs : s.size ≤ 9223372036854775807) : Calls Tryz.prog 19 #[.string s] w (RetV (.bool (nameD s)) w) := by
 by_cases h0 : s.size = 0
 ·have := empty_of_size h0
  subst this
  have h1 : nameD ⟨#[]⟩ = false := by rfl
  go_enter Tryz.func19, Tryz.ntmps19
  go_wp2_with fail
  go_ret
  rw [h1]
  exact ⟨rfl, Chg.refl _ _⟩
 have hne : s.toList.isEmpty = false := toList_isEmpty h0
 by_cases h1 : s.size ≤ 12
 ·have h1' : (s.size : Int) ≤ 12 := by omega
  have Key := Lib.hid (show nameD s = (Lib.trimS s.data.toList abcD.data.toList).isEmpty from by
   unfold nameD
   rw [decide_eq_true h0, decide_eq_true h1, Bool.true_and, Bool.true_and])
  go_enter Tryz.func19, Tryz.ntmps19
  go_wp2_with fail
  refine (trimD_any s w hs).mono ?_
  rintro e w1 ⟨rfl, hc1⟩
  generalize Lib.trimS s.data.toList abcD.data.toList = t at Key ⊢
  cases t with
  | nil =>
   go_wp2_with fail
   go_ret
   rw [Key.out]
   exact ⟨rfl, hc1⟩
  | cons x xs =>
   have hx : (⟨(x :: xs).toArray⟩ : ByteArray).toList.isEmpty = false := toList_isEmpty (by simp [ByteArray.size])
   go_wp2_with fail
   go_ret
   rw [Key.out]
   exact ⟨rfl, hc1⟩
 ·have h1' : ¬ (s.size : Int) ≤ 12 := by omega
  have Key := Lib.hid (show nameD s = false from by
   unfold nameD
   rw [decide_eq_false h1, Bool.and_false, Bool.false_and])
  go_enter Tryz.func19, Tryz.ntmps19
  go_wp2_with fail
  go_ret
  rw [Key.out]
  exact ⟨rfl, Chg.refl _ _⟩
def FM (w : World) (b n : Nat) (D : DataW Value) : Prop := w.ownsMap Tryz.prog 9 heldE b n D
theorem FM.keep {C : Nat → Prop} {w w' : World} {b n : Nat} {D : DataW Value} (h : FM w b n D) (hc : Chg C w w') (hn : ¬ C b) : FM w' b n D := by
 obtain ⟨es, clock, hb, F, hs, hD⟩ := h
 exact ⟨es, clock, hc.at hb hn, F, hs, hD⟩
theorem FM.lt {w : World} {b n : Nat} {D : DataW Value} (h : FM w b n D) : b < w.heap.size := World.ownsMap.lt h
theorem zeroBs (w : World) : (zeroValue 63).run Tryz.prog w = .ok (.slice none 0 0) w := by kernel_rfl
theorem FM.look {w : World} {b n : Nat} {D : DataW Value} (h : FM w b n D) {s : ByteArray} (hs : s.size ≤ maxLen) :
  ∃ v, (Instr.lookup 42 (.map (some b)) (.string s) true).run Tryz.prog w = .ok (.tuple #[v, .bool (Maps.has D (kL s))]) w ∧ D.atKey (kL s) (.held (.slice none 0 0)) = .held v := by
 obtain ⟨v, ps, h1, h2⟩ := World.ownsMap.look_ok h strKey Tryz.underlying42 (zeroBs w) (show heldE (.slice none 0 0) = some (.held (.slice none 0 0), []) from rfl) (key_str hs)
 refine ⟨v, h1, ?_⟩
 simp only [heldE, Option.some.injEq, Prod.mk.injEq] at h2
 exact h2.1.symm
theorem FM.at {w : World} {b n : Nat} {D : DataW Value} (h : FM w b n D) {s : ByteArray} (hs : s.size ≤ maxLen) :
  ∃ v, (Instr.lookup 42 (.map (some b)) (.string s) false).run Tryz.prog w = .ok v w ∧ D.atKey (kL s) (.held (.slice none 0 0)) = .held v := by
 obtain ⟨v, ps, h1, h2⟩ := World.ownsMap.lookup h strKey Tryz.underlying42 (zeroBs w) (show heldE (.slice none 0 0) = some (.held (.slice none 0 0), []) from rfl) (key_str hs)
 refine ⟨v, h1, ?_⟩
 simp only [heldE, Option.some.injEq, Prod.mk.injEq] at h2
 exact h2.1.symm
def dkCells (steps used : Int) (mb : Nat) : List Value := [.bool false, .int .i64 0, .int .i64 steps, .int .i64 400000, .int .i64 used, .map (some mb)]
theorem step_any (db : Nat) (w : World) (steps used : Int) (mb : Nat) (hd : Blk w db (dkCells steps used mb) 46) (h0 : 0 ≤ steps) (h1 : steps ≤ 1000000000) :
  Calls Tryz.prog 20 #[.pointer (some ⟨db, 0, none⟩)] w (fun en w' => en = .returned (.bool true) ∧ Blk w' db (dkCells (steps + 1) used mb) 46 ∧ Chg (OneB db) w w') := by
 have c0 : w.cell? ⟨db, 0, none⟩ = some (.bool false) := hd.cell 0
 have c2 : w.cell? ⟨db, 2, none⟩ = some (.int .i64 steps) := hd.cell 2
 have f2 : w.frozen? ⟨db, 2, none⟩ = false := hd.free 2
 go_enter Tryz.func20, Tryz.ntmps20
 go_wp2_with fail
 go_ret
 refine ⟨rfl, ?_, ?_⟩
 ·exact hd.set 2 (.int .i64 (steps + 1))
 ·exact (Chg.refl (OneB db) w).setCell (p := ⟨db, 2, none⟩) (.inl rfl) _
theorem readD_miss (db mb n : Nat) (D : DataW Value) (s : ByteArray) (w : World) (steps used : Int) (A : Nat → Addr) (hd : Blk w db (dkCells steps used mb) 46) (hm : FM w mb n D) (hs : s.size ≤ maxLen) (hno : Maps.has D (kL s) = false) (hS : Sents w A) :
  Calls Tryz.prog 14 #[.pointer (some ⟨db, 0, none⟩), .string s] w (fun en w' => en = .returned (.tuple #[.string ⟨#[]⟩, sv (A 4)]) ∧ Chg NoB w w') := by
 have c5 : w.cell? ⟨db, 5, none⟩ = some (.map (some mb)) := hd.cell 5
 obtain ⟨v, hl, -⟩ := hm.look hs
 rw [hno] at hl
 have g1 := hS.cell 4 3 rfl
 simp only [sv] at g1
 go_enter Tryz.func14, Tryz.ntmps14
 go_wp2_with fail
 go_quiet (fail)
 go_wp2_with fail
 go_ret2
 exact ⟨rfl, (Chg.refl _ _).drewN _⟩
theorem readD_hit (db mb n B : Nat) (s : ByteArray) (v : Value) (l : List UInt8) (w : World) (steps used : Int) (hd : Blk w db (dkCells steps used mb) 46) (hm : FM w mb n (oneD s v)) (hs : s.size ≤ maxLen) (ho : w.ownsRow B 5 1 v l.length (Lib.byteCells l)) (hne : l ≠ []) :
  Calls Tryz.prog 14 #[.pointer (some ⟨db, 0, none⟩), .string s] w (fun en w' => en = .returned (.tuple #[.string ⟨l.toArray⟩, .nilIface]) ∧ Chg NoB w w') := by
 have c5 : w.cell? ⟨db, 5, none⟩ = some (.map (some mb)) := hd.cell 5
 obtain ⟨u, hl, hu⟩ := hm.look hs
 rw [has_one] at hl
 rw [at_one] at hu
 obtain rfl : v = u := by simpa using hu
 have hcv := own_string ho hne
 go_enter Tryz.func14, Tryz.ntmps14
 go_wp2_with fail
 go_ret2
 exact ⟨rfl, Chg.refl _ _⟩
open Go.RowKit Go.Maps
def byDt (b : UInt8) : Dt := .lit (.int .u8 (b.toNat : Nat))
theorem own_bytes {w : World} {B : Nat} {S : Nat → Prop} {v : Value} {l : List UInt8} (h : Own w B 5 1 S v (l.map byDt)) : w.ownsRow B 5 1 v l.length (Lib.byteCells l) := by
 obtain ⟨xs, h1, h2⟩ := h
 have hx : ∀ (l : List UInt8) (xs : List Value), ReadsC w (OwnS S w v) 1 (l.map byDt) xs → xs = Lib.byteCells l := by
  intro l
  induction l with
  | nil => intro xs h; exact h
  | cons b r ih =>
   intro xs h
   obtain ⟨c, r', rfl, _, ⟨rfl, _⟩, h4⟩ := h
   rw [ih r' h4]
   rfl
 obtain rfl := hx l xs h2
 rwa [List.length_map] at h1
theorem grown_chg {w w' : World} {b : Nat} (h : w.grownBy w' (some b)) : Chg (OneB b) w w' := (Chg.refl (OneB b) w).grown h (fun k hk => .inl (Option.some.inj hk).symm)
theorem FM.drew {w : World} {b n : Nat} {D : DataW Value} (h : FM w b n D) : FM w.drew b n D := h
theorem put_v {D : DataW Value} {s : ByteArray} {v : Value} (hD : D = noneD ∧ v = .slice none 0 0 ∨ D = oneD s v) (u : Value) : D.put (kL s) (.held u) = oneD s u := by
 rcases hD with ⟨rfl, -⟩ | rfl
 ·exact put_none s u
 ·exact put_one s v u
theorem FM.look_v {w : World} {mb n : Nat} {D : DataW Value} (h : FM w mb n D) {s : ByteArray} (hs : s.size ≤ maxLen) {v : Value} (hD : D = noneD ∧ v = .slice none 0 0 ∨ D = oneD s v) :
  (Instr.lookup 42 (.map (some mb)) (.string s) false).run Tryz.prog w = .ok v w := by
 obtain ⟨u, h1, h2⟩ := h.at hs
 rcases hD with ⟨rfl, rfl⟩ | rfl
 ·rw [at_none] at h2
  obtain rfl : Value.slice none 0 0 = u := by simpa using h2
  exact h1
 ·rw [at_one] at h2
  obtain rfl : v = u := by simpa using h2
  exact h1
def TwoD (a b : Nat) : Nat → Prop := fun x => x = a ∨ x = b
def ApRel (s : ByteArray) (l : List UInt8) (w0 : World) (db mb n : Nat) (steps : Int) (vi : Value) (wr : World) : Prop :=
 ∃ (k : Nat) (v : Value) (D : DataW Value), vi = .int .i64 (k : Nat) ∧ k ≤ l.length ∧ FM wr mb (n + k) D ∧ (D = noneD ∧ k = 0 ∧ v = .slice none 0 0 ∨ D = oneD s v) ∧
  Own wr w0.heap.size 5 1 (fun _ => False) v ((l.take k).map byDt) ∧ Blk wr db (dkCells (steps + k) k mb) 46 ∧ Chg (TwoD db mb) w0 wr
theorem appendD_bad (db mb n : Nat) (D : DataW Value) (s t : ByteArray) (w : World) (steps used : Int) (A : Nat → Addr) (hd : Blk w db (dkCells steps used mb) 46) (hm : FM w mb n D) (hs : s.size ≤ maxLen) (hno : nameD s = false) (hS : Sents w A) :
  Calls Tryz.prog 8 #[.pointer (some ⟨db, 0, none⟩), .string s, .string t] w (RetV (sv (A 4)) w) := by
 have c5 : w.cell? ⟨db, 5, none⟩ = some (.map (some mb)) := hd.cell 5
 obtain ⟨v, hl, -⟩ := hm.look hs
 go_enter Tryz.func8, Tryz.ntmps8
 go_wp2_with fail
 refine (isNameD_any s w (by unfold maxLen at hs; omega)).mono ?_
 rintro en w1 ⟨rfl, hc1⟩
 rw [hno]
 have g1 := (hS.keep0 hc1).cell 4 3 rfl
 simp only [sv] at g1
 go_wp2_with fail
 go_ret
 exact ⟨rfl, hc1⟩
theorem appendD_none (db mb n : Nat) (D : DataW Value) (s : ByteArray) (w : World) (steps used : Int) (hd : Blk w db (dkCells steps used mb) 46) (hm : FM w mb n D) (hs : s.size ≤ maxLen) (hok : nameD s = true) :
  Calls Tryz.prog 8 #[.pointer (some ⟨db, 0, none⟩), .string s, .string ⟨#[]⟩] w (RetV .nilIface w) := by
 have c5 : w.cell? ⟨db, 5, none⟩ = some (.map (some mb)) := hd.cell 5
 obtain ⟨v, hl, -⟩ := hm.look hs
 go_enter Tryz.func8, Tryz.ntmps8
 go_wp2_with fail
 refine (isNameD_any s w (by unfold maxLen at hs; omega)).mono ?_
 rintro en w1 ⟨rfl, hc1⟩
 rw [hok]
 go_wp2_with fail
 go_ret
 exact ⟨rfl, hc1⟩
theorem appendD_new (db mb n : Nat) (s : ByteArray) (l : List UInt8) (w : World) (steps : Int) (hd : Blk w db (dkCells steps 0 mb) 46) (hm : FM w mb n noneD) (hs : s.size ≤ maxLen) (hok : nameD s = true) (hne : l ≠ []) (hl : l.length ≤ 100000) (h0 : 0 ≤ steps) (h1 : steps ≤ 1000000) (hn : n ≤ 1000000) (hdm : db ≠ mb) :
  Calls Tryz.prog 8 #[.pointer (some ⟨db, 0, none⟩), .string s, .string ⟨l.toArray⟩] w (fun en w' => en = .returned .nilIface ∧ ∃ v, FM w' mb (n + l.length) (oneD s v) ∧ Own w' w.heap.size 5 1 (fun _ => False) v (l.map byDt) ∧ Blk w' db (dkCells (steps + l.length) l.length mb) 46 ∧ Chg (TwoD db mb) w w') := by
 have c5 : w.cell? ⟨db, 5, none⟩ = some (.map (some mb)) := hd.cell 5
 obtain ⟨v0, hlk, -⟩ := hm.look hs
 rw [has_none] at hlk
 have hlen : (⟨l.toArray⟩ : ByteArray).size = l.length := by simp [ByteArray.size]
 have hl0 : l.length ≠ 0 := fun e => hne (List.eq_nil_of_length_eq_zero e)
 have hemp : l.isEmpty = false := by simpa using hne
 have hroom : ¬ (400000 : Int) < (l.length : Int) := by omega
 go_enter Tryz.func8, Tryz.ntmps8
 go_wp2_with fail
 refine (isNameD_any s w (by unfold maxLen at hs; omega)).mono ?_
 rintro en w1 ⟨rfl, hc1⟩
 rw [hok]
 have hd1 := hd.keep hc1 nbE
 have hm1 := hm.keep hc1 nbE
 have c5' : w1.cell? ⟨db, 5, none⟩ = some (.map (some mb)) := hd1.cell 5
 have c3' : w1.cell? ⟨db, 3, none⟩ = some (.int .i64 400000) := hd1.cell 3
 have c4' : w1.cell? ⟨db, 4, none⟩ = some (.int .i64 0) := hd1.cell 4
 have hln := World.ownsMap.len hm1 Tryz.underlying42
 rw [show Maps.size noneD = 0 from rfl] at hln
 go_wp2_with fail
 go_quiet (fail)
 go_wp2_with fail
 clear c5 c5' c3' c4' hlk hln hroom
 go_loopw [55] (ApRel s l w db mb n steps) (fun vi _ => l.length - (intOf vi).toNat)
 case atStart => exact ⟨0, .slice none 0 0, noneD, rfl, Nat.zero_le _, hm1, .inl ⟨rfl, rfl, rfl⟩, Own.nil _ _ _ _ _, by rw [show (steps + ((0 : Nat) : Int)) = steps from by omega]; exact hd1, (hc1.drewN _).mono (fun _ _ h => h.elim)⟩
 case round =>
  obtain ⟨k, v, D, rfl, hk, hmr, hD, hown, hdr, hc⟩ := hrel
  by_cases hlt : k < l.length
  ·have hltI : (k : Int) < (l.length : Int) := by omega
   go_wp2_with fail
   refine (step_any db wr (steps + k) k mb hdr (by omega) (by omega)).mono ?_
   rintro en w3 ⟨rfl, hd3, hc3⟩
   have hdl := hd.lt
   have hm3 := hmr.keep hc3 (fun e => hdm e.symm)
   have ho3 := hown.keep hc3 (fun _ h => h.elim) (fun b hb e => by have := (hown.block b hb).1; have e : b = db := e; omega)
   have hDv : D = noneD ∧ v = .slice none 0 0 ∨ D = oneD s v := hD.imp (fun h => ⟨h.1, h.2.2⟩) id
   have hc03 : Chg (TwoD db mb) w w3 := hc.trans hc3 (fun i h => .inl (.inl h))
   have c5 : w3.cell? ⟨db, 5, none⟩ = some (.map (some mb)) := hd3.cell 5
   have e5 := hm3.look_v hs hDv
   have hDh := Lib.hid hD
   have hDv' := Lib.hid hDv
   clear hD hDv
   go_wp2_with fail
   refine wp_region_n (fun w' => w'.cell? ⟨db, 5, none⟩ = some (.map (some mb)) ∧ (Instr.lookup 42 (.map (some mb)) (.string s) false).run Tryz.prog w' = .ok v w') [16] (by kernel_rfl) ?_ (fun hSh => ?_)
   ·exact ⟨c5, hm3.drew.look_v hs hDv'.out⟩
   refine n_from 0 ?_
   intro htk
   iterate 14
    refine n_tB (v := ?_) htk rfl (Or.inl ⟨by rfl, ?_⟩) ?_
    rotate_left 1
    ·(intro w' hSw; (try dsimp only at hSw); go_simp; try with_reducible rfl)
    clear htk
    intro htk
    simp only [Nat.reduceAdd] at htk
    simp only [Act.put, qA, qB, qC, qD, qE, qF]
   clear htk
   refine n_step 14 rfl (by kernel_rfl) ?_
   go_wp2_with fail
   generalize hw4 : World.drew (World.alloc _ _) = w4
   have hc4 : Chg NoB w3 w4 := by
    rw [← hw4]
    repeat (first | exact Chg.refl _ _ | apply Chg.alloc | apply Chg.drew)
   have hb4 : Blk w4 (w3.heap.size) ([.int .u8 ((l[k]'hlt).toNat : Nat)]) 5 := by
    rw [← hw4]
    repeat (first | exact Blk.newAt (by first | rfl | (simp; done) | (simp; omega)) | apply Blk.alloc | apply Blk.drew)
   clear hw4
   have hs3 := hc03.size
   have hs4 := hc4.size
   have hml := hm.lt
   have hd4 := hd3.keep hc4 nbE
   have hm4 := hm3.keep hc4 nbE
   have ho4 := ho3.keep hc4 (fun _ h => h.elim) (fun _ _ => nbE)
   have c4 : w4.cell? ⟨db, 5, none⟩ = some (.map (some mb)) := hd4.cell 5
   refine ⟨fun _ => ⟨c4, hm4.look_v hs hDv'.out⟩, fun hSk => ?_⟩
   replace hSk := hSk (by rfl)
   have htkl : ((l.take k).map byDt).length = k := by rw [List.length_map, List.length_take]; omega
   have Htk := Lib.hid htkl
   have HoB := Lib.hid ho4.block
   clear htkl c5 e5 hSh
   refine n_step 15 rfl (by kernel_rfl) ?_
   refine wpList_own rfl (.tmp 74) (.tmp 78) 63 rfl w.heap.size 5 Tryz.underlying63 infoByte rfl (by decide) rfl ho4 rfl [byDt (l[k]'hlt)] [.int .u8 ((l[k]'hlt).toNat : Nat)] rfl (ReadsC.single rfl ⟨rfl, rfl⟩) hb4.news (fun e => by cases e) ?_ ?_ ?_ ?_
   ·rw [Htk.out]; simp [maxLen]; omega
   ·rw [Htk.out]; omega
   ·omega
   intro ao5 cap5 w5 ho5 hc5 _
   rw [Htk.out] at ho5 ⊢
   have hd5 := hd4.keep hc5 (fun e => by have := (HoB.out _ e).1; omega)
   have hm5 := hm4.keep hc5 (fun e => by have := (HoB.out _ e).1; omega)
   have c5 : w5.cell? ⟨db, 5, none⟩ = some (.map (some mb)) := hd5.cell 5
   go_wp2_with fail
   refine ⟨fun _ => ⟨c5, hm5.look_v hs hDv'.out⟩, fun hSk => ?_⟩
   replace hSk := hSk (by rfl)
   refine n_step 16 rfl (by kernel_rfl) ?_
   refine wpList_mapUpdate_own _ rfl _ _ _ 42 rfl 9 63 strKey Tryz.underlying42 heldE mb (n + k) D rfl hm5 (by unfold maxLen; omega) _ _ (kL s) rfl rfl (key_str hs) (.held (.slice ao5 (k + 1) cap5)) [] rfl ?_
   intro w6 hm6 hg6
   have hc6 := grown_chg hg6
   rw [put_v hDv'.out] at hm6
   have hd6 := hd5.keep hc6 hdm
   have ho6 := ho5.keep hc6 (fun _ h => h.elim) (fun b hb e => by have := (ho5.block b hb).1; have e : b = mb := e; omega)
   have u4 : w6.cell? ⟨db, 4, none⟩ = some (.int .i64 (k : Nat)) := hd6.cell 4
   have f4 : w6.frozen? ⟨db, 4, none⟩ = false := hd6.free 4
   have hm6' : FM w6 mb (n + k + 1) (oneD s (.slice ao5 (k + 1) cap5)) := hm6
   have Hm6 := Lib.hid hm6'
   clear hm6 hm6' hg6 c4 c5 hSk
   go_wp2_with fail
   refine ⟨fun hx => absurd hx (by decide), fun _ => ?_⟩
   refine n_done (by kernel_rfl) ?_
   go_wp2_with fail
   go_roundw
   case rel =>
    have hd7 := hd6.set 4 (.int .i64 ((k : Int) + 1))
    have hc7 : Chg (OneB db) w6 (w6.setCell ⟨db, 4, none⟩ (.int .i64 ((k : Int) + 1))) := (Chg.refl (OneB db) w6).setCell (p := ⟨db, 4, none⟩) (.inl rfl) _
    have htk : l.take (k + 1) = l.take k ++ [l[k]'hlt] := by rw [List.take_add_one, List.getElem?_eq_getElem hlt]; rfl
    refine ⟨k + 1, .slice ao5 (k + 1) cap5, _, by go_num, by omega, Hm6.out.keep hc7 (fun e => hdm e.symm), .inr rfl, ?_, ?_, ?_⟩
    ·rw [htk, List.map_append]
     exact ho6.keep hc7 (fun _ h => h.elim) (fun b hb e => by have := (ho6.block b hb).1; have e : b = db := e; omega)
    ·rw [show steps + ((k + 1 : Nat) : Int) = steps + k + 1 from by omega, show ((k + 1 : Nat) : Int) = (k : Int) + 1 from by omega]
     exact hd7
    ·exact ((((hc03.tr hc4).trans hc5 (fun b e => .inr (by have := (HoB.out b e).1; omega))).trans hc6 (fun b e => .inl (.inr e)))).trans hc7 (fun b e => .inl (.inl e))
   case measure => simp [intOf]; omega
  ·have hltI : ¬ (k : Int) < (l.length : Int) := by omega
   obtain rfl : k = l.length := by omega
   go_wp2_with fail
   go_ret
   rcases hD with ⟨-, h, -⟩ | rfl
   ·exact absurd h hl0
   refine ⟨rfl, v, hmr, ?_, hdr, hc⟩
   rwa [List.take_length] at hown
def sevFrom (i acc : Nat) : List UInt8 → Option (Nat × Nat)
 | [] => none
 | c :: r =>
  if 9 < i then none
  else if i = 9 ∧ 1 < c.toNat then none
  else if c.toNat = 0 ∧ 0 < i then none
  else if c.toNat < 128 then some (acc + c.toNat * 2 ^ (7 * i), i + 1)
  else sevFrom (i + 1) (acc + c.toNat % 128 * 2 ^ (7 * i)) r
def sev (l : List UInt8) : Option (Nat × Nat) := sevFrom 0 0 l
theorem sev_pow (i : Nat) : 2 ^ (7 * (i + 1)) = 128 * 2 ^ (7 * i) := by
 rw [Nat.mul_add, Nat.pow_add, Nat.mul_comm]
theorem sev_over {i acc : Nat} {c : UInt8} {r : List UInt8} (h : i = 9) (h1 : 1 < c.toNat) : sevFrom i acc (c :: r) = none := by
 unfold sevFrom; rw [if_neg (by omega), if_pos ⟨h, h1⟩]
theorem sev_zero {i acc : Nat} {c : UInt8} {r : List UInt8} (h : 0 < i) (h1 : c.toNat = 0) : sevFrom i acc (c :: r) = none := by
 unfold sevFrom
 split
 ·rfl
 ·rw [if_neg (by omega), if_pos ⟨h1, h⟩]
theorem sev_last {i acc : Nat} {c : UInt8} {r : List UInt8} (hi : i ≤ 9) (h9 : i = 9 → c.toNat ≤ 1) (h0 : 0 < i → c.toNat ≠ 0) (hc : c.toNat < 128) : sevFrom i acc (c :: r) = some (acc + c.toNat * 2 ^ (7 * i), i + 1) := by
 unfold sevFrom
 rw [if_neg (by omega), if_neg (fun h => by have := h9 h.1; omega), if_neg (fun h => h0 h.2 h.1), if_pos hc]
theorem sev_more {i acc : Nat} {c : UInt8} {r : List UInt8} (hi : i < 9) (hc : 128 ≤ c.toNat) : sevFrom i acc (c :: r) = sevFrom (i + 1) (acc + c.toNat % 128 * 2 ^ (7 * i)) r := by
 conv => lhs; unfold sevFrom
 rw [if_neg (by omega), if_neg (by omega), if_neg (by omega), if_neg (by omega)]
theorem sev_accLast {i acc c : Nat} (hi : i ≤ 9) (ha : acc < 2 ^ (7 * i)) (h9 : i = 9 → c ≤ 1) (hc : c < 128) : acc + c * 2 ^ (7 * i) < 18446744073709551616 := by
 by_cases h : i = 9
 ·subst h
  have h1 : c * 2 ^ (7 * 9) ≤ 1 * 2 ^ (7 * 9) := Nat.mul_le_mul_right _ (h9 rfl)
  have e : 2 ^ (7 * 9) = 9223372036854775808 := by decide
  rw [e] at ha h1 ⊢
  omega
 ·have h1 : c * 2 ^ (7 * i) ≤ 127 * 2 ^ (7 * i) := Nat.mul_le_mul_right _ (by omega)
  have h2 := sev_pow i
  have h3 : 2 ^ (7 * (i + 1)) ≤ 2 ^ 63 := Nat.pow_le_pow_right (by decide) (by omega)
  have e : 2 ^ 63 = 9223372036854775808 := by decide
  rw [e] at h3
  generalize 2 ^ (7 * (i + 1)) = q at *
  generalize 2 ^ (7 * i) = p at *
  generalize c * p = m at *
  omega
theorem sev_accMore {i acc : Nat} (c : Nat) (ha : acc < 2 ^ (7 * i)) : acc + c % 128 * 2 ^ (7 * i) < 2 ^ (7 * (i + 1)) := by
 have h1 : c % 128 * 2 ^ (7 * i) ≤ 127 * 2 ^ (7 * i) := Nat.mul_le_mul_right _ (by omega)
 rw [sev_pow]
 generalize 2 ^ (7 * i) = p at *
 generalize c % 128 * p = m at *
 omega
theorem sevFrom_some : ∀ (l : List UInt8) (i acc n u : Nat), acc < 2 ^ (7 * i) → i ≤ 9 → sevFrom i acc l = some (n, u) → n < 18446744073709551616 ∧ i < u ∧ u ≤ i + l.length ∧ u ≤ 10
 | [], i, acc, n, u, _, _, h => by simp [sevFrom] at h
 | c :: r, i, acc, n, u, ha, hi, h => by
  unfold sevFrom at h
  rw [if_neg (by omega)] at h
  split at h
  ·cases h
  ·rename_i h9
   split at h
   ·cases h
   ·split at h
    ·rename_i h128
     simp only [Option.some.injEq, Prod.mk.injEq] at h
     obtain ⟨rfl, rfl⟩ := h
     exact ⟨sev_accLast hi ha (fun e => by omega) h128, by omega, by simp, by omega⟩
    ·have := sevFrom_some r (i + 1) _ n u (sev_accMore _ ha) (by omega) h
     simp only [List.length_cons]
     omega
theorem sev_some {l : List UInt8} {n u : Nat} (h : sev l = some (n, u)) : n < 18446744073709551616 ∧ 0 < u ∧ u ≤ l.length ∧ u ≤ 10 := by
 have := sevFrom_some l 0 0 n u (by decide) (by decide) h
 omega
def longL (s : List UInt8) : List UInt8 := Lib.uvarint s.length ++ s
def longR (l : List UInt8) : Option (List UInt8 × Nat) :=
 match sev l with
 | none => none
 | some (n, k) => if 200000 < n ∨ l.length < k + n then none else some ((l.drop k).take n, k + n)
theorem longR_none {l : List UInt8} (h : sev l = none) : longR l = none := by unfold longR; rw [h]
theorem longR_bad {l : List UInt8} {n k : Nat} (h : sev l = some (n, k)) (h2 : 200000 < n ∨ l.length < k + n) : longR l = none := by unfold longR; rw [h]; exact if_pos h2
theorem longR_ok {l : List UInt8} {n k : Nat} (h : sev l = some (n, k)) (h1 : n ≤ 200000) (h2 : k + n ≤ l.length) : longR l = some ((l.drop k).take n, k + n) := by unfold longR; rw [h]; exact if_neg (by omega)
theorem longR_some {l x : List UInt8} {k : Nat} (h : longR l = some (x, k)) : 0 < k ∧ k ≤ l.length ∧ x.length ≤ 200000 ∧ x.length < k := by
 unfold longR at h
 split at h
 ·cases h
 ·rename_i n k' hs
  have := sev_some hs
  split at h
  ·cases h
  ·simp only [Option.some.injEq, Prod.mk.injEq] at h
   obtain ⟨rfl, rfl⟩ := h
   rw [List.length_take, List.length_drop]
   omega
open Go.RowKit Go.Maps
def twoD (s : ByteArray) (v : Value) (t : ByteArray) (u : Value) : DataW Value := (oneD s v).put (kL t) (.held u)
theorem del_two {s t : ByteArray} (h : s ≠ t) (v u : Value) : (twoD s v t u).del (kL s) = oneD t u := by
 have h1 := sameKey_ne (fun e => h (kL_inj e) : kL s ≠ kL t)
 have h2 := sameKey_ne (fun e => h (kL_inj e).symm : kL t ≠ kL s)
 unfold twoD oneD DataW.put
 simp only [List.filter_cons, h1, Bool.not_false, if_true, List.filter_nil]
 by_cases hb : (kL t).before (kL s) = true
 ·simp [DataW.insert, hb, DataW.del, sameKey_kL, h2]
 ·simp [DataW.insert, hb, DataW.del, sameKey_kL, h2]
theorem FM.look_t {w : World} {mb n : Nat} {s t : ByteArray} {v : Value} (h : FM w mb n (oneD s v)) (hne : s ≠ t) (ht : t.size ≤ maxLen) :
  (Instr.lookup 42 (.map (some mb)) (.string t) false).run Tryz.prog w = .ok (.slice none 0 0) w := by
 obtain ⟨u, h1, h2⟩ := h.at ht
 rw [at_one_ne hne] at h2
 obtain rfl : Value.slice none 0 0 = u := by simpa using h2
 exact h1
theorem renameD_one (db mb n : Nat) (s t : ByteArray) (v : Value) (w : World) (steps used : Int) (hd : Blk w db (dkCells steps used mb) 46) (hm : FM w mb n (oneD s v)) (hs : s.size ≤ maxLen) (ht : t.size ≤ maxLen) (hne : s ≠ t) (hok : nameD t = true) (h0 : 0 ≤ steps) (h1 : steps ≤ 1000000) (hu : 0 ≤ used ∧ used ≤ 1000000) (hn : n ≤ 1000000) (hdm : db ≠ mb) :
  Calls Tryz.prog 42 #[.pointer (some ⟨db, 0, none⟩), .string s, .string t] w (fun en w' => en = .returned .nilIface ∧ FM w' mb (n + 1) (oneD t v) ∧ Blk w' db (dkCells (steps + 1) used mb) 46 ∧ Chg (TwoD db mb) w w') := by
 have c5 : w.cell? ⟨db, 5, none⟩ = some (.map (some mb)) := hd.cell 5
 obtain ⟨u, hlk, hu'⟩ := hm.look hs
 rw [has_one] at hlk
 rw [at_one] at hu'
 obtain rfl : v = u := by simpa using hu'
 go_enter Tryz.func42, Tryz.ntmps42
 go_wp2_with fail
 refine (isNameD_any t w (by unfold maxLen at ht; omega)).mono ?_
 rintro en w1 ⟨rfl, hc1⟩
 rw [hok]
 have hd1 := hd.keep hc1 nbE
 have hm1 := hm.keep hc1 nbE
 go_wp2_with fail
 refine (step_any db w1 steps used mb hd1 h0 (by omega)).mono ?_
 rintro en w2 ⟨rfl, hd2, hc2⟩
 have hm2 := hm1.keep hc2 (fun e => hdm e.symm)
 have hneb : (s.toList == t.toList) = false := by
  rw [Lib.toList_data, Lib.toList_data]
  exact beq_eq_false_iff_ne.2 (fun e => hne (kL_inj (congrArg Lit.string e)))
 have c4 : w2.cell? ⟨db, 4, none⟩ = some (.int .i64 used) := hd2.cell 4
 have c5' : w2.cell? ⟨db, 5, none⟩ = some (.map (some mb)) := hd2.cell 5
 have f4 : w2.frozen? ⟨db, 4, none⟩ = false := hd2.free 4
 go_wp2_with fail
 have e2 := fun w' (h : FM w' mb n (oneD s v)) => h.look_t hne ht
 refine wp_region_n (fun w' => w'.cell? ⟨db, 4, none⟩ = some (.int .i64 used) ∧ w'.cell? ⟨db, 5, none⟩ = some (.map (some mb)) ∧ (Instr.lookup 42 (.map (some mb)) (.string t) false).run Tryz.prog w' = .ok (.slice none 0 0) w') [14] (by kernel_rfl) ?_ (fun hSh => ?_)
 ·exact ⟨c4, c5', e2 _ hm2.drew⟩
 refine n_from 0 ?_
 intro htk
 iterate 12
  refine n_tB (v := ?_) htk rfl (Or.inl ⟨by rfl, ?_⟩) ?_
  rotate_left 1
  ·(intro w' hSw; (try dsimp only at hSw); go_simp; try with_reducible rfl)
  clear htk
  intro htk
  simp only [Nat.reduceAdd] at htk
  simp only [Act.put, qA, qB, qC, qD, qE, qF]
 clear htk
 refine n_step 12 rfl (by kernel_rfl) ?_
 go_wp2_with fail
 refine ⟨fun _ => ⟨c4, c5', e2 _ hm2.drew⟩, fun hSk => ?_⟩
 replace hSk := hSk (by rfl)
 refine n_step 13 rfl (by kernel_rfl) ?_
 go_wp2_with fail
 refine ⟨fun _ => ⟨c4, c5', e2 _ hm2.drew⟩, fun hSk => ?_⟩
 replace hSk := hSk (by rfl)
 refine n_step 14 rfl (by kernel_rfl) ?_
 go_wp2_with fail
 refine ⟨fun hx => absurd hx (by decide), fun _ => ?_⟩
 refine n_done (by kernel_rfl) ?_
 have hd3 := hd2.set 4 (.int .i64 used)
 have hc3 : Chg (OneB db) w2 (w2.setCell ⟨db, 4, none⟩ (.int .i64 used)) := (Chg.refl (OneB db) w2).setCell (p := ⟨db, 4, none⟩) (.inl rfl) _
 generalize w2.setCell ⟨db, 4, none⟩ (.int .i64 used) = w3 at hd3 hc3 ⊢
 have hm3 := hm2.keep hc3 (fun e => hdm e.symm)
 have c5q : w3.drew.cell? ⟨db, 5, none⟩ = some (.map (some mb)) := hd3.cell 5
 have hc03 : Chg (TwoD db mb) w w3.drew := (((hc1.mono (fun _ _ h => h.elim)).trans hc2 (fun i h => .inl (.inl h))).trans hc3 (fun i h => .inl (.inl h))).drew
 clear hSk hSh c4 c5' c5 hlk e2 f4
 go_wp2_with (at_mapUpdate; refine wpList_mapUpdate_own _ rfl _ _ _ 42 rfl 9 63 strKey Tryz.underlying42 heldE mb n (oneD s v) rfl hm3.drew (by unfold maxLen; omega) _ _ (kL t) rfl rfl (key_str ht) (.held v) [] rfl ?_; refine stop_here ?_)
 refine Stop.go ?_
 intro w4 hm4 hg4
 have hc4 := grown_chg hg4
 have hd4 : Blk w4 db (dkCells (steps + 1) used mb) 46 := Blk.keep (w := w3.drew) (show Blk w3.drew db (dkCells (steps + 1) used mb) 46 from hd3) hc4 hdm
 have c5r : w4.cell? ⟨db, 5, none⟩ = some (.map (some mb)) := hd4.cell 5
 clear c5q hg4
 go_wp2_with (at_delete; refine wpList_delete_own _ rfl _ _ 42 9 rfl 63 strKey Tryz.underlying42 heldE mb (n + 1) (twoD s v t v) rfl hm4 _ _ rfl (key_str hs) ?_; refine stop_here ?_)
 refine Stop.go ?_
 intro w5 hm5 hg5
 rw [del_two hne] at hm5
 have hc5 := grown_chg hg5.grown
 have Hm5 := Lib.hid (show FM w5 mb (n + 1) (oneD t v) from hm5)
 have hd5 := hd4.keep hc5 hdm
 clear hm5 hm4
 go_wp2_with fail
 go_ret
 exact ⟨rfl, Hm5.out, hd5, (hc03.trans hc4 (fun i h => .inl (.inr h))).trans hc5 (fun i h => .inl (.inr h))⟩
theorem numF_pos {l : List UInt8} {v : Int} (h : numF l = some v) : 0 ≤ v := by
 unfold numF at h
 split at h
 ·cases h
 ·rename_i v' hv
  split at h
  ·rename_i hc
   cases h
   obtain ⟨h4, ht, _⟩ := hc
   have ha := (trimS_nil l digits).1 ht
   have hne : l ≠ [] := fun e => by rw [e, numOk_nil] at hv; cases hv
   rw [numOk_digits ha h4 hne] at hv
   obtain ⟨m, _, h2, _⟩ := dec_dval l 0 ha
   have h5 : dval l 0 = v := Option.some.inj hv
   have h6 : (m : Int) = dval l 0 := h2
   omega
  ·cases h
def Slim (n : Nd) : Prop := 0 ≤ n.id ∧ n.id ≤ 2000000 ∧ n.name.size ≤ 10000 ∧ 0 ≤ n.rep ∧ n.rep ≤ 10 ∧ 0 ≤ n.kind ∧ n.kind ≤ 10
def Flatly (P : Nd → Prop) : Prop := ∀ i n r k s s', P (.mk i n r k s) → P (.mk i n r k s')
theorem slim_flat : Flatly Slim := fun _ _ _ _ _ _ h => h
theorem alls_iff {P : Nd → Prop} : ∀ {l : List Nd}, Nd.Alls P l ↔ ∀ n ∈ l, n.All P
 | [] => ⟨fun _ n hn => (List.not_mem_nil hn).elim, fun _ => trivial⟩
 | x :: xs => by
  show x.All P ∧ Nd.Alls P xs ↔ _
  rw [alls_iff]
  simp
mutual
theorem all_grpN {P : Nd → Prop} (hP : Flatly P) {id : Int} {g : List Nd → List Nd} (hg : ∀ s, Nd.Alls P s → Nd.Alls P (g s)) : ∀ n : Nd, n.All P → (grpN id g n).All P
 | .mk i nm r k s, h => by
  rw [grpN]
  refine ⟨hP _ _ _ _ _ _ h.1, ?_⟩
  split
  ·exact hg s h.2
  ·exact all_grpL hP hg s h.2
theorem all_grpL {P : Nd → Prop} (hP : Flatly P) {id : Int} {g : List Nd → List Nd} (hg : ∀ s, Nd.Alls P s → Nd.Alls P (g s)) : ∀ l : List Nd, Nd.Alls P l → Nd.Alls P (grpL id g l)
 | [], _ => trivial
 | n :: ns, h => by
  rw [grpL]
  exact ⟨all_grpN hP hg n h.1, all_grpL hP hg ns h.2⟩
end
theorem all_grpT {P : Nd → Prop} (hP : Flatly P) {id : Int} {g : List Nd → List Nd} (hg : ∀ s, Nd.Alls P s → Nd.Alls P (g s)) {l : List Nd} (h : Nd.Alls P l) : Nd.Alls P (grpT id g l) := by
 unfold grpT
 split
 ·exact hg l h
 ·exact all_grpL hP hg l h
theorem all_setId {P : Nd → Prop} {id : Int} {f : Nd → Nd} (hf : ∀ n : Nd, n.All P → (f n).All P) {s : List Nd} (h : Nd.Alls P s) : Nd.Alls P (setId id f s) := by
 rw [alls_iff] at h ⊢
 intro n hn
 obtain ⟨c, hc, rfl⟩ := List.mem_map.1 hn
 split
 ·exact hf c (h c hc)
 ·exact h c hc
theorem all_sub {P : Nd → Prop} {s s' : List Nd} (hs : ∀ n ∈ s', n ∈ s) (h : Nd.Alls P s) : Nd.Alls P s' := by
 rw [alls_iff] at h ⊢
 exact fun n hn => h n (hs n hn)
theorem movTo_mem {id : Int} {p : Nat} {s : List Nd} : ∀ n ∈ movTo id p s, n ∈ s := by
 unfold movTo
 intro n hn
 split at hn
 ·exact hn
 ·rename_i q hq
  rcases List.mem_append.1 hn with hn | hn
  ·exact (List.mem_filter.1 (List.mem_of_mem_take hn)).1
  ·rcases List.mem_cons.1 hn with rfl | hn
   ·exact List.mem_of_find?_eq_some hq
   ·exact (List.mem_filter.1 (List.mem_of_mem_drop hn)).1
mutual
theorem all_dropN {P : Nd → Prop} (hP : Flatly P) {id : Int} : ∀ n : Nd, n.All P → (dropN id n).All P
 | .mk i nm r k s, h => by
  rw [dropN]
  exact ⟨hP _ _ _ _ _ _ h.1, all_sub (fun _ hn => (List.mem_filter.1 hn).1) (all_dropL hP s h.2)⟩
theorem all_dropL {P : Nd → Prop} (hP : Flatly P) {id : Int} : ∀ l : List Nd, Nd.Alls P l → Nd.Alls P (dropL id l)
 | [], _ => trivial
 | n :: ns, h => by
  rw [dropL]
  exact ⟨all_dropN hP n h.1, all_dropL hP ns h.2⟩
end
theorem weighs_append : ∀ a b : List Nd, Nd.weighs (a ++ b) = Nd.weighs a + Nd.weighs b
 | [], b => by simp [Nd.weighs]
 | x :: xs, b => by simp only [List.cons_append, Nd.weighs, weighs_append xs b]; omega
theorem weighs_filter (p : Nd → Bool) : ∀ l : List Nd, Nd.weighs (l.filter p) ≤ Nd.weighs l
 | [] => Nat.le_refl _
 | x :: xs => by
  have := weighs_filter p xs
  rw [List.filter_cons]
  split <;> simp only [Nd.weighs] <;> omega
theorem weighs_cut (p : Nat) (l : List Nd) : Nd.weighs (l.take p) + Nd.weighs (l.drop p) = Nd.weighs l := by
 rw [← weighs_append, List.take_append_drop]
mutual
theorem weigh_grpN {id : Int} {g : List Nd → List Nd} (hg : ∀ s, Nd.weighs (g s) ≤ 41 * Nd.weighs s) : ∀ n : Nd, (grpN id g n).weigh ≤ 41 * n.weigh
 | .mk i nm r k s => by
  rw [grpN]
  simp only [Nd.weigh]
  have h1 := hg s
  have h2 := weigh_grpL (id := id) hg s
  split <;> omega
theorem weigh_grpL {id : Int} {g : List Nd → List Nd} (hg : ∀ s, Nd.weighs (g s) ≤ 41 * Nd.weighs s) : ∀ l : List Nd, Nd.weighs (grpL id g l) ≤ 41 * Nd.weighs l
 | [] => Nat.le_refl _
 | n :: ns => by
  have h1 := weigh_grpN (id := id) hg n
  have h2 := weigh_grpL (id := id) hg ns
  rw [grpL]
  simp only [Nd.weighs]
  omega
end
theorem weigh_grpT {id : Int} {g : List Nd → List Nd} (hg : ∀ s, Nd.weighs (g s) ≤ 41 * Nd.weighs s) (l : List Nd) : Nd.weighs (grpT id g l) ≤ 41 * Nd.weighs l := by
 unfold grpT
 split
 ·exact hg l
 ·exact weigh_grpL hg l
theorem weigh_setId {id : Int} {f : Nd → Nd} (hf : ∀ n : Nd, (f n).weigh ≤ 41 * n.weigh) : ∀ s : List Nd, Nd.weighs (setId id f s) ≤ 41 * Nd.weighs s
 | [] => Nat.le_refl _
 | n :: ns => by
  have h1 := hf n
  have h2 := weigh_setId (id := id) hf ns
  unfold setId at h2 ⊢
  rw [List.map_cons]
  simp only [Nd.weighs]
  split <;> omega
theorem weigh_movTo {id : Int} {p : Nat} (s : List Nd) : Nd.weighs (movTo id p s) ≤ 41 * Nd.weighs s := by
 unfold movTo
 split
 ·omega
 ·rename_i q hq
  have h1 := Nd.weigh_mem (List.mem_of_find?_eq_some hq)
  have h2 := weighs_filter (fun c => !decide (c.id = id)) s
  have h3 := weighs_cut p (s.filter fun c => !decide (c.id = id))
  rw [weighs_append]
  simp only [Nd.weighs]
  omega
mutual
theorem weigh_dropN {id : Int} : ∀ n : Nd, (dropN id n).weigh ≤ n.weigh
 | .mk i nm r k s => by
  rw [dropN]
  simp only [Nd.weigh]
  have h1 := weigh_dropL (id := id) s
  have h2 := weighs_filter (fun x => !delB id x) (dropL id s)
  omega
theorem weigh_dropL {id : Int} : ∀ l : List Nd, Nd.weighs (dropL id l) ≤ Nd.weighs l
 | [] => Nat.le_refl _
 | n :: ns => by
  have h1 := weigh_dropN (id := id) n
  have h2 := weigh_dropL (id := id) ns
  rw [dropL]
  simp only [Nd.weighs]
  omega
end
theorem weigh_addSub {t : Nd} (ht : t.weigh ≤ 40) (n : Nd) : (addSub t n).weigh ≤ 41 * n.weigh := by
 cases n
 simp only [addSub, Nd.withSub, Nd.sub, Nd.weigh, weighs_append, Nd.weighs]
 omega
theorem all_addSub {P : Nd → Prop} (hP : Flatly P) {t : Nd} (ht : t.All P) (n : Nd) (h : n.All P) : (addSub t n).All P := by
 cases n
 refine ⟨hP _ _ _ _ _ _ h.1, alls_append _ _ h.2 ⟨ht, trivial⟩⟩
theorem numGo_fold : ∀ (ws : List ByteArray) (st : List ByteArray × Int × Nat), st.2.1 ≤ (ws.foldl (fun s x => (s.1 ++ (numStep s.2.2 s.2.1 x).1, (numStep s.2.2 s.2.1 x).2, s.2.2 + 1)) st).2.1 ∧ (ws.foldl (fun s x => (s.1 ++ (numStep s.2.2 s.2.1 x).1, (numStep s.2.2 s.2.1 x).2, s.2.2 + 1)) st).2.1 ≤ st.2.1 + ws.length
 | [], st => ⟨Int.le_refl _, by simp⟩
 | x :: xs, st => by
  have h := numGo_fold xs (st.1 ++ (numStep st.2.2 st.2.1 x).1, (numStep st.2.2 st.2.1 x).2, st.2.2 + 1)
  have h1 : st.2.1 ≤ (numStep st.2.2 st.2.1 x).2 ∧ (numStep st.2.2 st.2.1 x).2 ≤ st.2.1 + 1 := by
   unfold numStep
   split
   ·dsimp only; omega
   ·split <;> dsimp only <;> omega
  rw [List.foldl_cons, List.length_cons]
  dsimp only at h
  omega
theorem numGo_nx (nx : Int) (ws : List ByteArray) : nx ≤ (numGo nx ws).2.1 ∧ (numGo nx ws).2.1 ≤ nx + ws.length := numGo_fold ws ([], nx, 0)
theorem readF_right {s : ByteArray} {i : Int} {nm : ByteArray} {r k : Int} {t : Nd} (h : readF s = .ok (.mk i nm r k [t])) : t.All Right ∧ t.weigh ≤ 39 ∧ Fit [t] := by
 have hv := read_valid h
 have hf : Fit [t] := fit_of hv
 have hS := schema_of_valid hv
 have h2 := hf.small
 simp only [Nd.weighs] at h2
 exact ⟨hS.right.1, by omega, hf⟩
mutual
theorem weigh_give (d : Int) : ∀ n : Nd, (giveN d n).weigh = n.weigh
 | .mk i nm r k s => by rw [giveN]; simp only [Nd.weigh]; rw [weighs_give d s]
theorem weighs_give (d : Int) : ∀ l : List Nd, Nd.weighs (giveL d l) = Nd.weighs l
 | [] => rfl
 | n :: ns => by rw [giveL]; simp only [Nd.weighs]; rw [weigh_give d n, weighs_give d ns]
end
mutual
theorem slim_give {d : Int} (hd : 0 ≤ d ∧ d ≤ 1000000) : ∀ n : Nd, n.All Right → (giveN d n).All Slim
 | .mk i nm r k s, h => by
  rw [giveN]
  refine ⟨?_, slims_give hd s h.2⟩
  obtain ⟨h1, h2, h3, h4, _, _, h5, h6, h7⟩ := h.1
  simp only [Nd.rep, Nd.kind, Nd.id, Nd.name] at h1 h2 h3 h4 h5 h6 h7
  have h8 : nm.size ≤ 12 := by
   unfold isNameB at h5
   simp only [Bool.and_eq_true, decide_eq_true_eq] at h5
   exact h5.1.2
  refine ⟨?_, ?_, ?_, ?_, ?_, ?_, ?_⟩ <;> simp only [Nd.rep, Nd.kind, Nd.id, Nd.name] <;> omega
theorem slims_give {d : Int} (hd : 0 ≤ d ∧ d ≤ 1000000) : ∀ l : List Nd, Nd.Alls Right l → Nd.Alls Slim (giveL d l)
 | [], _ => trivial
 | n :: ns, h => by
  rw [giveL]
  exact ⟨slim_give hd n h.1, slims_give hd ns h.2⟩
end
theorem nodeF_facts {line : ByteArray} {nx nx' : Int} {t : Nd} (hnx : 1 ≤ nx ∧ nx ≤ 1000000) (h : nodeF line nx = some (t, nx')) : t.All Slim ∧ t.weigh ≤ 40 ∧ nx ≤ nx' ∧ nx' ≤ nx + line.size + 1 := by
 unfold nodeF at h
 split at h
 ·rename_i t0 ht
  split at h
  ·obtain ⟨rfl, rfl⟩ : giveN (nx - 1) t0 = t ∧ (numGo nx (wordsB line)).2.1 = nx' := by simpa using h
   have h1 := numGo_nx nx (wordsB line)
   have h2 := words_count line
   have h3 : t0.All Right ∧ t0.weigh ≤ 39 ∧ Fit [t0] := by
    unfold oneOf at ht
    split at ht
    ·rename_i hR
     cases ht
     exact readF_right hR
    ·cases ht
   exact ⟨slim_give (by omega) t0 h3.1, by rw [weigh_give]; omega, h1.1, by omega⟩
  ·cases h
 ·cases h
theorem all_ok : ∀ {l : List Nd}, Nd.Alls Slim l → Nd.weighs l ≤ 100000 → Nd.oks l
 | [], _, _ => trivial
 | .mk i nm r k s :: ns, h, hw => by
  simp only [Nd.weighs, Nd.weigh] at hw
  obtain ⟨⟨⟨h1, h2, h3, h4, h5, h6, h7⟩, h8⟩, h9⟩ := h
  simp only [Nd.rep, Nd.kind, Nd.id, Nd.name] at h1 h2 h3 h4 h5 h6 h7
  have hl := weighs_len s
  refine ⟨⟨⟨by omega, by omega⟩, by unfold reach; omega, ⟨by omega, by omega⟩, ⟨by omega, by omega⟩, by unfold reach; omega, all_ok h8 (by omega)⟩, all_ok h9 (by omega)⟩
theorem slim_fit {l : List Nd} (h : Fit l) : Nd.Alls Slim l := by
 have hS := schema_of_valid (valid_of h)
 refine Nd.Alls.imp (fun n hn => ?_) l hS.right
 obtain ⟨h1, h2, h3, h4, _, _, h5, h6, h7⟩ := hn
 have h8 : n.name.size ≤ 12 := by
  unfold isNameB at h5
  simp only [Bool.and_eq_true, decide_eq_true_eq] at h5
  exact h5.1.2
 refine ⟨?_, ?_, ?_, ?_, ?_, ?_, ?_⟩ <;> omega
theorem editW_facts {line : ByteArray} {l l' : List Nd} {nx nx' : Int} (hl : line.size ≤ 10000) (hnx : 1 ≤ nx ∧ nx ≤ 1000000) (hs : Nd.Alls Slim l) (hw : Nd.weighs l ≤ 39) (h : editW (wordsB line) l nx = .ok l' nx') :
  Nd.Alls Slim l' ∧ Nd.weighs l' ≤ 1700 ∧ nx ≤ nx' ∧ nx' ≤ nx + line.size + 1 := by
 have hws := words_size line
 generalize hwb : wordsB line = ws at h hws
 match ws, h, hws with
 | [], h, _ => cases h
 | [_], h, _ => cases h
 | w0 :: w1 :: rest, h, hws =>
  simp only [editW] at h
  split at h
  ·rename_i hadd
   obtain ⟨x, r, rfl⟩ : ∃ x r, rest = x :: r := by
    cases rest with
    | nil => exact absurd rfl hadd.2
    | cons x r => exact ⟨x, r, rfl⟩
   have hjr := join_rest hwb
   have hsz : (mkB (joinW (x :: r))).size ≤ line.size := by rw [mkB_sz]; exact hjr
   unfold addF at h
   split at h
   ·cases h
   ·split at h
    ·cases h
    ·rename_i t nx2 hnd
     obtain ⟨f1, f2, f3, f4⟩ := nodeF_facts hnx hnd
     split at h
     ·cases h
      exact ⟨alls_append _ _ hs ⟨f1, trivial⟩, by rw [weighs_append]; simp only [Nd.weighs]; omega, f3, by omega⟩
     ·split at h
      ·cases h
      ·split at h
       ·cases h
        refine ⟨all_grpT slim_flat (fun s h => all_setId (all_addSub slim_flat f1) h) hs, ?_, f3, by omega⟩
        exact Nat.le_trans (weigh_grpT (fun s => weigh_setId (weigh_addSub f2) s) l) (by omega)
       ·cases h
  ·split at h
   ·cases h
   ·split at h
    ·cases h
    ·split at h
     ·cases h
     ·rename_i id hid
      have key : ∀ (w2 : ByteArray) (pl : Int), w2.size ≤ 10000 → opF w0 w2 id pl l nx = .ok l' nx' → Nd.Alls Slim l' ∧ Nd.weighs l' ≤ 1700 ∧ nx ≤ nx' ∧ nx' ≤ nx + line.size + 1 := by
       intro w2 pl hw2 h
       unfold opF at h
       split at h
       ·cases h
       ·split at h
        ·cases h
         refine ⟨all_sub (fun _ hn => (List.mem_filter.1 hn).1) (all_dropL slim_flat l hs), ?_, Int.le_refl _, by omega⟩
         have h1 := weigh_dropL (id := id) l
         have h2 := weighs_filter (fun x => !delB id x) (dropL id l)
         omega
        ·split at h
         ·split at h
          ·cases h
           refine ⟨all_grpT slim_flat (fun s h => all_setId (fun n hn => ?_) h) hs, ?_, Int.le_refl _, by omega⟩
           ·cases n
            obtain ⟨⟨a1, a2, a3, a4, a5, a6, a7⟩, a8⟩ := hn
            exact ⟨⟨a1, a2, hw2, a4, a5, a6, a7⟩, a8⟩
           ·have := weigh_grpT (id := id) (fun s => weigh_setId (id := id) (f := renTo w2) (fun n => by cases n; simp only [renTo, Nd.weigh]; omega) s) l
            omega
          ·cases h
         ·split at h
          ·split at h
           ·cases h
           ·split at h
            ·cases h
            ·cases h
             refine ⟨all_grpT slim_flat (fun s h => all_sub movTo_mem h) hs, ?_, Int.le_refl _, by omega⟩
             have := weigh_grpT (id := id) (fun s => weigh_movTo (id := id) (p := pl.toNat) s) l
             omega
          ·split at h
           ·split at h
            ·cases h
             refine ⟨all_grpT slim_flat (fun s h => all_setId (fun n hn => ?_) h) hs, ?_, Int.le_refl _, by omega⟩
             ·cases n
              obtain ⟨⟨a1, a2, a3, a4, a5, a6, a7⟩, a8⟩ := hn
              exact ⟨⟨a1, a2, a3, a4, a5, (by decide : (0 : Int) ≤ 3), (by decide : (3 : Int) ≤ 10)⟩, a8⟩
             ·have := weigh_grpT (id := id) (fun s => weigh_setId (id := id) (f := kindTo 3) (fun n => by cases n; simp only [kindTo, Nd.weigh]; omega) s) l
              omega
            ·cases h
           ·split at h
            ·cases h
             refine ⟨all_grpT slim_flat (fun s h => all_setId (fun n hn => ?_) h) hs, ?_, Int.le_refl _, by omega⟩
             ·cases n
              obtain ⟨⟨a1, a2, a3, a4, a5, a6, a7⟩, a8⟩ := hn
              exact ⟨⟨a1, a2, a3, (by decide : (0 : Int) ≤ 2), (by decide : (2 : Int) ≤ 10), a6, a7⟩, a8⟩
             ·have := weigh_grpT (id := id) (fun s => weigh_setId (id := id) (f := repTo 2) (fun n => by cases n; simp only [repTo, Nd.weigh]; omega) s) l
              omega
            ·cases h
      split at h
      ·split at h
       ·cases h
       ·rename_i w2 r2 _ _
        split at h
        ·cases h
        ·exact key w2 _ (by have := hws w2 (by simp); omega) h
      ·refine key _ _ ?_ h
       cases rest with
       | nil => exact Nat.zero_le _
       | cons x r =>
        have := hws x (by simp)
        show x.size ≤ 10000
        omega
theorem coded4_any (v : Value) (n at' c : Int) (w : World) (A : Nat → Addr) (hS : Sents w A) (ht : Told w A v n at') (hn : -2 ≤ n ∧ n ≤ 100) (hc : -2 ≤ c ∧ c ≤ 100) :
  Calls Tryz.prog 7 #[v, .int .i64 c] w (RetV (.bool (decide (n = c) && decide (at' = -1))) w) := by
 go_enter Tryz.func7, Tryz.ntmps7
 go_wp2_with fail
 refine (code_any v n at' w A hS ht).mono ?_
 rintro en w1 ⟨rfl, hc1⟩
 by_cases h1 : n = c
 ·subst h1
  by_cases h2 : at' = -1
  ·subst h2
   go_wp2_with fail
   go_ret
   exact ⟨by simp, hc1⟩
  ·have h2' : (at' == -1) = false := by simpa using h2
   have H2 := Lib.hid h2
   clear h2
   go_wp2_with fail
   go_ret
   exact ⟨by simp [H2.out], hc1⟩
 ·have h1' : (n == c) = false := by simpa using h1
  have H1 := Lib.hid h1
  clear h1
  go_wp2_with fail
  go_ret
  exact ⟨by simp [H1.out], hc1⟩
end Go.Proofs.YtnmhkafpgohefaaGreatDoor
