/-
  evolve's edit: one line of edits.
-/
import Derived.Test.YtnmhkafpgohefaaGreatDoorAddT
import Derived.Test.YtnmhkafpgohefaaGreatDoorWordsLaw
import Derived.Test.YtnmhkafpgohefaaGreatDoorJoin
import Derived.Test.YtnmhkafpgohefaaGreatDoorDel1
set_option linter.unusedVariables false
set_option maxHeartbeats 20000000
set_option maxRecDepth 100000
set_option linter.unusedSimpArgs false
namespace Go.Proofs.YtnmhkafpgohefaaGreatDoor
open Go.RowKit
theorem many_look {w : World} {b : Nat} {D : DataW Value} (hm : SM w b 5 D) (hD : ManyD D) (s : ByteArray) (hs : s.size ≤ maxLen) :
  ∃ c, (Instr.lookup 116 (.map (some b)) (.string s) true).run Tryz.prog w = .ok (.tuple #[.int .i64 c, .bool (manyF s).isSome]) w ∧ ∀ n, manyF s = some n → c = n := by
 obtain ⟨v, ps, h1, h2⟩ := World.ownsMap.look_ok hm lawS Tryz.underlying116 (zeroI w) (elI 0 (by decide)) (keyOfS hs)
 obtain ⟨c, rfl, hc, hwc⟩ := plainElem_int_inv Tryz.underlying3 h2
 obtain ⟨h3, h4⟩ := hD s
 rw [h3] at h1
 refine ⟨c, h1, fun n hn => ?_⟩
 have h5 := congrArg Prod.fst hc
 rw [h4 n hn] at h5
 simp only [DataW.lit.injEq, Lit.int.injEq] at h5
 exact h5.2.symm
def bAdd : ByteArray := ⟨#[97, 100, 100]⟩
mutual
def fndG (id : Int) : Nd → Option (List Nd)
 | .mk _ _ _ _ s => if (s.any fun c => decide (c.id = id)) = true then some s else fndGL id s
def fndGL (id : Int) : List Nd → Option (List Nd)
 | [] => none
 | n :: ns => match fndG id n with
  | some s => some s
  | none => fndGL id ns
end
def renTo (nm : ByteArray) : Nd → Nd | .mk i _ r k s => .mk i nm r k s
def kindTo (k : Int) : Nd → Nd | .mk i n r _ s => .mk i n r k s
def repTo (r : Int) : Nd → Nd | .mk i n _ k s => .mk i n r k s
def movTo (id : Int) (p : Nat) (s : List Nd) : List Nd :=
 match s.find? fun c => decide (c.id = id) with
 | none => s
 | some q => (s.filter fun c => !decide (c.id = id)).take p ++ q :: (s.filter fun c => !decide (c.id = id)).drop p
def opF (w0 w2 : ByteArray) (id place : Int) (l : List Nd) (nx : Int) : EdR :=
 match fndL id l with
 | none => .bad .non
 | some q =>
  if w0 = bDrop then .ok ((dropL id l).filter fun x => !delB id x) nx
  else if w0 = bRename then (if isNameB w2 = true then .ok (grpT id (setId id (renTo w2)) l) nx else .bad (.er .name))
  else if w0 = bMove then (match fndG id (rootNd l) with
   | none => .bad .non
   | some s => if (s.length : Int) ≤ place then .bad (.er .bound) else .ok (grpT id (movTo id place.toNat) l) nx)
  else if w0 = bWiden then (if q.kind = 2 then .ok (grpT id (setId id (kindTo 3)) l) nx else .bad .kind)
  else (if q.rep = 1 then .ok (grpT id (setId id (repTo 2)) l) nx else .bad .kind)
def editW (ws : List ByteArray) (l : List Nd) (nx : Int) : EdR :=
 match ws with
 | w0 :: w1 :: rest =>
  if w0 = bAdd ∧ rest ≠ [] then addF w1 (mkB (joinW rest)) l nx
  else match manyF w0 with
   | none => .bad (.er .text)
   | some k => if (rest.length : Int) + 2 ≠ k + 1 then .bad (.er .text) else match numF w1.data.toList with
    | none => .bad (.er .text)
    | some id => if w0 = bMove then (match rest with
      | [] => .bad (.er .text)
      | w2 :: _ => match numF w2.data.toList with
       | none => .bad (.er .text)
       | some p => opF w0 w2 id p l nx)
     else opF w0 (rest.headD ⟨#[]⟩) id 0 l nx
 | _ => .bad (.er .text)
theorem bytes_beq {a : ByteArray} {l : List UInt8} : (a.toList == l) = decide (a = mkB l) := by
 rw [Lib.toList_data]
 by_cases h : a = mkB l
 ·rw [decide_eq_true h, h]; simp [mkB]
 ·rw [decide_eq_false h, beq_eq_false_iff_ne]
  exact fun e => h (by rw [← e, mkB_back])
theorem edit_no (B0 gb : Nat) (E : Er → Value) (N K : Value) (line w0 : ByteArray) (rest : List ByteArray) (hws : wordsB line = w0 :: rest) (l : List Nd) (nx m : Int) (F : List Nat) (w : World) (hG : EvG B0 E N K m w) (hl : line.size ≤ 10000) (hno : manyF w0 = none) (hna : w0 = bAdd → rest.length ≤ 1) :
  Calls Tryz.prog 30 #[.pointer (some ⟨gb, 0, none⟩), .string line] w (RetEd B0 gb E N K (.bad (.er .text)) F w) := by
 have hsp := Tryz.strings_Split line ⟨#[32]⟩ m w (by omega) hG.max (by decide)
 have hwl := words_len line
 have hwsz := words_size line
 have hwc := words_count line
 rw [split_words, ← hwl, hws] at hsp
 rw [hws] at hwsz hwc
 have hw0 := hwsz w0 (List.mem_cons_self ..)
 simp only [List.length_cons] at hsp hwc
 obtain ⟨Tx, vx, hEx⟩ := hG.glo.errs.form .text
 have HEx := Lib.hid hEx
 clear hwl hws hwsz hEx
 go_enter Tryz.func30, Tryz.ntmps30
 go_wp2_with fail
 refine hsp.mono ?_
 rintro en w1 ⟨rfl, hww⟩
 have hc1 : Chg NoB w w1 := by
  rw [← hww.symm]
  repeat (first | exact Chg.refl _ _ | apply Chg.alloc | apply Chg.drew)
 have hb1 : Blk w1 w.heap.size ((w0 :: rest).map Value.string) 9 := by rw [hww]; exact Blk.newAt rfl
 clear hsp hww
 have e0 : w1.cell? ⟨w.heap.size, 0, none⟩ = some (.string w0) := hb1.cell 0
 have hz1 := hb1.lt
 have hG1 := hG.keep0 hc1
 have htx := hG1.glo.errs.cell .text
 simp only [Er.g] at htx
 rw [HEx.out] at htx
 by_cases ha : w0 = bAdd
 ·have hr1 := hna ha
  have hab : (w0.toList == [97, 100, 100]) = true := by rw [bytes_beq]; exact decide_eq_true ha
  have hrI : ¬ (2 : Int) < (rest.length : Int) + 1 := by omega
  clear ha hna
  go_wp2_with fail
  refine wp_region_n (fun w' => w'.cell? ⟨w.heap.size, 0, none⟩ = some (.string w0)) [] (by kernel_rfl) ?_ (fun hSh => ?_)
  ·exact e0
  refine n_from 1 ?_
  intro htk
  iterate 3
   refine n_tB (v := ?_) htk rfl (Or.inl ⟨by rfl, ?_⟩) ?_
   rotate_left 1
   ·(intro w' hSw; (try dsimp only at hSw); go_simp; try with_reducible rfl)
   clear htk
   intro htk
   simp only [Nat.reduceAdd] at htk
   simp only [Act.put, qA, qB, qC, qD, qE, qF]
  clear htk
  refine n_step 0 rfl (by kernel_rfl) ?_
  go_wp2_with fail
  refine (many_any w1.drew).mono ?_
  rintro en w2 ⟨bm, D, rfl, hSM, hMD, hc2⟩
  have hc02 : Chg NoB w w2 := hc1.tr hc2.ofDrew
  have hb2 := hb1.keep hc2.ofDrew nbE
  have hlM := hSM.lt
  obtain ⟨cM, hlk, hcn⟩ := many_look hSM hMD w0 (by unfold maxLen; omega)
  rw [hno] at hlk hcn
  have Hcn := Lib.hid hcn
  have HMD := Lib.hid hMD
  clear hcn hMD
  go_wp2_with fail
  refine ⟨fun _ => hb2.cell 0, fun hSk => ?_⟩
  replace hSk := hSk (by rfl)
  refine n_step 4 rfl (by kernel_rfl) ?_
  go_wp2_with fail
  refine ⟨fun _ => hb2.cell 0, fun hSk => ?_⟩
  replace hSk := hSk (by rfl)
  refine n_from 5 ?_
  intro htk
  iterate 5
   refine n_tB (v := ?_) htk rfl (Or.inl ⟨by rfl, ?_⟩) ?_
   rotate_left 1
   ·(intro w' hSw; (try dsimp only at hSw); go_simp; try with_reducible rfl)
   clear htk
   intro htk
   simp only [Nat.reduceAdd] at htk
   simp only [Act.put, qA, qB, qC, qD, qE, qF]
  clear htk
  refine n_done (by kernel_rfl) ?_
  clear hSk hSh e0 htx
  have e0 : w2.cell? ⟨w.heap.size, 0, none⟩ = some (.string w0) := hb2.cell 0
  have hG2 := hG.keep0 hc02
  have htx := hG2.glo.errs.cell .text
  simp only [Er.g] at htx
  rw [HEx.out] at htx
  clear hlk
  go_wp2_with fail
  go_ret
  exact ⟨hc02.mono (fun _ _ e => nbE e), congrArg Ending.returned HEx.out.symm⟩
 ·have hab : (w0.toList == [97, 100, 100]) = false := by rw [bytes_beq]; exact decide_eq_false ha
  clear ha hna
  go_wp2_with fail
  refine wp_region_n (fun w' => w'.cell? ⟨w.heap.size, 0, none⟩ = some (.string w0)) [] (by kernel_rfl) ?_ (fun hSh => ?_)
  ·exact e0
  refine n_from 1 ?_
  intro htk
  iterate 3
   refine n_tB (v := ?_) htk rfl (Or.inl ⟨by rfl, ?_⟩) ?_
   rotate_left 1
   ·(intro w' hSw; (try dsimp only at hSw); go_simp; try with_reducible rfl)
   clear htk
   intro htk
   simp only [Nat.reduceAdd] at htk
   simp only [Act.put, qA, qB, qC, qD, qE, qF]
  clear htk
  refine n_step 0 rfl (by kernel_rfl) ?_
  go_wp2_with fail
  refine (many_any w1.drew).mono ?_
  rintro en w2 ⟨bm, D, rfl, hSM, hMD, hc2⟩
  have hc02 : Chg NoB w w2 := hc1.tr hc2.ofDrew
  have hb2 := hb1.keep hc2.ofDrew nbE
  have hlM := hSM.lt
  obtain ⟨cM, hlk, hcn⟩ := many_look hSM hMD w0 (by unfold maxLen; omega)
  rw [hno] at hlk hcn
  have Hcn := Lib.hid hcn
  have HMD := Lib.hid hMD
  clear hcn hMD
  go_wp2_with fail
  refine ⟨fun _ => hb2.cell 0, fun hSk => ?_⟩
  replace hSk := hSk (by rfl)
  refine n_step 4 rfl (by kernel_rfl) ?_
  go_wp2_with fail
  refine ⟨fun _ => hb2.cell 0, fun hSk => ?_⟩
  replace hSk := hSk (by rfl)
  refine n_from 5 ?_
  intro htk
  iterate 5
   refine n_tB (v := ?_) htk rfl (Or.inl ⟨by rfl, ?_⟩) ?_
   rotate_left 1
   ·(intro w' hSw; (try dsimp only at hSw); go_simp; try with_reducible rfl)
   clear htk
   intro htk
   simp only [Nat.reduceAdd] at htk
   simp only [Act.put, qA, qB, qC, qD, qE, qF]
  clear htk
  refine n_done (by kernel_rfl) ?_
  clear hSk hSh e0 htx
  have e0 : w2.cell? ⟨w.heap.size, 0, none⟩ = some (.string w0) := hb2.cell 0
  have hG2 := hG.keep0 hc02
  have htx := hG2.glo.errs.cell .text
  simp only [Er.g] at htx
  rw [HEx.out] at htx
  clear hlk
  go_wp2_with fail
  go_ret
  exact ⟨hc02.mono (fun _ _ e => nbE e), congrArg Ending.returned HEx.out.symm⟩
theorem many_12 {s : ByteArray} {k : Int} (h : manyF s = some k) : k = 1 ∨ k = 2 := by
 unfold manyF at h
 repeat' split at h
 all_goals first | (cases h; done) | (cases h; exact .inl rfl) | (cases h; exact .inr rfl)
theorem many_add : manyF bAdd = none := by decide +kernel
theorem edit_len (B0 gb : Nat) (E : Er → Value) (N K : Value) (line w0 : ByteArray) (rest : List ByteArray) (hws : wordsB line = w0 :: rest) (l : List Nd) (nx m : Int) (F : List Nat) (w : World) (hG : EvG B0 E N K m w) (hl : line.size ≤ 10000) (k : Int) (hk : manyF w0 = some k) (hne : (rest.length : Int) ≠ k) :
  Calls Tryz.prog 30 #[.pointer (some ⟨gb, 0, none⟩), .string line] w (RetEd B0 gb E N K (.bad (.er .text)) F w) := by
 have h12 := many_12 hk
 have hsp := Tryz.strings_Split line ⟨#[32]⟩ m w (by omega) hG.max (by decide)
 have hwl := words_len line
 have hwsz := words_size line
 have hwc := words_count line
 rw [split_words, ← hwl, hws] at hsp
 rw [hws] at hwsz hwc
 have hw0 := hwsz w0 (List.mem_cons_self ..)
 simp only [List.length_cons, List.length_nil, Nat.zero_add, Nat.reduceAdd] at hsp hwc
 obtain ⟨Tx, vx, hEx⟩ := hG.glo.errs.form .text
 have HEx := Lib.hid hEx
 have Hwsz := Lib.hid hwsz
 have hna : ¬ w0 = bAdd := fun e => by rw [e, many_add] at hk; cases hk
 have hab : (w0.toList == [97, 100, 100]) = false := by rw [bytes_beq]; exact decide_eq_false hna
 clear hwl hws hEx hwsz hna
 go_enter Tryz.func30, Tryz.ntmps30
 go_wp2_with fail
 refine hsp.mono ?_
 rintro en w1 ⟨rfl, hww⟩
 have hc1 : Chg NoB w w1 := by
  rw [← hww.symm]
  repeat (first | exact Chg.refl _ _ | apply Chg.alloc | apply Chg.drew)
 have hb1 : Blk w1 w.heap.size ((w0 :: rest).map Value.string) 9 := by rw [hww]; exact Blk.newAt rfl
 clear hsp hww
 have e0 : w1.cell? ⟨w.heap.size, 0, none⟩ = some (.string w0) := hb1.cell 0
 have hz1 := hb1.lt
 have hG1 := hG.keep0 hc1
 have htx := hG1.glo.errs.cell .text
 simp only [Er.g] at htx
 rw [HEx.out] at htx
 go_wp2_with fail
 refine wp_region_n (fun w' => w'.cell? ⟨w.heap.size, 0, none⟩ = some (.string w0)) [] (by kernel_rfl) ?_ (fun hSh => ?_)
 ·exact e0
 refine n_from 1 ?_
 intro htk
 iterate 3
  refine n_tB (v := ?_) htk rfl (Or.inl ⟨by rfl, ?_⟩) ?_
  rotate_left 1
  ·(intro w' hSw; (try dsimp only at hSw); go_simp; try with_reducible rfl)
  clear htk
  intro htk
  simp only [Nat.reduceAdd] at htk
  simp only [Act.put, qA, qB, qC, qD, qE, qF]
 clear htk
 refine n_step 0 rfl (by kernel_rfl) ?_
 go_wp2_with fail
 refine (many_any w1.drew).mono ?_
 rintro en w2 ⟨bm, D, rfl, hSM, hMD, hc2⟩
 have hc02 : Chg NoB w w2 := hc1.tr hc2.ofDrew
 have hb2 := hb1.keep hc2.ofDrew nbE
 have hlM := hSM.lt
 obtain ⟨cM, hlk, hcn⟩ := many_look hSM hMD w0 (by unfold maxLen; omega)
 rw [hk] at hlk hcn
 have Hcn := Lib.hid hcn
 have HMD := Lib.hid hMD
 clear hcn hMD
 go_wp2_with fail
 refine ⟨fun _ => hb2.cell 0, fun hSk => ?_⟩
 replace hSk := hSk (by rfl)
 refine n_step 4 rfl (by kernel_rfl) ?_
 go_wp2_with fail
 refine ⟨fun _ => hb2.cell 0, fun hSk => ?_⟩
 replace hSk := hSk (by rfl)
 refine n_from 5 ?_
 intro htk
 iterate 5
  refine n_tB (v := ?_) htk rfl (Or.inl ⟨by rfl, ?_⟩) ?_
  rotate_left 1
  ·(intro w' hSw; (try dsimp only at hSw); go_simp; try with_reducible rfl)
  clear htk
  intro htk
  simp only [Nat.reduceAdd] at htk
  simp only [Act.put, qA, qB, qC, qD, qE, qF]
 clear htk
 refine n_done (by kernel_rfl) ?_
 clear hSk hSh e0 htx
 have e0 : w2.cell? ⟨w.heap.size, 0, none⟩ = some (.string w0) := hb2.cell 0
 have hG2 := hG.keep0 hc02
 have htx := hG2.glo.errs.cell .text
 simp only [Er.g] at htx
 rw [HEx.out] at htx
 obtain rfl := Hcn.out k rfl
 have hnb : ((rest.length : Int) + 1 != cM + 1) = true := by rw [bne_iff_ne]; omega
 have hnb2 : ((rest.length : Int) != cM) = true := by rw [bne_iff_ne]; omega
 clear hlk hne
 rcases h12 with rfl | rfl
 ·go_wp2_with fail
  go_ret
  exact ⟨hc02.mono (fun _ _ e => nbE e), congrArg Ending.returned HEx.out.symm⟩
 ·go_wp2_with fail
  go_ret
  exact ⟨hc02.mono (fun _ _ e => nbE e), congrArg Ending.returned HEx.out.symm⟩
theorem edit_num1 (B0 gb : Nat) (E : Er → Value) (N K : Value) (line w0 s1 : ByteArray) (hws : wordsB line = [w0, s1]) (l : List Nd) (nx m : Int) (F : List Nat) (w : World) (hG : EvG B0 E N K m w) (hl : line.size ≤ 10000) (hk : manyF w0 = some 1) (hnum : numF s1.data.toList = none) :
  Calls Tryz.prog 30 #[.pointer (some ⟨gb, 0, none⟩), .string line] w (RetEd B0 gb E N K (.bad (.er .text)) F w) := by
 have hsp := Tryz.strings_Split line ⟨#[32]⟩ m w (by omega) hG.max (by decide)
 have hwl := words_len line
 have hwsz := words_size line
 have hwc := words_count line
 rw [split_words, ← hwl, hws] at hsp
 rw [hws] at hwsz hwc
 have hw0 := hwsz w0 (List.mem_cons_self ..)
 simp only [List.length_cons, List.length_nil, Nat.zero_add, Nat.reduceAdd] at hsp hwc
 obtain ⟨Tx, vx, hEx⟩ := hG.glo.errs.form .text
 have HEx := Lib.hid hEx
 have Hwsz := Lib.hid hwsz
 have hna : ¬ w0 = bAdd := fun e => by rw [e, many_add] at hk; cases hk
 have hab : (w0.toList == [97, 100, 100]) = false := by rw [bytes_beq]; exact decide_eq_false hna
 clear hwl hws hEx hwsz hna
 go_enter Tryz.func30, Tryz.ntmps30
 go_wp2_with fail
 refine hsp.mono ?_
 rintro en w1 ⟨rfl, hww⟩
 have hc1 : Chg NoB w w1 := by
  rw [← hww.symm]
  repeat (first | exact Chg.refl _ _ | apply Chg.alloc | apply Chg.drew)
 have hb1 : Blk w1 w.heap.size (([w0, s1]).map Value.string) 9 := by rw [hww]; exact Blk.newAt rfl
 clear hsp hww
 have e0 : w1.cell? ⟨w.heap.size, 0, none⟩ = some (.string w0) := hb1.cell 0
 have hz1 := hb1.lt
 have hG1 := hG.keep0 hc1
 have htx := hG1.glo.errs.cell .text
 simp only [Er.g] at htx
 rw [HEx.out] at htx
 go_wp2_with fail
 refine wp_region_n (fun w' => w'.cell? ⟨w.heap.size, 0, none⟩ = some (.string w0)) [] (by kernel_rfl) ?_ (fun hSh => ?_)
 ·exact e0
 refine n_from 1 ?_
 intro htk
 iterate 3
  refine n_tB (v := ?_) htk rfl (Or.inl ⟨by rfl, ?_⟩) ?_
  rotate_left 1
  ·(intro w' hSw; (try dsimp only at hSw); go_simp; try with_reducible rfl)
  clear htk
  intro htk
  simp only [Nat.reduceAdd] at htk
  simp only [Act.put, qA, qB, qC, qD, qE, qF]
 clear htk
 refine n_step 0 rfl (by kernel_rfl) ?_
 go_wp2_with fail
 refine (many_any w1.drew).mono ?_
 rintro en w2 ⟨bm, D, rfl, hSM, hMD, hc2⟩
 have hc02 : Chg NoB w w2 := hc1.tr hc2.ofDrew
 have hb2 := hb1.keep hc2.ofDrew nbE
 have hlM := hSM.lt
 obtain ⟨cM, hlk, hcn⟩ := many_look hSM hMD w0 (by unfold maxLen; omega)
 rw [hk] at hlk hcn
 have Hcn := Lib.hid hcn
 have HMD := Lib.hid hMD
 clear hcn hMD
 go_wp2_with fail
 refine ⟨fun _ => hb2.cell 0, fun hSk => ?_⟩
 replace hSk := hSk (by rfl)
 refine n_step 4 rfl (by kernel_rfl) ?_
 go_wp2_with fail
 refine ⟨fun _ => hb2.cell 0, fun hSk => ?_⟩
 replace hSk := hSk (by rfl)
 refine n_from 5 ?_
 intro htk
 iterate 5
  refine n_tB (v := ?_) htk rfl (Or.inl ⟨by rfl, ?_⟩) ?_
  rotate_left 1
  ·(intro w' hSw; (try dsimp only at hSw); go_simp; try with_reducible rfl)
  clear htk
  intro htk
  simp only [Nat.reduceAdd] at htk
  simp only [Act.put, qA, qB, qC, qD, qE, qF]
 clear htk
 refine n_done (by kernel_rfl) ?_
 clear hSk hSh e0 htx
 have e0 : w2.cell? ⟨w.heap.size, 0, none⟩ = some (.string w0) := hb2.cell 0
 have hG2 := hG.keep0 hc02
 have htx := hG2.glo.errs.cell .text
 simp only [Er.g] at htx
 rw [HEx.out] at htx
 obtain rfl := Hcn.out 1 rfl
 have hs1 : s1.size ≤ 10000 := by have := Hwsz.out s1 (List.mem_cons_of_mem _ (List.mem_cons_self ..)); omega
 have e1 : w2.cell? ⟨w.heap.size, 1, none⟩ = some (.string s1) := hb2.cell 1
 have hz2 := hb2.lt
 have hnumE := number_any s1 w2 hG2.glo (by omega)
 clear hlk
 go_wp2_with fail
 refine hnumE.mono ?_
 rintro en w3 ⟨vn, rfl, hc3, hvn⟩
 clear hnumE
 have Hvn := Lib.hid hvn
 have hc03 := hc02.tr hc3
 have hb3 := hb2.keep hc3 nbE
 have hG3 := hG.keep0 hc03
 clear hvn e0 e1 htx
 have e0 : w3.cell? ⟨w.heap.size, 0, none⟩ = some (.string w0) := hb3.cell 0
 have e1 : w3.cell? ⟨w.heap.size, 1, none⟩ = some (.string s1) := hb3.cell 1
 have hz3 := hb3.lt
 have htx := hG3.glo.errs.cell .text
 simp only [Er.g] at htx
 rw [HEx.out] at htx
 have htxl : 2 < w3.heap.size := lt_of_cell htx
 rw [hnum]
 go_wp2_with fail
 go_ret
 exact ⟨(hc03.mono (fun _ _ e => nbE e)).alloc _, congrArg Ending.returned HEx.out.symm⟩
theorem edit_num2 (B0 gb : Nat) (E : Er → Value) (N K : Value) (line w0 s1 s2 : ByteArray) (hws : wordsB line = [w0, s1, s2]) (l : List Nd) (nx m : Int) (F : List Nat) (w : World) (hG : EvG B0 E N K m w) (hl : line.size ≤ 10000) (hk : manyF w0 = some 2) (hnum : numF s1.data.toList = none) :
  Calls Tryz.prog 30 #[.pointer (some ⟨gb, 0, none⟩), .string line] w (RetEd B0 gb E N K (.bad (.er .text)) F w) := by
 have hsp := Tryz.strings_Split line ⟨#[32]⟩ m w (by omega) hG.max (by decide)
 have hwl := words_len line
 have hwsz := words_size line
 have hwc := words_count line
 rw [split_words, ← hwl, hws] at hsp
 rw [hws] at hwsz hwc
 have hw0 := hwsz w0 (List.mem_cons_self ..)
 simp only [List.length_cons, List.length_nil, Nat.zero_add, Nat.reduceAdd] at hsp hwc
 obtain ⟨Tx, vx, hEx⟩ := hG.glo.errs.form .text
 have HEx := Lib.hid hEx
 have Hwsz := Lib.hid hwsz
 have hna : ¬ w0 = bAdd := fun e => by rw [e, many_add] at hk; cases hk
 have hab : (w0.toList == [97, 100, 100]) = false := by rw [bytes_beq]; exact decide_eq_false hna
 clear hwl hws hEx hwsz hna
 go_enter Tryz.func30, Tryz.ntmps30
 go_wp2_with fail
 refine hsp.mono ?_
 rintro en w1 ⟨rfl, hww⟩
 have hc1 : Chg NoB w w1 := by
  rw [← hww.symm]
  repeat (first | exact Chg.refl _ _ | apply Chg.alloc | apply Chg.drew)
 have hb1 : Blk w1 w.heap.size (([w0, s1, s2]).map Value.string) 9 := by rw [hww]; exact Blk.newAt rfl
 clear hsp hww
 have e0 : w1.cell? ⟨w.heap.size, 0, none⟩ = some (.string w0) := hb1.cell 0
 have hz1 := hb1.lt
 have hG1 := hG.keep0 hc1
 have htx := hG1.glo.errs.cell .text
 simp only [Er.g] at htx
 rw [HEx.out] at htx
 go_wp2_with fail
 refine wp_region_n (fun w' => w'.cell? ⟨w.heap.size, 0, none⟩ = some (.string w0)) [] (by kernel_rfl) ?_ (fun hSh => ?_)
 ·exact e0
 refine n_from 1 ?_
 intro htk
 iterate 3
  refine n_tB (v := ?_) htk rfl (Or.inl ⟨by rfl, ?_⟩) ?_
  rotate_left 1
  ·(intro w' hSw; (try dsimp only at hSw); go_simp; try with_reducible rfl)
  clear htk
  intro htk
  simp only [Nat.reduceAdd] at htk
  simp only [Act.put, qA, qB, qC, qD, qE, qF]
 clear htk
 refine n_step 0 rfl (by kernel_rfl) ?_
 go_wp2_with fail
 refine (many_any w1.drew).mono ?_
 rintro en w2 ⟨bm, D, rfl, hSM, hMD, hc2⟩
 have hc02 : Chg NoB w w2 := hc1.tr hc2.ofDrew
 have hb2 := hb1.keep hc2.ofDrew nbE
 have hlM := hSM.lt
 obtain ⟨cM, hlk, hcn⟩ := many_look hSM hMD w0 (by unfold maxLen; omega)
 rw [hk] at hlk hcn
 have Hcn := Lib.hid hcn
 have HMD := Lib.hid hMD
 clear hcn hMD
 go_wp2_with fail
 refine ⟨fun _ => hb2.cell 0, fun hSk => ?_⟩
 replace hSk := hSk (by rfl)
 refine n_step 4 rfl (by kernel_rfl) ?_
 go_wp2_with fail
 refine ⟨fun _ => hb2.cell 0, fun hSk => ?_⟩
 replace hSk := hSk (by rfl)
 refine n_from 5 ?_
 intro htk
 iterate 5
  refine n_tB (v := ?_) htk rfl (Or.inl ⟨by rfl, ?_⟩) ?_
  rotate_left 1
  ·(intro w' hSw; (try dsimp only at hSw); go_simp; try with_reducible rfl)
  clear htk
  intro htk
  simp only [Nat.reduceAdd] at htk
  simp only [Act.put, qA, qB, qC, qD, qE, qF]
 clear htk
 refine n_done (by kernel_rfl) ?_
 clear hSk hSh e0 htx
 have e0 : w2.cell? ⟨w.heap.size, 0, none⟩ = some (.string w0) := hb2.cell 0
 have hG2 := hG.keep0 hc02
 have htx := hG2.glo.errs.cell .text
 simp only [Er.g] at htx
 rw [HEx.out] at htx
 obtain rfl := Hcn.out 2 rfl
 have hs1 : s1.size ≤ 10000 := by have := Hwsz.out s1 (List.mem_cons_of_mem _ (List.mem_cons_self ..)); omega
 have e1 : w2.cell? ⟨w.heap.size, 1, none⟩ = some (.string s1) := hb2.cell 1
 have hz2 := hb2.lt
 have hnumE := number_any s1 w2 hG2.glo (by omega)
 clear hlk
 go_wp2_with fail
 refine hnumE.mono ?_
 rintro en w3 ⟨vn, rfl, hc3, hvn⟩
 clear hnumE
 have Hvn := Lib.hid hvn
 have hc03 := hc02.tr hc3
 have hb3 := hb2.keep hc3 nbE
 have hG3 := hG.keep0 hc03
 clear hvn e0 e1 htx
 have e0 : w3.cell? ⟨w.heap.size, 0, none⟩ = some (.string w0) := hb3.cell 0
 have e1 : w3.cell? ⟨w.heap.size, 1, none⟩ = some (.string s1) := hb3.cell 1
 have hz3 := hb3.lt
 have htx := hG3.glo.errs.cell .text
 simp only [Er.g] at htx
 rw [HEx.out] at htx
 have htxl : 2 < w3.heap.size := lt_of_cell htx
 rw [hnum]
 go_wp2_with fail
 go_ret
 exact ⟨(hc03.mono (fun _ _ e => nbE e)).alloc _, congrArg Ending.returned HEx.out.symm⟩
end Go.Proofs.YtnmhkafpgohefaaGreatDoor
