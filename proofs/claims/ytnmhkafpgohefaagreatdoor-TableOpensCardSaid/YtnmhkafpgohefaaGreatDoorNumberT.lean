/-
  evolve.number, and evolve.isName.
-/
import Derived.Test.YtnmhkafpgohefaaGreatDoorNext
import Derived.Test.YtnmhkafpgohefaaGreatDoorParse
set_option linter.unusedVariables false
set_option maxHeartbeats 20000000
set_option maxRecDepth 100000
set_option linter.unusedSimpArgs false
namespace Go.Proofs.YtnmhkafpgohefaaGreatDoor
open Go.RowKit
def tenB : ByteArray := ⟨#[48, 49, 50, 51, 52, 53, 54, 55, 56, 57]⟩
def numF (l : List UInt8) : Option Int := match numOk l with
 | none => none
 | some v => if l.length ≤ 4 ∧ Lib.trimS l digits = [] ∧ (l.length = 1 ∨ l.head? ≠ some 48) then some v else none
def RetNumE (r : Option Int) (w : World) (en : Ending) (w' : World) : Prop := ∃ v, en = .returned (.tuple #[.int .i64 v, .bool r.isSome]) ∧ Chg NoB w w' ∧ ∀ x, r = some x → v = x
theorem trimTen_any (s : ByteArray) (w : World) (hs : s.size ≤ 9223372036854775807) : Calls Tryz.prog 36 #[.string s, .string tenB] w fun e w' => e = .returned (.string ⟨(Lib.trimS s.data.toList digits).toArray⟩) ∧ Chg NoB w w' :=
 (Any.strings_Trim_laid Tryz.lays160 (by kernel_rfl) s tenB w hs (by decide) (ascii_of_all (by decide))).mono fun e w' h => ⟨by rw [h.1]; rfl, Chg.ofBelow h.2⟩
theorem numOk_nil : numOk [] = none := by rfl
theorem number_any {B : Nat} {E : Er → Value} (s : ByteArray) (w : World) (hG : Glo B E w) (hs : s.size ≤ 281474976710656) :
  Calls Tryz.prog 50 #[.string s] w (RetNumE (numF s.data.toList) w) := by
 have hat := atoi_any w s hG hs
 have hlen : s.data.toList.length = s.size := Array.length_toList
 have hdec : numF s.data.toList = match numOk s.data.toList with
  | none => none
  | some v => if s.size ≤ 4 ∧ Lib.trimS s.data.toList digits = [] ∧ (s.size = 1 ∨ s.data.toList.head? ≠ some 48) then some v else none := by unfold numF; rw [hlen]
 have Hdec := Lib.hid hdec
 clear hdec
 cases hok : numOk s.data.toList with
 | none =>
  rw [hok] at hat
  have hr : numF s.data.toList = none := by rw [Hdec.out, hok]
  have Hr := Lib.hid hr
  clear hr hok hlen
  go_enter Tryz.func50, Tryz.ntmps50
  go_wp2_with fail
  refine hat.mono ?_
  rintro en w1 ⟨v, err, rfl, hc1, _, hno⟩
  obtain ⟨T, p, rfl⟩ := hno rfl
  clear hat hno
  go_wp2_with fail
  refine wp_region_n (fun w' => True) [] (by kernel_rfl) ?_ (fun hSh => ?_)
  ·trivial
  refine n_from 0 ?_
  intro htk
  iterate 4
   refine n_tB (v := ?_) htk rfl (Or.inl ⟨by rfl, ?_⟩) ?_
   rotate_left 1
   ·(intro w' hSw; (try dsimp only at hSw); go_simp; try with_reducible rfl)
   clear htk
   intro htk
   simp only [Nat.reduceAdd] at htk
   simp only [Act.put, qA, qB, qC, qD, qE, qF]
  clear htk
  refine n_from 4 ?_
  intro htk
  iterate 3
   refine n_tB (v := undef) htk rfl (Or.inr ⟨by rfl, rfl⟩) ?_
   clear htk
   intro htk
   simp only [Nat.reduceAdd] at htk
   simp only [Act.put, qA, qB, qC, qD, qE, qF]
  clear htk
  refine n_tA (v := ?_) 7 rfl (Or.inl ⟨by rfl, ?_⟩) ?_
  rotate_left 1
  ·(intro w' hSw; (try dsimp only at hSw); go_simp; try with_reducible rfl)
  simp only [Act.put, qA, qB, qC, qD, qE, qF]
  refine n_tA (v := ?_) 8 rfl (Or.inl ⟨by rfl, ?_⟩) ?_
  rotate_left 1
  ·(intro w' hSw; (try dsimp only at hSw); go_simp; try with_reducible rfl)
  simp only [Act.put, qA, qB, qC, qD, qE, qF]
  refine n_from 9 ?_
  intro htk
  iterate 3
   refine n_tB (v := undef) htk rfl (Or.inr ⟨by rfl, rfl⟩) ?_
   clear htk
   intro htk
   simp only [Nat.reduceAdd] at htk
   simp only [Act.put, qA, qB, qC, qD, qE, qF]
  clear htk
  refine n_tA (v := ?_) 12 rfl (Or.inl ⟨by rfl, ?_⟩) ?_
  rotate_left 1
  ·(intro w' hSw; (try dsimp only at hSw); go_simp; try with_reducible rfl)
  simp only [Act.put, qA, qB, qC, qD, qE, qF]
  refine n_tA (v := ?_) 13 rfl (Or.inl ⟨by rfl, ?_⟩) ?_
  rotate_left 1
  ·(intro w' hSw; (try dsimp only at hSw); go_simp; try with_reducible rfl)
  simp only [Act.put, qA, qB, qC, qD, qE, qF]
  refine n_from 14 ?_
  intro htk
  iterate 8
   refine n_tB (v := undef) htk rfl (Or.inr ⟨by rfl, rfl⟩) ?_
   clear htk
   intro htk
   simp only [Nat.reduceAdd] at htk
   simp only [Act.put, qA, qB, qC, qD, qE, qF]
  clear htk
  refine n_from 22 ?_
  intro htk
  iterate 3
   refine n_tB (v := ?_) htk rfl (Or.inl ⟨by rfl, ?_⟩) ?_
   rotate_left 1
   ·(intro w' hSw; (try dsimp only at hSw); go_simp; try with_reducible rfl)
   clear htk
   intro htk
   simp only [Nat.reduceAdd] at htk
   simp only [Act.put, qA, qB, qC, qD, qE, qF]
  clear htk
  refine n_done (by kernel_rfl) ?_
  go_wp2_with fail
  go_ret2
  rw [Hr.out]
  exact ⟨_, rfl, hc1.drew, by simp⟩
 | some v =>
  rw [hok] at hat
  by_cases h4 : s.size ≤ 4
  rotate_left 1
  ·have hr : numF s.data.toList = none := by rw [Hdec.out, hok]; exact if_neg (fun h => h4 h.1)
   have Hr := Lib.hid hr
   have h4I : ¬ (s.size : Int) ≤ 4 := by omega
   have h4b : decide ((s.size : Int) ≤ 4) = false := decide_eq_false h4I
   clear hr hok hlen h4
   go_enter Tryz.func50, Tryz.ntmps50
   go_wp2_with fail
   refine hat.mono ?_
   rintro en w1 ⟨v1, err, rfl, hc1, hyes, _⟩
   obtain ⟨rfl, rfl⟩ := hyes v rfl
   clear hat hyes
   go_wp2_with fail
   refine wp_region_n (fun w' => True) [] (by kernel_rfl) ?_ (fun hSh => ?_)
   ·trivial
   refine n_from 0 ?_
   intro htk
   iterate 9
    refine n_tB (v := ?_) htk rfl (Or.inl ⟨by rfl, ?_⟩) ?_
    rotate_left 1
    ·(intro w' hSw; (try dsimp only at hSw); go_simp; try with_reducible rfl)
    clear htk
    intro htk
    simp only [Nat.reduceAdd] at htk
    simp only [Act.put, qA, qB, qC, qD, qE, qF]
   clear htk
   refine n_from 9 ?_
   intro htk
   iterate 3
    refine n_tB (v := undef) htk rfl (Or.inr ⟨by rfl, rfl⟩) ?_
    clear htk
    intro htk
    simp only [Nat.reduceAdd] at htk
    simp only [Act.put, qA, qB, qC, qD, qE, qF]
   clear htk
   refine n_tA (v := ?_) 12 rfl (Or.inl ⟨by rfl, ?_⟩) ?_
   rotate_left 1
   ·(intro w' hSw; (try dsimp only at hSw); go_simp; try with_reducible rfl)
   simp only [Act.put, qA, qB, qC, qD, qE, qF]
   refine n_tA (v := ?_) 13 rfl (Or.inl ⟨by rfl, ?_⟩) ?_
   rotate_left 1
   ·(intro w' hSw; (try dsimp only at hSw); go_simp; try with_reducible rfl)
   simp only [Act.put, qA, qB, qC, qD, qE, qF]
   refine n_from 14 ?_
   intro htk
   iterate 8
    refine n_tB (v := undef) htk rfl (Or.inr ⟨by rfl, rfl⟩) ?_
    clear htk
    intro htk
    simp only [Nat.reduceAdd] at htk
    simp only [Act.put, qA, qB, qC, qD, qE, qF]
   clear htk
   refine n_from 22 ?_
   intro htk
   iterate 3
    refine n_tB (v := ?_) htk rfl (Or.inl ⟨by rfl, ?_⟩) ?_
    rotate_left 1
    ·(intro w' hSw; (try dsimp only at hSw); go_simp; try with_reducible rfl)
    clear htk
    intro htk
    simp only [Nat.reduceAdd] at htk
    simp only [Act.put, qA, qB, qC, qD, qE, qF]
   clear htk
   refine n_done (by kernel_rfl) ?_
   go_wp2_with fail
   go_ret2
   rw [Hr.out]
   exact ⟨_, rfl, hc1.drew, by simp⟩
  ·have h4I : (s.size : Int) ≤ 4 := by omega
   have h4b : decide ((s.size : Int) ≤ 4) = true := decide_eq_true h4I
   have hpos : 0 < s.size := by
    rcases Nat.eq_zero_or_pos s.size with h0 | h0
    ·have h1 : s.data.toList = [] := List.eq_nil_of_length_eq_zero (by rw [hlen]; exact h0)
     rw [h1, numOk_nil] at hok; cases hok
    ·exact h0
   have hposI : (0 : Int) < (s.size : Int) := by omega
   have hhead : s.data.toList.head? = some (s[0]'hpos) := by
    rw [List.head?_eq_getElem?, List.getElem?_eq_getElem (by rw [hlen]; exact hpos)]; rfl
   have Hhead := Lib.hid hhead
   cases ht : Lib.trimS s.data.toList digits with
   | cons c cs =>
    have hr : numF s.data.toList = none := by rw [Hdec.out, hok]; exact if_neg (fun h => by rw [ht] at h; exact absurd h.2.1 (by simp))
    have Hr := Lib.hid hr
    have Ht := Lib.hid ht
    have hxe : (⟨(c :: cs).toArray⟩ : ByteArray).toList.isEmpty = false := toList_isEmpty (by simp [ByteArray.size])
    clear hr hok hlen ht hhead
    go_enter Tryz.func50, Tryz.ntmps50
    go_wp2_with fail
    refine hat.mono ?_
    rintro en w1 ⟨v1, err, rfl, hc1, hyes, _⟩
    obtain ⟨rfl, rfl⟩ := hyes v rfl
    clear hat hyes
    go_wp2_with fail
    refine wp_region_n (fun w' => True) [] (by kernel_rfl) ?_ (fun hSh => ?_)
    ·trivial
    refine n_from 0 ?_
    intro htk
    iterate 10
     refine n_tB (v := ?_) htk rfl (Or.inl ⟨by rfl, ?_⟩) ?_
     rotate_left 1
     ·(intro w' hSw; (try dsimp only at hSw); go_simp; try with_reducible rfl)
     clear htk
     intro htk
     simp only [Nat.reduceAdd] at htk
     simp only [Act.put, qA, qB, qC, qD, qE, qF]
    clear htk
    refine n_step 10 rfl (by kernel_rfl) ?_
    go_wp2_with fail
    refine (trimTen_any s w1.drew (by omega)).mono ?_
    rintro en w2 ⟨rfl, hc2⟩
    rw [Ht.out]
    have hc02 : Chg NoB w w2 := hc1.tr hc2.ofDrew
    go_wp2_with fail
    refine ⟨fun _ => trivial, fun hSk => ?_⟩
    refine n_from 11 ?_
    intro htk
    iterate 3
     refine n_tB (v := ?_) htk rfl (Or.inl ⟨by rfl, ?_⟩) ?_
     rotate_left 1
     ·(intro w' hSw; (try dsimp only at hSw); go_simp; try with_reducible rfl)
     clear htk
     intro htk
     simp only [Nat.reduceAdd] at htk
     simp only [Act.put, qA, qB, qC, qD, qE, qF]
    clear htk
    refine n_from 14 ?_
    intro htk
    iterate 8
     refine n_tB (v := undef) htk rfl (Or.inr ⟨by rfl, rfl⟩) ?_
     clear htk
     intro htk
     simp only [Nat.reduceAdd] at htk
     simp only [Act.put, qA, qB, qC, qD, qE, qF]
    clear htk
    refine n_from 22 ?_
    intro htk
    iterate 3
     refine n_tB (v := ?_) htk rfl (Or.inl ⟨by rfl, ?_⟩) ?_
     rotate_left 1
     ·(intro w' hSw; (try dsimp only at hSw); go_simp; try with_reducible rfl)
     clear htk
     intro htk
     simp only [Nat.reduceAdd] at htk
     simp only [Act.put, qA, qB, qC, qD, qE, qF]
    clear htk
    refine n_done (by kernel_rfl) ?_
    go_wp2_with fail
    go_ret2
    rw [Hr.out]
    exact ⟨_, rfl, hc02, by simp⟩
   | nil =>
    have Ht := Lib.hid ht
    by_cases h1 : s.size = 1
    ·have hr : numF s.data.toList = some v := by rw [Hdec.out, hok]; exact if_pos ⟨h4, ht, .inl h1⟩
     have Hr := Lib.hid hr
     have h1b : ((s.size : Int) == 1) = true := by rw [h1]; rfl
     clear hr hok hlen ht hhead h1
     go_enter Tryz.func50, Tryz.ntmps50
     go_wp2_with fail
     refine hat.mono ?_
     rintro en w1 ⟨v1, err, rfl, hc1, hyes, _⟩
     obtain ⟨rfl, rfl⟩ := hyes v rfl
     clear hat hyes
     go_wp2_with fail
     refine wp_region_n (fun w' => True) [] (by kernel_rfl) ?_ (fun hSh => ?_)
     ·trivial
     refine n_from 0 ?_
     intro htk
     iterate 10
      refine n_tB (v := ?_) htk rfl (Or.inl ⟨by rfl, ?_⟩) ?_
      rotate_left 1
      ·(intro w' hSw; (try dsimp only at hSw); go_simp; try with_reducible rfl)
      clear htk
      intro htk
      simp only [Nat.reduceAdd] at htk
      simp only [Act.put, qA, qB, qC, qD, qE, qF]
     clear htk
     refine n_step 10 rfl (by kernel_rfl) ?_
     go_wp2_with fail
     refine (trimTen_any s w1.drew (by omega)).mono ?_
     rintro en w2 ⟨rfl, hc2⟩
     rw [Ht.out]
     have hc02 : Chg NoB w w2 := hc1.tr hc2.ofDrew
     go_wp2_with fail
     refine ⟨fun _ => trivial, fun hSk => ?_⟩
     refine n_from 11 ?_
     intro htk
     iterate 7
      refine n_tB (v := ?_) htk rfl (Or.inl ⟨by rfl, ?_⟩) ?_
      rotate_left 1
      ·(intro w' hSw; (try dsimp only at hSw); go_simp; try with_reducible rfl)
      clear htk
      intro htk
      simp only [Nat.reduceAdd] at htk
      simp only [Act.put, qA, qB, qC, qD, qE, qF]
     clear htk
     refine n_from 18 ?_
     intro htk
     iterate 3
      refine n_tB (v := undef) htk rfl (Or.inr ⟨by rfl, rfl⟩) ?_
      clear htk
      intro htk
      simp only [Nat.reduceAdd] at htk
      simp only [Act.put, qA, qB, qC, qD, qE, qF]
     clear htk
     refine n_from 21 ?_
     intro htk
     iterate 4
      refine n_tB (v := ?_) htk rfl (Or.inl ⟨by rfl, ?_⟩) ?_
      rotate_left 1
      ·(intro w' hSw; (try dsimp only at hSw); go_simp; try with_reducible rfl)
      clear htk
      intro htk
      simp only [Nat.reduceAdd] at htk
      simp only [Act.put, qA, qB, qC, qD, qE, qF]
     clear htk
     refine n_done (by kernel_rfl) ?_
     go_wp2_with fail
     go_ret2
     rw [Hr.out]
     exact ⟨_, rfl, hc02, fun x hx => Option.some.inj hx⟩
    ·have h1b : ((s.size : Int) == 1) = false := by rw [beq_eq_false_iff_ne]; omega
     by_cases h48 : (s[0]'hpos).toNat = 48
     ·have hr : numF s.data.toList = none := by
       rw [Hdec.out, hok]
       refine if_neg (fun h => ?_)
       rcases h.2.2 with h9 | h9
       ·exact h1 h9
       ·rw [Hhead.out] at h9
        exact h9 (congrArg some (UInt8.toNat_inj.1 h48))
      have Hr := Lib.hid hr
      have h48b : (((s[0]'hpos).toNat : Int) != 48) = false := by rw [h48]; rfl
      clear hr hok hlen ht hhead h1 h48
      go_enter Tryz.func50, Tryz.ntmps50
      go_wp2_with fail
      refine hat.mono ?_
      rintro en w1 ⟨v1, err, rfl, hc1, hyes, _⟩
      obtain ⟨rfl, rfl⟩ := hyes v rfl
      clear hat hyes
      go_wp2_with fail
      refine wp_region_n (fun w' => True) [] (by kernel_rfl) ?_ (fun hSh => ?_)
      ·trivial
      refine n_from 0 ?_
      intro htk
      iterate 10
       refine n_tB (v := ?_) htk rfl (Or.inl ⟨by rfl, ?_⟩) ?_
       rotate_left 1
       ·(intro w' hSw; (try dsimp only at hSw); go_simp; try with_reducible rfl)
       clear htk
       intro htk
       simp only [Nat.reduceAdd] at htk
       simp only [Act.put, qA, qB, qC, qD, qE, qF]
      clear htk
      refine n_step 10 rfl (by kernel_rfl) ?_
      go_wp2_with fail
      refine (trimTen_any s w1.drew (by omega)).mono ?_
      rintro en w2 ⟨rfl, hc2⟩
      rw [Ht.out]
      have hc02 : Chg NoB w w2 := hc1.tr hc2.ofDrew
      go_wp2_with fail
      refine ⟨fun _ => trivial, fun hSk => ?_⟩
      refine n_from 11 ?_
      intro htk
      iterate 14
       refine n_tB (v := ?_) htk rfl (Or.inl ⟨by rfl, ?_⟩) ?_
       rotate_left 1
       ·(intro w' hSw; (try dsimp only at hSw); go_simp; try with_reducible rfl)
       clear htk
       intro htk
       simp only [Nat.reduceAdd] at htk
       simp only [Act.put, qA, qB, qC, qD, qE, qF]
      clear htk
      refine n_done (by kernel_rfl) ?_
      go_wp2_with fail
      go_ret2
      rw [Hr.out]
      exact ⟨_, rfl, hc02, by simp⟩
     ·have hr : numF s.data.toList = some v := by
       rw [Hdec.out, hok]
       refine if_pos ⟨h4, ht, .inr (fun h9 => h48 ?_)⟩
       rw [Hhead.out] at h9
       rw [Option.some.inj h9]; rfl
      have Hr := Lib.hid hr
      have h48b : (((s[0]'hpos).toNat : Int) != 48) = true := by rw [bne_iff_ne]; omega
      clear hr hok hlen ht hhead h1 h48
      go_enter Tryz.func50, Tryz.ntmps50
      go_wp2_with fail
      refine hat.mono ?_
      rintro en w1 ⟨v1, err, rfl, hc1, hyes, _⟩
      obtain ⟨rfl, rfl⟩ := hyes v rfl
      clear hat hyes
      go_wp2_with fail
      refine wp_region_n (fun w' => True) [] (by kernel_rfl) ?_ (fun hSh => ?_)
      ·trivial
      refine n_from 0 ?_
      intro htk
      iterate 10
       refine n_tB (v := ?_) htk rfl (Or.inl ⟨by rfl, ?_⟩) ?_
       rotate_left 1
       ·(intro w' hSw; (try dsimp only at hSw); go_simp; try with_reducible rfl)
       clear htk
       intro htk
       simp only [Nat.reduceAdd] at htk
       simp only [Act.put, qA, qB, qC, qD, qE, qF]
      clear htk
      refine n_step 10 rfl (by kernel_rfl) ?_
      go_wp2_with fail
      refine (trimTen_any s w1.drew (by omega)).mono ?_
      rintro en w2 ⟨rfl, hc2⟩
      rw [Ht.out]
      have hc02 : Chg NoB w w2 := hc1.tr hc2.ofDrew
      go_wp2_with fail
      refine ⟨fun _ => trivial, fun hSk => ?_⟩
      refine n_from 11 ?_
      intro htk
      iterate 14
       refine n_tB (v := ?_) htk rfl (Or.inl ⟨by rfl, ?_⟩) ?_
       rotate_left 1
       ·(intro w' hSw; (try dsimp only at hSw); go_simp; try with_reducible rfl)
       clear htk
       intro htk
       simp only [Nat.reduceAdd] at htk
       simp only [Act.put, qA, qB, qC, qD, qE, qF]
      clear htk
      refine n_done (by kernel_rfl) ?_
      go_wp2_with fail
      go_ret2
      rw [Hr.out]
      exact ⟨_, rfl, hc02, fun x hx => Option.some.inj hx⟩
end Go.Proofs.YtnmhkafpgohefaaGreatDoor
