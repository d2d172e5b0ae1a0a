/-
  The document's added: a node by its words.
-/
import Derived.Test.YtgcmfpcgmkkobaaGreatDoorWordsT
import Derived.Test.YtgcmfpcgmkkobaaGreatDoorTreeMore
import Derived.Test.YtgcmfpcgmkkobaaGreatDoorWoR
set_option linter.unusedVariables false
set_option maxHeartbeats 20000000
set_option maxRecDepth 100000
set_option linter.unusedSimpArgs false
namespace Go.Proofs.YtgcmfpcgmkkobaaGreatDoor
open Go.RowKit
def RetAdd (W : List (List UInt8)) (k : Nat) (nx ar : Int) (w : World) (en : Ending) (w' : World) : Prop :=
 Chg NoB w w' ∧ ((∃ (t : Nd) (rest : List (List UInt8)) (v : Value), W.drop k = wordsN t ++ rest ∧ t.All PlainW ∧ en = .returned (.tuple #[v, .int .i64 ((k + (wordsN t).length : Nat) : Int), .int .i64 (nx + t.weigh)]) ∧ Own w' w.heap.size 124 6 (fun _ => False) v ((flatI ar [renN nx t]).map It.dt)) ∨
  (NoTree (W.drop k) ∧ ∃ z : Int, en = .returned (.tuple #[.slice none 0 0, .int .i64 (-1), .int .i64 z])))
def AdRel (W : List (List UInt8)) (k : Nat) (nx ar : Int) (nm : ByteArray) (r : Int) (w9 : World) (vk vn vo : Value) (wr : World) : Prop :=
 ∃ (s : List Nd) (k' : Nat), Nd.Alls PlainW s ∧ W.drop (k + 4) = wordsNs s ++ W.drop k' ∧ k' = k + 4 + (wordsNs s).length ∧ k' ≤ W.length ∧ vk = .int .i64 (k' : Nat) ∧ vn = .int .i64 (nx + 1 + (Nd.weighs s : Nat)) ∧
  Own wr w9.heap.size 124 6 (fun _ => False) vo ((⟨.mk nx nm r 0 [], ar⟩ :: flatI nx (renL (nx + 1) s)).map It.dt) ∧ Chg NoB w9 wr
theorem flat_len : ∀ (p : Int) (s : List Nd), (flatI p s).length = Nd.weighs s
 | p, [] => by simp [flatI, Nd.weighs]
 | p, .mk i nm r k s :: ns => by
  simp only [flatI, Nd.weighs, Nd.weigh, List.length_cons, List.length_append]
  rw [flat_len i s, flat_len p ns]; omega
theorem semi_split {c : List UInt8} (h : semiB (mkB c) = true) : ∃ c0, c = c0 ++ [59] ∧ cutS (mkB c) = mkB c0 := by
 obtain ⟨c0, h1⟩ := semi_of.1 h
 have h2 : c = c0 ++ [59] := by first | exact h1 | exact h1.symm
 subst h2
 exact ⟨c0, rfl, cut_semi c0⟩
theorem semi_not {c : List UInt8} (h : semiB (mkB c) = false) : cutS (mkB c) = mkB c ∧ ∀ c0, c ≠ c0 ++ [59] := by
 refine ⟨by unfold cutS; rw [h]; rfl, fun c0 e => ?_⟩
 subst e
 rw [semi_of.2 ⟨c0, rfl⟩] at h
 cases h
theorem Own.oneIt {w : World} {b : Nat} {x : It} (h : Blk w b (itCells x) 124) : Own w b 124 6 (fun _ => False) (.slice (some ⟨b, 0, none⟩) 1 1) ([x].map It.dt) :=
 ⟨itCells x, ⟨rfl, .inr ⟨b, 1, (itCells x).toArray, rfl, Nat.le_refl _, h, Nat.le_refl _, by decide, rfl, rfl⟩⟩, by have := it_chunks w (OwnS (fun _ => False) w (.slice (some ⟨b, 0, none⟩) 1 1)) [x]; simpa using this⟩
theorem mkB_self (nm : ByteArray) : mkB nm.data.toList = nm := by
 obtain ⟨⟨l⟩⟩ := nm
 rfl
theorem no_rep {a b c : List UInt8} {X : List (List UInt8)} (h : ∀ r : Int, 1 ≤ r → r ≤ 3 → a ≠ repS r) : NoTree (a :: b :: c :: X) := by
 rintro ⟨i, nm, r, k, s⟩ rest hA e
 exact h r hA.1.1 hA.1.2.1 (head_of e).1
theorem no_kind {a b c : List UInt8} {X : List (List UInt8)} (h : ∀ k : Int, 0 ≤ k → k ≤ 5 → b ≠ kindS k) : NoTree (a :: b :: c :: X) := by
 rintro ⟨i, nm, r, k, s⟩ rest hA e
 exact h k hA.1.2.2.1 hA.1.2.2.2.1 (head_of e).2.1
theorem name_no59 {nm : ByteArray} (h : isNameB nm = true) {c : List UInt8} (e : c ++ [59] = nm.data.toList) : False :=
 lower_ne59 (name_lower h 59 (by rw [← e]; simp)) rfl
theorem no_name1 {a b c0 : List UInt8} {X : List (List UInt8)} (h : isNameB (mkB c0) = false) : NoTree (a :: b :: (c0 ++ [59]) :: X) := by
 rintro ⟨i, nm, r, k, s⟩ rest hA e
 rcases (head_of e).2.2 with ⟨_, h2, _⟩ | ⟨_, h2, _⟩
 ·exact name_no59 hA.1.2.2.2.2.1 h2
 ·have h3 : mkB c0 = nm := by rw [List.append_cancel_right h2, mkB_self]
  rw [h3] at h
  have h4 := hA.1.2.2.2.2.1
  rw [show Nd.name (.mk i nm r k s) = nm from rfl, h] at h4
  cases h4
theorem no_name0 {a b c : List UInt8} {X : List (List UInt8)} (hs : ∀ c0, c ≠ c0 ++ [59]) (h : isNameB (mkB c) = false) : NoTree (a :: b :: c :: X) := by
 rintro ⟨i, nm, r, k, s⟩ rest hA e
 rcases (head_of e).2.2 with ⟨_, h2, _⟩ | ⟨_, h2, _⟩
 ·have h3 : mkB c = nm := by rw [h2, mkB_self]
  rw [h3] at h
  have h4 := hA.1.2.2.2.2.1
  rw [show Nd.name (.mk i nm r k s) = nm from rfl, h] at h4
  cases h4
 ·exact hs _ h2
theorem no_col {a c0 : List UInt8} {X : List (List UInt8)} : NoTree (a :: kindS 0 :: (c0 ++ [59]) :: X) := by
 rintro ⟨i, nm, r, k, s⟩ rest hA e
 obtain ⟨_, hb, hc⟩ := head_of e
 have hk : 0 = k := kindS_inj (by decide) (by decide) hA.1.2.2.1 hA.1.2.2.2.1 hb
 rcases hc with ⟨_, h2, _⟩ | ⟨h1, _⟩
 ·exact name_no59 hA.1.2.2.2.2.1 h2
 ·exact h1 hk.symm
theorem no_grp {a c : List UInt8} {X : List (List UInt8)} {k : Int} (hs : ∀ c0, c ≠ c0 ++ [59]) (h0 : 0 ≤ k) (h5 : k ≤ 5) (hk : k ≠ 0) : NoTree (a :: kindS k :: c :: X) := by
 rintro ⟨i, nm, r, k', s⟩ rest hA e
 obtain ⟨_, hb, hc⟩ := head_of e
 have hk' : k = k' := kindS_inj h0 h5 hA.1.2.2.1 hA.1.2.2.2.1 hb
 rcases hc with ⟨h1, _⟩ | ⟨_, h2, _⟩
 ·exact hk (hk'.trans h1)
 ·exact hs _ h2
theorem no_in {a c : List UInt8} {X : List (List UInt8)} (hs : ∀ c0, c ≠ c0 ++ [59]) (h : ∀ (s : List Nd) (rest : List (List UInt8)), Nd.Alls PlainW s → X ≠ [123] :: (wordsNs s ++ [125] :: rest)) : NoTree (a :: kindS 0 :: c :: X) := by
 rintro ⟨i, nm, r, k, s⟩ rest hA e
 obtain ⟨_, hb, hc⟩ := head_of e
 rcases hc with ⟨_, _, h3⟩ | ⟨_, h2, _⟩
 ·exact h s rest hA.2 h3
 ·exact hs _ h2
theorem last_semi (s : ByteArray) (hp : 0 < s.size) : ((((s[s.size - 1]'(by omega)).toNat : Nat) : Int) == 59) = semiB s := by
 obtain ⟨⟨l⟩⟩ := s
 have hsz : (⟨⟨l⟩⟩ : ByteArray).size = l.length := rfl
 have hs : (⟨⟨l⟩⟩ : ByteArray) = mkB l := rfl
 rcases List.eq_nil_or_concat l with rfl | ⟨c0, x, rfl⟩
 ·exact absurd hp (by decide)
 ·have h9 : (⟨⟨c0.concat x⟩⟩ : ByteArray)[(⟨⟨c0.concat x⟩⟩ : ByteArray).size - 1]'(by omega) = x := by
   show (c0.concat x)[(⟨⟨c0.concat x⟩⟩ : ByteArray).size - 1]'(by omega) = x
   have hn : (⟨⟨c0.concat x⟩⟩ : ByteArray).size - 1 = c0.length := by rw [hsz, List.length_concat]; omega
   have key : ∀ (n : Nat), n = c0.length → ∀ h : n < (c0.concat x).length, (c0.concat x)[n]'h = x := by
    rintro _ rfl h
    simp
   exact key _ hn _
  rw [h9]
  cases hb : semiB (⟨⟨c0.concat x⟩⟩ : ByteArray) with
  | true =>
   rw [hs] at hb
   obtain ⟨u, hu⟩ := semi_of.1 hb
   rw [List.concat_eq_append] at hu
   have := (List.append_inj' hu rfl).2
   simp only [List.cons.injEq, and_true] at this
   rw [this]; rfl
  | false =>
   rw [hs] at hb
   rw [beq_eq_false_iff_ne]
   intro e
   have hx : x = 59 := UInt8.toNat_inj.1 (by have : (59 : UInt8).toNat = 59 := rfl; omega)
   subst hx
   exact (semi_not hb).2 c0 (by rw [List.concat_eq_append])
theorem addedR_any (W : List (List UInt8)) (b off cap : Nat) (hW : W.length ≤ 1000000) (hsz : ∀ x ∈ W, x.length ≤ 1000000) :
  ∀ (m k : Nat) (nx ar : Int) (w : World), W.length - k < m → k ≤ 1000010 → 0 ≤ nx → nx + (W.length : Int) ≤ 2000000 + (k : Int) → (∀ (j : Nat) (x : List UInt8), W[j]? = some x → w.cell? ⟨b, off + j, none⟩ = some (.string (mkB x))) →
  Calls Tryz.prog 103 #[.slice (some ⟨b, off, none⟩) W.length cap, .int .i64 (k : Nat), .int .i64 nx, .int .i64 ar] w (RetAdd W k nx ar w) := by
 have he := enters_of Tryz.func103 (P := Tryz.prog) (by kernel_rfl) rfl
 intro m
 induction m with
 | zero => intro k nx ar w hm; omega
 | succ m ih =>
  intro k nx ar w hm hk hnx hnW hc
  have Hih := Lib.hid ih
  have Hc := Lib.hid hc
  clear ih hc
  by_cases h3 : W.length < k + 3
  ·have hI : (W.length : Int) < (k : Int) + 3 := by omega
   have hno : NoTree (W.drop k) := noTree_short (by rw [List.length_drop]; omega)
   have Hno := Lib.hid hno
   clear hno
   go_enter Tryz.func103, Tryz.ntmps103
   go_wp2_with fail
   refine bodyPost_ret (v := .tuple #[.slice none 0 0, .int .i64 (-1), .int .i64 nx]) (by simp [results, Tryz.results103, go_sem]) rfl ?_
   exact ⟨Chg.refl _ _, .inr ⟨Hno.out, _, rfl⟩⟩
  ·have hI : ¬ (W.length : Int) < (k : Int) + 3 := by omega
   have hD : W.drop k = W[k] :: W[k + 1] :: W[k + 2] :: W.drop (k + 3) := by
    rw [List.drop_eq_getElem_cons (by omega), List.drop_eq_getElem_cons (i := k + 1) (by omega), List.drop_eq_getElem_cons (i := k + 2) (by omega)]
   have z0 := Hc.out k _ (List.getElem?_eq_getElem (by omega))
   have z1 := Hc.out (k + 1) _ (List.getElem?_eq_getElem (by omega))
   have z2 := Hc.out (k + 2) _ (List.getElem?_eq_getElem (by omega))
   have s2 : W[k + 2].length ≤ 1000000 := hsz _ (List.getElem_mem _)
   have Hsz := Lib.hid hsz
   generalize W[k] = wa at hD z0
   generalize W[k + 1] = wb at hD z1
   generalize W[k + 2] = wc at hD z2 s2
   have HD := Lib.hid hD
   have Z2 := Lib.hid z2
   clear hD hsz
   have hc1 : Chg NoB w (w.alloc (.cells #[.string ⟨#[114, 101, 113, 117, 105, 114, 101, 100]⟩, .string ⟨#[111, 112, 116, 105, 111, 110, 97, 108]⟩, .string ⟨#[114, 101, 112, 101, 97, 116, 101, 100]⟩] 9)) := (Chg.refl _ _).alloc _
   have z0' := (hc1.cell (lt_of_at z0) nbE).trans z0
   have hb1 : Blk (w.alloc (.cells #[.string ⟨#[114, 101, 113, 117, 105, 114, 101, 100]⟩, .string ⟨#[111, 112, 116, 105, 111, 110, 97, 108]⟩, .string ⟨#[114, 101, 112, 101, 97, 116, 101, 100]⟩] 9)) w.heap.size (rep3.map Value.string) 9 := Blk.newAt rfl
   go_enter Tryz.func103, Tryz.ntmps103
   go_wp2_with fail
   generalize World.alloc w _ = w1 at hc1 z0' hb1 ⊢
   refine (hasIndex_any rep3 (mkB wa) w.heap.size 0 3 w1 (by decide) (fun j z hz => by
    rw [Nat.zero_add, hb1.cell j, List.getElem?_map, hz]
    rfl)).mono ?_
   rintro en w0 ⟨rfl, h0⟩
   obtain rfl := h0.symm
   clear h0 hb1 z0 z0'
   have hix : -1 ≤ Lib.idxOfS rep3 (mkB wa) ∧ Lib.idxOfS rep3 (mkB wa) ≤ 2 := by
    rcases rep3_law wa with ⟨r, h1, h2, h3, _⟩ | ⟨h1, _⟩
    ·rw [h3]; omega
    ·rw [h1]; omega
   have hrl := rep3_law wa
   generalize Lib.idxOfS rep3 (mkB wa) = ri at hix hrl ⊢
   have Hrl := Lib.hid hrl
   clear hrl
   replace z1 := (hc1.cell (lt_of_at z1) nbE).trans z1
   replace z2 := (hc1.cell (lt_of_at z2) nbE).trans z2
   go_upto_region 4 with fail
   generalize hw2 : World.alloc w1 _ = w2
   have hc2 : Chg NoB w1 w2 := by
    rw [← hw2]
    repeat (first | exact Chg.refl _ _ | apply Chg.alloc | apply Chg.drew)
   have hn2 : Blk w2 (w1.heap.size) (ndCells nx ⟨#[]⟩ (1 + ri) 0 (.slice none 0 0)) 28 := by
    rw [← hw2]
    repeat (first | exact Blk.newAt (by first | rfl | (simp; done) | (simp; omega)) | apply Blk.alloc | apply Blk.drew)
   clear hw2
   have hc01 := hc1
   generalize hnb : w1.heap.size = nb at hn2 ⊢
   have Hnb := Lib.hid hnb
   clear hnb
   have hc02 := hc1.tr hc2
   replace z1 := (hc2.cell (lt_of_at z1) nbE).trans z1
   replace z2 := (hc2.cell (lt_of_at z2) nbE).trans z2
   have hc3 : Chg NoB w2 (w2.alloc (.cells #[.string ⟨#[103, 114, 111, 117, 112]⟩, .string ⟨#[98, 111, 111, 108]⟩, .string ⟨#[105, 110, 116]⟩, .string ⟨#[108, 111, 110, 103]⟩, .string ⟨#[98, 121, 116, 101, 115]⟩, .string ⟨#[100, 111, 117, 98, 108, 101]⟩] 9)) := (Chg.refl _ _).alloc _
   have z1' := (hc3.cell (lt_of_at z1) nbE).trans z1
   have hb3 : Blk (w2.alloc (.cells #[.string ⟨#[103, 114, 111, 117, 112]⟩, .string ⟨#[98, 111, 111, 108]⟩, .string ⟨#[105, 110, 116]⟩, .string ⟨#[108, 111, 110, 103]⟩, .string ⟨#[98, 121, 116, 101, 115]⟩, .string ⟨#[100, 111, 117, 98, 108, 101]⟩] 9)) w2.heap.size (kindT.map Value.string) 9 := Blk.newAt rfl
   go_wp2_with fail
   generalize World.alloc w2 _ = w3 at hc3 z1' hb3 ⊢
   refine (hasIndex_any kindT (mkB wb) w2.heap.size 0 6 w3 (by decide) (fun j z hz => by
    rw [Nat.zero_add, hb3.cell j, List.getElem?_map, hz]
    rfl)).mono ?_
   rintro en w0 ⟨rfl, h0⟩
   obtain rfl := h0.symm
   clear h0 hb3 z1 z1'
   have hkx : -1 ≤ Lib.idxOfS kindT (mkB wb) ∧ Lib.idxOfS kindT (mkB wb) ≤ 5 := by
    rcases kind6_law wb with ⟨r, h1, h2, h3, _⟩ | ⟨h1, _⟩
    ·rw [h3]; omega
    ·rw [h1]; omega
   have hkl := kind6_law wb
   generalize Lib.idxOfS kindT (mkB wb) = ki at hkx hkl ⊢
   have Hkl := Lib.hid hkl
   clear hkl
   have hn3 := hn2.keep hc3 nbE
   have hc03 := hc02.tr hc3
   replace z2 := (hc3.cell (lt_of_at z2) nbE).trans z2
   have e0 : w3.cell? ⟨nb, 0, none⟩ = some (.int .i64 nx) := hn3.cell 0
   have e2 : w3.cell? ⟨nb, 2, none⟩ = some (.int .i64 (1 + ri)) := hn3.cell 2
   have e3 : w3.cell? ⟨nb, 3, none⟩ = some (.int .i64 0) := hn3.cell 3
   have e3f : w3.frozen? ⟨nb, 3, none⟩ = false := hn3.free 3
   clear hn2 hc2 hc3 hc1 hc02
   go_upto_region 5 with fail
   have hn4 := hn3.set 3 (.int .i64 ki)
   have hnbw : w.heap.size ≤ nb := by
    have := hc01.size
    have := Hnb.out
    omega
   have hc4 : Chg NoB w (w3.setCell ⟨nb, 3, none⟩ (.int .i64 ki)) := hc03.setCell (p := ⟨nb, 3, none⟩) (.inr hnbw) _
   have z2' := (hc4.cell (lt_of_at Z2.out) nbE).trans Z2.out
   simp only [ndCells, List.set_cons_zero, List.set_cons_succ] at hn4
   generalize World.setCell w3 _ _ = w4 at hn4 hc4 z2' ⊢
   clear e0 e2 e3 e3f hn3 hc03 z2
   go_upto_region 6 with fail
   have hsw : (mkB wc).size ≤ 1000000 := by rw [mkB_sz]; exact s2
   go_cut [13] (fun v13 wx => v13 = .bool (semiB (mkB wc)) ∧ wx = w4)
   case first =>
    by_cases hp : 0 < (mkB wc).size
    ·have hpI : (1 : Int) ≤ ((mkB wc).size : Int) := by omega
     have hl := last_semi (mkB wc) hp
     have hpred : (mkB wc).size - 1 < (mkB wc).size := by omega
     go_wp2_with fail
     go_meet
     exact ⟨rfl, rfl⟩
    ·have hn : semiB (mkB wc) = false := by
      cases hsm : semiB (mkB wc) with
      | false => rfl
      | true => exact absurd (semi_pos hsm) (by omega)
     have Hn := Lib.hid hn
     clear hn
     go_wp2_with fail
     go_meet
     exact ⟨by rw [Hn.out], rfl⟩
   case rest =>
    obtain ⟨rfl, hwx⟩ := hcut
    obtain rfl := hwx.symm
    clear hwx z2'
    have e0 : w4.cell? ⟨nb, 0, none⟩ = some (.int .i64 nx) := hn4.cell 0
    have e1 : w4.cell? ⟨nb, 1, none⟩ = some (.string ⟨#[]⟩) := hn4.cell 1
    have e1f : w4.frozen? ⟨nb, 1, none⟩ = false := hn4.free 1
    cases hsm : semiB (mkB wc) with
    | true =>
     obtain ⟨c0, hc0, hct⟩ := semi_split hsm
     have hct2 : (mkB wc).extract 0 ((mkB wc).size - 1) = mkB c0 := by rw [← hct]; unfold cutS; rw [hsm]; rfl
     have hpI : (1 : Int) ≤ ((mkB wc).size : Int) := by have := semi_pos hsm; omega
     have hcz : (mkB c0).size ≤ 1000000 := by rw [mkB_sz]; rw [hc0, List.length_append] at s2; omega
     have Hc0 := Lib.hid hc0
     clear hsm hc0 hct
     go_wp2_with fail
     have hn5 := hn4.set 1 (.string (mkB c0))
     have hc5 : Chg NoB w (w4.setCell ⟨nb, 1, none⟩ (.string (mkB c0))) := hc4.setCell (p := ⟨nb, 1, none⟩) (.inr hnbw) _
     simp only [List.set_cons_zero, List.set_cons_succ] at hn5
     generalize World.setCell w4 _ _ = w5 at hn5 hc5 ⊢
     clear e0 e1 e1f hn4 hc4
     refine (isName2_any (mkB c0) w5 (by omega)).mono ?_
     rintro en w0 ⟨rfl, h0⟩
     obtain rfl := h0.symm
     clear h0
     have e0 : w5.cell? ⟨nb, 0, none⟩ = some (.int .i64 nx) := hn5.cell 0
     have e1 : w5.cell? ⟨nb, 1, none⟩ = some (.string (mkB c0)) := hn5.cell 1
     have e2 : w5.cell? ⟨nb, 2, none⟩ = some (.int .i64 (1 + ri)) := hn5.cell 2
     have e3 : w5.cell? ⟨nb, 3, none⟩ = some (.int .i64 ki) := hn5.cell 3
     have e4 : w5.cell? ⟨nb, 4, none⟩ = some (.slice none 0 0) := hn5.cell 4
     by_cases hr : 1 + ri < 1
     ·have hno : NoTree (W.drop k) := by
       rw [HD.out]
       rcases Hrl.out with ⟨r, h1, h2, h3, _⟩ | ⟨_, h⟩
       ·omega
       ·exact no_rep h
      have Hno := Lib.hid hno
      clear hno
      go_wp2_with fail
      refine bodyPost_ret (v := .tuple #[.slice none 0 0, .int .i64 (-1), .int .i64 nx]) (by simp [results, Tryz.results103, go_sem]) rfl ?_
      exact ⟨hc5, .inr ⟨Hno.out, _, rfl⟩⟩
     ·by_cases hk2 : ki < 0
      ·have hno : NoTree (W.drop k) := by
        rw [HD.out]
        rcases Hkl.out with ⟨r, h1, h2, h3, _⟩ | ⟨_, h⟩
        ·omega
        ·exact no_kind h
       have Hno := Lib.hid hno
       clear hno
       go_wp2_with fail
       refine bodyPost_ret (v := .tuple #[.slice none 0 0, .int .i64 (-1), .int .i64 nx]) (by simp [results, Tryz.results103, go_sem]) rfl ?_
       exact ⟨hc5, .inr ⟨Hno.out, _, rfl⟩⟩
      ·obtain ⟨r, r1, r3, rfl, ra⟩ : ∃ r, 1 ≤ r ∧ r ≤ 3 ∧ ri = r - 1 ∧ wa = repS r := by
        rcases Hrl.out with h | ⟨h, _⟩
        ·exact h
        ·omega
       obtain ⟨kk, k0, k5, rfl, kb⟩ : ∃ k, 0 ≤ k ∧ k ≤ 5 ∧ ki = k ∧ wb = kindS k := by
        rcases Hkl.out with h | ⟨h, _⟩
        ·exact h
        ·omega
       subst ra
       subst kb
       cases hnm : isNameB (mkB c0) with
       | false =>
        have hno : NoTree (W.drop k) := by rw [HD.out, Hc0.out]; exact no_name1 hnm
        have Hno := Lib.hid hno
        clear hno hnm
        go_wp2_with fail
        refine bodyPost_ret (v := .tuple #[.slice none 0 0, .int .i64 (-1), .int .i64 nx]) (by simp [results, Tryz.results103, go_sem]) rfl ?_
        exact ⟨hc5, .inr ⟨Hno.out, _, rfl⟩⟩
       | true =>
        have Hnm := Lib.hid hnm
        clear hnm
        by_cases hk0 : ki = 0
        ·have hno : NoTree (W.drop k) := by rw [HD.out, Hc0.out, hk0]; exact no_col
         have hkb : (ki == 0) = true := by rw [beq_iff_eq]; exact hk0
         have Hno := Lib.hid hno
         clear hno hk0
         go_wp2_with fail
         refine bodyPost_ret (v := .tuple #[.slice none 0 0, .int .i64 (-1), .int .i64 nx]) (by simp [results, Tryz.results103, go_sem]) rfl ?_
         exact ⟨hc5, .inr ⟨Hno.out, _, rfl⟩⟩
        ·have hkb : (ki == 0) = false := by rw [beq_eq_false_iff_ne]; exact hk0
         have Hk0 := Lib.hid hk0
         have hrr : 1 + (r - 1) = r := by omega
         clear hk0
         go_wp2_with fail
         generalize hw6 : World.alloc w5 _ = w6
         have hc6 : Chg NoB w5 w6 := by
          rw [← hw6]
          repeat (first | exact Chg.refl _ _ | apply Chg.alloc | apply Chg.drew)
         have hb6 : Blk w6 (w5.heap.size) (itCells ⟨.mk nx (mkB c0) r ki [], ar⟩) 124 := by
          rw [← hw6]
          repeat (first | exact Blk.newAt (by first | rfl | (simp; done) | (simp; omega)) | apply Blk.alloc | apply Blk.drew)
         clear hw6
         have ho6 := (Own.oneIt hb6).mono (B' := w.heap.size) hc5.size (S' := fun _ => False) (fun _ h => h)
         refine bodyPost_ret (v := .tuple #[.slice (some ⟨w5.heap.size, 0, none⟩) 1 1, .int .i64 ((k : Int) + 3), .int .i64 (nx + 1)]) (by simp [results, Tryz.results103, go_sem]) rfl ?_
         refine ⟨hc5.tr hc6, .inl ⟨.mk 0 (mkB c0) r ki [], W.drop (k + 3), .slice (some ⟨w5.heap.size, 0, none⟩) 1 1, ?_, ⟨⟨r1, r3, k0, k5, Hnm.out, fun _ => rfl⟩, trivial⟩, ?_, ?_⟩⟩
         ·rw [HD.out, Hc0.out, wordsN, if_neg Hk0.out]; rfl
         ·rw [wordsN, if_neg Hk0.out]
          simp [Nd.weigh, Nd.weighs]
         ·simpa [renN, flatI, renL] using ho6
    | false =>
     obtain ⟨hct, hns⟩ := semi_not hsm
     have Hns := Lib.hid hns
     clear hct hns hsm
     go_wp2_with fail
     have hn5 := hn4.set 1 (.string (mkB wc))
     have hc5 : Chg NoB w (w4.setCell ⟨nb, 1, none⟩ (.string (mkB wc))) := hc4.setCell (p := ⟨nb, 1, none⟩) (.inr hnbw) _
     simp only [List.set_cons_zero, List.set_cons_succ] at hn5
     generalize World.setCell w4 _ _ = w5 at hn5 hc5 ⊢
     clear e0 e1 e1f hn4 hc4
     refine (isName2_any (mkB wc) w5 (by omega)).mono ?_
     rintro en w0 ⟨rfl, h0⟩
     obtain rfl := h0.symm
     clear h0
     have e0 : w5.cell? ⟨nb, 0, none⟩ = some (.int .i64 nx) := hn5.cell 0
     have e1 : w5.cell? ⟨nb, 1, none⟩ = some (.string (mkB wc)) := hn5.cell 1
     have e2 : w5.cell? ⟨nb, 2, none⟩ = some (.int .i64 (1 + ri)) := hn5.cell 2
     have e3 : w5.cell? ⟨nb, 3, none⟩ = some (.int .i64 ki) := hn5.cell 3
     have e4 : w5.cell? ⟨nb, 4, none⟩ = some (.slice none 0 0) := hn5.cell 4
     by_cases hr : 1 + ri < 1
     ·have hno : NoTree (W.drop k) := by
       rw [HD.out]
       rcases Hrl.out with ⟨r, h1, h2, h3, _⟩ | ⟨_, h⟩
       ·omega
       ·exact no_rep h
      have Hno := Lib.hid hno
      clear hno
      go_wp2_with fail
      refine bodyPost_ret (v := .tuple #[.slice none 0 0, .int .i64 (-1), .int .i64 nx]) (by simp [results, Tryz.results103, go_sem]) rfl ?_
      exact ⟨hc5, .inr ⟨Hno.out, _, rfl⟩⟩
     ·by_cases hk2 : ki < 0
      ·have hno : NoTree (W.drop k) := by
        rw [HD.out]
        rcases Hkl.out with ⟨r, h1, h2, h3, _⟩ | ⟨_, h⟩
        ·omega
        ·exact no_kind h
       have Hno := Lib.hid hno
       clear hno
       go_wp2_with fail
       refine bodyPost_ret (v := .tuple #[.slice none 0 0, .int .i64 (-1), .int .i64 nx]) (by simp [results, Tryz.results103, go_sem]) rfl ?_
       exact ⟨hc5, .inr ⟨Hno.out, _, rfl⟩⟩
      ·obtain ⟨r, r1, r3, rfl, ra⟩ : ∃ r, 1 ≤ r ∧ r ≤ 3 ∧ ri = r - 1 ∧ wa = repS r := by
        rcases Hrl.out with h | ⟨h, _⟩
        ·exact h
        ·omega
       obtain ⟨kk, k0, k5, rfl, kb⟩ : ∃ k, 0 ≤ k ∧ k ≤ 5 ∧ ki = k ∧ wb = kindS k := by
        rcases Hkl.out with h | ⟨h, _⟩
        ·exact h
        ·omega
       subst ra
       subst kb
       cases hnm : isNameB (mkB wc) with
       | false =>
        have hno : NoTree (W.drop k) := by rw [HD.out]; exact no_name0 Hns.out hnm
        have Hno := Lib.hid hno
        clear hno hnm
        go_wp2_with fail
        refine bodyPost_ret (v := .tuple #[.slice none 0 0, .int .i64 (-1), .int .i64 nx]) (by simp [results, Tryz.results103, go_sem]) rfl ?_
        exact ⟨hc5, .inr ⟨Hno.out, _, rfl⟩⟩
       | true =>
        have Hnm := Lib.hid hnm
        clear hnm
        by_cases hk0 : ki = 0
        ·subst hk0
         have hrr : 1 + (r - 1) = r := by omega
         have hc6 : Chg NoB w5 (w5.alloc (.cells #[.int .i64 nx, .string (mkB wc), .int .i64 r, .int .i64 0, .slice none 0 0, .int .i64 ar] 124)) := (Chg.refl _ _).alloc _
         have hb6 : Blk (w5.alloc (.cells #[.int .i64 nx, .string (mkB wc), .int .i64 r, .int .i64 0, .slice none 0 0, .int .i64 ar] 124)) w5.heap.size (itCells ⟨.mk nx (mkB wc) r 0 [], ar⟩) 124 := Blk.newAt rfl
         by_cases h4 : W.length ≤ k + 3
         ·have h4I : (W.length : Int) ≤ (k : Int) + 3 := by omega
          have hno : NoTree (W.drop k) := by
           rw [HD.out]
           refine no_in Hns.out fun s rest _ e => ?_
           rw [List.drop_eq_nil_of_le h4] at e
           cases e
          have Hno := Lib.hid hno
          clear hno hb6
          go_wp2_with fail
          refine bodyPost_ret (v := .tuple #[.slice none 0 0, .int .i64 (-1), .int .i64 (nx + 1)]) (by simp [results, Tryz.results103, go_sem]) rfl ?_
          exact ⟨hc5.tr hc6, .inr ⟨Hno.out, _, rfl⟩⟩
         ·have h4I : ¬ (W.length : Int) ≤ (k : Int) + 3 := by omega
          have z3 := Hc.out (k + 3) _ (List.getElem?_eq_getElem (by omega))
          have hd3 : W.drop (k + 3) = W[k + 3] :: W.drop (k + 4) := List.drop_eq_getElem_cons (by omega)
          generalize W[k + 3] = x3 at z3 hd3
          replace z3 := ((hc5.tr hc6).cell (lt_of_at z3) nbE).trans z3
          by_cases hx : x3 = [123]
          ·subst hx
           have hxb : ((mkB [123]).toList == [123]) = true := by rw [Lib.toList_data]; rfl
           have Hd3 := Lib.hid hd3
           have hb9 : nb < w5.heap.size := lt_of_at e0
           have E0 := Lib.hid e0
           have hst := Own.oneIt hb6
           clear hd3 hb6
           go_wp2_with fail
           generalize World.alloc w5 _ = w6 at hc6 hst ⊢
           go_loopw [1, 2, 15] (fun vk vn vo wr => AdRel W k nx ar (mkB wc) r w5 vk vn vo wr) (fun vk _ _ _ => W.length - (intOf vk).toNat)
           case atStart => exact ⟨[], k + 4, trivial, rfl, rfl, by omega, by go_num, by simp [Nd.weighs], by simpa [flatI, renL] using hst, hc6⟩
           case round =>
            clear hst hc6 z3 hxb
            obtain ⟨s, k', hs, hd, hk', hkl, rfl, rfl, hown, hcr⟩ := hrel
            have hlen : (List.map It.dt (⟨.mk nx (mkB wc) r 0 [], ar⟩ :: flatI nx (renL (nx + 1) s))).length = 1 + Nd.weighs s := by rw [List.length_map, List.length_cons, flat_len, ren_weighs]; omega
            obtain ⟨ao, cp, hv⟩ := hown.form
            rw [hlen] at hv
            subst hv
            have hww := words_weighL s hs
            have hdl : (wordsNs s).length + (W.drop k').length = W.length - (k + 4) := by
             have := congrArg List.length hd
             rw [List.length_append, List.length_drop] at this
             omega
            rw [List.length_drop] at hdl
            have e0 := (hcr.cell (p := ⟨nb, 0, none⟩) hb9 nbE).trans E0.out
            have Hd := Lib.hid hd
            have Hlen := Lib.hid hlen
            have hk4 : k + 4 ≤ k' := by omega
            have hwk : 3 * Nd.weighs s + (k + 4) ≤ k' := by omega
            have Hk' := Lib.hid hk'
            clear hd hlen hdl hk'
            generalize hwl : Nd.weighs s = wl at hww hwk ⊢
            have Hwl := Lib.hid hwl
            have hownL : Own wr w5.heap.size 124 6 (fun _ => False) (.slice ao (1 + wl) cp) ((⟨.mk nx (mkB wc) r 0 [], ar⟩ :: flatI nx (renL (nx + 1) s)).map It.dt) := by rw [← hwl]; exact hown
            clear hown hwl
            by_cases hlt : k' < W.length
            ·have hltI : (k' : Int) < (W.length : Int) := by omega
             have hltI2 : ¬ (W.length : Int) ≤ (k' : Int) := by omega
             have z := Hc.out k' _ (List.getElem?_eq_getElem hlt)
             have hdk : W.drop k' = W[k'] :: W.drop (k' + 1) := List.drop_eq_getElem_cons hlt
             generalize W[k'] = x at z hdk
             replace z := ((hc5.tr hcr).cell (lt_of_at z) nbE).trans z
             by_cases hx : x = [125]
             ·subst hx
              have hxb : ((mkB [125]).toList == [125]) = true := by rw [Lib.toList_data]; rfl
              have Hdk := Lib.hid hdk
              clear hdk
              go_wp2_with fail
              refine bodyPost_ret (v := .tuple #[.slice ao (1 + wl) cp, .int .i64 ((k' : Int) + 1), .int .i64 (nx + 1 + (wl : Int))]) (by simp [results, Tryz.results103, go_sem]) rfl ?_
              refine ⟨hc5.tr hcr, .inl ⟨.mk 0 (mkB wc) r 0 s, W.drop (k' + 1), .slice ao (1 + wl) cp, ?_, ⟨⟨r1, r3, (by decide : (0 : Int) ≤ 0), (by decide : (0 : Int) ≤ 5), Hnm.out, fun h => absurd rfl h⟩, hs⟩, ?_, ?_⟩⟩
              ·rw [HD.out, Hd3.out, Hd.out, Hdk.out, wordsN, if_pos rfl]
               simp [mkB_data]
              ·rw [wordsN, if_pos rfl]
               have h1 : ((k + ([repS r, kindS 0, (mkB wc).data.toList, [123]] ++ wordsNs s ++ [[125]]).length : Nat) : Int) = (k' : Int) + 1 := by
                have hk' := Hk'.out
                simp only [List.length_append, List.length_cons, List.length_nil]; omega
               have h2 : nx + ((Nd.weigh (.mk 0 (mkB wc) r 0 s) : Nat) : Int) = nx + 1 + (wl : Int) := by
                simp only [Nd.weigh]; rw [Hwl.out]; omega
               rw [h1, h2]
              ·have h9 := hownL.mono (B' := w.heap.size) hc5.size (S' := fun _ => False) (fun _ h => h)
               simpa [renN, flatI] using h9
             ·have hxb : ((mkB x).toList == [125]) = false := by
               rw [beq_eq_false_iff_ne, Lib.toList_data]
               exact hx
              have hno7 : NoTree (W.drop k') → NoTree (W.drop k) := fun h => by
               rw [HD.out, Hd3.out]
               refine no_in Hns.out fun s' rest hs' e => ?_
               rw [Hd.out] at e
               obtain ⟨s2, hs2, h2⟩ := tw_rest s s' _ rest hs hs' (List.cons.inj e).2
               cases s2 with
               | nil =>
                rw [hdk] at h2
                exact hx (List.cons.inj h2).1
               | cons t2 s2 => exact h t2 _ hs2.1 (by rw [h2, wordsNs, List.append_assoc])
              have Hno7 := Lib.hid hno7
              clear hno7 hdk hx
              go_wp2_with fail
              refine (Hih.out k' (nx + 1 + (wl : Int)) nx wr (by omega) (by omega) (by omega) (by omega) (fun j x hj => by
               have h := Hc.out j x hj
               exact ((hc5.tr hcr).cell (lt_of_at h) nbE).trans h)).mono ?_
              rintro en w7 ⟨hc7, ⟨t2, rest2, v2, hd2, hA2, rfl, ho2⟩ | ⟨hno2, z7, rfl⟩⟩
              ·have hl2 : (List.map It.dt (flatI nx [renN (nx + 1 + (wl : Int)) t2])).length = t2.weigh := by
                rw [List.length_map, flat_len]
                simp only [Nd.weighs]
                rw [ren_weigh]; omega
               have hl3 : (flatI nx [renN (nx + 1 + (wl : Int)) t2]).length = t2.weigh := by rw [← hl2, List.length_map]
               have htw := words_weigh t2 hA2
               have ht1 : 1 ≤ t2.weigh := by cases t2; simp only [Nd.weigh]; omega
               have hr2 : rest2 = W.drop (k' + (wordsN t2).length) := by
                rw [← List.drop_drop, hd2, List.drop_left]
               have hdl2 : k' + (wordsN t2).length ≤ W.length := by
                have := congrArg List.length hd2
                rw [List.length_append, List.length_drop] at this
                omega
               have hI2 := ho2.its (by omega)
               obtain ⟨a2, c2, rfl, hlc2, hcm2, hcell2⟩ := hI2.form
               rw [hl3] at hlc2
               obtain ⟨b2, off2, rfl, _, _, hE2⟩ := hcell2 (by omega)
               have hp2 := Its.part (S := fun _ => True) (n := 0) (c := 0) hE2 0 (flatI nx [renN (nx + 1 + (wl : Int)) t2]).length (by omega)
               rw [List.drop_zero, Nat.zero_mul, Nat.add_zero, List.take_length] at hp2
               have hown7 := hownL.keep hc7 (fun _ e => e.elim) (fun _ _ => nbE)
               have hsz7 : w5.heap.size ≤ w7.heap.size := Nat.le_trans hcr.size hc7.size
               have hdrop : W.drop (k + 4) = wordsNs (s ++ [t2]) ++ W.drop (k' + (wordsN t2).length) := by
                rw [wordsNs_snoc, List.append_assoc, ← hr2, ← hd2]; exact Hd.out
               have hitems : (⟨.mk nx (mkB wc) r 0 [], ar⟩ :: flatI nx (renL (nx + 1) s)) ++ flatI nx [renN (nx + 1 + (wl : Int)) t2] = (⟨.mk nx (mkB wc) r 0 [], ar⟩ :: flatI nx (renL (nx + 1) (s ++ [t2]))) := by
                rw [renL_snoc, flatI_app, Hwl.out, List.cons_append]
               have hal : Nd.Alls PlainW (s ++ [t2]) := alls_append _ _ hs ⟨hA2, trivial⟩
               have hwl2 : Nd.weighs (s ++ [t2]) = wl + t2.weigh := by
                rw [weighs_append, Hwl.out]; simp [Nd.weighs]
               have hwo2 : (wordsNs (s ++ [t2])).length = (wordsNs s).length + (wordsN t2).length := by rw [wordsNs_snoc, List.length_append]
               rw [hl3]
               have hk2' : k' + (wordsN t2).length = k + 4 + (wordsNs (s ++ [t2])).length := by
                have := Hk'.out
                omega
               have hk3 : (wordsN t2).length ≥ 3 := by omega
               have hbw : wl + t2.weigh ≤ 1000000 := by omega
               have Hdrop := Lib.hid hdrop
               have Hitems := Lib.hid hitems
               have Hal := Lib.hid hal
               have Hwl2 := Lib.hid hwl2
               have Hk2' := Lib.hid hk2'
               have Hp2 := Lib.hid hp2
               have Hl2 := Lib.hid hl2
               clear hdrop hitems hal hwl2 hk2' hp2 hl2 hl3 hr2 hd2 ho2 hE2 hcell2 hI2 hwo2 hownL
               generalize hkk : k' + (wordsN t2).length = kn at hdl2 ⊢
               have Hkk := Lib.hid hkk
               have hkI : ¬ ((kn : Nat) : Int) < 0 := by omega
               clear hkk
               go_wp2_with (at_builtin; refine stop_here ?_)
               refine Stop.go ?_
               refine wpList_own rfl (.tmp 138) (.tmp 139) 84 rfl w5.heap.size 124 Tryz.underlying84 infoItem rfl (by decide) rfl hown7 rfl ((flatI nx [renN (nx + 1 + (wl : Int)) t2]).map It.dt) _ Hl2.out (it_chunks _ _ _) Hp2.out (fun e => by cases e) ?_ ?_ hsz7 ?_
               ·rw [Hlen.out, Hwl.out]; unfold maxLen; omega
               ·rw [Hlen.out, Hwl.out]; omega
               intro ao3 cp3 w8 ho8 hc8 hat8
               rw [← List.map_append, Hitems.out, Hlen.out, Hwl.out] at ho8
               rw [Hlen.out, Hwl.out]
               have hc08 : Chg NoB w5 w8 := (hcr.tr hc7).trans hc8 (fun y e => .inr (hown7.block y e).1)
               clear hat8 hc8
               go_wp2_with fail
               go_roundw
               case rel => exact ⟨s ++ [t2], kn, Hal.out, by rw [← Hkk.out]; exact Hdrop.out, by rw [← Hkk.out]; exact Hk2'.out, hdl2, rfl, by rw [Hwl2.out]; go_num, ho8, hc08⟩
               case measure =>
                have := Hkk.out
                simp [intOf]; omega
              ·have hno := Hno7.out hno2
               have Hno := Lib.hid hno
               clear hno hno2
               go_wp2_with fail
               refine bodyPost_ret (v := .tuple #[.slice none 0 0, .int .i64 (-1), .int .i64 (nx + 1 + (wl : Int))]) (by simp [results, Tryz.results103, go_sem]) rfl ?_
               exact ⟨(hc5.tr hcr).tr hc7, .inr ⟨Hno.out, _, rfl⟩⟩
            ·have hltI : ¬ (k' : Int) < (W.length : Int) := by omega
             have hltI2 : (W.length : Int) ≤ (k' : Int) := by omega
             have hno : NoTree (W.drop k) := by
              rw [HD.out, Hd3.out]
              refine no_in Hns.out fun s' rest hs' e => ?_
              rw [Hd.out] at e
              obtain ⟨s2, hs2, h2⟩ := tw_rest s s' _ rest hs hs' (List.cons.inj e).2
              rw [List.drop_eq_nil_of_le (by omega)] at h2
              have := congrArg List.length h2
              simp at this
             have Hno := Lib.hid hno
             clear hno
             go_wp2_with fail
             refine bodyPost_ret (v := .tuple #[.slice none 0 0, .int .i64 (-1), .int .i64 (nx + 1 + (wl : Int))]) (by simp [results, Tryz.results103, go_sem]) rfl ?_
             exact ⟨hc5.tr hcr, .inr ⟨Hno.out, _, rfl⟩⟩
          ·have hxb : ((mkB x3).toList == [123]) = false := by
            rw [beq_eq_false_iff_ne, Lib.toList_data]
            exact hx
           have hno : NoTree (W.drop k) := by
            rw [HD.out, hd3]
            refine no_in Hns.out fun s rest _ e => hx (List.cons.inj e).1
           have Hno := Lib.hid hno
           clear hno hb6 hd3
           go_wp2_with fail
           refine bodyPost_ret (v := .tuple #[.slice none 0 0, .int .i64 (-1), .int .i64 (nx + 1)]) (by simp [results, Tryz.results103, go_sem]) rfl ?_
           exact ⟨hc5.tr hc6, .inr ⟨Hno.out, _, rfl⟩⟩
        ·have hkb : (ki == 0) = false := by rw [beq_eq_false_iff_ne]; exact hk0
         have hno : NoTree (W.drop k) := by rw [HD.out]; exact no_grp Hns.out k0 k5 hk0
         have Hno := Lib.hid hno
         clear hno hk0
         go_wp2_with fail
         refine bodyPost_ret (v := .tuple #[.slice none 0 0, .int .i64 (-1), .int .i64 nx]) (by simp [results, Tryz.results103, go_sem]) rfl ?_
         exact ⟨hc5, .inr ⟨Hno.out, _, rfl⟩⟩
end Go.Proofs.YtgcmfpcgmkkobaaGreatDoor
