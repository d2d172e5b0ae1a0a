/-
  A node on one line, in plain words: its words, with numbers and without; what Fields, plain and numbered make of them.; The words of a line by single blanks: what strings.Split gives, in plain words.
-/
import Derived.Test.YtnmhkafpgohefaaGreatDoorTwiceP
import Derived.Test.YtnmhkafpgohefaaGreatDoorPlainE
import Derived.Test.YtnmhkafpgohefaaGreatDoorJoin
import Derived.Lib.SplitLaws
import Derived.Lib.IndexLaws
import Derived.Lib.IndexBytes
set_option linter.unusedVariables false
set_option linter.unusedSimpArgs false
namespace Go.Proofs.YtnmhkafpgohefaaGreatDoor
open Go.RowKit
def mkB (l : List UInt8) : ByteArray := ⟨l.toArray⟩
theorem mkB_data (l : List UInt8) : (mkB l).data.toList = l := rfl
mutual
def wordsN : Nd → List (List UInt8)
 | .mk _ nm r k s => if k = 0 then [repS r, kindS k, nm.data.toList, [123]] ++ wordsNs s ++ [[125]] else [repS r, kindS k, nm.data.toList ++ [59]]
def wordsNs : List Nd → List (List UInt8)
 | [] => []
 | n :: ns => wordsN n ++ wordsNs ns
end
mutual
def idWordsN : Nd → List (List UInt8)
 | .mk i nm r k s => if k = 0 then [repS r, kindS k, nm.data.toList, 35 :: Lib.itoa i, [123]] ++ idWordsNs s ++ [[125]] else [repS r, kindS k, nm.data.toList, 35 :: Lib.itoa i ++ [59]]
def idWordsNs : List Nd → List (List UInt8)
 | [] => []
 | n :: ns => idWordsN n ++ idWordsNs ns
end
def Solid (w : List UInt8) : Prop := w ≠ [] ∧ ∀ b ∈ w, Lib.isSp b = false
theorem sp_lower {b : UInt8} (h : lower b = true) : Lib.isSp b = false := by
 unfold lower at h
 have h1 := of_decide_eq_true h
 unfold Lib.isSp
 have : ∀ (c : UInt8), c.toNat < 97 → (b == c) = false := fun c hc => by
  rw [beq_eq_false_iff_ne]
  rintro rfl
  omega
 simp only [this 9 (by decide), this 10 (by decide), this 11 (by decide), this 12 (by decide), this 13 (by decide), this 32 (by decide), Bool.or_self]
theorem sp_digit {b : UInt8} (h : digits.contains b = true) : Lib.isSp b = false := by
 simp only [digits, List.contains_eq_mem, List.mem_cons, List.not_mem_nil, or_false, decide_eq_true_eq] at h
 rcases h with rfl | rfl | rfl | rfl | rfl | rfl | rfl | rfl | rfl | rfl <;> rfl
theorem solid_lower {w : List UInt8} (h : w.all lower = true) (hn : w.isEmpty = false) : Solid w :=
 ⟨(by rintro rfl; cases hn), fun b hb => sp_lower (List.all_eq_true.1 h b hb)⟩
theorem fieldsGo_word (c : UInt8) (hc : Lib.isSp c = true) (rest : List UInt8) : ∀ (w cur : List UInt8), (∀ b ∈ w, Lib.isSp b = false) → (cur ++ w) ≠ [] → Lib.fieldsGo cur (w ++ c :: rest) = (cur ++ w) :: Lib.fieldsGo [] rest
 | [], cur, _, hn => by
  rw [List.append_nil] at hn ⊢
  have : cur.isEmpty = false := by cases cur; exact absurd rfl hn; rfl
  simp [Lib.fieldsGo, hc, this]
 | b :: w, cur, h, hn => by
  rw [List.cons_append, Lib.fieldsGo, if_neg (by rw [h b (List.mem_cons_self ..)]; decide), fieldsGo_word c hc rest w (cur ++ [b]) (fun x hx => h x (List.mem_cons_of_mem _ hx)) (by simp)]
  simp
theorem fields_step {w : List UInt8} (hw : Solid w) {c : UInt8} (hc : Lib.isSp c = true) (rest : List UInt8) : Lib.fieldsGo [] (w ++ c :: rest) = w :: Lib.fieldsGo [] rest :=
 fieldsGo_word c hc rest w [] hw.2 (by simpa using hw.1)
theorem fields_sp {c : UInt8} (hc : Lib.isSp c = true) (rest : List UInt8) : Lib.fieldsGo [] (c :: rest) = Lib.fieldsGo [] rest := by
 simp [Lib.fieldsGo, hc]
theorem fields_ind (rest : List UInt8) : ∀ (ind : List UInt8), (∀ c ∈ ind, c = 32) → Lib.fieldsGo [] (ind ++ rest) = Lib.fieldsGo [] rest
 | [], _ => rfl
 | c :: ind, h => by
  rw [List.cons_append, h c (List.mem_cons_self ..), fields_sp rfl, fields_ind rest ind (fun x hx => h x (List.mem_cons_of_mem _ hx))]
structure Pieces (i : Int) (nm : ByteArray) (r k : Int) : Prop where
 rep : (repS r).all lower = true ∧ (repS r).isEmpty = false
 kind : (kindS k).all lower = true ∧ (kindS k).isEmpty = false
 name : nm.data.toList.all lower = true ∧ nm.data.toList.isEmpty = false
 num : ∀ x ∈ Lib.itoa i, digits.contains x = true
theorem pieces_of {i : Int} {nm : ByteArray} {r k : Int} {s : List Nd} (h : Right (.mk i nm r k s)) : Pieces i nm r k := by
 obtain ⟨b1, b2, b3, b4, b5, b6, b7, b8, b9⟩ := h
 simp only [Nd.rep, Nd.kind, Nd.name, Nd.id] at b1 b2 b3 b4 b7 b8 b9
 obtain ⟨rn, rfl⟩ := Int.eq_ofNat_of_zero_le (show 0 ≤ r by omega)
 obtain ⟨kn, rfl⟩ := Int.eq_ofNat_of_zero_le b3
 have hR := rep_fin ⟨rn, by omega⟩
 have hK := kind_fin ⟨kn, by omega⟩
 simp only at hR hK
 unfold isNameB at b7
 rw [Bool.and_eq_true, Bool.and_eq_true] at b7
 have hne : nm.data.toList.isEmpty = false := by
  have h1 : nm.size ≠ 0 := of_decide_eq_true b7.1.1
  cases hl : nm.data.toList with
  | nil => exact absurd (by rw [← length_data, hl]; rfl) h1
  | cons x xs => rfl
 rcases hR with h0 | ⟨_, h2, h3⟩
 ·omega
 ·exact ⟨⟨h2, h3⟩, ⟨hK.2.1, hK.2.2⟩, ⟨b7.2, hne⟩, (num_all b8 b9).2.1⟩
theorem Pieces.hash {i : Int} {nm : ByteArray} {r k : Int} (h : Pieces i nm r k) : Solid (35 :: Lib.itoa i) :=
 ⟨by simp, fun b hb => by
  rcases List.mem_cons.1 hb with rfl | hb
  ·rfl
  ·exact sp_digit (h.num b hb)⟩
theorem Pieces.hashSemi {i : Int} {nm : ByteArray} {r k : Int} (h : Pieces i nm r k) : Solid (35 :: Lib.itoa i ++ [59]) :=
 ⟨by simp, fun b hb => by
  rcases List.mem_append.1 hb with hb | hb
  ·exact h.hash.2 b hb
  ·rw [List.mem_singleton.1 hb]; rfl⟩
mutual
theorem fields_textN : ∀ (n : Nd) (ind more : List UInt8), n.All Right → (∀ c ∈ ind, c = 32) → Lib.fieldsGo [] (textN n ind ++ more) = idWordsN n ++ Lib.fieldsGo [] more
 | .mk i nm r k s, ind, more, hA, hind => by
  have hp := pieces_of hA.1
  have s1 := solid_lower hp.rep.1 hp.rep.2
  have s2 := solid_lower hp.kind.1 hp.kind.2
  have s3 := solid_lower hp.name.1 hp.name.2
  by_cases hk : k = 0
  ·have e : textN (.mk i nm r k s) ind ++ more = ind ++ (repS r ++ 32 :: (kindS k ++ 32 :: (nm.data.toList ++ 32 :: ((35 :: Lib.itoa i) ++ 32 :: ([123] ++ 10 :: (textL s (ind ++ [32, 32]) ++ (ind ++ ([125] ++ 10 :: more)))))))) := by
    simp only [textN, headS, if_pos hk, List.append_assoc, List.cons_append, List.nil_append]
   have hind2 : ∀ c ∈ ind ++ [32, 32], c = (32 : UInt8) := fun c hc => by
    rcases List.mem_append.1 hc with h | h
    ·exact hind c h
    ·simpa using h
   have sb : Solid [123] := ⟨by simp, fun b hb => by rw [List.mem_singleton.1 hb]; rfl⟩
   have sc : Solid [125] := ⟨by simp, fun b hb => by rw [List.mem_singleton.1 hb]; rfl⟩
   rw [e, fields_ind _ _ hind, fields_step s1 rfl, fields_step s2 rfl, fields_step s3 rfl, fields_step hp.hash rfl, fields_step sb rfl, fields_textL s (ind ++ [32, 32]) _ hA.2 hind2, fields_ind _ _ hind, fields_step sc rfl]
   simp only [idWordsN, if_pos hk, List.cons_append, List.nil_append, List.append_assoc]
  ·have e : textN (.mk i nm r k s) ind ++ more = ind ++ (repS r ++ 32 :: (kindS k ++ 32 :: (nm.data.toList ++ 32 :: ((35 :: Lib.itoa i ++ [59]) ++ 10 :: more)))) := by
    simp only [textN, headS, if_neg hk, List.append_assoc, List.cons_append, List.nil_append]
   rw [e, fields_ind _ _ hind, fields_step s1 rfl, fields_step s2 rfl, fields_step s3 rfl, fields_step hp.hashSemi rfl]
   simp only [idWordsN, if_neg hk, List.cons_append, List.nil_append]
theorem fields_textL : ∀ (l : List Nd) (ind more : List UInt8), Nd.Alls Right l → (∀ c ∈ ind, c = 32) → Lib.fieldsGo [] (textL l ind ++ more) = idWordsNs l ++ Lib.fieldsGo [] more
 | [], ind, more, hA, hind => rfl
 | n :: ns, ind, more, hA, hind => by
  simp only [textL, List.append_assoc, idWordsNs]
  rw [fields_textN n ind _ hA.1 hind, fields_textL ns ind more hA.2 hind]
end
theorem fields_text_all {l : List Nd} (h : Nd.Alls Right l) : Lib.fields (textL l []) = idWordsNs l := by
 have := fields_textL l [] [] h (fun c hc => by cases hc)
 rw [List.append_nil] at this
 unfold Lib.fields
 rw [this]
 simp [Lib.fieldsGo]
def plFold (out : List ByteArray) (ws : List (List UInt8)) : List ByteArray := (ws.map mkB).foldl plStep out
theorem plFold_cons (out : List ByteArray) (w : List UInt8) (ws : List (List UInt8)) : plFold out (w :: ws) = plFold (plStep out (mkB w)) ws := rfl
theorem hash_lower {w : List UInt8} (h : w.all lower = true) : hashP (mkB w) = false := by
 unfold hashP
 rw [mkB_data]
 cases w with
 | nil => rfl
 | cons c cs =>
  have hc := (lower_ne (List.all_eq_true.1 h c (List.mem_cons_self ..))).1
  have : c ≠ 35 := by rintro rfl; exact hc rfl
  show (List.isPrefixOf [35] (c :: cs)) = false
  have h9 : ((35 : UInt8) == c) = false := by rw [beq_eq_false_iff_ne]; exact fun e => this e.symm
  simp [List.isPrefixOf, h9]
theorem semi_of {w : List UInt8} : semiB (mkB w) = true ↔ ∃ u, w = u ++ [59] := by
 unfold semiB
 rw [mkB_data]
 unfold Lib.hasSuffix
 rw [List.isSuffixOf_iff_suffix]
 constructor
 ·rintro ⟨u, hu⟩; exact ⟨u, hu.symm⟩
 ·rintro ⟨u, hu⟩; exact ⟨u, hu.symm⟩
theorem semi_no {w : List UInt8} (h : ∀ b ∈ w, b ≠ 59) : semiB (mkB w) = false := by
 cases hs : semiB (mkB w) with
 | false => rfl
 | true =>
  obtain ⟨u, rfl⟩ := semi_of.1 hs
  exact absurd rfl (h 59 (List.mem_append_right _ (List.mem_cons_self ..)))
theorem digit_ne59 {b : UInt8} (h : digits.contains b = true) : b ≠ 59 := by
 rintro rfl; exact absurd h (by decide)
theorem lower_ne59 {b : UInt8} (h : lower b = true) : b ≠ 59 := by
 rintro rfl; exact absurd h (by decide)
theorem hash_yes (l : List UInt8) : hashP (mkB (35 :: l)) = true := by
 unfold hashP
 rw [mkB_data]
 rfl
theorem addSemi_last (out : List ByteArray) (x : List UInt8) : addSemi (out ++ [mkB x]) = out ++ [mkB (x ++ [59])] := by
 unfold addSemi
 have h1 : (out ++ [mkB x]).length - 1 = out.length := by simp
 have h2 : (out ++ [mkB x]).getD out.length ⟨#[]⟩ = mkB x := by simp
 rw [h1, h2, List.set_append_right _ _ (Nat.le_refl _), Nat.sub_self, List.set_cons_zero]
 have h3 : mkB x ++ (⟨#[59]⟩ : ByteArray) = mkB (x ++ [59]) := by
  have : (mkB x ++ (⟨#[59]⟩ : ByteArray)).data = (mkB (x ++ [59])).data := by
   rw [ByteArray.data_append]
   simp [mkB]
  exact ByteArray.ext this
 rw [h3]
mutual
theorem pl_words : ∀ (n : Nd) (out : List ByteArray) (rest : List (List UInt8)), n.All Right → plFold out (idWordsN n ++ rest) = plFold (out ++ (wordsN n).map mkB) rest
 | .mk i nm r k s, out, rest, hA => by
  have hp := pieces_of hA.1
  have h1 := hash_lower hp.rep.1
  have h2 := hash_lower hp.kind.1
  have h3 := hash_lower hp.name.1
  by_cases hk : k = 0
  ·have h4 : semiB (mkB (35 :: Lib.itoa i)) = false := semi_no (fun b hb => by
    rcases List.mem_cons.1 hb with rfl | hb
    ·decide
    ·exact digit_ne59 (hp.num b hb))
   simp only [idWordsN, wordsN, if_pos hk, List.cons_append, List.nil_append, List.append_assoc]
   rw [plFold_cons, plFold_cons, plFold_cons, plFold_cons, plFold_cons]
   have e : plStep (plStep (plStep (plStep (plStep out (mkB (repS r))) (mkB (kindS k))) (mkB nm.data.toList)) (mkB (35 :: Lib.itoa i))) (mkB [123]) = out ++ [mkB (repS r), mkB (kindS k), mkB nm.data.toList, mkB [123]] := by
    have h5 : hashP (mkB [123]) = false := by decide +kernel
    simp [plStep, h1, h2, h3, hash_yes, h4, h5]
   rw [e, pl_wordsL s _ _ hA.2, plFold_cons]
   have h6 : ∀ o, plStep o (mkB [125]) = o ++ [mkB [125]] := fun o => by
    have h5 : hashP (mkB [125]) = false := by decide +kernel
    simp [plStep, h5]
   rw [h6]
   simp only [List.map_cons, List.map_append, List.map_nil, List.append_assoc, List.cons_append, List.nil_append]
  ·have h4 : semiB (mkB (35 :: Lib.itoa i ++ [59])) = true := semi_of.2 ⟨_, rfl⟩
   simp only [idWordsN, wordsN, if_neg hk, List.cons_append, List.nil_append]
   rw [plFold_cons, plFold_cons, plFold_cons, plFold_cons]
   rw [List.cons_append] at h4
   have e : plStep (plStep (plStep (plStep out (mkB (repS r))) (mkB (kindS k))) (mkB nm.data.toList)) (mkB (35 :: (Lib.itoa i ++ [59]))) = out ++ [mkB (repS r), mkB (kindS k), mkB (nm.data.toList ++ [59])] := by
    simp only [plStep, h1, h2, h3, hash_yes, h4, if_true, if_false, Bool.false_eq_true]
    rw [addSemi_last]
    simp
   rw [e]
   rfl
theorem pl_wordsL : ∀ (l : List Nd) (out : List ByteArray) (rest : List (List UInt8)), Nd.Alls Right l → plFold out (idWordsNs l ++ rest) = plFold (out ++ (wordsNs l).map mkB) rest
 | [], out, rest, hA => by simp [idWordsNs, wordsNs]
 | n :: ns, out, rest, hA => by
  simp only [idWordsNs, wordsNs, List.append_assoc, List.map_append]
  rw [pl_words n out _ hA.1, pl_wordsL ns _ rest hA.2, List.append_assoc]
end
theorem plGo_words {l : List Nd} (h : Nd.Alls Right l) : plGo ((idWordsNs l).map mkB) = (wordsNs l).map mkB := by
 have := pl_wordsL l [] [] h
 rw [List.append_nil] at this
 exact this.trans rfl
def splB : List UInt8 → List (List UInt8)
 | [] => [[]]
 | c :: l => if c = 32 then [] :: splB l else match splB l with
  | [] => [[c]]
  | w :: ws => (c :: w) :: ws
theorem splB_no : ∀ (l : List UInt8), (∀ b ∈ l, b ≠ 32) → splB l = [l]
 | [], _ => rfl
 | c :: l, h => by
  rw [splB, if_neg (h c (List.mem_cons_self ..)), splB_no l (fun b hb => h b (List.mem_cons_of_mem _ hb))]
theorem splB_app (b : List UInt8) : ∀ (a : List UInt8), (∀ x ∈ a, x ≠ 32) → splB (a ++ 32 :: b) = a :: splB b
 | [], _ => by rw [List.nil_append, splB, if_pos rfl]
 | c :: a, h => by
  rw [List.cons_append, splB, if_neg (h c (List.mem_cons_self ..)), splB_app b a (fun x hx => h x (List.mem_cons_of_mem _ hx))]
theorem splitK_eq : ∀ (k : Nat) (l : List UInt8), Lib.count l [32] = k → Lib.splitK [32] 0 k l = splB l := by
 intro k
 induction k with
 | zero =>
  intro l hk
  have hi : Lib.index l [32] = -1 := by
   rcases Int.lt_or_le (Lib.index l [32]) 0 with h | h
   ·have := Lib.index_ge l [32]; omega
   ·obtain ⟨i, hi⟩ := Int.eq_ofNat_of_zero_le h
    have := Lib.count_hit (by simp) hi
    omega
  rw [Lib.index_one] at hi
  refine (splB_no l fun b hb => ?_).symm
  rintro rfl
  obtain ⟨j, hj⟩ := List.mem_iff_getElem?.1 hb
  exact Lib.indexByte_none hi j hj
 | succ k ih =>
  intro l hk
  rcases Int.lt_or_le (Lib.index l [32]) 0 with h | h
  ·have h1 : Lib.index l [32] = -1 := by have := Lib.index_ge l [32]; omega
   rw [Lib.count_miss h1] at hk
   cases hk
  ·obtain ⟨i, hi⟩ := Int.eq_ofNat_of_zero_le h
   have hc := Lib.count_hit (by simp) hi
   have hib : Lib.indexByte l 32 = i := by rw [← Lib.index_one]; exact hi
   obtain ⟨h1, h2⟩ := Lib.indexByte_some hib
   obtain ⟨hlt, hge⟩ := List.getElem?_eq_some_iff.1 h1
   have hl : l = l.take i ++ 32 :: l.drop (i + 1) := by
    rw [← hge, ← List.drop_eq_getElem_cons hlt, List.take_append_drop]
   have hno : ∀ x ∈ l.take i, x ≠ (32 : UInt8) := fun x hx e => by
    subst e
    obtain ⟨j, hj⟩ := List.mem_iff_getElem?.1 hx
    have hji : j < i := by have := (List.getElem?_eq_some_iff.1 hj).1; rw [List.length_take] at this; omega
    rw [List.getElem?_take, if_pos hji] at hj
    exact h2 j hji hj
   have hne : ¬ ((i : Int) == -1) = true := fun e => by have := beq_iff_eq.1 e; omega
   rw [Lib.splitK, hi, if_neg hne, Int.toNat_natCast, Nat.add_zero, List.length_singleton]
   rw [ih (l.drop (i + 1)) (by simp only [List.length_singleton] at hc; omega)]
   conv => rhs; rw [hl]
   rw [splB_app _ _ hno]
def wordsB (s : ByteArray) : List ByteArray := (splB s.data.toList).map mkB
theorem mkB_back (s : ByteArray) : mkB s.data.toList = s := by cases s; rfl
theorem split_words (s : ByteArray) : Lib.splitB ⟨#[32]⟩ 0 (Lib.countB s ⟨#[32]⟩) s = wordsB s := by
 have h := Lib.splitB_data ⟨#[32]⟩ 0 (Lib.countB s ⟨#[32]⟩) s
 rw [show (⟨#[32]⟩ : ByteArray).data.toList = [32] from rfl, splitK_eq _ _ rfl] at h
 unfold wordsB
 rw [← h, List.map_map]
 have : (mkB ∘ fun x : ByteArray => x.data.toList) = id := funext mkB_back
 rw [this, List.map_id]
theorem words_len (s : ByteArray) : (wordsB s).length = Lib.countB s ⟨#[32]⟩ + 1 := by
 rw [← split_words]
 exact Lib.splitB_all ⟨#[32]⟩ (by decide) 0 _ s rfl
def joinL : List (List UInt8) → List UInt8
 | [] => []
 | [w] => w
 | w :: ws => w ++ 32 :: joinL ws
theorem joinL_cons {w : List UInt8} {ws : List (List UInt8)} (h : ws ≠ []) : joinL (w :: ws) = w ++ 32 :: joinL ws := by
 cases ws with
 | nil => exact absurd rfl h
 | cons x xs => rfl
theorem splB_ne (l : List UInt8) : splB l ≠ [] := by
 cases l with
 | nil => simp [splB]
 | cons c l =>
  rw [splB]
  split
  ·simp
  ·split <;> simp
theorem joinL_spl : ∀ l : List UInt8, joinL (splB l) = l
 | [] => rfl
 | c :: l => by
  rw [splB]
  split
  ·rename_i h
   rw [joinL_cons (splB_ne l), joinL_spl l, h]; rfl
  ·have ih := joinL_spl l
   split
   ·rename_i h1; exact absurd h1 (splB_ne l)
   ·rename_i w ws h1
    rw [h1] at ih
    cases ws with
    | nil => simp only [joinL] at ih ⊢; rw [ih]
    | cons x xs => rw [joinL_cons (by simp)] at ih ⊢; rw [← ih]; rfl
theorem spl_joinL : ∀ ws : List (List UInt8), ws ≠ [] → (∀ w ∈ ws, ∀ b ∈ w, b ≠ 32) → splB (joinL ws) = ws
 | [], h, _ => absurd rfl h
 | [w], _, h => splB_no w (h w (List.mem_cons_self ..))
 | w :: x :: xs, _, h => by
  rw [joinL_cons (by simp), splB_app _ _ (h w (List.mem_cons_self ..)), spl_joinL (x :: xs) (by simp) (fun y hy => h y (List.mem_cons_of_mem _ hy))]
theorem joinW_mk : ∀ ws : List (List UInt8), joinW (ws.map mkB) = joinL ws
 | [] => rfl
 | [w] => by simp [joinW, blanks, joinL, mkB_data]
 | w :: x :: xs => by
  have ih := joinW_mk (x :: xs)
  rw [joinL_cons (by simp), ← ih]
  simp [joinW, blanks, mkB_data]
theorem joinW_words (s : ByteArray) : joinW (wordsB s) = s.data.toList := by
 unfold wordsB
 rw [joinW_mk, joinL_spl]
theorem spl_sum : ∀ l : List UInt8, ∀ w ∈ splB l, w.length ≤ l.length
 | [], w, h => by
  rw [splB, List.mem_singleton] at h
  subst h; exact Nat.le_refl _
 | c :: l, w, h => by
  have ih := spl_sum l
  rw [splB] at h
  split at h
  ·rcases List.mem_cons.1 h with rfl | h
   ·exact Nat.zero_le _
   ·have := ih w h; simp only [List.length_cons]; omega
  ·split at h
   ·rename_i h1; exact absurd h1 (splB_ne l)
   ·rename_i v vs h1
    rcases List.mem_cons.1 h with rfl | h
    ·have := ih v (by rw [h1]; exact List.mem_cons_self ..); simp only [List.length_cons]; omega
    ·have := ih w (by rw [h1]; exact List.mem_cons_of_mem _ h); simp only [List.length_cons]; omega
theorem words_size (s : ByteArray) : ∀ x ∈ wordsB s, x.size ≤ s.size := by
 intro x hx
 obtain ⟨w, hw, rfl⟩ := List.mem_map.1 hx
 have := spl_sum _ w hw
 rwa [length_data] at this
theorem spl_count : ∀ l : List UInt8, (splB l).length ≤ l.length + 1
 | [] => Nat.le_refl _
 | c :: l => by
  have ih := spl_count l
  rw [splB]
  split
  ·simp only [List.length_cons]; omega
  ·split
   ·simp
   ·rename_i v vs h1
    rw [h1] at ih
    simp only [List.length_cons] at ih ⊢
    omega
theorem words_count (s : ByteArray) : (wordsB s).length ≤ s.size + 1 := by
 have := spl_count s.data.toList
 rw [length_data] at this
 unfold wordsB
 rwa [List.length_map]
end Go.Proofs.YtnmhkafpgohefaaGreatDoor
