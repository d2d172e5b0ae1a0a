/-
  A copy of a slice of ints (shredcollaw2.ints), and slices.Clone at []int.; The text of a right schema is read as it: the plain law.; A node on one line, in plain words: its words, with numbers and without; what Fields, plain and numbered make of them.; The words of a line by single blanks: what strings.Split gives, in plain words.; shredcollaw2.leaf: the law's closed fact.; What plain wants to kno
-/
import Derived.Test.YtgcmfpcgmkkobaaGreatDoorTreeMore
import Derived.Lib.SliceRun
import Derived.Test.YtgcmfpcgmkkobaaGreatDoorRead
import Derived.Test.YtgcmfpcgmkkobaaGreatDoorPlainE
import Derived.Test.YtgcmfpcgmkkobaaGreatDoorRowOps
import Derived.Lib.SplitLaws
import Derived.Lib.IndexLaws
import Derived.Lib.IndexBytes
import Derived.Test.YtgcmfpcgmkkobaaGreatDoorWalk
set_option linter.unusedVariables false
set_option linter.unusedSimpArgs false
namespace Go.Proofs.YtgcmfpcgmkkobaaGreatDoor
open Go.RowKit
theorem infoInt1 : (Tryz.prog.info? 3).map (fun i => (i.zero, i.size, i.bytes)) = some (some (.int .i64 0), 1, 8) := by kernel_rfl
def intDt (x : Int) : Dt := .lit (.int .i64 x)
theorem news_of {w : World} {S : Nat → Prop} {k : Nat} {ds : List Dt} {v : Value} (h : Reads w S (.list k ds) [v]) :
  ∃ a c news, v = .slice a ds.length c ∧ ds.length ≤ c ∧ c ≤ maxLen ∧ ReadsC w S k ds news ∧ (∀ ad, a = some ad → ∀ j u, news[j]? = some u → w.cell? (ad.add j) = some u) ∧ (a = none → ds.length = 0 ∧ c = 0) := by
 obtain ⟨a, c, h0, h1, h2, h3⟩ := h
 have e : v = .slice a ds.length c := by simpa using h0
 subst e
 rcases h3 with ⟨rfl, h3⟩ | ⟨b, off, rfl, hS, hb, hE⟩
 ·exact ⟨a, c, [], rfl, h1, h2, rfl, fun _ _ j u hu => by simp at hu, fun e => ⟨rfl, h3 e⟩⟩
 ·obtain ⟨xs, hx, hc⟩ := hE.toC
  refine ⟨_, c, xs, rfl, h1, h2, hx, fun ad had j u hu => ?_, fun e => by cases e⟩
  obtain rfl := Option.some.inj had
  rw [show (⟨b, off, none⟩ : Addr).add j = ⟨b, off + j, none⟩ from by unfold Addr.add; split <;> simp_all]
  exact hc j u hu
theorem ints_chunks (w : World) (S : Nat → Prop) : ∀ l : List Int, ReadsC w S 1 (l.map intDt) (l.map (Value.int .i64))
 | [] => rfl
 | x :: l => ⟨[.int .i64 x], _, rfl, rfl, ⟨rfl, rfl⟩, ints_chunks w S l⟩
theorem lt_of_at {w : World} {p : Addr} {v : Value} (h : w.cell? p = some v) : p.block < w.heap.size := by
 unfold World.cell? at h
 cases hb : w.heap[p.block]? with
 | none => rw [hb] at h; simp at h
 | some o => exact lt_of_block hb
theorem soft_of {c : UInt8} {l : List UInt8} (h1 : lower c = false) (h2 : digits.contains c = false) : Soft (c :: l) := by
 intro x hx
 obtain rfl := Option.some.inj hx
 exact ⟨h1, h2⟩
theorem soft32 (l : List UInt8) : Soft (32 :: l) := soft_of rfl rfl
theorem soft59 (l : List UInt8) : Soft (59 :: l) := soft_of rfl rfl
theorem word_step {w rest : List UInt8} (hw : w.all lower = true) (hne : w.isEmpty = false) (hs : Soft rest) : tok (w ++ rest) = w ∧ nxt (w ++ rest) = skipW rest ∧ skipW (w ++ rest) = w ++ rest := by
 cases w with
 | nil => cases hne
 | cons c cs =>
  have h := fun x hx => List.all_eq_true.1 hw x hx
  have h1 := tok_letters (c := c) (cs := cs) (rest := rest) h hs
  exact ⟨h1, nxt_of h1, skip_at (lower_ne (h c (List.mem_cons_self ..))).2 _⟩
theorem head_text {i : Int} {nm : ByteArray} {r k : Int} {deep : Int} {ind Z : List UInt8} (hind : ∀ c ∈ ind, c = 32) (hr1 : 1 ≤ r) (hr3 : r ≤ 3) (hk0 : 0 ≤ k) (hk5 : k ≤ 5) (hn : isNameB nm = true) (hi1 : 1 ≤ i) (hi2 : i ≤ 1000) (hZ : Soft Z) :
  ∃ rest, skipW (headS i nm r k ind ++ Z) = rest ∧ ¬ (tok rest = [125] ∨ (tok rest = [] ∧ deep ≤ 2)) ∧ idxT repT (tok rest) = r ∧ idxT kindT (tok (nxt rest)) = k ∧ tok (nxt (nxt rest)) = nm.data.toList ∧ headB nm.data.toList = true ∧
   wordId (tok (nxt (nxt (nxt rest)))) = some i ∧ nxt (nxt (nxt (nxt rest))) = skipW Z := by
 obtain ⟨rn, rfl⟩ := Int.eq_ofNat_of_zero_le (show 0 ≤ r by omega)
 obtain ⟨kn, rfl⟩ := Int.eq_ofNat_of_zero_le hk0
 have hR := rep_fin ⟨rn, by omega⟩
 have hK := kind_fin ⟨kn, by omega⟩
 simp only at hR hK
 rcases hR with h0 | ⟨hR1, hR2, hR3⟩
 ·omega
 obtain ⟨hK1, hK2, hK3⟩ := hK
 obtain ⟨hI1, hI2, _⟩ := num_all hi1 hi2
 unfold isNameB at hn
 rw [Bool.and_eq_true, Bool.and_eq_true] at hn
 have hne : nm.data.toList.isEmpty = false := by
  have h1 : nm.size ≠ 0 := of_decide_eq_true hn.1.1
  cases hl : nm.data.toList with
  | nil => exact absurd (by rw [← length_data, hl]; rfl) h1
  | cons x xs => rfl
 have e : headS i nm rn kn ind ++ Z = ind ++ (repS rn ++ (32 :: (kindS kn ++ (32 :: (nm.data.toList ++ (32 :: ((35 :: Lib.itoa i) ++ Z))))))) := by
  unfold headS
  simp only [List.append_assoc, List.cons_append, List.nil_append]
 rw [e, skip_ind _ _ hind]
 have s1 := word_step (rest := 32 :: (kindS kn ++ (32 :: (nm.data.toList ++ (32 :: ((35 :: Lib.itoa i) ++ Z)))))) hR2 hR3 (soft32 _)
 have s2 := word_step (rest := 32 :: (nm.data.toList ++ (32 :: ((35 :: Lib.itoa i) ++ Z)))) hK2 hK3 (soft32 _)
 have s3 := word_step (rest := 32 :: ((35 :: Lib.itoa i) ++ Z)) hn.2 hne (soft32 _)
 have t4 := tok_number (rest := Z) hI2 hZ
 have n1 : nxt (repS rn ++ (32 :: (kindS kn ++ (32 :: (nm.data.toList ++ (32 :: ((35 :: Lib.itoa i) ++ Z))))))) = kindS kn ++ (32 :: (nm.data.toList ++ (32 :: ((35 :: Lib.itoa i) ++ Z)))) := by
  rw [s1.2.1, skip_ws (.inl rfl), s2.2.2]
 have n2 : nxt (kindS kn ++ (32 :: (nm.data.toList ++ (32 :: ((35 :: Lib.itoa i) ++ Z))))) = nm.data.toList ++ (32 :: ((35 :: Lib.itoa i) ++ Z)) := by
  rw [s2.2.1, skip_ws (.inl rfl), s3.2.2]
 have n3 : nxt (nm.data.toList ++ (32 :: ((35 :: Lib.itoa i) ++ Z))) = (35 :: Lib.itoa i) ++ Z := by
  rw [s3.2.1, skip_ws (.inl rfl), List.cons_append, skip_at (by decide)]
 have n4 : nxt ((35 :: Lib.itoa i) ++ Z) = skipW Z := nxt_of t4
 refine ⟨_, s1.2.2, ?_, ?_, ?_, ?_, ?_, ?_, ?_⟩
 ·rw [s1.1]
  rintro (h | ⟨h, _⟩)
  ·rw [h] at hR2; exact absurd hR2 (by decide)
  ·rw [h] at hR3; exact absurd hR3 (by decide)
 ·rw [s1.1]; exact hR1
 ·rw [n1, s2.1]; exact hK1
 ·rw [n1, n2, s3.1]
 ·cases hl : nm.data.toList with
  | nil => rw [hl] at hne; cases hne
  | cons x xs => rw [hl] at hn; exact List.all_eq_true.1 hn.2 x (List.mem_cons_self ..)
 ·rw [n1, n2, n3, t4]; exact hI1
 ·rw [n1, n2, n3, n4]
theorem tok59 (l : List UInt8) : tok (59 :: l) = [59] := rfl
theorem tok123 (l : List UInt8) : tok (123 :: l) = [123] := rfl
theorem tok125 (l : List UInt8) : tok (125 :: l) = [125] := rfl
theorem nxt59 (l : List UInt8) : nxt (59 :: l) = skipW l := nxt_of (w := [59]) (tok59 l)
theorem nxt123 (l : List UInt8) : nxt (123 :: l) = skipW l := nxt_of (w := [123]) (tok123 l)
theorem nxt125 (l : List UInt8) : nxt (125 :: l) = skipW l := nxt_of (w := [125]) (tok125 l)
theorem back_name (nm : ByteArray) : (⟨nm.data.toList.toArray⟩ : ByteArray) = nm := by cases nm; rfl
def mkB (l : List UInt8) : ByteArray := ⟨l.toArray⟩
theorem mkB_data (l : List UInt8) : (mkB l).data.toList = l := rfl
mutual
def wordsN : Nd → List (List UInt8)
 | .mk _ nm r k s => if k = 0 then [repS r, kindS k, nm.data.toList, [123]] ++ wordsNs s ++ [[125]] else [repS r, kindS k, nm.data.toList ++ [59]]
def wordsNs : List Nd → List (List UInt8)
 | [] => []
 | n :: ns => wordsN n ++ wordsNs ns
end
mutual
def idWordsN : Nd → List (List UInt8)
 | .mk i nm r k s => if k = 0 then [repS r, kindS k, nm.data.toList, 35 :: Lib.itoa i, [123]] ++ idWordsNs s ++ [[125]] else [repS r, kindS k, nm.data.toList, 35 :: Lib.itoa i ++ [59]]
def idWordsNs : List Nd → List (List UInt8)
 | [] => []
 | n :: ns => idWordsN n ++ idWordsNs ns
end
def Solid (w : List UInt8) : Prop := w ≠ [] ∧ ∀ b ∈ w, Lib.isSp b = false
theorem sp_lower {b : UInt8} (h : lower b = true) : Lib.isSp b = false := by
 unfold lower at h
 have h1 := of_decide_eq_true h
 unfold Lib.isSp
 have : ∀ (c : UInt8), c.toNat < 97 → (b == c) = false := fun c hc => by
  rw [beq_eq_false_iff_ne]
  rintro rfl
  omega
 simp only [this 9 (by decide), this 10 (by decide), this 11 (by decide), this 12 (by decide), this 13 (by decide), this 32 (by decide), Bool.or_self]
theorem sp_digit {b : UInt8} (h : digits.contains b = true) : Lib.isSp b = false := by
 simp only [digits, List.contains_eq_mem, List.mem_cons, List.not_mem_nil, or_false, decide_eq_true_eq] at h
 rcases h with rfl | rfl | rfl | rfl | rfl | rfl | rfl | rfl | rfl | rfl <;> rfl
theorem solid_lower {w : List UInt8} (h : w.all lower = true) (hn : w.isEmpty = false) : Solid w :=
 ⟨(by rintro rfl; cases hn), fun b hb => sp_lower (List.all_eq_true.1 h b hb)⟩
theorem fieldsGo_word (c : UInt8) (hc : Lib.isSp c = true) (rest : List UInt8) : ∀ (w cur : List UInt8), (∀ b ∈ w, Lib.isSp b = false) → (cur ++ w) ≠ [] → Lib.fieldsGo cur (w ++ c :: rest) = (cur ++ w) :: Lib.fieldsGo [] rest
 | [], cur, _, hn => by
  rw [List.append_nil] at hn ⊢
  have : cur.isEmpty = false := by cases cur; exact absurd rfl hn; rfl
  simp [Lib.fieldsGo, hc, this]
 | b :: w, cur, h, hn => by
  rw [List.cons_append, Lib.fieldsGo, if_neg (by rw [h b (List.mem_cons_self ..)]; decide), fieldsGo_word c hc rest w (cur ++ [b]) (fun x hx => h x (List.mem_cons_of_mem _ hx)) (by simp)]
  simp
theorem fields_step {w : List UInt8} (hw : Solid w) {c : UInt8} (hc : Lib.isSp c = true) (rest : List UInt8) : Lib.fieldsGo [] (w ++ c :: rest) = w :: Lib.fieldsGo [] rest :=
 fieldsGo_word c hc rest w [] hw.2 (by simpa using hw.1)
theorem fields_sp {c : UInt8} (hc : Lib.isSp c = true) (rest : List UInt8) : Lib.fieldsGo [] (c :: rest) = Lib.fieldsGo [] rest := by
 simp [Lib.fieldsGo, hc]
theorem fields_ind (rest : List UInt8) : ∀ (ind : List UInt8), (∀ c ∈ ind, c = 32) → Lib.fieldsGo [] (ind ++ rest) = Lib.fieldsGo [] rest
 | [], _ => rfl
 | c :: ind, h => by
  rw [List.cons_append, h c (List.mem_cons_self ..), fields_sp rfl, fields_ind rest ind (fun x hx => h x (List.mem_cons_of_mem _ hx))]
structure Pieces (i : Int) (nm : ByteArray) (r k : Int) : Prop where
 rep : (repS r).all lower = true ∧ (repS r).isEmpty = false
 kind : (kindS k).all lower = true ∧ (kindS k).isEmpty = false
 name : nm.data.toList.all lower = true ∧ nm.data.toList.isEmpty = false
 num : ∀ x ∈ Lib.itoa i, digits.contains x = true
theorem pieces_of {i : Int} {nm : ByteArray} {r k : Int} {s : List Nd} (h : Right (.mk i nm r k s)) : Pieces i nm r k := by
 obtain ⟨b1, b2, b3, b4, b5, b6, b7, b8, b9⟩ := h
 simp only [Nd.rep, Nd.kind, Nd.name, Nd.id] at b1 b2 b3 b4 b7 b8 b9
 obtain ⟨rn, rfl⟩ := Int.eq_ofNat_of_zero_le (show 0 ≤ r by omega)
 obtain ⟨kn, rfl⟩ := Int.eq_ofNat_of_zero_le b3
 have hR := rep_fin ⟨rn, by omega⟩
 have hK := kind_fin ⟨kn, by omega⟩
 simp only at hR hK
 unfold isNameB at b7
 rw [Bool.and_eq_true, Bool.and_eq_true] at b7
 have hne : nm.data.toList.isEmpty = false := by
  have h1 : nm.size ≠ 0 := of_decide_eq_true b7.1.1
  cases hl : nm.data.toList with
  | nil => exact absurd (by rw [← length_data, hl]; rfl) h1
  | cons x xs => rfl
 rcases hR with h0 | ⟨_, h2, h3⟩
 ·omega
 ·exact ⟨⟨h2, h3⟩, ⟨hK.2.1, hK.2.2⟩, ⟨b7.2, hne⟩, (num_all b8 b9).2.1⟩
theorem Pieces.hash {i : Int} {nm : ByteArray} {r k : Int} (h : Pieces i nm r k) : Solid (35 :: Lib.itoa i) :=
 ⟨by simp, fun b hb => by
  rcases List.mem_cons.1 hb with rfl | hb
  ·rfl
  ·exact sp_digit (h.num b hb)⟩
theorem Pieces.hashSemi {i : Int} {nm : ByteArray} {r k : Int} (h : Pieces i nm r k) : Solid (35 :: Lib.itoa i ++ [59]) :=
 ⟨by simp, fun b hb => by
  rcases List.mem_append.1 hb with hb | hb
  ·exact h.hash.2 b hb
  ·rw [List.mem_singleton.1 hb]; rfl⟩
mutual
theorem fields_textN : ∀ (n : Nd) (ind more : List UInt8), n.All Right → (∀ c ∈ ind, c = 32) → Lib.fieldsGo [] (textN n ind ++ more) = idWordsN n ++ Lib.fieldsGo [] more
 | .mk i nm r k s, ind, more, hA, hind => by
  have hp := pieces_of hA.1
  have s1 := solid_lower hp.rep.1 hp.rep.2
  have s2 := solid_lower hp.kind.1 hp.kind.2
  have s3 := solid_lower hp.name.1 hp.name.2
  by_cases hk : k = 0
  ·have e : textN (.mk i nm r k s) ind ++ more = ind ++ (repS r ++ 32 :: (kindS k ++ 32 :: (nm.data.toList ++ 32 :: ((35 :: Lib.itoa i) ++ 32 :: ([123] ++ 10 :: (textL s (ind ++ [32, 32]) ++ (ind ++ ([125] ++ 10 :: more)))))))) := by
    simp only [textN, headS, if_pos hk, List.append_assoc, List.cons_append, List.nil_append]
   have hind2 : ∀ c ∈ ind ++ [32, 32], c = (32 : UInt8) := fun c hc => by
    rcases List.mem_append.1 hc with h | h
    ·exact hind c h
    ·simpa using h
   have sb : Solid [123] := ⟨by simp, fun b hb => by rw [List.mem_singleton.1 hb]; rfl⟩
   have sc : Solid [125] := ⟨by simp, fun b hb => by rw [List.mem_singleton.1 hb]; rfl⟩
   rw [e, fields_ind _ _ hind, fields_step s1 rfl, fields_step s2 rfl, fields_step s3 rfl, fields_step hp.hash rfl, fields_step sb rfl, fields_textL s (ind ++ [32, 32]) _ hA.2 hind2, fields_ind _ _ hind, fields_step sc rfl]
   simp only [idWordsN, if_pos hk, List.cons_append, List.nil_append, List.append_assoc]
  ·have e : textN (.mk i nm r k s) ind ++ more = ind ++ (repS r ++ 32 :: (kindS k ++ 32 :: (nm.data.toList ++ 32 :: ((35 :: Lib.itoa i ++ [59]) ++ 10 :: more)))) := by
    simp only [textN, headS, if_neg hk, List.append_assoc, List.cons_append, List.nil_append]
   rw [e, fields_ind _ _ hind, fields_step s1 rfl, fields_step s2 rfl, fields_step s3 rfl, fields_step hp.hashSemi rfl]
   simp only [idWordsN, if_neg hk, List.cons_append, List.nil_append]
theorem fields_textL : ∀ (l : List Nd) (ind more : List UInt8), Nd.Alls Right l → (∀ c ∈ ind, c = 32) → Lib.fieldsGo [] (textL l ind ++ more) = idWordsNs l ++ Lib.fieldsGo [] more
 | [], ind, more, hA, hind => rfl
 | n :: ns, ind, more, hA, hind => by
  simp only [textL, List.append_assoc, idWordsNs]
  rw [fields_textN n ind _ hA.1 hind, fields_textL ns ind more hA.2 hind]
end
theorem fields_text_all {l : List Nd} (h : Nd.Alls Right l) : Lib.fields (textL l []) = idWordsNs l := by
 have := fields_textL l [] [] h (fun c hc => by cases hc)
 rw [List.append_nil] at this
 unfold Lib.fields
 rw [this]
 simp [Lib.fieldsGo]
def plFold (out : List ByteArray) (ws : List (List UInt8)) : List ByteArray := (ws.map mkB).foldl plStep out
theorem plFold_cons (out : List ByteArray) (w : List UInt8) (ws : List (List UInt8)) : plFold out (w :: ws) = plFold (plStep out (mkB w)) ws := rfl
theorem hash_lower {w : List UInt8} (h : w.all lower = true) : hashP (mkB w) = false := by
 unfold hashP
 rw [mkB_data]
 cases w with
 | nil => rfl
 | cons c cs =>
  have hc := (lower_ne (List.all_eq_true.1 h c (List.mem_cons_self ..))).1
  have : c ≠ 35 := by rintro rfl; exact hc rfl
  show (List.isPrefixOf [35] (c :: cs)) = false
  have h9 : ((35 : UInt8) == c) = false := by rw [beq_eq_false_iff_ne]; exact fun e => this e.symm
  simp [List.isPrefixOf, h9]
theorem semi_of {w : List UInt8} : semiB (mkB w) = true ↔ ∃ u, w = u ++ [59] := by
 unfold semiB
 rw [mkB_data]
 unfold Lib.hasSuffix
 rw [List.isSuffixOf_iff_suffix]
 constructor
 ·rintro ⟨u, hu⟩; exact ⟨u, hu.symm⟩
 ·rintro ⟨u, hu⟩; exact ⟨u, hu.symm⟩
theorem semi_no {w : List UInt8} (h : ∀ b ∈ w, b ≠ 59) : semiB (mkB w) = false := by
 cases hs : semiB (mkB w) with
 | false => rfl
 | true =>
  obtain ⟨u, rfl⟩ := semi_of.1 hs
  exact absurd rfl (h 59 (List.mem_append_right _ (List.mem_cons_self ..)))
theorem digit_ne59 {b : UInt8} (h : digits.contains b = true) : b ≠ 59 := by
 rintro rfl; exact absurd h (by decide)
theorem lower_ne59 {b : UInt8} (h : lower b = true) : b ≠ 59 := by
 rintro rfl; exact absurd h (by decide)
theorem hash_yes (l : List UInt8) : hashP (mkB (35 :: l)) = true := by
 unfold hashP
 rw [mkB_data]
 rfl
theorem addSemi_last (out : List ByteArray) (x : List UInt8) : addSemi (out ++ [mkB x]) = out ++ [mkB (x ++ [59])] := by
 unfold addSemi
 have h1 : (out ++ [mkB x]).length - 1 = out.length := by simp
 have h2 : (out ++ [mkB x]).getD out.length ⟨#[]⟩ = mkB x := by simp
 rw [h1, h2, List.set_append_right _ _ (Nat.le_refl _), Nat.sub_self, List.set_cons_zero]
 have h3 : mkB x ++ (⟨#[59]⟩ : ByteArray) = mkB (x ++ [59]) := by
  have : (mkB x ++ (⟨#[59]⟩ : ByteArray)).data = (mkB (x ++ [59])).data := by
   rw [ByteArray.data_append]
   simp [mkB]
  exact ByteArray.ext this
 rw [h3]
mutual
theorem pl_words : ∀ (n : Nd) (out : List ByteArray) (rest : List (List UInt8)), n.All Right → plFold out (idWordsN n ++ rest) = plFold (out ++ (wordsN n).map mkB) rest
 | .mk i nm r k s, out, rest, hA => by
  have hp := pieces_of hA.1
  have h1 := hash_lower hp.rep.1
  have h2 := hash_lower hp.kind.1
  have h3 := hash_lower hp.name.1
  by_cases hk : k = 0
  ·have h4 : semiB (mkB (35 :: Lib.itoa i)) = false := semi_no (fun b hb => by
    rcases List.mem_cons.1 hb with rfl | hb
    ·decide
    ·exact digit_ne59 (hp.num b hb))
   simp only [idWordsN, wordsN, if_pos hk, List.cons_append, List.nil_append, List.append_assoc]
   rw [plFold_cons, plFold_cons, plFold_cons, plFold_cons, plFold_cons]
   have e : plStep (plStep (plStep (plStep (plStep out (mkB (repS r))) (mkB (kindS k))) (mkB nm.data.toList)) (mkB (35 :: Lib.itoa i))) (mkB [123]) = out ++ [mkB (repS r), mkB (kindS k), mkB nm.data.toList, mkB [123]] := by
    have h5 : hashP (mkB [123]) = false := by decide +kernel
    simp [plStep, h1, h2, h3, hash_yes, h4, h5]
   rw [e, pl_wordsL s _ _ hA.2, plFold_cons]
   have h6 : ∀ o, plStep o (mkB [125]) = o ++ [mkB [125]] := fun o => by
    have h5 : hashP (mkB [125]) = false := by decide +kernel
    simp [plStep, h5]
   rw [h6]
   simp only [List.map_cons, List.map_append, List.map_nil, List.append_assoc, List.cons_append, List.nil_append]
  ·have h4 : semiB (mkB (35 :: Lib.itoa i ++ [59])) = true := semi_of.2 ⟨_, rfl⟩
   simp only [idWordsN, wordsN, if_neg hk, List.cons_append, List.nil_append]
   rw [plFold_cons, plFold_cons, plFold_cons, plFold_cons]
   rw [List.cons_append] at h4
   have e : plStep (plStep (plStep (plStep out (mkB (repS r))) (mkB (kindS k))) (mkB nm.data.toList)) (mkB (35 :: (Lib.itoa i ++ [59]))) = out ++ [mkB (repS r), mkB (kindS k), mkB (nm.data.toList ++ [59])] := by
    simp only [plStep, h1, h2, h3, hash_yes, h4, if_true, if_false, Bool.false_eq_true]
    rw [addSemi_last]
    simp
   rw [e]
   rfl
theorem pl_wordsL : ∀ (l : List Nd) (out : List ByteArray) (rest : List (List UInt8)), Nd.Alls Right l → plFold out (idWordsNs l ++ rest) = plFold (out ++ (wordsNs l).map mkB) rest
 | [], out, rest, hA => by simp [idWordsNs, wordsNs]
 | n :: ns, out, rest, hA => by
  simp only [idWordsNs, wordsNs, List.append_assoc, List.map_append]
  rw [pl_words n out _ hA.1, pl_wordsL ns _ rest hA.2, List.append_assoc]
end
theorem plGo_words {l : List Nd} (h : Nd.Alls Right l) : plGo ((idWordsNs l).map mkB) = (wordsNs l).map mkB := by
 have := pl_wordsL l [] [] h
 rw [List.append_nil] at this
 exact this.trans rfl
def splB : List UInt8 → List (List UInt8)
 | [] => [[]]
 | c :: l => if c = 32 then [] :: splB l else match splB l with
  | [] => [[c]]
  | w :: ws => (c :: w) :: ws
theorem splB_no : ∀ (l : List UInt8), (∀ b ∈ l, b ≠ 32) → splB l = [l]
 | [], _ => rfl
 | c :: l, h => by
  rw [splB, if_neg (h c (List.mem_cons_self ..)), splB_no l (fun b hb => h b (List.mem_cons_of_mem _ hb))]
theorem splB_app (b : List UInt8) : ∀ (a : List UInt8), (∀ x ∈ a, x ≠ 32) → splB (a ++ 32 :: b) = a :: splB b
 | [], _ => by rw [List.nil_append, splB, if_pos rfl]
 | c :: a, h => by
  rw [List.cons_append, splB, if_neg (h c (List.mem_cons_self ..)), splB_app b a (fun x hx => h x (List.mem_cons_of_mem _ hx))]
theorem splitK_eq : ∀ (k : Nat) (l : List UInt8), Lib.count l [32] = k → Lib.splitK [32] 0 k l = splB l := by
 intro k
 induction k with
 | zero =>
  intro l hk
  have hi : Lib.index l [32] = -1 := by
   rcases Int.lt_or_le (Lib.index l [32]) 0 with h | h
   ·have := Lib.index_ge l [32]; omega
   ·obtain ⟨i, hi⟩ := Int.eq_ofNat_of_zero_le h
    have := Lib.count_hit (by simp) hi
    omega
  rw [Lib.index_one] at hi
  refine (splB_no l fun b hb => ?_).symm
  rintro rfl
  obtain ⟨j, hj⟩ := List.mem_iff_getElem?.1 hb
  exact Lib.indexByte_none hi j hj
 | succ k ih =>
  intro l hk
  rcases Int.lt_or_le (Lib.index l [32]) 0 with h | h
  ·have h1 : Lib.index l [32] = -1 := by have := Lib.index_ge l [32]; omega
   rw [Lib.count_miss h1] at hk
   cases hk
  ·obtain ⟨i, hi⟩ := Int.eq_ofNat_of_zero_le h
   have hc := Lib.count_hit (by simp) hi
   have hib : Lib.indexByte l 32 = i := by rw [← Lib.index_one]; exact hi
   obtain ⟨h1, h2⟩ := Lib.indexByte_some hib
   obtain ⟨hlt, hge⟩ := List.getElem?_eq_some_iff.1 h1
   have hl : l = l.take i ++ 32 :: l.drop (i + 1) := by
    rw [← hge, ← List.drop_eq_getElem_cons hlt, List.take_append_drop]
   have hno : ∀ x ∈ l.take i, x ≠ (32 : UInt8) := fun x hx e => by
    subst e
    obtain ⟨j, hj⟩ := List.mem_iff_getElem?.1 hx
    have hji : j < i := by have := (List.getElem?_eq_some_iff.1 hj).1; rw [List.length_take] at this; omega
    rw [List.getElem?_take, if_pos hji] at hj
    exact h2 j hji hj
   have hne : ¬ ((i : Int) == -1) = true := fun e => by have := beq_iff_eq.1 e; omega
   rw [Lib.splitK, hi, if_neg hne, Int.toNat_natCast, Nat.add_zero, List.length_singleton]
   rw [ih (l.drop (i + 1)) (by simp only [List.length_singleton] at hc; omega)]
   conv => rhs; rw [hl]
   rw [splB_app _ _ hno]
def wordsB (s : ByteArray) : List ByteArray := (splB s.data.toList).map mkB
theorem mkB_back (s : ByteArray) : mkB s.data.toList = s := by cases s; rfl
theorem split_words (s : ByteArray) : Lib.splitB ⟨#[32]⟩ 0 (Lib.countB s ⟨#[32]⟩) s = wordsB s := by
 have h := Lib.splitB_data ⟨#[32]⟩ 0 (Lib.countB s ⟨#[32]⟩) s
 rw [show (⟨#[32]⟩ : ByteArray).data.toList = [32] from rfl, splitK_eq _ _ rfl] at h
 unfold wordsB
 rw [← h, List.map_map]
 have : (mkB ∘ fun x : ByteArray => x.data.toList) = id := funext mkB_back
 rw [this, List.map_id]
theorem words_len (s : ByteArray) : (wordsB s).length = Lib.countB s ⟨#[32]⟩ + 1 := by
 rw [← split_words]
 exact Lib.splitB_all ⟨#[32]⟩ (by decide) 0 _ s rfl
def joinL : List (List UInt8) → List UInt8
 | [] => []
 | [w] => w
 | w :: ws => w ++ 32 :: joinL ws
theorem joinL_cons {w : List UInt8} {ws : List (List UInt8)} (h : ws ≠ []) : joinL (w :: ws) = w ++ 32 :: joinL ws := by
 cases ws with
 | nil => exact absurd rfl h
 | cons x xs => rfl
theorem splB_ne (l : List UInt8) : splB l ≠ [] := by
 cases l with
 | nil => simp [splB]
 | cons c l =>
  rw [splB]
  split
  ·simp
  ·split <;> simp
theorem joinL_spl : ∀ l : List UInt8, joinL (splB l) = l
 | [] => rfl
 | c :: l => by
  rw [splB]
  split
  ·rename_i h
   rw [joinL_cons (splB_ne l), joinL_spl l, h]; rfl
  ·have ih := joinL_spl l
   split
   ·rename_i h1; exact absurd h1 (splB_ne l)
   ·rename_i w ws h1
    rw [h1] at ih
    cases ws with
    | nil => simp only [joinL] at ih ⊢; rw [ih]
    | cons x xs => rw [joinL_cons (by simp)] at ih ⊢; rw [← ih]; rfl
theorem spl_joinL : ∀ ws : List (List UInt8), ws ≠ [] → (∀ w ∈ ws, ∀ b ∈ w, b ≠ 32) → splB (joinL ws) = ws
 | [], h, _ => absurd rfl h
 | [w], _, h => splB_no w (h w (List.mem_cons_self ..))
 | w :: x :: xs, _, h => by
  rw [joinL_cons (by simp), splB_app _ _ (h w (List.mem_cons_self ..)), spl_joinL (x :: xs) (by simp) (fun y hy => h y (List.mem_cons_of_mem _ hy))]
theorem joinW_mk : ∀ ws : List (List UInt8), joinW (ws.map mkB) = joinL ws
 | [] => rfl
 | [w] => by simp [joinW, blanks, joinL, mkB_data]
 | w :: x :: xs => by
  have ih := joinW_mk (x :: xs)
  rw [joinL_cons (by simp), ← ih]
  simp [joinW, blanks, mkB_data]
theorem joinW_words (s : ByteArray) : joinW (wordsB s) = s.data.toList := by
 unfold wordsB
 rw [joinW_mk, joinL_spl]
theorem spl_sum : ∀ l : List UInt8, ∀ w ∈ splB l, w.length ≤ l.length
 | [], w, h => by
  rw [splB, List.mem_singleton] at h
  subst h; exact Nat.le_refl _
 | c :: l, w, h => by
  have ih := spl_sum l
  rw [splB] at h
  split at h
  ·rcases List.mem_cons.1 h with rfl | h
   ·exact Nat.zero_le _
   ·have := ih w h; simp only [List.length_cons]; omega
  ·split at h
   ·rename_i h1; exact absurd h1 (splB_ne l)
   ·rename_i v vs h1
    rcases List.mem_cons.1 h with rfl | h
    ·have := ih v (by rw [h1]; exact List.mem_cons_self ..); simp only [List.length_cons]; omega
    ·have := ih w (by rw [h1]; exact List.mem_cons_of_mem _ h); simp only [List.length_cons]; omega
theorem words_size (s : ByteArray) : ∀ x ∈ wordsB s, x.size ≤ s.size := by
 intro x hx
 obtain ⟨w, hw, rfl⟩ := List.mem_map.1 hx
 have := spl_sum _ w hw
 rwa [length_data] at this
theorem spl_count : ∀ l : List UInt8, (splB l).length ≤ l.length + 1
 | [] => Nat.le_refl _
 | c :: l => by
  have ih := spl_count l
  rw [splB]
  split
  ·simp only [List.length_cons]; omega
  ·split
   ·simp
   ·rename_i v vs h1
    rw [h1] at ih
    simp only [List.length_cons] at ih ⊢
    omega
theorem words_count (s : ByteArray) : (wordsB s).length ≤ s.size + 1 := by
 have := spl_count s.data.toList
 rw [length_data] at this
 unfold wordsB
 rwa [List.length_map]
theorem rep_len : ∀ p : Fin 4, (repS (p.val : Int)).length ≤ 8 := by decide +kernel
theorem kind_len : ∀ p : Fin 6, (kindS (p.val : Int)).length ≤ 6 := by decide +kernel
theorem head_len {n : Nd} (h : Right n) (ind : List UInt8) : (headS n.id n.name n.rep n.kind ind).length ≤ ind.length + 36 := by
 obtain ⟨b1, b2, b3, b4, b5, b6, b7, b8, b9⟩ := h
 obtain ⟨rn, hrn⟩ := Int.eq_ofNat_of_zero_le (show 0 ≤ n.rep by omega)
 obtain ⟨kn, hkn⟩ := Int.eq_ofNat_of_zero_le b3
 have h1 := rep_len ⟨rn, by omega⟩
 have h2 := kind_len ⟨kn, by omega⟩
 have h3 := (num_all b8 b9).2.2
 have h4 : n.name.size ≤ 12 := by
  unfold isNameB at b7
  rw [Bool.and_eq_true, Bool.and_eq_true] at b7
  exact of_decide_eq_true b7.1.2
 simp only at h1 h2
 unfold headS
 rw [hrn, hkn]
 simp only [List.length_append, List.length_cons, List.length_nil, length_data]
 omega
mutual
theorem text_len : ∀ (n : Nd) (ind : List UInt8) (M : Nat), n.All Right → ind.length + 2 * n.high ≤ M → (textN n ind).length ≤ n.weigh * (2 * M + 60)
 | .mk i nm r k s, ind, M, hA, hM => by
  have h1 := head_len hA.1 ind
  simp only [Nd.id, Nd.name, Nd.rep, Nd.kind] at h1
  simp only [Nd.high] at hM
  have h2 := texts_len s (ind ++ [32, 32]) M hA.2 (by simp only [List.length_append, List.length_cons, List.length_nil]; omega)
  simp only [textN, Nd.weigh, Nat.add_mul, Nat.one_mul]
  rw [List.length_append]
  split
  ·simp only [List.length_append, List.length_cons, List.length_nil]
   omega
  ·simp only [List.length_cons, List.length_nil]
   omega
theorem texts_len : ∀ (l : List Nd) (ind : List UInt8) (M : Nat), Nd.Alls Right l → ind.length + 2 * Nd.highs l ≤ M → (textL l ind).length ≤ Nd.weighs l * (2 * M + 60)
 | [], ind, M, hA, hM => by simp [textL]
 | n :: ns, ind, M, hA, hM => by
  simp only [Nd.highs] at hM
  have h1 := text_len n ind M hA.1 (by omega)
  have h2 := texts_len ns ind M hA.2 (by omega)
  simp only [textL, Nd.weighs, List.length_append, Nat.add_mul]
  omega
end
mutual
theorem fine_of : ∀ (n : Nd), n.All Right → n.fine
 | .mk i nm r k s, h => ⟨h.1.1, h.1.2.1, h.1.2.2.1, h.1.2.2.2.1, fines_of s h.2⟩
theorem fines_of : ∀ (l : List Nd), Nd.Alls Right l → Nd.fines l
 | [], h => trivial
 | n :: ns, h => ⟨fine_of n h.1, fines_of ns h.2⟩
end
theorem good_of {nd : Nd} (hv : validF nd = none) : Nd.fines nd.sub ∧ (textL nd.sub []).length ≤ 140737488355328 := by
 have hS := schema_of_valid hv
 have h1 := hS.high
 have h2 := hS.small
 refine ⟨fines_of _ hS.right, ?_⟩
 have h3 := texts_len nd.sub [] 12 hS.right (by
  obtain ⟨i, nm, r, k, s⟩ := nd
  simp only [Nd.high, Nd.sub] at h1 ⊢
  simp only [List.length_nil]
  omega)
 have h4 : Nd.weighs nd.sub ≤ 40 := by
  obtain ⟨i, nm, r, k, s⟩ := nd
  simp only [Nd.weigh, Nd.sub] at h2 ⊢
  omega
 have h5 : Nd.weighs nd.sub * (2 * 12 + 60) ≤ 40 * (2 * 12 + 60) := Nat.mul_le_mul_right _ h4
 omega
theorem Glo.up {B B' : Nat} {E : Er → Value} {w : World} (h : Glo B E w) (hB : B ≤ B') : Glo B' E w :=
 ⟨h.errs, h.tabs.up hB, h.syn, h.ran, ⟨fun e => by have := h.below.1 e; omega, by have := h.below.2.1; omega, by have := h.below.2.2; omega⟩⟩
theorem plStep_len (out : List ByteArray) (x : ByteArray) : out.length ≤ (plStep out x).length := by
 unfold plStep addSemi
 split
 ·split
  ·rw [List.length_set]; exact Nat.le_refl _
  ·exact Nat.le_refl _
 ·simp
theorem plFold_len : ∀ (ws out : List ByteArray), out.length ≤ (ws.foldl plStep out).length
 | [], _ => Nat.le_refl _
 | w :: ws, out => Nat.le_trans (plStep_len out w) (plFold_len ws (plStep out w))
theorem plGo_pos {w : ByteArray} {ws : List ByteArray} (h : hashP w = false) : 1 ≤ (plGo (w :: ws)).length := by
 have h1 := plFold_len ws (plStep [] w)
 have h2 : plStep [] w = [w] := by simp [plStep, h]
 rw [h2] at h1
 show 1 ≤ ((w :: ws).foldl plStep []).length
 rw [List.foldl_cons, h2]
 exact h1
theorem plGo_no {w : ByteArray} {ws : List ByteArray} (h : hashP w = false) : ∀ j (hj : j < (w :: ws).length), hashP (w :: ws)[j] = true → semiB (w :: ws)[j] = true → 1 ≤ (plGo ((w :: ws).take j)).length := by
 intro j hj h1 _
 cases j with
 | zero => rw [List.getElem_cons_zero, h] at h1; cases h1
 | succ j => rw [List.take_succ_cons]; exact plGo_pos h
theorem fieldsGo_le : ∀ (l cur : List UInt8), (∀ w ∈ Lib.fieldsGo cur l, w.length ≤ cur.length + l.length) ∧ (Lib.fieldsGo cur l).length ≤ 1 + l.length
 | [], cur => by
  unfold Lib.fieldsGo
  split
  ·exact ⟨fun w hw => (List.not_mem_nil hw).elim, Nat.zero_le _⟩
  ·exact ⟨fun w hw => by rw [List.mem_singleton.1 hw]; exact Nat.le_add_right _ _, Nat.le_refl _⟩
 | b :: l, cur => by
  unfold Lib.fieldsGo
  split
  ·have ih := fieldsGo_le l []
   simp only [List.length_nil, Nat.zero_add] at ih
   split
   ·exact ⟨fun w hw => by have := ih.1 w hw; simp only [List.length_cons]; omega, by have := ih.2; simp only [List.length_cons]; omega⟩
   ·refine ⟨fun w hw => ?_, by have := ih.2; simp only [List.length_cons]; omega⟩
    rcases List.mem_cons.1 hw with rfl | hw
    ·exact Nat.le_add_right _ _
    ·have := ih.1 w hw; simp only [List.length_cons]; omega
  ·have ih := fieldsGo_le l (cur ++ [b])
   simp only [List.length_append, List.length_singleton] at ih
   exact ⟨fun w hw => by have := ih.1 w hw; simp only [List.length_cons]; omega, by have := ih.2; simp only [List.length_cons]; omega⟩
theorem fields_le (l : List UInt8) : (∀ w ∈ Lib.fields l, w.length ≤ l.length) ∧ (Lib.fields l).length ≤ 1 + l.length := by
 have := fieldsGo_le l []
 simpa [Lib.fields] using this
def Ascii (l : List UInt8) : Prop := ∀ b ∈ l, b.toNat < 128
theorem ascii_app {a b : List UInt8} (h : Ascii a) (k : Ascii b) : Ascii (a ++ b) := fun x hx => (List.mem_append.1 hx).elim (h x) (k x)
theorem ascii_few {l : List UInt8} (h : l.all (fun b => decide (b.toNat < 128)) = true) : Ascii l := fun b hb => of_decide_eq_true (List.all_eq_true.1 h b hb)
theorem ascii_lower {w : List UInt8} (h : w.all lower = true) : Ascii w := fun b hb => by
 have h1 := List.all_eq_true.1 h b hb
 unfold lower at h1
 have := of_decide_eq_true h1
 omega
theorem ascii_digits {w : List UInt8} (h : ∀ x ∈ w, digits.contains x = true) : Ascii w := fun b hb => by
 have h1 := h b hb
 simp only [digits, List.contains_eq_mem, List.mem_cons, List.not_mem_nil, or_false, decide_eq_true_eq] at h1
 rcases h1 with rfl | rfl | rfl | rfl | rfl | rfl | rfl | rfl | rfl | rfl <;> decide
theorem ascii_ind {ind : List UInt8} (h : ∀ c ∈ ind, c = 32) : Ascii ind := fun b hb => by rw [h b hb]; decide
mutual
theorem ascii_textN : ∀ (n : Nd) (ind : List UInt8), n.All Right → (∀ c ∈ ind, c = 32) → Ascii (textN n ind)
 | .mk i nm r k s, ind, hA, hind => by
  have hp := pieces_of hA.1
  have hi := ascii_ind hind
  have hind2 : ∀ c ∈ ind ++ [32, 32], c = (32 : UInt8) := fun c hc => by
   rcases List.mem_append.1 hc with h | h
   ·exact hind c h
   ·simpa using h
  have h1 := ascii_lower hp.rep.1
  have h2 := ascii_lower hp.kind.1
  have h3 := ascii_lower hp.name.1
  have h4 := ascii_digits hp.num
  have c1 : Ascii [32] := fun b hb => by rw [List.mem_singleton.1 hb]; decide
  have c2 : Ascii [32, 35] := ascii_few rfl
  have hh : Ascii (headS i nm r k ind) := ascii_app (ascii_app (ascii_app (ascii_app (ascii_app (ascii_app (ascii_app hi h1) c1) h2) c1) h3) c2) h4
  simp only [textN]
  refine ascii_app hh ?_
  split
  ·exact ascii_app (ascii_app (ascii_few rfl) (ascii_textL s _ hA.2 hind2)) (ascii_app hi (ascii_few rfl))
  ·exact ascii_few rfl
theorem ascii_textL : ∀ (l : List Nd) (ind : List UInt8), Nd.Alls Right l → (∀ c ∈ ind, c = 32) → Ascii (textL l ind)
 | [], ind, hA, hind => fun b hb => (List.not_mem_nil hb).elim
 | n :: ns, ind, hA, hind => by
  simp only [textL]
  exact ascii_app (ascii_textN n ind hA.1 hind) (ascii_textL ns ind hA.2 hind)
end
theorem text_short {nd : Nd} (hS : Schema nd) : (textL nd.sub []).length ≤ 3400 := by
 have h1 := hS.high
 have h2 := hS.small
 have h3 := texts_len nd.sub [] 12 hS.right (by
  obtain ⟨i, nm, r, k, s⟩ := nd
  simp only [Nd.high, Nd.sub, List.length_nil] at h1 ⊢
  omega)
 obtain ⟨i, nm, r, k, s⟩ := nd
 simp only [Nd.weigh, Nd.sub] at h2 h3 ⊢
 have h4 : Nd.weighs s * (2 * 12 + 60) ≤ 39 * (2 * 12 + 60) := Nat.mul_le_mul_right _ (by omega)
 omega
theorem read_valid {s : ByteArray} {nd : Nd} (h : readF s = .ok nd) : validF nd = none := by
 unfold readF at h
 split at h
 ·cases h
 ·split at h
  ·cases h
  ·split at h
   ·split at h
    ·rename_i hv
     cases h
     exact hv
    ·cases h
   ·cases h
theorem skip_le (l : List UInt8) : (skipW l).length ≤ l.length := (List.dropWhile_sublist _).length_le
theorem read_ok {s : ByteArray} {n : Nd} (h : readF s = .ok n) : n.ok := by
 have hs : (skipW s.data.toList).length ≤ s.size := by have := skip_le s.data.toList; rwa [length_data] at this
 unfold readF at h
 split at h
 ·cases h
 ·split at h
  ·cases h
  ·rename_i h8 _ l q1 hp
   split at h
   ·split at h
    ·cases h
     obtain ⟨hoks, hll⟩ := parse_ok _ _ _ _ _ (Nat.le_refl _) (by omega) hp
     exact ⟨⟨by decide, by decide⟩, by decide, ⟨by decide, by decide⟩, ⟨by decide, by decide⟩, by unfold reach; omega, hoks⟩
    ·cases h
   ·cases h
theorem plain_ready {t : Nd} {l : List Nd} (hA : Nd.Alls Right (t :: l)) : ∃ w ws, (idWordsNs (t :: l)).map mkB = w :: ws ∧ hashP w = false := by
 obtain ⟨i, nm, r, k, s⟩ := t
 have hp := pieces_of hA.1.1
 have h1 := hash_lower hp.rep.1
 simp only [idWordsNs, idWordsN]
 split
 ·exact ⟨_, _, by simp only [List.cons_append, List.map_cons]; rfl, h1⟩
 ·exact ⟨_, _, by simp only [List.cons_append, List.map_cons]; rfl, h1⟩
theorem plain_facts {l : List Nd} (h0 : l ≠ []) (hA : Nd.Alls Right l) (hlen : (textL l []).length ≤ 3400) :
  ((Lib.fields (mkB (textL l [])).data.toList).map (fun w => (⟨w.toArray⟩ : ByteArray)) = (idWordsNs l).map mkB) ∧ ((idWordsNs l).map mkB).length ≤ 10000 ∧ (∀ x ∈ (idWordsNs l).map mkB, x.size ≤ 80000) ∧
  (∀ j (h : j < ((idWordsNs l).map mkB).length), hashP ((idWordsNs l).map mkB)[j] = true → semiB ((idWordsNs l).map mkB)[j] = true → 1 ≤ (plGo (((idWordsNs l).map mkB).take j)).length) ∧ 1 ≤ (plGo ((idWordsNs l).map mkB)).length ∧
  (⟨(joinW (plGo ((idWordsNs l).map mkB))).toArray⟩ : ByteArray) = mkB (joinL (wordsNs l)) := by
 have hf := fields_text_all hA
 have hle := fields_le (textL l [])
 rw [hf] at hle
 obtain ⟨t, ts, rfl⟩ : ∃ t ts, l = t :: ts := by
  cases l with
  | nil => exact absurd rfl h0
  | cons t ts => exact ⟨t, ts, rfl⟩
 obtain ⟨w, ws, hw, hh⟩ := plain_ready hA
 refine ⟨?_, ?_, ?_, ?_, ?_, ?_⟩
 ·rw [mkB_data, hf]; rfl
 ·rw [List.length_map]; omega
 ·intro x hx
  obtain ⟨y, hy, rfl⟩ := List.mem_map.1 hx
  have := hle.1 y hy
  show y.length ≤ _
  omega
 ·rw [hw]; exact plGo_no hh
 ·rw [hw]; exact plGo_pos hh
 ·rw [plGo_words hA, joinW_mk]; rfl
open Go.ChangeShapes Go.WideShapes Go.ChangeAt Go.RowKit
theorem stringBytes : Tryz.prog.bytesOf 9 = 16 := by kernel_rfl
theorem open_strs {H : Type} {enc : TypeId × Value → H} {W : World} {n : Nat} {v : Value} {x : DataW H × List MemPlace} (h : DataW.trod enc Tryz.prog W 0 (fun _ => true) true n 22 v.cells.toList = some x)
  (hw : (x.1.weights Tryz.prog 22).all (· ≤ reachBytes) = true) :
  ∃ l : List ByteArray, Reads W (fun b => b < W.heap.size) (.list 1 (l.map strDt)) v.cells.toList ∧ (∀ s ∈ l, s.size ≤ reach) ∧ l.length * 16 ≤ reach := by
 rcases DataW.trod_slice Tryz.underlying22 h with ⟨e4, rfl⟩ | ⟨a, len, cap, elems, rest, n2, rfl, e4, rfl, hb, hlc, hm, hlen, hel, hsp, _⟩
 ·rw [e4]
  exact ⟨[], ⟨none, 0, rfl, Nat.le_refl _, Nat.zero_le _, .inl ⟨rfl, fun _ => rfl⟩⟩, fun s hs => (List.not_mem_nil hs).elim, Nat.zero_le _⟩
 ·rw [e4]
  dsimp only at hw
  simp only [DataW.weights, Tryz.underlying22, stringBytes, List.length_map, List.all_cons, List.all_append, Bool.and_eq_true, decide_eq_true_eq] at hw
  obtain ⟨hwl, hwe, hwr⟩ := hw
  have hall : ∀ j, j < len → ∃ s : ByteArray, ∃ cs', cs'.length = 1 ∧ (∀ t c, cs'[t]? = some c → W.cell? ((a.add (j * 1)).add t) = some c) ∧ cs' = [.string s] ∧ s.size ≤ reach := by
   intro j hj
   have h1 := hel j hj
   rw [stringCells] at h1
   rw [List.getElem?_eq_getElem (by omega), Option.bind_eq_some_iff] at h1
   obtain ⟨cs', h2, h3⟩ := h1
   obtain ⟨h4, h5⟩ := cells_of h2
   obtain ⟨s, e0, e1, _⟩ := DataW.trod_string Tryz.underlying9 h3
   have h6 := weights_mem (List.mem_map_of_mem (f := Prod.fst) (List.getElem_mem (show j < elems.length by omega))) hwe
   rw [e1] at h6
   simp only [DataW.weights, List.all_cons, List.all_nil, Bool.and_true, decide_eq_true_eq] at h6
   rw [length_data'] at h6
   exact ⟨s, cs', h4, h5, e0, h6⟩
  obtain ⟨l, hll, hl2⟩ := choose_list len hall
  refine ⟨l, ⟨some a, cap, by rw [List.length_map, hll], by rw [List.length_map, hll]; exact hlc, hm, ?_⟩, ?_, ?_⟩
  ·by_cases h0 : len = 0
   ·have : l = [] := List.eq_nil_of_length_eq_zero (by omega)
    subst this
    exact .inl ⟨rfl, fun e => by cases e⟩
   ·obtain ⟨z0, cs0, hc1, hc2, _⟩ := hall 0 (by omega)
    have hcell := hc2 0 (cs0[0]) (List.getElem?_eq_getElem (by omega))
    obtain ⟨b, off, spot⟩ := a
    have hspot : spot = none := by simpa [Addr.add] using World.cell?_spot hcell
    subst hspot
    refine .inr ⟨b, off, rfl, ?_, ?_, ?_⟩
    ·have := lt_of_cell' hcell; simpa [Addr.add] using this
    ·have := lt_of_cell' hcell; simpa [Addr.add] using this
    ·refine readsE_of _ _ fun j d hd => ?_
     rw [List.getElem?_map] at hd
     obtain ⟨z, h1, rfl⟩ := Option.map_eq_some_iff.1 hd
     obtain ⟨cs', h4, h5, h6, _⟩ := hl2 j z h1
     subst h6
     refine ⟨_, h4, fun t c ht => ?_, rfl, rfl⟩
     have := h5 t c ht
     rwa [add_none, add_none] at this
  ·intro s hs
   obtain ⟨j, hj⟩ := List.getElem?_of_mem hs
   obtain ⟨_, _, _, _, h⟩ := hl2 j s hj
   exact h
  ·have : len ≤ elems.length + rest.length := by omega
   have := Nat.mul_le_mul_right 16 this
   unfold reach
   unfold reachBytes at hwl
   omega
end Go.Proofs.YtgcmfpcgmkkobaaGreatDoor
