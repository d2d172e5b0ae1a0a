/-
  What plain wants to know of a schema's text.
-/
import Derived.Test.YtnmhkafpgohefaaGreatDoorSplitLaw
import Derived.Test.YtnmhkafpgohefaaGreatDoorLeaf
set_option linter.unusedVariables false
set_option linter.unusedSimpArgs false
namespace Go.Proofs.YtnmhkafpgohefaaGreatDoor
open Go.RowKit
theorem plStep_len (out : List ByteArray) (x : ByteArray) : out.length ≤ (plStep out x).length := by
 unfold plStep addSemi
 split
 ·split
  ·rw [List.length_set]; exact Nat.le_refl _
  ·exact Nat.le_refl _
 ·simp
theorem plFold_len : ∀ (ws out : List ByteArray), out.length ≤ (ws.foldl plStep out).length
 | [], _ => Nat.le_refl _
 | w :: ws, out => Nat.le_trans (plStep_len out w) (plFold_len ws (plStep out w))
theorem plGo_pos {w : ByteArray} {ws : List ByteArray} (h : hashP w = false) : 1 ≤ (plGo (w :: ws)).length := by
 have h1 := plFold_len ws (plStep [] w)
 have h2 : plStep [] w = [w] := by simp [plStep, h]
 rw [h2] at h1
 show 1 ≤ ((w :: ws).foldl plStep []).length
 rw [List.foldl_cons, h2]
 exact h1
theorem plGo_no {w : ByteArray} {ws : List ByteArray} (h : hashP w = false) : ∀ j (hj : j < (w :: ws).length), hashP (w :: ws)[j] = true → semiB (w :: ws)[j] = true → 1 ≤ (plGo ((w :: ws).take j)).length := by
 intro j hj h1 _
 cases j with
 | zero => rw [List.getElem_cons_zero, h] at h1; cases h1
 | succ j => rw [List.take_succ_cons]; exact plGo_pos h
theorem fieldsGo_le : ∀ (l cur : List UInt8), (∀ w ∈ Lib.fieldsGo cur l, w.length ≤ cur.length + l.length) ∧ (Lib.fieldsGo cur l).length ≤ 1 + l.length
 | [], cur => by
  unfold Lib.fieldsGo
  split
  ·exact ⟨fun w hw => (List.not_mem_nil hw).elim, Nat.zero_le _⟩
  ·exact ⟨fun w hw => by rw [List.mem_singleton.1 hw]; exact Nat.le_add_right _ _, Nat.le_refl _⟩
 | b :: l, cur => by
  unfold Lib.fieldsGo
  split
  ·have ih := fieldsGo_le l []
   simp only [List.length_nil, Nat.zero_add] at ih
   split
   ·exact ⟨fun w hw => by have := ih.1 w hw; simp only [List.length_cons]; omega, by have := ih.2; simp only [List.length_cons]; omega⟩
   ·refine ⟨fun w hw => ?_, by have := ih.2; simp only [List.length_cons]; omega⟩
    rcases List.mem_cons.1 hw with rfl | hw
    ·exact Nat.le_add_right _ _
    ·have := ih.1 w hw; simp only [List.length_cons]; omega
  ·have ih := fieldsGo_le l (cur ++ [b])
   simp only [List.length_append, List.length_singleton] at ih
   exact ⟨fun w hw => by have := ih.1 w hw; simp only [List.length_cons]; omega, by have := ih.2; simp only [List.length_cons]; omega⟩
theorem fields_le (l : List UInt8) : (∀ w ∈ Lib.fields l, w.length ≤ l.length) ∧ (Lib.fields l).length ≤ 1 + l.length := by
 have := fieldsGo_le l []
 simpa [Lib.fields] using this
def Ascii (l : List UInt8) : Prop := ∀ b ∈ l, b.toNat < 128
theorem ascii_app {a b : List UInt8} (h : Ascii a) (k : Ascii b) : Ascii (a ++ b) := fun x hx => (List.mem_append.1 hx).elim (h x) (k x)
theorem ascii_few {l : List UInt8} (h : l.all (fun b => decide (b.toNat < 128)) = true) : Ascii l := fun b hb => of_decide_eq_true (List.all_eq_true.1 h b hb)
theorem ascii_lower {w : List UInt8} (h : w.all lower = true) : Ascii w := fun b hb => by
 have h1 := List.all_eq_true.1 h b hb
 unfold lower at h1
 have := of_decide_eq_true h1
 omega
theorem ascii_digits {w : List UInt8} (h : ∀ x ∈ w, digits.contains x = true) : Ascii w := fun b hb => by
 have h1 := h b hb
 simp only [digits, List.contains_eq_mem, List.mem_cons, List.not_mem_nil, or_false, decide_eq_true_eq] at h1
 rcases h1 with rfl | rfl | rfl | rfl | rfl | rfl | rfl | rfl | rfl | rfl <;> decide
theorem ascii_ind {ind : List UInt8} (h : ∀ c ∈ ind, c = 32) : Ascii ind := fun b hb => by rw [h b hb]; decide
mutual
theorem ascii_textN : ∀ (n : Nd) (ind : List UInt8), n.All Right → (∀ c ∈ ind, c = 32) → Ascii (textN n ind)
 | .mk i nm r k s, ind, hA, hind => by
  have hp := pieces_of hA.1
  have hi := ascii_ind hind
  have hind2 : ∀ c ∈ ind ++ [32, 32], c = (32 : UInt8) := fun c hc => by
   rcases List.mem_append.1 hc with h | h
   ·exact hind c h
   ·simpa using h
  have h1 := ascii_lower hp.rep.1
  have h2 := ascii_lower hp.kind.1
  have h3 := ascii_lower hp.name.1
  have h4 := ascii_digits hp.num
  have c1 : Ascii [32] := fun b hb => by rw [List.mem_singleton.1 hb]; decide
  have c2 : Ascii [32, 35] := ascii_few rfl
  have hh : Ascii (headS i nm r k ind) := ascii_app (ascii_app (ascii_app (ascii_app (ascii_app (ascii_app (ascii_app hi h1) c1) h2) c1) h3) c2) h4
  simp only [textN]
  refine ascii_app hh ?_
  split
  ·exact ascii_app (ascii_app (ascii_few rfl) (ascii_textL s _ hA.2 hind2)) (ascii_app hi (ascii_few rfl))
  ·exact ascii_few rfl
theorem ascii_textL : ∀ (l : List Nd) (ind : List UInt8), Nd.Alls Right l → (∀ c ∈ ind, c = 32) → Ascii (textL l ind)
 | [], ind, hA, hind => fun b hb => (List.not_mem_nil hb).elim
 | n :: ns, ind, hA, hind => by
  simp only [textL]
  exact ascii_app (ascii_textN n ind hA.1 hind) (ascii_textL ns ind hA.2 hind)
end
theorem text_short {nd : Nd} (hS : Schema nd) : (textL nd.sub []).length ≤ 3400 := by
 have h1 := hS.high
 have h2 := hS.small
 have h3 := texts_len nd.sub [] 12 hS.right (by
  obtain ⟨i, nm, r, k, s⟩ := nd
  simp only [Nd.high, Nd.sub, List.length_nil] at h1 ⊢
  omega)
 obtain ⟨i, nm, r, k, s⟩ := nd
 simp only [Nd.weigh, Nd.sub] at h2 h3 ⊢
 have h4 : Nd.weighs s * (2 * 12 + 60) ≤ 39 * (2 * 12 + 60) := Nat.mul_le_mul_right _ (by omega)
 omega
theorem read_valid {s : ByteArray} {nd : Nd} (h : readF s = .ok nd) : validF nd = none := by
 unfold readF at h
 split at h
 ·cases h
 ·split at h
  ·cases h
  ·split at h
   ·split at h
    ·rename_i hv
     cases h
     exact hv
    ·cases h
   ·cases h
theorem skip_le (l : List UInt8) : (skipW l).length ≤ l.length := (List.dropWhile_sublist _).length_le
theorem read_ok {s : ByteArray} {n : Nd} (h : readF s = .ok n) : n.ok := by
 have hs : (skipW s.data.toList).length ≤ s.size := by have := skip_le s.data.toList; rwa [length_data] at this
 unfold readF at h
 split at h
 ·cases h
 ·split at h
  ·cases h
  ·rename_i h8 _ l q1 hp
   split at h
   ·split at h
    ·cases h
     obtain ⟨hoks, hll⟩ := parse_ok _ _ _ _ _ (Nat.le_refl _) (by omega) hp
     exact ⟨⟨by decide, by decide⟩, by decide, ⟨by decide, by decide⟩, ⟨by decide, by decide⟩, by unfold reach; omega, hoks⟩
    ·cases h
   ·cases h
theorem plain_ready {t : Nd} {l : List Nd} (hA : Nd.Alls Right (t :: l)) : ∃ w ws, (idWordsNs (t :: l)).map mkB = w :: ws ∧ hashP w = false := by
 obtain ⟨i, nm, r, k, s⟩ := t
 have hp := pieces_of hA.1.1
 have h1 := hash_lower hp.rep.1
 simp only [idWordsNs, idWordsN]
 split
 ·exact ⟨_, _, by simp only [List.cons_append, List.map_cons]; rfl, h1⟩
 ·exact ⟨_, _, by simp only [List.cons_append, List.map_cons]; rfl, h1⟩
theorem plain_facts {l : List Nd} (h0 : l ≠ []) (hA : Nd.Alls Right l) (hlen : (textL l []).length ≤ 3400) :
  ((Lib.fields (mkB (textL l [])).data.toList).map (fun w => (⟨w.toArray⟩ : ByteArray)) = (idWordsNs l).map mkB) ∧ ((idWordsNs l).map mkB).length ≤ 10000 ∧ (∀ x ∈ (idWordsNs l).map mkB, x.size ≤ 80000) ∧
  (∀ j (h : j < ((idWordsNs l).map mkB).length), hashP ((idWordsNs l).map mkB)[j] = true → semiB ((idWordsNs l).map mkB)[j] = true → 1 ≤ (plGo (((idWordsNs l).map mkB).take j)).length) ∧ 1 ≤ (plGo ((idWordsNs l).map mkB)).length ∧
  (⟨(joinW (plGo ((idWordsNs l).map mkB))).toArray⟩ : ByteArray) = mkB (joinL (wordsNs l)) := by
 have hf := fields_text_all hA
 have hle := fields_le (textL l [])
 rw [hf] at hle
 obtain ⟨t, ts, rfl⟩ : ∃ t ts, l = t :: ts := by
  cases l with
  | nil => exact absurd rfl h0
  | cons t ts => exact ⟨t, ts, rfl⟩
 obtain ⟨w, ws, hw, hh⟩ := plain_ready hA
 refine ⟨?_, ?_, ?_, ?_, ?_, ?_⟩
 ·rw [mkB_data, hf]; rfl
 ·rw [List.length_map]; omega
 ·intro x hx
  obtain ⟨y, hy, rfl⟩ := List.mem_map.1 hx
  have := hle.1 y hy
  show y.length ≤ _
  omega
 ·rw [hw]; exact plGo_no hh
 ·rw [hw]; exact plGo_pos hh
 ·rw [plGo_words hA, joinW_mk]; rfl
end Go.Proofs.YtnmhkafpgohefaaGreatDoor
