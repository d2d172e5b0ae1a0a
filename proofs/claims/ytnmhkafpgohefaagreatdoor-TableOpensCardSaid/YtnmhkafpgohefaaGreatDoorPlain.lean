/-
  The plain law: the text of a right schema is read as it.
-/
import Derived.Test.YtnmhkafpgohefaaGreatDoorRead
set_option linter.unusedVariables false
set_option linter.unusedSimpArgs false
namespace Go.Proofs.YtnmhkafpgohefaaGreatDoor
open Go.RowKit
def Right (n : Nd) : Prop := 1 ≤ n.rep ∧ n.rep ≤ 3 ∧ 0 ≤ n.kind ∧ n.kind ≤ 5 ∧ (n.kind ≠ 0 → n.sub = []) ∧ (n.kind = 0 → n.sub ≠ []) ∧ isNameB n.name = true ∧ 1 ≤ n.id ∧ n.id ≤ 1000
mutual
def Nd.All (P : Nd → Prop) : Nd → Prop
 | .mk i n r k s => P (.mk i n r k s) ∧ Nd.Alls P s
def Nd.Alls (P : Nd → Prop) : List Nd → Prop
 | [] => True
 | n :: ns => n.All P ∧ Nd.Alls P ns
end
mutual
theorem walk_all {σ : Type} {f : Nd → Int → σ → Bool × σ} {P : Nd → Prop} (hP : ∀ n d s, 1 ≤ d → (f n d s).1 = true → P n) : ∀ (n : Nd) (d : Int) (s : σ), 1 ≤ d → (walkF f n d s).1 = true → n.All P
 | .mk i nm r k sb, d, s, hd, h => by
  have h1 := hP (.mk i nm r k sb) d s hd
  simp only [walkF] at h
  rcases hf : f (.mk i nm r k sb) d s with ⟨b, s'⟩
  rw [hf] at h h1
  cases b
  ·cases h
  ·exact ⟨h1 rfl, walk_alls hP sb (d + 1) s' (by omega) h⟩
theorem walk_alls {σ : Type} {f : Nd → Int → σ → Bool × σ} {P : Nd → Prop} (hP : ∀ n d s, 1 ≤ d → (f n d s).1 = true → P n) : ∀ (l : List Nd) (d : Int) (s : σ), 1 ≤ d → (walkFs f l d s).1 = true → Nd.Alls P l
 | [], d, s, hd, h => trivial
 | n :: ns, d, s, hd, h => by
  simp only [walkFs] at h
  rcases hf : walkF f n d s with ⟨b, s'⟩
  rw [hf] at h
  cases b
  ·cases h
  ·exact ⟨walk_all hP n d s hd (by rw [hf]), walk_alls hP ns d s' hd h⟩
end
theorem walk_root {σ : Type} {f : Nd → Int → σ → Bool × σ} {P : Nd → Prop} (hP : ∀ n d s, 1 ≤ d → (f n d s).1 = true → P n) (n : Nd) (s : σ) (h : (walkF f n 0 s).1 = true) : Nd.Alls P n.sub ∧ (f n 0 s).1 = true := by
 obtain ⟨i, nm, r, k, sb⟩ := n
 simp only [walkF] at h
 rcases hf : f (.mk i nm r k sb) 0 s with ⟨b, s'⟩
 rw [hf] at h
 cases b
 ·cases h
 ·exact ⟨walk_alls hP sb 1 s' (by omega) h, rfl⟩
mutual
theorem Nd.All.and {P Q : Nd → Prop} : ∀ (n : Nd), n.All P → n.All Q → n.All (fun n => P n ∧ Q n)
 | .mk i n r k s, h, g => ⟨⟨h.1, g.1⟩, Nd.Alls.and s h.2 g.2⟩
theorem Nd.Alls.and {P Q : Nd → Prop} : ∀ (l : List Nd), Nd.Alls P l → Nd.Alls Q l → Nd.Alls (fun n => P n ∧ Q n) l
 | [], h, g => trivial
 | n :: ns, h, g => ⟨Nd.All.and n h.1 g.1, Nd.Alls.and ns h.2 g.2⟩
end
mutual
theorem Nd.All.imp {P Q : Nd → Prop} (hi : ∀ n, P n → Q n) : ∀ (n : Nd), n.All P → n.All Q
 | .mk i n r k s, h => ⟨hi _ h.1, Nd.Alls.imp hi s h.2⟩
theorem Nd.Alls.imp {P Q : Nd → Prop} (hi : ∀ n, P n → Q n) : ∀ (l : List Nd), Nd.Alls P l → Nd.Alls Q l
 | [], h => trivial
 | n :: ns, h => ⟨Nd.All.imp hi n h.1, Nd.Alls.imp hi ns h.2⟩
end
mutual
theorem names_all : ∀ (n : Nd), n.All (fun x => namesB x.sub = true) → Nd.Alls (fun x => isNameB x.name = true) n.sub
 | .mk i n r k s, h => names_alls s h.2 (by
  have h1 : namesB s = true := h.1
  unfold namesB at h1
  rw [Bool.and_eq_true] at h1
  exact fun x hx => List.all_eq_true.1 h1.1 x hx)
theorem names_alls : ∀ (l : List Nd), Nd.Alls (fun x => namesB x.sub = true) l → (∀ x ∈ l, isNameB x.name = true) → Nd.Alls (fun x => isNameB x.name = true) l
 | [], h, g => trivial
 | .mk i n r k s :: ns, h, g => ⟨⟨g _ (List.mem_cons_self ..), names_all (.mk i n r k s) h.1⟩, names_alls ns h.2 (fun x hx => g x (List.mem_cons_of_mem _ hx))⟩
end
structure Schema (nd : Nd) : Prop where
 root : nd = .mk 0 rootName 1 0 nd.sub
 right : Nd.Alls Right nd.sub
 high : nd.high ≤ 6
 small : nd.weigh ≤ 40
mutual
theorem v1_count : ∀ (n : Nd) (d s : Int), (walkF v1F n d s).1 = true → (walkF v1F n d s).2 = s + n.weigh ∧ s + n.weigh ≤ 40
 | .mk i nm r k sb, d, s, h => by
  simp only [walkF] at h ⊢
  rcases hf : v1F (.mk i nm r k sb) d s with ⟨b, s'⟩
  rw [hf] at h
  cases b
  ·cases h
  ·simp only [v1F, Prod.mk.injEq, Bool.and_eq_true, decide_eq_true_eq] at hf
   have h1 := v1_counts sb (d + 1) s' h
   simp only [Nd.weigh]
   refine ⟨by rw [h1.1]; omega, ?_⟩
   rcases h1.2 with h2 | h2
   ·omega
   ·subst h2; simp only [Nd.weighs]; omega
theorem v1_counts : ∀ (l : List Nd) (d s : Int), (walkFs v1F l d s).1 = true → (walkFs v1F l d s).2 = s + Nd.weighs l ∧ (s + Nd.weighs l ≤ 40 ∨ l = [])
 | [], d, s, h => ⟨by simp [walkFs, Nd.weighs], .inr rfl⟩
 | n :: ns, d, s, h => by
  simp only [walkFs] at h ⊢
  rcases hf : walkF v1F n d s with ⟨b, s'⟩
  rw [hf] at h
  cases b
  ·cases h
  ·have h0 := v1_count n d s (by rw [hf])
   rw [hf] at h0
   have h1 := v1_counts ns d s' h
   simp only [Nd.weighs]
   have e0 : s' = s + n.weigh := h0.1
   refine ⟨by rw [h1.1]; omega, .inl ?_⟩
   rcases h1.2 with h2 | h2
   ·omega
   ·subst h2; simp only [Nd.weighs]; omega
end
theorem schema_of_valid {nd : Nd} (h : validF nd = none) : Schema nd := by
 unfold validF at h
 split at h
 ·cases h
 rename_i h1
 split at h
 ·cases h
 rename_i h2
 split at h
 ·cases h
 rename_i h3
 split at h
 ·cases h
 rename_i h4
 split at h
 ·cases h
 rename_i h5
 rw [Bool.not_eq_false] at h1 h2 h3 h4 h5
 have hh := v1_high nd 1 0 h1
 have hc := v1_count nd 1 0 h1
 have a3 := (walk_root (P := fun n => (v3F n ()).1 = true) (fun n d s hd hf => by simp only [allF, if_neg (show ¬ d = 0 by omega)] at hf; exact hf) nd () h3).1
 have a4 := walk_root (P := fun n => namesB n.sub = true) (fun n d s hd hf => hf) nd () h4
 have a5 := (walk_root (P := fun n => 1 ≤ n.id ∧ n.id ≤ 1000) (fun n d s hd hf => by
  simp only [allF, if_neg (show ¬ d = 0 by omega), v5F, Bool.and_eq_true, decide_eq_true_eq] at hf
  exact hf.1) nd [] h5).1
 obtain ⟨i, nm, r, k, sb⟩ := nd
 have a6 := names_all (.mk i nm r k sb) ⟨a4.2, a4.1⟩
 refine ⟨?_, ?_, by omega, by omega⟩
 ·unfold rootB at h2
  rw [Bool.and_eq_true, Bool.and_eq_true, Bool.and_eq_true, Bool.and_eq_true] at h2
  obtain ⟨⟨⟨⟨e1, e2⟩, e3⟩, e4⟩, _⟩ := h2
  have q1 : i = 0 := of_decide_eq_true e1
  have q2 : nm = rootName := of_decide_eq_true e2
  have q3 : r = 1 := of_decide_eq_true e3
  have q4 : k = 0 := of_decide_eq_true e4
  show Nd.mk i nm r k sb = Nd.mk 0 rootName 1 0 sb
  rw [q1, q2, q3, q4]
 ·refine Nd.Alls.imp ?_ _ (Nd.Alls.and _ a3 (Nd.Alls.and _ a6 a5))
  rintro n ⟨h1, h2, h3, h4⟩
  simp only [v3F, Bool.and_eq_true, decide_eq_true_eq, beq_iff_eq] at h1
  obtain ⟨⟨⟨⟨b1, b2⟩, b3⟩, b4⟩, b5⟩ := h1
  refine ⟨b1, b2, b3, b4, fun hk => ?_, fun hk => ?_, h2, h3, h4⟩
  ·simp only [hk, decide_false, Bool.not_false] at b5
   exact List.isEmpty_iff.1 b5.symm
  ·simp only [hk, decide_true, Bool.not_true] at b5
   intro e
   rw [e] at b5
   cases b5
theorem skip_ws {c : UInt8} (h : c = 32 ∨ c = 10) (l : List UInt8) : skipW (c :: l) = skipW l := by
 unfold skipW
 rw [List.dropWhile_cons, if_pos (by rcases h with rfl | rfl <;> rfl)]
theorem skip_at {c : UInt8} (h : c ≠ 32 ∧ c ≠ 10) (l : List UInt8) : skipW (c :: l) = c :: l := by
 unfold skipW
 rw [List.dropWhile_cons, if_neg]
 simp [h.1, h.2]
theorem skip_ind : ∀ (ind : List UInt8) (l : List UInt8), (∀ c ∈ ind, c = 32) → skipW (ind ++ l) = skipW l
 | [], l, h => rfl
 | c :: cs, l, h => by
  rw [List.cons_append, skip_ws (.inl (h c (List.mem_cons_self ..))), skip_ind cs l (fun x hx => h x (List.mem_cons_of_mem _ hx))]
def Soft (l : List UInt8) : Prop := ∀ c, l.head? = some c → lower c = false ∧ digits.contains c = false
theorem take_soft {p : UInt8 → Bool} {l : List UInt8} (h : ∀ c, l.head? = some c → p c = false) : l.takeWhile p = [] := by
 cases l with
 | nil => rfl
 | cons c r => rw [List.takeWhile_cons, h c rfl]; rfl
theorem lower_ne {c : UInt8} (h : lower c = true) : c.toNat ≠ 35 ∧ c ≠ 32 ∧ c ≠ 10 := by
 unfold lower at h
 have := of_decide_eq_true h
 refine ⟨by omega, ?_, ?_⟩
 ·rintro rfl; exact absurd this (by decide)
 ·rintro rfl; exact absurd this (by decide)
theorem nxt_of {w rest : List UInt8} (h : tok (w ++ rest) = w) : nxt (w ++ rest) = skipW rest := by
 unfold nxt
 rw [h, List.drop_left]
theorem tok_letters {c : UInt8} {cs rest : List UInt8} (h : ∀ x ∈ c :: cs, lower x = true) (hs : Soft rest) : tok ((c :: cs) ++ rest) = c :: cs := by
 have hc := h c (List.mem_cons_self ..)
 have h1 : ((c :: cs) ++ rest).takeWhile lower = c :: cs := by
  rw [List.takeWhile_append_of_pos h, take_soft (fun x hx => (hs x hx).1), List.append_nil]
 rw [List.cons_append] at h1 ⊢
 simp only [tok, if_neg (lower_ne hc).1, if_pos hc]
 exact h1
theorem tok_number {ds rest : List UInt8} (h : ∀ x ∈ ds, digits.contains x = true) (hs : Soft rest) : tok ((35 :: ds) ++ rest) = 35 :: ds := by
 have h1 : (ds ++ rest).takeWhile (digits.contains ·) = ds := by
  rw [List.takeWhile_append_of_pos h, take_soft (fun x hx => (hs x hx).2), List.append_nil]
 rw [List.cons_append]
 simp only [tok, if_pos (show (35 : UInt8).toNat = 35 from rfl)]
 rw [h1]
def dig4 (u : Nat) : List UInt8 :=
 if u < 10 then [UInt8.ofNat (48 + u)] else if u < 100 then [UInt8.ofNat (48 + u / 10), UInt8.ofNat (48 + u % 10)]
 else if u < 1000 then [UInt8.ofNat (48 + u / 10 / 10), UInt8.ofNat (48 + u / 10 % 10), UInt8.ofNat (48 + u % 10)]
 else [UInt8.ofNat (48 + u / 10 / 10 / 10), UInt8.ofNat (48 + u / 10 / 10 % 10), UInt8.ofNat (48 + u / 10 % 10), UInt8.ofNat (48 + u % 10)]
theorem dec_four (u : Nat) (h : u ≤ 1000) : Lib.decDigits u = dig4 u := by
 unfold dig4
 split
 ·exact Lib.decDigits_one (by assumption)
 split
 ·exact Lib.decDigits_two (by assumption) (by assumption)
 split
 ·rw [Lib.decDigits, dif_neg (by assumption), Lib.decDigits_two (by omega) (by omega)]; rfl
 ·rw [Lib.decDigits, dif_neg (by assumption), Lib.decDigits, dif_neg (by omega), Lib.decDigits_two (by omega) (by omega)]; rfl
theorem num_fin : ∀ p : Fin 1001, p.val = 0 ∨ (wordId (35 :: dig4 p.val) = some (p.val : Int) ∧ (dig4 p.val).all (digits.contains ·) = true) := by decide +kernel
theorem num_all {i : Int} (h1 : 1 ≤ i) (h2 : i ≤ 1000) : wordId (35 :: Lib.itoa i) = some i ∧ (∀ x ∈ Lib.itoa i, digits.contains x = true) ∧ (Lib.itoa i).length ≤ 4 := by
 obtain ⟨u, rfl⟩ := Int.eq_ofNat_of_zero_le (show 0 ≤ i by omega)
 have hu : Lib.itoa (u : Int) = dig4 u := by
  unfold Lib.itoa
  rw [if_neg (by omega), Int.toNat_natCast, dec_four u (by omega)]
 have := num_fin ⟨u, by omega⟩
 rw [hu]
 rcases this with h | ⟨h3, h4⟩
 ·simp only at h; omega
 ·refine ⟨h3, fun x hx => List.all_eq_true.1 h4 x hx, ?_⟩
  unfold dig4
  split
  ·simp
  ·split
   ·simp
   ·split <;> simp
theorem rep_fin : ∀ p : Fin 4, p.val = 0 ∨ (idxT repT (repS (p.val : Int)) = (p.val : Int) ∧ (repS (p.val : Int)).all lower = true ∧ (repS (p.val : Int)).isEmpty = false) := by decide +kernel
theorem kind_fin : ∀ p : Fin 6, idxT kindT (kindS (p.val : Int)) = (p.val : Int) ∧ (kindS (p.val : Int)).all lower = true ∧ (kindS (p.val : Int)).isEmpty = false := by decide +kernel
end Go.Proofs.YtnmhkafpgohefaaGreatDoor
