/-
  A tree of nodes that is written in place: each list of nodes lies in a row of its own; the blocks are listed, none stands twice. What becomes of the tree when one of its nodes is written.; Numbers of 7 bits a byte, and texts behind their length: the plain reading. No condition; nothing of one program stands here.; Numbers of 7 bits a byte are read: wire.ReadUvarint, ReadText; shredcolref1.ReadSeve
-/
import Derived.Test.YtkchmgjmecojcaaGreatDoorWalk
import Derived.Lib.Varint
import Derived.Test.YtkchmgjmecojcaaGreatDoorOwnIn
import Derived.Lib.VarintBits
import Derived.Deep.QuietTactic
import Derived.BigQuiet
import Derived.Lib.VarintMem
set_option linter.unusedVariables false
set_option maxHeartbeats 20000000
set_option maxRecDepth 100000
set_option linter.unusedSimpArgs false
namespace Go.Proofs.YtkchmgjmecojcaaGreatDoor
open Go.RowKit
mutual
def TrN (w : World) (B : Nat) : Nd → List Value → List Nat → Prop
 | .mk i n r k s, cs, F => ∃ v, cs = ndCells i n r k v ∧ ((s = [] ∧ v = .slice none 0 0 ∧ F = []) ∨
   ∃ b cap cur F', v = .slice (some ⟨b, 0, none⟩) s.length cap ∧ s.length ≤ cap ∧ cap ≤ maxLen ∧ B ≤ b ∧ Blk w b cur 33 ∧ cur.length = cap * 5 ∧ TrC w B s cur F' ∧ F = b :: F')
def TrC (w : World) (B : Nat) : List Nd → List Value → List Nat → Prop
 | [], _, F => F = []
 | n :: ns, xs, F => ∃ c r F1 F2, xs = c ++ r ∧ TrN w B n c F1 ∧ TrC w B ns r F2 ∧ F = F1 ++ F2
end
def TrL (w : World) (B : Nat) (s : List Nd) (v : Value) (F : List Nat) : Prop :=
 (s = [] ∧ v = .slice none 0 0 ∧ F = []) ∨
  ∃ b cap cur F', v = .slice (some ⟨b, 0, none⟩) s.length cap ∧ s.length ≤ cap ∧ cap ≤ maxLen ∧ B ≤ b ∧ Blk w b cur 33 ∧ cur.length = cap * 5 ∧ TrC w B s cur F' ∧ F = b :: F'
theorem trN {w : World} {B : Nat} {i : Int} {n : ByteArray} {r k : Int} {s : List Nd} {cs : List Value} {F : List Nat} :
  TrN w B (.mk i n r k s) cs F ↔ ∃ v, cs = ndCells i n r k v ∧ TrL w B s v F := by
 simp only [TrN, TrL]
theorem trC_cons {w : World} {B : Nat} {n : Nd} {ns : List Nd} {xs : List Value} {F : List Nat} :
  TrC w B (n :: ns) xs F ↔ ∃ c r F1 F2, xs = c ++ r ∧ TrN w B n c F1 ∧ TrC w B ns r F2 ∧ F = F1 ++ F2 := by
 simp only [TrC]
theorem trC_nil {w : World} {B : Nat} {xs : List Value} {F : List Nat} : TrC w B [] xs F ↔ F = [] := by
 simp only [TrC]
mutual
theorem TrN.keep {w w' : World} {B : Nat} : ∀ (n : Nd) (cs : List Value) (F : List Nat), TrN w B n cs F → (∀ k ∈ F, w'.heap[k]? = w.heap[k]?) → TrN w' B n cs F
 | .mk i nm r k s, cs, F, h, hk => by
  obtain ⟨v, h1, h2⟩ := trN.1 h
  refine trN.2 ⟨v, h1, ?_⟩
  rcases h2 with h2 | ⟨b, cap, cur, F', e1, e2, e3, e4, e5, e6, e7, rfl⟩
  ·exact .inl h2
  ·exact .inr ⟨b, cap, cur, F', e1, e2, e3, e4, (hk b (List.mem_cons_self ..)).trans e5, e6, TrC.keep s cur F' e7 (fun k hk' => hk k (List.mem_cons_of_mem _ hk')), rfl⟩
theorem TrC.keep {w w' : World} {B : Nat} : ∀ (s : List Nd) (xs : List Value) (F : List Nat), TrC w B s xs F → (∀ k ∈ F, w'.heap[k]? = w.heap[k]?) → TrC w' B s xs F
 | [], xs, F, h, _ => trC_nil.2 (trC_nil.1 h)
 | n :: ns, xs, F, h, hk => by
  obtain ⟨c, r, F1, F2, h1, h2, h3, rfl⟩ := trC_cons.1 h
  exact trC_cons.2 ⟨c, r, F1, F2, h1, TrN.keep n c F1 h2 (fun k x => hk k (List.mem_append_left _ x)), TrC.keep ns r F2 h3 (fun k x => hk k (List.mem_append_right _ x)), rfl⟩
end
theorem TrL.keep {w w' : World} {B : Nat} {s : List Nd} {v : Value} {F : List Nat} (h : TrL w B s v F) (hk : ∀ k ∈ F, w'.heap[k]? = w.heap[k]?) : TrL w' B s v F := by
 rcases h with h | ⟨b, cap, cur, F', e1, e2, e3, e4, e5, e6, e7, rfl⟩
 ·exact .inl h
 ·exact .inr ⟨b, cap, cur, F', e1, e2, e3, e4, (hk b (List.mem_cons_self ..)).trans e5, e6, TrC.keep s cur F' e7 (fun k hk' => hk k (List.mem_cons_of_mem _ hk')), rfl⟩
mutual
theorem TrN.lt {w : World} {B : Nat} : ∀ (n : Nd) (cs : List Value) (F : List Nat), TrN w B n cs F → ∀ k ∈ F, B ≤ k ∧ k < w.heap.size
 | .mk i nm r k s, cs, F, h => by
  obtain ⟨v, h1, h2⟩ := trN.1 h
  rcases h2 with ⟨_, _, rfl⟩ | ⟨b, cap, cur, F', e1, e2, e3, e4, e5, e6, e7, rfl⟩
  ·exact fun k hk => (List.not_mem_nil hk).elim
  ·intro k hk
   rcases List.mem_cons.1 hk with rfl | hk
   ·exact ⟨e4, e5.lt⟩
   ·exact TrC.lt s cur F' e7 k hk
theorem TrC.lt {w : World} {B : Nat} : ∀ (s : List Nd) (xs : List Value) (F : List Nat), TrC w B s xs F → ∀ k ∈ F, B ≤ k ∧ k < w.heap.size
 | [], xs, F, h => by
  obtain rfl := trC_nil.1 h
  exact fun k hk => (List.not_mem_nil hk).elim
 | n :: ns, xs, F, h => by
  obtain ⟨c, r, F1, F2, h1, h2, h3, rfl⟩ := trC_cons.1 h
  intro k hk
  rcases List.mem_append.1 hk with hk | hk
  ·exact TrN.lt n c F1 h2 k hk
  ·exact TrC.lt ns r F2 h3 k hk
end
theorem TrL.lt {w : World} {B : Nat} {s : List Nd} {v : Value} {F : List Nat} (h : TrL w B s v F) : ∀ k ∈ F, B ≤ k ∧ k < w.heap.size :=
 TrN.lt (.mk 0 ⟨#[]⟩ 0 0 s) _ F (trN.2 ⟨v, rfl, h⟩)
theorem TrN.five {w : World} {B : Nat} {n : Nd} {cs : List Value} {F : List Nat} (h : TrN w B n cs F) : cs.length = 5 := by
 cases n
 obtain ⟨v, rfl, _⟩ := trN.1 h
 rfl
mutual
theorem TrN.mono {w : World} {B B' : Nat} (hB : B' ≤ B) : ∀ (n : Nd) (cs : List Value) (F : List Nat), TrN w B n cs F → TrN w B' n cs F
 | .mk i nm r k s, cs, F, h => by
  obtain ⟨v, h1, h2⟩ := trN.1 h
  refine trN.2 ⟨v, h1, ?_⟩
  rcases h2 with h2 | ⟨b, cap, cur, F', e1, e2, e3, e4, e5, e6, e7, rfl⟩
  ·exact .inl h2
  ·exact .inr ⟨b, cap, cur, F', e1, e2, e3, Nat.le_trans hB e4, e5, e6, TrC.mono hB s cur F' e7, rfl⟩
theorem TrC.mono {w : World} {B B' : Nat} (hB : B' ≤ B) : ∀ (s : List Nd) (xs : List Value) (F : List Nat), TrC w B s xs F → TrC w B' s xs F
 | [], xs, F, h => trC_nil.2 (trC_nil.1 h)
 | n :: ns, xs, F, h => by
  obtain ⟨c, r, F1, F2, h1, h2, h3, rfl⟩ := trC_cons.1 h
  exact trC_cons.2 ⟨c, r, F1, F2, h1, TrN.mono hB n c F1 h2, TrC.mono hB ns r F2 h3, rfl⟩
end
theorem TrL.mono {w : World} {B B' : Nat} {s : List Nd} {v : Value} {F : List Nat} (h : TrL w B s v F) (hB : B' ≤ B) : TrL w B' s v F := by
 obtain ⟨v', h1, h2⟩ := trN.1 (TrN.mono hB (.mk 0 ⟨#[]⟩ 0 0 s) _ F (trN.2 ⟨v, rfl, h⟩))
 have h3 : v = v' := by simpa [ndCells] using h1
 exact h3 ▸ h2
mutual
theorem TrN.reads {w : World} {B : Nat} {S : Nat → Prop} : ∀ (n : Nd) (cs : List Value) (F : List Nat), TrN w B n cs F → (∀ k ∈ F, S k) → Reads w S n.dt cs
 | .mk i nm r k s, cs, F, h, hS => by
  obtain ⟨v, h1, h2⟩ := trN.1 h
  refine reads_nd.2 ⟨v, h1, ?_⟩
  rcases h2 with ⟨rfl, rfl, _⟩ | ⟨b, cap, cur, F', rfl, e2, e3, e4, e5, e6, e7, rfl⟩
  ·exact ⟨none, 0, rfl, Nat.le_refl _, Nat.zero_le _, .inl ⟨rfl, fun _ => rfl⟩⟩
  ·have hl : (Nd.dts s).length = s.length := by rw [Nd.dts_eq, List.length_map]
   refine ⟨some ⟨b, 0, none⟩, cap, by rw [hl], by rw [hl]; exact e2, e3, .inr ⟨b, 0, rfl, hS b (List.mem_cons_self ..), e5.lt, ?_⟩⟩
   exact TrC.readsE s cur F' e7 (fun k hk => hS k (List.mem_cons_of_mem _ hk)) b 0 (fun j c hj => by rw [Nat.zero_add, e5.cell j]; exact hj)
theorem TrC.readsE {w : World} {B : Nat} {S : Nat → Prop} : ∀ (s : List Nd) (xs : List Value) (F : List Nat), TrC w B s xs F → (∀ k ∈ F, S k) → ∀ (b off : Nat), (∀ j c, xs[j]? = some c → w.cell? ⟨b, off + j, none⟩ = some c) → ReadsE w S 5 b off (Nd.dts s)
 | [], xs, F, h, _, _, _, _ => True.intro
 | n :: ns, xs, F, h, hS, b, off, hc => by
  obtain ⟨c, r, F1, F2, rfl, h2, h3, rfl⟩ := trC_cons.1 h
  have h5 := h2.five
  refine ⟨⟨c, h5, fun j x hj => hc j x ?_, TrN.reads n c F1 h2 (fun k x => hS k (List.mem_append_left _ x))⟩, TrC.readsE ns r F2 h3 (fun k x => hS k (List.mem_append_right _ x)) b (off + 5) (fun j x hj => ?_)⟩
  ·rw [List.getElem?_append_left (List.getElem?_eq_some_iff.1 hj).1]; exact hj
  ·have := hc (5 + j) x (by rw [List.getElem?_append_right (by omega), h5]; simpa using hj)
   rw [← Nat.add_assoc] at this
   exact this
end
theorem TrL.reads {w : World} {B : Nat} {S : Nat → Prop} {s : List Nd} {v : Value} {F : List Nat} (h : TrL w B s v F) (hS : ∀ k ∈ F, S k) : Reads w S (.list 5 (Nd.dts s)) [v] := by
 obtain ⟨v', h1, h2⟩ := reads_nd.1 (TrN.reads (S := S) (.mk 0 ⟨#[]⟩ 0 0 s) _ F (trN.2 ⟨v, rfl, h⟩) hS)
 have h3 : v = v' := by simpa [ndCells] using h1
 exact h3 ▸ h2
theorem TrL.form {w : World} {B : Nat} {s : List Nd} {v : Value} {F : List Nat} (h : TrL w B s v F) : ∃ a c, v = .slice a s.length c ∧ s.length ≤ c ∧ c ≤ maxLen := by
 rcases h with ⟨rfl, rfl, _⟩ | ⟨b, cap, cur, F', rfl, e2, e3, _⟩
 ·exact ⟨none, 0, rfl, Nat.le_refl _, Nat.zero_le _⟩
 ·exact ⟨_, _, rfl, e2, e3⟩
theorem trC_split {w : World} {B : Nat} : ∀ {l1 l2 : List Nd} {xs : List Value} {F : List Nat}, TrC w B (l1 ++ l2) xs F ↔ ∃ x1 x2 F1 F2, xs = x1 ++ x2 ∧ x1.length = l1.length * 5 ∧ TrC w B l1 x1 F1 ∧ TrC w B l2 x2 F2 ∧ F = F1 ++ F2
 | [], l2, xs, F => by
  constructor
  ·intro h
   exact ⟨[], xs, [], F, rfl, rfl, trC_nil.2 rfl, h, rfl⟩
  ·rintro ⟨x1, x2, F1, F2, rfl, h1, h2, h3, rfl⟩
   obtain rfl := List.eq_nil_of_length_eq_zero h1
   obtain rfl := trC_nil.1 h2
   exact h3
 | n :: l1, l2, xs, F => by
  rw [List.cons_append, trC_cons]
  constructor
  ·rintro ⟨c, r, F1, F2, rfl, h2, h3, rfl⟩
   obtain ⟨x1, x2, G1, G2, rfl, g1, g2, g3, rfl⟩ := trC_split.1 h3
   exact ⟨c ++ x1, x2, F1 ++ G1, G2, by rw [List.append_assoc], by rw [List.length_append, h2.five, g1, List.length_cons]; omega, trC_cons.2 ⟨c, x1, F1, G1, rfl, h2, g2, rfl⟩, g3, by rw [List.append_assoc]⟩
  ·rintro ⟨x1, x2, F1, F2, rfl, h1, h2, h3, rfl⟩
   obtain ⟨c, r, G1, G2, rfl, g1, g2, rfl⟩ := trC_cons.1 h2
   rw [List.length_append, g1.five, List.length_cons] at h1
   exact ⟨c, r ++ x2, G1, G2 ++ F2, by rw [List.append_assoc], g1, trC_split.2 ⟨r, x2, G2, F2, rfl, by omega, g2, h3, rfl⟩, by rw [List.append_assoc]⟩
theorem TrC.junk {w : World} {B : Nat} {l : List Nd} {xs : List Value} {F : List Nat} (h : TrC w B l xs F) : ∃ x1 x2, xs = x1 ++ x2 ∧ x1.length = l.length * 5 ∧ TrC w B l x1 F := by
 obtain ⟨x1, x2, F1, F2, h1, h2, h3, h4, rfl⟩ := trC_split.1 (show TrC w B (l ++ []) xs F by rw [List.append_nil]; exact h)
 obtain rfl := trC_nil.1 h4
 exact ⟨x1, x2, h1, h2, by rw [List.append_nil]; exact h3⟩
theorem TrC.more {w : World} {B : Nat} {l : List Nd} {xs : List Value} {F : List Nat} (h : TrC w B l xs F) (ys : List Value) : TrC w B l (xs ++ ys) F := by
 obtain ⟨x1, x2, rfl, h2, h3⟩ := h.junk
 have := trC_split.2 ⟨x1, x2 ++ ys, F, [], rfl, h2, h3, trC_nil.2 rfl, rfl⟩
 rw [List.append_nil, List.append_nil] at this
 rw [List.append_assoc]
 exact this
theorem blk_eq {w : World} {b : Nat} {cs cs' : List Value} {t t' : TypeId} (h : Blk w b cs t) (h' : Blk w b cs' t') : cs = cs' ∧ t = t' := by
 have h1 := h.symm.trans h'
 simp only [Option.some.injEq, Obj.cells.injEq, and_true] at h1
 exact ⟨by simpa using congrArg Array.toList h1.1, h1.2⟩
mutual
theorem TrN.one {w : World} {B : Nat} : ∀ (n : Nd) (cs : List Value) (F F' : List Nat), TrN w B n cs F → TrN w B n cs F' → F = F'
 | .mk i nm r k s, cs, F, F', h, h' => by
  obtain ⟨v, h1, h2⟩ := trN.1 h
  obtain ⟨v', h1', h2'⟩ := trN.1 h'
  have hv : v = v' := by simpa [ndCells] using h1.symm.trans h1'
  subst hv
  rcases h2 with ⟨_, rfl, rfl⟩ | ⟨b, cap, cur, G, rfl, e2, e3, e4, e5, e6, e7, rfl⟩
  ·rcases h2' with ⟨_, _, rfl⟩ | ⟨b, cap, cur, G, e1, _⟩
   ·rfl
   ·cases e1
  ·rcases h2' with ⟨_, g1, rfl⟩ | ⟨b', cap', cur', G', g1, g2, g3, g4, g5, g6, g7, rfl⟩
   ·cases g1
   ·obtain ⟨ha, -, rfl⟩ := Value.slice.inj g1
    obtain rfl : b = b' := by simpa using ha
    obtain ⟨rfl, _⟩ := blk_eq e5 g5
    rw [TrC.one s cur G G' e7 g7]
theorem TrC.one {w : World} {B : Nat} : ∀ (s : List Nd) (xs : List Value) (F F' : List Nat), TrC w B s xs F → TrC w B s xs F' → F = F'
 | [], xs, F, F', h, h' => (trC_nil.1 h).trans (trC_nil.1 h').symm
 | n :: ns, xs, F, F', h, h' => by
  obtain ⟨c, r, F1, F2, rfl, h2, h3, rfl⟩ := trC_cons.1 h
  obtain ⟨c', r', G1, G2, e, g2, g3, rfl⟩ := trC_cons.1 h'
  obtain ⟨rfl, rfl⟩ := List.append_inj e (h2.five.trans g2.five.symm)
  rw [TrN.one n c F1 G1 h2 g2, TrC.one ns r F2 G2 h3 g3]
end
def sevFrom (i acc : Nat) : List UInt8 → Option (Nat × Nat)
 | [] => none
 | c :: r =>
  if 9 < i then none
  else if i = 9 ∧ 1 < c.toNat then none
  else if c.toNat = 0 ∧ 0 < i then none
  else if c.toNat < 128 then some (acc + c.toNat * 2 ^ (7 * i), i + 1)
  else sevFrom (i + 1) (acc + c.toNat % 128 * 2 ^ (7 * i)) r
def sev (l : List UInt8) : Option (Nat × Nat) := sevFrom 0 0 l
theorem sev_pow (i : Nat) : 2 ^ (7 * (i + 1)) = 128 * 2 ^ (7 * i) := by
 rw [Nat.mul_add, Nat.pow_add, Nat.mul_comm]
theorem sev_over {i acc : Nat} {c : UInt8} {r : List UInt8} (h : i = 9) (h1 : 1 < c.toNat) : sevFrom i acc (c :: r) = none := by
 unfold sevFrom; rw [if_neg (by omega), if_pos ⟨h, h1⟩]
theorem sev_zero {i acc : Nat} {c : UInt8} {r : List UInt8} (h : 0 < i) (h1 : c.toNat = 0) : sevFrom i acc (c :: r) = none := by
 unfold sevFrom
 split
 ·rfl
 ·rw [if_neg (by omega), if_pos ⟨h1, h⟩]
theorem sev_last {i acc : Nat} {c : UInt8} {r : List UInt8} (hi : i ≤ 9) (h9 : i = 9 → c.toNat ≤ 1) (h0 : 0 < i → c.toNat ≠ 0) (hc : c.toNat < 128) : sevFrom i acc (c :: r) = some (acc + c.toNat * 2 ^ (7 * i), i + 1) := by
 unfold sevFrom
 rw [if_neg (by omega), if_neg (fun h => by have := h9 h.1; omega), if_neg (fun h => h0 h.2 h.1), if_pos hc]
theorem sev_more {i acc : Nat} {c : UInt8} {r : List UInt8} (hi : i < 9) (hc : 128 ≤ c.toNat) : sevFrom i acc (c :: r) = sevFrom (i + 1) (acc + c.toNat % 128 * 2 ^ (7 * i)) r := by
 conv => lhs; unfold sevFrom
 rw [if_neg (by omega), if_neg (by omega), if_neg (by omega), if_neg (by omega)]
theorem sev_accLast {i acc c : Nat} (hi : i ≤ 9) (ha : acc < 2 ^ (7 * i)) (h9 : i = 9 → c ≤ 1) (hc : c < 128) : acc + c * 2 ^ (7 * i) < 18446744073709551616 := by
 by_cases h : i = 9
 ·subst h
  have h1 : c * 2 ^ (7 * 9) ≤ 1 * 2 ^ (7 * 9) := Nat.mul_le_mul_right _ (h9 rfl)
  have e : 2 ^ (7 * 9) = 9223372036854775808 := by decide
  rw [e] at ha h1 ⊢
  omega
 ·have h1 : c * 2 ^ (7 * i) ≤ 127 * 2 ^ (7 * i) := Nat.mul_le_mul_right _ (by omega)
  have h2 := sev_pow i
  have h3 : 2 ^ (7 * (i + 1)) ≤ 2 ^ 63 := Nat.pow_le_pow_right (by decide) (by omega)
  have e : 2 ^ 63 = 9223372036854775808 := by decide
  rw [e] at h3
  generalize 2 ^ (7 * (i + 1)) = q at *
  generalize 2 ^ (7 * i) = p at *
  generalize c * p = m at *
  omega
theorem sev_accMore {i acc : Nat} (c : Nat) (ha : acc < 2 ^ (7 * i)) : acc + c % 128 * 2 ^ (7 * i) < 2 ^ (7 * (i + 1)) := by
 have h1 : c % 128 * 2 ^ (7 * i) ≤ 127 * 2 ^ (7 * i) := Nat.mul_le_mul_right _ (by omega)
 rw [sev_pow]
 generalize 2 ^ (7 * i) = p at *
 generalize c % 128 * p = m at *
 omega
theorem sevFrom_some : ∀ (l : List UInt8) (i acc n u : Nat), acc < 2 ^ (7 * i) → i ≤ 9 → sevFrom i acc l = some (n, u) → n < 18446744073709551616 ∧ i < u ∧ u ≤ i + l.length ∧ u ≤ 10
 | [], i, acc, n, u, _, _, h => by simp [sevFrom] at h
 | c :: r, i, acc, n, u, ha, hi, h => by
  unfold sevFrom at h
  rw [if_neg (by omega)] at h
  split at h
  ·cases h
  ·rename_i h9
   split at h
   ·cases h
   ·split at h
    ·rename_i h128
     simp only [Option.some.injEq, Prod.mk.injEq] at h
     obtain ⟨rfl, rfl⟩ := h
     exact ⟨sev_accLast hi ha (fun e => by omega) h128, by omega, by simp, by omega⟩
    ·have := sevFrom_some r (i + 1) _ n u (sev_accMore _ ha) (by omega) h
     simp only [List.length_cons]
     omega
theorem sev_some {l : List UInt8} {n u : Nat} (h : sev l = some (n, u)) : n < 18446744073709551616 ∧ 0 < u ∧ u ≤ l.length ∧ u ≤ 10 := by
 have := sevFrom_some l 0 0 n u (by decide) (by decide) h
 omega
theorem sevFrom_uvarint : ∀ (m x i acc : Nat) (r : List UInt8), x ≤ m → i ≤ 9 → x < 2 ^ (64 - 7 * i) → (0 < i → 0 < x) → sevFrom i acc (Lib.uvarint x ++ r) = some (acc + x * 2 ^ (7 * i), i + (Lib.uvarint x).length) := by
 intro m
 induction m using Nat.strongRecOn with
 | _ m ih =>
  intro x i acc r hm hi hx h0
  have h9 : i = 9 → x ≤ 1 := fun e => by
   subst e
   have : 2 ^ (64 - 7 * 9) = 2 := by decide
   omega
  by_cases h : x < 128
  ·have hc : (x.toUInt8).toNat = x := by simp; omega
   rw [Lib.uvarint_small h, List.singleton_append, sev_last hi (fun e => by rw [hc]; exact h9 e) (fun e => by have := h0 e; omega) (by omega), hc]
   rfl
  ·have hc : ((x % 128 + 128).toUInt8).toNat = x % 128 + 128 := by simp; omega
   have hi9 : i < 9 := by
    by_cases e : i = 9
    ·have := h9 e; omega
    ·omega
   have hp : 2 ^ (64 - 7 * i) = 128 * 2 ^ (64 - 7 * (i + 1)) := by
    rw [show 64 - 7 * i = (64 - 7 * (i + 1)) + 7 from by omega, Nat.pow_add, Nat.mul_comm]
   rw [Lib.uvarint_big (by omega), List.cons_append, sev_more hi9 (by omega), hc, ih (x / 128) (by omega) (x / 128) (i + 1) _ r (Nat.le_refl _) (by omega) (Nat.div_lt_of_lt_mul (by rw [← hp]; exact hx)) (fun _ => by omega)]
   have e1 : (x % 128 + 128) % 128 = x % 128 := by omega
   have e2 : acc + x % 128 * 2 ^ (7 * i) + x / 128 * 2 ^ (7 * (i + 1)) = acc + x * 2 ^ (7 * i) := by
    rw [sev_pow, Nat.add_assoc, ← Nat.mul_assoc, ← Nat.add_mul]
    congr 2
    omega
   rw [e1, e2, List.length_cons]
   congr 2
   omega
theorem sev_uvarint {x : Nat} (hx : x < 18446744073709551616) (r : List UInt8) : sev (Lib.uvarint x ++ r) = some (x, (Lib.uvarint x).length) := by
 have := sevFrom_uvarint x x 0 0 r (Nat.le_refl _) (by decide) (by simpa using hx) (by omega)
 simpa [sev] using this
def longL (s : List UInt8) : List UInt8 := Lib.uvarint s.length ++ s
def longR (l : List UInt8) : Option (List UInt8 × Nat) :=
 match sev l with
 | none => none
 | some (n, k) => if 200000 < n ∨ l.length < k + n then none else some ((l.drop k).take n, k + n)
theorem longR_none {l : List UInt8} (h : sev l = none) : longR l = none := by unfold longR; rw [h]
theorem longR_bad {l : List UInt8} {n k : Nat} (h : sev l = some (n, k)) (h2 : 200000 < n ∨ l.length < k + n) : longR l = none := by unfold longR; rw [h]; exact if_pos h2
theorem longR_ok {l : List UInt8} {n k : Nat} (h : sev l = some (n, k)) (h1 : n ≤ 200000) (h2 : k + n ≤ l.length) : longR l = some ((l.drop k).take n, k + n) := by unfold longR; rw [h]; exact if_neg (by omega)
theorem longR_some {l x : List UInt8} {k : Nat} (h : longR l = some (x, k)) : 0 < k ∧ k ≤ l.length ∧ x.length ≤ 200000 ∧ x.length < k := by
 unfold longR at h
 split at h
 ·cases h
 ·rename_i n k' hs
  have := sev_some hs
  split at h
  ·cases h
  ·simp only [Option.some.injEq, Prod.mk.injEq] at h
   obtain ⟨rfl, rfl⟩ := h
   rw [List.length_take, List.length_drop]
   omega
theorem longR_longL {s : List UInt8} (h : s.length ≤ 200000) (r : List UInt8) : longR (longL s ++ r) = some (s, (longL s).length) := by
 have h1 := sev_uvarint (x := s.length) (by omega) (s ++ r)
 unfold longL
 rw [List.append_assoc, longR_ok h1 h (by simp), List.drop_left, List.take_left, List.length_append]
def SrRel (s : ByteArray) (vn vi : Value) : Prop := ∃ (i acc : Nat), i ≤ 9 ∧ i ≤ s.size ∧ vn = .int .u64 (acc : Nat) ∧ vi = .int .i64 (i : Nat) ∧ acc < 2 ^ (7 * i) ∧ sev s.data.toList = sevFrom i acc (s.data.toList.drop i)
def sevV (e : Value) : Option (Nat × Nat) → Value
 | none => .tuple #[.int .u64 0, .int .i64 0, e]
 | some (n, u) => .tuple #[.int .u64 n, .int .i64 u, .nilIface]
def sevU : Option (Nat × Nat) → Value
 | none => .tuple #[.int .u64 0, .int .i64 0]
 | some (n, u) => .tuple #[.int .u64 n, .int .i64 u]
theorem byte_drop {s : ByteArray} {i : Nat} (h : i < s.size) : s.data.toList.drop i = s[i] :: s.data.toList.drop (i + 1) := by
 have hl : i < s.data.toList.length := by rw [Array.length_toList]; exact h
 rw [List.drop_eq_getElem_cons hl]
 rfl
theorem sevU_none {o : Option (Nat × Nat)} (h : o = none) : Ending.returned (.tuple #[.int .u64 0, .int .i64 0]) = .returned (sevU o) := by subst h; rfl
theorem sevU_some {o : Option (Nat × Nat)} {a b : Int} {n u : Nat} (h : o = some (n, u)) (ha : a = n) (hb : b = u) : Ending.returned (.tuple #[.int .u64 a, .int .i64 b]) = .returned (sevU o) := by subst h ha hb; rfl
theorem sevV_none {e : Value} {o : Option (Nat × Nat)} (h : o = none) : Ending.returned (.tuple #[.int .u64 0, .int .i64 0, e]) = .returned (sevV e o) := by subst h; rfl
theorem sevV_some {e : Value} {o : Option (Nat × Nat)} {a b : Int} {n u : Nat} (h : o = some (n, u)) (ha : a = n) (hb : b = u) : Ending.returned (.tuple #[.int .u64 a, .int .i64 b, .nilIface]) = .returned (sevV e o) := by subst h ha hb; rfl
theorem sv_shl {i c : Nat} (hi : i ≤ 8) : IntKind.u64.wrap ((c : Int) % 128 * 2 ^ (7 * i)) = ((c % 128 * 2 ^ (7 * i) : Nat) : Int) := by
 have e : ((c : Int) % 128 * 2 ^ (7 * i)) = ((c % 128 * 2 ^ (7 * i) : Nat) : Int) := by simp
 have h2 : 0 < 2 ^ (7 * i) := Nat.two_pow_pos _
 have h1 := sev_accLast (c := c % 128) (i := i) (acc := 0) (by omega) h2 (by omega) (by omega)
 rw [e]
 exact IntWalk.u64_in _ (by omega)
theorem sv_add {i acc c : Nat} (hi : i ≤ 8) (ha : acc < 2 ^ (7 * i)) : IntKind.u64.wrap ((acc : Int) + IntKind.u64.wrap ((c : Int) % 128 * 2 ^ (7 * i))) = ((acc + c % 128 * 2 ^ (7 * i) : Nat) : Int) := by
 have h1 := sev_accLast (c := c % 128) (i := i) (acc := acc) (by omega) ha (by omega) (by omega)
 rw [sv_shl hi]
 have e : ((acc : Int) + ((c % 128 * 2 ^ (7 * i) : Nat) : Int)) = ((acc + c % 128 * 2 ^ (7 * i) : Nat) : Int) := by omega
 rw [e]
 exact IntWalk.u64_in _ (by omega)
theorem readSeven_any (s : ByteArray) (w : World) (hs : s.size ≤ 9000000000000000000) : Calls Tryz.prog 35 #[.string s] w (RetV (sevU (sev s.data.toList)) w) := by
 go_enter Tryz.func35, Tryz.ntmps35
 go_wp2_with fail
 go_loop [4, 5] (SrRel s) (fun _ vi => s.size - (intOf vi).toNat)
 case atStart => exact ⟨0, 0, by omega, by omega, rfl, rfl, by decide, rfl⟩
 case round =>
  obtain ⟨i, acc, hi9, his, rfl, rfl, hacc, hsv⟩ := hrel
  by_cases hlt : i < s.size
  ·have hb := s[i].toNat_lt
   have hbI : (s[i].toNat : Int) ≤ 255 := by omega
   rw [byte_drop hlt] at hsv
   have Hs := Lib.hid hsv
   clear hsv
   by_cases h9 : i = 9
   ·subst h9
    have Ha := Lib.hid (show acc < 9223372036854775808 from hacc)
    clear hacc
    by_cases h1 : 1 < s[9].toNat
    ·have h1' : (1 : Int) < (s[9].toNat : Int) := by omega
     go_wp2_with fail
     go_ret2
     exact ⟨sevU_none (by rw [Hs.out, sev_over rfl h1]), Chg.refl _ _⟩
    ·have h1' : (s[9].toNat : Int) ≤ 1 := by omega
     by_cases h0 : s[9].toNat = 0
     ·have h0' : ((s[9].toNat : Int) == 0) = true := by simp [h0]
      go_wp2_with fail
      go_ret2
      exact ⟨sevU_none (by rw [Hs.out, sev_zero (by omega) h0]), Chg.refl _ _⟩
     ·have h0' : ((s[9].toNat : Int) == 0) = false := by simpa using h0
      have hA := Ha.out
      go_wp2_with fail
      go_ret2
      refine ⟨sevU_some (n := acc + s[9].toNat * 2 ^ (7 * 9)) (u := 10) (by rw [Hs.out, sev_last (by omega) (fun _ => by omega) (fun _ => h0) (by omega)]) ?_ rfl, Chg.refl _ _⟩
      have e : 2 ^ (7 * 9) = 9223372036854775808 := by decide
      rw [e]
      omega
   ·have h9' : ((i : Int) == 9) = false := by simp; omega
    have h10 : (i : Int) < 10 := by omega
    by_cases h128 : s[i].toNat < 128
    ·have h128' : (s[i].toNat : Int) < 128 := by omega
     by_cases h0 : s[i].toNat = 0
     ·have h0' : ((s[i].toNat : Int) == 0) = true := by simp [h0]
      by_cases hi : 0 < i
      ·have hi' : (0 : Int) < (i : Int) := by omega
       go_wp2_with fail
       go_ret2
       exact ⟨sevU_none (by rw [Hs.out, sev_zero hi h0]), Chg.refl _ _⟩
      ·obtain rfl : i = 0 := by omega
       obtain rfl : acc = 0 := by simpa using hacc
       clear hacc
       have H0 := Lib.hid h0
       go_wp2_with fail
       go_ret2
       exact ⟨sevU_some (n := 0 + s[0].toNat * 2 ^ (7 * 0)) (u := 1) (by rw [Hs.out, sev_last (by omega) (fun _ => by omega) (fun h => absurd h (by omega)) (by omega)]) (by rw [H0.out]; rfl) rfl, Chg.refl _ _⟩
     ·have h0' : ((s[i].toNat : Int) == 0) = false := by simpa using h0
      go_wp2_with fail
      go_ret2
      refine ⟨sevU_some (n := acc + s[i].toNat * 2 ^ (7 * i)) (u := i + 1) (by rw [Hs.out, sev_last (by omega) (fun _ => by omega) (fun _ => h0) (by omega)]) ?_ rfl, Chg.refl _ _⟩
      have e := sv_add (c := s[i].toNat) (show i ≤ 8 by omega) hacc
      rw [Nat.mod_eq_of_lt h128] at e
      exact e
    ·have h128' : ¬ (s[i].toNat : Int) < 128 := by omega
     go_wp2_with fail
     go_round
     case rel => exact ⟨i + 1, acc + s[i].toNat % 128 * 2 ^ (7 * i), by omega, by omega, congrArg (Value.int .u64) (sv_add (by omega) hacc), by go_num, sev_accMore _ hacc, by rw [Hs.out, sev_more (by omega) (by omega)]⟩
     case measure => simp [intOf]; omega
  ·have Hs := Lib.hid hsv
   clear hsv
   go_wp2_with fail
   go_ret2
   exact ⟨sevU_none (by rw [Hs.out, List.drop_of_length_le (by rw [Array.length_toList]; exact Nat.le_of_not_lt hlt)]; rfl), Chg.refl _ _⟩
theorem sv_or {i acc c : Nat} (hi : i ≤ 9) (ha : acc < 2 ^ (7 * i)) (h9 : i = 9 → c ≤ 1) : bits .or .u64 (acc : Int) (IntKind.u64.wrap ((c : Int) % 128 * 2 ^ (7 * i))) = ((acc + c % 128 * 2 ^ (7 * i) : Nat) : Int) := by
 have h2 : 0 < 2 ^ (7 * i) := Nat.two_pow_pos _
 have h1 := sev_accLast (c := c % 128) (i := i) (acc := 0) hi h2 (fun e => by have := h9 e; omega) (by omega)
 have h3 : 2 ^ (7 * i) ≤ 2 ^ 64 := Nat.pow_le_pow_right (by decide) (by omega)
 have e : ((c : Int) % 128 * 2 ^ (7 * i)) = ((c % 128 * 2 ^ (7 * i) : Nat) : Int) := by simp
 have ew : IntKind.u64.wrap ((c : Int) % 128 * 2 ^ (7 * i)) = ((c % 128 * 2 ^ (7 * i) : Nat) : Int) := by
  rw [e]; exact IntWalk.u64_in _ (by omega)
 have ha' : (acc : Int) < 2 ^ (7 * i) := by exact_mod_cast ha
 have h3' : (2 : Int) ^ (7 * i) ≤ 2 ^ 64 := by exact_mod_cast h3
 have hm : ((c % 128 * 2 ^ (7 * i) : Nat) : Int) % 2 ^ (7 * i) = 0 := by
  have : (c % 128 * 2 ^ (7 * i)) % 2 ^ (7 * i) = 0 := Nat.mul_mod_left _ _
  exact_mod_cast this
 rw [ew, bits_join_low .u64 64 (by decide) wraps_u64 (7 * i) acc _ (by omega) ha' (by omega) (by omega) hm (by omega)]
 omega
theorem sv_orLast {i acc c : Nat} (hi : i ≤ 9) (ha : acc < 2 ^ (7 * i)) (h9 : i = 9 → c ≤ 1) (hc : c < 128) : bits .or .u64 (acc : Int) (IntKind.u64.wrap ((c : Int) % 128 * 2 ^ (7 * i))) = ((acc + c * 2 ^ (7 * i) : Nat) : Int) := by
 rw [sv_or hi ha h9, Nat.mod_eq_of_lt hc]
theorem readUvarint_any (s : ByteArray) (w : World) (e : Value) (he : ∃ T v, e = .iface T v) (hce : w.cell? ⟨1, 0, none⟩ = some e) (hs : s.size ≤ 9000000000000000000) :
  Calls Tryz.prog 59 #[.string s] w (RetV (sevV e (sev s.data.toList)) w) := by
 obtain ⟨T, v, rfl⟩ := he
 go_enter Tryz.func59, Tryz.ntmps59
 go_wp2_with fail
 go_loop [2, 5] (SrRel s) (fun _ vi => s.size - (intOf vi).toNat)
 case atStart => exact ⟨0, 0, by omega, by omega, rfl, rfl, by decide, rfl⟩
 case round =>
  obtain ⟨i, acc, hi9, his, rfl, rfl, hacc, hsv⟩ := hrel
  by_cases hlt : i < s.size
  ·have hb := s[i].toNat_lt
   have hbI : (s[i].toNat : Int) ≤ 255 := by omega
   have h10 : (i : Int) < 10 := by omega
   rw [byte_drop hlt] at hsv
   have Hs := Lib.hid hsv
   have Ha := Lib.hid hacc
   have hmask := u8_and127 (s[i].toNat : Int) (by omega) (by omega)
   clear hsv hacc
   by_cases h9 : i = 9 ∧ 1 < s[i].toNat
   ·obtain ⟨h9, h1⟩ := h9
    have h9' : ((i : Int) == 9) = true := by simp; omega
    have h1' : (1 : Int) < (s[i].toNat : Int) := by omega
    have H9 := Lib.hid h9
    clear h9
    go_wp2_with fail
    go_quiet (fail)
    go_wp2_with fail
    go_ret3
    exact ⟨sevV_none (by rw [Hs.out, sev_over H9.out h1]), (Chg.refl _ _).drewN _⟩
   ·have H9 := Lib.hid (show i = 9 → s[i].toNat ≤ 1 from fun e => Nat.le_of_not_lt (fun h => h9 ⟨e, h⟩))
    have H9b : (((i : Int) == 9) = true ∧ (s[i].toNat : Int) ≤ 1) ∨ ((i : Int) == 9) = false := by
     by_cases e : i = 9
     ·left; have := H9.out e; exact ⟨by simp [e], by omega⟩
     ·right; simp; omega
    clear h9
    by_cases h0 : s[i].toNat = 0
    ·have h0' : ((s[i].toNat : Int) == 0) = true := by simp [h0]
     by_cases hi : 0 < i
     ·have hi' : (0 : Int) < (i : Int) := by omega
      have H0 := Lib.hid h0
      rcases H9b with ⟨h9', h1'⟩ | h9'
      all_goals
       go_wp2_with fail
       go_quiet (fail)
       go_wp2_with fail
       go_ret3
       exact ⟨sevV_none (by rw [Hs.out, sev_zero hi H0.out]), (Chg.refl _ _).drewN _⟩
     ·obtain rfl : i = 0 := by omega
      obtain rfl : acc = 0 := by simpa using Ha.out
      have H0 := Lib.hid h0
      clear H9b
      go_wp2_with fail
      go_ret3
      exact ⟨sevV_some (n := 0 + s[0].toNat * 2 ^ (7 * 0)) (u := 1) (by rw [Hs.out, sev_last (by omega) (fun _ => by omega) (fun h => absurd h (by omega)) (by omega)]) (by rw [H0.out]; rfl) rfl, Chg.refl _ _⟩
    ·have h0' : ((s[i].toNat : Int) == 0) = false := by simpa using h0
     by_cases h128 : s[i].toNat < 128
     ·have h128' : (s[i].toNat : Int) < 128 := by omega
      rcases H9b with ⟨h9', h1'⟩ | h9'
      all_goals
       go_wp2_with fail
       go_ret3
       exact ⟨sevV_some (n := acc + s[i].toNat * 2 ^ (7 * i)) (u := i + 1) (by rw [Hs.out, sev_last hi9 H9.out (fun _ => h0) h128]) (sv_orLast hi9 Ha.out H9.out h128) rfl, Chg.refl _ _⟩
     ·have h128' : ¬ (s[i].toNat : Int) < 128 := by omega
      have h9n : i < 9 := by
       by_cases e : i = 9
       ·have := H9.out e; omega
       ·omega
      have h9' : ((i : Int) == 9) = false := by simp; omega
      clear H9b
      go_wp2_with fail
      go_round
      case rel => exact ⟨i + 1, acc + s[i].toNat % 128 * 2 ^ (7 * i), by omega, by omega, congrArg (Value.int .u64) (sv_or hi9 Ha.out H9.out), by go_num, sev_accMore _ Ha.out, by rw [Hs.out, sev_more h9n (by omega)]⟩
      case measure => simp [intOf]; omega
  ·have Hs := Lib.hid hsv
   clear hsv
   go_wp2_with fail
   go_quiet (fail)
   go_wp2_with fail
   go_ret3
   exact ⟨sevV_none (by rw [Hs.out, List.drop_of_length_le (by rw [Array.length_toList]; exact Nat.le_of_not_lt hlt)]; rfl), (Chg.refl _ _).drewN _⟩
def SvRel (x : Nat) (w : World) (vn vo : Value) (wr : World) : Prop := ∃ (y : Nat) (pre : List UInt8), vn = .int .u64 (y : Nat) ∧ y ≤ x ∧ Lib.uvarint x = pre ++ Lib.uvarint y ∧ vo = .string ⟨pre.toArray⟩ ∧ Chg NoB w wr
theorem seven_any (x : Nat) (w : World) (hx : x < 18446744073709551616) : Calls Tryz.prog 41 #[.int .u64 (x : Nat)] w (RetV (.string ⟨(Lib.uvarint x).toArray⟩) w) := by
 have hlen := Lib.uvarint_length64 hx
 go_enter Tryz.func41, Tryz.ntmps41
 go_wp2_with fail
 go_loopw [0, 3] (SvRel x w) (fun vn _ _ => (intOf vn).toNat)
 case atStart => exact ⟨x, [], rfl, Nat.le_refl _, rfl, rfl, Chg.refl _ _⟩
 case round =>
  obtain ⟨y, pre, rfl, hy, hsplit, rfl, hc⟩ := hrel
  have hpl : pre.length + (Lib.uvarint y).length ≤ 10 := by
   have h2 := congrArg List.length hsplit
   rw [List.length_append] at h2
   omega
  have Hs := Lib.hid hsplit
  have Hpl := Lib.hid hpl
  have hp10 : pre.length ≤ 10 := by omega
  clear hsplit hlen hpl
  by_cases h128 : 127 < y
  ·have h1 : (127 : Int) < (y : Int) := by omega
   go_wp2_with fail
   refine (byteS_any _ wr (by omega) (by omega)).mono ?_
   rintro en w1 ⟨rfl, hc1⟩
   go_wp2_with fail
   go_roundw
   case rel =>
    refine ⟨y / 128, pre ++ [UInt8.ofNat (y % 128 + 128)], by go_num, by omega, ?_, ?_, hc.tr hc1⟩
    ·rw [Hs.out, Lib.uvarint_big (by omega), List.append_assoc]
     rfl
    ·rw [← bcat]
   case measure => simp [intOf]; omega
  ·have h1 : ¬ (127 : Int) < (y : Int) := by omega
   go_wp2_with fail
   refine (byteS_any _ wr (by omega) (by omega)).mono ?_
   rintro en w1 ⟨rfl, hc1⟩
   go_wp2_with fail
   go_ret
   refine ⟨?_, hc.tr hc1⟩
   rw [Hs.out, Lib.uvarint_small (by omega), ← bcat]
   rfl
theorem long_any (s : ByteArray) (w : World) (hs : s.size ≤ 9000000000000000000) : Calls Tryz.prog 42 #[.string s] w (RetV (.string ⟨(longL s.data.toList).toArray⟩) w) := by
 have hlen := Lib.uvarint_length64 (x := s.size) (by omega)
 have hd : s.data.toList.length = s.size := Array.length_toList
 have H : (⟨(Lib.uvarint s.size).toArray⟩ : ByteArray) ++ s = ⟨(longL s.data.toList).toArray⟩ := by
  rw [bcat1, longL, hd]
 have HH := Lib.hid H
 clear H hd
 go_enter Tryz.func42, Tryz.ntmps42
 go_wp2_with fail
 refine (seven_any _ w (by omega)).mono ?_
 rintro en w1 ⟨rfl, hc1⟩
 go_wp2_with fail
 go_ret
 exact ⟨by rw [← HH.out]; rfl, hc1⟩
def UvRel (x : Nat) (w : World) (vn vb : Value) (wr : World) : Prop := ∃ (y : Nat) (pre : List UInt8), vn = .int .u64 (y : Nat) ∧ y ≤ x ∧ Lib.uvarint x = pre ++ Lib.uvarint y ∧ wr.ownsRow w.heap.size 5 1 vb pre.length (Lib.byteCells pre) ∧ Below w.heap.size w wr
theorem uvarint_any (x : Nat) (w : World) (hx : x < 18446744073709551616) : Calls Tryz.prog 20 #[.int .u64 (x : Nat)] w (RetV (.string ⟨(Lib.uvarint x).toArray⟩) w) := by
 obtain ⟨i0, hi, hz0, hz1, hz2⟩ := info_parts infoByte
 have hlen := Lib.uvarint_length64 hx
 go_enter Tryz.func20, Tryz.ntmps20
 go_wp2_with fail
 go_loopw [0, 3] (UvRel x w) (fun vn _ _ => (intOf vn).toNat)
 case atStart => exact ⟨x, [], rfl, Nat.le_refl _, rfl, World.ownsRow_nil _ _ _ _, Below.refl _ _⟩
 case round =>
  obtain ⟨y, pre, rfl, hy, hsplit, hown1, hnx⟩ := hrel
  have hpl : pre.length + (Lib.uvarint y).length ≤ 10 := by
   have h2 := congrArg List.length hsplit
   rw [List.length_append] at h2
   omega
  have hyp := Lib.uvarint_pos y
  have Hs := Lib.hid hsplit
  clear hsplit hlen
  by_cases h128 : 128 ≤ y
  ·have h1 : (128 : Int) ≤ (y : Int) := by omega
   have hor : bits .or .u8 ((y : Int) % 256) 128 = ((y % 128 + 128 : Nat) : Int) := by
    rw [Lib.u8_or128_any _ (by omega) (by omega)]
    omega
   go_wp2_with (at_builtin; refine wpList_append_own _ rfl _ _ 58 rfl w.heap.size 5 i0 (.int .u8 0) 1 1 Tryz.underlying58 hi hz0 hz1 hz2 rfl (by decide) _ _ _ rfl (hown1.alloc _) ⟨wr.heap.size, 0, none⟩ 1 1 [Value.int .u8 ((y % 128 + 128 : Nat) : Int)] rfl rfl ?c1 ?c2 ?c3 ?c4 ?c5 ?_)
   case c1 =>
    intro j u hj
    match j, hj with
    | 0, hj => simp at hj; subst hj; simp [Addr.add]
   case c2 => intro u hu; simp at hu; subst hu; rfl
   case c3 => unfold maxLen; omega
   case c4 => omega
   case c5 => have := hnx.size; simp; omega
   intro v' w1 hown' hgrow _
   have hnx1 : Below w.heap.size w w1 := (hnx.alloc (by have := hnx.size; omega) _).grown hgrow (by have := hnx.size; simp; omega) (fun k hk => (hown1.lt k hk).1)
   go_wp2_with fail
   go_roundw
   case rel =>
    refine ⟨y / 128, pre ++ [(y % 128 + 128).toUInt8], by go_num, by omega, by rw [Hs.out, Lib.uvarint_big h128]; simp, ?_, hnx1⟩
    rw [Lib.byteCells_snoc pre (by omega), List.length_append, List.length_singleton]
    exact hown'
   case measure => simp [intOf]; omega
  ·have h1 : ¬ (128 : Int) ≤ (y : Int) := by omega
   have hsm : Lib.uvarint y = [y.toUInt8] := Lib.uvarint_small (by omega)
   have Hsm := Lib.hid hsm
   clear hsm
   go_wp2_with (at_builtin; refine wpList_append_own _ rfl _ _ 58 rfl w.heap.size 5 i0 (.int .u8 0) 1 1 Tryz.underlying58 hi hz0 hz1 hz2 rfl (by decide) _ _ _ rfl (hown1.alloc _) ⟨wr.heap.size, 0, none⟩ 1 1 [Value.int .u8 (y : Int)] rfl rfl ?d1 ?d2 ?d3 ?d4 ?d5 ?_)
   case d2 => first | rfl | (intro u hu; simp at hu; subst hu; rfl)
   case d3 => unfold maxLen; omega
   case d4 => omega
   case d5 => have := hnx.size; simp; omega
   intro v' w1 hown' hgrow hnil
   have hnx1 : Below w.heap.size w w1 := (hnx.alloc (by have := hnx.size; omega) _).grown hgrow (by have := hnx.size; simp; omega) (fun k hk => (hown1.lt k hk).1)
   have hcs : Lib.byteCells pre ++ [Value.int .u8 (y : Int)] = Lib.byteCells (Lib.uvarint x) := by
    rw [Hs.out, Hsm.out, Lib.byteCells_snoc pre (by omega)]
   have hln : pre.length + 1 = (Lib.uvarint x).length := by rw [Hs.out, Hsm.out]; simp
   rw [hcs, hln] at hown'
   have hne : Lib.uvarint x ≠ [] := fun e => by rw [e] at hln; simp at hln
   have hcv := own_string hown' hne
   obtain ⟨ao, cap, rfl⟩ : ∃ ao cap, v' = .slice ao (Lib.uvarint x).length cap := by
    rcases hown'.2 with ⟨rfl, h0⟩ | ⟨g, cap, cur, rfl, _⟩
    ·exact ⟨none, 0, by rw [h0]⟩
    ·exact ⟨_, _, rfl⟩
   clear hcs hln hne hnil
   go_wp2_with fail
   go_ret
   exact ⟨rfl, Chg.ofBelow hnx1⟩
theorem wtext_any (s : ByteArray) (w : World) (hs : s.size ≤ 9000000000000000000) : Calls Tryz.prog 33 #[.string s] w (RetV (.string ⟨(longL s.data.toList).toArray⟩) w) := by
 have hlen := Lib.uvarint_length64 (x := s.size) (by omega)
 have hd : s.data.toList.length = s.size := Array.length_toList
 have H : (⟨(Lib.uvarint s.size).toArray⟩ : ByteArray) ++ s = ⟨(longL s.data.toList).toArray⟩ := by
  rw [bcat1, longL, hd]
 have HH := Lib.hid H
 clear H hd
 go_enter Tryz.func33, Tryz.ntmps33
 go_wp2_with fail
 refine (uvarint_any _ w (by omega)).mono ?_
 rintro en w1 ⟨rfl, hc1⟩
 go_wp2_with fail
 go_ret
 exact ⟨by rw [← HH.out]; rfl, hc1⟩
end Go.Proofs.YtkchmgjmecojcaaGreatDoor
