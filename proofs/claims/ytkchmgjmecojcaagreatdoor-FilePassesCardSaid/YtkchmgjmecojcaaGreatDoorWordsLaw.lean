/-
  A schema's text by its words (WordsOf, NumberOf): the plain law against the reader's own.; A region that draws its order and whose operations only read, or call what only builds: walked once, in the text's order.
-/
import Derived.Test.YtkchmgjmecojcaaGreatDoorRead
import Derived.Lib.AtoiTie
import Derived.Test.YtkchmgjmecojcaaGreatDoorBase
import Derived.Deep.Quiet
import Derived.RegionTactic
import Derived.StillTail
set_option linter.unusedVariables false
set_option linter.unusedSimpArgs false
namespace Go.Proofs.YtkchmgjmecojcaaGreatDoor
open Go.RowKit
def wordsL (T : Nat) (rest : List UInt8) : List (List UInt8 × Int) :=
 if h : rest = [] then [([], (T : Int))] else (tok rest, (T : Int) - (rest.length : Int)) :: wordsL T (nxt rest)
termination_by rest.length
decreasing_by exact nxt_lt h
theorem words_nil (T : Nat) : wordsL T [] = [([], (T : Int))] := by rw [wordsL, dif_pos rfl]
theorem words_cons (T : Nat) {rest : List UInt8} (h : rest ≠ []) : wordsL T rest = (tok rest, (T : Int) - (rest.length : Int)) :: wordsL T (nxt rest) := by rw [wordsL, dif_neg h]
theorem words_head (T : Nat) (rest : List UInt8) : ∃ l, wordsL T rest = (tok rest, (T : Int) - (rest.length : Int)) :: l := by
 by_cases h : rest = []
 ·subst h
  exact ⟨[], by rw [words_nil]; simp [tok]⟩
 ·exact ⟨_, words_cons T h⟩
theorem wordsL_len (T : Nat) : ∀ (m : Nat) (rest : List UInt8), rest.length ≤ m → (wordsL T rest).length ≤ rest.length + 1 := by
 intro m
 induction m with
 | zero =>
  intro rest h
  have : rest = [] := List.eq_nil_of_length_eq_zero (by omega)
  subst this
  rw [words_nil]
  simp
 | succ m ih =>
  intro rest h
  by_cases hn : rest = []
  ·subst hn; rw [words_nil]; simp
  ·have h1 := nxt_lt hn
   have h2 := ih (nxt rest) (by omega)
   rw [words_cons T hn, List.length_cons]
   omega
theorem words_drop {T : Nat} {W : List (List UInt8 × Int)} {k : Nat} {rest : List UInt8} (h : W.drop k = wordsL T rest) : W[k]? = some (tok rest, (T : Int) - (rest.length : Int)) ∧ (rest ≠ [] → W.drop (k + 1) = wordsL T (nxt rest)) := by
 obtain ⟨l, hl⟩ := words_head T rest
 constructor
 ·have h1 : (W.drop k)[0]? = some (tok rest, (T : Int) - (rest.length : Int)) := by rw [h, hl]; rfl
  rwa [List.getElem?_drop, Nat.add_zero] at h1
 ·intro hne
  have h1 : (W.drop k).drop 1 = wordsL T (nxt rest) := by rw [h, words_cons T hne]; rfl
  rwa [List.drop_drop] at h1
theorem skip_cons_ws {c : UInt8} {l : List UInt8} (h : c.toNat = 32 ∨ c.toNat = 10) : skipW (c :: l) = skipW l := by
 have : c = 32 ∨ c = 10 := h.imp (fun h => UInt8.toNat_inj.1 h) (fun h => UInt8.toNat_inj.1 h)
 rcases this with rfl | rfl <;> rfl
theorem skip_cons_no {c : UInt8} {l : List UInt8} (h1 : c.toNat ≠ 32) (h2 : c.toNat ≠ 10) : skipW (c :: l) = c :: l := by
 have h3 : c ≠ 32 := fun e => h1 (by rw [e]; rfl)
 have h4 : c ≠ 10 := fun e => h2 (by rw [e]; rfl)
 unfold skipW
 rw [List.dropWhile_cons_of_neg]
 simp [h3, h4]
theorem takeWhile_at {p : UInt8 → Bool} : ∀ {l : List UInt8} {n : Nat}, n ≤ l.length → (l.take n).all p = true → (∀ c, l[n]? = some c → p c = false) → l.takeWhile p = l.take n
 | [], n, h, _, _ => by simp
 | c :: r, 0, _, _, hn => by rw [List.takeWhile_cons, hn c rfl]; rfl
 | c :: r, n + 1, h, ha, hn => by
  simp only [List.take_succ_cons, List.all_cons, Bool.and_eq_true] at ha
  rw [List.takeWhile_cons, if_pos ha.1, List.take_succ_cons]
  rw [takeWhile_at (by simpa using h) ha.2 (fun c' hc => hn c' (by simpa using hc))]
def dval : List UInt8 → Int → Int
 | [], n => n
 | c :: r, n => dval r (n * 10 + ((c.toNat : Int) - 48))
theorem dval_snoc : ∀ (l : List UInt8) (c : UInt8) (n : Int), dval (l ++ [c]) n = dval l n * 10 + ((c.toNat : Int) - 48)
 | [], c, n => rfl
 | x :: xs, c, n => by simp only [List.cons_append, dval]; exact dval_snoc xs c _
def numberF (ds : List UInt8) : Int := if 4 < ds.length then -1 else if ds = [] ∨ (1 < ds.length ∧ ds.head? = some 48) then -1 else dval ds 0
def refId : List UInt8 → Int
 | [] => 0
 | c :: ds => if c.toNat = 35 then numberF ds else 0
theorem digit_nat {c : UInt8} (h : digits.contains c = true) : 48 ≤ c.toNat ∧ c.toNat ≤ 57 := by
 simp only [digits, List.contains_iff_mem, List.mem_cons, List.not_mem_nil, or_false] at h
 rcases h with rfl | rfl | rfl | rfl | rfl | rfl | rfl | rfl | rfl | rfl <;> decide
theorem dec_dval : ∀ (l : List UInt8) (acc : Nat), l.all (digits.contains ·) = true → ∃ m : Nat, Lib.decFrom acc l = some m ∧ (m : Int) = dval l (acc : Int) ∧ acc ≤ m
 | [], acc, _ => ⟨acc, rfl, rfl, Nat.le_refl _⟩
 | c :: r, acc, h => by
  simp only [List.all_cons, Bool.and_eq_true] at h
  have hc := digit_nat h.1
  obtain ⟨m, h1, h2, h3⟩ := dec_dval r (acc * 10 + (c.toNat - 48)) h.2
  refine ⟨m, ?_, ?_, by omega⟩
  ·simp only [Lib.decFrom, Lib.digitVal]
   rw [if_pos hc]
   exact h1
  ·rw [h2]
   simp only [dval]
   congr 1
   omega
theorem tok_digits {c : UInt8} {ds rest : List UInt8} (h : tok rest = c :: ds) (hc : c.toNat = 35) : ds.all (digits.contains ·) = true := by
 cases rest with
 | nil => cases h
 | cons x r =>
  simp only [tok] at h
  by_cases hx : x.toNat = 35
  ·rw [if_pos hx] at h
   obtain ⟨-, rfl⟩ := List.cons.inj h
   exact List.all_takeWhile
  ·rw [if_neg hx] at h
   by_cases hl : lower x = true
   ·rw [if_pos hl] at h
    rw [List.takeWhile_cons, if_pos hl] at h
    obtain ⟨rfl, _⟩ := List.cons.inj h
    exact absurd hc hx
   ·rw [if_neg hl] at h
    obtain ⟨rfl, rfl⟩ := List.cons.inj h
    exact absurd hc hx
theorem numOk_digits {ds : List UInt8} (ha : ds.all (digits.contains ·) = true) (hl : ds.length ≤ 4) (hne : ds ≠ []) : numOk ds = some (dval ds 0) := by
 obtain ⟨m, h1, h2, _⟩ := dec_dval ds 0 ha
 unfold numOk
 rw [Lib.atoiAll_short ds (by omega)]
 cases ds with
 | nil => exact absurd rfl hne
 | cons b r =>
  simp only [List.all_cons, Bool.and_eq_true] at ha
  have hb := digit_nat ha.1
  have e1 : (b == 45) = false := by rw [beq_eq_false_iff_ne]; intro e; subst e; exact absurd hb (by decide)
  have e2 : (b == 43) = false := by rw [beq_eq_false_iff_ne]; intro e; subst e; exact absurd hb (by decide)
  have h3 : Lib.atoi (b :: r) = some (m : Int) := by
   simp only [Lib.atoi, e1, e2, Lib.decNat, List.isEmpty_cons, h1]
   rfl
  rw [h3]
  simp only [Lib.NumEnd.ofOption]
  rw [h2]
  rfl
theorem dval_pos {c : UInt8} {r : List UInt8} (ha : (c :: r).all (digits.contains ·) = true) (h : c ≠ 48) : 0 < dval (c :: r) 0 := by
 simp only [List.all_cons, Bool.and_eq_true] at ha
 have hc := digit_nat ha.1
 have h1 : c.toNat ≠ 48 := fun e => h (UInt8.toNat_inj.1 e)
 obtain ⟨m, _, h2, h3⟩ := dec_dval r (c.toNat - 48) ha.2
 simp only [dval]
 have e : (0 : Int) * 10 + ((c.toNat : Int) - 48) = ((c.toNat - 48 : Nat) : Int) := by omega
 rw [e, ← h2]
 omega
theorem wordId_ref (rest : List UInt8) : match wordId (tok rest) with
  | some v => refId (tok rest) = v ∧ 0 < v
  | none => refId (tok rest) ≤ 0 := by
 cases ht : tok rest with
 | nil => simp [wordId, refId]
 | cons c ds =>
  by_cases hc : c.toNat = 35
  ·have ha := tok_digits ht hc
   simp only [wordId, refId, if_pos hc]
   by_cases hl : 4 < ds.length
   ·rw [show numberF ds = -1 from by unfold numberF; rw [if_pos hl]]
    cases numOk ds with
    | none => simp
    | some v => simp [hl]
   ·by_cases hne : ds = []
    ·subst hne
     rw [show numberF [] = -1 from rfl]
     have : numOk [] = none := by unfold numOk; rfl
     rw [this]
     simp
    ·rw [numOk_digits ha (by omega) hne]
     simp only [if_neg hl]
     obtain ⟨b, r, rfl⟩ := List.exists_cons_of_ne_nil hne
     by_cases hb : b = 48
     ·subst hb
      simp only [List.head?_cons, if_true]
      unfold numberF
      rw [if_neg hl]
      by_cases h1 : 1 < (48 :: r).length
      ·rw [if_pos (.inr ⟨h1, rfl⟩)]; decide
      ·have : r = [] := List.eq_nil_of_length_eq_zero (by simp only [List.length_cons] at h1; omega)
       subst this
       decide
     ·have h9 : ¬ (some b = some (48 : UInt8)) := fun e => hb (Option.some.inj e)
      have h8 : ¬ ((b :: r).head? = some 48) := h9
      rw [if_neg h8]
      refine ⟨?_, dval_pos ha hb⟩
      unfold numberF
      rw [if_neg hl, if_neg (by rintro (e | ⟨_, e⟩); exact absurd e (by simp); exact h9 e)]
  ·simp [wordId, refId, hc]
section
variable {P : Program} {ops : Array Oper} {C : World → Prop} {Q : Act → Prop} {a : Act} {o : Oper} {rest : List Oper}
theorem q_take (v : Value) (hw : Region.wanted o (yielded ops a.tmps) = true) (hy : ∀ w, C w → (execOp a.eval o).run P w = .ok (.value v) w) (h : wpQuiet P ops C Q rest (a.put o.dst v)) : wpQuiet P ops C Q (o :: rest) a := by
 unfold wpQuiet
 rw [if_pos hw]
 refine ⟨v, fun w hC => ?_, h⟩
 unfold Oper.quietAt
 rw [hy w hC]
 exact ⟨rfl, rfl⟩
theorem q_done (h : Q a) : wpQuiet P ops C Q [] a := h
end
end Go.Proofs.YtkchmgjmecojcaaGreatDoor
