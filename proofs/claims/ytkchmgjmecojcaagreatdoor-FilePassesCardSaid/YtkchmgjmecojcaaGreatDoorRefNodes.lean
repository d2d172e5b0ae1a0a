/-
  The document's parser of a schema, in plain words, against the reader's own.; shredcolref2's parser: word, fail, take; index and NumberOf.; shredcolref2's parser: nodes.
-/
import Derived.Test.YtkchmgjmecojcaaGreatDoorWordsLaw
import Derived.Test.YtkchmgjmecojcaaGreatDoorErrLaw
import Derived.Test.YtkchmgjmecojcaaGreatDoorWords
import Derived.Test.YtkchmgjmecojcaaGreatDoorOwnIn
import Derived.Deep.DeepCutAuto
set_option linter.unusedVariables false
set_option maxHeartbeats 20000000
set_option maxRecDepth 100000
set_option linter.unusedSimpArgs false
namespace Go.Proofs.YtkchmgjmecojcaaGreatDoor
open Go.RowKit
structure PSt where
 rest : List UInt8
 code : Int
 at' : Int
def PSt.fail (T : Nat) (c : Int) (s : PSt) : PSt := if s.code = 0 then ⟨s.rest, c, (T : Int) - (s.rest.length : Int)⟩ else s
def PSt.take (T : Nat) (ok : Bool) (s : PSt) : PSt :=
 if s.code = 0 then (if ok = true ∧ s.rest ≠ [] then ⟨nxt s.rest, 0, s.at'⟩ else ⟨s.rest, 1, (T : Int) - (s.rest.length : Int)⟩) else s
theorem take_yes {T : Nat} {ok : Bool} {s : PSt} (h : s.code = 0) (h1 : ok = true) (h2 : s.rest ≠ []) : s.take T ok = ⟨nxt s.rest, 0, s.at'⟩ := by
 unfold PSt.take
 rw [if_pos h, if_pos ⟨h1, h2⟩]
theorem take_no {T : Nat} {ok : Bool} {s : PSt} (h : s.code = 0) (h1 : ok = false ∨ s.rest = []) : s.take T ok = ⟨s.rest, 1, (T : Int) - (s.rest.length : Int)⟩ := by
 unfold PSt.take
 rw [if_pos h, if_neg]
 rintro ⟨a, b⟩
 rcases h1 with h1 | h1
 ·rw [h1] at a; cases a
 ·exact b h1
theorem take_stick {T : Nat} {ok : Bool} {s : PSt} (h : s.code ≠ 0) : s.take T ok = s := by
 unfold PSt.take
 rw [if_neg h]
theorem take_len {T : Nat} {ok : Bool} {s : PSt} : (s.take T ok).rest.length ≤ s.rest.length := by
 unfold PSt.take
 split
 ·split
  ·exact nxt_le' _
  ·exact Nat.le_refl _
 ·exact Nat.le_refl _
theorem fail_len {T : Nat} {c : Int} {s : PSt} : (s.fail T c).rest.length ≤ s.rest.length := by
 unfold PSt.fail
 split <;> exact Nat.le_refl _
def repT3 : List ByteArray := repT.drop 1
def repF (t : List UInt8) : Int := 1 + idxT repT3 t
theorem repF_eq (t : List UInt8) (h : t ≠ []) : (1 ≤ idxT repT t ↔ 0 < repF t) ∧ (0 < repF t → idxT repT t = repF t) := by
 have h0 : ¬ (⟨#[]⟩ : ByteArray) = ⟨t.toArray⟩ := by
  intro e
  apply h
  have := congrArg (fun b => b.data.toList) e
  exact this.symm
 unfold repF repT3 repT idxT Lib.idxOfS
 simp only [List.drop_succ_cons, List.drop_zero, Lib.idxFromS, if_neg h0]
 split
 ·simp
 ·split
  ·simp
  ·split <;> simp
theorem kind_nil : idxT kindT [] = -1 := by rfl
def head4 (T : Nat) (s : PSt) : PSt :=
 let s1 := s.take T (decide (0 < repF (tok s.rest)))
 let s2 := s1.take T (decide (0 ≤ idxT kindT (tok s1.rest)))
 let s3 := s2.take T (headB (tok s2.rest))
 s3.take T (decide (0 < refId (tok s3.rest)))
def headEnd (T : Nat) (deep k : Int) (s : PSt) : PSt :=
 if k = 0 then
  let s5 := if tok s.rest = [123] ∧ deep = 6 then s.fail T 2 else s
  s5.take T (decide (tok s5.rest = [123]))
 else s.take T (decide (tok s.rest = [59]))
structure HeadV where
 rep : Int
 kind : Int
 name : List UInt8
 id : Int
def headV (T : Nat) (s : PSt) : HeadV :=
 let s1 := s.take T (decide (0 < repF (tok s.rest)))
 let s2 := s1.take T (decide (0 ≤ idxT kindT (tok s1.rest)))
 let s3 := s2.take T (headB (tok s2.rest))
 ⟨repF (tok s.rest), idxT kindT (tok s1.rest), tok s2.rest, refId (tok s3.rest)⟩
def badP (T : Nat) (r : List UInt8) : PSt := ⟨r, 1, (T : Int) - (r.length : Int)⟩
theorem take_yes' {T : Nat} {ok : Bool} {r : List UInt8} {a : Int} (h1 : ok = true) (h2 : r ≠ []) : PSt.take T ok ⟨r, 0, a⟩ = ⟨nxt r, 0, a⟩ := take_yes (s := ⟨r, 0, a⟩) rfl h1 h2
theorem take_no' {T : Nat} {ok : Bool} {r : List UInt8} {a : Int} (h1 : ok = false ∨ r = []) : PSt.take T ok ⟨r, 0, a⟩ = badP T r := take_no (s := ⟨r, 0, a⟩) rfl h1
theorem take_badP {T : Nat} {ok : Bool} {r : List UInt8} : PSt.take T ok (badP T r) = badP T r := take_stick (fun h => absurd (show (1 : Int) = 0 from h) (by decide))
theorem headEnd_stick {T : Nat} {deep k : Int} {s : PSt} (h : s.code ≠ 0) : headEnd T deep k s = s := by
 have hf : s.fail T 2 = s := by unfold PSt.fail; rw [if_neg h]
 unfold headEnd
 split
 ·rw [hf]
  simp only [ite_self]
  rw [take_stick h]
 ·rw [take_stick h]
theorem headEnd_badP {T : Nat} {deep k : Int} {r : List UInt8} : headEnd T deep k (badP T r) = badP T r := headEnd_stick (fun h => absurd (show (1 : Int) = 0 from h) (by decide))
theorem headEnd_leaf_no {T : Nat} {deep k a : Int} {r : List UInt8} (hk : ¬ k = 0) (h : ¬ tok r = [59]) : headEnd T deep k ⟨r, 0, a⟩ = badP T r := by
 unfold headEnd
 rw [if_neg hk, take_no' (.inl (decide_eq_false h))]
theorem headEnd_leaf {T : Nat} {deep k a : Int} {r : List UInt8} (hk : ¬ k = 0) (h : tok r = [59]) (hn : r ≠ []) : headEnd T deep k ⟨r, 0, a⟩ = ⟨nxt r, 0, a⟩ := by
 unfold headEnd
 rw [if_neg hk, take_yes' (decide_eq_true h) hn]
theorem headEnd_grp_no {T : Nat} {deep k a : Int} {r : List UInt8} (hk : k = 0) (h : ¬ tok r = [123]) : headEnd T deep k ⟨r, 0, a⟩ = badP T r := by
 unfold headEnd
 rw [if_pos hk]
 simp only [h, false_and, if_false, decide_false]
 exact take_no' (.inl rfl)
theorem headEnd_grp_deep {T : Nat} {deep k a : Int} {r : List UInt8} (hk : k = 0) (h : tok r = [123]) (hd : deep = 6) : headEnd T deep k ⟨r, 0, a⟩ = ⟨r, 2, (T : Int) - (r.length : Int)⟩ := by
 unfold headEnd
 rw [if_pos hk]
 simp only [h, hd, and_self, if_true]
 unfold PSt.fail
 rw [if_pos rfl]
 exact take_stick (fun h => absurd (show (2 : Int) = 0 from h) (by decide))
theorem headEnd_grp {T : Nat} {deep k a : Int} {r : List UInt8} (hk : k = 0) (h : tok r = [123]) (hn : r ≠ []) (hd : ¬ deep = 6) : headEnd T deep k ⟨r, 0, a⟩ = ⟨nxt r, 0, a⟩ := by
 unfold headEnd
 rw [if_pos hk]
 simp only [hd, and_false, if_false]
 exact take_yes' (decide_eq_true h) hn
def HeadIs (T : Nat) (deep : Int) (at0 : Int) (v : HeadV) (s : PSt) : Step → Prop
 | .stop => False
 | .bad e q => s.code = errNum (some e) ∧ s.at' = (T : Int) - (q.length : Int)
 | .leaf n q => v.kind ≠ 0 ∧ s = ⟨q, 0, at0⟩ ∧ n = .mk v.id ⟨v.name.toArray⟩ v.rep v.kind []
 | .group i nm p q => v.kind = 0 ∧ s = ⟨q, 0, at0⟩ ∧ i = v.id ∧ nm = ⟨v.name.toArray⟩ ∧ p = v.rep ∧ deep < 6
theorem head_chain (T : Nat) (deep : Int) (rest : List UInt8) (at0 : Int) (hd : deep ≤ 6) (hgo : ¬ (tok rest = [125] ∨ (tok rest = [] ∧ deep ≤ 2))) :
  HeadIs T deep at0 (headV T ⟨rest, 0, at0⟩) (headEnd T deep (headV T ⟨rest, 0, at0⟩).kind (head4 T ⟨rest, 0, at0⟩)) (headN deep rest) := by
 unfold headN
 rw [if_neg hgo]
 unfold headV head4
 try simp only []
 by_cases h0 : rest = []
 ·subst h0
  rw [if_pos (show idxT repT (tok []) < 1 from by rw [show tok [] = [] from rfl, idx_nil]; decide)]
  rw [take_no' (.inr rfl)]
  try simp only [take_badP]
  rw [headEnd_badP]
  exact ⟨rfl, rfl⟩
 have hrep := repF_eq (tok rest) (fun e => h0 (tok_nil.1 e))
 by_cases h1 : idxT repT (tok rest) < 1
 ·rw [if_pos h1]
  have hr : ¬ 0 < repF (tok rest) := fun h => by have := hrep.1.2 h; omega
  rw [take_no' (.inl (decide_eq_false hr))]
  try simp only [take_badP]
  rw [headEnd_badP]
  exact ⟨rfl, rfl⟩
 rw [if_neg h1]
 have hr : 0 < repF (tok rest) := hrep.1.1 (by omega)
 have hreq := hrep.2 hr
 rw [take_yes' (decide_eq_true hr) h0]
 try simp only []
 generalize nxt rest = r1
 by_cases h2 : idxT kindT (tok r1) < 0
 ·rw [if_pos h2]
  rw [take_no' (.inl (decide_eq_false (by omega)))]
  try simp only [take_badP]
  rw [headEnd_badP]
  exact ⟨rfl, rfl⟩
 rw [if_neg h2]
 have hn1 : r1 ≠ [] := by
  rintro rfl
  exact h2 (by rw [show tok [] = [] from rfl, kind_nil]; decide)
 rw [take_yes' (decide_eq_true (by omega)) hn1]
 try simp only []
 generalize nxt r1 = r2
 by_cases h3 : headB (tok r2) = false
 ·rw [if_pos h3]
  rw [take_no' (.inl h3)]
  try simp only [take_badP]
  rw [headEnd_badP]
  exact ⟨rfl, rfl⟩
 rw [if_neg h3]
 have hn2 : r2 ≠ [] := by
  rintro rfl
  exact h3 rfl
 rw [take_yes' (by simpa using h3) hn2]
 try simp only []
 generalize nxt r2 = r3
 have hid := wordId_ref r3
 cases hw : wordId (tok r3) with
 | none =>
  rw [hw] at hid
  simp only [] at hid ⊢
  rw [take_no' (.inl (decide_eq_false (by omega)))]
  rw [headEnd_badP]
  exact ⟨rfl, rfl⟩
 | some i =>
  rw [hw] at hid
  simp only [] at hid ⊢
  have hn3 : r3 ≠ [] := by
   rintro rfl
   cases hw
  rw [take_yes' (decide_eq_true (by omega)) hn3]
  try simp only []
  generalize nxt r3 = r4
  by_cases h4 : idxT kindT (tok r1) = 0
  ·rw [if_pos h4]
   by_cases h5 : tok r4 = [123]
   ·have hn4 : r4 ≠ [] := by
     rintro rfl
     cases h5
    rw [if_neg (show ¬ (tok r4 ≠ [123]) from fun h => h h5)]
    by_cases h6 : 6 ≤ deep
    ·rw [if_pos h6, headEnd_grp_deep h4 h5 (by omega)]
     exact ⟨rfl, rfl⟩
    ·rw [if_neg h6, headEnd_grp h4 h5 hn4 (by omega)]
     exact ⟨h4, rfl, hid.1.symm, rfl, hreq, by omega⟩
   ·rw [if_pos (show tok r4 ≠ [123] from h5), headEnd_grp_no h4 h5]
    exact ⟨rfl, rfl⟩
  ·rw [if_neg h4]
   by_cases h5 : tok r4 = [59]
   ·have hn4 : r4 ≠ [] := by
     rintro rfl
     cases h5
    rw [if_neg (show ¬ (tok r4 ≠ [59]) from fun h => h h5), headEnd_leaf h4 h5 hn4]
    exact ⟨h4, rfl, by rw [hid.1, hreq]⟩
   ·rw [if_pos (show tok r4 ≠ [59] from h5), headEnd_leaf_no h4 h5]
    exact ⟨rfl, rfl⟩
def PWant (T : Nat) (deep : Int) (rest0 : List UInt8) (l : List Dt) (s : PSt) : Prop :=
 (s.code = 0 ∧ ∃ nds : List Nd, l = nds.map Nd.dt ∧ parseL deep rest0 = (parseL deep s.rest).app nds ∧ nds.length + s.rest.length ≤ rest0.length) ∨
 (s.code ≠ 0 ∧ (∃ e q, parseL deep rest0 = .bad e q ∧ s.code = errNum (some e) ∧ s.at' = (T : Int) - (q.length : Int)) ∧ l.length ≤ rest0.length + 1)
def PDone (T : Nat) (deep : Int) (rest0 : List UInt8) (l : List Dt) (s : PSt) : Prop :=
 (s.code = 0 ∧ ∃ nds : List Nd, l = nds.map Nd.dt ∧ parseL deep rest0 = .ok nds s.rest) ∨
 (s.code ≠ 0 ∧ (∃ e q, parseL deep rest0 = .bad e q ∧ s.code = errNum (some e) ∧ s.at' = (T : Int) - (q.length : Int)))
theorem PWant.len {T : Nat} {deep : Int} {rest0 : List UInt8} {l : List Dt} {s : PSt} (h : PWant T deep rest0 l s) : l.length ≤ rest0.length + 1 := by
 rcases h with ⟨_, nds, rfl, _, h⟩ | ⟨_, _, h⟩
 ·rw [List.length_map]; omega
 ·exact h
theorem want_start (T : Nat) (deep : Int) (s : PSt) (h : s.code = 0) : PWant T deep s.rest [] s :=
 .inl ⟨h, [], rfl, by cases parseL deep s.rest <;> rfl, by simp⟩
theorem want_stop {T : Nat} {deep : Int} {rest0 : List UInt8} {l : List Dt} {s : PSt} (h : PWant T deep rest0 l s) (hs : s.code = 0 → tok s.rest = [125] ∨ (tok s.rest = [] ∧ deep ≤ 2)) : PDone T deep rest0 l s := by
 rcases h with ⟨h0, nds, h1, h2, _⟩ | ⟨h0, h1, _⟩
 ·refine .inl ⟨h0, nds, h1, ?_⟩
  rw [h2, parse_stop (show headN deep s.rest = .stop from if_pos (hs h0))]
  simp [PR.app]
 ·exact .inr ⟨h0, h1⟩
theorem want_head {T : Nat} {deep : Int} {rest0 : List UInt8} {l : List Dt} {s s5 : PSt} {v : HeadV} (hd : deep ≤ 6) (h : PWant T deep rest0 l s) (h0 : s.code = 0) (hgo : ¬ (tok s.rest = [125] ∨ (tok s.rest = [] ∧ deep ≤ 2)))
  (hv : v = headV T s) (h5 : s5 = headEnd T deep v.kind (head4 T s)) :
  (s5.code ≠ 0 ∧ ∀ d, PWant T deep rest0 (l ++ [d]) s5) ∨
  (s5.code = 0 ∧ v.kind ≠ 0 ∧ PWant T deep rest0 (l ++ [Nd.dt (.mk v.id ⟨v.name.toArray⟩ v.rep v.kind [])]) s5) ∨
  (s5.code = 0 ∧ v.kind = 0 ∧ deep < 6 ∧ s5.rest.length < rest0.length ∧ ∀ ls s6, PDone T (deep + 1) s5.rest ls s6 → s6.rest.length ≤ s5.rest.length →
   (∀ d, (s6.take T (decide (tok s6.rest = [125]))).code ≠ 0 → PWant T deep rest0 (l ++ [d]) (s6.take T (decide (tok s6.rest = [125])))) ∧
   ((s6.take T (decide (tok s6.rest = [125]))).code = 0 → ∃ sub : List Nd, ls = sub.map Nd.dt ∧ PWant T deep rest0 (l ++ [Nd.dt (.mk v.id ⟨v.name.toArray⟩ v.rep 0 sub)]) (s6.take T (decide (tok s6.rest = [125]))))) := by
 obtain ⟨rest, code, at0⟩ := s
 obtain rfl : code = 0 := h0
 rcases h with ⟨_, nds, rfl, hp, hlen⟩ | ⟨h1, _⟩
 ·have hc := head_chain T deep rest at0 hd hgo
  rw [← hv, ← h5] at hc
  simp only at hp hlen hgo
  cases hh : headN deep rest with
  | stop => rw [hh] at hc; exact hc.elim
  | bad e q =>
   rw [hh] at hc
   refine .inl ⟨by rw [hc.1]; cases e <;> decide, fun d => .inr ⟨by rw [hc.1]; cases e <;> decide, ⟨e, q, ?_, hc.1, hc.2⟩, ?_⟩⟩
   ·rw [hp, parse_bad hh]; rfl
   ·simp only [List.length_append, List.length_map, List.length_singleton]; omega
  | leaf n q =>
   rw [hh] at hc
   obtain ⟨hk, rfl, hn⟩ := hc
   have hq := head_leaf hh
   refine .inr (.inl ⟨rfl, hk, .inl ⟨rfl, nds ++ [n], ?_, ?_, ?_⟩⟩)
   ·rw [List.map_append, List.map_cons, List.map_nil, ← hn]
   ·rw [hp, parse_leaf hh, PR.app_cons]
   ·simp only [List.length_append, List.length_singleton]; omega
  | group i nm p q =>
   rw [hh] at hc
   obtain ⟨hk, rfl, rfl, rfl, rfl, hd6⟩ := hc
   have hq := (head_group hh).1
   refine .inr (.inr ⟨rfl, hk, hd6, by simp only; omega, ?_⟩)
   intro ls s6 hdone hl6
   simp only at hdone hl6
   rcases hdone with ⟨h60, sub, rfl, hsub⟩ | ⟨h60, e, q2, hb, hc6, ha6⟩
   ·by_cases h125 : tok s6.rest = [125]
    ·have hne : s6.rest ≠ [] := by
      intro e
      rw [e] at h125
      cases h125
     rw [take_yes h60 (decide_eq_true h125) hne]
     have hg := parse_group hh hsub h125
     refine ⟨fun d h => absurd rfl h, fun _ => ⟨sub, rfl, .inl ⟨rfl, nds ++ [Nd.mk v.id ⟨v.name.toArray⟩ v.rep 0 sub], ?_, ?_, ?_⟩⟩⟩
     ·rw [List.map_append, List.map_cons, List.map_nil]
     ·rw [hp, hg.1, PR.app_cons]
     ·have := hg.2
      simp only [List.length_append, List.length_singleton]; omega
    ·rw [take_no h60 (.inl (decide_eq_false h125))]
     refine ⟨fun d _ => .inr ⟨fun h => absurd (show (1 : Int) = 0 from h) (by decide), ⟨.text, s6.rest, ?_, rfl, rfl⟩, ?_⟩, fun h => absurd (show (1 : Int) = 0 from h) (by decide)⟩
     ·rw [hp, parse_group_open hh hsub h125]; rfl
     ·simp only [List.length_append, List.length_map, List.length_singleton]; omega
   ·rw [take_stick h60]
    refine ⟨fun d _ => .inr ⟨h60, ⟨e, q2, ?_, hc6, ha6⟩, ?_⟩, fun h => absurd h h60⟩
    ·rw [hp, parse_group_bad hh hb]; rfl
    ·simp only [List.length_append, List.length_map, List.length_singleton]; omega
 ·exact absurd rfl h1
structure Prs (b T : Nat) (wv : Value) (W : List (List UInt8 × Int)) (s : PSt) (w : World) : Prop where
 blk : ∃ k : Nat, Blk w b [wv, .int .i64 (k : Nat), .int .i64 s.code, .int .i64 s.at'] 160 ∧ W.drop k = wordsL T s.rest
 rd : ∃ wb off cap, wv = .slice (some ⟨wb, off, none⟩) W.length cap ∧ wb ≠ b ∧ wb < b ∧ ∀ (j : Nat) (x : List UInt8 × Int), W[j]? = some x → w.cell? ⟨wb, off + j * 2, none⟩ = some (.string ⟨x.1.toArray⟩) ∧ w.cell? ⟨wb, off + j * 2 + 1, none⟩ = some (.int .i64 x.2)
 len : W.length ≤ 8001
theorem Prs.lt {b T : Nat} {wv : Value} {W : List (List UInt8 × Int)} {s : PSt} {w : World} (h : Prs b T wv W s w) : b < w.heap.size := by
 obtain ⟨k, h1, _⟩ := h.blk
 exact h1.lt
theorem Prs.keep {b T : Nat} {wv : Value} {W : List (List UInt8 × Int)} {s : PSt} {w w' : World} {C : Nat → Prop} (h : Prs b T wv W s w) (hc : Chg C w w') (hn : ∀ x, x ≤ b → ¬ C x) : Prs b T wv W s w' := by
 have hlt := h.lt
 obtain ⟨k, h1, h2⟩ := h.blk
 obtain ⟨wb, off, cap, h3, h4, h5, h6⟩ := h.rd
 refine ⟨⟨k, h1.keep hc (hn _ (Nat.le_refl _)), h2⟩, ⟨wb, off, cap, h3, h4, h5, fun j x hx => ?_⟩, h.len⟩
 obtain ⟨e1, e2⟩ := h6 j x hx
 exact ⟨(hc.cell (p := ⟨wb, off + j * 2, none⟩) (by show wb < _; omega) (hn wb (by omega))).trans e1, (hc.cell (p := ⟨wb, off + j * 2 + 1, none⟩) (by show wb < _; omega) (hn wb (by omega))).trans e2⟩
theorem Prs.keep0 {b T : Nat} {wv : Value} {W : List (List UInt8 × Int)} {s : PSt} {w w' : World} (h : Prs b T wv W s w) (hc : Chg NoB w w') : Prs b T wv W s w' := h.keep hc (fun _ _ => nbE)
theorem Prs.next {b T : Nat} {wv : Value} {W : List (List UInt8 × Int)} {s s' : PSt} {w w' : World} (h : Prs b T wv W s w) (hc : Chg (OneB b) w w') {k : Nat} (h1 : Blk w' b [wv, .int .i64 (k : Nat), .int .i64 s'.code, .int .i64 s'.at'] 160) (h2 : W.drop k = wordsL T s'.rest) : Prs b T wv W s' w' := by
 have hlt := h.lt
 obtain ⟨wb, off, cap, h3, h4, h5, h6⟩ := h.rd
 refine ⟨⟨k, h1, h2⟩, ⟨wb, off, cap, h3, h4, h5, fun j x hx => ?_⟩, h.len⟩
 obtain ⟨e1, e2⟩ := h6 j x hx
 exact ⟨(hc.cell (p := ⟨wb, off + j * 2, none⟩) (by show wb < _; omega) h4).trans e1, (hc.cell (p := ⟨wb, off + j * 2 + 1, none⟩) (by show wb < _; omega) h4).trans e2⟩
theorem Prs.look {b T : Nat} {wv : Value} {W : List (List UInt8 × Int)} {s : PSt} {w : World} (h : Prs b T wv W s w) : ∃ (k wb off cap : Nat), k < W.length ∧ wv = .slice (some ⟨wb, off, none⟩) W.length cap ∧ wb ≠ b ∧ wb < b ∧
  Blk w b [wv, .int .i64 (k : Nat), .int .i64 s.code, .int .i64 s.at'] 160 ∧ w.cell? ⟨wb, off + k * 2, none⟩ = some (.string ⟨(tok s.rest).toArray⟩) ∧ w.cell? ⟨wb, off + k * 2 + 1, none⟩ = some (.int .i64 ((T : Int) - (s.rest.length : Int))) ∧
  (s.rest ≠ [] → W.drop (k + 1) = wordsL T (nxt s.rest)) ∧ W.drop k = wordsL T s.rest := by
 obtain ⟨k, h1, h2⟩ := h.blk
 obtain ⟨wb, off, cap, h3, h4, h5, h6⟩ := h.rd
 obtain ⟨g1, g2⟩ := words_drop h2
 obtain ⟨e1, e2⟩ := h6 k _ g1
 exact ⟨k, wb, off, cap, (List.getElem?_eq_some_iff.1 g1).1, h3, h4, h5, h1, e1, e2, g2, h2⟩
theorem word_any {b T : Nat} {wv : Value} {W : List (List UInt8 × Int)} {s : PSt} {w : World} (h : Prs b T wv W s w) :
  Calls Tryz.prog 70 #[.pointer (some ⟨b, 0, none⟩)] w (RetV (.string ⟨(tok s.rest).toArray⟩) w) := by
 have hW := h.len
 obtain ⟨k, wb, off, cap, hk, rfl, hwb, hlt, hb, e1, -, -, -⟩ := h.look
 have hki : (k : Int) < (W.length : Int) := by omega
 have c0 : w.cell? ⟨b, 0, none⟩ = some (.slice (some ⟨wb, off, none⟩) W.length cap) := hb.cell 0
 have c1 : w.cell? ⟨b, 1, none⟩ = some (.int .i64 (k : Nat)) := hb.cell 1
 go_enter Tryz.func70, Tryz.ntmps70
 go_wp2_with fail
 refine wp_region_quiet (C := fun w' => Chg NoB w w' ∧ w'.cell? ⟨b, 0, none⟩ = some (.slice (some ⟨wb, off, none⟩) W.length cap) ∧ w'.cell? ⟨b, 1, none⟩ = some (.int .i64 (k : Nat)) ∧ w'.cell? ⟨wb, off + k * 2, none⟩ = some (.string ⟨(tok s.rest).toArray⟩)) (by kernel_rfl) (by kernel_rfl) ?_ ?_
 ·exact ⟨(Chg.refl _ _).drew, c0, c1, e1⟩
 refine q_take ?_ (by rfl) ?_ ?_
 rotate_left 1
 ·(intro w' hSw; (try dsimp only at hSw); go_simp; try with_reducible rfl)
 simp only [Act.put, qA, qB, qC, qD, qE, qF]
 refine q_take ?_ (by rfl) ?_ ?_
 rotate_left 1
 ·(intro w' hSw; (try dsimp only at hSw); go_simp; try with_reducible rfl)
 simp only [Act.put, qA, qB, qC, qD, qE, qF]
 refine q_take ?_ (by rfl) ?_ ?_
 rotate_left 1
 ·(intro w' hSw; (try dsimp only at hSw); go_simp; try with_reducible rfl)
 simp only [Act.put, qA, qB, qC, qD, qE, qF]
 refine q_take ?_ (by rfl) ?_ ?_
 rotate_left 1
 ·(intro w' hSw; (try dsimp only at hSw); go_simp; try with_reducible rfl)
 simp only [Act.put, qA, qB, qC, qD, qE, qF]
 refine q_take ?_ (by rfl) ?_ ?_
 rotate_left 1
 ·(intro w' hSw; (try dsimp only at hSw); go_simp; try with_reducible rfl)
 simp only [Act.put, qA, qB, qC, qD, qE, qF]
 refine q_take ?_ (by rfl) ?_ ?_
 rotate_left 1
 ·(intro w' hSw; (try dsimp only at hSw); go_simp; try with_reducible rfl)
 simp only [Act.put, qA, qB, qC, qD, qE, qF]
 refine q_take ?_ (by rfl) ?_ ?_
 rotate_left 1
 ·(intro w' hSw; (try dsimp only at hSw); go_simp; try with_reducible rfl)
 simp only [Act.put, qA, qB, qC, qD, qE, qF]
 refine q_take ?_ (by rfl) ?_ ?_
 rotate_left 1
 ·(intro w' hSw; (try dsimp only at hSw); go_simp; try with_reducible rfl)
 simp only [Act.put, qA, qB, qC, qD, qE, qF]
 refine q_take ?_ (by rfl) ?_ ?_
 rotate_left 1
 ·(intro w' hSw; (try dsimp only at hSw); go_simp; try with_reducible rfl)
 simp only [Act.put, qA, qB, qC, qD, qE, qF]
 refine q_take ?_ (by rfl) ?_ ?_
 rotate_left 1
 ·(intro w' hSw; (try dsimp only at hSw); go_simp; try with_reducible rfl)
 simp only [Act.put, qA, qB, qC, qD, qE, qF]
 refine q_take ?_ (by rfl) ?_ ?_
 rotate_left 1
 ·(intro w' hSw; (try dsimp only at hSw); go_simp; try with_reducible rfl)
 simp only [Act.put, qA, qB, qC, qD, qE, qF]
 refine q_take ?_ (by rfl) ?_ ?_
 rotate_left 1
 ·(intro w' hSw; (try dsimp only at hSw); go_simp; try with_reducible rfl)
 simp only [Act.put, qA, qB, qC, qD, qE, qF]
 refine q_done ?_
 rintro w3 ⟨hc3, _, _, _⟩
 go_wp2_with fail
 go_ret
 exact ⟨rfl, hc3⟩
theorem fail_any {b T : Nat} {wv : Value} {W : List (List UInt8 × Int)} {s : PSt} {w : World} (c : Int) (h : Prs b T wv W s w) :
  Calls Tryz.prog 71 #[.pointer (some ⟨b, 0, none⟩), .int .i64 c] w (RetNil (fun w' => Prs b T wv W (s.fail T c) w' ∧ Chg (OneB b) w w')) := by
 have hW := h.len
 obtain ⟨k, wb, off, cap, hk, rfl, hwb, hlt, hb, -, e2, -, hdr⟩ := h.look
 have hki : (k : Int) < (W.length : Int) := by omega
 have c0 : w.cell? ⟨b, 0, none⟩ = some (.slice (some ⟨wb, off, none⟩) W.length cap) := hb.cell 0
 have c1 : w.cell? ⟨b, 1, none⟩ = some (.int .i64 (k : Nat)) := hb.cell 1
 have c2 : w.cell? ⟨b, 2, none⟩ = some (.int .i64 s.code) := hb.cell 2
 by_cases h0 : s.code = 0
 ·have hf : s.fail T c = ⟨s.rest, c, (T : Int) - (s.rest.length : Int)⟩ := by unfold PSt.fail; rw [if_pos h0]
  have Hf := Lib.hid hf
  clear hf
  go_enter Tryz.func71, Tryz.ntmps71
  go_wp2_with fail
  refine wp_region_n (fun w' => w'.cell? ⟨b, 0, none⟩ = some (.slice (some ⟨wb, off, none⟩) W.length cap) ∧ w'.cell? ⟨b, 1, none⟩ = some (.int .i64 (k : Nat)) ∧ w'.cell? ⟨wb, off + k * 2 + 1, none⟩ = some (.int .i64 ((T : Int) - (s.rest.length : Int)))) [14, 15, 16] (by kernel_rfl) ?_ (fun hSh => ?_)
  ·exact ⟨c0, c1, e2⟩
  refine n_from 0 ?_
  intro htk
  iterate 14
   refine n_tB (v := ?_) htk rfl (Or.inl ⟨by rfl, ?_⟩) ?_
   rotate_left 1
   ·(intro w' hSw; (try dsimp only at hSw); go_simp; try with_reducible rfl)
   clear htk
   intro htk
   simp only [Nat.reduceAdd] at htk
   simp only [Act.put, qA, qB, qC, qD, qE, qF]
  clear htk
  refine n_step 14 rfl (by kernel_rfl) ?_
  go_wp2_with fail
  refine ⟨fun hx => absurd hx (by decide), fun _ => ?_⟩
  refine n_step 15 rfl (by kernel_rfl) ?_
  go_wp2_with fail
  refine ⟨fun hx => absurd hx (by decide), fun _ => ?_⟩
  have f2 : w.frozen? ⟨b, 2, none⟩ = false := hb.free 2
  have f3 : w.frozen? ⟨b, 3, none⟩ = false := hb.free 3
  have d3 : w.cell? ⟨b, 3, none⟩ = some (.int .i64 s.at') := hb.cell 3
  refine n_step 16 rfl (by kernel_rfl) ?_
  go_wp2_with fail
  refine ⟨fun hx => absurd hx (by decide), fun _ => ?_⟩
  refine n_done (by kernel_rfl) ?_
  go_wp2_with fail
  refine bodyPost_ret (v := .tuple #[]) (by simp [results, Tryz.results71, go_sem]) rfl ?_
  rw [Hf.out]
  have hb9 := (hb.set 2 (.int .i64 c)).set 3 (.int .i64 ((T : Int) - (s.rest.length : Int)))
  have hc9 : Chg (OneB b) w _ := (((Chg.refl (OneB b) w).setCell (p := ⟨b, 2, none⟩) (.inl rfl) (.int .i64 c)).setCell (p := ⟨b, 3, none⟩) (.inl rfl) (.int .i64 ((T : Int) - (s.rest.length : Int)))).drew
  exact ⟨rfl, h.next hc9 (k := k) hb9.drew hdr, hc9⟩
 ·have hf : s.fail T c = s := by unfold PSt.fail; rw [if_neg h0]
  have Hf := Lib.hid hf
  clear hf
  go_enter Tryz.func71, Tryz.ntmps71
  go_wp2_with fail
  refine bodyPost_ret (v := .tuple #[]) (by simp [results, Tryz.results71, go_sem]) rfl ?_
  rw [Hf.out]
  exact ⟨rfl, h, Chg.refl _ _⟩
theorem fail_code {T : Nat} {c : Int} {s : PSt} (hc : c ≠ 0) : (s.fail T c).code ≠ 0 := by
 unfold PSt.fail
 split
 ·exact hc
 ·assumption
theorem take_fail {T : Nat} {ok : Bool} {s : PSt} (h : ok = false ∨ s.rest = []) : s.take T ok = s.fail T 1 := by
 unfold PSt.take PSt.fail
 split
 ·rw [if_neg]
  rintro ⟨a, b⟩
  rcases h with h | h
  ·rw [h] at a; cases a
  ·exact b h
 ·rfl
def RetTake (b T : Nat) (wv : Value) (W : List (List UInt8 × Int)) (s : PSt) (ok : Bool) (w : World) (en : Ending) (w' : World) : Prop :=
 en = .returned (.string ⟨(tok s.rest).toArray⟩) ∧ Prs b T wv W (s.take T ok) w' ∧ Chg (OneB b) w w'
theorem Prs.code {b T : Nat} {wv : Value} {W : List (List UInt8 × Int)} {s : PSt} {w : World} (h : Prs b T wv W s w) : w.cell? ⟨b, 2, none⟩ = some (.int .i64 s.code) := by
 obtain ⟨k, h1, _⟩ := h.blk
 exact h1.cell 2
theorem take_any {b T : Nat} {wv : Value} {W : List (List UInt8 × Int)} {s : PSt} {w : World} (ok : Bool) (h : Prs b T wv W s w) :
  Calls Tryz.prog 113 #[.pointer (some ⟨b, 0, none⟩), .bool ok] w (RetTake b T wv W s ok w) := by
 by_cases hok : ok = true ∧ s.rest ≠ []
 ·obtain ⟨rfl, hne⟩ := hok
  have hE : (tok s.rest).isEmpty = false := by simpa using fun e => hne (tok_nil.1 e)
  have Hne := Lib.hid hne
  clear hne
  go_enter Tryz.func113, Tryz.ntmps113
  go_wp2_with fail
  refine (word_any h).mono ?_
  rintro en w1 ⟨rfl, hc1⟩
  have h1 := h.keep0 hc1
  have hW := h.len
  obtain ⟨k, wb, off, cap, hk, rfl, hwb, hlt, hb, -, -, hnx, -⟩ := h1.look
  have Hnx := Lib.hid hnx
  clear hnx
  have c1 : w1.cell? ⟨b, 1, none⟩ = some (.int .i64 (k : Nat)) := hb.cell 1
  have f1 : w1.frozen? ⟨b, 1, none⟩ = false := hb.free 1
  have c2 : w1.cell? ⟨b, 2, none⟩ = some (.int .i64 s.code) := hb.cell 2
  have hc1' : Chg (OneB b) w w1 := hc1.mono (fun _ _ e => nbE e)
  by_cases h0 : s.code = 0
  ·have ht := take_yes (T := T) h0 rfl Hne.out
   have Ht := Lib.hid ht
   clear ht
   go_wp2_with fail
   go_ret
   have hb9 := hb.set 1 (.int .i64 ((k + 1 : Nat) : Int))
   have hc9 := hc1'.setCell (p := ⟨b, 1, none⟩) (.inl rfl) (.int .i64 ((k + 1 : Nat) : Int))
   refine ⟨rfl, ?_, hc9⟩
   rw [Ht.out]
   rw [h0] at hb9
   exact h.next hc9 (k := k + 1) hb9 (Hnx.out Hne.out)
  ·have ht := take_stick (T := T) (ok := true) h0
   have Ht := Lib.hid ht
   clear ht
   go_wp2_with fail
   go_ret
   refine ⟨rfl, ?_, hc1'⟩
   rw [Ht.out]
   exact h1
 ·have hor : ok = false ∨ s.rest = [] := by
   cases ok
   ·exact .inl rfl
   ·by_cases e : s.rest = []
    ·exact .inr e
    ·exact absurd ⟨rfl, e⟩ hok
  have ht := take_fail (T := T) hor
  have Ht := Lib.hid ht
  have hfc := fail_code (T := T) (c := 1) (s := s) (by decide)
  clear hok ht
  have hend : ∀ w1, Chg NoB w w1 → Calls Tryz.prog 71 #[.pointer (some ⟨b, 0, none⟩), .int .i64 1] w1 (RetNil (fun w' => Prs b T wv W (s.fail T 1) w' ∧ Chg (OneB b) w w' ∧ w'.cell? ⟨b, 2, none⟩ = some (.int .i64 (s.fail T 1).code))) := fun w1 hc1 =>
   (fail_any 1 (h.keep0 hc1)).mono fun en w' hq => ⟨hq.1, hq.2.1, (hc1.mono (fun _ _ e => nbE e)).trans hq.2.2 (fun _ e => .inl e), hq.2.1.code⟩
  cases ok with
  | false =>
   clear hor
   go_enter Tryz.func113, Tryz.ntmps113
   go_wp2_with fail
   refine (word_any h).mono ?_
   rintro en w1 ⟨rfl, hc1⟩
   go_wp2_with fail
   refine (hend w1 hc1).mono ?_
   rintro en w2 ⟨rfl, h2, hc2, c2⟩
   go_wp2_with fail
   go_ret
   refine ⟨rfl, ?_, hc2⟩
   rw [Ht.out]
   exact h2
  | true =>
   have hE : (tok s.rest).isEmpty = true := by
    rcases hor with e | e
    ·cases e
    ·rw [e]; rfl
   clear hor
   go_enter Tryz.func113, Tryz.ntmps113
   go_wp2_with fail
   refine (word_any h).mono ?_
   rintro en w1 ⟨rfl, hc1⟩
   go_wp2_with fail
   refine (hend w1 hc1).mono ?_
   rintro en w2 ⟨rfl, h2, hc2, c2⟩
   go_wp2_with fail
   go_ret
   refine ⟨rfl, ?_, hc2⟩
   rw [Ht.out]
   exact h2
structure Stp (b T : Nat) (wv : Value) (W : List (List UInt8 × Int)) (w : World) (v : Value) (ds : List Dt) (nb : Nat) (cells : List Value) (s : PSt) (wk : World) : Prop where
 own : Own wk w.heap.size 33 5 (fun x => w.heap.size ≤ x ∧ x ≠ nb) v ds
 prs : Prs b T wv W s wk
 chg : Chg (OneB b) w wk
 nd : Blk wk nb cells 33
 ge : w.heap.size ≤ nb
 vn : v.ownBlock ≠ some nb
 lt : b < w.heap.size
section
variable {b T : Nat} {wv : Value} {W : List (List UInt8 × Int)} {w : World} {v : Value} {ds : List Dt} {nb : Nat} {cells : List Value} {s s' : PSt} {wk w' : World}
theorem Stp.keep0 (h : Stp b T wv W w v ds nb cells s wk) (hc : Chg NoB wk w') : Stp b T wv W w v ds nb cells s w' :=
 ⟨h.own.keep hc (fun _ _ => nbE) (fun _ _ => nbE), h.prs.keep0 hc, h.chg.tr hc, h.nd.keep hc nbE, h.ge, h.vn, h.lt⟩
theorem Stp.next (h : Stp b T wv W w v ds nb cells s wk) (hr : Prs b T wv W s' w') (hc : Chg (OneB b) wk w') : Stp b T wv W w v ds nb cells s' w' := by
 have hlt := h.lt
 refine ⟨h.own.keep hc (fun x hx e => ?_) (fun x hx e => ?_), hr, h.chg.trans hc (fun _ e => .inl e), h.nd.keep hc (fun e => ?_), h.ge, h.vn, h.lt⟩
 ·have e : x = b := e
  have := hx.1; omega
 ·have e : x = b := e
  have := (h.own.block x hx).1; omega
 ·have e : nb = b := e
  have := h.ge; omega
theorem Stp.set (h : Stp b T wv W w v ds nb cells s wk) (i : Nat) (u : Value) : Stp b T wv W w v ds nb (cells.set i u) s (wk.setCell ⟨nb, i, none⟩ u) := by
 have hc : Chg (OneB nb) wk (wk.setCell ⟨nb, i, none⟩ u) := (Chg.refl (OneB nb) wk).setCell (p := ⟨nb, i, none⟩) (.inl rfl) u
 have hlt := h.lt
 have hge := h.ge
 refine ⟨h.own.keep hc (fun x hx e => hx.2 e) (fun x hx e => h.vn (by rw [← show x = nb from e]; exact hx)), h.prs.keep hc (fun x hx e => ?_), h.chg.trans hc (fun x e => .inr ?_), h.nd.set i u, h.ge, h.vn, h.lt⟩
 ·have e : x = nb := e
  omega
 ·have e : x = nb := e
  omega
end
def goB (deep : Int) (s : PSt) : Bool := decide (s.code = 0 ∧ ¬ (tok s.rest = [125] ∨ (tok s.rest = [] ∧ deep ≤ 2)))
theorem goB_code {deep : Int} {s : PSt} (h : ¬ s.code = 0) : goB deep s = false := decide_eq_false (fun e => h e.1)
theorem goB_brace {deep : Int} {s : PSt} (h : tok s.rest = [125]) : goB deep s = false := decide_eq_false (fun e => e.2 (.inl h))
theorem goB_end {deep : Int} {s : PSt} (h : tok s.rest = []) (hd : deep ≤ 2) : goB deep s = false := decide_eq_false (fun e => e.2 (.inr ⟨h, hd⟩))
theorem goB_yes {deep : Int} {s : PSt} (h0 : s.code = 0) (h1 : ¬ tok s.rest = [125]) (h2 : tok s.rest = [] → ¬ deep ≤ 2) : goB deep s = true := decide_eq_true ⟨h0, by
 rintro (h | ⟨h, hd⟩)
 ·exact h1 h
 ·exact h2 h hd⟩
def hashB : List UInt8 → Bool
 | [] => false
 | c :: _ => decide (c.toNat = 35)
theorem hash_eq (c : UInt8) (r : List UInt8) : ((c.toNat : Int) == 35) = hashB (c :: r) := by
 rw [Bool.eq_iff_iff]
 simp only [hashB, beq_iff_eq, decide_eq_true_eq]
 omega
theorem ext_tail (c : UInt8) (r : List UInt8) : (⟨(c :: r).toArray⟩ : ByteArray).extract 1 (r.length + 1) = ⟨r.toArray⟩ := by
 rw [Lib.extract_eq]
 simp
theorem digitB_all {l : List UInt8} (h : l.all (digits.contains ·) = true) : l.all digitB = true := by
 rw [List.all_eq_true] at h ⊢
 intro x hx
 rw [digitB_eq]
 exact h x hx
theorem beq_dec (a b : List UInt8) : (a == b) = decide (a = b) := by
 by_cases h : a = b <;> simp [h]
def itemDt (i : Int) (nm : ByteArray) (r k : Int) (ls : List Dt) : Dt := .agg [.lit (.int .i64 i), .lit (.string nm), .lit (.int .i64 r), .lit (.int .i64 k), .list 5 ls]
theorem itemDt_nd (i : Int) (nm : ByteArray) (r k : Int) (sub : List Nd) : itemDt i nm r k (sub.map Nd.dt) = Nd.dt (.mk i nm r k sub) := by
 unfold itemDt
 rw [← Nd.dts_eq]
 rfl
theorem reads_item {w : World} {S : Nat → Prop} {i : Int} {nm : ByteArray} {r k : Int} {ls : List Dt} {v : Value} (h : Reads w S (.list 5 ls) [v]) : Reads w S (itemDt i nm r k ls) [.int .i64 i, .string nm, .int .i64 r, .int .i64 k, v] :=
 ⟨[_], _, rfl, ⟨rfl, rfl⟩, [_], _, rfl, ⟨rfl, rfl⟩, [_], _, rfl, ⟨rfl, rfl⟩, [_], _, rfl, ⟨rfl, rfl⟩, [v], [], rfl, h, rfl⟩
theorem reads_none (w : World) (S : Nat → Prop) : Reads w S (.list 5 []) [.slice none 0 0] := ⟨none, 0, rfl, Nat.le_refl _, Nat.zero_le _, .inl ⟨rfl, fun _ => rfl⟩⟩
def midS (T : Nat) (deep : Int) (s : PSt) : PSt := if tok s.rest = [123] ∧ deep = 6 then s.fail T 2 else s
def RetPN (b T : Nat) (wv : Value) (W : List (List UInt8 × Int)) (deep : Int) (rest0 : List UInt8) (w : World) (en : Ending) (w' : World) : Prop :=
 ∃ (v : Value) (l : List Dt) (s : PSt), en = .returned v ∧ Own w' w.heap.size 33 5 (fun x => w.heap.size ≤ x) v l ∧ Prs b T wv W s w' ∧ Chg (OneB b) w w' ∧ PDone T deep rest0 l s ∧ s.rest.length ≤ rest0.length ∧ l.length ≤ rest0.length + 1
def PnRel (b T : Nat) (wv : Value) (W : List (List UInt8 × Int)) (deep : Int) (rest0 : List UInt8) (w : World) (vl : Value) (wr : World) : Prop :=
 ∃ (l : List Dt) (s : PSt) (ao : Option Addr) (cap : Nat), vl = .slice ao l.length cap ∧ Own wr w.heap.size 33 5 (fun x => w.heap.size ≤ x) vl l ∧ Prs b T wv W s wr ∧ Chg (OneB b) w wr ∧ PWant T deep rest0 l s ∧ s.rest.length ≤ rest0.length
theorem repT3_len : repT3.length = 3 := rfl
theorem pnodes_any (b T : Nat) (wv : Value) (W : List (List UInt8 × Int)) : ∀ (m : Nat) (deep : Int) (s0 : PSt) (w : World), 2 ≤ deep → deep ≤ 6 → 7 - deep ≤ m → s0.code = 0 → s0.rest.length ≤ 8000 → Prs b T wv W s0 w →
  Calls Tryz.prog 69 #[.pointer (some ⟨b, 0, none⟩), .int .i64 deep] w (RetPN b T wv W deep s0.rest w) := by
 intro m
 induction m with
 | zero => intro deep s0 w h1 h2 h3; omega
 | succ m ih =>
  intro deep s0 w hd2 hd6 hm hs0 hr8 hP
  have Hih := Lib.hid ih
  clear ih
  have hblt := hP.lt
  go_enter Tryz.func69, Tryz.ntmps69
  go_wp2_with fail
  go_loopw [5] (fun vl wr => PnRel b T wv W deep s0.rest w vl wr) (fun vl _ => s0.rest.length + 2 - lenV vl)
  case atStart =>
   exact ⟨[], s0, none, 0, rfl, Own.nil _ _ _ _ _, hP, Chg.refl _ _, want_start T deep s0 hs0, Nat.le_refl _⟩
  case round =>
   obtain ⟨l, s, ao, cap, rfl, hown, hPr, hc, hwant, hsl⟩ := hrel
   have hlw := hwant.len
   have Hwant := Lib.hid hwant
   clear hwant
   go_upto_region 2 with fail
   go_cut [27] (fun v27 wx => v27 = .bool (goB deep s) ∧ Chg NoB wr wx)
   case first =>
    have c2 := hPr.code
    by_cases h0 : s.code = 0
    ·have hw := word_any hPr
     have Hw := Lib.hid hw
     clear hw
     go_wp2_with fail
     refine Hw.out.mono ?_
     rintro en w1 ⟨rfl, hc1⟩
     by_cases hA : tok s.rest = [125]
     ·have hg := Lib.hid (goB_brace (deep := deep) hA)
      have hA' : (tok s.rest == [125]) = true := by simpa using hA
      clear hA
      go_wp2_with fail
      go_meet
      rw [hg.out]
      exact ⟨rfl, hc1⟩
     ·have hA' : (tok s.rest == [125]) = false := by simpa using hA
      have hw2 := word_any (hPr.keep0 hc1)
      have Hw2 := Lib.hid hw2
      clear hw2
      by_cases hB : tok s.rest = []
      ·have hB' : (tok s.rest).isEmpty = true := by rw [hB]; rfl
       by_cases hd : deep ≤ 2
       ·have hg := Lib.hid (goB_end hB hd)
        clear hA hB
        go_wp2_with fail
        refine Hw2.out.mono ?_
        rintro en w2 ⟨rfl, hc2⟩
        go_wp2_with fail
        go_meet
        rw [hg.out]
        exact ⟨congrArg Value.bool (decide_eq_false (by omega)), hc1.tr hc2⟩
       ·have hg := Lib.hid (goB_yes h0 hA (fun _ => hd))
        have hd' : 2 < deep := by omega
        clear hA hB hd
        go_wp2_with fail
        refine Hw2.out.mono ?_
        rintro en w2 ⟨rfl, hc2⟩
        go_wp2_with fail
        go_meet
        rw [hg.out]
        exact ⟨rfl, hc1.tr hc2⟩
      ·have hB' : (tok s.rest).isEmpty = false := by simpa using hB
       have hg := Lib.hid (goB_yes (deep := deep) h0 hA (fun h => absurd h hB))
       clear hA hB
       go_wp2_with fail
       refine Hw2.out.mono ?_
       rintro en w2 ⟨rfl, hc2⟩
       go_wp2_with fail
       go_meet
       rw [hg.out]
       exact ⟨rfl, hc1.tr hc2⟩
    ·have hg := Lib.hid (goB_code (deep := deep) h0)
     go_wp2_with fail
     go_meet
     rw [hg.out]
     exact ⟨rfl, Chg.refl _ _⟩
   case rest =>
    obtain ⟨rfl, hcg⟩ := hcut
    cases hgo : goB deep s with
    | false =>
     have hstop : s.code = 0 → tok s.rest = [125] ∨ (tok s.rest = [] ∧ deep ≤ 2) := fun h0 => Decidable.of_not_not (fun e => by
      have := decide_eq_false_iff_not.1 hgo
      exact this ⟨h0, e⟩)
     have hdone := want_stop Hwant.out hstop
     have Hdone := Lib.hid hdone
     clear hstop hdone hgo
     go_wp2_with fail
     go_ret
     exact ⟨_, l, s, rfl, hown.keep hcg (fun _ _ => nbE) (fun _ _ => nbE), hPr.keep0 hcg, hc.tr hcg, Hdone.out, hsl, hlw⟩
    | true =>
     obtain ⟨hs00, hgo2⟩ := of_decide_eq_true hgo
     have Hgo2 := Lib.hid hgo2
     clear hgo hgo2
     have hownC := hown.keep hcg (fun _ _ => nbE) (fun _ _ => nbE)
     have hPC := hPr.keep0 hcg
     have hcC := hc.tr hcg
     clear hown hPr hc hcg
     go_upto_region 3 with fail
     go_cut [6] (fun v6 wx => ∃ nb, v6 = .pointer (some ⟨nb, 0, none⟩) ∧ Stp b T wv W w (.slice ao l.length cap) l nb (ndCells 0 ⟨#[]⟩ (repF (tok s.rest)) 0 (.slice none 0 0)) s wx)
     case first =>
      go_wp2_with fail
      generalize hw1 : wc.alloc _ = w1
      have hc1 : Chg NoB wc w1 := by
       rw [← hw1]
       repeat (first | exact Chg.refl _ _ | apply Chg.alloc | apply Chg.drew)
      have hb1 : Blk w1 (wc.heap.size) (repT3.map Value.string) 9 := by
       rw [← hw1]
       repeat (first | exact Blk.newAt (by first | rfl | (simp; done) | (simp; omega)) | apply Blk.alloc | apply Blk.drew)
      clear hw1
      refine (word_any (hPC.keep0 hc1)).mono ?_
      rintro en w2 ⟨rfl, hc2⟩
      have hb2 := hb1.keep hc2 nbE
      go_wp2_with fail
      refine (index_any repT3 ⟨(tok s.rest).toArray⟩ wc.heap.size 0 3 w2 (by decide) (fun j z hz => by
       rw [Nat.zero_add, hb2.cell j, List.getElem?_map, hz]
       rfl)).mono ?_
      rintro en w3 ⟨rfl, h0⟩
      obtain rfl := h0.symm
      clear h0
      have hix := idxT_bd repT3 (tok s.rest)
      have hrf : repF (tok s.rest) = 1 + idxT repT3 (tok s.rest) := rfl
      rw [show Lib.idxOfS repT3 ⟨(tok s.rest).toArray⟩ = idxT repT3 (tok s.rest) from rfl]
      rw [repT3_len] at hix
      have Hrf := Lib.hid hrf
      clear hrf
      generalize idxT repT3 (tok s.rest) = ri at *
      go_wp2_with fail
      go_meet
      have hc12 := hc1.tr hc2
      have hcA := hc12.alloc (.cells (ndCells 0 ⟨#[]⟩ (1 + ri) 0 (.slice none 0 0)).toArray 33)
      have hsz := hc12.size
      refine ⟨w2.heap.size, rfl, ?_, hPC.keep0 hcA, hcC.tr hcA, ?_, ?_, fun e => ?_, hblt⟩
      ·exact (hownC.inHeap.mono (Nat.le_refl _) (fun x hx => ⟨hx.1, by have := hx.2; omega⟩)).keep hcA (fun _ _ => nbE) (fun _ _ => nbE)
      ·rw [Hrf.out]; exact Blk.new w2 (ndCells 0 ⟨#[]⟩ (1 + ri) 0 (.slice none 0 0)) 33
      ·have := hcC.size; omega
      ·have := (hownC.block _ e).2; omega
     case rest =>
      obtain ⟨nb, rfl, hst⟩ := hcut
      clear hownC hPC hcC
      have x2 : wc.cell? ⟨nb, 2, none⟩ = some (.int .i64 (repF (tok s.rest))) := hst.nd.cell 2
      go_wp2_with fail
      refine (take_any (decide (0 < repF (tok s.rest))) hst.prs).mono ?_
      rintro en w2 ⟨rfl, hp2, hc2⟩
      replace hst := hst.next hp2 hc2
      clear hp2 hc2 x2
      obtain ⟨s1, hs1⟩ : ∃ x, x = s.take T (decide (0 < repF (tok s.rest))) := ⟨_, rfl⟩
      rw [← hs1] at hst
      have Hs1 := Lib.hid hs1
      clear hs1
      go_wp2_with fail
      generalize hw3 : w2.alloc _ = w3
      have hc3 : Chg NoB w2 w3 := by
       rw [← hw3]
       repeat (first | exact Chg.refl _ _ | apply Chg.alloc | apply Chg.drew)
      have hb3 : Blk w3 (w2.heap.size) (kindT.map Value.string) 9 := by
       rw [← hw3]
       repeat (first | exact Blk.newAt (by first | rfl | (simp; done) | (simp; omega)) | apply Blk.alloc | apply Blk.drew)
      clear hw3
      replace hst := hst.keep0 hc3
      refine (word_any hst.prs).mono ?_
      rintro en w4 ⟨rfl, hc4⟩
      have hb4 := hb3.keep hc4 nbE
      replace hst := hst.keep0 hc4
      go_wp2_with fail
      refine (index_any kindT ⟨(tok s1.rest).toArray⟩ w2.heap.size 0 6 w4 (by decide) (fun j z hz => by
       rw [Nat.zero_add, hb4.cell j, List.getElem?_map, hz]
       rfl)).mono ?_
      rintro en w5 ⟨rfl, h0⟩
      obtain rfl := h0.symm
      clear h0
      rw [show Lib.idxOfS kindT ⟨(tok s1.rest).toArray⟩ = idxT kindT (tok s1.rest) from rfl]
      have k1 : w4.cell? ⟨nb, 3, none⟩ = some (.int .i64 0) := hst.nd.cell 3
      have k2 : w4.frozen? ⟨nb, 3, none⟩ = false := hst.nd.free 3
      clear hc3 hc4 hb3 hb4
      replace hst := hst.set 3 (.int .i64 (idxT kindT (tok s1.rest)))
      simp only [ndCells, qE, qF] at hst
      have x3 : (w4.setCell ⟨nb, 3, none⟩ (.int .i64 (idxT kindT (tok s1.rest)))).cell? ⟨nb, 3, none⟩ = some (.int .i64 (idxT kindT (tok s1.rest))) := hst.nd.cell 3
      go_wp2_with fail
      refine (take_any (decide (0 ≤ idxT kindT (tok s1.rest))) hst.prs).mono ?_
      rintro en w6 ⟨rfl, hp6, hc6⟩
      replace hst := hst.next hp6 hc6
      clear hp6 hc6 k1 k2 x3
      obtain ⟨s2, hs2⟩ : ∃ x, x = s1.take T (decide (0 ≤ idxT kindT (tok s1.rest))) := ⟨_, rfl⟩
      rw [← hs2] at hst
      have Hs2 := Lib.hid hs2
      clear hs2
      go_wp2_with fail
      refine (word_any hst.prs).mono ?_
      rintro en w7 ⟨rfl, hc7⟩
      replace hst := hst.keep0 hc7
      clear hc7
      go_upto_region 8 with fail
      have x1 : w7.cell? ⟨nb, 1, none⟩ = some (.string ⟨#[]⟩) := hst.nd.cell 1
      have x1f : w7.frozen? ⟨nb, 1, none⟩ = false := hst.nd.free 1
      go_cut [7] (fun _ wx => Stp b T wv W w (.slice ao l.length cap) l nb (ndCells 0 ⟨(tok s2.rest).toArray⟩ (repF (tok s.rest)) (idxT kindT (tok s1.rest)) (.slice none 0 0)) (s2.take T (headB (tok s2.rest))) wx)
      case first =>
       have hend : ∀ (ok : Bool), ok = headB (tok s2.rest) → Calls Tryz.prog 113 #[.pointer (some ⟨b, 0, none⟩), .bool ok] w7 (fun en w' => en = .returned (.string ⟨(tok s2.rest).toArray⟩) ∧ Stp b T wv W w (.slice ao l.length cap) l nb (ndCells 0 ⟨#[]⟩ (repF (tok s.rest)) (idxT kindT (tok s1.rest)) (.slice none 0 0)) (s2.take T (headB (tok s2.rest))) w') := fun ok hok =>
        (take_any ok hst.prs).mono fun en w' hq => ⟨hq.1, hst.next (by rw [← hok]; exact hq.2.1) hq.2.2⟩
       have Hend := Lib.hid hend
       clear hend
       rcases ht : tok s2.rest with _ | ⟨c, r⟩
       ·have Ht := Lib.hid ht
        clear ht
        go_wp2_with fail
        refine (Hend.out false (by rw [Ht.out]; rfl)).mono ?_
        rintro en w8 ⟨rfl, hst8⟩
        have y1 : w8.cell? ⟨nb, 1, none⟩ = some (.string ⟨#[]⟩) := hst8.nd.cell 1
        have y2 : w8.frozen? ⟨nb, 1, none⟩ = false := hst8.nd.free 1
        go_wp2_with fail
        go_meet
        exact hst8.set 1 _
       ·have Ht := Lib.hid ht
        clear ht
        have hpos : 0 < (⟨(c :: r).toArray⟩ : ByteArray).size := Nat.succ_pos _
        have hL := isLetter_any ((⟨(c :: r).toArray⟩ : ByteArray)[0]'hpos) w7
        go_wp2_with fail
        refine hL.mono ?_
        rintro en w0 ⟨rfl, h0⟩
        obtain rfl := h0.symm
        clear h0 hL
        go_wp2_with fail
        refine (Hend.out _ (by rw [Ht.out]; rfl)).mono ?_
        rintro en w8 ⟨rfl, hst8⟩
        have y1 : w8.cell? ⟨nb, 1, none⟩ = some (.string ⟨#[]⟩) := hst8.nd.cell 1
        have y2 : w8.frozen? ⟨nb, 1, none⟩ = false := hst8.nd.free 1
        go_wp2_with fail
        go_meet
        exact hst8.set 1 _
      case rest =>
       replace hst := hcut
       clear hcut x1 x1f
       obtain ⟨s3, hs3⟩ : ∃ x, x = s2.take T (headB (tok s2.rest)) := ⟨_, rfl⟩
       rw [← hs3] at hst
       have Hs3 := Lib.hid hs3
       have hlen3 : s3.rest.length ≤ 8000 := by
        have a1 : s1.rest.length ≤ s.rest.length := by rw [Hs1.out]; exact take_len
        have a2 : s2.rest.length ≤ s1.rest.length := by rw [Hs2.out]; exact take_len
        have a3 : s3.rest.length ≤ s2.rest.length := by rw [hs3]; exact take_len
        omega
       have Hlen3 := Lib.hid hlen3
       clear hs3 hlen3
       go_wp2_with fail
       refine (word_any hst.prs).mono ?_
       rintro en w9 ⟨rfl, hc9⟩
       replace hst := hst.keep0 hc9
       clear hc9
       go_upto_region 10 with fail
       go_cut [7, 69] (fun v7 v69 wx => v7 = .string ⟨(tok s3.rest).toArray⟩ ∧ v69 = .bool (hashB (tok s3.rest)) ∧ wx = w9)
       case first =>
        rcases ht : tok s3.rest with _ | ⟨c, r⟩
        ·have Ht := Lib.hid ht
         clear ht
         go_wp2_with fail
         go_meet
         rw [Ht.out]
         exact ⟨rfl, rfl, rfl⟩
        ·have Ht := Lib.hid ht
         clear ht
         have hpos : 0 < (⟨(c :: r).toArray⟩ : ByteArray).size := Nat.succ_pos _
         go_wp2_with fail
         go_meet
         rw [Ht.out]
         exact ⟨rfl, congrArg Value.bool (hash_eq c r), rfl⟩
       case rest =>
        obtain ⟨rfl, rfl, rfl⟩ := hcut
        have x0 : wc.cell? ⟨nb, 0, none⟩ = some (.int .i64 0) := hst.nd.cell 0
        have x0f : wc.frozen? ⟨nb, 0, none⟩ = false := hst.nd.free 0
        go_upto_if 69 with fail
        go_cut [7] (fun v7 wx => v7 = .string ⟨(tok s3.rest).toArray⟩ ∧ Stp b T wv W w (.slice ao l.length cap) l nb (ndCells (refId (tok s3.rest)) ⟨(tok s2.rest).toArray⟩ (repF (tok s.rest)) (idxT kindT (tok s1.rest)) (.slice none 0 0)) s3 wx)
        case first =>
         have htl : (tok s3.rest).length ≤ 8000 := by
          have := tok_le s3.rest
          have := Hlen3.out
          omega
         have hdg := @tok_digits
         rcases ht : tok s3.rest with _ | ⟨c, r⟩
         ·have Ht := Lib.hid ht
          rw [show hashB [] = false from rfl]
          clear ht hdg
          go_wp2_with fail
          go_meet
          rw [Ht.out]
          exact ⟨rfl, hst⟩
         ·by_cases h35 : c.toNat = 35
          ·rw [show hashB (c :: r) = true from decide_eq_true h35]
           have hN := numberOf_any r wc (by rw [ht] at htl; simp only [List.length_cons] at htl; omega) (digitB_all (tok_digits ht h35))
           have hri : refId (c :: r) = numberF r := if_pos h35
           have Hri := Lib.hid hri
           have Ht := Lib.hid ht
           clear ht h35 hri hdg
           go_wp2_with fail
           rw [ext_tail]
           refine hN.mono ?_
           rintro en w0 ⟨rfl, h0⟩
           obtain rfl := h0.symm
           clear h0 hN
           go_wp2_with fail
           go_meet
           rw [Ht.out, Hri.out]
           exact ⟨rfl, hst.set 0 _⟩
          ·rw [show hashB (c :: r) = false from decide_eq_false h35]
           have Ht := Lib.hid ht
           have hr0 : refId (c :: r) = 0 := if_neg h35
           have Hr0 := Lib.hid hr0
           clear ht hr0 hdg h35
           go_wp2_with fail
           go_meet
           rw [Ht.out, Hr0.out]
           exact ⟨rfl, hst⟩
        case rest =>
         obtain ⟨rfl, hst0⟩ := hcut
         replace hst := hst0
         clear hst0 x0 x0f
         have x0 : wc.cell? ⟨nb, 0, none⟩ = some (.int .i64 (refId (tok s3.rest))) := hst.nd.cell 0
         go_upto_region 12 with fail
         go_cut [7] (fun _ wx => Stp b T wv W w (.slice ao l.length cap) l nb (ndCells (refId (tok s3.rest)) ⟨(tok s2.rest).toArray⟩ (repF (tok s.rest)) (idxT kindT (tok s1.rest)) (.slice none 0 0)) (s3.take T (decide (0 < refId (tok s3.rest)))) wx)
         case first =>
          have hend : ∀ (ok : Bool), ok = decide (0 < refId (tok s3.rest)) → Calls Tryz.prog 113 #[.pointer (some ⟨b, 0, none⟩), .bool ok] wc (fun en w' => (∃ v, en = .returned (.string v)) ∧ Stp b T wv W w (.slice ao l.length cap) l nb (ndCells (refId (tok s3.rest)) ⟨(tok s2.rest).toArray⟩ (repF (tok s.rest)) (idxT kindT (tok s1.rest)) (.slice none 0 0)) (s3.take T (decide (0 < refId (tok s3.rest)))) w') := fun ok hok =>
           (take_any ok hst.prs).mono fun en w' hq => ⟨⟨_, hq.1⟩, hst.next (by rw [← hok]; exact hq.2.1) hq.2.2⟩
          have Hend := Lib.hid hend
          clear hend
          rcases ht : tok s3.rest with _ | ⟨c, r⟩
          ·have Ht := Lib.hid ht
           clear ht
           go_wp2_with fail
           refine (Hend.out false (by rw [Ht.out]; rfl)).mono ?_
           rintro en w8 ⟨⟨v8, rfl⟩, hst8⟩
           go_wp2_with fail
           go_meet
           exact hst8
          ·have hpos : 0 < (⟨(c :: r).toArray⟩ : ByteArray).size := Nat.succ_pos _
           by_cases h35 : c.toNat = 35
           ·have h35' : (((⟨(c :: r).toArray⟩ : ByteArray)[0]'hpos).toNat : Int) = 35 := by show (c.toNat : Int) = 35; omega
            have Ht := Lib.hid ht
            rw [ht] at x0
            clear ht
            go_wp2_with fail
            refine (Hend.out _ (by rw [Ht.out])).mono ?_
            rintro en w8 ⟨⟨v8, rfl⟩, hst8⟩
            go_wp2_with fail
            go_meet
            exact hst8
           ·have h35' : ((((⟨(c :: r).toArray⟩ : ByteArray)[0]'hpos).toNat : Int) == 35) = false := by show ((c.toNat : Int) == 35) = false; simp; omega
            have hr0 : refId (c :: r) = 0 := if_neg h35
            have Hr0 := Lib.hid hr0
            have Ht := Lib.hid ht
            clear ht hr0 h35
            go_wp2_with fail
            refine (Hend.out false (by rw [Ht.out, Hr0.out]; rfl)).mono ?_
            rintro en w8 ⟨⟨v8, rfl⟩, hst8⟩
            go_wp2_with fail
            go_meet
            exact hst8
         case rest =>
          replace hst := hcut
          clear hcut x0
          obtain ⟨s4, hs4⟩ : ∃ x, x = s3.take T (decide (0 < refId (tok s3.rest))) := ⟨_, rfl⟩
          rw [← hs4] at hst
          have hv : headV T s = ⟨repF (tok s.rest), idxT kindT (tok s1.rest), tok s2.rest, refId (tok s3.rest)⟩ := by
           rw [Hs3.out, Hs2.out, Hs1.out]
           rfl
          have h4 : s4 = head4 T s := by
           rw [hs4, Hs3.out, Hs2.out, Hs1.out]
           rfl
          have hlen4 : s4.rest.length ≤ s.rest.length := by
           have a1 : s1.rest.length ≤ s.rest.length := by rw [Hs1.out]; exact take_len
           have a2 : s2.rest.length ≤ s1.rest.length := by rw [Hs2.out]; exact take_len
           have a3 : s3.rest.length ≤ s2.rest.length := by rw [Hs3.out]; exact take_len
           have a4 : s4.rest.length ≤ s3.rest.length := by rw [hs4]; exact take_len
           omega
          clear hs4 Hlen3
          generalize repF (tok s.rest) = vr at hv hst
          generalize idxT kindT (tok s1.rest) = kd at hv hst
          generalize tok s2.rest = vn at hv hst
          generalize refId (tok s3.rest) = vi at hv hst
          have hwh := want_head (s5 := headEnd T deep kd s4) (v := ⟨vr, kd, vn, vi⟩) hd6 Hwant.out hs00 Hgo2.out hv.symm (by rw [h4])
          clear Hs1 Hs2 Hs3 Hwant Hgo2 hv h4
          have x3 : wc.cell? ⟨nb, 3, none⟩ = some (.int .i64 kd) := hst.nd.cell 3
          by_cases hk : kd = 0
          ·subst hk
           obtain ⟨sm, hsm⟩ : ∃ x, x = midS T deep s4 := ⟨_, rfl⟩
           obtain ⟨s5, hs5⟩ : ∃ x, x = sm.take T (decide (tok sm.rest = [123])) := ⟨_, rfl⟩
           have hE : headEnd T deep 0 s4 = s5 := by rw [hs5, hsm]; rfl
           rw [hE] at hwh
           have hlm : sm.rest.length ≤ s4.rest.length := by
            rw [hsm]
            unfold midS
            split
            ·exact fail_len
            ·exact Nat.le_refl _
           have hl5 : s5.rest.length ≤ sm.rest.length := by rw [hs5]; exact take_len
           have Hwh := Lib.hid hwh
           have Hsm := Lib.hid hsm
           have Hs5 := Lib.hid hs5
           clear hwh hE hsm hs5
           go_upto_region 15 with fail
           go_cut [102] (fun v102 wx => v102 = .bool (decide (tok s4.rest = [123] ∧ deep = 6)) ∧ Chg NoB wc wx)
           case first =>
            go_wp2_with fail
            refine (word_any hst.prs).mono ?_
            rintro en w8 ⟨rfl, hc8⟩
            by_cases h123 : tok s4.rest = [123]
            ·have hb1 : (tok s4.rest == [123]) = true := by simpa using h123
             have H123 := Lib.hid h123
             clear h123
             go_wp2_with fail
             go_meet
             exact ⟨congrArg Value.bool (by rw [H123.out]; by_cases h : deep = 6 <;> simp [h]), hc8⟩
            ·have hb1 : (tok s4.rest == [123]) = false := by simpa using h123
             have hdf : decide (tok s4.rest = [123] ∧ deep = 6) = false := decide_eq_false (fun h => h123 h.1)
             have Hdf := Lib.hid hdf
             clear h123 hdf
             go_wp2_with fail
             go_meet
             rw [Hdf.out]
             exact ⟨rfl, hc8⟩
           case rest =>
            obtain ⟨rfl, hc8⟩ := hcut
            replace hst := hst.keep0 hc8
            clear hc8 x3
            go_upto_if 102 with fail
            go_cut [] (fun wx => Stp b T wv W w (.slice ao l.length cap) l nb (ndCells vi ⟨vn.toArray⟩ vr 0 (.slice none 0 0)) sm wx)
            case first =>
             by_cases hmd : tok s4.rest = [123] ∧ deep = 6
             ·rw [decide_eq_true hmd]
              have hse : sm = s4.fail T 2 := by rw [Hsm.out]; exact if_pos hmd
              have Hse := Lib.hid hse
              clear hse hmd
              go_wp2_with fail
              refine (fail_any 2 hst.prs).mono ?_
              rintro en w9 ⟨rfl, hp9, hc9⟩
              rw [← Hse.out] at hp9
              go_wp2_with fail
              go_meet
              exact hst.next hp9 hc9
             ·rw [decide_eq_false hmd]
              have hse : sm = s4 := by rw [Hsm.out]; exact if_neg hmd
              rw [← hse] at hst
              clear hse hmd
              go_wp2_with fail
              go_meet
              exact hst
            case rest =>
             replace hst := hcut
             clear hcut
             go_wp2_with fail
             refine (word_any hst.prs).mono ?_
             rintro en w10 ⟨rfl, hc10⟩
             replace hst := hst.keep0 hc10
             clear hc10
             go_wp2_with fail
             refine (take_any (tok sm.rest == [123]) hst.prs).mono ?_
             rintro en w11 ⟨rfl, hp11, hc11⟩
             rw [beq_dec, ← Hs5.out] at hp11
             replace hst := hst.next hp11 hc11
             clear hp11 hc11 Hs5 Hsm
             have cc := hst.prs.code
             by_cases h50 : s5.code = 0
             ·have hthird : deep < 6 ∧ ∀ ls s6, PDone T (deep + 1) s5.rest ls s6 → s6.rest.length ≤ s5.rest.length → PWant T deep s0.rest (l ++ [itemDt vi ⟨vn.toArray⟩ vr 0 ls]) (s6.take T (decide (tok s6.rest = [125]))) := by
               rcases Hwh.out with ⟨h, _⟩ | ⟨_, h, _⟩ | ⟨_, _, h6, _, h7⟩
               ·exact absurd h50 h
               ·exact absurd rfl h
               ·refine ⟨h6, fun ls s6 h8 h9 => ?_⟩
                obtain ⟨g1, g2⟩ := h7 ls s6 h8 h9
                by_cases hc : (s6.take T (decide (tok s6.rest = [125]))).code = 0
                ·obtain ⟨sub, rfl, g3⟩ := g2 hc
                 rw [itemDt_nd]
                 exact g3
                ·exact g1 _ hc
              obtain ⟨hd6', hth⟩ := hthird
              have Hth := Lib.hid hth
              clear hth Hwh
              go_wp2_with fail
              have hlt9 := hst.nd.lt
              have hsz9 := hst.chg.size
              have hob := fun x e => (hst.own.block x e).2
              have hbw := hst.prs.lt
              refine (Hih.out (deep + 1) s5 w11 (by omega) (by omega) (by omega) h50 (by omega) hst.prs).mono ?_
              rintro en w12 ⟨v5, ls, s6, rfl, ho5, hp6, hc12, hdone, hsl6, hll⟩
              obtain ⟨a5, cap5, rfl⟩ := ho5.form
              have hpw := Hth.out ls s6 hdone hsl6
              have Hpw := Lib.hid hpw
              obtain ⟨s7, hs7⟩ : ∃ x, x = s6.take T (decide (tok s6.rest = [125])) := ⟨_, rfl⟩
              have hl7 : s7.rest.length ≤ s6.rest.length := by rw [hs7]; exact take_len
              rw [← hs7] at hpw
              have Hpw := Lib.hid hpw
              have Hsl5 := Lib.hid (show s7.rest.length ≤ s0.rest.length from by omega)
              clear hpw Hth hdone hl7
              replace hst := hst.next hp6 hc12
              have z4 : w12.cell? ⟨nb, 4, none⟩ = some (.slice none 0 0) := hst.nd.cell 4
              have z4f : w12.frozen? ⟨nb, 4, none⟩ = false := hst.nd.free 4
              have hsub := (ho5.reads (S' := fun x => w11.heap.size ≤ x) (fun _ h => h) (fun _ h _ => h) ho5.len).chg ((Chg.refl (OneB nb) w12).setCell (p := ⟨nb, 4, none⟩) (.inl rfl) (.slice a5 ls.length cap5)) (fun x hx e => by have e : x = nb := e; omega)
              replace hst := hst.set 4 (.slice a5 ls.length cap5)
              simp only [ndCells, qE, qF] at hst
              clear hp6 hc12 ho5 cc
              go_wp2_with fail
              refine (word_any hst.prs).mono ?_
              rintro en w13 ⟨rfl, hc13⟩
              replace hst := hst.keep0 hc13
              replace hsub := hsub.chg0 hc13
              clear hc13 z4 z4f
              go_wp2_with fail
              refine (take_any (tok s6.rest == [125]) hst.prs).mono ?_
              rintro en w14 ⟨rfl, hp14, hc14⟩
              rw [beq_dec, ← hs7] at hp14
              replace hst := hst.next hp14 hc14
              replace hsub := hsub.chg hc14 (fun x hx e => by have e : x = b := e; omega)
              replace hsub := hsub.mono (S' := fun x => (w.heap.size ≤ x ∧ x ≠ nb) ∧ (Value.slice ao l.length cap).ownBlock ≠ some x) (fun x hx => ⟨⟨by omega, by omega⟩, fun e => by have := hob x e; omega⟩)
              clear hp14 hc14 hs7 hob
              have hcells := hst.nd
              have y0 : w14.cell? ⟨nb, 0, none⟩ = some (.int .i64 vi) := hcells.cell 0
              have y1 : w14.cell? ⟨nb, 1, none⟩ = some (.string ⟨vn.toArray⟩) := hcells.cell 1
              have y2 : w14.cell? ⟨nb, 2, none⟩ = some (.int .i64 vr) := hcells.cell 2
              have y3 : w14.cell? ⟨nb, 3, none⟩ = some (.int .i64 0) := hcells.cell 3
              have y4 : w14.cell? ⟨nb, 4, none⟩ = some (.slice a5 ls.length cap5) := hcells.cell 4
              clear hcells
              go_wp2_with (at_builtin; refine stop_here ?_)
              refine Stop.go ?_
              generalize hwA : World.alloc _ _ = wA
              have hcA : Chg NoB w14 wA := by
               rw [← hwA]
               repeat (first | exact Chg.refl _ _ | apply Chg.alloc | apply Chg.drew)
              have hbA : Blk wA (w14.heap.size) ([.int .i64 vi, .string ⟨vn.toArray⟩, .int .i64 vr, .int .i64 0, .slice a5 ls.length cap5]) 33 := by
               rw [← hwA]
               repeat (first | exact Blk.newAt (by first | rfl | (simp; done) | (simp; omega)) | apply Blk.alloc | apply Blk.drew)
              clear hwA y0 y1 y2 y3 y4
              replace hst := hst.keep0 hcA
              replace hsub := hsub.chg0 hcA
              have hownA := hst.own
              refine wpList_own rfl (.tmp 126) (.tmp 128) 31 rfl w.heap.size 33 Tryz.underlying31 infoNode rfl (by decide) rfl hownA rfl [itemDt vi ⟨vn.toArray⟩ vr 0 ls] _ rfl (ReadsC.single rfl (reads_item (hsub.mono ?_))) hbA.news (fun e => by cases e) ?_ ?_ ?_ ?_
              ·exact fun x hx => hx
              ·unfold maxLen; omega
              ·omega
              ·exact hst.chg.size
              intro ao2 cap2 wB hoB hcB hatB
              replace hcB : Chg (fun x => (Value.slice ao l.length cap).ownBlock = some x) wA wB := hcB
              go_wp2_with fail
              go_roundw
              case rel =>
               have hlow9 := hst.lt
               refine ⟨l ++ [itemDt vi ⟨vn.toArray⟩ vr 0 ls], s7, ao2, cap2, by rw [List.length_append]; rfl, hoB.mono (Nat.le_refl _) (fun x hx => hx.1), hst.prs.keep hcB (fun x hx e => by have := (hownA.block x e).1; omega), hst.chg.trans hcB (fun x e => .inr (hownA.block x e).1), Hpw.out, ?_⟩
               have := Hsl5.out
               omega
              case measure =>
               simp only [lenV]
               omega
             ·have hpw : PWant T deep s0.rest (l ++ [itemDt vi ⟨vn.toArray⟩ vr 0 []]) s5 := by
               rcases Hwh.out with ⟨_, h⟩ | ⟨h, _⟩ | ⟨h, _⟩
               ·exact h _
               ·exact absurd h h50
               ·exact absurd h h50
              have Hpw := Lib.hid hpw
              have Hsl5 := Lib.hid (show s5.rest.length ≤ s0.rest.length from by omega)
              have hsub := reads_none w11 (fun x => (w.heap.size ≤ x ∧ x ≠ nb) ∧ (Value.slice ao l.length cap).ownBlock ≠ some x)
              clear hpw Hwh
              have hcells := hst.nd
              have y0 : w11.cell? ⟨nb, 0, none⟩ = some (.int .i64 vi) := hcells.cell 0
              have y1 : w11.cell? ⟨nb, 1, none⟩ = some (.string ⟨vn.toArray⟩) := hcells.cell 1
              have y2 : w11.cell? ⟨nb, 2, none⟩ = some (.int .i64 vr) := hcells.cell 2
              have y3 : w11.cell? ⟨nb, 3, none⟩ = some (.int .i64 0) := hcells.cell 3
              have y4 : w11.cell? ⟨nb, 4, none⟩ = some (.slice none 0 0) := hcells.cell 4
              clear hcells
              go_wp2_with (at_builtin; refine stop_here ?_)
              refine Stop.go ?_
              generalize hwA : World.alloc _ _ = wA
              have hcA : Chg NoB w11 wA := by
               rw [← hwA]
               repeat (first | exact Chg.refl _ _ | apply Chg.alloc | apply Chg.drew)
              have hbA : Blk wA (w11.heap.size) ([.int .i64 vi, .string ⟨vn.toArray⟩, .int .i64 vr, .int .i64 0, .slice none 0 0]) 33 := by
               rw [← hwA]
               repeat (first | exact Blk.newAt (by first | rfl | (simp; done) | (simp; omega)) | apply Blk.alloc | apply Blk.drew)
              clear hwA y0 y1 y2 y3 y4
              replace hst := hst.keep0 hcA
              replace hsub := hsub.chg0 hcA
              have hownA := hst.own
              refine wpList_own rfl (.tmp 126) (.tmp 128) 31 rfl w.heap.size 33 Tryz.underlying31 infoNode rfl (by decide) rfl hownA rfl [itemDt vi ⟨vn.toArray⟩ vr 0 []] _ rfl (ReadsC.single rfl (reads_item (hsub.mono ?_))) hbA.news (fun e => by cases e) ?_ ?_ ?_ ?_
              ·exact fun x hx => hx
              ·unfold maxLen; omega
              ·omega
              ·exact hst.chg.size
              intro ao2 cap2 wB hoB hcB hatB
              replace hcB : Chg (fun x => (Value.slice ao l.length cap).ownBlock = some x) wA wB := hcB
              go_wp2_with fail
              go_roundw
              case rel =>
               have hlow9 := hst.lt
               refine ⟨l ++ [itemDt vi ⟨vn.toArray⟩ vr 0 []], s5, ao2, cap2, by rw [List.length_append]; rfl, hoB.mono (Nat.le_refl _) (fun x hx => hx.1), hst.prs.keep hcB (fun x hx e => by have := (hownA.block x e).1; omega), hst.chg.trans hcB (fun x e => .inr (hownA.block x e).1), Hpw.out, ?_⟩
               have := Hsl5.out
               omega
              case measure =>
               simp only [lenV]
               omega
          ·obtain ⟨s5, hs5⟩ : ∃ x, x = s4.take T (decide (tok s4.rest = [59])) := ⟨_, rfl⟩
           have hE : headEnd T deep kd s4 = s5 := by unfold headEnd; rw [if_neg hk, hs5]
           rw [hE] at hwh
           have hpw : PWant T deep s0.rest (l ++ [itemDt vi ⟨vn.toArray⟩ vr kd []]) s5 := by
            rcases hwh with ⟨_, h⟩ | ⟨_, _, h⟩ | ⟨_, h, _⟩
            ·exact h _
            ·exact h
            ·exact absurd h hk
           have hsl5 : s5.rest.length ≤ s0.rest.length := by
            have : s5.rest.length ≤ s4.rest.length := by rw [hs5]; exact take_len
            omega
           have Hsl5 := Lib.hid hsl5
           have Hpw := Lib.hid hpw
           clear hwh hE hpw hsl5
           go_wp2_with fail
           refine (word_any hst.prs).mono ?_
           rintro en w8 ⟨rfl, hc8⟩
           replace hst := hst.keep0 hc8
           clear hc8
           go_wp2_with fail
           refine (take_any (tok s4.rest == [59]) hst.prs).mono ?_
           rintro en w9 ⟨rfl, hp9, hc9⟩
           rw [beq_dec, ← hs5] at hp9
           replace hst := hst.next hp9 hc9
           have hsub := reads_none w9 (fun x => (w.heap.size ≤ x ∧ x ≠ nb) ∧ (Value.slice ao l.length cap).ownBlock ≠ some x)
           clear hp9 hc9 hs5 x3
           have hcells := hst.nd
           have y0 : w9.cell? ⟨nb, 0, none⟩ = some (.int .i64 vi) := hcells.cell 0
           have y1 : w9.cell? ⟨nb, 1, none⟩ = some (.string ⟨vn.toArray⟩) := hcells.cell 1
           have y2 : w9.cell? ⟨nb, 2, none⟩ = some (.int .i64 vr) := hcells.cell 2
           have y3 : w9.cell? ⟨nb, 3, none⟩ = some (.int .i64 kd) := hcells.cell 3
           have y4 : w9.cell? ⟨nb, 4, none⟩ = some (.slice none 0 0) := hcells.cell 4
           clear hcells
           go_wp2_with (at_builtin; refine stop_here ?_)
           refine Stop.go ?_
           generalize hwA : World.alloc _ _ = wA
           have hcA : Chg NoB w9 wA := by
            rw [← hwA]
            repeat (first | exact Chg.refl _ _ | apply Chg.alloc | apply Chg.drew)
           have hbA : Blk wA (w9.heap.size) ([.int .i64 vi, .string ⟨vn.toArray⟩, .int .i64 vr, .int .i64 kd, .slice none 0 0]) 33 := by
            rw [← hwA]
            repeat (first | exact Blk.newAt (by first | rfl | (simp; done) | (simp; omega)) | apply Blk.alloc | apply Blk.drew)
           clear hwA y0 y1 y2 y3 y4
           replace hst := hst.keep0 hcA
           replace hsub := hsub.chg0 hcA
           have hownA := hst.own
           refine wpList_own rfl (.tmp 126) (.tmp 128) 31 rfl w.heap.size 33 Tryz.underlying31 infoNode rfl (by decide) rfl hownA rfl [itemDt vi ⟨vn.toArray⟩ vr kd []] _ rfl (ReadsC.single rfl (reads_item (hsub.mono ?_))) hbA.news (fun e => by cases e) ?_ ?_ ?_ ?_
           ·exact fun x hx => hx
           ·unfold maxLen; omega
           ·omega
           ·exact hst.chg.size
           intro ao2 cap2 wB hoB hcB hatB
           replace hcB : Chg (fun x => (Value.slice ao l.length cap).ownBlock = some x) wA wB := hcB
           go_wp2_with fail
           go_roundw
           case rel =>
            have hlow9 := hst.lt
            refine ⟨l ++ [itemDt vi ⟨vn.toArray⟩ vr kd []], s5, ao2, cap2, by rw [List.length_append]; rfl, hoB.mono (Nat.le_refl _) (fun x hx => hx.1), hst.prs.keep hcB (fun x hx e => by have := (hownA.block x e).1; omega), hst.chg.trans hcB (fun x e => .inr (hownA.block x e).1), Hpw.out, ?_⟩
            have := Hsl5.out
            omega
           case measure =>
            simp only [lenV]
            omega
end Go.Proofs.YtkchmgjmecojcaaGreatDoor
