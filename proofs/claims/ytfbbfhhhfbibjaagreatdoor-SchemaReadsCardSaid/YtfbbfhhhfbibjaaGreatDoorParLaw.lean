/-
  The document's parser of a schema, in plain words, against the reader's own.
-/
import Derived.Test.YtfbbfhhhfbibjaaGreatDoorWordsLaw
import Derived.Test.YtfbbfhhhfbibjaaGreatDoorPackI
set_option linter.unusedVariables false
set_option linter.unusedSimpArgs false
namespace Go.Proofs.YtfbbfhhhfbibjaaGreatDoor
open Go.RowKit

structure PSt where
  rest : List UInt8
  code : Int
  at' : Int
def PSt.fail (T : Nat) (c : Int) (s : PSt) : PSt := if s.code = 0 then ⟨s.rest, c, (T : Int) - (s.rest.length : Int)⟩ else s
def PSt.take (T : Nat) (ok : Bool) (s : PSt) : PSt :=
  if s.code = 0 then (if ok = true ∧ s.rest ≠ [] then ⟨nxt s.rest, 0, s.at'⟩ else ⟨s.rest, 1, (T : Int) - (s.rest.length : Int)⟩) else s
theorem take_yes {T : Nat} {ok : Bool} {s : PSt} (h : s.code = 0) (h1 : ok = true) (h2 : s.rest ≠ []) : s.take T ok = ⟨nxt s.rest, 0, s.at'⟩ := by
  unfold PSt.take
  rw [if_pos h, if_pos ⟨h1, h2⟩]
theorem take_no {T : Nat} {ok : Bool} {s : PSt} (h : s.code = 0) (h1 : ok = false ∨ s.rest = []) : s.take T ok = ⟨s.rest, 1, (T : Int) - (s.rest.length : Int)⟩ := by
  unfold PSt.take
  rw [if_pos h, if_neg]
  rintro ⟨a, b⟩
  rcases h1 with h1 | h1
  · rw [h1] at a; cases a
  · exact b h1
theorem take_stick {T : Nat} {ok : Bool} {s : PSt} (h : s.code ≠ 0) : s.take T ok = s := by
  unfold PSt.take
  rw [if_neg h]
theorem take_len {T : Nat} {ok : Bool} {s : PSt} : (s.take T ok).rest.length ≤ s.rest.length := by
  unfold PSt.take
  split
  · split
    · exact nxt_le' _
    · exact Nat.le_refl _
  · exact Nat.le_refl _
theorem fail_len {T : Nat} {c : Int} {s : PSt} : (s.fail T c).rest.length ≤ s.rest.length := by
  unfold PSt.fail
  split <;> exact Nat.le_refl _

def repT3 : List ByteArray := repT.drop 1
def repF (t : List UInt8) : Int := 1 + idxT repT3 t
theorem repF_eq (t : List UInt8) (h : t ≠ []) : (1 ≤ idxT repT t ↔ 0 < repF t) ∧ (0 < repF t → idxT repT t = repF t) := by
  have h0 : ¬ (⟨#[]⟩ : ByteArray) = ⟨t.toArray⟩ := by
    intro e
    apply h
    have := congrArg (fun b => b.data.toList) e
    exact this.symm
  unfold repF repT3 repT idxT Lib.idxOfS
  simp only [List.drop_succ_cons, List.drop_zero, Lib.idxFromS, if_neg h0]
  split
  · simp
  · split
    · simp
    · split <;> simp
theorem repF_nil : repF [] = 0 := by rfl
theorem kind_nil : idxT kindT [] = -1 := by rfl

/-- The fourth to the last steps of a node's head. -/
def head4 (T : Nat) (s : PSt) : PSt :=
  let s1 := s.take T (decide (0 < repF (tok s.rest)))
  let s2 := s1.take T (decide (0 ≤ idxT kindT (tok s1.rest)))
  let s3 := s2.take T (headB (tok s2.rest))
  s3.take T (decide (0 < refId (tok s3.rest)))
def headEnd (T : Nat) (deep k : Int) (s : PSt) : PSt :=
  if k = 0 then
    let s5 := if tok s.rest = [123] ∧ deep = 6 then s.fail T 2 else s
    s5.take T (decide (tok s5.rest = [123]))
  else s.take T (decide (tok s.rest = [59]))
/-- What a node's head sets. -/
structure HeadV where
  rep : Int
  kind : Int
  name : List UInt8
  id : Int
def headV (T : Nat) (s : PSt) : HeadV :=
  let s1 := s.take T (decide (0 < repF (tok s.rest)))
  let s2 := s1.take T (decide (0 ≤ idxT kindT (tok s1.rest)))
  let s3 := s2.take T (headB (tok s2.rest))
  ⟨repF (tok s.rest), idxT kindT (tok s1.rest), tok s2.rest, refId (tok s3.rest)⟩

def badP (T : Nat) (r : List UInt8) : PSt := ⟨r, 1, (T : Int) - (r.length : Int)⟩
theorem take_yes' {T : Nat} {ok : Bool} {r : List UInt8} {a : Int} (h1 : ok = true) (h2 : r ≠ []) : PSt.take T ok ⟨r, 0, a⟩ = ⟨nxt r, 0, a⟩ := take_yes (s := ⟨r, 0, a⟩) rfl h1 h2
theorem take_no' {T : Nat} {ok : Bool} {r : List UInt8} {a : Int} (h1 : ok = false ∨ r = []) : PSt.take T ok ⟨r, 0, a⟩ = badP T r := take_no (s := ⟨r, 0, a⟩) rfl h1
theorem take_badP {T : Nat} {ok : Bool} {r : List UInt8} : PSt.take T ok (badP T r) = badP T r := take_stick (fun h => absurd (show (1 : Int) = 0 from h) (by decide))
theorem headEnd_stick {T : Nat} {deep k : Int} {s : PSt} (h : s.code ≠ 0) : headEnd T deep k s = s := by
  have hf : s.fail T 2 = s := by unfold PSt.fail; rw [if_neg h]
  unfold headEnd
  split
  · rw [hf]
    simp only [ite_self]
    rw [take_stick h]
  · rw [take_stick h]

theorem headEnd_badP {T : Nat} {deep k : Int} {r : List UInt8} : headEnd T deep k (badP T r) = badP T r := headEnd_stick (fun h => absurd (show (1 : Int) = 0 from h) (by decide))
theorem headEnd_leaf_no {T : Nat} {deep k a : Int} {r : List UInt8} (hk : ¬ k = 0) (h : ¬ tok r = [59]) : headEnd T deep k ⟨r, 0, a⟩ = badP T r := by
  unfold headEnd
  rw [if_neg hk, take_no' (.inl (decide_eq_false h))]
theorem headEnd_leaf {T : Nat} {deep k a : Int} {r : List UInt8} (hk : ¬ k = 0) (h : tok r = [59]) (hn : r ≠ []) : headEnd T deep k ⟨r, 0, a⟩ = ⟨nxt r, 0, a⟩ := by
  unfold headEnd
  rw [if_neg hk, take_yes' (decide_eq_true h) hn]
theorem headEnd_grp_no {T : Nat} {deep k a : Int} {r : List UInt8} (hk : k = 0) (h : ¬ tok r = [123]) : headEnd T deep k ⟨r, 0, a⟩ = badP T r := by
  unfold headEnd
  rw [if_pos hk]
  simp only [h, false_and, if_false, decide_false]
  exact take_no' (.inl rfl)
theorem headEnd_grp_deep {T : Nat} {deep k a : Int} {r : List UInt8} (hk : k = 0) (h : tok r = [123]) (hd : deep = 6) : headEnd T deep k ⟨r, 0, a⟩ = ⟨r, 2, (T : Int) - (r.length : Int)⟩ := by
  unfold headEnd
  rw [if_pos hk]
  simp only [h, hd, and_self, if_true]
  unfold PSt.fail
  rw [if_pos rfl]
  exact take_stick (fun h => absurd (show (2 : Int) = 0 from h) (by decide))
theorem headEnd_grp {T : Nat} {deep k a : Int} {r : List UInt8} (hk : k = 0) (h : tok r = [123]) (hn : r ≠ []) (hd : ¬ deep = 6) : headEnd T deep k ⟨r, 0, a⟩ = ⟨nxt r, 0, a⟩ := by
  unfold headEnd
  rw [if_pos hk]
  simp only [hd, and_false, if_false]
  exact take_yes' (decide_eq_true h) hn
def HeadIs (T : Nat) (deep : Int) (at0 : Int) (v : HeadV) (s : PSt) : Step → Prop
  | .stop => False
  | .bad e q => s.code = errNum (some e) ∧ s.at' = (T : Int) - (q.length : Int)
  | .leaf n q => v.kind ≠ 0 ∧ s = ⟨q, 0, at0⟩ ∧ n = .mk v.id ⟨v.name.toArray⟩ v.rep v.kind []
  | .group i nm p q => v.kind = 0 ∧ s = ⟨q, 0, at0⟩ ∧ i = v.id ∧ nm = ⟨v.name.toArray⟩ ∧ p = v.rep ∧ deep < 6

theorem head_chain (T : Nat) (deep : Int) (rest : List UInt8) (at0 : Int) (hd : deep ≤ 6) (hgo : ¬ (tok rest = [125] ∨ (tok rest = [] ∧ deep ≤ 2))) :
    HeadIs T deep at0 (headV T ⟨rest, 0, at0⟩) (headEnd T deep (headV T ⟨rest, 0, at0⟩).kind (head4 T ⟨rest, 0, at0⟩)) (headN deep rest) := by
  unfold headN
  rw [if_neg hgo]
  unfold headV head4
  try simp only []
  by_cases h0 : rest = []
  · subst h0
    rw [if_pos (show idxT repT (tok []) < 1 from by rw [show tok [] = [] from rfl, idx_nil]; decide)]
    rw [take_no' (.inr rfl)]
    try simp only [take_badP]
    rw [headEnd_badP]
    exact ⟨rfl, rfl⟩
  have hrep := repF_eq (tok rest) (fun e => h0 (tok_nil.1 e))
  by_cases h1 : idxT repT (tok rest) < 1
  · rw [if_pos h1]
    have hr : ¬ 0 < repF (tok rest) := fun h => by have := hrep.1.2 h; omega
    rw [take_no' (.inl (decide_eq_false hr))]
    try simp only [take_badP]
    rw [headEnd_badP]
    exact ⟨rfl, rfl⟩
  rw [if_neg h1]
  have hr : 0 < repF (tok rest) := hrep.1.1 (by omega)
  have hreq := hrep.2 hr
  rw [take_yes' (decide_eq_true hr) h0]
  try simp only []
  generalize nxt rest = r1
  by_cases h2 : idxT kindT (tok r1) < 0
  · rw [if_pos h2]
    rw [take_no' (.inl (decide_eq_false (by omega)))]
    try simp only [take_badP]
    rw [headEnd_badP]
    exact ⟨rfl, rfl⟩
  rw [if_neg h2]
  have hn1 : r1 ≠ [] := by
    rintro rfl
    exact h2 (by rw [show tok [] = [] from rfl, kind_nil]; decide)
  rw [take_yes' (decide_eq_true (by omega)) hn1]
  try simp only []
  generalize nxt r1 = r2
  by_cases h3 : headB (tok r2) = false
  · rw [if_pos h3]
    rw [take_no' (.inl h3)]
    try simp only [take_badP]
    rw [headEnd_badP]
    exact ⟨rfl, rfl⟩
  rw [if_neg h3]
  have hn2 : r2 ≠ [] := by
    rintro rfl
    exact h3 rfl
  rw [take_yes' (by simpa using h3) hn2]
  try simp only []
  generalize nxt r2 = r3
  have hid := wordId_ref r3
  cases hw : wordId (tok r3) with
  | none =>
    rw [hw] at hid
    simp only [] at hid ⊢
    rw [take_no' (.inl (decide_eq_false (by omega)))]
    rw [headEnd_badP]
    exact ⟨rfl, rfl⟩
  | some i =>
    rw [hw] at hid
    simp only [] at hid ⊢
    have hn3 : r3 ≠ [] := by
      rintro rfl
      cases hw
    rw [take_yes' (decide_eq_true (by omega)) hn3]
    try simp only []
    generalize nxt r3 = r4
    by_cases h4 : idxT kindT (tok r1) = 0
    · rw [if_pos h4]
      by_cases h5 : tok r4 = [123]
      · have hn4 : r4 ≠ [] := by
          rintro rfl
          cases h5
        rw [if_neg (show ¬ (tok r4 ≠ [123]) from fun h => h h5)]
        by_cases h6 : 6 ≤ deep
        · rw [if_pos h6, headEnd_grp_deep h4 h5 (by omega)]
          exact ⟨rfl, rfl⟩
        · rw [if_neg h6, headEnd_grp h4 h5 hn4 (by omega)]
          exact ⟨h4, rfl, hid.1.symm, rfl, hreq, by omega⟩
      · rw [if_pos (show tok r4 ≠ [123] from h5), headEnd_grp_no h4 h5]
        exact ⟨rfl, rfl⟩
    · rw [if_neg h4]
      by_cases h5 : tok r4 = [59]
      · have hn4 : r4 ≠ [] := by
          rintro rfl
          cases h5
        rw [if_neg (show ¬ (tok r4 ≠ [59]) from fun h => h h5), headEnd_leaf h4 h5 hn4]
        exact ⟨h4, rfl, by rw [hid.1, hreq]⟩
      · rw [if_pos (show tok r4 ≠ [59] from h5), headEnd_leaf_no h4 h5]
        exact ⟨rfl, rfl⟩

/-- Where a round stands. -/
def PWant (T : Nat) (deep : Int) (rest0 : List UInt8) (l : List Dt) (s : PSt) : Prop :=
  (s.code = 0 ∧ ∃ nds : List Nd, l = nds.map Nd.dt ∧ parseL deep rest0 = (parseL deep s.rest).app nds ∧ nds.length + s.rest.length ≤ rest0.length) ∨
  (s.code ≠ 0 ∧ (∃ e q, parseL deep rest0 = .bad e q ∧ s.code = errNum (some e) ∧ s.at' = (T : Int) - (q.length : Int)) ∧ l.length ≤ rest0.length + 1)
def PDone (T : Nat) (deep : Int) (rest0 : List UInt8) (l : List Dt) (s : PSt) : Prop :=
  (s.code = 0 ∧ ∃ nds : List Nd, l = nds.map Nd.dt ∧ parseL deep rest0 = .ok nds s.rest) ∨
  (s.code ≠ 0 ∧ (∃ e q, parseL deep rest0 = .bad e q ∧ s.code = errNum (some e) ∧ s.at' = (T : Int) - (q.length : Int)))
theorem PWant.len {T : Nat} {deep : Int} {rest0 : List UInt8} {l : List Dt} {s : PSt} (h : PWant T deep rest0 l s) : l.length ≤ rest0.length + 1 := by
  rcases h with ⟨_, nds, rfl, _, h⟩ | ⟨_, _, h⟩
  · rw [List.length_map]; omega
  · exact h
theorem want_start (T : Nat) (deep : Int) (s : PSt) (h : s.code = 0) : PWant T deep s.rest [] s :=
  .inl ⟨h, [], rfl, by cases parseL deep s.rest <;> rfl, by simp⟩
theorem want_stop {T : Nat} {deep : Int} {rest0 : List UInt8} {l : List Dt} {s : PSt} (h : PWant T deep rest0 l s) (hs : s.code = 0 → tok s.rest = [125] ∨ (tok s.rest = [] ∧ deep ≤ 2)) : PDone T deep rest0 l s := by
  rcases h with ⟨h0, nds, h1, h2, _⟩ | ⟨h0, h1, _⟩
  · refine .inl ⟨h0, nds, h1, ?_⟩
    rw [h2, parse_stop (show headN deep s.rest = .stop from if_pos (hs h0))]
    simp [PR.app]
  · exact .inr ⟨h0, h1⟩
theorem app_bad {n : List Nd} {e : Er} {q : List UInt8} : (PR.bad e q).app n = .bad e q := rfl

/-- A round: what behind the head is to be shown. -/
theorem want_head {T : Nat} {deep : Int} {rest0 : List UInt8} {l : List Dt} {s s5 : PSt} {v : HeadV} (hd : deep ≤ 6) (h : PWant T deep rest0 l s) (h0 : s.code = 0) (hgo : ¬ (tok s.rest = [125] ∨ (tok s.rest = [] ∧ deep ≤ 2)))
    (hv : v = headV T s) (h5 : s5 = headEnd T deep v.kind (head4 T s)) :
    (s5.code ≠ 0 ∧ ∀ d, PWant T deep rest0 (l ++ [d]) s5) ∨
    (s5.code = 0 ∧ v.kind ≠ 0 ∧ PWant T deep rest0 (l ++ [Nd.dt (.mk v.id ⟨v.name.toArray⟩ v.rep v.kind [])]) s5) ∨
    (s5.code = 0 ∧ v.kind = 0 ∧ deep < 6 ∧ s5.rest.length < rest0.length ∧ ∀ ls s6, PDone T (deep + 1) s5.rest ls s6 → s6.rest.length ≤ s5.rest.length →
      (∀ d, (s6.take T (decide (tok s6.rest = [125]))).code ≠ 0 → PWant T deep rest0 (l ++ [d]) (s6.take T (decide (tok s6.rest = [125])))) ∧
      ((s6.take T (decide (tok s6.rest = [125]))).code = 0 → ∃ sub : List Nd, ls = sub.map Nd.dt ∧ PWant T deep rest0 (l ++ [Nd.dt (.mk v.id ⟨v.name.toArray⟩ v.rep 0 sub)]) (s6.take T (decide (tok s6.rest = [125]))))) := by
  obtain ⟨rest, code, at0⟩ := s
  obtain rfl : code = 0 := h0
  rcases h with ⟨_, nds, rfl, hp, hlen⟩ | ⟨h1, _⟩
  · have hc := head_chain T deep rest at0 hd hgo
    rw [← hv, ← h5] at hc
    simp only at hp hlen hgo
    cases hh : headN deep rest with
    | stop => rw [hh] at hc; exact hc.elim
    | bad e q =>
      rw [hh] at hc
      refine .inl ⟨by rw [hc.1]; cases e <;> decide, fun d => .inr ⟨by rw [hc.1]; cases e <;> decide, ⟨e, q, ?_, hc.1, hc.2⟩, ?_⟩⟩
      · rw [hp, parse_bad hh]; rfl
      · simp only [List.length_append, List.length_map, List.length_singleton]; omega
    | leaf n q =>
      rw [hh] at hc
      obtain ⟨hk, rfl, hn⟩ := hc
      have hq := head_leaf hh
      refine .inr (.inl ⟨rfl, hk, .inl ⟨rfl, nds ++ [n], ?_, ?_, ?_⟩⟩)
      · rw [List.map_append, List.map_cons, List.map_nil, ← hn]
      · rw [hp, parse_leaf hh, PR.app_cons]
      · simp only [List.length_append, List.length_singleton]; omega
    | group i nm p q =>
      rw [hh] at hc
      obtain ⟨hk, rfl, rfl, rfl, rfl, hd6⟩ := hc
      have hq := (head_group hh).1
      refine .inr (.inr ⟨rfl, hk, hd6, by simp only; omega, ?_⟩)
      intro ls s6 hdone hl6
      simp only at hdone hl6
      rcases hdone with ⟨h60, sub, rfl, hsub⟩ | ⟨h60, e, q2, hb, hc6, ha6⟩
      · by_cases h125 : tok s6.rest = [125]
        · have hne : s6.rest ≠ [] := by
            intro e
            rw [e] at h125
            cases h125
          rw [take_yes h60 (decide_eq_true h125) hne]
          have hg := parse_group hh hsub h125
          refine ⟨fun d h => absurd rfl h, fun _ => ⟨sub, rfl, .inl ⟨rfl, nds ++ [Nd.mk v.id ⟨v.name.toArray⟩ v.rep 0 sub], ?_, ?_, ?_⟩⟩⟩
          · rw [List.map_append, List.map_cons, List.map_nil]
          · rw [hp, hg.1, PR.app_cons]
          · have := hg.2
            simp only [List.length_append, List.length_singleton]; omega
        · rw [take_no h60 (.inl (decide_eq_false h125))]
          refine ⟨fun d _ => .inr ⟨fun h => absurd (show (1 : Int) = 0 from h) (by decide), ⟨.text, s6.rest, ?_, rfl, rfl⟩, ?_⟩, fun h => absurd (show (1 : Int) = 0 from h) (by decide)⟩
          · rw [hp, parse_group_open hh hsub h125]; rfl
          · simp only [List.length_append, List.length_map, List.length_singleton]; omega
      · rw [take_stick h60]
        refine ⟨fun d _ => .inr ⟨h60, ⟨e, q2, ?_, hc6, ha6⟩, ?_⟩, fun h => absurd h h60⟩
        · rw [hp, parse_group_bad hh hb]; rfl
        · simp only [List.length_append, List.length_map, List.length_singleton]; omega
  · exact absurd rfl h1
end Go.Proofs.YtfbbfhhhfbibjaaGreatDoor
