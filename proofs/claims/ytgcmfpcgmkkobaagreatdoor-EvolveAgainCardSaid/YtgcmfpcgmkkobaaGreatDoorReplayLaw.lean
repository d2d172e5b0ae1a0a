/-
 Replay, in plain words; what holds along the way.
-/
import Derived.Test.YtgcmfpcgmkkobaaGreatDoorNumLaw
set_option linter.unusedVariables false
set_option linter.unusedSimpArgs false
namespace Go.Proofs.YtgcmfpcgmkkobaaGreatDoor
open Go.RowKit

inductive RepR where
 | ok (l : List Nd) (nx : Int) | bad (i : Nat) (e : EdEr) | many
def replayGo : Nat → List ByteArray → List Nd → Int → RepR
 | _, [], l, nx => .ok l nx
 | i, e :: es, l, nx => match editW (wordsB e) l nx with
  | .bad x => .bad i x
  | .ok l' nx' => if l'.isEmpty = true then replayGo (i + 1) es l' nx' else match validF (rootNd l') with
   | none => replayGo (i + 1) es l' nx'
   | some x => .bad i (.er x)
def replayF (es : List ByteArray) : RepR := if 60 < es.length then .many else replayGo 0 es [] 1
/-- One edit that is right. -/
def EStep (e : ByteArray) (l : List Nd) (nx : Int) (l' : List Nd) (nx' : Int) : Prop := editW (wordsB e) l nx = .ok l' nx' ∧ (l' = [] ∨ Fit l')
theorem fit_iff_valid {l : List Nd} : validF (rootNd l) = none ↔ Fit l := ⟨fun h => fit_of h, fun h => valid_of h⟩
theorem replay_step {i : Nat} {e : ByteArray} {es : List ByteArray} {l l' : List Nd} {nx nx' : Int} (h : EStep e l nx l' nx') : replayGo i (e :: es) l nx = replayGo (i + 1) es l' nx' := by
 rw [replayGo, h.1]
 dsimp only
 rcases h.2 with rfl | hf
 ·rfl
 ·rw [fit_iff_valid.2 hf]
  split <;> rfl
theorem replay_cons {i : Nat} {e : ByteArray} {es : List ByteArray} {l l2 : List Nd} {nx n2 : Int} (h : replayGo i (e :: es) l nx = .ok l2 n2) : ∃ l' nx', EStep e l nx l' nx' ∧ replayGo (i + 1) es l' nx' = .ok l2 n2 := by
 rw [replayGo] at h
 split at h
 ·cases h
 ·rename_i l' nx' he
  split at h
  ·rename_i hl
   exact ⟨l', nx', ⟨he, .inl (List.isEmpty_iff.1 hl)⟩, h⟩
  ·split at h
   ·rename_i hv
    exact ⟨l', nx', ⟨he, .inr (fit_iff_valid.1 hv)⟩, h⟩
   ·cases h
theorem replay_app : ∀ (a b : List ByteArray) (i : Nat) (l : List Nd) (nx : Int) (l2 : List Nd) (n2 : Int), replayGo i (a ++ b) l nx = .ok l2 n2 ↔ ∃ l' nx', replayGo i a l nx = .ok l' nx' ∧ replayGo (i + a.length) b l' nx' = .ok l2 n2
 | [], b, i, l, nx, l2, n2 => by
  constructor
  ·intro h; exact ⟨l, nx, rfl, h⟩
  ·rintro ⟨l', nx', h1, h2⟩
   cases h1
   exact h2
 | e :: a, b, i, l, nx, l2, n2 => by
  have hi : i + (e :: a).length = i + 1 + a.length := by simp only [List.length_cons]; omega
  rw [List.cons_append, hi]
  constructor
  ·intro h
   obtain ⟨l1, n1, h1, h3⟩ := replay_cons h
   obtain ⟨l', nx', h4, h5⟩ := (replay_app a b (i + 1) l1 n1 l2 n2).1 h3
   exact ⟨l', nx', by rw [replay_step h1]; exact h4, h5⟩
  ·rintro ⟨l', nx', h1, h2⟩
   obtain ⟨l1, n1, h3, h4⟩ := replay_cons h1
   rw [replay_step h3]
   exact (replay_app a b (i + 1) l1 n1 l2 n2).2 ⟨l', nx', h4, h2⟩
/-- The place in the list does not matter where all is right. -/
theorem replay_at : ∀ (a : List ByteArray) (i j : Nat) (l : List Nd) (nx : Int) (l2 : List Nd) (n2 : Int), replayGo i a l nx = .ok l2 n2 → replayGo j a l nx = .ok l2 n2
 | [], i, j, l, nx, l2, n2, h => h
 | e :: a, i, j, l, nx, l2, n2, h => by
  obtain ⟨l1, n1, h1, h3⟩ := replay_cons h
  rw [replay_step h1]
  exact replay_at a (i + 1) (j + 1) l1 n1 l2 n2 h3

theorem spl_noblank : ∀ l : List UInt8, ∀ w ∈ splB l, ∀ b ∈ w, b ≠ 32
 | [], w, h => by
  rw [splB, List.mem_singleton] at h
  subst h; simp
 | c :: l, w, h => by
  have ih := spl_noblank l
  rw [splB] at h
  split at h
  ·rcases List.mem_cons.1 h with rfl | h
   ·simp
   ·exact ih w h
  ·rename_i hc
   split at h
   ·rw [List.mem_singleton] at h
    subst h
    intro b hb
    rw [List.mem_singleton.1 hb]; exact hc
   ·rename_i x xs hx
    rcases List.mem_cons.1 h with rfl | h
    ·intro b hb
     rcases List.mem_cons.1 hb with rfl | hb
     ·exact hc
     ·exact ih x (by rw [hx]; exact List.mem_cons_self ..) b hb
    ·exact ih w (by rw [hx]; exact List.mem_cons_of_mem _ h)
/-- Words of a line, joined and parted again. -/
theorem words_rest {line : ByteArray} {a rest : List ByteArray} (h : wordsB line = a ++ rest) (hne : rest ≠ []) : wordsB (mkB (joinW rest)) = rest := by
 have h1 : ∀ w ∈ rest.map (fun x : ByteArray => x.data.toList), ∀ b ∈ w, b ≠ 32 := by
  intro w hw
  obtain ⟨x, hx, rfl⟩ := List.mem_map.1 hw
  have h2 : x ∈ wordsB line := by rw [h]; exact List.mem_append_right _ hx
  unfold wordsB at h2
  obtain ⟨y, hy, rfl⟩ := List.mem_map.1 h2
  rw [mkB_data]
  exact spl_noblank _ y hy
 have h2 : rest = (rest.map (fun x : ByteArray => x.data.toList)).map mkB := by
  rw [List.map_map]
  have : (mkB ∘ fun x : ByteArray => x.data.toList) = id := funext mkB_back
  rw [this, List.map_id]
 have h3 : joinW rest = joinL (rest.map (fun x : ByteArray => x.data.toList)) := by
  conv => lhs; rw [h2]
  exact joinW_mk _
 unfold wordsB
 rw [mkB_data, h3, spl_joinL _ (by simpa using hne) h1]
 exact h2.symm
/-- Any property of a node by itself that an edit keeps. -/
theorem editW_all {P : Nd → Prop} (hP : Flatly P) (hf : ∀ i n r k s n' k' r', P (.mk i n r k s) → P (.mk i n' r' k' s)) {ws : List ByteArray} {l l' : List Nd} {nx nx' : Int} (hs : Nd.Alls P l)
  (ht : ∀ line t, nodeF line nx = some (t, nx') → t.All P) (h : editW ws l nx = .ok l' nx') : Nd.Alls P l' := by
 match ws, h with
 | [], h => cases h
 | [_], h => cases h
 | w0 :: w1 :: rest, h =>
  simp only [editW] at h
  split at h
  ·unfold addF at h
   split at h
   ·cases h
   ·split at h
    ·cases h
    ·rename_i t nx2 hnd
     have f1 : nx2 = nx' → t.All P := fun e => ht _ _ (e ▸ hnd)
     split at h
     ·cases h
      exact alls_append _ _ hs ⟨f1 rfl, trivial⟩
     ·split at h
      ·cases h
      ·split at h
       ·cases h
        exact all_grpT hP (fun s h => all_setId (all_addSub hP (f1 rfl)) h) hs
       ·cases h
  ·split at h
   ·cases h
   ·split at h
    ·cases h
    ·split at h
     ·cases h
     ·rename_i id hid
      have key : ∀ (w2 : ByteArray) (pl : Int), opF w0 w2 id pl l nx = .ok l' nx' → Nd.Alls P l' := by
       intro w2 pl h
       unfold opF at h
       split at h
       ·cases h
       ·split at h
        ·cases h
         exact all_sub (fun _ hn => (List.mem_filter.1 hn).1) (all_dropL hP l hs)
        ·split at h
         ·split at h
          ·cases h
           refine all_grpT hP (fun s h => all_setId (fun n hn => ?_) h) hs
           cases n
           exact ⟨hf _ _ _ _ _ _ _ _ hn.1, hn.2⟩
          ·cases h
         ·split at h
          ·split at h
           ·cases h
           ·split at h
            ·cases h
            ·cases h
             exact all_grpT hP (fun s h => all_sub movTo_mem h) hs
          ·split at h
           ·split at h
            ·cases h
             refine all_grpT hP (fun s h => all_setId (fun n hn => ?_) h) hs
             cases n
             exact ⟨hf _ _ _ _ _ _ _ _ hn.1, hn.2⟩
            ·cases h
           ·split at h
            ·cases h
             refine all_grpT hP (fun s h => all_setId (fun n hn => ?_) h) hs
             cases n
             exact ⟨hf _ _ _ _ _ _ _ _ hn.1, hn.2⟩
            ·cases h
      split at h
      ·split at h
       ·cases h
       ·split at h
        ·cases h
        ·exact key _ _ h
      ·exact key _ _ h
mutual
theorem ids_all {P : Int → Prop} : ∀ n : Nd, n.All (fun n => P n.id) ↔ ∀ x ∈ idsN n, P x
 | .mk i nm r k s => by
  show P i ∧ Nd.Alls (fun n => P n.id) s ↔ _
  rw [ids_alls s]
  simp [idsN]
theorem ids_alls {P : Int → Prop} : ∀ l : List Nd, Nd.Alls (fun n => P n.id) l ↔ ∀ x ∈ idsL l, P x
 | [] => by simp [Nd.Alls, idsL]
 | n :: ns => by
  show n.All (fun n => P n.id) ∧ Nd.Alls (fun n => P n.id) ns ↔ _
  rw [ids_all n, ids_alls ns]
  simp only [idsL, List.mem_append]
  exact ⟨fun h x hx => hx.elim (h.1 x) (h.2 x), fun h => ⟨fun x hx => h x (.inl hx), fun x hx => h x (.inr hx)⟩⟩
end
theorem nx_mono {line : ByteArray} {l l' : List Nd} {nx nx' : Int} (h : editW (wordsB line) l nx = .ok l' nx') : nx' = nx ∨ ∃ ln t0, (ln : ByteArray).size ≤ line.size ∧ Fit [renN 1 t0] ∧ t0.All Plainly ∧ wordsB ln = (wordsN t0).map mkB ∧ nodeF ln nx = some (renN nx t0, nx') ∧ nx' = nx + t0.weigh := by
 generalize hwb : wordsB line = ws at h
 match ws, h with
 | [], h => cases h
 | [_], h => cases h
 | w0 :: w1 :: rest, h =>
  simp only [editW] at h
  split at h
  ·rename_i hadd
   obtain ⟨x, r, rfl⟩ : ∃ x r, rest = x :: r := by
    cases rest with
    | nil => exact absurd rfl hadd.2
    | cons x r => exact ⟨x, r, rfl⟩
   have hjr := join_rest hwb
   have hsz : (mkB (joinW (x :: r))).size ≤ line.size := by rw [mkB_sz]; exact hjr
   unfold addF at h
   split at h
   ·cases h
   ·split at h
    ·cases h
    ·rename_i t nx2 hnd
     have hnd2 := hnd
     obtain ⟨t0, f1, f2, f3, rfl, rfl⟩ := nodeF_some hnd
     have key : nx + (t0.weigh : Int) = nx' → nx' = nx ∨ ∃ ln t0, (ln : ByteArray).size ≤ line.size ∧ Fit [renN 1 t0] ∧ t0.All Plainly ∧ wordsB ln = (wordsN t0).map mkB ∧ nodeF ln nx = some (renN nx t0, nx') ∧ nx' = nx + t0.weigh := by
      rintro rfl
      exact .inr ⟨_, t0, hsz, f1, f2, f3, hnd2, rfl⟩
     split at h
     ·exact key (EdR.ok.inj h).2
     ·split at h
      ·cases h
      ·split at h
       ·exact key (EdR.ok.inj h).2
       ·cases h
  ·left
   split at h
   ·cases h
   ·split at h
    ·cases h
    ·split at h
     ·cases h
     ·have key : ∀ (w2 : ByteArray) (id pl : Int), opF w0 w2 id pl l nx = .ok l' nx' → nx' = nx := by
       intro w2 id pl h
       unfold opF at h
       repeat' split at h
       all_goals first | (cases h; done) | exact ((EdR.ok.inj h).2).symm
      split at h
      ·split at h
       ·cases h
       ·split at h
        ·cases h
        ·exact key _ _ _ h
      ·exact key _ _ _ h
mutual
theorem word_sum : ∀ n : Nd, n.All Plainly → 15 * n.weigh ≤ (blankS (wordsN n)).length
 | .mk i nm r k s, hA => by
  obtain ⟨⟨b1, b2, b3, b4, b5, b6, b7⟩, hs⟩ := hA
  simp only [Nd.rep, Nd.kind, Nd.sub, Nd.name] at b1 b2 b3 b4 b5 b6 b7
  have h1 := words_sum s hs
  have h3 : 1 ≤ nm.data.toList.length := by
   unfold isNameB at b7
   simp only [Bool.and_eq_true, decide_eq_true_eq] at b7
   have := b7.1.1
   rw [length_data]; omega
  have h4 : 8 ≤ (repS r).length := by
   obtain rfl | rfl | rfl : r = 1 ∨ r = 2 ∨ r = 3 := by omega
   all_goals decide
  have h5 : 3 ≤ (kindS k).length := by
   obtain rfl | rfl | rfl | rfl | rfl | rfl : k = 0 ∨ k = 1 ∨ k = 2 ∨ k = 3 ∨ k = 4 ∨ k = 5 := by omega
   all_goals decide
  simp only [wordsN, Nd.weigh]
  split
  ·simp only [List.cons_append, List.nil_append, blankS_cons, blankS_app, List.length_cons, List.length_append]
   omega
  ·rename_i hk
   have hs0 := b5 hk
   subst hs0
   simp only [blankS_cons, List.length_cons, List.length_append, Nd.weighs, List.length_nil]
   omega
theorem words_sum : ∀ l : List Nd, Nd.Alls Plainly l → 15 * Nd.weighs l ≤ (blankS (wordsNs l)).length
 | [], _ => by simp [Nd.weighs]
 | n :: ns, hA => by
  have h1 := word_sum n hA.1
  have h2 := words_sum ns hA.2
  simp only [wordsNs, blankS_app, List.length_append, Nd.weighs]
  omega
end
theorem words_size2 {line : ByteArray} {ws : List (List UInt8)} (hw : wordsB line = ws.map mkB) (hne : ws ≠ []) : (blankS ws).length = line.size + 1 := by
 have h1 := joinW_words line
 rw [hw, joinW_mk] at h1
 rw [blankS_join ws hne, List.length_cons, h1, length_data]
/-- The state along the way. -/
structure Sound (l : List Nd) (nx : Int) : Prop where
 fit : l = [] ∨ Fit l
 pos : 1 ≤ nx
 ids : ∀ x ∈ idsL l, x < nx
theorem sound0 : Sound [] 1 := ⟨.inl rfl, Int.le_refl _, fun x hx => by simp [idsL] at hx⟩
theorem Sound.step {e : ByteArray} {l l' : List Nd} {nx nx' : Int} (h : Sound l nx) (hs : EStep e l nx l' nx') : Sound l' nx' ∧ nx ≤ nx' ∧ 14 * (nx' - nx) ≤ e.size := by
 have hm := nx_mono hs.1
 have hle : nx ≤ nx' ∧ 14 * (nx' - nx) ≤ e.size := by
  rcases hm with rfl | ⟨ln, t0, h1, h2, h3, h4, h5, rfl⟩
  ·omega
  ·have h6 := word_sum t0 h3
   rw [words_size2 h4 (wordsN_ne t0)] at h6
   have h7 : 1 ≤ t0.weigh := by cases t0; simp only [Nd.weigh]; omega
   omega
 refine ⟨⟨hs.2, by have := h.pos; omega, ?_⟩, hle⟩
 rw [← ids_alls (P := fun x => x < nx')]
 refine editW_all (P := fun n => n.id < nx') (fun _ _ _ _ _ _ h => h) (fun _ _ _ _ _ _ _ _ h => h) ?_ ?_ hs.1
 ·rw [ids_alls (P := fun x => x < nx')]
  exact fun x hx => Int.lt_of_lt_of_le (h.ids x hx) hle.1
 ·intro line t hnd
  obtain ⟨t0, _, _, _, rfl, rfl⟩ := nodeF_some hnd
  rw [ids_all (P := fun x => x < nx + t0.weigh)]
  exact fun x hx => (ren_ids nx t0 x hx).2
theorem Sound.go : ∀ (es : List ByteArray) (i : Nat) (l l' : List Nd) (nx nx' : Int), Sound l nx → replayGo i es l nx = .ok l' nx' → Sound l' nx' ∧ nx ≤ nx' ∧ 14 * (nx' - nx) ≤ ((es.map ByteArray.size).sum : Nat)
 | [], i, l, l', nx, nx', h, hr => by
  cases hr
  exact ⟨h, Int.le_refl _, by simp⟩
 | e :: es, i, l, l', nx, nx', h, hr => by
  obtain ⟨l1, n1, h1, h3⟩ := replay_cons hr
  obtain ⟨a1, a2, a3⟩ := h.step h1
  obtain ⟨b1, b2, b3⟩ := Sound.go es (i + 1) l1 l' n1 nx' a1 h3
  refine ⟨b1, by omega, ?_⟩
  rw [List.map_cons, List.sum_cons]
  omega
end Go.Proofs.YtgcmfpcgmkkobaaGreatDoor
