/-
  What stands behind edits, against what stood ahead; the plain law.; A datum carried: to the same node, to a later one, on the way; the plain law.; EvolveGrows' plain law: three stages of a schema, and what is carried along.; What the row's list gives: the package's variables.
-/
import Derived.Test.YtgcmfpcgmkkobaaGreatDoorReplayLaw
import Derived.Test.YtgcmfpcgmkkobaaGreatDoorEditAll
import Derived.Test.YtgcmfpcgmkkobaaGreatDoorWordsLaw
import Derived.Test.YtgcmfpcgmkkobaaGreatDoorCarry
import Derived.Test.YtgcmfpcgmkkobaaGreatDoorParse
import Derived.OpenShut
import Derived.LaidLaws
set_option linter.unusedVariables false
set_option linter.unusedSimpArgs false
namespace Go.Proofs.YtgcmfpcgmkkobaaGreatDoor
open Go.RowKit
def Up (st : Bool) (x y : Kn) : Prop := x.1.id = y.1.id ∧ x.2 = y.2 ∧ (x.1.kind = y.1.kind ∨ x.1.kind = 2 ∧ y.1.kind = 3) ∧ (x.1.rep = y.1.rep ∨ st = false ∧ x.1.rep = 1 ∧ y.1.rep = 2)
theorem Up.refl (st : Bool) (x : Kn) : Up st x x := ⟨rfl, rfl, .inl rfl, .inl rfl⟩
theorem Up.trans {st : Bool} {x y z : Kn} (h1 : Up st x y) (h2 : Up st y z) : Up st x z := by
 obtain ⟨a1, a2, a3, a4⟩ := h1
 obtain ⟨b1, b2, b3, b4⟩ := h2
 refine ⟨a1.trans b1, a2.trans b2, by omega, ?_⟩
 rcases a4 with a4 | ⟨e, a4, a5⟩
 ·rcases b4 with b4 | ⟨e, b4, b5⟩
  ·exact .inl (a4.trans b4)
  ·exact .inr ⟨e, a4.trans b4, b5⟩
 ·rcases b4 with b4 | ⟨_, b4, b5⟩
  ·exact .inr ⟨e, a4, b4.symm.trans a5⟩
  ·omega
theorem Up.loose {st : Bool} {x y : Kn} (h : Up st x y) : Up false x y := ⟨h.1, h.2.1, h.2.2.1, h.2.2.2.imp id fun e => ⟨rfl, e.2⟩⟩
def Past (st : Bool) (n : Int) (A B : List Kn) : Prop := ∀ y ∈ B, y.1.id < n → ∃ x ∈ A, Up st x y
theorem Past.refl (st : Bool) (n : Int) (A : List Kn) : Past st n A A := fun y hy _ => ⟨y, hy, Up.refl _ _⟩
theorem Past.trans {st : Bool} {n m : Int} {A B C : List Kn} (hnm : n ≤ m) (h1 : Past st n A B) (h2 : Past st m B C) : Past st n A C := fun z hz hn => by
 obtain ⟨y, hy, h3⟩ := h2 z hz (by omega)
 obtain ⟨x, hx, h4⟩ := h1 y hy (by rw [h3.1]; exact hn)
 exact ⟨x, hx, h4.trans h3⟩
theorem Past.loose {st : Bool} {n : Int} {A B : List Kn} (h : Past st n A B) : Past false n A B := fun y hy hn => by
 obtain ⟨x, hx, h3⟩ := h y hy hn
 exact ⟨x, hx, h3.loose⟩
theorem Past.app {st : Bool} {n : Int} {A A' B B' : List Kn} (h1 : Past st n A A') (h2 : Past st n B B') : Past st n (A ++ B) (A' ++ B') := fun y hy hn => by
 rcases List.mem_append.1 hy with hy | hy
 ·obtain ⟨x, hx, h3⟩ := h1 y hy hn
  exact ⟨x, List.mem_append_left _ hx, h3⟩
 ·obtain ⟨x, hx, h3⟩ := h2 y hy hn
  exact ⟨x, List.mem_append_right _ hx, h3⟩
theorem Past.node {st : Bool} {n : Int} {i p r k r' k' : Int} {nm nm' : ByteArray} {s s' : List Nd} (hk : k = k' ∨ k = 2 ∧ k' = 3) (hr : r = r' ∨ st = false ∧ r = 1 ∧ r' = 2) (h : Past st n (knL i s) (knL i s')) :
  Past st n (knN p (.mk i nm r k s)) (knN p (.mk i nm' r' k' s')) := fun y hy hn => by
 rw [knN] at hy ⊢
 rcases List.mem_cons.1 hy with rfl | hy
 ·exact ⟨_, List.mem_cons_self .., rfl, rfl, hk, hr⟩
 ·obtain ⟨x, hx, h3⟩ := h y hy hn
  exact ⟨x, List.mem_cons_of_mem _ hx, h3⟩
theorem knL_flat (p : Int) : ∀ l : List Nd, knL p l = l.flatMap (knN p)
 | [] => rfl
 | n :: ns => by rw [knL, knL_flat p ns, List.flatMap_cons]
theorem knL_mem {p : Int} {l : List Nd} {y : Kn} : y ∈ knL p l ↔ ∃ n ∈ l, y ∈ knN p n := by rw [knL_flat, List.mem_flatMap]
theorem kn_self (p : Int) (n : Nd) : (n, p) ∈ knN p n := by cases n; exact List.mem_cons_self ..
theorem kn_top {p : Int} {l : List Nd} {c : Nd} (h : c ∈ l) : (c, p) ∈ knL p l := knL_mem.2 ⟨c, h, kn_self p c⟩
mutual
theorem past_grpN {st : Bool} {n id : Int} {T : List Kn} {g : List Nd → List Nd} (hg : ∀ (p : Int) (s : List Nd), (∀ x ∈ knL p s, x ∈ T) → Past st n (knL p s) (knL p (g s))) : ∀ (p : Int) (m : Nd), (∀ x ∈ knN p m, x ∈ T) → Past st n (knN p m) (knN p (grpN id g m))
 | p, .mk i nm r k s, hT => by
  have e : grpN id g (.mk i nm r k s) = .mk i nm r k (grpT id g s) := by rw [grpN_eq]; rfl
  rw [e]
  exact Past.node (.inl rfl) (.inl rfl) (past_grpT hg i s fun x hx => hT x (List.mem_cons_of_mem _ hx))
theorem past_grpT {st : Bool} {n id : Int} {T : List Kn} {g : List Nd → List Nd} (hg : ∀ (p : Int) (s : List Nd), (∀ x ∈ knL p s, x ∈ T) → Past st n (knL p s) (knL p (g s))) : ∀ (p : Int) (l : List Nd), (∀ x ∈ knL p l, x ∈ T) → Past st n (knL p l) (knL p (grpT id g l))
 | p, l, hT => by
  by_cases ha : (l.any fun c => decide (c.id = id)) = true
  ·have e : grpT id g l = g l := if_pos ha
   rw [e]
   exact hg p l hT
  ·have e : grpT id g l = grpL id g l := if_neg ha
   rw [e]
   exact past_grpL hg p l hT
theorem past_grpL {st : Bool} {n id : Int} {T : List Kn} {g : List Nd → List Nd} (hg : ∀ (p : Int) (s : List Nd), (∀ x ∈ knL p s, x ∈ T) → Past st n (knL p s) (knL p (g s))) : ∀ (p : Int) (l : List Nd), (∀ x ∈ knL p l, x ∈ T) → Past st n (knL p l) (knL p (grpL id g l))
 | p, [], _ => Past.refl _ _ _
 | p, m :: ms, hT => by
  rw [grpL, knL, knL]
  exact (past_grpN hg p m fun x hx => hT x (List.mem_append_left _ hx)).app (past_grpL hg p ms fun x hx => hT x (List.mem_append_right _ hx))
end
theorem past_setId {st : Bool} {n id : Int} {T : List Kn} {f : Nd → Nd} (hf : ∀ (p : Int) (c : Nd), c.id = id → (∀ x ∈ knN p c, x ∈ T) → Past st n (knN p c) (knN p (f c))) (p : Int) (s : List Nd) (hT : ∀ x ∈ knL p s, x ∈ T) : Past st n (knL p s) (knL p (setId id f s)) := by
 intro y hy hn
 obtain ⟨c', hc', hy⟩ := knL_mem.1 hy
 unfold setId at hc'
 obtain ⟨c, hc, rfl⟩ := List.mem_map.1 hc'
 split at hy
 ·rename_i hid
  obtain ⟨x, hx, hu⟩ := hf p c hid (fun x hx => hT x (knL_mem.2 ⟨c, hc, hx⟩)) y hy hn
  exact ⟨x, knL_mem.2 ⟨c, hc, hx⟩, hu⟩
 ·exact ⟨y, knL_mem.2 ⟨c, hc, hy⟩, Up.refl _ _⟩
theorem past_sub {st : Bool} {n p : Int} {s s' : List Nd} (h : ∀ c ∈ s', c ∈ s) : Past st n (knL p s) (knL p s') := fun y hy _ => by
 obtain ⟨c, hc, hy⟩ := knL_mem.1 hy
 exact ⟨y, knL_mem.2 ⟨c, h c hc, hy⟩, Up.refl _ _⟩
mutual
theorem past_dropN {st : Bool} {n id : Int} : ∀ (p : Int) (m : Nd), Past st n (knN p m) (knN p (dropN id m))
 | p, .mk i nm r k s => by
  rw [dropN]
  refine Past.node (.inl rfl) (.inl rfl) fun y hy hn => ?_
  obtain ⟨c, hc, hy⟩ := knL_mem.1 hy
  exact past_dropL i s y (knL_mem.2 ⟨c, (List.mem_filter.1 hc).1, hy⟩) hn
theorem past_dropL {st : Bool} {n id : Int} : ∀ (p : Int) (l : List Nd), Past st n (knL p l) (knL p (dropL id l))
 | p, [] => Past.refl _ _ _
 | p, m :: ms => by
  rw [dropL, knL, knL]
  exact (past_dropN p m).app (past_dropL p ms)
end
theorem past_new {st : Bool} {n p : Int} {s : List Nd} {t : Nd} (ht : ∀ x ∈ idsN t, n ≤ x) : Past st n (knL p s) (knL p (s ++ [t])) := fun y hy hn => by
 rw [knL_append] at hy
 rcases List.mem_append.1 hy with hy | hy
 ·exact ⟨y, hy, Up.refl _ _⟩
 ·simp only [knL, List.append_nil] at hy
  have h1 : y.1.id ∈ idsN t := by rw [← knN_ids p t]; exact List.mem_map_of_mem (f := fun x : Kn => x.1.id) hy
  have := ht _ h1
  omega
mutual
theorem fnd_knN {id : Int} : ∀ (p : Int) (m q : Nd), fndN id m = some q → q.id = id ∧ ∃ p', (q, p') ∈ knN p m
 | p, .mk i nm r k s, q, h => by
  rw [fndN] at h
  split at h
  ·rename_i e
   cases h; exact ⟨e, p, List.mem_cons_self ..⟩
  ·obtain ⟨h0, p', h1⟩ := fnd_knL i s q h
   exact ⟨h0, p', List.mem_cons_of_mem _ h1⟩
theorem fnd_knL {id : Int} : ∀ (p : Int) (l : List Nd) (q : Nd), fndL id l = some q → q.id = id ∧ ∃ p', (q, p') ∈ knL p l
 | p, [], q, h => by cases h
 | p, m :: ms, q, h => by
  rw [fndL] at h
  split at h
  ·rename_i x hx
   cases h
   obtain ⟨h0, p', h1⟩ := fnd_knN p m _ hx
   exact ⟨h0, p', List.mem_append_left _ h1⟩
  ·obtain ⟨h0, p', h1⟩ := fnd_knL p ms q h
   exact ⟨h0, p', List.mem_append_right _ h1⟩
end
theorem past_op {st : Bool} {w0 w2 : ByteArray} {id pl : Int} {l l' : List Nd} {nx nx' : Int} (hn : (idsL l).Nodup) (hlo : st = true → w0 = bDrop ∨ w0 = bRename ∨ w0 = bMove ∨ w0 = bWiden) (h : opF w0 w2 id pl l nx = .ok l' nx') : Past st nx (knL 0 l) (knL 0 l') := by
 unfold opF at h
 split at h
 ·cases h
 rename_i q hq
 have hone : ∀ (p : Int) (c : Nd), c.id = id → (∀ x ∈ knN p c, x ∈ knL 0 l) → c = q := fun p c hc hT => by
  obtain ⟨h0, p', h1⟩ := fnd_knL 0 l q hq
  have h2 := eq_of_kid (by rw [knL_ids]; exact hn) (hT _ (kn_self p c)) h1 (hc.trans h0.symm)
  exact congrArg Prod.fst h2
 split at h
 ·cases h
  exact fun y hy hb => by
   obtain ⟨c, hc, hy⟩ := knL_mem.1 hy
   exact past_dropL 0 l y (knL_mem.2 ⟨c, (List.mem_filter.1 hc).1, hy⟩) hb
 split at h
 ·split at h
  ·cases h
   exact past_grpT (past_setId fun p c _ _ => by cases c; exact Past.node (.inl rfl) (.inl rfl) (Past.refl _ _ _)) 0 l fun x hx => hx
  ·cases h
 split at h
 ·split at h
  ·cases h
  ·split at h
   ·cases h
   ·cases h
    exact past_grpT (T := knL 0 l) (fun p s _ => past_sub movTo_mem) 0 l fun x hx => hx
 split at h
 ·split at h
  ·rename_i hk
   cases h
   refine past_grpT (past_setId fun p c hc hT => ?_) 0 l fun x hx => hx
   have e := hone p c hc hT
   subst e
   cases c
   exact Past.node (.inr ⟨hk, rfl⟩) (.inl rfl) (Past.refl _ _ _)
  ·cases h
 ·split at h
  ·rename_i h1 h2 h3 h4 hr
   have hst : st = false := by
    cases st with
    | false => rfl
    | true => rcases hlo rfl with e | e | e | e <;> contradiction
   cases h
   refine past_grpT (past_setId fun p c hc hT => ?_) 0 l fun x hx => hx
   have e := hone p c hc hT
   subst e
   cases c
   exact Past.node (.inl rfl) (.inr ⟨hst, hr, rfl⟩) (Past.refl _ _ _)
  ·cases h
theorem past_edit {st : Bool} {ws : List ByteArray} {l l' : List Nd} {nx nx' : Int} (hn : (idsL l).Nodup) (hlo : st = true → ∀ w1 r, ws ≠ bLoosen :: w1 :: r) (h : editW ws l nx = .ok l' nx') : Past st nx (knL 0 l) (knL 0 l') := by
 match ws, hlo, h with
 | [], _, h => cases h
 | [_], _, h => cases h
 | w0 :: w1 :: rest, hlo, h =>
  simp only [editW] at h
  split at h
  ·unfold addF at h
   split at h
   ·cases h
   ·split at h
    ·cases h
    ·rename_i t nx2 hnd
     have ht : ∀ x ∈ idsN t, nx ≤ x := by
      obtain ⟨t0, _, _, _, rfl, _⟩ := nodeF_some hnd
      exact fun x hx => (ren_ids nx t0 x hx).1
     split at h
     ·cases h
      exact past_new ht
     ·split at h
      ·cases h
      ·split at h
       ·cases h
        refine past_grpT (T := knL 0 l) (past_setId fun p c _ _ => ?_) 0 l fun x hx => hx
        cases c
        exact Past.node (.inl rfl) (.inl rfl) (past_new ht)
       ·cases h
  ·split at h
   ·cases h
   ·rename_i k hk
    have hlo2 : st = true → w0 = bDrop ∨ w0 = bRename ∨ w0 = bMove ∨ w0 = bWiden := fun e => by
     rcases many_cases hk with ⟨_, h1 | h1 | h1⟩ | ⟨_, h1 | h1⟩
     ·exact .inl h1
     ·exact .inr (.inr (.inr h1))
     ·exact absurd (by rw [h1]) (hlo e w1 rest)
     ·exact .inr (.inl h1)
     ·exact .inr (.inr (.inl h1))
    split at h
    ·cases h
    ·split at h
     ·cases h
     ·split at h
      ·split at h
       ·cases h
       ·split at h
        ·cases h
        ·exact past_op hn hlo2 h
      ·exact past_op hn hlo2 h
theorem Sound.nodup {l : List Nd} {nx : Int} (h : Sound l nx) : (idsL l).Nodup := by
 rcases h.fit with rfl | h
 ·exact List.nodup_nil
 ·exact h.nodup
theorem Sound.past {st : Bool} : ∀ (es : List ByteArray) (i : Nat) (l l' : List Nd) (nx nx' : Int), Sound l nx → (st = true → ∀ e ∈ es, ∀ w1 r, wordsB e ≠ bLoosen :: w1 :: r) → replayGo i es l nx = .ok l' nx' → Past st nx (knL 0 l) (knL 0 l')
 | [], i, l, l', nx, nx', h, _, hr => by
  cases hr
  exact Past.refl _ _ _
 | e :: es, i, l, l', nx, nx', h, hlo, hr => by
  obtain ⟨l1, n1, h1, h3⟩ := replay_cons hr
  obtain ⟨a1, a2, _⟩ := h.step h1
  exact (past_edit h.nodup (fun e9 => hlo e9 e (List.mem_cons_self ..)) h1.1).trans a2 (Sound.past es (i + 1) l1 l' n1 nx' a1 (fun e9 e8 he => hlo e9 e8 (List.mem_cons_of_mem _ he)) h3)
theorem no_loose {e : ByteArray} (h : ¬ (6 < e.size ∧ e.data.toList.take 6 = [108, 111, 111, 115, 101, 110])) : ∀ w1 r, wordsB e ≠ bLoosen :: w1 :: r := by
 intro w1 r hw
 have h1 := joinW_words e
 rw [hw, joinW] at h1
 have h2 : blanks (w1 :: r) = 32 :: (w1.data.toList ++ blanks r) := by simp [blanks]
 rw [h2] at h1
 apply h
 rw [← h1]
 refine ⟨?_, rfl⟩
 rw [← length_data, ← h1]
 simp only [List.length_append, List.length_cons]
 have : bLoosen.data.toList.length = 6 := rfl
 omega
theorem same_past {st : Bool} {n : Int} {X Y : List Nd} (hX : (idsL X).Nodup) (hlt : ∀ x ∈ idsL X, x < n) (h : Past st n (knL 0 X) (knL 0 Y)) : sameF (knL 0 X) (knL 0 Y) = true := by
 unfold sameF
 rw [List.all_eq_true]
 intro x hx
 rw [List.all_eq_true]
 intro y hy
 by_cases he : x.1.id = y.1.id
 ·have hxn : x.1.id < n := hlt _ (by rw [← knL_ids 0 X]; exact List.mem_map_of_mem (f := fun x : Kn => x.1.id) hx)
  obtain ⟨x', hx', hu⟩ := h y hy (by omega)
  have e := eq_of_kid (by rw [knL_ids]; exact hX) hx' hx (hu.1.trans he.symm)
  subst e
  obtain ⟨h1, h2, h3, h4⟩ := hu
  have hp : pairB x' y = true := by
   unfold pairB
   simp only [Bool.and_eq_true, Bool.or_eq_true, decide_eq_true_eq]
   exact ⟨⟨h3, h4.imp id fun e => e.2⟩, h2⟩
  rw [hp, Bool.or_true]
 ·simp [he]
mutual
def Evo (st : Bool) : Nd → Nd → Prop
 | .mk _ _ r k s, b => (k = b.kind ∨ k = 2 ∧ b.kind = 3) ∧ (r = b.rep ∨ st = false ∧ r = 1 ∧ b.rep = 2) ∧ EvoL st s b.sub
def EvoL (st : Bool) : List Nd → List Nd → Prop
 | [], _ => True
 | n :: ns, bs => (∀ b ∈ bs, n.id = b.id → Evo st n b) ∧ EvoL st ns bs
end
theorem evoL_at {st : Bool} : ∀ {s bs : List Nd}, EvoL st s bs → ∀ a ∈ s, ∀ b ∈ bs, a.id = b.id → Evo st a b
 | [], bs, _, a, ha => by cases ha
 | n :: ns, bs, h, a, ha => by
  rcases List.mem_cons.1 ha with rfl | ha
  ·exact h.1
  ·exact evoL_at h.2 a ha
mutual
theorem evo_N {st : Bool} {n : Int} {A B : List Kn} (hA : (A.map fun x => x.1.id).Nodup) (hlt : ∀ x ∈ A, x.1.id < n) (hP : Past st n A B) : ∀ (a b : Nd) (p p' : Int), (∀ x ∈ knN p a, x ∈ A) → (∀ y ∈ knN p' b, y ∈ B) → a.id = b.id → Evo st a b
 | .mk i nm r k s, b, p, p', ha, hb, he => by
  have h1 := ha _ (kn_self p _)
  have h2 := hb _ (kn_self p' b)
  obtain ⟨x, hx, hu⟩ := hP _ h2 (by have := hlt _ h1; simp only at this ⊢; rw [← he]; exact this)
  have e := eq_of_kid hA hx h1 (hu.1.trans he.symm)
  subst e
  obtain ⟨_, _, u3, u4⟩ := hu
  rw [Evo]
  refine ⟨u3, u4, evo_L hA hlt hP s b.sub i b.id (fun x hx => ha x (List.mem_cons_of_mem _ hx)) fun y hy => hb y ?_⟩
  cases b
  exact List.mem_cons_of_mem _ hy
theorem evo_L {st : Bool} {n : Int} {A B : List Kn} (hA : (A.map fun x => x.1.id).Nodup) (hlt : ∀ x ∈ A, x.1.id < n) (hP : Past st n A B) : ∀ (s bs : List Nd) (p p' : Int), (∀ x ∈ knL p s, x ∈ A) → (∀ y ∈ knL p' bs, y ∈ B) → EvoL st s bs
 | [], bs, p, p', _, _ => trivial
 | a :: s, bs, p, p', ha, hb => by
  rw [EvoL]
  exact ⟨fun b hbm he => evo_N hA hlt hP a b p p' (fun x hx => ha x (List.mem_append_left _ hx)) (fun y hy => hb y (knL_mem.2 ⟨b, hbm, hy⟩)) he, evo_L hA hlt hP s bs p p' (fun x hx => ha x (List.mem_append_right _ hx)) hb⟩
end
mutual
def Btw : Nd → Nd → Nd → Prop
 | .mk _ _ _ _ s, b, c => BtwL s b.sub c.sub
def BtwL : List Nd → List Nd → List Nd → Prop
 | [], _, _ => True
 | n :: ns, bs, cs => (∀ c ∈ cs, n.id = c.id → ∃ b ∈ bs, b.id = n.id ∧ Btw n b c) ∧ BtwL ns bs cs
end
theorem btwL_at : ∀ {s bs cs : List Nd}, BtwL s bs cs → ∀ a ∈ s, ∀ c ∈ cs, a.id = c.id → ∃ b ∈ bs, b.id = a.id ∧ Btw a b c
 | [], bs, cs, _, a, ha => by cases ha
 | n :: ns, bs, cs, h, a, ha => by
  rcases List.mem_cons.1 ha with rfl | ha
  ·exact h.1
  ·exact btwL_at h.2 a ha
mutual
theorem kn_kidN : ∀ (a : Int) (n c : Nd) (p : Int), (c, p) ∈ knN a n → (p = a ∧ c = n) ∨ ∃ b p', (b, p') ∈ knN a n ∧ b.id = p ∧ c ∈ b.sub
 | a, .mk i nm r k s, c, p, h => by
  rcases List.mem_cons.1 h with e | h
  ·cases e; exact .inl ⟨rfl, rfl⟩
  ·right
   rcases kn_kidL i s c p h with ⟨rfl, hc⟩ | ⟨b, p', h1, h2, h3⟩
   ·exact ⟨_, a, List.mem_cons_self .., rfl, hc⟩
   ·exact ⟨b, p', List.mem_cons_of_mem _ h1, h2, h3⟩
theorem kn_kidL : ∀ (a : Int) (l : List Nd) (c : Nd) (p : Int), (c, p) ∈ knL a l → (p = a ∧ c ∈ l) ∨ ∃ b p', (b, p') ∈ knL a l ∧ b.id = p ∧ c ∈ b.sub
 | a, [], c, p, h => by cases h
 | a, n :: ns, c, p, h => by
  rcases List.mem_append.1 h with h | h
  ·rcases kn_kidN a n c p h with ⟨h1, rfl⟩ | ⟨b, p', h1, h2, h3⟩
   ·exact .inl ⟨h1, List.mem_cons_self ..⟩
   ·exact .inr ⟨b, p', List.mem_append_left _ h1, h2, h3⟩
  ·rcases kn_kidL a ns c p h with ⟨h1, h2⟩ | ⟨b, p', h1, h2, h3⟩
   ·exact .inl ⟨h1, List.mem_cons_of_mem _ h2⟩
   ·exact .inr ⟨b, p', List.mem_append_right _ h1, h2, h3⟩
end
mutual
theorem btw_N {st : Bool} {n m : Int} {A C : List Kn} {Y : List Nd} (hY : (idsL Y).Nodup) (h0 : ∀ x ∈ idsL Y, 1 ≤ x) (hnm : n ≤ m) (hlt : ∀ x ∈ A, x.1.id < n) (hP : Past st m (knL 0 Y) C) : ∀ (a b c : Nd) (p p' p'' : Int), (∀ x ∈ knN p a, x ∈ A) → (∀ y ∈ knN p' b, y ∈ knL 0 Y) → (∀ z ∈ knN p'' c, z ∈ C) → b.id = a.id → a.id = c.id → Btw a b c
 | .mk i nm r k s, b, c, p, p', p'', ha, hb, hc, hba, hac => by
  rw [Btw]
  have hbm := hb _ (kn_self p' b)
  have hb1 : 1 ≤ b.id := h0 _ (by rw [← knL_ids 0 Y]; exact List.mem_map_of_mem (f := fun x : Kn => x.1.id) hbm)
  refine btw_L hY h0 hnm hlt hP s b.sub c.sub i (fun x hx => ha x (List.mem_cons_of_mem _ hx)) (fun y hy => hb y ?_) (fun x hx => ?_) (fun z hz => hc z ?_)
  ·obtain rfl : b.id = i := hba
   cases b
   exact List.mem_cons_of_mem _ hy
  ·obtain rfl : b.id = i := hba
   rcases kn_kidL 0 Y x b.id hx with ⟨h1, _⟩ | ⟨b2, p2, h1, h2, h3⟩
   ·omega
   ·have e := eq_of_kid (by rw [knL_ids]; exact hY) h1 hbm h2
    have e2 := congrArg Prod.fst e
    simp only at e2
    rw [← e2]; exact h3
  ·obtain rfl : i = c.id := hac
   cases c
   exact List.mem_cons_of_mem _ hz
theorem btw_L {st : Bool} {n m : Int} {A C : List Kn} {Y : List Nd} (hY : (idsL Y).Nodup) (h0 : ∀ x ∈ idsL Y, 1 ≤ x) (hnm : n ≤ m) (hlt : ∀ x ∈ A, x.1.id < n) (hP : Past st m (knL 0 Y) C) : ∀ (s bs cs : List Nd) (p : Int), (∀ x ∈ knL p s, x ∈ A) → (∀ y ∈ knL p bs, y ∈ knL 0 Y) → (∀ x : Nd, (x, p) ∈ knL 0 Y → x ∈ bs) → (∀ z ∈ knL p cs, z ∈ C) → BtwL s bs cs
 | [], bs, cs, p, _, _, _, _ => trivial
 | a :: s, bs, cs, p, ha, hb, hf, hc => by
  rw [BtwL]
  refine ⟨fun c hcm he => ?_, btw_L hY h0 hnm hlt hP s bs cs p (fun x hx => ha x (List.mem_append_right _ hx)) hb hf hc⟩
  have h1 := ha _ (List.mem_append_left _ (kn_self p a))
  have h2 := hc _ (kn_top (p := p) hcm)
  obtain ⟨⟨b, p'⟩, hy, u1, u2, _⟩ := hP _ h2 (by have := hlt _ h1; simp only at this ⊢; omega)
  simp only at u1 u2
  subst u2
  have hbm := hf b hy
  exact ⟨b, hbm, u1.trans he.symm, btw_N hY h0 hnm hlt hP a b c p' p' p' (fun x hx => ha x (List.mem_append_left _ hx)) (fun y hy => hb y (knL_mem.2 ⟨b, hbm, hy⟩)) (fun z hz => hc z (knL_mem.2 ⟨c, hcm, hz⟩)) (u1.trans he.symm) he⟩
end
theorem right_cases {no : Bool} {k v : Int} {s : ByteArray} {l f : List Dm} {n : Nd} {one : Bool} (h : rightF (.mk no k v s l f) n one = none) (hr : 1 ≤ n.rep ∧ n.rep ≤ 3) :
  (one = false ∧ n.rep = 2 ∧ no = true ∧ k = 0 ∧ v = 0 ∧ s = ⟨#[]⟩ ∧ l = [] ∧ f = []) ∨
  (no = false ∧ one = false ∧ n.rep = 3 ∧ k = 0 ∧ v = 0 ∧ s = ⟨#[]⟩ ∧ f = [] ∧ l.length ≤ 40 ∧ ∀ d ∈ l, rightF d n true = none) ∨
  (no = false ∧ ¬ (n.rep = 3 ∧ one = false) ∧ n.kind ≠ 0 ∧ l = [] ∧ f = [] ∧ okF n.kind k v s = true) ∨
  (no = false ∧ ¬ (n.rep = 3 ∧ one = false) ∧ n.kind = 0 ∧ k = 0 ∧ v = 0 ∧ s = ⟨#[]⟩ ∧ l = [] ∧ f.length = n.sub.length ∧ rightP f n.sub = none) := by
 unfold rightF at h
 split at h
 ·rename_i h1
  split at h
  ·rename_i h2
   simp only [bareF, zeroV, Bool.and_eq_true, Bool.or_eq_true, decide_eq_true_eq, Bool.false_eq_true, false_or, beq_iff_eq, List.length_eq_zero_iff, Bool.true_or, true_and] at h2
   exact .inl ⟨h1.1, h1.2.1, h1.2.2, h2.1.1.1, h2.1.1.2.1, h2.1.1.2.2, h2.1.2, h2.2⟩
  ·cases h
 ·rename_i h1
  split at h
  ·rename_i h3
   split at h
   ·rename_i h2
    split at h
    ·rename_i h4
     simp only [bareF, zeroV, Bool.and_eq_true, Bool.or_eq_true, decide_eq_true_eq, Bool.false_eq_true, false_or, beq_iff_eq, List.length_eq_zero_iff, Bool.not_eq_true', true_or, and_true] at h2
     exact .inr (.inl ⟨h2.1.1, h3.1, by omega, h2.1.2.1, h2.1.2.2.1, h2.1.2.2.2, h2.2, h4, rightL_none.1 h⟩)
    ·cases h
   ·cases h
  ·rename_i h3
   have h9 : ¬ (n.rep = 3 ∧ one = false) := fun e => h3 ⟨e.2, by omega, by omega⟩
   split at h
   ·rename_i h4
    split at h
    ·rename_i h2
     split at h
     ·rename_i h5
      simp only [bareF, zeroV, Bool.and_eq_true, Bool.or_eq_true, decide_eq_true_eq, Bool.false_eq_true, false_or, beq_iff_eq, List.length_eq_zero_iff, Bool.not_eq_true', true_or, and_true] at h2
      exact .inr (.inr (.inl ⟨h2.1.1, h9, h4, h2.1.2, h2.2, h5⟩))
     ·cases h
    ·cases h
   ·rename_i h4
    split at h
    ·rename_i h2
     obtain ⟨h2, h5⟩ := h2
     simp only [bareF, zeroV, Bool.and_eq_true, Bool.or_eq_true, decide_eq_true_eq, Bool.false_eq_true, false_or, beq_iff_eq, List.length_eq_zero_iff, Bool.not_eq_true', true_or, and_true] at h2
     exact .inr (.inr (.inr ⟨h2.1.1, h9, by simpa using h4, h2.1.2.1, h2.1.2.2.1, h2.1.2.2.2, h2.2, h5, h⟩))
    ·cases h
def noneD : Dm := .mk true 0 0 ⟨#[]⟩ [] []
theorem right_noneD {n : Nd} (h : n.rep = 2) : rightF noneD n false = none := by
 unfold noneD rightF
 rw [if_pos ⟨rfl, h, rfl⟩]
 rfl
theorem right_listD {n : Nd} {l : List Dm} (h : n.rep = 3) (hl : l.length ≤ 40) (hd : ∀ d ∈ l, rightF d n true = none) : rightF (.mk false 0 0 ⟨#[]⟩ l []) n false = none := by
 unfold rightF
 rw [if_neg (by simp), if_pos ⟨rfl, by omega, by omega⟩, if_pos (by simp [bareF, zeroV]), if_pos hl]
 exact rightL_none.2 hd
theorem right_leafD {n : Nd} {k v : Int} {s : ByteArray} {one : Bool} (hr : 1 ≤ n.rep ∧ n.rep ≤ 3) (h : ¬ (n.rep = 3 ∧ one = false)) (hk : n.kind ≠ 0) (hok : okF n.kind k v s = true) : rightF (.mk false k v s [] []) n one = none := by
 unfold rightF
 rw [if_neg (by simp), if_neg (fun e => h ⟨by omega, e.1⟩), if_pos hk, if_pos (by simp [bareF]), if_pos hok]
theorem right_groupD {n : Nd} {f : List Dm} {one : Bool} (hr : 1 ≤ n.rep ∧ n.rep ≤ 3) (h : ¬ (n.rep = 3 ∧ one = false)) (hk : n.kind = 0) (hf : f.length = n.sub.length) (hp : ∀ (i : Nat) (d : Dm) (c : Nd), f[i]? = some d → n.sub[i]? = some c → rightF d c false = none) : rightF (.mk false 0 0 ⟨#[]⟩ [] f) n one = none := by
 unfold rightF
 rw [if_neg (by simp), if_neg (fun e => h ⟨by omega, e.1⟩), if_neg (by simp [hk]), if_pos ⟨by simp [bareF, zeroV], hf⟩]
 exact (rightP_none hf).2 hp
theorem pick_cases {f : List Dm} {az : List Nd} (hf : f.length = az.length) (hn : (az.map Nd.id).Nodup) (b : Nd) :
  (∃ (k : Nat) (d : Dm) (a : Nd), f[k]? = some d ∧ az[k]? = some a ∧ a.id = b.id ∧ pickF (movers f az) b = moveF d a b false) ∨ ((∀ a ∈ az, a.id ≠ b.id) ∧ pickF (movers f az) b = freshF b) := by
 by_cases h : ∃ a ∈ az, a.id = b.id
 ·obtain ⟨a, ha, he⟩ := h
  obtain ⟨k, hk⟩ := List.getElem?_of_mem ha
  have hl := (List.getElem?_eq_some_iff.1 hk).1
  have hd : f[k]? = some f[k] := List.getElem?_eq_getElem (by omega)
  refine .inl ⟨k, _, a, hd, hk, he, pick_at hd hk he fun j a' hj ha' e => ?_⟩
  have h5 : (az.map Nd.id)[j]? = some b.id := by rw [List.getElem?_map, ha']; simp [e]
  have h6 : (az.map Nd.id)[k]? = some b.id := by rw [List.getElem?_map, hk]; simp [he]
  have := (List.getElem?_inj (List.getElem?_eq_some_iff.1 h5).1 hn).1 (h5.trans h6.symm)
  omega
 ·have h2 : ∀ a ∈ az, a.id ≠ b.id := fun a ha e => h ⟨a, ha, e⟩
  exact .inr ⟨h2, pick_un h2⟩
theorem okF_self {k : Int} (h : 1 ≤ k ∧ k ≤ 5) : okF k k 0 ⟨#[]⟩ = true := by
 obtain rfl | rfl | rfl | rfl | rfl : k = 1 ∨ k = 2 ∨ k = 3 ∨ k = 4 ∨ k = 5 := by omega
 all_goals decide
theorem okF_wide {a b k v : Int} {s : ByteArray} (h : okF a k v s = true) (hab : a = b ∨ a = 2 ∧ b = 3) : okF b b v s = true := by
 unfold okF at h ⊢
 rw [Bool.and_eq_true] at h ⊢
 refine ⟨decide_eq_true rfl, ?_⟩
 rcases hab with rfl | ⟨rfl, rfl⟩
 ·exact h.2
 ·have h2 := h.2
  simp at h2 ⊢
  exact h2.2
theorem okF_kind {a k v : Int} {s : ByteArray} (h : okF a k v s = true) : k = a := by
 unfold okF at h
 rw [Bool.and_eq_true] at h
 exact of_decide_eq_true h.1
theorem fresh_right : ∀ (m : Nat) (n : Nd), n.weigh ≤ m → FitN n → rightF (freshF n) n false = none
 | 0, n, hm, _ => by cases n; simp [Nd.weigh] at hm
 | m + 1, .mk i nm r k s, hm, hf => by
  have hr := hf.rep
  have hk := hf.kind
  simp only [Nd.rep, Nd.kind] at hr hk
  rw [freshF]
  split
  ·rename_i h; exact right_noneD h
  split
  ·rename_i h; exact right_listD h (by simp) (by simp)
  split
  ·rename_i h
   exact right_leafD hr (fun e => by have := e.1; simp only [Nd.rep] at this; contradiction) h (show okF k k 0 ⟨#[]⟩ = true from okF_self (by omega))
  ·rename_i h
   refine right_groupD hr (fun e => by have := e.1; simp only [Nd.rep] at this; contradiction) (show k = 0 from by simpa using h) (by rw [freshL_eq, List.length_map]; rfl) fun j d c hd hc => ?_
   rw [freshL_eq, List.getElem?_map] at hd
   simp only [Nd.sub] at hc
   rw [hc] at hd
   obtain rfl := Option.some.inj hd
   have hcm := List.mem_of_getElem? hc
   have hw := Nd.weigh_mem hcm
   simp only [Nd.weigh] at hm
   exact fresh_right m c (by omega) (hf.sub hcm)
theorem Evo.parts {st : Bool} {a b : Nd} (h : Evo st a b) : (a.kind = b.kind ∨ a.kind = 2 ∧ b.kind = 3) ∧ (a.rep = b.rep ∨ st = false ∧ a.rep = 1 ∧ b.rep = 2) ∧ ∀ x ∈ a.sub, ∀ y ∈ b.sub, x.id = y.id → Evo st x y := by
 obtain ⟨i, nm, r, k, s⟩ := a
 rw [Evo] at h
 exact ⟨h.1, h.2.1, evoL_at h.2.2⟩
theorem Btw.parts {a b c : Nd} (h : Btw a b c) : ∀ x ∈ a.sub, ∀ z ∈ c.sub, x.id = z.id → ∃ y ∈ b.sub, y.id = x.id ∧ Btw x y z := by
 obtain ⟨i, nm, r, k, s⟩ := a
 rw [Btw] at h
 exact btwL_at h
theorem fresh_move : ∀ (m : Nat) (b c : Nd), b.weigh ≤ m → FitN b → FitN c → Evo true b c → moveF (freshF b) b c false = freshF c
 | 0, b, _, hm, _, _, _ => by cases b; simp [Nd.weigh] at hm
 | m + 1, .mk i nm r k s, c, hm, hf, hfc, he => by
  obtain ⟨e1, e2, e3⟩ := he.parts
  have hr := hf.rep
  have hk := hf.kind
  obtain ⟨i', nm', r', k', s'⟩ := c
  simp only [Nd.rep, Nd.kind, Nd.sub] at hr hk e1 e2 e3
  have hrr : r = r' := by rcases e2 with e | ⟨e, _⟩; exact e; cases e
  subst hrr
  rw [freshF, freshF]
  by_cases h2 : r = 2
  ·rw [if_pos h2, if_pos h2, moveF, if_pos rfl]
  rw [if_neg h2, if_neg h2]
  by_cases h3 : r = 3
  ·rw [if_pos h3, if_pos h3, moveF, if_neg (by decide), if_pos ⟨h3, rfl⟩]
   rfl
  rw [if_neg h3, if_neg h3]
  by_cases hk0 : k ≠ 0
  ·rw [if_pos hk0, if_pos (by omega), moveF, if_neg (by decide), if_neg (fun e => h3 e.1), if_pos (show (Nd.mk i nm r k s).kind ≠ 0 from hk0)]
   rfl
  ·rw [if_neg hk0, if_neg (by omega), moveF, if_neg (by decide), if_neg (fun e => h3 e.1), if_neg (show ¬ (Nd.mk i nm r k s).kind ≠ 0 from hk0)]
   congr 1
   rw [freshL_eq, freshL_eq]
   show List.map (pickF (movers (s.map freshF) s)) s' = s'.map freshF
   refine List.map_congr_left fun x hx => ?_
   rcases pick_cases (f := s.map freshF) (az := s) (List.length_map ..) hf.apart x with ⟨j, d, a, h4, h5, h6, h7⟩ | ⟨_, h7⟩
   ·rw [h7]
    rw [List.getElem?_map, h5] at h4
    obtain rfl := Option.some.inj h4
    have ham := List.mem_of_getElem? h5
    have hw := Nd.weigh_mem ham
    simp only [Nd.weigh] at hm
    exact fresh_move m a x (by omega) (hf.sub ham) (hfc.sub hx) (e3 a ham x hx h6)
   ·exact h7
theorem move_right : ∀ (m : Nat) (d : Dm) (a b : Nd) (one : Bool), d.weigh ≤ m → rightF d a one = none → FitN a → FitN b → Evo false a b → rightF (moveF d a b one) b one = none
 | 0, d, _, _, _, hm, _, _, _, _ => by cases d; simp [Dm.weigh] at hm
 | m + 1, .mk no k v s l f, a, b, one, hm, hr, hfa, hfb, he => by
  obtain ⟨e1, e2, e3⟩ := he.parts
  simp only [Dm.weigh] at hm
  have hra := hfa.rep
  have hrb := hfb.rep
  have e2' : a.rep = b.rep ∨ a.rep = 1 ∧ b.rep = 2 := e2.imp id And.right
  rcases right_cases hr hra with ⟨rfl, h2, rfl, _⟩ | ⟨rfl, rfl, h3, _, _, _, rfl, hl, hd⟩ | ⟨rfl, h3, hk, rfl, rfl, hok⟩ | ⟨rfl, h3, hk, _, _, _, rfl, hlen, hp⟩
  ·rw [moveF, if_pos rfl]
   exact right_noneD (by omega)
  ·rw [moveF, if_neg (by decide), if_pos ⟨h3, rfl⟩]
   refine right_listD (by omega) (by rw [moveL_eq, List.length_map]; exact hl) fun d hd2 => ?_
   rw [moveL_eq] at hd2
   obtain ⟨x, hx, rfl⟩ := List.mem_map.1 hd2
   have := Dm.weigh_mem hx
   exact move_right m x a b true (by omega) (hd x hx) hfa hfb he
  ·rw [moveF, if_neg (by decide), if_neg h3, if_pos hk]
   exact right_leafD hrb (fun e => h3 ⟨by omega, e.2⟩) (by omega) (okF_wide hok e1)
  ·rw [moveF, if_neg (by decide), if_neg h3, if_neg (by simp [hk])]
   refine right_groupD hrb (fun e => h3 ⟨by omega, e.2⟩) (by omega) (List.length_map ..) fun j d c hd hc => ?_
   rw [List.getElem?_map, hc] at hd
   obtain rfl := Option.some.inj hd
   have hcm := List.mem_of_getElem? hc
   rcases pick_cases hlen hfa.apart c with ⟨j2, d2, a2, h4, h5, h6, h7⟩ | ⟨_, h7⟩
   ·rw [h7]
    have := Dm.weigh_mem (List.mem_of_getElem? h4)
    have ham := List.mem_of_getElem? h5
    exact move_right m d2 a2 c false (by omega) ((rightP_none hlen).1 hp j2 d2 a2 h4 h5) (hfa.sub ham) (hfb.sub hcm) (e3 a2 ham c hcm h6)
   ·rw [h7]
    exact fresh_right _ c (Nat.le_refl _) (hfb.sub hcm)
theorem move_self : ∀ (m : Nat) (d : Dm) (a : Nd) (one : Bool), d.weigh ≤ m → rightF d a one = none → FitN a → moveF d a a one = d
 | 0, d, _, _, hm, _, _ => by cases d; simp [Dm.weigh] at hm
 | m + 1, .mk no k v s l f, a, one, hm, hr, hfa => by
  simp only [Dm.weigh] at hm
  rcases right_cases hr hfa.rep with ⟨rfl, h2, rfl, rfl, rfl, rfl, rfl, rfl⟩ | ⟨rfl, rfl, h3, rfl, rfl, rfl, rfl, hl, hd⟩ | ⟨rfl, h3, hk, rfl, rfl, hok⟩ | ⟨rfl, h3, hk, rfl, rfl, rfl, rfl, hlen, hp⟩
  ·rw [moveF, if_pos rfl]
  ·rw [moveF, if_neg (by decide), if_pos ⟨h3, rfl⟩, moveL_eq]
   congr 1
   conv => rhs; rw [← List.map_id l]
   refine List.map_congr_left fun x hx => ?_
   have := Dm.weigh_mem hx
   exact move_self m x a true (by omega) (hd x hx) hfa
  ·rw [moveF, if_neg (by decide), if_neg h3, if_pos hk, okF_kind hok]
  ·rw [moveF, if_neg (by decide), if_neg h3, if_neg (by simp [hk])]
   congr 1
   refine List.ext_getElem? fun j => ?_
   rw [List.getElem?_map]
   cases hc : a.sub[j]? with
   | none =>
    rw [List.getElem?_eq_none_iff] at hc
    rw [List.getElem?_eq_none_iff.2 (by omega)]
    rfl
   | some c =>
    have hl := (List.getElem?_eq_some_iff.1 hc).1
    have hd : f[j]? = some f[j] := List.getElem?_eq_getElem (by omega)
    rw [hd, Option.map_some]
    congr 1
    have hcm := List.mem_of_getElem? hc
    have := Dm.weigh_mem (List.mem_of_getElem? hd)
    refine (pick_at hd hc rfl fun j' a' hj ha' e => ?_).trans (move_self m _ c false (by omega) ((rightP_none hlen).1 hp j _ c hd hc) (hfa.sub hcm))
    have h5 : (a.sub.map Nd.id)[j']? = some c.id := by rw [List.getElem?_map, ha']; simp [e]
    have h6 : (a.sub.map Nd.id)[j]? = some c.id := by rw [List.getElem?_map, hc]; rfl
    have := (List.getElem?_inj (List.getElem?_eq_some_iff.1 h5).1 hfa.apart).1 (h5.trans h6.symm)
    omega
theorem move_way : ∀ (m : Nat) (d : Dm) (a b c : Nd) (one : Bool), d.weigh ≤ m → rightF d a one = none → FitN a → FitN b → FitN c → Evo false a b → Evo true b c → Btw a b c → moveF (moveF d a b one) b c one = moveF d a c one
 | 0, d, _, _, _, _, hm, _, _, _, _, _, _, _ => by cases d; simp [Dm.weigh] at hm
 | m + 1, .mk no k v s l f, a, b, c, one, hm, hr, hfa, hfb, hfc, he, hs, hb => by
  obtain ⟨e1, e2, e3⟩ := he.parts
  obtain ⟨s1, s2, s3⟩ := hs.parts
  have hbp := hb.parts
  simp only [Dm.weigh] at hm
  have e2' : a.rep = b.rep ∨ a.rep = 1 ∧ b.rep = 2 := e2.imp id And.right
  have s2' : b.rep = c.rep := by rcases s2 with e | ⟨e, _⟩; exact e; cases e
  rcases right_cases hr hfa.rep with ⟨rfl, h2, rfl, _⟩ | ⟨rfl, rfl, h3, _, _, _, rfl, hl, hd⟩ | ⟨rfl, h3, hk, rfl, rfl, hok⟩ | ⟨rfl, h3, hk, _, _, _, rfl, hlen, hp⟩
  ·rw [moveF, if_pos rfl, moveF, if_pos rfl, moveF, if_pos rfl]
  ·rw [moveF, if_neg (by decide), if_pos ⟨h3, rfl⟩, moveF, if_neg (by decide), if_pos ⟨by omega, rfl⟩, moveF, if_neg (by decide), if_pos ⟨h3, rfl⟩, moveL_eq, moveL_eq, moveL_eq, List.map_map]
   congr 1
   refine List.map_congr_left fun x hx => ?_
   have := Dm.weigh_mem hx
   exact move_way m x a b c true (by omega) (hd x hx) hfa hfb hfc he hs hb
  ·have h3b : ¬ (b.rep = 3 ∧ one = false) := fun e => h3 ⟨by omega, e.2⟩
   rw [moveF, if_neg (by decide), if_neg h3, if_pos hk, moveF, if_neg (by decide), if_neg h3b, if_pos (by omega), moveF, if_neg (by decide), if_neg h3, if_pos hk]
  ·have h3b : ¬ (b.rep = 3 ∧ one = false) := fun e => h3 ⟨by omega, e.2⟩
   rw [moveF, if_neg (by decide), if_neg h3, if_neg (by simp [hk]), moveF, if_neg (by decide), if_neg h3b, if_neg (by omega), moveF, if_neg (by decide), if_neg h3, if_neg (by simp [hk])]
   congr 1
   refine List.map_congr_left fun x hx => ?_
   rcases pick_cases hlen hfa.apart x with ⟨j, d2, a2, h4, h5, h6, h7⟩ | ⟨h6, h7⟩
   ·have ham := List.mem_of_getElem? h5
    obtain ⟨y, hy, hyi, hby⟩ := hbp a2 ham x hx h6
    have hrd := (rightP_none hlen).1 hp j d2 a2 h4 h5
    rw [h7]
    rcases pick_cases (f := b.sub.map (pickF (movers f a.sub))) (az := b.sub) (List.length_map ..) hfb.apart x with ⟨j2, d3, b2, k4, k5, k6, k7⟩ | ⟨k6, _⟩
    ·have hbm := List.mem_of_getElem? k5
     obtain rfl : b2 = y := node_eq hfb.apart hbm hy (by rw [k6, ← h6, hyi])
     rw [k7]
     rw [List.getElem?_map, k5] at k4
     obtain rfl := Option.some.inj k4
     rcases pick_cases hlen hfa.apart b2 with ⟨j3, d4, a3, g4, g5, g6, g7⟩ | ⟨g6, _⟩
     ·have hj : j3 = j := by
       have q1 : (a.sub.map Nd.id)[j3]? = some b2.id := by rw [List.getElem?_map, g5]; simp [g6]
       have q2 : (a.sub.map Nd.id)[j]? = some b2.id := by rw [List.getElem?_map, h5]; simp [hyi]
       exact (List.getElem?_inj (List.getElem?_eq_some_iff.1 q1).1 hfa.apart).1 (q1.trans q2.symm)
      subst hj
      obtain rfl := Option.some.inj (g4.symm.trans h4)
      obtain rfl := Option.some.inj (g5.symm.trans h5)
      rw [g7]
      have := Dm.weigh_mem (List.mem_of_getElem? h4)
      exact move_way m d4 a3 b2 x false (by omega) hrd (hfa.sub ham) (hfb.sub hbm) (hfc.sub hx) (e3 a3 ham b2 hbm g6) (s3 b2 hbm x hx k6) hby
     ·exact absurd hyi.symm (g6 a2 ham)
    ·exact absurd (by rw [hyi, h6]) (k6 y hy)
   ·rw [h7]
    rcases pick_cases (f := b.sub.map (pickF (movers f a.sub))) (az := b.sub) (List.length_map ..) hfb.apart x with ⟨j2, d3, b2, k4, k5, k6, k7⟩ | ⟨_, k7⟩
    ·have hbm := List.mem_of_getElem? k5
     rw [k7]
     rw [List.getElem?_map, k5] at k4
     obtain rfl := Option.some.inj k4
     rw [pick_un (f := f) (b := b2) (fun a' ha' e => h6 a' ha' (e.trans k6))]
     exact fresh_move _ b2 x (Nat.le_refl _) (hfb.sub hbm) (hfc.sub hx) (s3 b2 hbm x hx k6)
    ·exact k7
where
 node_eq {l : List Nd} {x y : Nd} (hn : (l.map Nd.id).Nodup) (hx : x ∈ l) (hy : y ∈ l) (h : x.id = y.id) : x = y := by
  obtain ⟨i, hi⟩ := List.getElem?_of_mem hx
  obtain ⟨j, hj⟩ := List.getElem?_of_mem hy
  have q1 : (l.map Nd.id)[i]? = some x.id := by rw [List.getElem?_map, hi]; rfl
  have q2 : (l.map Nd.id)[j]? = some x.id := by rw [List.getElem?_map, hj, h]; rfl
  have e := (List.getElem?_inj (List.getElem?_eq_some_iff.1 q1).1 hn).1 (q1.trans q2.symm)
  subst e
  exact Option.some.inj (hi.symm.trans hj)
def liftF (g : Int → Dm) (r p : Int) (one : Bool) : Dm :=
 if r = 2 ∧ one = false ∧ p % 3 = 0 then noneD
 else if r = 3 ∧ one = false then .mk false 0 0 ⟨#[]⟩ ((List.range (p % 3).toNat).map fun i => g (p + (i : Nat))) []
 else g p
mutual
def datF : Nd → Int → Dm
 | .mk _ _ _ k s, p => if k = 4 then .mk false 4 0 ⟨(Lib.itoa p).toArray⟩ [] [] else if k ≠ 0 then .mk false k (p % 2) ⟨#[]⟩ [] [] else .mk false 0 0 ⟨#[]⟩ [] (fillF s p 1)
def fillF : List Nd → Int → Int → List Dm
 | [], _, _ => []
 | .mk i nm r k s :: ns, p, j => liftF (datF (.mk i nm r k s)) r (p / 2 + j) false :: fillF ns p (j + 1)
end
def someF (n : Nd) (p : Int) (one : Bool) : Dm := liftF (datF n) n.rep p one
theorem fill_len : ∀ (s : List Nd) (p j : Int), (fillF s p j).length = s.length
 | [], p, j => rfl
 | .mk i nm r k s :: ns, p, j => by simp [fillF, fill_len ns p (j + 1)]
theorem fill_at : ∀ (s : List Nd) (p j : Int) (i : Nat) (c : Nd), s[i]? = some c → (fillF s p j)[i]? = some (someF c (p / 2 + j + (i : Nat)) false)
 | [], p, j, i, c, h => by simp at h
 | .mk i' nm r k s :: ns, p, j, 0, c, h => by
  obtain rfl := Option.some.inj h
  simp [fillF, someF, Nd.rep]
 | .mk i' nm r k s :: ns, p, j, i + 1, c, h => by
  rw [fillF, List.getElem?_cons_succ, fill_at ns p (j + 1) i c (by simpa using h)]
  congr 2
  omega
theorem lift_right {n : Nd} {g : Int → Dm} {p : Int} {one : Bool} (hf : FitN n) (hp : 0 ≤ p) (hg : ∀ q, p ≤ q → q ≤ p + 2 → ∀ one', ¬ (n.rep = 3 ∧ one' = false) → rightF (g q) n one' = none) : rightF (liftF g n.rep p one) n one = none := by
 unfold liftF
 split
 ·rename_i h
  rw [h.2.1]
  exact right_noneD h.1
 ·split
  ·rename_i h
   rw [h.2]
   refine right_listD h.1 (by rw [List.length_map, List.length_range]; omega) fun d hd => ?_
   obtain ⟨i, hi, rfl⟩ := List.mem_map.1 hd
   have := List.mem_range.1 hi
   exact hg _ (by omega) (by omega) true (fun e => by cases e.2)
  ·rename_i h
   exact hg p (Int.le_refl _) (by omega) one h
theorem one_right : ∀ (m : Nat) (n : Nd) (p : Int) (one : Bool), n.weigh ≤ m → FitN n → 0 ≤ p → p ≤ 5000 → ¬ (n.rep = 3 ∧ one = false) → rightF (datF n p) n one = none
 | 0, n, _, _, hm, _, _, _, _ => by cases n; simp [Nd.weigh] at hm
 | m + 1, .mk i nm r k s, p, one, hm, hf, hp, hp2, h => by
  have hr := hf.rep
  have hk := hf.kind
  have hlen := hf.len
  simp only [Nd.rep, Nd.kind, Nd.sub] at hr hk hlen
  rw [datF]
  split
  ·rename_i h4
   subst h4
   refine right_leafD hr h (by simp [Nd.kind]) ?_
   have h2 := Lib.itoa_length_le p (by omega) (by omega)
   have h3 : (⟨(Lib.itoa p).toArray⟩ : ByteArray).size ≤ 100 := by
    show (Lib.itoa p).toArray.size ≤ 100
    simp only [List.size_toArray]
    omega
   simp [okF, Nd.kind, h3]
  split
  ·rename_i h4 h0
   refine right_leafD hr h h0 ?_
   have h5 : 0 ≤ p % 2 ∧ p % 2 ≤ 1 := by omega
   obtain rfl | rfl | rfl | rfl : k = 1 ∨ k = 2 ∨ k = 3 ∨ k = 5 := by omega
   all_goals simp [okF, Nd.kind] <;> omega
  ·rename_i h0
   refine right_groupD hr h (show k = 0 from by simpa using h0) (fill_len ..) fun j d c hd hc => ?_
   simp only [Nd.sub] at hc
   rw [fill_at s p 1 j c hc] at hd
   obtain rfl := Option.some.inj hd
   have hcm := List.mem_of_getElem? hc
   have hjl := (List.getElem?_eq_some_iff.1 hc).1
   have hw := Nd.weigh_mem hcm
   simp only [Nd.weigh] at hm
   exact lift_right (hf.sub hcm) (by omega) fun q h1 h2 one' h3 => one_right m c q one' (by omega) (hf.sub hcm) (by omega) (by omega) h3
theorem some_right {n : Nd} {p : Int} {one : Bool} (hf : FitN n) (hp : 0 ≤ p) (hp2 : p ≤ 4000) : rightF (someF n p one) n one = none :=
 lift_right hf hp fun q h1 h2 one' h3 => one_right _ n q one' (Nat.le_refl _) hf (by omega) (by omega) h3
theorem root_ok {l : List Nd} (h : Fit l) : (rootNd l).ok := ⟨⟨by decide, by decide⟩, by decide, ⟨by decide, by decide⟩, ⟨by decide, by decide⟩, by have := weighs_len l; have := h.small; unfold reach; omega, all_ok (slim_fit h) (by have := h.small; omega)⟩
theorem kn_lt {l : List Nd} {n : Int} (h : ∀ x ∈ idsL l, x < n) : ∀ x ∈ knL 0 l, x.1.id < n := fun x hx => h _ (by rw [← knL_ids 0 l]; exact List.mem_map_of_mem (f := fun x : Kn => x.1.id) hx)
theorem evo_root {st : Bool} {X Y : List Nd} {n : Int} (hX : Sound X n) (h : Past st n (knL 0 X) (knL 0 Y)) : Evo st (rootNd X) (rootNd Y) := by
 unfold rootNd
 rw [Evo]
 exact ⟨.inl rfl, .inl rfl, evo_L (by rw [knL_ids]; exact hX.nodup) (kn_lt hX.ids) h X Y 0 0 (fun x hx => hx) (fun y hy => hy)⟩
theorem btw_root {st : Bool} {X Y Z : List Nd} {n m : Int} (hX : Sound X n) (hY : Sound Y m) (hfY : Fit Y) (hnm : n ≤ m) (h : Past st m (knL 0 Y) (knL 0 Z)) : Btw (rootNd X) (rootNd Y) (rootNd Z) := by
 have h0 : ∀ x ∈ idsL Y, 1 ≤ x := fun x hx => (hfY.range x hx).1
 unfold rootNd
 rw [Btw]
 refine btw_L hY.nodup h0 hnm (kn_lt hX.ids) h X Y Z 0 (fun x hx => hx) (fun y hy => hy) (fun x hx => ?_) (fun z hz => hz)
 rcases kn_kidL 0 Y x 0 hx with ⟨_, h1⟩ | ⟨b, p', h1, h2, _⟩
 ·exact h1
 ·have := h0 b.id (by rw [← knL_ids 0 Y]; exact List.mem_map_of_mem (f := fun x : Kn => x.1.id) h1)
  omega
structure Grown (X Y Z : List Nd) (n m k : Int) : Prop where
 nm : n ≤ m
 km : m ≤ k
 fx : Fit X
 fy : Fit Y
 fz : Fit Z
 xy : sameF (knOf (rootNd X)) (knOf (rootNd Y)) = true
 yz : sameF (knOf (rootNd Y)) (knOf (rootNd Z)) = true
 xz : sameF (knOf (rootNd X)) (knOf (rootNd Z)) = true
 right : ∀ d, rightF d (rootNd X) false = none → rightF (moveF d (rootNd X) (rootNd Y) false) (rootNd Y) false = none
 way : ∀ d, rightF d (rootNd X) false = none → moveF (moveF d (rootNd X) (rootNd Y) false) (rootNd Y) (rootNd Z) false = moveF d (rootNd X) (rootNd Z) false
theorem fit_root {l : List Nd} (h : Fit l) : FitN (rootNd l) := fitN_of (valid_of h) (root_ok h)
theorem replay_ok {es : List ByteArray} {l : List Nd} {nx : Int} (h : replayF es = .ok l nx) : replayGo 0 es [] 1 = .ok l nx := by
 unfold replayF at h
 split at h
 ·cases h
 ·exact h
theorem grows_law {es : List ByteArray} {a b : Nat} (hab : a ≤ b) (hlo : ∀ e ∈ es.drop b, ¬ (6 < e.size ∧ e.data.toList.take 6 = [108, 111, 111, 115, 101, 110])) {X Y Z : List Nd} {n m k : Int}
  (hx : replayF (es.take a) = .ok X n) (hy : replayF (es.take b) = .ok Y m) (hz : replayF es = .ok Z k) (nx : X ≠ []) (ny : Y ≠ []) (nz : Z ≠ []) : Grown X Y Z n m k := by
 have e1 : es.take b = es.take a ++ (es.take b).drop a := by
  conv => lhs; rw [← List.take_append_drop a (es.take b)]
  rw [List.take_take, Nat.min_eq_left hab]
 have e2 : es = es.take b ++ es.drop b := (List.take_append_drop b es).symm
 have gx := replay_ok hx
 have gy := replay_ok hy
 have gz := replay_ok hz
 rw [e1] at gy
 obtain ⟨l1, n1, h1, h2⟩ := (replay_app _ _ _ _ _ _ _).1 gy
 rw [gx] at h1
 cases h1
 rw [e2] at gz
 obtain ⟨l1, n1, h1, h3⟩ := (replay_app _ _ _ _ _ _ _).1 gz
 rw [replay_ok hy] at h1
 cases h1
 obtain ⟨sx, _, _⟩ := Sound.go _ _ _ _ _ _ sound0 gx
 obtain ⟨sy, hnm, _⟩ := Sound.go _ _ _ _ _ _ sx h2
 obtain ⟨sz, hmk, _⟩ := Sound.go _ _ _ _ _ _ sy h3
 have p1 : Past false n (knL 0 X) (knL 0 Y) := Sound.past _ _ _ _ _ _ sx (fun e => by cases e) h2
 have p2 : Past true m (knL 0 Y) (knL 0 Z) := Sound.past _ _ _ _ _ _ sy (fun _ e he => no_loose (hlo e he)) h3
 have p3 : Past false n (knL 0 X) (knL 0 Z) := p1.trans hnm p2.loose
 have fx := sx.fit.resolve_left nx
 have fy := sy.fit.resolve_left ny
 have fz := sz.fit.resolve_left nz
 exact {
  nm := hnm, km := hmk, fx := fx, fy := fy, fz := fz
  xy := same_past sx.nodup sx.ids p1
  yz := same_past sy.nodup sy.ids p2
  xz := same_past sx.nodup sx.ids p3
  right := fun d hd => move_right _ d _ _ false (Nat.le_refl _) hd (fit_root fx) (fit_root fy) (evo_root sx p1)
  way := fun d hd => move_way _ d _ _ _ false (Nat.le_refl _) hd (fit_root fx) (fit_root fy) (fit_root fz) (evo_root sx p1) (evo_root sy p2) (btw_root sx sy fy hnm p2) }
theorem carry_fit {X Y : List Nd} (hx : Fit X) (hy : Fit Y) (hs : sameF (knOf (rootNd X)) (knOf (rootNd Y)) = true) {d : Dm} (hd : rightF d (rootNd X) false = none) : carryF (rootNd X) (rootNd Y) d = (none, moveF d (rootNd X) (rootNd Y) false) :=
 carryF_yes ((recF_none (valid_of hx)).trans hd) (valid_of hy) hs
theorem self_fit {X : List Nd} (hx : Fit X) : sameF (knOf (rootNd X)) (knOf (rootNd X)) = true := by
 obtain ⟨n, hn⟩ : ∃ n : Int, ∀ x ∈ idsL X, x < n := ⟨1001, fun x hx9 => by have := (hx.range x hx9).2; omega⟩
 exact same_past hx.nodup hn (Past.refl false n _)
theorem oksD_of : ∀ {l : List Dm}, (∀ d ∈ l, d.ok) → Dm.oks l
 | [], _ => trivial
 | d :: ds, h => ⟨h d (List.mem_cons_self ..), oksD_of fun x hx => h x (List.mem_cons_of_mem _ hx)⟩
theorem ok_mk {no : Bool} {k v : Int} {s : ByteArray} {l f : List Dm} (hk : I64 k) (hv : I64 v) (hs : s.size ≤ 1000) (hl : l.length ≤ 1000) (hf : f.length ≤ 1000) (h1 : ∀ d ∈ l, d.ok) (h2 : ∀ d ∈ f, d.ok) : (Dm.mk no k v s l f).ok :=
 ⟨hk, hv, by unfold reach; omega, by unfold reach; omega, by unfold reach; omega, oksD_of h1, oksD_of h2⟩
theorem i64_small {k : Int} (h : -100000 ≤ k ∧ k ≤ 100000) : I64 k := ⟨by omega, by omega⟩
theorem fresh_ok : ∀ (m : Nat) (n : Nd), n.weigh ≤ m → FitN n → (freshF n).ok
 | 0, n, hm, _ => by cases n; simp [Nd.weigh] at hm
 | m + 1, .mk i nm r k s, hm, hf => by
  have hk := hf.kind
  have hlen := hf.len
  simp only [Nd.kind, Nd.sub] at hk hlen
  have z : I64 0 := i64_small (by omega)
  rw [freshF]
  split
  ·exact ok_mk z z (by decide) (by simp) (by simp) (by simp) (by simp)
  split
  ·exact ok_mk z z (by decide) (by simp) (by simp) (by simp) (by simp)
  split
  ·exact ok_mk (i64_small (by omega)) z (by decide) (by simp) (by simp) (by simp) (by simp)
  ·rw [freshL_eq]
   refine ok_mk z z (by decide) (by simp) (by rw [List.length_map]; omega) (by simp) fun d hd => ?_
   obtain ⟨c, hc, rfl⟩ := List.mem_map.1 hd
   have hw := Nd.weigh_mem hc
   simp only [Nd.weigh] at hm
   exact fresh_ok m c (by omega) (hf.sub hc)
theorem mover_mem {f : List Dm} {az : List Nd} {m : Int × (Nd → Dm)} (h : m ∈ movers f az) : ∃ d ∈ f, ∃ a ∈ az, m = (a.id, fun b => moveF d a b false) := by
 rw [movers_eq] at h
 obtain ⟨i, hi⟩ := List.getElem?_of_mem h
 rw [List.getElem?_zipWith] at hi
 split at hi
 ·rename_i d a h1 h2
  exact ⟨d, List.mem_of_getElem? h1, a, List.mem_of_getElem? h2, (Option.some.inj hi).symm⟩
 ·cases hi
theorem move_ok : ∀ (m : Nat) (d : Dm) (a b : Nd) (one : Bool), d.weigh ≤ m → d.ok → FitN b → (moveF d a b one).ok
 | 0, d, _, _, _, hm, _, _ => by cases d; simp [Dm.weigh] at hm
 | m + 1, .mk no k v s l f, a, b, one, hm, hok, hfb => by
  simp only [Dm.weigh] at hm
  obtain ⟨k1, k2, k3, k4, k5, k6, k7⟩ := hok
  have z : I64 0 := i64_small (by omega)
  have hlen := hfb.len
  have hk := hfb.kind
  rw [moveF]
  split
  ·exact ok_mk z z (by decide) (by simp) (by simp) (by simp) (by simp)
  split
  ·rw [moveL_eq]
   refine ⟨z, z, by unfold reach; decide, by rw [List.length_map]; exact k4, by simp, oksD_of fun d hd => ?_, trivial⟩
   obtain ⟨x, hx, rfl⟩ := List.mem_map.1 hd
   have := Dm.weigh_mem hx
   exact move_ok m x a b true (by omega) (Dm.oks_mem k6 x hx) hfb
  split
  ·exact ⟨i64_small (by omega), k2, k3, by simp, by simp, trivial, trivial⟩
  ·refine ok_mk z z (by decide) (by simp) (by rw [List.length_map]; omega) (by simp) fun d hd => ?_
   obtain ⟨c, hc, rfl⟩ := List.mem_map.1 hd
   unfold pickF
   split
   ·rename_i mm hmm
    obtain ⟨d', hd', a', _, rfl⟩ := mover_mem (List.mem_of_find?_eq_some hmm)
    have := Dm.weigh_mem hd'
    exact move_ok m d' a' c false (by omega) (Dm.oks_mem k7 d' hd') (hfb.sub hc)
   ·exact fresh_ok _ c (Nat.le_refl _) (hfb.sub hc)
theorem lift_ok {g : Int → Dm} {r p : Int} {one : Bool} (hp : 0 ≤ p) (hg : ∀ q, p ≤ q → q ≤ p + 2 → (g q).ok) : (liftF g r p one).ok := by
 have z : I64 0 := i64_small (by omega)
 unfold liftF
 split
 ·exact ok_mk z z (by decide) (by simp) (by simp) (by simp) (by simp)
 ·split
  ·refine ok_mk z z (by decide) (by rw [List.length_map, List.length_range]; omega) (by simp) (fun d hd => ?_) (by simp)
   obtain ⟨i, hi, rfl⟩ := List.mem_map.1 hd
   have := List.mem_range.1 hi
   exact hg _ (by omega) (by omega)
  ·exact hg p (Int.le_refl _) (by omega)
theorem one_ok : ∀ (m : Nat) (n : Nd) (p : Int), n.weigh ≤ m → FitN n → 0 ≤ p → p ≤ 5000 → (datF n p).ok
 | 0, n, _, hm, _, _, _ => by cases n; simp [Nd.weigh] at hm
 | m + 1, .mk i nm r k s, p, hm, hf, hp, hp2 => by
  have hk := hf.kind
  have hlen := hf.len
  simp only [Nd.kind, Nd.sub] at hk hlen
  have z : I64 0 := i64_small (by omega)
  rw [datF]
  split
  ·have h2 := Lib.itoa_length_le p (by omega) (by omega)
   refine ok_mk (i64_small (by omega)) z ?_ (by simp) (by simp) (by simp) (by simp)
   show (Lib.itoa p).toArray.size ≤ 1000
   simp only [List.size_toArray]
   omega
  split
  ·exact ok_mk (i64_small (by omega)) (i64_small (by omega)) (by decide) (by simp) (by simp) (by simp) (by simp)
  ·refine ok_mk z z (by decide) (by simp) (by rw [fill_len]; omega) (by simp) fun d hd => ?_
   obtain ⟨j, hj⟩ := List.getElem?_of_mem hd
   have hjl := (List.getElem?_eq_some_iff.1 hj).1
   rw [fill_len] at hjl
   have hc : s[j]? = some s[j] := List.getElem?_eq_getElem hjl
   rw [fill_at s p 1 j _ hc] at hj
   obtain rfl := Option.some.inj hj
   have hcm := List.mem_of_getElem? hc
   have hw := Nd.weigh_mem hcm
   simp only [Nd.weigh] at hm
   exact lift_ok (by omega) fun q h1 h2 => one_ok m _ q (by omega) (hf.sub hcm) (by omega) (by omega)
theorem some_ok {n : Nd} {p : Int} {one : Bool} (hf : FitN n) (hp : 0 ≤ p) (hp2 : p ≤ 4000) : (someF n p one).ok :=
 lift_ok hp fun q h1 h2 => one_ok _ n q (Nat.le_refl _) hf (by omega) (by omega)
theorem laid_get {P : Program} {W : World} {n : String} {d : DataW Unit} : ∀ {l : List (String × DataW Unit)} {ps : List MemPlace}, DataW.LaidVars P W l ps → (n, d) ∈ l →
  ∃ g t cs fuel p, P.globalNamed n = some g ∧ (P.globals[g]?).map (·.type) = some t ∧ W.var? P n = some cs ∧ DataW.trod (fun _ => ()) P W 0 (fun _ => true) false fuel t cs.toList = some (d, p)
 | [], _, _, h => by cases h
 | (n', d') :: r, ps, hl, h => by
  obtain ⟨g, t, cs, fuel, p, q, h1, h2, h3, h4, h5, _⟩ := hl
  rcases List.mem_cons.1 h with h | h
  ·obtain ⟨rfl, rfl⟩ := Prod.mk.inj h
   exact ⟨g, t, cs, fuel, p, h1, h2, h3, h4⟩
  ·exact laid_get h5 h
theorem laid_iface {P : Program} {W : World} {n nm : String} {d : DataW Unit} {l : List (String × DataW Unit)} {ps : List MemPlace} {g t : Nat} {ms : Array (String × TypeId)} (hL : DataW.LaidVars P W l ps) (hm : (n, .iface nm d) ∈ l)
  (hg : P.globalNamed n = some g) (hty : (P.globals[g]?).map (·.type) = some t) (ht : P.underlying t = some (.interface ms)) : ∃ T v, W.cell? ⟨g, 0, none⟩ = some (.iface T v) := by
 obtain ⟨g', t', cs, fuel, p, h1, h2, h3, h4⟩ := laid_get hL hm
 obtain rfl := Option.some.inj (hg.symm.trans h1)
 obtain rfl := Option.some.inj (hty.symm.trans h2)
 obtain ⟨_, u, v, h5, _, _⟩ := iface_of_trod ht h4
 refine ⟨u, v, ?_⟩
 rw [World.var?_cell hg h3, ← Array.getElem?_toList, h5]
 rfl
theorem strs_of {H : Type} {enc : TypeId × Value → H} {P : Program} {W : World} {base : Nat} {sp : Nat → Bool} {held : Bool} {fuel : Nat} {t e : TypeId} {n : Nat} {cs : List Value} {l : List (List UInt8)} {p : List MemPlace}
  (ht : P.underlying t = some (.array n e)) (he : P.underlying e = some TypeDesc.string) (hce : P.cellsOf e = 1) (h : DataW.trod enc P W base sp held fuel t cs = some (DataW.agg (l.map fun b => DataW.lit (Lit.string b)), p)) :
  ∀ (i : Nat) (b : List UInt8), l[i]? = some b → cs[i]? = some (.string ⟨b.toArray⟩) := by
 obtain ⟨xs, m, _, hx, hcl, hxl, hi⟩ := DataW.trod_array ht h
 intro i b hb
 have hx1 : (l.map fun b => (DataW.lit (Lit.string b) : DataW H)) = xs.map (fun z => z.1) := by
  have := congrArg Prod.fst hx
  simpa using this
 have hll : l.length = xs.length := by simpa using congrArg List.length hx1
 have hil : i < l.length := (List.getElem?_eq_some_iff.1 hb).1
 have h1 := congrArg (fun z => z[i]?) hx1
 simp only [List.getElem?_map, hb, Option.map_some] at h1
 rw [List.getElem?_eq_getElem (by omega)] at h1
 simp only [Option.map_some, Option.some.injEq] at h1
 have h2 := hi i (by omega)
 rw [hce, Nat.mul_one, List.getElem?_eq_getElem (by omega)] at h2
 obtain ⟨s, h3, h4, _⟩ := DataW.trod_string he h2
 rw [h4] at h1
 simp only [DataW.lit.injEq, Lit.string.injEq] at h1
 have h5 : cs[i]? = some (.string s) := by
  have := congrArg (fun z => z[0]?) h3
  simpa using this
 rw [h5, h1]
theorem laid_strs {P : Program} {W : World} {nm : String} {l : List (List UInt8)} {lv : List (String × DataW Unit)} {ps : List MemPlace} {g t e n : Nat} (hL : DataW.LaidVars P W lv ps) (hm : (nm, DataW.agg (l.map fun b => DataW.lit (Lit.string b))) ∈ lv)
  (hg : P.globalNamed nm = some g) (hty : (P.globals[g]?).map (·.type) = some t) (ht : P.underlying t = some (.array n e)) (he : P.underlying e = some TypeDesc.string) (hce : P.cellsOf e = 1) :
  ∀ (i : Nat) (b : List UInt8), l[i]? = some b → W.cell? ⟨g, i, none⟩ = some (.string ⟨b.toArray⟩) := by
 obtain ⟨g', t', cs, fuel, p, h1, h2, h3, h4⟩ := laid_get hL hm
 obtain rfl := Option.some.inj (hg.symm.trans h1)
 obtain rfl := Option.some.inj (hty.symm.trans h2)
 intro i b hb
 rw [World.var?_cell hg h3, ← Array.getElem?_toList]
 exact strs_of ht he hce h4 i b hb
theorem laid_tab {P : Program} {W : World} {nm : String} {k : IntKind} {zs : List Int} {lv : List (String × DataW Unit)} {ps : List MemPlace} {g t e n : Nat} (hL : DataW.LaidVars P W lv ps) (hm : (nm, Lib.tabData k zs) ∈ lv)
  (hg : P.globalNamed nm = some g) (hty : (P.globals[g]?).map (·.type) = some t) (ht : P.underlying t = some (.array n e)) (he : P.underlying e = some (.int k)) (hce : P.cellsOf e = 1) (hct : P.cellsOf t = n) : Lib.TabIs P W nm k zs := by
 obtain ⟨g', t', cs, fuel, p, h1, h2, h3, h4⟩ := laid_get hL hm
 obtain rfl := Option.some.inj (hg.symm.trans h1)
 obtain rfl := Option.some.inj (hty.symm.trans h2)
 unfold Lib.TabIs
 rw [h3, ← Lib.cells_of_tab ht he hce hct h4]
theorem gB : Tryz.prog.globalNamed "shredcol/api.ErrBound" = some 0 := by kernel_rfl
theorem gT : Tryz.prog.globalNamed "shredcol/api.ErrText" = some 2 := by kernel_rfl
theorem gS : Tryz.prog.globalNamed "shredcol/api.ErrShape" = some 5 := by kernel_rfl
theorem gN : Tryz.prog.globalNamed "shredcol/api.ErrName" = some 4 := by kernel_rfl
theorem gY : Tryz.prog.globalNamed "strconv.ErrSyntax" = some 13 := by kernel_rfl
theorem gR : Tryz.prog.globalNamed "strconv.ErrRange" = some 14 := by kernel_rfl
theorem gReps : Tryz.prog.globalNamed "shredcol/schema.reps" = some 9 := by kernel_rfl
theorem gKinds : Tryz.prog.globalNamed "shredcol/schema.kinds" = some 10 := by kernel_rfl
def errText (l : List UInt8) : DataW Unit := .iface "*errors.errorString" (.ptr (.agg [.lit (.string l)]))
def repsD : DataW Unit := .agg [.lit (.string []), .lit (.string [114, 101, 113, 117, 105, 114, 101, 100]), .lit (.string [111, 112, 116, 105, 111, 110, 97, 108]), .lit (.string [114, 101, 112, 101, 97, 116, 101, 100])]
def kindsD : DataW Unit := .agg [.lit (.string [103, 114, 111, 117, 112]), .lit (.string [98, 111, 111, 108]), .lit (.string [105, 110, 116]), .lit (.string [108, 111, 110, 103]), .lit (.string [98, 121, 116, 101, 115]), .lit (.string [100, 111, 117, 98, 108, 101])]
structure Lists (lv : List (String × DataW Unit)) : Prop where
 b : ∃ l, ("shredcol/api.ErrBound", errText l) ∈ lv
 t : ∃ l, ("shredcol/api.ErrText", errText l) ∈ lv
 s : ∃ l, ("shredcol/api.ErrShape", errText l) ∈ lv
 n : ∃ l, ("shredcol/api.ErrName", errText l) ∈ lv
 y : ∃ l, ("strconv.ErrSyntax", errText l) ∈ lv
 r : ∃ l, ("strconv.ErrRange", errText l) ∈ lv
 reps : ("shredcol/schema.reps", repsD) ∈ lv
 kinds : ("shredcol/schema.kinds", kindsD) ∈ lv
 pow : ("internal/strconv.uint64pow10", Lib.tabData .u64 Lib.pow10Tab) ∈ lv
theorem glo_of {lv : List (String × DataW Unit)} {W : World} (hlv : Lists lv) (hL : laidMet Tryz.prog lv W) : ∃ E, Glo W.heap.size E W := by
 obtain ⟨ps, hV, _⟩ := hL
 obtain ⟨_, m1⟩ := hlv.b
 obtain ⟨_, m2⟩ := hlv.t
 obtain ⟨_, m3⟩ := hlv.s
 obtain ⟨_, m4⟩ := hlv.n
 obtain ⟨_, m5⟩ := hlv.y
 obtain ⟨_, m6⟩ := hlv.r
 obtain ⟨T1, v1, c1⟩ := laid_iface hV m1 gB (by kernel_rfl) Tryz.underlying30
 obtain ⟨T2, v2, c2⟩ := laid_iface hV m2 gT (by kernel_rfl) Tryz.underlying30
 obtain ⟨T3, v3, c3⟩ := laid_iface hV m3 gS (by kernel_rfl) Tryz.underlying30
 obtain ⟨T4, v4, c4⟩ := laid_iface hV m4 gN (by kernel_rfl) Tryz.underlying30
 obtain ⟨T5, v5, c5⟩ := laid_iface hV m5 gY (by kernel_rfl) Tryz.underlying30
 obtain ⟨T6, v6, c6⟩ := laid_iface hV m6 gR (by kernel_rfl) Tryz.underlying30
 have hreps := laid_strs (l := [[], [114, 101, 113, 117, 105, 114, 101, 100], [111, 112, 116, 105, 111, 110, 97, 108], [114, 101, 112, 101, 97, 116, 101, 100]]) (e := 9) hV hlv.reps gReps (by kernel_rfl) Tryz.underlying210 Tryz.underlying9 (by kernel_rfl)
 have hkinds := laid_strs (l := [[103, 114, 111, 117, 112], [98, 111, 111, 108], [105, 110, 116], [108, 111, 110, 103], [98, 121, 116, 101, 115], [100, 111, 117, 98, 108, 101]]) (e := 9) hV hlv.kinds gKinds (by kernel_rfl) Tryz.underlying211 Tryz.underlying9 (by kernel_rfl)
 have hpow : Lib.TabIs Tryz.prog W "internal/strconv.uint64pow10" .u64 Lib.pow10Tab := laid_tab hV hlv.pow pow_at (t := 266) (e := 227) (by kernel_rfl) Tryz.underlying266 Tryz.underlying227 (by kernel_rfl) (by kernel_rfl)
 have l1 := lt_of_cell c1
 have l2 := lt_of_cell c2
 have l3 := lt_of_cell c3
 have l4 := lt_of_cell c4
 have l5 := lt_of_cell c5
 have l6 := lt_of_cell c6
 have l7 := lt_of_cell (hreps 0 _ rfl)
 have l8 := lt_of_cell (hkinds 0 _ rfl)
 have l9 : 18 < W.heap.size := by
  have h1 := hpow.cell pow_at 0 (by decide)
  exact lt_of_cell h1
 refine ⟨fun e => match e with | .bound => .iface T1 v1 | .text => .iface T2 v2 | .shape => .iface T3 v3 | .name => .iface T4 v4, ⟨fun e => ?_, fun e => ?_⟩, ⟨⟨l7, l8, l9⟩, fun i s hi => ?_, fun i s hi => ?_, hpow⟩, ⟨T5, v5, c5⟩, ⟨T6, v6, c6⟩, ⟨fun e => ?_, l5, l6⟩⟩
 ·cases e
  ·exact c1
  ·exact c2
  ·exact c3
  ·exact c4
 ·cases e
  ·exact ⟨_, _, rfl⟩
  ·exact ⟨_, _, rfl⟩
  ·exact ⟨_, _, rfl⟩
  ·exact ⟨_, _, rfl⟩
 ·have := hreps i s.data.toList (by
   have h1 := congrArg (fun z => z.map (fun x : ByteArray => x.data.toList)) hi
   rw [← List.getElem?_map] at h1
   exact h1)
  rw [this]
 ·have := hkinds i s.data.toList (by
   have h1 := congrArg (fun z => z.map (fun x : ByteArray => x.data.toList)) hi
   rw [← List.getElem?_map] at h1
   exact h1)
  rw [this]
 ·cases e
  ·exact l1
  ·exact l2
  ·exact l3
  ·exact l4
end Go.Proofs.YtgcmfpcgmkkobaaGreatDoor
