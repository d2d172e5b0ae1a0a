/-
  The group around an ID, in plain words.; shredcolref2.HasInt.; Find and Under against FindOf and UnderOf: the plain laws; and the errors' numbers.
-/
import Derived.Test.YtgcmfpcgmkkobaaGreatDoorEditT
import Derived.Test.YtgcmfpcgmkkobaaGreatDoorValid2
import Derived.Test.YtgcmfpcgmkkobaaGreatDoorTwiceP
import Derived.Test.YtgcmfpcgmkkobaaGreatDoorWordsLaw
import Derived.Test.YtgcmfpcgmkkobaaGreatDoorTreeMore
import Derived.Test.YtgcmfpcgmkkobaaGreatDoorProj
import Derived.Test.YtgcmfpcgmkkobaaGreatDoorAll
import Derived.Test.YtgcmfpcgmkkobaaGreatDoorWoR
set_option linter.unusedVariables false
set_option maxHeartbeats 20000000
set_option maxRecDepth 100000
set_option linter.unusedSimpArgs false
namespace Go.Proofs.YtgcmfpcgmkkobaaGreatDoor
open Go.RowKit
mutual
theorem fndG_no (id : Int) : ∀ n : Nd, id ∉ idsL n.sub → fndG id n = none
 | .mk i nm r k s, h => by
  simp only [Nd.sub] at h
  have h1 : ¬ (s.any fun c => decide (c.id = id)) = true := fun e => by
   obtain ⟨c, hc, rfl⟩ := any_id.1 e
   exact h (id_in_ids hc)
  rw [fndG, if_neg h1, fndGL_no id s h]
theorem fndGL_no (id : Int) : ∀ l : List Nd, id ∉ idsL l → fndGL id l = none
 | [], _ => rfl
 | n :: ns, h => by
  simp only [idsL, List.mem_append, not_or] at h
  rw [fndGL, fndG_no id n (fun e => h.1 (by cases n; simp only [idsN, List.mem_cons, Nd.sub] at e ⊢; exact .inr e))]
  exact fndGL_no id ns h.2
end
theorem fndGL_skip {id : Int} {c : Nd} (l2 : List Nd) : ∀ l1 : List Nd, id ∉ idsL l1 → fndGL id (l1 ++ c :: l2) = match fndG id c with | some x => some x | none => fndGL id l2
 | [], _ => rfl
 | n :: ns, h => by
  simp only [idsL, List.mem_append, not_or] at h
  rw [List.cons_append, fndGL, fndG_no id n (fun e => h.1 (by cases n; simp only [idsN, List.mem_cons, Nd.sub] at e ⊢; exact .inr e))]
  exact fndGL_skip l2 ns h.2
theorem holds_fndG {id : Int} : ∀ {n h : Nd} {C : Nd → Nd}, Holds n h C → ∀ {j : Nat} {q : Nd}, h.sub[j]? = some q → q.id = id → (idsL n.sub).Nodup → fndG id n = some h.sub := by
 intro n h C hH
 induction hH with
 | here n =>
  intro j q hq hid hn
  have hm := List.mem_of_getElem? hq
  cases n
  simp only [Nd.sub] at hm ⊢
  rw [fndG, if_pos (any_id.2 ⟨q, hm, hid⟩)]
 | down hj hH ih =>
  rename_i i nm r k s jj c hh C
  intro j q hq hid hn
  simp only [Nd.sub] at hn
  have hk := (holds_grp hH hq hid (by
   obtain ⟨l1, l2, rfl, rfl, _⟩ := list_split hj
   have h1 := (nodup_mid hn).1
   cases c; simp only [idsN, List.nodup_cons] at h1; exact h1.2)).1
  obtain ⟨l1, l2, rfl, rfl, hset⟩ := list_split hj
  obtain ⟨h1, h2⟩ := nodup_mid hn
  have hcn : (idsL c.sub).Nodup := by cases c; simp only [idsN, List.nodup_cons] at h1; exact h1.2
  have hidc : id ∈ idsN c := by cases c; simp only [idsN, List.mem_cons]; exact .inr hk
  have hcne : c.id ≠ id := fun e => by
   cases c
   simp only [idsN, List.nodup_cons, Nd.id, Nd.sub] at h1 e hk
   exact h1.1 (e ▸ hk)
  have hno : ¬ ((l1 ++ c :: l2).any fun c => decide (c.id = id)) = true := fun e => by
   obtain ⟨x, hx, hxi⟩ := any_id.1 e
   rcases List.mem_append.1 hx with hx | hx
   ·exact (h2 id hidc).1 (hxi ▸ id_in_ids hx)
   ·rcases List.mem_cons.1 hx with rfl | hx
    ·exact hcne hxi
    ·exact (h2 id hidc).2 (hxi ▸ id_in_ids hx)
  rw [fndG, if_neg hno, fndGL_skip l2 l1 (h2 id hidc).1, ih hq hid hcn]
theorem movTo_at {id : Int} {s : List Nd} {j : Nat} {q : Nd} (hj : s[j]? = some q) (hid : q.id = id) (hn : (idsL s).Nodup) (p : Nat) :
  ∃ l1 l2, s = l1 ++ q :: l2 ∧ l1.length = j ∧ (∀ x ∈ l1, x.id ≠ id) ∧ movTo id p s = (l1 ++ l2).take p ++ q :: (l1 ++ l2).drop p := by
 obtain ⟨l1, l2, rfl, rfl, hset⟩ := list_split hj
 obtain ⟨h1, h2⟩ := nodup_mid hn
 have hidq : id ∈ idsN q := by cases q; simp only [idsN, List.mem_cons]; exact .inl hid.symm
 have n1 : ∀ x ∈ l1, x.id ≠ id := fun x hx e => (h2 id hidq).1 (e ▸ id_in_ids hx)
 have n2 : ∀ x ∈ l2, x.id ≠ id := fun x hx e => (h2 id hidq).2 (e ▸ id_in_ids hx)
 refine ⟨l1, l2, rfl, rfl, n1, ?_⟩
 have hf : (l1 ++ q :: l2).find? (fun c => decide (c.id = id)) = some q := by
  rw [List.find?_append, List.find?_eq_none.2 (fun x hx => by simpa using n1 x hx)]
  simp [hid]
 have hfl : ((l1 ++ q :: l2).filter fun c => !decide (c.id = id)) = l1 ++ l2 := by
  rw [List.filter_append, List.filter_cons_of_neg (by simp [hid]), List.filter_eq_self.2 (fun x hx => by simpa using n1 x hx), List.filter_eq_self.2 (fun x hx => by simpa using n2 x hx)]
 unfold movTo
 rw [hf, hfl]
def HiRel (l : List Int) (x : Int) (w : World) (vi : Value) (wr : World) : Prop := ∃ j : Nat, j ≤ l.length ∧ vi = .int .i64 (j : Nat) ∧ wr = w ∧ has (l.take j) x = false
theorem hasInt_any (l : List Int) (x : Int) (a : Value) (w : World) (S : Nat → Prop) (ha : Reads w S (.list 1 (l.map intDt)) [a]) :
  Calls Tryz.prog 106 #[a, .int .i64 x] w (fun e w' => e = .returned (.bool (has l x)) ∧ w' = w) := by
 obtain ⟨aa, ac, rfl, ha1, ha2, ha3⟩ := list_cells (f := Value.int .i64) (show Reads w S (.list 1 (l.map fun x => .lit (.int .i64 x))) [a] from ha)
 have h63 : l.length ≤ 9223372036854775807 := by unfold maxLen at ha2; omega
 have Ha3 := Lib.hid ha3
 clear ha3 ha
 go_enter Tryz.func106, Tryz.ntmps106
 go_wp2_with fail
 go_loopw [5] (fun vi wr => HiRel l x w vi wr) (fun vi _ => l.length - (intOf vi).toNat)
 case atStart => exact ⟨0, Nat.zero_le _, rfl, rfl, rfl⟩
 case round =>
  obtain ⟨j, hj, rfl, rfl, hno⟩ := hrel
  have Hno := Lib.hid hno
  clear hno
  by_cases hlt : j < l.length
  ·obtain ⟨ab, aoff, rfl, _, hab, hac⟩ := Ha3.out (by omega)
   have e1 := hac j l[j] (by simp [hlt])
   have htake : l.take (j + 1) = l.take j ++ [l[j]] := List.take_succ_eq_append_getElem hlt
   have hmem : l[j] ∈ l := List.getElem_mem hlt
   generalize l[j] = y at e1 htake hmem
   have Htake := Lib.hid htake
   clear hac htake
   by_cases hy : y = x
   ·subst hy
    have hh : has l y = true := (has_iff _ _).2 hmem
    have Hh := Lib.hid hh
    clear hh hmem
    go_wp2_with fail
    go_ret
    exact ⟨by rw [Hh.out]; rfl, rfl⟩
   ·have hy' : (y == x) = false := by simpa using hy
    have hnx : has (l.take (j + 1)) x = false := by
     have h9 := Hno.out
     unfold has at h9 ⊢
     rw [Htake.out, List.any_append, h9]
     simp [hy]
    have Hnx := Lib.hid hnx
    clear hnx hmem
    go_wp2_with fail
    go_roundw
    case rel => exact ⟨j + 1, hlt, by go_num, rfl, Hnx.out⟩
    case measure => simp [intOf]; omega
  ·have hjl : j = l.length := by omega
   subst hjl
   have hh : has l x = false := by have := Hno.out; rwa [List.take_length] at this
   have Hh := Lib.hid hh
   clear hh
   go_wp2_with fail
   go_ret
   exact ⟨by rw [Hh.out]; rfl, rfl⟩
def Er.i : Er → Nat
 | .text => 0 | .bound => 1 | .shape => 2 | .name => 4
structure Named (w : World) (A : Nat → Addr) (E : Er → Value) (N : Value) : Prop where
 sents : Sents w A
 er : ∀ e : Er, E e = sv (A e.i)
 non : N = sv (A 5)
theorem Named.told {w : World} {A : Nat → Addr} {E : Er → Value} {N : Value} (h : Named w A E N) (e : Er) : Told w A (E e) (errNum (some e)) (-1) := by
 rw [h.er e]
 cases e
 ·exact Told.sent 1 (by omega)
 ·exact Told.sent 0 (by omega)
 ·exact Told.sent 2 (by omega)
 ·exact Told.sent 4 (by omega)
theorem Named.keep0 {w w' : World} {A : Nat → Addr} {E : Er → Value} {N : Value} (h : Named w A E N) (hc : Chg NoB w w') : Named w' A E N := ⟨h.sents.keep0 hc, h.er, h.non⟩
end Go.Proofs.YtgcmfpcgmkkobaaGreatDoor
