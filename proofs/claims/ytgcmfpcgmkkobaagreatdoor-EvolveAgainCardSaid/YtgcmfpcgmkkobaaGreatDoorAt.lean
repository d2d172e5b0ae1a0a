/-
 evolve.at: the node with an ID, and the one around it, by their places.
-/
import Derived.Test.YtgcmfpcgmkkobaaGreatDoorTree
import Derived.Test.YtgcmfpcgmkkobaaGreatDoorPackA
import Derived.Test.YtgcmfpcgmkkobaaGreatDoorPackF
set_option linter.unusedVariables false
set_option linter.unusedSimpArgs false
namespace Go.Proofs.YtgcmfpcgmkkobaaGreatDoor
open Go.RowKit

/-- h stands somewhere in n; C: what n is with another node in its stead. -/
inductive Holds : Nd → Nd → (Nd → Nd) → Prop
 | here (n : Nd) : Holds n n (fun x => x)
 | down {i : Int} {nm : ByteArray} {r k : Int} {s : List Nd} {j : Nat} {c h : Nd} {C : Nd → Nd} : s[j]? = some c → Holds c h C → Holds (.mk i nm r k s) h (fun x => .mk i nm r k (s.set j (C x)))
/-- The node h at its place in the tree of n: what becomes of it becomes of the tree. -/
structure Inside (w : World) (B b o : Nat) (n : Nd) (F : List Nat) (hb ho : Nat) (h : Nd) (Fh : List Nat) (C : Nd → Nd) : Prop where
 pt : PtN w B hb ho h Fh
 path : Holds n h C
 upd : ∀ w' h' Fh', Upd w B hb ho h Fh w' h' Fh' → ∃ F', Upd w B b o n F w' (C h') F'
 blk : hb = b ∨ hb ∈ F
 sub : ∀ x ∈ Fh, x ∈ F
theorem Inside.here {w : World} {B b o : Nat} {n : Nd} {F : List Nat} (h : PtN w B b o n F) : Inside w B b o n F b o n F (fun x => x) :=
 ⟨h, .here n, fun _ _ F' hu => ⟨F', hu⟩, .inl rfl, fun _ hx => hx⟩
def RetAt (wz : World) (B b o : Nat) (n : Nd) (F : List Nat) (id : Int) (w : World) (en : Ending) (w' : World) : Prop :=
 Chg NoB w w' ∧ ((id ∉ idsL n.sub ∧ en = .returned (.tuple #[.pointer none, .pointer none])) ∨
  ∃ hb ho h Fh C rb cap j q, en = .returned (.tuple #[.pointer (some ⟨rb, j * 5, none⟩), .pointer (some ⟨hb, ho, none⟩)]) ∧ Inside wz B b o n F hb ho h Fh C ∧ h.sub[j]? = some q ∧ q.id = id ∧
   wz.cell? ⟨hb, ho + 4, none⟩ = some (.slice (some ⟨rb, 0, none⟩) h.sub.length cap))

set_option maxHeartbeats 1000000 in
/-- The tree is told of as it lay in some world ahead (wz), from which nothing of it has changed. -/
theorem at_any (wz : World) (B : Nat) (id : Int) : ∀ (m : Nat) (b o : Nat) (n : Nd) (F : List Nat) (w : World), n.weigh ≤ m → PtN wz B b o n F → Chg NoB wz w →
  Calls Tryz.prog 54 #[.pointer (some ⟨b, o, none⟩), .int .i64 id] w (RetAt wz B b o n F id w) := by
 intro m
 induction m with
 | zero => intro b o n F w hm; cases n; simp [Nd.weigh] at hm
 | succ m ih =>
  intro b o n F w hm hp hz
  have Hih := Lib.hid ih
  clear ih
  obtain ⟨i, nm, r, k, s⟩ := n
  obtain ⟨v, htl, _, _, _, _, c4z, _⟩ := hp.form
  have c4 := (hz.cell (p := ⟨b, o + 4, none⟩) (lt_of_cell c4z) NoB.elim).trans c4z
  obtain ⟨a, c, rfl, hlen, hcap⟩ := htl.form
  unfold maxLen at hcap
  simp only [Nd.weigh] at hm
  go_enter Tryz.func54, Tryz.ntmps54
  go_wp2_with fail
  go_loopw [14] (fun vi wr => ∃ t : Nat, t ≤ s.length ∧ vi = .int .i64 (t : Nat) ∧ Chg NoB w wr ∧ id ∉ idsL (s.take t)) (fun vi _ => s.length - (intOf vi).toNat)
  case atStart => exact ⟨0, Nat.zero_le _, rfl, Chg.refl _ _, by simp [idsL]⟩
  case round =>
   obtain ⟨t, ht, rfl, hc, hno⟩ := hrel
   have Hno := Lib.hid hno
   clear hno
   by_cases hlt : t < s.length
   ·have hltI : (t : Int) < (s.length : Int) := by omega
    have hj : s[t]? = some s[t] := List.getElem?_eq_getElem hlt
    have hmem : s[t] ∈ s := List.getElem_mem hlt
    have hwj := Nd.weigh_mem hmem
    have htake : s.take (t + 1) = s.take t ++ [s[t]] := List.take_succ_eq_append_getElem hlt
    generalize s[t] = q at hj hmem hwj htake
    obtain ⟨rb, cap, Fc, z4, h1, h2, h3, h4, hpc, hup⟩ := hp.child hj
    have hsl : Value.slice (some ⟨rb, 0, none⟩) s.length cap = .slice a s.length c := Option.some.inj (z4.symm.trans c4z)
    obtain ⟨rfl, -, rfl⟩ := Value.slice.inj hsl
    obtain ⟨iq, nq, rq, kq, sq⟩ := q
    obtain ⟨vq, _, q0z, _⟩ := hpc.form
    have hzr := hz.tr hc
    have r4 := (hzr.cell (p := ⟨b, o + 4, none⟩) (lt_of_cell z4) NoB.elim).trans z4
    have q0 := (hzr.cell (p := ⟨rb, t * 5, none⟩) (lt_of_cell q0z) NoB.elim).trans q0z
    have Hup := Lib.hid hup
    have Htake := Lib.hid htake
    have Hj := Lib.hid hj
    clear hup htake hj hsl
    by_cases hid : iq = id
    ·subst hid
     go_wp2_with fail
     go_ret2
     exact ⟨hc, .inr ⟨b, o, _, F, fun x => x, rb, cap, t, _, rfl, Inside.here hp, Hj.out, rfl, z4⟩⟩
    ·go_wp2_with fail
     refine (Hih.out rb (t * 5) (.mk iq nq rq kq sq) Fc wr (by omega) hpc hzr).mono ?_
     rintro en w2 ⟨hc2, (⟨hn2, rfl⟩ | ⟨hb, ho, h, Fh, C, rb2, cap2, j2, q2, rfl, hin, hh, hq2, hcell⟩)⟩
     ·go_wp2_with fail
      go_roundw
      case rel =>
       refine ⟨t + 1, by omega, by go_num, hc.tr hc2, ?_⟩
       rw [Htake.out, idsL_append]
       simp only [idsL, idsN, List.append_nil, List.mem_append, List.mem_cons, not_or]
       exact ⟨Hno.out, fun e => hid e.symm, hn2⟩
      case measure => simp [intOf]; omega
     ·go_wp2_with fail
      go_ret2
      refine ⟨hc.tr hc2, .inr ⟨hb, ho, h, Fh, _, rb2, cap2, j2, q2, rfl, ⟨hin.pt, .down Hj.out hin.path, ?_, ?_, fun x hx => h4 x (hin.sub x hx)⟩, hh, hq2, hcell⟩⟩
      ·intro w' h' Fh' hu
       obtain ⟨Fq', hu2⟩ := hin.upd w' h' Fh' hu
       exact Hup.out _ _ _ hu2
      ·rcases hin.blk with e | e
       ·exact .inr (e ▸ h3)
       ·exact .inr (h4 _ e)
   ·have hltI : ¬ (t : Int) < (s.length : Int) := by omega
    have hte : s.take t = s := List.take_of_length_le (by omega)
    go_wp2_with fail
    go_ret2
    exact ⟨hc, .inl ⟨by have := Hno.out; rwa [hte] at this, rfl⟩⟩
end Go.Proofs.YtgcmfpcgmkkobaaGreatDoor
