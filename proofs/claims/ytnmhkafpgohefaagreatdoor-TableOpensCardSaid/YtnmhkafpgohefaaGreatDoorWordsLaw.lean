/-
  A map of slices by name, as the values that lie in it. Plain words over the kit's laws on maps.; A projection of a right schema, as plain data: it is right, its leaves are some of the schema's, projected again it is the same.; evolve.at: the node with an ID, and the one around it, by their places.; A tree edited at the node with an ID: the plain law behind evolve.at.; A drawn region: a step that l
-/
import Derived.Test.YtnmhkafpgohefaaGreatDoorNode
import Derived.Test.YtnmhkafpgohefaaGreatDoorProg
import Derived.Maps.OwnSet
import Derived.StringKeys
import Derived.Test.YtnmhkafpgohefaaGreatDoorPlain
import Derived.Test.YtnmhkafpgohefaaGreatDoorTreeMore
import Derived.Lib.SliceRun
import Derived.Test.YtnmhkafpgohefaaGreatDoorAll
import Derived.Test.YtnmhkafpgohefaaGreatDoorLeaf
import Derived.OpenShut
import Derived.ProofKit
import Derived.Test.YtnmhkafpgohefaaGreatDoorRegion
import Derived.Test.YtnmhkafpgohefaaGreatDoorValid
import Derived.Maps.Own
import Derived.Carry
import Derived.Test.YtnmhkafpgohefaaGreatDoorRead
import Derived.Lib.AtoiTie
set_option linter.unusedVariables false
set_option maxHeartbeats 20000000
set_option maxRecDepth 100000
set_option linter.unusedSimpArgs false
namespace Go.Proofs.YtnmhkafpgohefaaGreatDoor
open Go.RowKit Go.Maps
def heldE (v : Value) : Option (DataW Value × List MemPlace) := some (.held v, [])
def kL (s : ByteArray) : Lit := .string s.data.toList
theorem kL_inj {s t : ByteArray} (h : kL s = kL t) : s = t := by
 simp only [kL, Lit.string.injEq] at h
 have h1 : s.data = t.data := Array.toList_inj.1 h
 cases s; cases t; simp_all
theorem strKey : Keyed Tryz.prog 9 := string_keyed Tryz.underlying9
theorem key_str {s : ByteArray} (h : s.size ≤ maxLen) : keyOf Tryz.prog 9 (.string s) = some (kL s) := Go.WideMaps.keyOf_string_mk Tryz.underlying9 h
def oneD (s : ByteArray) (v : Value) : DataW Value := .map [(kL s, .held v)]
def noneD : DataW Value := .map []
theorem sameKey_kL (s : ByteArray) : (kL s).sameKey (kL s) = true := by simp [kL, Lit.sameKey]
theorem put_none (s : ByteArray) (v : Value) : noneD.put (kL s) (.held v) = oneD s v := rfl
theorem put_one (s : ByteArray) (u v : Value) : (oneD s u).put (kL s) (.held v) = oneD s v := by
 simp [oneD, DataW.put, sameKey_kL, DataW.insert]
theorem has_none (k : Lit) : Maps.has noneD k = false := rfl
theorem has_one (s : ByteArray) (v : Value) : Maps.has (oneD s v) (kL s) = true := by simp [oneD, Maps.has, sameKey_kL]
theorem has_one_ne {s t : ByteArray} (h : s ≠ t) (v : Value) : Maps.has (oneD s v) (kL t) = false := by
 have h1 := sameKey_ne (fun e => h (kL_inj e) : kL s ≠ kL t)
 simp [oneD, Maps.has, h1]
theorem at_none (k : Lit) (z : DataW Value) : noneD.atKey k z = z := rfl
theorem at_one (s : ByteArray) (v : Value) (z : DataW Value) : (oneD s v).atKey (kL s) z = .held v := by simp [oneD, DataW.atKey, sameKey_kL]
theorem at_one_ne {s t : ByteArray} (h : s ≠ t) (v : Value) (z : DataW Value) : (oneD s v).atKey (kL t) z = z := by
 have h1 := sameKey_ne (fun e => h (kL_inj e) : kL s ≠ kL t)
 simp [oneD, DataW.atKey, h1]
open Go.RowKit
mutual
def idsN : Nd → List Int
 | .mk i _ _ _ s => i :: idsL s
def idsL : List Nd → List Int
 | [] => []
 | n :: ns => idsN n ++ idsL ns
end
theorem idsL_append : ∀ (a b : List Nd), idsL (a ++ b) = idsL a ++ idsL b
 | [], b => rfl
 | x :: xs, b => by simp only [List.cons_append, idsL, idsL_append xs b, List.append_assoc]
theorem alls_append {P : Nd → Prop} : ∀ (a b : List Nd), Nd.Alls P a → Nd.Alls P b → Nd.Alls P (a ++ b)
 | [], b, _, hb => hb
 | x :: xs, b, ha, hb => ⟨ha.1, alls_append xs b ha.2 hb⟩
structure Fit (s : List Nd) : Prop where
 ne : s ≠ []
 high : Nd.highs s ≤ 5
 small : Nd.weighs s ≤ 39
 nodes : Nd.Alls (fun n => (v3F n ()).1 = true) s
 names : namesB s = true
 deep : Nd.Alls (fun n => namesB n.sub = true) s
 nodup : (idsL s).Nodup
 range : ∀ x ∈ idsL s, 1 ≤ x ∧ x ≤ 1000
mutual
theorem v5_ids : ∀ (n : Nd) (d : Int) (s : List Int), 1 ≤ d → (walkF (allF v5F) n d s).1 = true → s.Nodup → (walkF (allF v5F) n d s).2 = s ++ idsN n ∧ (s ++ idsN n).Nodup ∧ ∀ x ∈ idsN n, 1 ≤ x ∧ x ≤ 1000
 | .mk i nm r k sb, d, s, hd, h, hn => by
  simp only [walkF] at h ⊢
  have hf : allF v5F (.mk i nm r k sb) d s = (decide (1 ≤ i) && decide (i ≤ 1000) && !has s i, s ++ [i]) := by
   simp only [allF, if_neg (show ¬ d = 0 by omega)]; rfl
  rw [hf] at h ⊢
  cases hb : (decide (1 ≤ i) && decide (i ≤ 1000) && !has s i) with
  | false => rw [hb] at h; cases h
  | true =>
   rw [hb] at h
   simp only [Bool.and_eq_true, decide_eq_true_eq, Bool.not_eq_true', has_not] at hb
   have hn2 : (s ++ [i]).Nodup := List.nodup_append.2 ⟨hn, by simp, fun a ha b hb2 => by
    simp only [List.mem_cons, List.not_mem_nil, or_false] at hb2
    subst hb2
    rintro rfl
    exact hb.2 ha⟩
   obtain ⟨h1, h2, h3⟩ := v5_idsL sb (d + 1) (s ++ [i]) (by omega) h hn2
   have e : s ++ idsN (.mk i nm r k sb) = (s ++ [i]) ++ idsL sb := by simp [idsN]
   rw [e]
   refine ⟨h1, h2, fun x hx => ?_⟩
   simp only [idsN, List.mem_cons] at hx
   rcases hx with rfl | hx
   ·exact hb.1
   ·exact h3 x hx
theorem v5_idsL : ∀ (l : List Nd) (d : Int) (s : List Int), 1 ≤ d → (walkFs (allF v5F) l d s).1 = true → s.Nodup → (walkFs (allF v5F) l d s).2 = s ++ idsL l ∧ (s ++ idsL l).Nodup ∧ ∀ x ∈ idsL l, 1 ≤ x ∧ x ≤ 1000
 | [], d, s, hd, h, hn => by
  simp only [walkFs, idsL, List.append_nil]
  exact ⟨trivial, hn, fun x hx => by cases hx⟩
 | n :: ns, d, s, hd, h, hn => by
  simp only [walkFs] at h ⊢
  have h0 := v5_ids n d s hd
  rcases hw : walkF (allF v5F) n d s with ⟨b, s'⟩
  rw [hw] at h h0
  cases b
  ·cases h
  ·obtain ⟨e, h1, h2⟩ := h0 rfl hn
   simp only at e h
   subst e
   obtain ⟨h3, h4, h5⟩ := v5_idsL ns d (s ++ idsN n) hd h h1
   have e : s ++ idsL (n :: ns) = (s ++ idsN n) ++ idsL ns := by simp [idsL]
   rw [e]
   refine ⟨h3, h4, fun x hx => ?_⟩
   simp only [idsL, List.mem_append] at hx
   exact hx.elim (h2 x) (h5 x)
end
mutual
theorem v5_of : ∀ (n : Nd) (d : Int) (s : List Int), 1 ≤ d → (s ++ idsN n).Nodup → (∀ x ∈ idsN n, 1 ≤ x ∧ x ≤ 1000) → walkF (allF v5F) n d s = (true, s ++ idsN n)
 | .mk i nm r k sb, d, s, hd, hn, hr => by
  have e : s ++ idsN (.mk i nm r k sb) = (s ++ [i]) ++ idsL sb := by simp [idsN]
  rw [e] at hn ⊢
  have hi := hr i (by simp [idsN])
  have hni : i ∉ s := fun h => by
   have := (List.nodup_append.1 (List.nodup_append.1 hn).1).2.2 i h i (by simp)
   exact this rfl
  have hf : allF v5F (.mk i nm r k sb) d s = (true, s ++ [i]) := by
   simp only [allF, if_neg (show ¬ d = 0 by omega), v5F, Nd.id, hi.1, hi.2, (has_not _ _).2 hni, decide_true, Bool.not_false, Bool.and_self]
  simp only [walkF]
  rw [hf]
  exact v5_ofL sb (d + 1) (s ++ [i]) (by omega) hn (fun x hx => hr x (by simp [idsN, hx]))
theorem v5_ofL : ∀ (l : List Nd) (d : Int) (s : List Int), 1 ≤ d → (s ++ idsL l).Nodup → (∀ x ∈ idsL l, 1 ≤ x ∧ x ≤ 1000) → walkFs (allF v5F) l d s = (true, s ++ idsL l)
 | [], d, s, hd, hn, hr => by simp [walkFs, idsL]
 | n :: ns, d, s, hd, hn, hr => by
  have e : s ++ idsL (n :: ns) = (s ++ idsN n) ++ idsL ns := by simp [idsL]
  rw [e] at hn ⊢
  simp only [walkFs]
  rw [v5_of n d s hd (List.nodup_append.1 hn).1 (fun x hx => hr x (by simp [idsL, hx]))]
  exact v5_ofL ns d (s ++ idsN n) hd hn (fun x hx => hr x (by simp [idsL, hx]))
end
mutual
theorem v1_of : ∀ (n : Nd) (d s : Int), d + n.high ≤ 7 → s + n.weigh ≤ 40 → walkF v1F n d s = (true, s + n.weigh)
 | .mk i nm r k sb, d, s, hd, hs => by
  simp only [Nd.high] at hd
  simp only [Nd.weigh] at hs ⊢
  have hf : v1F (.mk i nm r k sb) d s = (true, s + 1) := by
   have e1 : decide (s + 1 ≤ 40) = true := decide_eq_true (by omega)
   have e2 : decide (d ≤ 6) = true := decide_eq_true (by omega)
   simp only [v1F, e1, e2, Bool.and_self]
  simp only [walkF]
  rw [hf]
  simp only
  rw [v1_ofL sb (d + 1) (s + 1) (by omega) (by omega)]
  simp only [Prod.mk.injEq, true_and]
  omega
theorem v1_ofL : ∀ (l : List Nd) (d s : Int), d + Nd.highs l ≤ 7 → s + Nd.weighs l ≤ 40 → walkFs v1F l d s = (true, s + Nd.weighs l)
 | [], d, s, hd, hs => by simp [walkFs, Nd.weighs]
 | n :: ns, d, s, hd, hs => by
  simp only [Nd.highs] at hd
  simp only [Nd.weighs] at hs ⊢
  simp only [walkFs]
  rw [v1_of n d s (by omega) (by omega)]
  simp only
  rw [v1_ofL ns d _ (by omega) (by omega)]
  simp only [Prod.mk.injEq, true_and]
  omega
end
mutual
theorem walk_of {f : Nd → Int → Unit → Bool × Unit} {P : Nd → Prop} (hP : ∀ n d, 1 ≤ d → P n → (f n d ()).1 = true) : ∀ (n : Nd) (d : Int), 1 ≤ d → n.All P → walkF f n d () = (true, ())
 | .mk i nm r k sb, d, hd, h => by
  have hf : f (.mk i nm r k sb) d () = (true, ()) := Prod.ext (hP _ d hd h.1) rfl
  simp only [walkF]
  rw [hf]
  exact walk_ofL hP sb (d + 1) (by omega) h.2
theorem walk_ofL {f : Nd → Int → Unit → Bool × Unit} {P : Nd → Prop} (hP : ∀ n d, 1 ≤ d → P n → (f n d ()).1 = true) : ∀ (l : List Nd) (d : Int), 1 ≤ d → Nd.Alls P l → walkFs f l d () = (true, ())
 | [], d, hd, h => rfl
 | n :: ns, d, hd, h => by
  simp only [walkFs]
  rw [walk_of hP n d hd h.1]
  exact walk_ofL hP ns d hd h.2
end
theorem fit_of {nd : Nd} (h : validF nd = none) : Fit nd.sub := by
 have hS := schema_of_valid h
 unfold validF at h
 split at h
 ·cases h
 rename_i h1
 split at h
 ·cases h
 rename_i h2
 split at h
 ·cases h
 rename_i h3
 split at h
 ·cases h
 rename_i h4
 split at h
 ·cases h
 rename_i h5
 rw [Bool.not_eq_false] at h1 h2 h3 h4 h5
 have a3 := (walk_root (P := fun n => (v3F n ()).1 = true) (fun n d s hd hf => by simp only [allF, if_neg (show ¬ d = 0 by omega)] at hf; exact hf) nd () h3).1
 have a4 := walk_root (P := fun n => namesB n.sub = true) (fun n d s hd hf => hf) nd () h4
 have h6 := hS.high
 have h7 := hS.small
 obtain ⟨i, nm, r, k, sb⟩ := nd
 simp only [walkF] at h5
 have hf : allF v5F (.mk i nm r k sb) 0 [] = (true, []) := by simp [allF]
 rw [hf] at h5
 have a5 := v5_idsL sb (0 + 1) [] (by omega) h5 (by simp)
 simp only [Nd.high] at h6
 simp only [Nd.weigh] at h7
 unfold rootB at h2
 rw [Bool.and_eq_true, Bool.and_eq_true, Bool.and_eq_true, Bool.and_eq_true] at h2
 have h8 := of_decide_eq_true h2.2
 refine ⟨fun e => h8 ?_, by simp only [Nd.sub]; omega, by simp only [Nd.sub]; omega, a3, a4.2, a4.1, by simpa [Nd.sub] using a5.2.1, a5.2.2⟩
 rw [e]; rfl
theorem valid_of {s : List Nd} (h : Fit s) : validF (.mk 0 rootName 1 0 s) = none := by
 have h1 : (walkF v1F (.mk 0 rootName 1 0 s) 1 0) = (true, _) := v1_of (.mk 0 rootName 1 0 s) 1 0 (by have := h.high; simp only [Nd.high]; omega) (by have := h.small; simp only [Nd.weigh]; omega)
 have h2 : rootB (.mk 0 rootName 1 0 s) = true := by
  unfold rootB
  have h9 : ((s.length : Nat) : Int) ≠ 0 := by
   have := h.ne
   cases s with
   | nil => exact absurd rfl this
   | cons x xs => simp only [List.length_cons]; omega
  have h10 : decide (((s.length : Nat) : Int) ≠ 0) = true := decide_eq_true h9
  simp only [Nd.id, Nd.name, Nd.rep, Nd.kind, Nd.sub, decide_true, Bool.true_and]
  exact h10
 have h3 : (walkF (allF v3F) (.mk 0 rootName 1 0 s) 0 ()).1 = true := by
  simp only [walkF]
  have hf : allF v3F (.mk 0 rootName 1 0 s) 0 () = (true, ()) := by simp [allF]
  rw [hf]
  simp only
  rw [walk_ofL (P := fun n => (v3F n ()).1 = true) (fun n d hd hp => by simp only [allF, if_neg (show ¬ d = 0 by omega)]; exact hp) s (0 + 1) (by omega) h.nodes]
 have h4 : (walkF v4F (.mk 0 rootName 1 0 s) 0 ()).1 = true := by
  simp only [walkF]
  have hf : v4F (.mk 0 rootName 1 0 s) 0 () = (true, ()) := Prod.ext h.names rfl
  rw [hf]
  simp only
  rw [walk_ofL (P := fun n => namesB n.sub = true) (fun n d hd hp => hp) s (0 + 1) (by omega) h.deep]
 have h5 : (walkF (allF v5F) (.mk 0 rootName 1 0 s) 0 []).1 = true := by
  simp only [walkF]
  have hf : allF v5F (.mk 0 rootName 1 0 s) 0 [] = (true, []) := by simp [allF]
  rw [hf]
  simp only
  rw [v5_ofL s (0 + 1) [] (by omega) (by simpa using h.nodup) h.range]
 unfold validF
 rw [h1, if_neg (by simp), h2, if_neg (by simp), h3, if_neg (by simp), h4, if_neg (by simp), h5, if_neg (by simp)]
inductive Holds : Nd → Nd → (Nd → Nd) → Prop
 | here (n : Nd) : Holds n n (fun x => x)
 | down {i : Int} {nm : ByteArray} {r k : Int} {s : List Nd} {j : Nat} {c h : Nd} {C : Nd → Nd} : s[j]? = some c → Holds c h C → Holds (.mk i nm r k s) h (fun x => .mk i nm r k (s.set j (C x)))
structure Inside (w : World) (B b o : Nat) (n : Nd) (F : List Nat) (hb ho : Nat) (h : Nd) (Fh : List Nat) (C : Nd → Nd) : Prop where
 pt : PtN w B hb ho h Fh
 path : Holds n h C
 upd : ∀ w' h' Fh', Upd w B hb ho h Fh w' h' Fh' → ∃ F', Upd w B b o n F w' (C h') F'
 blk : hb = b ∨ hb ∈ F
 sub : ∀ x ∈ Fh, x ∈ F
theorem Inside.here {w : World} {B b o : Nat} {n : Nd} {F : List Nat} (h : PtN w B b o n F) : Inside w B b o n F b o n F (fun x => x) :=
 ⟨h, .here n, fun _ _ F' hu => ⟨F', hu⟩, .inl rfl, fun _ hx => hx⟩
def RetAt (wz : World) (B b o : Nat) (n : Nd) (F : List Nat) (id : Int) (w : World) (en : Ending) (w' : World) : Prop :=
 Chg NoB w w' ∧ ((id ∉ idsL n.sub ∧ en = .returned (.tuple #[.pointer none, .pointer none])) ∨
  ∃ hb ho h Fh C rb cap j q, en = .returned (.tuple #[.pointer (some ⟨rb, j * 5, none⟩), .pointer (some ⟨hb, ho, none⟩)]) ∧ Inside wz B b o n F hb ho h Fh C ∧ h.sub[j]? = some q ∧ q.id = id ∧
   wz.cell? ⟨hb, ho + 4, none⟩ = some (.slice (some ⟨rb, 0, none⟩) h.sub.length cap))
theorem at_any (wz : World) (B : Nat) (id : Int) : ∀ (m : Nat) (b o : Nat) (n : Nd) (F : List Nat) (w : World), n.weigh ≤ m → PtN wz B b o n F → Chg NoB wz w →
  Calls Tryz.prog 51 #[.pointer (some ⟨b, o, none⟩), .int .i64 id] w (RetAt wz B b o n F id w) := by
 intro m
 induction m with
 | zero => intro b o n F w hm; cases n; simp [Nd.weigh] at hm
 | succ m ih =>
  intro b o n F w hm hp hz
  have Hih := Lib.hid ih
  clear ih
  obtain ⟨i, nm, r, k, s⟩ := n
  obtain ⟨v, htl, _, _, _, _, c4z, _⟩ := hp.form
  have c4 := (hz.cell (p := ⟨b, o + 4, none⟩) (lt_of_cell c4z) nbE).trans c4z
  obtain ⟨a, c, rfl, hlen, hcap⟩ := htl.form
  unfold maxLen at hcap
  simp only [Nd.weigh] at hm
  go_enter Tryz.func51, Tryz.ntmps51
  go_wp2_with fail
  go_loopw [14] (fun vi wr => ∃ t : Nat, t ≤ s.length ∧ vi = .int .i64 (t : Nat) ∧ Chg NoB w wr ∧ id ∉ idsL (s.take t)) (fun vi _ => s.length - (intOf vi).toNat)
  case atStart => exact ⟨0, Nat.zero_le _, rfl, Chg.refl _ _, by simp [idsL]⟩
  case round =>
   obtain ⟨t, ht, rfl, hc, hno⟩ := hrel
   have Hno := Lib.hid hno
   clear hno
   by_cases hlt : t < s.length
   ·have hltI : (t : Int) < (s.length : Int) := by omega
    have hj : s[t]? = some s[t] := List.getElem?_eq_getElem hlt
    have hmem : s[t] ∈ s := List.getElem_mem hlt
    have hwj := Nd.weigh_mem hmem
    have htake : s.take (t + 1) = s.take t ++ [s[t]] := List.take_succ_eq_append_getElem hlt
    generalize s[t] = q at hj hmem hwj htake
    obtain ⟨rb, cap, Fc, z4, h1, h2, h3, h4, hpc, hup⟩ := hp.child hj
    have hsl : Value.slice (some ⟨rb, 0, none⟩) s.length cap = .slice a s.length c := Option.some.inj (z4.symm.trans c4z)
    obtain ⟨rfl, -, rfl⟩ := Value.slice.inj hsl
    obtain ⟨iq, nq, rq, kq, sq⟩ := q
    obtain ⟨vq, _, q0z, _⟩ := hpc.form
    have hzr := hz.tr hc
    have r4 := (hzr.cell (p := ⟨b, o + 4, none⟩) (lt_of_cell z4) nbE).trans z4
    have q0 := (hzr.cell (p := ⟨rb, t * 5, none⟩) (lt_of_cell q0z) nbE).trans q0z
    have Hup := Lib.hid hup
    have Htake := Lib.hid htake
    have Hj := Lib.hid hj
    clear hup htake hj hsl
    by_cases hid : iq = id
    ·subst hid
     go_wp2_with fail
     go_ret2
     exact ⟨hc, .inr ⟨b, o, _, F, fun x => x, rb, cap, t, _, rfl, Inside.here hp, Hj.out, rfl, z4⟩⟩
    ·go_wp2_with fail
     refine (Hih.out rb (t * 5) (.mk iq nq rq kq sq) Fc wr (by omega) hpc hzr).mono ?_
     rintro en w2 ⟨hc2, (⟨hn2, rfl⟩ | ⟨hb, ho, h, Fh, C, rb2, cap2, j2, q2, rfl, hin, hh, hq2, hcell⟩)⟩
     ·go_wp2_with fail
      go_roundw
      case rel =>
       refine ⟨t + 1, by omega, by go_num, hc.tr hc2, ?_⟩
       rw [Htake.out, idsL_append]
       simp only [idsL, idsN, List.append_nil, List.mem_append, List.mem_cons, not_or]
       exact ⟨Hno.out, fun e => hid e.symm, hn2⟩
      case measure => simp [intOf]; omega
     ·go_wp2_with fail
      go_ret2
      refine ⟨hc.tr hc2, .inr ⟨hb, ho, h, Fh, _, rb2, cap2, j2, q2, rfl, ⟨hin.pt, .down Hj.out hin.path, ?_, ?_, fun x hx => h4 x (hin.sub x hx)⟩, hh, hq2, hcell⟩⟩
      ·intro w' h' Fh' hu
       obtain ⟨Fq', hu2⟩ := hin.upd w' h' Fh' hu
       exact Hup.out _ _ _ hu2
      ·rcases hin.blk with e | e
       ·exact .inr (e ▸ h3)
       ·exact .inr (h4 _ e)
   ·have hltI : ¬ (t : Int) < (s.length : Int) := by omega
    have hte : s.take t = s := List.take_of_length_le (by omega)
    go_wp2_with fail
    go_ret2
    exact ⟨hc, .inl ⟨by have := Hno.out; rwa [hte] at this, rfl⟩⟩
def Nd.withSub (n : Nd) (s : List Nd) : Nd := match n with | .mk i nm r k _ => .mk i nm r k s
mutual
def grpN (id : Int) (g : List Nd → List Nd) : Nd → Nd
 | .mk i n r k s => .mk i n r k (if (s.any fun c => decide (c.id = id)) = true then g s else grpL id g s)
def grpL (id : Int) (g : List Nd → List Nd) : List Nd → List Nd
 | [] => []
 | n :: ns => grpN id g n :: grpL id g ns
end
def grpT (id : Int) (g : List Nd → List Nd) (s : List Nd) : List Nd := if (s.any fun c => decide (c.id = id)) = true then g s else grpL id g s
theorem grpN_eq (id : Int) (g : List Nd → List Nd) (n : Nd) : grpN id g n = n.withSub (grpT id g n.sub) := by cases n; simp only [grpN, grpT, Nd.withSub, Nd.sub] <;> rfl
theorem grpL_eq (id : Int) (g : List Nd → List Nd) : ∀ l : List Nd, grpL id g l = l.map (grpN id g)
 | [] => rfl
 | n :: ns => by simp [grpL, grpL_eq id g ns]
theorem id_in_ids {c : Nd} : ∀ {l : List Nd}, c ∈ l → c.id ∈ idsL l
 | [], h => by cases h
 | x :: xs, h => by
  simp only [idsL, List.mem_append]
  rcases List.mem_cons.1 h with rfl | h
  ·left; cases c; simp [idsN, Nd.id]
  ·exact .inr (id_in_ids h)
theorem sub_in_ids {c : Nd} {x : Int} : ∀ {l : List Nd}, c ∈ l → x ∈ idsL c.sub → x ∈ idsL l
 | [], h, _ => by cases h
 | y :: ys, h, hx => by
  simp only [idsL, List.mem_append]
  rcases List.mem_cons.1 h with rfl | h
  ·left; cases c; simp only [idsN, List.mem_cons]; exact .inr hx
  ·exact .inr (sub_in_ids h hx)
theorem any_id {id : Int} {s : List Nd} : (s.any fun c => decide (c.id = id)) = true ↔ ∃ c ∈ s, c.id = id := by
 rw [List.any_eq_true]
 exact ⟨fun ⟨c, h1, h2⟩ => ⟨c, h1, of_decide_eq_true h2⟩, fun ⟨c, h1, h2⟩ => ⟨c, h1, decide_eq_true h2⟩⟩
mutual
theorem grpN_no (id : Int) (g : List Nd → List Nd) : ∀ n : Nd, id ∉ idsL n.sub → grpN id g n = n
 | .mk i nm r k s, h => by
  simp only [Nd.sub] at h
  have h1 : ¬ (s.any fun c => decide (c.id = id)) = true := fun e => by
   obtain ⟨c, hc, rfl⟩ := any_id.1 e
   exact h (id_in_ids hc)
  rw [grpN, if_neg h1, grpL_no id g s h]
theorem grpL_no (id : Int) (g : List Nd → List Nd) : ∀ l : List Nd, id ∉ idsL l → grpL id g l = l
 | [], _ => rfl
 | n :: ns, h => by
  simp only [idsL, List.mem_append, not_or] at h
  rw [grpL, grpN_no id g n (fun e => h.1 (by cases n; simp only [idsN, List.mem_cons, Nd.sub] at e ⊢; exact .inr e)), grpL_no id g ns h.2]
end
theorem nodup_mid {l1 l2 : List Nd} {c : Nd} (h : (idsL (l1 ++ c :: l2)).Nodup) : (idsN c).Nodup ∧ ∀ x ∈ idsN c, x ∉ idsL l1 ∧ x ∉ idsL l2 := by
 rw [idsL_append] at h
 simp only [idsL] at h
 rw [List.nodup_append, List.nodup_append] at h
 obtain ⟨h1, ⟨h2, h3, h4⟩, h5⟩ := h
 exact ⟨h2, fun x hx => ⟨fun e => h5 x e x (List.mem_append_left _ hx) rfl, fun e => h4 x hx x e rfl⟩⟩
theorem holds_grp {id : Int} : ∀ {n h : Nd} {C : Nd → Nd}, Holds n h C → ∀ {j : Nat} {q : Nd}, h.sub[j]? = some q → q.id = id → (idsL n.sub).Nodup → (id ∈ idsL n.sub) ∧ ∀ g, C (h.withSub (g h.sub)) = n.withSub (grpT id g n.sub) := by
 intro n h C hH
 induction hH with
 | here n =>
  intro j q hq hid hn
  have hm := List.mem_of_getElem? hq
  refine ⟨hid ▸ id_in_ids hm, fun g => ?_⟩
  unfold grpT
  rw [if_pos (any_id.2 ⟨q, hm, hid⟩)]
 | down hj hH ih =>
  rename_i i nm r k s jj c hh C
  intro j q hq hid hn
  simp only [Nd.sub] at hn
  obtain ⟨l1, l2, rfl, rfl, hset⟩ := list_split hj
  obtain ⟨h1, h2⟩ := nodup_mid hn
  have hcn : (idsL c.sub).Nodup := by cases c; simp only [idsN, List.nodup_cons] at h1; exact h1.2
  obtain ⟨k1, k2⟩ := ih hq hid hcn
  have hidc : id ∈ idsN c := by cases c; simp only [idsN, List.mem_cons]; exact .inr k1
  have hcne : c.id ≠ id := fun e => by
   cases c
   simp only [idsN, List.nodup_cons, Nd.id, Nd.sub] at h1 e k1
   exact h1.1 (e ▸ k1)
  refine ⟨sub_in_ids (List.mem_append_right _ (List.mem_cons_self ..)) k1, fun g => ?_⟩
  have hno : ¬ ((l1 ++ c :: l2).any fun c => decide (c.id = id)) = true := fun e => by
   obtain ⟨x, hx, hxi⟩ := any_id.1 e
   rcases List.mem_append.1 hx with hx | hx
   ·exact (h2 id hidc).1 (hxi ▸ id_in_ids hx)
   ·rcases List.mem_cons.1 hx with rfl | hx
    ·exact hcne hxi
    ·exact (h2 id hidc).2 (hxi ▸ id_in_ids hx)
  show Nd.mk i nm r k ((l1 ++ c :: l2).set l1.length (C (hh.withSub (g hh.sub)))) = Nd.mk i nm r k (grpT id g (l1 ++ c :: l2))
  unfold grpT
  rw [if_neg hno, hset, k2 g, grpL_eq, List.map_append, List.map_cons, ← grpL_eq, ← grpL_eq, grpL_no id g l1 (h2 id hidc).1, grpL_no id g l2 (h2 id hidc).2, grpN_eq]
mutual
def fndN (id : Int) : Nd → Option Nd
 | .mk i n r k s => if i = id then some (.mk i n r k s) else fndL id s
def fndL (id : Int) : List Nd → Option Nd
 | [] => none
 | n :: ns => match fndN id n with
  | some x => some x
  | none => fndL id ns
end
mutual
theorem fndN_no (id : Int) : ∀ n : Nd, id ∉ idsN n → fndN id n = none
 | .mk i nm r k s, h => by
  simp only [idsN, List.mem_cons, not_or] at h
  rw [fndN, if_neg (fun e => h.1 e.symm), fndL_no id s h.2]
theorem fndL_no (id : Int) : ∀ l : List Nd, id ∉ idsL l → fndL id l = none
 | [], _ => rfl
 | n :: ns, h => by
  simp only [idsL, List.mem_append, not_or] at h
  rw [fndL, fndN_no id n h.1]
  exact fndL_no id ns h.2
end
theorem fndL_skip {id : Int} {c : Nd} (l2 : List Nd) : ∀ l1 : List Nd, id ∉ idsL l1 → fndL id (l1 ++ c :: l2) = match fndN id c with | some x => some x | none => fndL id l2
 | [], _ => rfl
 | n :: ns, h => by
  simp only [idsL, List.mem_append, not_or] at h
  rw [List.cons_append, fndL, fndN_no id n h.1]
  exact fndL_skip l2 ns h.2
theorem holds_fnd {id : Int} : ∀ {n h : Nd} {C : Nd → Nd}, Holds n h C → ∀ {j : Nat} {q : Nd}, h.sub[j]? = some q → q.id = id → (idsL n.sub).Nodup → fndL id n.sub = some q := by
 intro n h C hH
 induction hH with
 | here n =>
  intro j q hq hid hn
  obtain ⟨l1, l2, hs, rfl, _⟩ := list_split hq
  rw [hs] at hn ⊢
  obtain ⟨h1, h2⟩ := nodup_mid hn
  have hidq : id ∈ idsN q := by cases q; simp only [idsN, List.mem_cons]; exact .inl hid.symm
  rw [fndL_skip l2 l1 (h2 id hidq).1]
  cases q
  simp only [Nd.id] at hid
  rw [fndN, if_pos hid]
 | down hj hH ih =>
  rename_i i nm r k s jj c hh C
  intro j q hq hid hn
  simp only [Nd.sub] at hn ⊢
  have hk := (holds_grp hH hq hid (by
   obtain ⟨l1, l2, rfl, rfl, _⟩ := list_split hj
   have h1 := (nodup_mid hn).1
   cases c; simp only [idsN, List.nodup_cons] at h1; exact h1.2)).1
  obtain ⟨l1, l2, rfl, rfl, hset⟩ := list_split hj
  obtain ⟨h1, h2⟩ := nodup_mid hn
  have hcn : (idsL c.sub).Nodup := by cases c; simp only [idsN, List.nodup_cons] at h1; exact h1.2
  have hidc : id ∈ idsN c := by cases c; simp only [idsN, List.mem_cons]; exact .inr hk
  rw [fndL_skip l2 l1 (h2 id hidc).1]
  have h9 := ih hq hid hcn
  cases c
  simp only [idsN, List.nodup_cons, Nd.sub] at h1 hk h9
  rename_i ci cn cr ck cs
  rw [fndN, if_neg (fun e : ci = id => h1.1 (by rw [e]; exact hk)), h9]
def setId (id : Int) (f : Nd → Nd) (s : List Nd) : List Nd := s.map fun c => if c.id = id then f c else c
theorem setId_no {id : Int} {f : Nd → Nd} : ∀ {s : List Nd}, id ∉ idsL s → setId id f s = s
 | [], _ => rfl
 | n :: ns, h => by
  simp only [idsL, List.mem_append, not_or] at h
  have h1 : n.id ≠ id := fun e => h.1 (by cases n; simp only [idsN, List.mem_cons]; exact .inl e.symm)
  unfold setId
  rw [List.map_cons, if_neg h1]
  congr 1
  exact setId_no h.2
theorem setId_set {id : Int} {f : Nd → Nd} {s : List Nd} {j : Nat} {q : Nd} (hj : s[j]? = some q) (hid : q.id = id) (hn : (idsL s).Nodup) : setId id f s = s.set j (f q) := by
 obtain ⟨l1, l2, rfl, rfl, hset⟩ := list_split hj
 obtain ⟨h1, h2⟩ := nodup_mid hn
 have hidq : id ∈ idsN q := by cases q; simp only [idsN, List.mem_cons]; exact .inl hid.symm
 rw [hset]
 unfold setId
 rw [List.map_append, List.map_cons, if_pos hid]
 have e1 := setId_no (f := f) (h2 id hidq).1
 have e2 := setId_no (f := f) (h2 id hidq).2
 unfold setId at e1 e2
 rw [e1, e2]
theorem holds_nodup : ∀ {n h : Nd} {C : Nd → Nd}, Holds n h C → (idsL n.sub).Nodup → (idsL h.sub).Nodup := by
 intro n h C hH
 induction hH with
 | here n => exact id
 | down hj hH ih =>
  rename_i i nm r k s jj c hh C
  intro hn
  replace hn : (idsL s).Nodup := hn
  obtain ⟨l1, l2, rfl, rfl, _⟩ := list_split hj
  have h1 := (nodup_mid hn).1
  refine ih ?_
  cases c
  simp only [idsN, List.nodup_cons] at h1
  exact h1.2
section
variable {P : Program} {ops : Array Oper} {Q : Exit → Act → World → Prop} {md : Region.Mode} {S : World → Prop} {ns : List Nat}
theorem wpAnyN_pure {i : Nat} {oi : Oper} {v : Value} (hi : ops[i]? = some oi) (hsel : ∀ (j : Nat) (o : Oper) cs b, ops[j]? = some o → o.op ≠ .select cs b)
  (hQ : ∀ c a w, Q (.panic c) (a.put oi.dst v) w → Q (.panic c) a w) (hin : ns.contains i = true) :
  ∀ (fuel : Nat) (listed : Array Bool) (a : Act) (w : World),
   (∀ j oj, ops[j]? = some oj → j ≠ i → listed.getD j true = false → (∀ e ∈ oj.after, Region.binds md e = true → e.on ≠ i) → oi.apart ops oj = true) →
   i ∈ Region.ready md ops listed → YieldsIf P ops (fun _ => True) oi v a →
   wpAnyN P md ops Q S ns fuel (listed.setIfInBounds i true) (a.put oi.dst v) w → wpAnyN P md ops Q S ns (fuel + 1) listed a w := by
 have hno : ns.contains i = false → ∀ {p : Prop}, p := fun h => by rw [hin] at h; cases h
 intro fuel
 induction fuel with
 | zero =>
  intro listed a w _ hr hy H
  refine ⟨fun h => (by rw [h] at hr; cases hr), fun j hj => ?_⟩
  by_cases hji : j = i
  ·subst hji; exact hy.wpOp hi trivial ⟨fun h => hno h, H⟩
  ·have := ready_mono hj hji
   rw [H.1] at this
   cases this
 | succ fuel ih =>
  intro listed a w hfree hr hy H
  refine ⟨fun h => (by rw [h] at hr; cases hr), fun j hj => ?_⟩
  by_cases hji : j = i
  ·subst hji; exact hy.wpOp hi trivial ⟨fun h => hno h, H⟩
  ·have h1 := H.2 j (ready_mono hj hji)
   obtain ⟨hjun, oj, hoj, hall⟩ := mem_ready.1 hj
   have hnot : ∀ e ∈ oj.after, Region.binds md e = true → e.on ≠ i := fun e he hb heq => by
    have h1 := hall e he hb
    have h0 := (mem_ready.1 hr).1
    rw [heq, getD_both h0] at h1
    cases h1
   have h2 := wpOp_putIf hoj (hfree j oj hoj hji hjun hnot) (fun cs b => hsel i oi cs b hi) (fun cs b => hsel j oj cs b hoj) hQ hy h1
   have hfree' : ∀ k ok, ops[k]? = some ok → k ≠ i → (listed.setIfInBounds j true).getD k true = false →
     (∀ e ∈ ok.after, Region.binds md e = true → e.on ≠ i) → oi.apart ops ok = true := fun k ok hk hki hun hno => by
    refine hfree k ok hk hki ?_ hno
    by_cases hjk : j = k
    ·subst hjk; exact hjun
    ·rw [getD_set_ne true hjk] at hun; exact hun
   refine wpOp_mono (fun a' w' h3 => ⟨h3.2.1, ih (listed.setIfInBounds j true) a' w' hfree' (ready_mono hr (Ne.symm hji)) h3.1 ?_⟩) h2
   rw [Array.setIfInBounds_comm _ _ hji]
   exact h3.2.2
theorem n_pure (i : Nat) {oi : Oper} {v : Value} {fuel : Nat} {listed : Array Bool} {a : Act} {w : World} (hi : ops[i]? = some oi) (hy : YieldsIf P ops (fun _ => True) oi v a)
  (hc : (Region.noSelect ops && Region.free md ops listed i && (Region.ready md ops listed).contains i && ns.contains i) = true)
  (hQ : ∀ c a w, Q (.panic c) (a.put oi.dst v) w → Q (.panic c) a w)
  (h : wpAnyN P md ops Q S ns fuel (listed.setIfInBounds i true) (a.put oi.dst v) w) : wpAnyN P md ops Q S ns (fuel + 1) listed a w := by
 simp only [Bool.and_eq_true] at hc
 exact wpAnyN_pure hi (Region.noSelect_spec hc.1.1.1) hQ hc.2 fuel listed a w (Region.free_spec hi hc.1.1.2) (by simpa using hc.1.2) hy h
end
theorem lawS : Go.Maps.Keyed Tryz.prog 9 := Go.Maps.string_keyed Tryz.underlying9
theorem zeroI (w : World) : (zeroValue 3).run Tryz.prog w = .ok (.int .i64 0) w := by kernel_rfl
def SM (w : World) (b n : Nat) (D : DataW Value) : Prop := w.ownsMap Tryz.prog 9 (plainElem Tryz.prog 3) b n D
theorem SM.keep {C : Nat → Prop} {w w' : World} {b n : Nat} {D : DataW Value} (h : SM w b n D) (hc : Chg C w w') (hn : ¬ C b) : SM w' b n D := by
 obtain ⟨es, clock, hb, F, hs, hD⟩ := h
 exact ⟨es, clock, hc.at hb hn, F, hs, hD⟩
theorem SM.lt {w : World} {b n : Nat} {D : DataW Value} (h : SM w b n D) : b < w.heap.size := World.ownsMap.lt h
section
variable {H : Type} {P : Program}
theorem wpList_insert_own (w : World) {ops : Array Oper} {rest : List Oper} {o : Oper} {a : Act} {Q : Exit → Act → World → Prop}
  (hg : o.guard = none) (m x v : Operand) (t : TypeId) (hop : o.op = Op.insert t m x v)
  (k e : TypeId) (K : Go.Maps.Keyed P k) (ht : P.underlying t = some (.map k e)) (R : Value → Option (DataW H × List MemPlace)) (b n : Nat) (D : DataW H)
  (hm : a.eval m = .map (some b)) (hown : w.ownsMap P k R b n D) (hn : n < maxLen) (key val : Value) (kl : Lit) (hx : a.eval x = key) (hv : a.eval v = val) (hkey : keyOf P k key = some kl)
  (d : DataW H) (ps : List MemPlace) (hval : R val = some (d, ps))
  (hK : ∀ w', w'.ownsMap P k R b (n + 1) (D.put kl d) → w.grownBy w' (some b) → wpList P ops Q rest (a.put o.dst undef) w') :
  wpList P ops Q (o :: rest) a w := by
 refine wpList_plain hg fun K' hK' => ?_
 obtain ⟨w', hrun, r1, r2⟩ := hown.update K ht hn hkey hval
 unfold Oper.wp
 simp [execOp, hop, hm, hx, hv, hrun, Result.andThen]
 exact hK' _ _ (hK w' r1 r2)
end
def bDrop : ByteArray := ⟨#[100, 114, 111, 112]⟩
def bRename : ByteArray := ⟨#[114, 101, 110, 97, 109, 101]⟩
def bMove : ByteArray := ⟨#[109, 111, 118, 101]⟩
def bWiden : ByteArray := ⟨#[119, 105, 100, 101, 110]⟩
def bLoosen : ByteArray := ⟨#[108, 111, 111, 115, 101, 110]⟩
def keyS (s : ByteArray) : Lit := .string s.data.toList
theorem keyS_inj {a b : ByteArray} (h : keyS a = keyS b) : a = b := by
 unfold keyS at h
 injection h with h
 cases a; cases b
 simp only at h
 rw [Array.toList_inj.1 h]
theorem keyOfS {s : ByteArray} (h : s.size ≤ maxLen) : keyOf Tryz.prog 9 (.string s) = some (keyS s) := Go.WideMaps.keyOf_string_mk Tryz.underlying9 h
def manyF (s : ByteArray) : Option Int := if s = bDrop then some 1 else if s = bRename then some 2 else if s = bMove then some 2 else if s = bWiden then some 1 else if s = bLoosen then some 1 else none
def ManyD (D : DataW Value) : Prop := ∀ s : ByteArray, Go.Maps.has D (keyS s) = (manyF s).isSome ∧ ∀ n, manyF s = some n → ∀ z, D.atKey (keyS s) z = .lit (.int .i64 n)
def putI (D : DataW Value) (s : ByteArray) (n : Int) : DataW Value := D.put (keyS s) (.lit (.int .i64 n))
theorem many_D : ManyD (putI (putI (putI (putI (putI (.map []) bDrop 1) bRename 2) bMove 2) bWiden 1) bLoosen 1) := by
 have m0 : Go.Maps.IsMap (.map [] : DataW Value) := Go.Maps.isMap_empty
 have m1 : Go.Maps.IsMap (putI (.map []) bDrop 1) := m0.put _ _
 have m2 := m1.put (keyS bRename) (.lit (.int .i64 2))
 have m3 := m2.put (keyS bMove) (.lit (.int .i64 2))
 have m4 := m3.put (keyS bWiden) (.lit (.int .i64 1))
 have hk : ∀ s : ByteArray, WideAt.IsKeyLit (keyS s) := fun _ => trivial
 intro s
 unfold manyF
 by_cases h5 : s = bLoosen
 ·subst h5
  rw [if_neg (by decide), if_neg (by decide), if_neg (by decide), if_neg (by decide), if_pos rfl]
  exact ⟨Go.Maps.has_put_same m4 (hk _) _, fun n hn z => by obtain rfl := Option.some.inj hn; exact Go.Maps.atKey_put_same m4 (hk _) _ _⟩
 have n5 : keyS s ≠ keyS bLoosen := fun e => h5 (keyS_inj e)
 by_cases h4 : s = bWiden
 ·subst h4
  rw [if_neg (by decide), if_neg (by decide), if_neg (by decide), if_pos rfl]
  refine ⟨?_, fun n hn z => ?_⟩
  ·unfold putI; rw [Go.Maps.has_put_other n5]; exact Go.Maps.has_put_same m3 (hk _) _
  ·obtain rfl := Option.some.inj hn; unfold putI; rw [Go.Maps.atKey_put_other n5]; exact Go.Maps.atKey_put_same m3 (hk _) _ _
 have n4 : keyS s ≠ keyS bWiden := fun e => h4 (keyS_inj e)
 by_cases h3 : s = bMove
 ·subst h3
  rw [if_neg (by decide), if_neg (by decide), if_pos rfl]
  refine ⟨?_, fun n hn z => ?_⟩
  ·unfold putI; rw [Go.Maps.has_put_other n5, Go.Maps.has_put_other n4]; exact Go.Maps.has_put_same m2 (hk _) _
  ·obtain rfl := Option.some.inj hn; unfold putI; rw [Go.Maps.atKey_put_other n5, Go.Maps.atKey_put_other n4]; exact Go.Maps.atKey_put_same m2 (hk _) _ _
 have n3 : keyS s ≠ keyS bMove := fun e => h3 (keyS_inj e)
 by_cases h2 : s = bRename
 ·subst h2
  rw [if_neg (by decide), if_pos rfl]
  refine ⟨?_, fun n hn z => ?_⟩
  ·unfold putI; rw [Go.Maps.has_put_other n5, Go.Maps.has_put_other n4, Go.Maps.has_put_other n3]; exact Go.Maps.has_put_same m1 (hk _) _
  ·obtain rfl := Option.some.inj hn; unfold putI; rw [Go.Maps.atKey_put_other n5, Go.Maps.atKey_put_other n4, Go.Maps.atKey_put_other n3]; exact Go.Maps.atKey_put_same m1 (hk _) _ _
 have n2 : keyS s ≠ keyS bRename := fun e => h2 (keyS_inj e)
 by_cases h1 : s = bDrop
 ·subst h1
  rw [if_pos rfl]
  refine ⟨?_, fun n hn z => ?_⟩
  ·unfold putI; rw [Go.Maps.has_put_other n5, Go.Maps.has_put_other n4, Go.Maps.has_put_other n3, Go.Maps.has_put_other n2]; exact Go.Maps.has_put_same m0 (hk _) _
  ·obtain rfl := Option.some.inj hn; unfold putI; rw [Go.Maps.atKey_put_other n5, Go.Maps.atKey_put_other n4, Go.Maps.atKey_put_other n3, Go.Maps.atKey_put_other n2]; exact Go.Maps.atKey_put_same m0 (hk _) _ _
 have n1 : keyS s ≠ keyS bDrop := fun e => h1 (keyS_inj e)
 rw [if_neg h1, if_neg h2, if_neg h3, if_neg h4, if_neg h5]
 refine ⟨?_, fun n hn => by cases hn⟩
 unfold putI
 rw [Go.Maps.has_put_other n5, Go.Maps.has_put_other n4, Go.Maps.has_put_other n3, Go.Maps.has_put_other n2, Go.Maps.has_put_other n1]
 rfl
theorem chg_more {w a b : World} (h : Chg NoB w a) {B : Nat} (hg : a.grownBy b (some B)) (hB : w.heap.size ≤ B := by simp) : Chg NoB w b :=
 h.trans (C := NoB) (D := OneB B) ((Chg.refl (OneB B) a).grown hg (fun k hk => .inl (Option.some.inj hk).symm)) (fun i hi => .inr (by have e : i = B := hi; omega))
def RetMany (w : World) (en : Ending) (w' : World) : Prop := ∃ b D, en = .returned (.map (some b)) ∧ SM w' b 5 D ∧ ManyD D ∧ Chg NoB w w'
theorem elI (n : Int) (h : (Lit.int .i64 n).wf = true) : plainElem (H := Value) Tryz.prog 3 (.int .i64 n) = some (.lit (.int .i64 n), []) := plainElem_int Tryz.underlying3 h
theorem many_any (w : World) : Calls Tryz.prog 49 #[] w (RetMany w) := by
 have hmk := @run_makeMap Tryz.prog
 have e1 := elI 1 (by decide)
 have e2 := elI 2 (by decide)
 have E1 := Lib.hid e1
 have E2 := Lib.hid e2
 clear e1 e2
 go_enter Tryz.func49, Tryz.ntmps49
 go_wp2_with (refine wpList_insert_own _ rfl (.tmp 1) _ _ 116 rfl 9 3 lawS Tryz.underlying116 (plainElem Tryz.prog 3) w.heap.size 0 (.map []) rfl (World.ownsMap_made ..) (by unfold maxLen; omega) _ _ (keyS bDrop) rfl rfl (keyOfS (by decide)) (.lit (.int .i64 1)) [] E1.out ?_; refine stop_here ?_)
 refine Stop.go ?_
 intro w1 h1 g1
 refine wpList_insert_own _ rfl (.tmp 1) _ _ 116 rfl 9 3 lawS Tryz.underlying116 (plainElem Tryz.prog 3) w.heap.size 1 _ rfl h1 (by unfold maxLen; omega) _ _ (keyS bRename) rfl rfl (keyOfS (by decide)) (.lit (.int .i64 2)) [] E2.out ?_
 intro w2 h2 g2
 refine wpList_insert_own _ rfl (.tmp 1) _ _ 116 rfl 9 3 lawS Tryz.underlying116 (plainElem Tryz.prog 3) w.heap.size 2 _ rfl h2 (by unfold maxLen; omega) _ _ (keyS bMove) rfl rfl (keyOfS (by decide)) (.lit (.int .i64 2)) [] E2.out ?_
 intro w3 h3 g3
 refine wpList_insert_own _ rfl (.tmp 1) _ _ 116 rfl 9 3 lawS Tryz.underlying116 (plainElem Tryz.prog 3) w.heap.size 3 _ rfl h3 (by unfold maxLen; omega) _ _ (keyS bWiden) rfl rfl (keyOfS (by decide)) (.lit (.int .i64 1)) [] E1.out ?_
 intro w4 h4 g4
 refine wpList_insert_own _ rfl (.tmp 1) _ _ 116 rfl 9 3 lawS Tryz.underlying116 (plainElem Tryz.prog 3) w.heap.size 4 _ rfl h4 (by unfold maxLen; omega) _ _ (keyS bLoosen) rfl rfl (keyOfS (by decide)) (.lit (.int .i64 1)) [] E1.out ?_
 intro w5 h5 g5
 have hc : Chg NoB w w5 := by
  have a0 : Chg NoB w (w.alloc (.map #[] 0)) := (Chg.refl _ _).alloc _
  have a1 := chg_more a0 g1
  have a2 := chg_more a1 g2
  have a3 := chg_more a2 g3
  have a4 := chg_more a3 g4
  exact chg_more a4 g5
 have HD := Lib.hid many_D
 have H5 := Lib.hid h5
 clear h1 h2 h3 h4 h5
 go_wp2_with fail
 go_ret
 exact ⟨w.heap.size, _, rfl, H5.out, HD.out, hc⟩
theorem isNameE_any (s : ByteArray) (w : World) (hs : s.size ≤ 9223372036854775807) :
  Calls Tryz.prog 53 #[.string s] w (RetV (.bool (isNameB s)) w) := by
 by_cases h0 : s.size = 0
 ·have := empty_of_size h0
  subst this
  have h1 : isNameB ⟨#[]⟩ = false := by rfl
  go_enter Tryz.func53, Tryz.ntmps53
  go_wp2_with fail
  go_ret
  rw [h1]
  exact ⟨rfl, Chg.refl _ _⟩
 have hne : s.toList.isEmpty = false := toList_isEmpty h0
 by_cases h1 : s.size ≤ 12
 ·have h1' : (s.size : Int) ≤ 12 := by omega
  go_enter Tryz.func53, Tryz.ntmps53
  go_wp2_with fail
  refine (trim_letters s w hs).mono ?_
  rintro e w1 ⟨rfl, hc⟩
  have hc1 := Chg.ofBelow hc
  clear hc
  have key : isNameB s = (Lib.trimS s.data.toList letters).isEmpty := by
   have h2 := trimS_nil s.data.toList letters
   simp only [letters_contains] at h2
   unfold isNameB
   rw [decide_eq_true h0, decide_eq_true h1, Bool.true_and, Bool.true_and, Bool.eq_iff_iff, ← h2]
   exact List.isEmpty_iff.symm
  have Key := Lib.hid key
  clear key
  generalize Lib.trimS s.data.toList letters = t at Key ⊢
  cases t with
  | nil =>
   go_wp2_with fail
   go_ret
   rw [Key.out]
   exact ⟨rfl, hc1⟩
  | cons x xs =>
   have hx : (⟨(x :: xs).toArray⟩ : ByteArray).toList.isEmpty = false := toList_isEmpty (by simp [ByteArray.size])
   go_wp2_with fail
   go_ret
   rw [Key.out]
   exact ⟨rfl, hc1⟩
 ·have h1' : ¬ (s.size : Int) ≤ 12 := by omega
  have h2 : isNameB s = false := by simp [isNameB, h1]
  go_enter Tryz.func53, Tryz.ntmps53
  go_wp2_with fail
  go_ret
  exact ⟨rfl, Chg.refl _ _⟩
def dval : List UInt8 → Int → Int
 | [], n => n
 | c :: r, n => dval r (n * 10 + ((c.toNat : Int) - 48))
theorem digit_nat {c : UInt8} (h : digits.contains c = true) : 48 ≤ c.toNat ∧ c.toNat ≤ 57 := by
 simp only [digits, List.contains_iff_mem, List.mem_cons, List.not_mem_nil, or_false] at h
 rcases h with rfl | rfl | rfl | rfl | rfl | rfl | rfl | rfl | rfl | rfl <;> decide
theorem dec_dval : ∀ (l : List UInt8) (acc : Nat), l.all (digits.contains ·) = true → ∃ m : Nat, Lib.decFrom acc l = some m ∧ (m : Int) = dval l (acc : Int) ∧ acc ≤ m
 | [], acc, _ => ⟨acc, rfl, rfl, Nat.le_refl _⟩
 | c :: r, acc, h => by
  simp only [List.all_cons, Bool.and_eq_true] at h
  have hc := digit_nat h.1
  obtain ⟨m, h1, h2, h3⟩ := dec_dval r (acc * 10 + (c.toNat - 48)) h.2
  refine ⟨m, ?_, ?_, by omega⟩
  ·simp only [Lib.decFrom, Lib.digitVal]
   rw [if_pos hc]
   exact h1
  ·rw [h2]
   simp only [dval]
   congr 1
   omega
theorem numOk_digits {ds : List UInt8} (ha : ds.all (digits.contains ·) = true) (hl : ds.length ≤ 4) (hne : ds ≠ []) : numOk ds = some (dval ds 0) := by
 obtain ⟨m, h1, h2, _⟩ := dec_dval ds 0 ha
 unfold numOk
 rw [Lib.atoiAll_short ds (by omega)]
 cases ds with
 | nil => exact absurd rfl hne
 | cons b r =>
  simp only [List.all_cons, Bool.and_eq_true] at ha
  have hb := digit_nat ha.1
  have e1 : (b == 45) = false := by rw [beq_eq_false_iff_ne]; intro e; subst e; exact absurd hb (by decide)
  have e2 : (b == 43) = false := by rw [beq_eq_false_iff_ne]; intro e; subst e; exact absurd hb (by decide)
  have h3 : Lib.atoi (b :: r) = some (m : Int) := by
   simp only [Lib.atoi, e1, e2, Lib.decNat, List.isEmpty_cons, h1]
   rfl
  rw [h3]
  simp only [Lib.NumEnd.ofOption]
  rw [h2]
  rfl
end Go.Proofs.YtnmhkafpgohefaaGreatDoor
