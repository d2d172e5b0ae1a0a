/-
  schema.Find: the first node with an ID, of a right schema.; A projection of a right schema, as plain data: it is right, its leaves are some of the schema's, projected again it is the same.; evolve.at: the node with an ID, and the one around it, by their places.; slices.Delete of one node, slices.Insert of one node, in a row.; What shredcolref2.SchemaError tells of the list of all places.
-/
import Derived.Test.YtgcmfpcgmkkobaaGreatDoorWalk
import Derived.Test.YtgcmfpcgmkkobaaGreatDoorValid2
import Derived.Test.YtgcmfpcgmkkobaaGreatDoorRead
import Derived.Test.YtgcmfpcgmkkobaaGreatDoorTwiceP
import Derived.Test.YtgcmfpcgmkkobaaGreatDoorAll
import Derived.Test.YtgcmfpcgmkkobaaGreatDoorTree
import Derived.Test.YtgcmfpcgmkkobaaGreatDoorTreeMore
import Derived.Test.YtgcmfpcgmkkobaaGreatDoorIdx
import Derived.Lib.Overlaps
set_option linter.unusedVariables false
set_option maxHeartbeats 20000000
set_option maxRecDepth 100000
set_option linter.unusedSimpArgs false
namespace Go.Proofs.YtgcmfpcgmkkobaaGreatDoor
open Go.RowKit
def zeroNd : Nd := .mk 0 ⟨#[]⟩ 0 0 []
theorem zeroNd_ok : zeroNd.ok := ⟨⟨by decide, by decide⟩, by decide, ⟨by decide, by decide⟩, ⟨by decide, by decide⟩, by decide, trivial⟩
structure Non (w : World) (N : Value) : Prop where
 cell : w.cell? ⟨3, 0, none⟩ = some N
 form : ∃ T v, N = .iface T v
mutual
def projN (ids : List Int) : Nd → List Nd
 | .mk i n r k s => if has ids i = true then [.mk i n r k s] else match projL ids s with
  | [] => []
  | x :: xs => [.mk i n r k (x :: xs)]
def projL (ids : List Int) : List Nd → List Nd
 | [] => []
 | n :: ns => projN ids n ++ projL ids ns
end
mutual
def idsN : Nd → List Int
 | .mk i _ _ _ s => i :: idsL s
def idsL : List Nd → List Int
 | [] => []
 | n :: ns => idsN n ++ idsL ns
end
theorem projN_cases (ids : List Int) (i : Int) (n : ByteArray) (r k : Int) (s : List Nd) :
  (i ∈ ids ∧ projN ids (.mk i n r k s) = [.mk i n r k s]) ∨ (i ∉ ids ∧ projL ids s = [] ∧ projN ids (.mk i n r k s) = []) ∨
   (i ∉ ids ∧ projL ids s ≠ [] ∧ projN ids (.mk i n r k s) = [.mk i n r k (projL ids s)]) := by
 simp only [projN]
 by_cases h : has ids i = true
 ·exact .inl ⟨(has_iff _ _).1 h, if_pos h⟩
 ·have h' : i ∉ ids := (has_not _ _).1 (by simpa using h)
  rw [if_neg h]
  rcases hp : projL ids s with _ | ⟨x, xs⟩
  ·exact .inr (.inl ⟨h', rfl, rfl⟩)
  ·exact .inr (.inr ⟨h', by simp, rfl⟩)
theorem projL_append (ids : List Int) : ∀ (a b : List Nd), projL ids (a ++ b) = projL ids a ++ projL ids b
 | [], b => rfl
 | x :: xs, b => by simp only [List.cons_append, projL, projL_append ids xs b, List.append_assoc]
theorem idsL_append : ∀ (a b : List Nd), idsL (a ++ b) = idsL a ++ idsL b
 | [], b => rfl
 | x :: xs, b => by simp only [List.cons_append, idsL, idsL_append xs b, List.append_assoc]
theorem alls_append {P : Nd → Prop} : ∀ (a b : List Nd), Nd.Alls P a → Nd.Alls P b → Nd.Alls P (a ++ b)
 | [], b, _, hb => hb
 | x :: xs, b, ha, hb => ⟨ha.1, alls_append xs b ha.2 hb⟩
mutual
theorem projN_has {ids : List Int} {x : Int} (hx : x ∈ ids) : ∀ n : Nd, x ∈ idsN n → x ∈ idsL (projN ids n)
 | .mk i n r k s, h => by
  simp only [idsN, List.mem_cons] at h
  rcases projN_cases ids i n r k s with ⟨_, e⟩ | ⟨hi, he, e⟩ | ⟨hi, hne, e⟩ <;> rw [e]
  ·simpa [idsL, idsN] using h
  ·rcases h with rfl | h
   ·exact absurd hx hi
   ·have := projL_has hx s h
    rw [he] at this
    cases this
  ·rcases h with rfl | h
   ·exact absurd hx hi
   ·simp only [idsL, idsN, List.append_nil, List.mem_cons]
    exact .inr (projL_has hx s h)
theorem projL_has {ids : List Int} {x : Int} (hx : x ∈ ids) : ∀ l : List Nd, x ∈ idsL l → x ∈ idsL (projL ids l)
 | [], h => h
 | n :: ns, h => by
  simp only [idsL, List.mem_append] at h
  simp only [projL, idsL_append, List.mem_append]
  exact h.imp (projN_has hx n) (projL_has hx ns)
end
structure Fit (s : List Nd) : Prop where
 ne : s ≠ []
 high : Nd.highs s ≤ 5
 small : Nd.weighs s ≤ 39
 nodes : Nd.Alls (fun n => (v3F n ()).1 = true) s
 names : namesB s = true
 deep : Nd.Alls (fun n => namesB n.sub = true) s
 nodup : (idsL s).Nodup
 range : ∀ x ∈ idsL s, 1 ≤ x ∧ x ≤ 1000
mutual
theorem v5_ids : ∀ (n : Nd) (d : Int) (s : List Int), 1 ≤ d → (walkF (allF v5F) n d s).1 = true → s.Nodup → (walkF (allF v5F) n d s).2 = s ++ idsN n ∧ (s ++ idsN n).Nodup ∧ ∀ x ∈ idsN n, 1 ≤ x ∧ x ≤ 1000
 | .mk i nm r k sb, d, s, hd, h, hn => by
  simp only [walkF] at h ⊢
  have hf : allF v5F (.mk i nm r k sb) d s = (decide (1 ≤ i) && decide (i ≤ 1000) && !has s i, s ++ [i]) := by
   simp only [allF, if_neg (show ¬ d = 0 by omega)]; rfl
  rw [hf] at h ⊢
  cases hb : (decide (1 ≤ i) && decide (i ≤ 1000) && !has s i) with
  | false => rw [hb] at h; cases h
  | true =>
   rw [hb] at h
   simp only [Bool.and_eq_true, decide_eq_true_eq, Bool.not_eq_true', has_not] at hb
   have hn2 : (s ++ [i]).Nodup := List.nodup_append.2 ⟨hn, by simp, fun a ha b hb2 => by
    simp only [List.mem_cons, List.not_mem_nil, or_false] at hb2
    subst hb2
    rintro rfl
    exact hb.2 ha⟩
   obtain ⟨h1, h2, h3⟩ := v5_idsL sb (d + 1) (s ++ [i]) (by omega) h hn2
   have e : s ++ idsN (.mk i nm r k sb) = (s ++ [i]) ++ idsL sb := by simp [idsN]
   rw [e]
   refine ⟨h1, h2, fun x hx => ?_⟩
   simp only [idsN, List.mem_cons] at hx
   rcases hx with rfl | hx
   ·exact hb.1
   ·exact h3 x hx
theorem v5_idsL : ∀ (l : List Nd) (d : Int) (s : List Int), 1 ≤ d → (walkFs (allF v5F) l d s).1 = true → s.Nodup → (walkFs (allF v5F) l d s).2 = s ++ idsL l ∧ (s ++ idsL l).Nodup ∧ ∀ x ∈ idsL l, 1 ≤ x ∧ x ≤ 1000
 | [], d, s, hd, h, hn => by
  simp only [walkFs, idsL, List.append_nil]
  exact ⟨trivial, hn, fun x hx => by cases hx⟩
 | n :: ns, d, s, hd, h, hn => by
  simp only [walkFs] at h ⊢
  have h0 := v5_ids n d s hd
  rcases hw : walkF (allF v5F) n d s with ⟨b, s'⟩
  rw [hw] at h h0
  cases b
  ·cases h
  ·obtain ⟨e, h1, h2⟩ := h0 rfl hn
   simp only at e h
   subst e
   obtain ⟨h3, h4, h5⟩ := v5_idsL ns d (s ++ idsN n) hd h h1
   have e : s ++ idsL (n :: ns) = (s ++ idsN n) ++ idsL ns := by simp [idsL]
   rw [e]
   refine ⟨h3, h4, fun x hx => ?_⟩
   simp only [idsL, List.mem_append] at hx
   exact hx.elim (h2 x) (h5 x)
end
mutual
theorem v5_of : ∀ (n : Nd) (d : Int) (s : List Int), 1 ≤ d → (s ++ idsN n).Nodup → (∀ x ∈ idsN n, 1 ≤ x ∧ x ≤ 1000) → walkF (allF v5F) n d s = (true, s ++ idsN n)
 | .mk i nm r k sb, d, s, hd, hn, hr => by
  have e : s ++ idsN (.mk i nm r k sb) = (s ++ [i]) ++ idsL sb := by simp [idsN]
  rw [e] at hn ⊢
  have hi := hr i (by simp [idsN])
  have hni : i ∉ s := fun h => by
   have := (List.nodup_append.1 (List.nodup_append.1 hn).1).2.2 i h i (by simp)
   exact this rfl
  have hf : allF v5F (.mk i nm r k sb) d s = (true, s ++ [i]) := by
   simp only [allF, if_neg (show ¬ d = 0 by omega), v5F, Nd.id, hi.1, hi.2, (has_not _ _).2 hni, decide_true, Bool.not_false, Bool.and_self]
  simp only [walkF]
  rw [hf]
  exact v5_ofL sb (d + 1) (s ++ [i]) (by omega) hn (fun x hx => hr x (by simp [idsN, hx]))
theorem v5_ofL : ∀ (l : List Nd) (d : Int) (s : List Int), 1 ≤ d → (s ++ idsL l).Nodup → (∀ x ∈ idsL l, 1 ≤ x ∧ x ≤ 1000) → walkFs (allF v5F) l d s = (true, s ++ idsL l)
 | [], d, s, hd, hn, hr => by simp [walkFs, idsL]
 | n :: ns, d, s, hd, hn, hr => by
  have e : s ++ idsL (n :: ns) = (s ++ idsN n) ++ idsL ns := by simp [idsL]
  rw [e] at hn ⊢
  simp only [walkFs]
  rw [v5_of n d s hd (List.nodup_append.1 hn).1 (fun x hx => hr x (by simp [idsL, hx]))]
  exact v5_ofL ns d (s ++ idsN n) hd hn (fun x hx => hr x (by simp [idsL, hx]))
end
mutual
theorem v1_of : ∀ (n : Nd) (d s : Int), d + n.high ≤ 7 → s + n.weigh ≤ 40 → walkF v1F n d s = (true, s + n.weigh)
 | .mk i nm r k sb, d, s, hd, hs => by
  simp only [Nd.high] at hd
  simp only [Nd.weigh] at hs ⊢
  have hf : v1F (.mk i nm r k sb) d s = (true, s + 1) := by
   have e1 : decide (s + 1 ≤ 40) = true := decide_eq_true (by omega)
   have e2 : decide (d ≤ 6) = true := decide_eq_true (by omega)
   simp only [v1F, e1, e2, Bool.and_self]
  simp only [walkF]
  rw [hf]
  simp only
  rw [v1_ofL sb (d + 1) (s + 1) (by omega) (by omega)]
  simp only [Prod.mk.injEq, true_and]
  omega
theorem v1_ofL : ∀ (l : List Nd) (d s : Int), d + Nd.highs l ≤ 7 → s + Nd.weighs l ≤ 40 → walkFs v1F l d s = (true, s + Nd.weighs l)
 | [], d, s, hd, hs => by simp [walkFs, Nd.weighs]
 | n :: ns, d, s, hd, hs => by
  simp only [Nd.highs] at hd
  simp only [Nd.weighs] at hs ⊢
  simp only [walkFs]
  rw [v1_of n d s (by omega) (by omega)]
  simp only
  rw [v1_ofL ns d _ (by omega) (by omega)]
  simp only [Prod.mk.injEq, true_and]
  omega
end
mutual
theorem walk_of {f : Nd → Int → Unit → Bool × Unit} {P : Nd → Prop} (hP : ∀ n d, 1 ≤ d → P n → (f n d ()).1 = true) : ∀ (n : Nd) (d : Int), 1 ≤ d → n.All P → walkF f n d () = (true, ())
 | .mk i nm r k sb, d, hd, h => by
  have hf : f (.mk i nm r k sb) d () = (true, ()) := Prod.ext (hP _ d hd h.1) rfl
  simp only [walkF]
  rw [hf]
  exact walk_ofL hP sb (d + 1) (by omega) h.2
theorem walk_ofL {f : Nd → Int → Unit → Bool × Unit} {P : Nd → Prop} (hP : ∀ n d, 1 ≤ d → P n → (f n d ()).1 = true) : ∀ (l : List Nd) (d : Int), 1 ≤ d → Nd.Alls P l → walkFs f l d () = (true, ())
 | [], d, hd, h => rfl
 | n :: ns, d, hd, h => by
  simp only [walkFs]
  rw [walk_of hP n d hd h.1]
  exact walk_ofL hP ns d hd h.2
end
theorem fit_of {nd : Nd} (h : validF nd = none) : Fit nd.sub := by
 have hS := schema_of_valid h
 unfold validF at h
 split at h
 ·cases h
 rename_i h1
 split at h
 ·cases h
 rename_i h2
 split at h
 ·cases h
 rename_i h3
 split at h
 ·cases h
 rename_i h4
 split at h
 ·cases h
 rename_i h5
 rw [Bool.not_eq_false] at h1 h2 h3 h4 h5
 have a3 := (walk_root (P := fun n => (v3F n ()).1 = true) (fun n d s hd hf => by simp only [allF, if_neg (show ¬ d = 0 by omega)] at hf; exact hf) nd () h3).1
 have a4 := walk_root (P := fun n => namesB n.sub = true) (fun n d s hd hf => hf) nd () h4
 have h6 := hS.high
 have h7 := hS.small
 obtain ⟨i, nm, r, k, sb⟩ := nd
 simp only [walkF] at h5
 have hf : allF v5F (.mk i nm r k sb) 0 [] = (true, []) := by simp [allF]
 rw [hf] at h5
 have a5 := v5_idsL sb (0 + 1) [] (by omega) h5 (by simp)
 simp only [Nd.high] at h6
 simp only [Nd.weigh] at h7
 unfold rootB at h2
 rw [Bool.and_eq_true, Bool.and_eq_true, Bool.and_eq_true, Bool.and_eq_true] at h2
 have h8 := of_decide_eq_true h2.2
 refine ⟨fun e => h8 ?_, by simp only [Nd.sub]; omega, by simp only [Nd.sub]; omega, a3, a4.2, a4.1, by simpa [Nd.sub] using a5.2.1, a5.2.2⟩
 rw [e]; rfl
theorem valid_of {s : List Nd} (h : Fit s) : validF (.mk 0 rootName 1 0 s) = none := by
 have h1 : (walkF v1F (.mk 0 rootName 1 0 s) 1 0) = (true, _) := v1_of (.mk 0 rootName 1 0 s) 1 0 (by have := h.high; simp only [Nd.high]; omega) (by have := h.small; simp only [Nd.weigh]; omega)
 have h2 : rootB (.mk 0 rootName 1 0 s) = true := by
  unfold rootB
  have h9 : ((s.length : Nat) : Int) ≠ 0 := by
   have := h.ne
   cases s with
   | nil => exact absurd rfl this
   | cons x xs => simp only [List.length_cons]; omega
  have h10 : decide (((s.length : Nat) : Int) ≠ 0) = true := decide_eq_true h9
  simp only [Nd.id, Nd.name, Nd.rep, Nd.kind, Nd.sub, decide_true, Bool.true_and]
  exact h10
 have h3 : (walkF (allF v3F) (.mk 0 rootName 1 0 s) 0 ()).1 = true := by
  simp only [walkF]
  have hf : allF v3F (.mk 0 rootName 1 0 s) 0 () = (true, ()) := by simp [allF]
  rw [hf]
  simp only
  rw [walk_ofL (P := fun n => (v3F n ()).1 = true) (fun n d hd hp => by simp only [allF, if_neg (show ¬ d = 0 by omega)]; exact hp) s (0 + 1) (by omega) h.nodes]
 have h4 : (walkF v4F (.mk 0 rootName 1 0 s) 0 ()).1 = true := by
  simp only [walkF]
  have hf : v4F (.mk 0 rootName 1 0 s) 0 () = (true, ()) := Prod.ext h.names rfl
  rw [hf]
  simp only
  rw [walk_ofL (P := fun n => namesB n.sub = true) (fun n d hd hp => hp) s (0 + 1) (by omega) h.deep]
 have h5 : (walkF (allF v5F) (.mk 0 rootName 1 0 s) 0 []).1 = true := by
  simp only [walkF]
  have hf : allF v5F (.mk 0 rootName 1 0 s) 0 [] = (true, []) := by simp [allF]
  rw [hf]
  simp only
  rw [v5_ofL s (0 + 1) [] (by omega) (by simpa using h.nodup) h.range]
 unfold validF
 rw [h1, if_neg (by simp), h2, if_neg (by simp), h3, if_neg (by simp), h4, if_neg (by simp), h5, if_neg (by simp)]
inductive Holds : Nd → Nd → (Nd → Nd) → Prop
 | here (n : Nd) : Holds n n (fun x => x)
 | down {i : Int} {nm : ByteArray} {r k : Int} {s : List Nd} {j : Nat} {c h : Nd} {C : Nd → Nd} : s[j]? = some c → Holds c h C → Holds (.mk i nm r k s) h (fun x => .mk i nm r k (s.set j (C x)))
structure Inside (w : World) (B b o : Nat) (n : Nd) (F : List Nat) (hb ho : Nat) (h : Nd) (Fh : List Nat) (C : Nd → Nd) : Prop where
 pt : PtN w B hb ho h Fh
 path : Holds n h C
 upd : ∀ w' h' Fh', Upd w B hb ho h Fh w' h' Fh' → ∃ F', Upd w B b o n F w' (C h') F'
 blk : hb = b ∨ hb ∈ F
 sub : ∀ x ∈ Fh, x ∈ F
theorem Inside.here {w : World} {B b o : Nat} {n : Nd} {F : List Nat} (h : PtN w B b o n F) : Inside w B b o n F b o n F (fun x => x) :=
 ⟨h, .here n, fun _ _ F' hu => ⟨F', hu⟩, .inl rfl, fun _ hx => hx⟩
def RetAt (wz : World) (B b o : Nat) (n : Nd) (F : List Nat) (id : Int) (w : World) (en : Ending) (w' : World) : Prop :=
 Chg NoB w w' ∧ ((id ∉ idsL n.sub ∧ en = .returned (.tuple #[.pointer none, .pointer none])) ∨
  ∃ hb ho h Fh C rb cap j q, en = .returned (.tuple #[.pointer (some ⟨rb, j * 5, none⟩), .pointer (some ⟨hb, ho, none⟩)]) ∧ Inside wz B b o n F hb ho h Fh C ∧ h.sub[j]? = some q ∧ q.id = id ∧
   wz.cell? ⟨hb, ho + 4, none⟩ = some (.slice (some ⟨rb, 0, none⟩) h.sub.length cap))
theorem at_any (wz : World) (B : Nat) (id : Int) : ∀ (m : Nat) (b o : Nat) (n : Nd) (F : List Nat) (w : World), n.weigh ≤ m → PtN wz B b o n F → Chg NoB wz w →
  Calls Tryz.prog 54 #[.pointer (some ⟨b, o, none⟩), .int .i64 id] w (RetAt wz B b o n F id w) := by
 intro m
 induction m with
 | zero => intro b o n F w hm; cases n; simp [Nd.weigh] at hm
 | succ m ih =>
  intro b o n F w hm hp hz
  have Hih := Lib.hid ih
  clear ih
  obtain ⟨i, nm, r, k, s⟩ := n
  obtain ⟨v, htl, _, _, _, _, c4z, _⟩ := hp.form
  have c4 := (hz.cell (p := ⟨b, o + 4, none⟩) (lt_of_cell c4z) nbE).trans c4z
  obtain ⟨a, c, rfl, hlen, hcap⟩ := htl.form
  unfold maxLen at hcap
  simp only [Nd.weigh] at hm
  go_enter Tryz.func54, Tryz.ntmps54
  go_wp2_with fail
  go_loopw [14] (fun vi wr => ∃ t : Nat, t ≤ s.length ∧ vi = .int .i64 (t : Nat) ∧ Chg NoB w wr ∧ id ∉ idsL (s.take t)) (fun vi _ => s.length - (intOf vi).toNat)
  case atStart => exact ⟨0, Nat.zero_le _, rfl, Chg.refl _ _, by simp [idsL]⟩
  case round =>
   obtain ⟨t, ht, rfl, hc, hno⟩ := hrel
   have Hno := Lib.hid hno
   clear hno
   by_cases hlt : t < s.length
   ·have hltI : (t : Int) < (s.length : Int) := by omega
    have hj : s[t]? = some s[t] := List.getElem?_eq_getElem hlt
    have hmem : s[t] ∈ s := List.getElem_mem hlt
    have hwj := Nd.weigh_mem hmem
    have htake : s.take (t + 1) = s.take t ++ [s[t]] := List.take_succ_eq_append_getElem hlt
    generalize s[t] = q at hj hmem hwj htake
    obtain ⟨rb, cap, Fc, z4, h1, h2, h3, h4, hpc, hup⟩ := hp.child hj
    have hsl : Value.slice (some ⟨rb, 0, none⟩) s.length cap = .slice a s.length c := Option.some.inj (z4.symm.trans c4z)
    obtain ⟨rfl, -, rfl⟩ := Value.slice.inj hsl
    obtain ⟨iq, nq, rq, kq, sq⟩ := q
    obtain ⟨vq, _, q0z, _⟩ := hpc.form
    have hzr := hz.tr hc
    have r4 := (hzr.cell (p := ⟨b, o + 4, none⟩) (lt_of_cell z4) nbE).trans z4
    have q0 := (hzr.cell (p := ⟨rb, t * 5, none⟩) (lt_of_cell q0z) nbE).trans q0z
    have Hup := Lib.hid hup
    have Htake := Lib.hid htake
    have Hj := Lib.hid hj
    clear hup htake hj hsl
    by_cases hid : iq = id
    ·subst hid
     go_wp2_with fail
     go_ret2
     exact ⟨hc, .inr ⟨b, o, _, F, fun x => x, rb, cap, t, _, rfl, Inside.here hp, Hj.out, rfl, z4⟩⟩
    ·go_wp2_with fail
     refine (Hih.out rb (t * 5) (.mk iq nq rq kq sq) Fc wr (by omega) hpc hzr).mono ?_
     rintro en w2 ⟨hc2, (⟨hn2, rfl⟩ | ⟨hb, ho, h, Fh, C, rb2, cap2, j2, q2, rfl, hin, hh, hq2, hcell⟩)⟩
     ·go_wp2_with fail
      go_roundw
      case rel =>
       refine ⟨t + 1, by omega, by go_num, hc.tr hc2, ?_⟩
       rw [Htake.out, idsL_append]
       simp only [idsL, idsN, List.append_nil, List.mem_append, List.mem_cons, not_or]
       exact ⟨Hno.out, fun e => hid e.symm, hn2⟩
      case measure => simp [intOf]; omega
     ·go_wp2_with fail
      go_ret2
      refine ⟨hc.tr hc2, .inr ⟨hb, ho, h, Fh, _, rb2, cap2, j2, q2, rfl, ⟨hin.pt, .down Hj.out hin.path, ?_, ?_, fun x hx => h4 x (hin.sub x hx)⟩, hh, hq2, hcell⟩⟩
      ·intro w' h' Fh' hu
       obtain ⟨Fq', hu2⟩ := hin.upd w' h' Fh' hu
       exact Hup.out _ _ _ hu2
      ·rcases hin.blk with e | e
       ·exact .inr (e ▸ h3)
       ·exact .inr (h4 _ e)
   ·have hltI : ¬ (t : Int) < (s.length : Int) := by omega
    have hte : s.take t = s := List.take_of_length_le (by omega)
    go_wp2_with fail
    go_ret2
    exact ⟨hc, .inl ⟨by have := Hno.out; rwa [hte] at this, rfl⟩⟩
theorem celL_one : ∀ (L : List Ch), (∀ x ∈ L, ∀ u ∈ x.2.1, u.oneCell' = true) → ∀ u ∈ celL L, u.oneCell' = true := by
 intro L h u hu
 obtain ⟨x, hx, hux⟩ := List.mem_flatMap.1 hu
 exact h x hx u hux
def RetRow (v : Value) (g : Nat) (cs : List Value) (n : Nat) (w : World) (en : Ending) (w' : World) : Prop :=
 en = .returned v ∧ ∃ r', Blk w' g (cs ++ r') 28 ∧ (cs ++ r').length = n ∧ Chg (OneB g) w w'
theorem del1_any (L1 L2 : List Ch) (x : Ch) (r : List Value) (g i m cap : Nat) (w : World) (h1 : L1.length = i) (h2 : L2.length = m) (hb : Blk w g (celL (L1 ++ x :: L2) ++ r) 28) (h5 : ∀ y ∈ L1 ++ x :: L2, y.2.1.length = 5) (h1c : ∀ y ∈ L2, ∀ u ∈ y.2.1, u.oneCell' = true) (hcap : i + 1 + m ≤ cap) (hcm : cap ≤ maxLen) :
  Calls Tryz.prog 60 #[.slice (some ⟨g, 0, none⟩) (i + 1 + m) cap, .int .i64 (i : Nat), .int .i64 ((i : Int) + 1)] w (RetRow (.slice (some ⟨g, 0, none⟩) (i + m) cap) g (celL (L1 ++ L2)) (celL (L1 ++ x :: L2) ++ r).length w) := by
 unfold maxLen at hcm
 obtain ⟨i0, hi, hz, hsz, hby⟩ := info_parts infoNode
 have hl1 : (celL L1).length = i * 5 := by rw [celL_len _ (fun y hy => h5 y (List.mem_append_left _ hy)), h1]
 have hlx : x.2.1.length = 5 := h5 x (List.mem_append_right _ (List.mem_cons_self ..))
 have hl2 : (celL L2).length = m * 5 := by rw [celL_len _ (fun y hy => h5 y (List.mem_append_right _ (List.mem_cons_of_mem _ hy))), h2]
 have hcut : ∃ mid tail, x.2.1 ++ celL L2 = mid ++ tail ∧ mid.length = m * 5 ∧ tail.length = 5 := ⟨(x.2.1 ++ celL L2).take (m * 5), (x.2.1 ++ celL L2).drop (m * 5), (List.take_append_drop ..).symm, by rw [List.length_take, List.length_append, hlx, hl2]; omega, by rw [List.length_drop, List.length_append, hlx, hl2]; omega⟩
 obtain ⟨mid, tail, hmt, hml, htl⟩ := hcut
 have hb1 : Blk w g (celL L1 ++ (mid ++ (tail ++ r))) 28 := by
  rw [← List.append_assoc mid, ← hmt, ← List.append_assoc, ← celL_cons, ← celL_append]
  exact hb
 have hsrc : ∀ (j : Nat) (v : Value), (celL L2)[j]? = some v → w.cell? ((⟨g, (i + 1) * 5, none⟩ : Addr).add j) = some v := fun j v hj => by
  rw [Addr.add_lit, hb.cell, celL_append, celL_cons, List.append_assoc, List.getElem?_append_right (by rw [hl1]; omega), hl1, List.append_assoc, List.getElem?_append_right (by rw [hlx]; omega), hlx, List.getElem?_append_left (by have := (List.getElem?_eq_some_iff.1 hj).1; omega)]
  rw [← hj]; congr 1; omega
 have hlen : (celL (L1 ++ x :: L2) ++ r).length = i * 5 + 5 + m * 5 + r.length := by rw [List.length_append, celL_append, celL_cons, List.length_append, List.length_append, hl1, hlx, hl2]; omega
 have Hlen := Lib.hid hlen
 have Hl1 := Lib.hid hl1
 have Hl2 := Lib.hid hl2
 have Htl := Lib.hid htl
 have key : ∀ (a : Addr) (c : Nat), (m ≠ 0 → a = ⟨g, (i + 1) * 5, none⟩) → ∃ w', (Builtin.append_ #[26, 26] 26 #[.slice (some ⟨g, 0, none⟩) i cap, .slice (some a) m c]).run Tryz.prog w.drew = .ok (.slice (some ⟨g, 0, none⟩) (i + m) cap) w' ∧ Mid w.drew g (celL L1) (celL L2) (tail ++ r) 28 w' := fun a c ha =>
  run_append_mid (P := Tryz.prog) w.drew 26 26 28 i0 Tryz.underlying26 hi hb1 (by rw [hl1, hsz]) (by rw [hl2, hsz]) (by rw [hml, hl2])
   (fun j v hj => by
    have hm0 : m ≠ 0 := by have := (List.getElem?_eq_some_iff.1 hj).1; omega
    rw [ha hm0]; exact hsrc j v hj) (celL_one L2 h1c) (by omega)
 have Key := Lib.hid key
 clear key hsrc hb1 hml hmt hlen hl1 hl2 htl hb hlx h1c h5 h1 h2 hi hz hsz hby
 have hne : ((i : Int) == (i : Int) + 1) = false := by rw [beq_eq_false_iff_ne]; omega
 have hA : (0 : Int) ≤ (i : Int) + 1 := by omega
 have hB : (i : Int) + 1 ≤ (i : Int) + 1 + (m : Int) := by omega
 by_cases hce : cap = i + 1
 ·obtain rfl : m = 0 := by omega
  subst hce
  clear hB hA
  have hA : (0 : Int) ≤ (i : Int) + 1 := by omega
  have hB : (i : Int) ≤ (i : Int) + 1 := by omega
  go_enter Tryz.func60, Tryz.ntmps60
  go_wp2_with fail
  refine wp_region_n (fun w' => True) [] (by kernel_rfl) ?_ (fun hSh => ?_)
  ·trivial
  refine n_from 0 ?_
  intro htk
  iterate 6
   refine n_tB (v := ?_) htk rfl (Or.inl ⟨by rfl, ?_⟩) ?_
   rotate_left 1
   ·(intro w' hSw; (try dsimp only at hSw); go_simp; try with_reducible rfl)
   clear htk
   intro htk
   simp only [Nat.reduceAdd] at htk
   simp only [Act.put, qA, qB, qC, qD, qE, qF]
  clear htk
  refine n_step 6 rfl (by kernel_rfl) ?_
  refine wpList_append_ex rfl (.tmp 22) (.tmp 25) 26 26 rfl _ _ rfl rfl (Key.out ⟨g, 0, none⟩ 0 (fun h => absurd rfl h)) ?_
  intro wA hmA
  have HmA := Lib.hid hmA
  clear hmA
  go_wp2_with fail
  refine ⟨fun _ => trivial, fun _ => ?_⟩
  refine n_tA (v := ?_) 7 rfl (Or.inl ⟨by rfl, ?_⟩) ?_
  rotate_left 1
  ·(intro w' hSw; (try dsimp only at hSw); go_simp; try with_reducible rfl)
  simp only [Act.put, qA, qB, qC, qD, qE, qF]
  refine n_done (by kernel_rfl) ?_
  obtain ⟨w9, hr9, hm9⟩ := run_clear_mid (P := Tryz.prog) (n := 1) (c := 1) (pre := celL L1 ++ celL L2) wA 26 28 0 Tryz.underlying26 zero_nodeV (zero_one _) (by rw [List.append_assoc]; exact HmA.out.blk) (by rw [Htl.out, zero_five])
  rw [show (celL L1 ++ celL L2).length = i * 5 from by rw [List.length_append, Hl1.out, Hl2.out]; omega] at hr9
  generalize hzs : (Builtin.zeroCells zeroAgg.cells 1).toList = zs at hm9
  have Hm9 := Lib.hid hm9
  have Hzs := Lib.hid hzs
  clear hm9 hzs
  have hE : ¬ i + 1 = i := by omega
  go_wp2_with fail
  go_ret
  refine ⟨rfl, zs ++ r, ?_, ?_, ((Chg.refl (OneB g) w).drew.trans HmA.out.chg (fun _ e => .inl e)).trans Hm9.out.chg (fun _ e => .inl e)⟩
  ·rw [celL_append]; exact Hm9.out.blk
  ·rw [Hlen.out, celL_append, List.length_append, List.length_append, List.length_append, Hl1.out, Hl2.out, ← Hzs.out, Array.length_toList, Builtin.zeroCells, Array.size_map, Array.size_range, zero_five]; omega
 ·have hile : i ≤ cap := by omega
  go_enter Tryz.func60, Tryz.ntmps60
  go_wp2_with fail
  refine wp_region_n (fun w' => True) [] (by kernel_rfl) ?_ (fun hSh => ?_)
  ·trivial
  refine n_from 0 ?_
  intro htk
  iterate 6
   refine n_tB (v := ?_) htk rfl (Or.inl ⟨by rfl, ?_⟩) ?_
   rotate_left 1
   ·(intro w' hSw; (try dsimp only at hSw); go_simp; try with_reducible rfl)
   clear htk
   intro htk
   simp only [Nat.reduceAdd] at htk
   simp only [Act.put, qA, qB, qC, qD, qE, qF]
  clear htk
  refine n_step 6 rfl (by kernel_rfl) ?_
  refine wpList_append_ex rfl (.tmp 22) (.tmp 25) 26 26 rfl _ _ rfl rfl (Key.out _ _ (fun _ => rfl)) ?_
  intro wA hmA
  have HmA := Lib.hid hmA
  clear hmA
  go_wp2_with fail
  refine ⟨fun _ => trivial, fun _ => ?_⟩
  refine n_tA (v := ?_) 7 rfl (Or.inl ⟨by rfl, ?_⟩) ?_
  rotate_left 1
  ·(intro w' hSw; (try dsimp only at hSw); go_simp; try with_reducible rfl)
  simp only [Act.put, qA, qB, qC, qD, qE, qF]
  refine n_done (by kernel_rfl) ?_
  have hone : i + 1 + m - (i + m) = 1 := by omega
  obtain ⟨w9, hr9, hm9⟩ := run_clear_mid (P := Tryz.prog) (n := i + 1 + m - (i + m)) (c := cap - (i + m)) (pre := celL L1 ++ celL L2) wA 26 28 0 Tryz.underlying26 zero_nodeV (zero_one _) (by rw [List.append_assoc]; exact HmA.out.blk) (by rw [Htl.out, zero_five, hone])
  rw [show (celL L1 ++ celL L2).length = (i + m) * 5 from by rw [List.length_append, Hl1.out, Hl2.out]; omega] at hr9
  rw [hone] at hm9
  generalize hzs : (Builtin.zeroCells zeroAgg.cells 1).toList = zs at hm9
  clear hone
  have Hm9 := Lib.hid hm9
  have Hzs := Lib.hid hzs
  clear hm9 hzs
  have hC : (i : Int) + (m : Int) ≤ (i : Int) + 1 + (m : Int) := by omega
  have hD : (0 : Int) ≤ (i : Int) + (m : Int) := by omega
  have hE : ¬ cap = i + m := by omega
  go_wp2_with fail
  go_ret
  refine ⟨rfl, zs ++ r, ?_, ?_, ((Chg.refl (OneB g) w).drew.trans HmA.out.chg (fun _ e => .inl e)).trans Hm9.out.chg (fun _ e => .inl e)⟩
  ·rw [celL_append]; exact Hm9.out.blk
  ·rw [Hlen.out, celL_append, List.length_append, List.length_append, List.length_append, Hl1.out, Hl2.out, ← Hzs.out, Array.length_toList, Builtin.zeroCells, Array.size_map, Array.size_range, zero_five]; omega
theorem ins1_any (L1 L2 : List Ch) (x : Ch) (r : List Value) (g i m cap vb : Nat) (w : World) (h1 : L1.length = i) (h2 : L2.length = m) (hb : Blk w g (celL (L1 ++ L2) ++ r) 28) (hlr : (celL (L1 ++ L2) ++ r).length = cap * 5) (h5 : ∀ y ∈ L1 ++ L2, y.2.1.length = 5) (h1c : ∀ y ∈ L2, ∀ u ∈ y.2.1, u.oneCell' = true)
  (hv : Blk w vb x.2.1 28) (hx5 : x.2.1.length = 5) (hx1 : ∀ u ∈ x.2.1, u.oneCell' = true) (hvg : vb ≠ g) (hcap : i + m + 1 ≤ cap) (hcm : cap ≤ maxLen) :
  Calls Tryz.prog 59 #[.slice (some ⟨g, 0, none⟩) (i + m) cap, .int .i64 (i : Nat), .slice (some ⟨vb, 0, none⟩) 1 1] w (RetRow (.slice (some ⟨g, 0, none⟩) (i + m + 1) cap) g (celL (L1 ++ x :: L2)) (cap * 5) w) := by
 unfold maxLen at hcm
 obtain ⟨i0, hi, hz, hsz, hby⟩ := info_parts infoNode
 have hl1 : (celL L1).length = i * 5 := by rw [celL_len _ (fun y hy => h5 y (List.mem_append_left _ hy)), h1]
 have hl2 : (celL L2).length = m * 5 := by rw [celL_len _ (fun y hy => h5 y (List.mem_append_right _ hy)), h2]
 have hrl : 5 ≤ r.length := by rw [List.length_append, celL_append, List.length_append, hl1, hl2] at hlr; omega
 have hsize : (Tryz.prog.info? 28).map (·.size) = some 5 := by rw [hi]; simp [hsz]
 have hne0 : ((1 : Int) == 0) = false := rfl
 have hicap : ¬ cap = i := by omega
 have hile : i ≤ cap := by omega
 have hA : (i : Int) ≤ (i : Int) + (m : Int) := by omega
 have hvl : ∀ (j : Nat) (u : Value), x.2.1[j]? = some u → ∀ W : World, Blk W vb x.2.1 28 → W.cell? ((⟨vb, 0, none⟩ : Addr).add j) = some u := fun j u hj W hW => by
  rw [Addr.add_lit, Nat.zero_add, hW.cell]; exact hj
 by_cases hm0 : m = 0
 ·subst hm0
  obtain rfl := List.eq_nil_of_length_eq_zero h2
  rw [List.append_nil] at hb hlr
  obtain ⟨wA, hrA, hmA⟩ := run_append_mid (P := Tryz.prog) (cap := cap) (c := 1) w 26 26 28 i0 Tryz.underlying26 hi (pre := celL L1) (mid := r.take 5) (post := r.drop 5) (by rw [List.take_append_drop]; exact hb) (by rw [hl1, hsz]) (news := x.2.1) (m := 1) (a := ⟨vb, 0, none⟩) (by rw [hx5, hsz]) (by rw [List.length_take, hx5]; omega) (fun j u hj => hvl j u hj w hv) hx1 (by omega)
  have hE : ((i : Int) == (i : Int) + 0) = true := by simp
  have Key := Lib.hid (show ∃ w', (Builtin.append_ #[26, 26] 26 #[.slice (some ⟨g, 0, none⟩) i cap, .slice (some ⟨vb, 0, none⟩) 1 1]).run Tryz.prog w = .ok (.slice (some ⟨g, 0, none⟩) (i + 1) cap) w' ∧ Mid w g (celL L1) x.2.1 (r.drop 5) 28 w' from ⟨wA, hrA, hmA⟩)
  have HL := Lib.hid hlr
  have Hx5 := Lib.hid hx5
  clear hrA hmA hb hlr h5 h1c hv hvl hl1 hl2 hi hz hsz hby h1 hx1 h2 hsize hx5
  go_enter Tryz.func59, Tryz.ntmps59
  go_wp2_with (at_builtin; refine stop_here ?_)
  refine Stop.go ?_
  refine wpList_append_ex rfl (.tmp 23) (.tmp 24) 26 26 rfl _ _ rfl rfl Key.out ?_
  intro wA hmA
  have HmA := Lib.hid hmA
  clear hmA
  go_wp2_with fail
  go_ret
  refine ⟨rfl, r.drop 5, ?_, ?_, HmA.out.chg⟩
  ·have h9 := HmA.out.blk
   rw [celL_append, celL_cons, celL_nil, List.append_nil, List.append_assoc]
   exact h9
  ·have h9 := HL.out
   rw [List.length_append] at h9
   rw [celL_append, celL_cons, celL_nil, List.append_nil, List.length_append, List.length_append, List.length_drop, Hx5.out]
   omega
 ·have hmp : 0 < m := Nat.pos_of_ne_zero hm0
  have hE : ((i : Int) == (i : Int) + (m : Int)) = false := by rw [beq_eq_false_iff_ne]; omega
  have hov : ∀ (W : World) lb cb, Blk W vb x.2.1 28 → Blk W g (celL (L1 ++ L2) ++ r) 28 → (callFunc 98 #[.slice (some ⟨vb, 0, none⟩) 1 1, .slice (some ⟨g, (i + 1) * 5, none⟩) lb cb]).run Tryz.prog W = .ok (.value (.bool false)) W := fun W lb cb hW hG => by
   rw [run_callFunc_extern Tryz.func98 (by kernel_rfl) (by kernel_rfl) (by kernel_rfl) (e := Extern.SlicesOverlaps.overlaps #[26, 26] #[4]) (by kernel_rfl),
    Lib.run_overlaps_apart W 26 4 28 Tryz.underlying26 5 (by intro w; kernel_rfl) ⟨vb, 0, none⟩ ⟨g, (i + 1) * 5, none⟩ 1 1 lb cb hvg 28 28 x.2.1.length (celL (L1 ++ L2) ++ r).length (by unfold Blk at hW; unfold World.shape?; rw [hW]; simp) (by unfold Blk at hG; unfold World.shape?; rw [hG]; simp) (by omega) (hW.free 0) (hW.free _)]
   rfl
  have hd0 : Chg NoB w w.drew := (Chg.refl _ _).drew
  have hcells : Blk w.drew g (celL L1 ++ (celL L2 ++ r)) 28 := by rw [← List.append_assoc, ← celL_append]; exact hb.drew
  have hcp1 : ∀ dl sl c1 c2, dl = m → sl = m + 1 → ∃ w', (Builtin.copy_ #[26, 26] 3 #[.slice (some ⟨g, (i + 1) * 5, none⟩) dl c1, .slice (some ⟨g, i * 5, none⟩) sl c2]).run Tryz.prog w.drew = .ok (goInt (Nat.min sl dl)) w' ∧ Mid w.drew g (celL L1 ++ (celL L2 ++ r).take 5) (celL L2) (r.drop 5) 28 w' := fun dl sl c1 c2 hdl hsl => by
   have hpl : (celL L1 ++ (celL L2 ++ r).take 5).length = (i + 1) * 5 := by rw [List.length_append, List.length_take, List.length_append, hl1, hl2]; omega
   have hmid : ((celL L2 ++ r).drop 5).take (m * 5) ++ r.drop 5 = (celL L2 ++ r).drop 5 := by
    rw [show r.drop 5 = ((celL L2 ++ r).drop 5).drop (m * 5) from by rw [List.drop_drop, Nat.add_comm, ← List.drop_drop, ← hl2, List.drop_left]]
    exact List.take_append_drop ..
   have h9 := run_copy_mid (P := Tryz.prog) (dCap := c1) (sCap := c2) (dLen := dl) (sLen := sl) (a := ⟨g, i * 5, none⟩) w.drew 26 26 3 28 Tryz.underlying26 hsize (pre := celL L1 ++ (celL L2 ++ r).take 5) (mid := ((celL L2 ++ r).drop 5).take (m * 5)) (post := r.drop 5) (news := celL L2)
    (by rw [hmid, List.append_assoc, List.take_append_drop]; exact hcells) (by rw [hl2, hdl, hsl]; congr 1; simp only [Nat.min_def]; split <;> omega) (fun j u hj => by
     rw [Addr.add_lit, hcells.cell, List.getElem?_append_right (by rw [hl1]; omega), hl1, Nat.add_sub_cancel_left, List.getElem?_append_left (List.getElem?_eq_some_iff.1 hj).1]
     exact hj) (by rw [List.length_take, List.length_drop, List.length_append, hl2]; omega) (celL_one L2 h1c)
   rw [hpl] at h9
   exact h9
  have hcp2 : ∀ (w1 : World) dl c1, dl = m + 1 → Mid w.drew g (celL L1 ++ (celL L2 ++ r).take 5) (celL L2) (r.drop 5) 28 w1 → ∃ w', (Builtin.copy_ #[26, 26] 3 #[.slice (some ⟨g, i * 5, none⟩) dl c1, .slice (some ⟨vb, 0, none⟩) 1 1]).run Tryz.prog w1 = .ok (goInt (Nat.min 1 dl)) w' ∧ Mid w1 g (celL L1) x.2.1 (celL L2 ++ r.drop 5) 28 w' := fun w1 dl c1 hdl hm1 => by
   have h9 := run_copy_mid (P := Tryz.prog) (dCap := c1) (sCap := 1) (dLen := dl) (sLen := 1) (a := ⟨vb, 0, none⟩) w1 26 26 3 28 Tryz.underlying26 hsize (pre := celL L1) (mid := (celL L2 ++ r).take 5) (post := celL L2 ++ r.drop 5) (news := x.2.1)
    (by rw [← List.append_assoc]; exact hm1.blk) (by rw [hx5, hdl]; simp only [Nat.min_def]; split <;> omega) (fun j u hj => hvl j u hj w1 (hv.drew.keep hm1.chg (fun e => hvg e))) (by rw [List.length_take, List.length_append, hl2, hx5]; omega) hx1
   rw [hl1] at h9
   exact h9
  have hov1 := hov w
  have Hov := Lib.hid (fun lb cb => hov w lb cb hv hb)
  have Hcp1 := Lib.hid hcp1
  have Hcp2 := Lib.hid hcp2
  have HL := Lib.hid hlr
  have Hx5 := Lib.hid hx5
  have Hl1 := Lib.hid hl1
  have Hl2 := Lib.hid hl2
  clear hov hov1 hcp1 hcp2 hcells hb hlr h5 h1c hv hvl hl1 hl2 hi hz hsz hby h1 hx1 h2 hsize hx5 hm0
  have hov := Hov.out
  have hB : (i : Int) + 1 ≤ (i : Int) + (m : Int) + 1 := by omega
  have hC : (i : Int) ≤ (i : Int) + (m : Int) + 1 := by omega
  have hD : ¬ cap = i + 1 := by omega
  have hF : (i : Int) + (m : Int) + 1 ≤ (cap : Int) := by omega
  go_enter Tryz.func59, Tryz.ntmps59
  go_wp2_with (simp only [hov])
  clear hov
  have hG : (0 : Int) ≤ (i : Int) + 1 := by omega
  have hwr : IntKind.i64.wrap ((i : Int) + 1) = (i : Int) + 1 := by rw [IntKind.wrap_i64]; omega
  have htn : ((i : Int) + 1).toNat = i + 1 := by omega
  refine wp_region_n (fun w' => True) [] (by kernel_rfl) ?_ (fun hSh => ?_)
  ·trivial
  refine n_from 0 ?_
  intro htk
  iterate 8
   refine n_tB (v := ?_) htk rfl (Or.inl ⟨by rfl, ?_⟩) ?_
   rotate_left 1
   ·(intro w' hSw; (try dsimp only at hSw); go_simp; try with_reducible rfl)
   clear htk
   intro htk
   simp only [Nat.reduceAdd] at htk
   simp only [Act.put, qA, qB, qC, qD, qE, qF]
  clear htk
  refine n_step 8 rfl (by kernel_rfl) ?_
  refine wpList_copy_ex rfl (.tmp 73) (.tmp 76) 26 26 rfl _ _ rfl rfl (Hcp1.out _ _ _ _ (by omega) (by omega)) ?_
  intro wA hmA
  have HmA := Lib.hid hmA
  clear hmA
  go_wp2_with fail
  refine ⟨fun _ => trivial, fun _ => ?_⟩
  refine n_done (by kernel_rfl) ?_
  obtain ⟨wB, hrB, hmB⟩ := Hcp2.out wA (i + m + 1 - i) (cap - i) (by omega) HmA.out
  have HmB := Lib.hid hmB
  clear hmB
  go_wp2_with fail
  go_ret
  refine ⟨rfl, r.drop 5, ?_, ?_, (((Chg.refl (OneB g) w).drew).trans HmA.out.chg (fun _ e => .inl e)).trans HmB.out.chg (fun _ e => .inl e)⟩
  ·have h9 := HmB.out.blk
   rw [celL_append, celL_cons, List.append_assoc, List.append_assoc]
   exact h9
  ·have h9 := HL.out
   rw [List.length_append, celL_append, List.length_append, Hl1.out, Hl2.out] at h9
   rw [List.length_append, celL_append, celL_cons, List.length_append, List.length_append, Hl1.out, Hl2.out, List.length_drop, Hx5.out]
   omega
def NameOk (L : List Pl) (i : Nat) (p : Pl) : Prop := isNameB p.n.name = true ∧ ∀ k q, 1 ≤ k → k < i → L[k]? = some q → ¬ (q.around = p.around ∧ q.n.name = p.n.name)
def IdOk (L : List Pl) (i : Nat) (p : Pl) : Prop := 1 ≤ p.n.id ∧ p.n.id ≤ 1000 ∧ ∀ k q, 1 ≤ k → k < i → L[k]? = some q → q.n.id ≠ p.n.id
def AllOk (L : List Pl) (F : Nat → Pl → Prop) : Prop := ∀ i p, 1 ≤ i → L[i]? = some p → F i p
def FitOk (_ : Nat) (p : Pl) : Prop := 1 ≤ p.n.rep ∧ p.n.rep ≤ 3 ∧ 0 ≤ p.n.kind ∧ p.n.kind ≤ 5 ∧ (p.n.kind = 0 ↔ p.n.sub.length ≠ 0)
inductive ErrSpec (nd : Nd) (L : List Pl) : Int → Prop
 | many (h : 40 < L.length) : ErrSpec nd L 2
 | high (h : L.length ≤ 40) (p : Pl) (hp : p ∈ L) (h6 : 6 < p.deep) : ErrSpec nd L 2
 | root (h : L.length ≤ 40) (hd : ∀ p ∈ L, p.deep ≤ 6) (hr : rootB nd = false) : ErrSpec nd L 3
 | fit (h : L.length ≤ 40) (hd : ∀ p ∈ L, p.deep ≤ 6) (hr : rootB nd = true) (hf : ¬ AllOk L FitOk) : ErrSpec nd L 3
 | name (h : L.length ≤ 40) (hd : ∀ p ∈ L, p.deep ≤ 6) (hr : rootB nd = true) (hf : AllOk L FitOk) (hn : ¬ AllOk L (NameOk L)) : ErrSpec nd L 5
 | num (h : L.length ≤ 40) (hd : ∀ p ∈ L, p.deep ≤ 6) (hr : rootB nd = true) (hf : AllOk L FitOk) (hn : AllOk L (NameOk L)) (hi : ¬ AllOk L (IdOk L)) : ErrSpec nd L 5
 | ok (h : L.length ≤ 40) (hd : ∀ p ∈ L, p.deep ≤ 6) (hr : rootB nd = true) (hf : AllOk L FitOk) (hn : AllOk L (NameOk L)) (hi : AllOk L (IdOk L)) : ErrSpec nd L 0
end Go.Proofs.YtgcmfpcgmkkobaaGreatDoor
