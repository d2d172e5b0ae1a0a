/-
  A copy of a slice of ints (shredcollaw2.ints), and slices.Clone at []int.; A projection of a right schema, as plain data: it is right, its leaves are some of the schema's, projected again it is the same.; What SchemaError tells is what Valid tells: the plain law.; slices.IndexFunc over nodes, at two closures of evolve.; A drawn region: a step that looks into no memory may be taken first, whatever 
-/
import Derived.Test.YtgcmfpcgmkkobaaGreatDoorTwiceP
import Derived.Lib.SliceRun
import Derived.Test.YtgcmfpcgmkkobaaGreatDoorPlain
import Derived.Test.YtgcmfpcgmkkobaaGreatDoorAll
import Derived.Test.YtgcmfpcgmkkobaaGreatDoorWalk
import Derived.Test.YtgcmfpcgmkkobaaGreatDoorValid2
import Derived.Test.YtgcmfpcgmkkobaaGreatDoorRead
import Derived.Test.YtgcmfpcgmkkobaaGreatDoorTree
import Derived.Test.YtgcmfpcgmkkobaaGreatDoorRegion
set_option linter.unusedVariables false
set_option maxHeartbeats 20000000
set_option maxRecDepth 100000
set_option linter.unusedSimpArgs false
namespace Go.Proofs.YtgcmfpcgmkkobaaGreatDoor
open Go.RowKit
theorem news_of {w : World} {S : Nat → Prop} {k : Nat} {ds : List Dt} {v : Value} (h : Reads w S (.list k ds) [v]) :
  ∃ a c news, v = .slice a ds.length c ∧ ds.length ≤ c ∧ c ≤ maxLen ∧ ReadsC w S k ds news ∧ (∀ ad, a = some ad → ∀ j u, news[j]? = some u → w.cell? (ad.add j) = some u) ∧ (a = none → ds.length = 0 ∧ c = 0) := by
 obtain ⟨a, c, h0, h1, h2, h3⟩ := h
 have e : v = .slice a ds.length c := by simpa using h0
 subst e
 rcases h3 with ⟨rfl, h3⟩ | ⟨b, off, rfl, hS, hb, hE⟩
 ·exact ⟨a, c, [], rfl, h1, h2, rfl, fun _ _ j u hu => by simp at hu, fun e => ⟨rfl, h3 e⟩⟩
 ·obtain ⟨xs, hx, hc⟩ := hE.toC
  refine ⟨_, c, xs, rfl, h1, h2, hx, fun ad had j u hu => ?_, fun e => by cases e⟩
  obtain rfl := Option.some.inj had
  rw [show (⟨b, off, none⟩ : Addr).add j = ⟨b, off + j, none⟩ from by unfold Addr.add; split <;> simp_all]
  exact hc j u hu
mutual
def idsN : Nd → List Int
 | .mk i _ _ _ s => i :: idsL s
def idsL : List Nd → List Int
 | [] => []
 | n :: ns => idsN n ++ idsL ns
end
theorem idsL_append : ∀ (a b : List Nd), idsL (a ++ b) = idsL a ++ idsL b
 | [], b => rfl
 | x :: xs, b => by simp only [List.cons_append, idsL, idsL_append xs b, List.append_assoc]
theorem alls_append {P : Nd → Prop} : ∀ (a b : List Nd), Nd.Alls P a → Nd.Alls P b → Nd.Alls P (a ++ b)
 | [], b, _, hb => hb
 | x :: xs, b, ha, hb => ⟨ha.1, alls_append xs b ha.2 hb⟩
structure Fit (s : List Nd) : Prop where
 ne : s ≠ []
 high : Nd.highs s ≤ 5
 small : Nd.weighs s ≤ 39
 nodes : Nd.Alls (fun n => (v3F n ()).1 = true) s
 names : namesB s = true
 deep : Nd.Alls (fun n => namesB n.sub = true) s
 nodup : (idsL s).Nodup
 range : ∀ x ∈ idsL s, 1 ≤ x ∧ x ≤ 1000
mutual
theorem v5_ids : ∀ (n : Nd) (d : Int) (s : List Int), 1 ≤ d → (walkF (allF v5F) n d s).1 = true → s.Nodup → (walkF (allF v5F) n d s).2 = s ++ idsN n ∧ (s ++ idsN n).Nodup ∧ ∀ x ∈ idsN n, 1 ≤ x ∧ x ≤ 1000
 | .mk i nm r k sb, d, s, hd, h, hn => by
  simp only [walkF] at h ⊢
  have hf : allF v5F (.mk i nm r k sb) d s = (decide (1 ≤ i) && decide (i ≤ 1000) && !has s i, s ++ [i]) := by
   simp only [allF, if_neg (show ¬ d = 0 by omega)]; rfl
  rw [hf] at h ⊢
  cases hb : (decide (1 ≤ i) && decide (i ≤ 1000) && !has s i) with
  | false => rw [hb] at h; cases h
  | true =>
   rw [hb] at h
   simp only [Bool.and_eq_true, decide_eq_true_eq, Bool.not_eq_true', has_not] at hb
   have hn2 : (s ++ [i]).Nodup := List.nodup_append.2 ⟨hn, by simp, fun a ha b hb2 => by
    simp only [List.mem_cons, List.not_mem_nil, or_false] at hb2
    subst hb2
    rintro rfl
    exact hb.2 ha⟩
   obtain ⟨h1, h2, h3⟩ := v5_idsL sb (d + 1) (s ++ [i]) (by omega) h hn2
   have e : s ++ idsN (.mk i nm r k sb) = (s ++ [i]) ++ idsL sb := by simp [idsN]
   rw [e]
   refine ⟨h1, h2, fun x hx => ?_⟩
   simp only [idsN, List.mem_cons] at hx
   rcases hx with rfl | hx
   ·exact hb.1
   ·exact h3 x hx
theorem v5_idsL : ∀ (l : List Nd) (d : Int) (s : List Int), 1 ≤ d → (walkFs (allF v5F) l d s).1 = true → s.Nodup → (walkFs (allF v5F) l d s).2 = s ++ idsL l ∧ (s ++ idsL l).Nodup ∧ ∀ x ∈ idsL l, 1 ≤ x ∧ x ≤ 1000
 | [], d, s, hd, h, hn => by
  simp only [walkFs, idsL, List.append_nil]
  exact ⟨trivial, hn, fun x hx => by cases hx⟩
 | n :: ns, d, s, hd, h, hn => by
  simp only [walkFs] at h ⊢
  have h0 := v5_ids n d s hd
  rcases hw : walkF (allF v5F) n d s with ⟨b, s'⟩
  rw [hw] at h h0
  cases b
  ·cases h
  ·obtain ⟨e, h1, h2⟩ := h0 rfl hn
   simp only at e h
   subst e
   obtain ⟨h3, h4, h5⟩ := v5_idsL ns d (s ++ idsN n) hd h h1
   have e : s ++ idsL (n :: ns) = (s ++ idsN n) ++ idsL ns := by simp [idsL]
   rw [e]
   refine ⟨h3, h4, fun x hx => ?_⟩
   simp only [idsL, List.mem_append] at hx
   exact hx.elim (h2 x) (h5 x)
end
mutual
theorem v5_of : ∀ (n : Nd) (d : Int) (s : List Int), 1 ≤ d → (s ++ idsN n).Nodup → (∀ x ∈ idsN n, 1 ≤ x ∧ x ≤ 1000) → walkF (allF v5F) n d s = (true, s ++ idsN n)
 | .mk i nm r k sb, d, s, hd, hn, hr => by
  have e : s ++ idsN (.mk i nm r k sb) = (s ++ [i]) ++ idsL sb := by simp [idsN]
  rw [e] at hn ⊢
  have hi := hr i (by simp [idsN])
  have hni : i ∉ s := fun h => by
   have := (List.nodup_append.1 (List.nodup_append.1 hn).1).2.2 i h i (by simp)
   exact this rfl
  have hf : allF v5F (.mk i nm r k sb) d s = (true, s ++ [i]) := by
   simp only [allF, if_neg (show ¬ d = 0 by omega), v5F, Nd.id, hi.1, hi.2, (has_not _ _).2 hni, decide_true, Bool.not_false, Bool.and_self]
  simp only [walkF]
  rw [hf]
  exact v5_ofL sb (d + 1) (s ++ [i]) (by omega) hn (fun x hx => hr x (by simp [idsN, hx]))
theorem v5_ofL : ∀ (l : List Nd) (d : Int) (s : List Int), 1 ≤ d → (s ++ idsL l).Nodup → (∀ x ∈ idsL l, 1 ≤ x ∧ x ≤ 1000) → walkFs (allF v5F) l d s = (true, s ++ idsL l)
 | [], d, s, hd, hn, hr => by simp [walkFs, idsL]
 | n :: ns, d, s, hd, hn, hr => by
  have e : s ++ idsL (n :: ns) = (s ++ idsN n) ++ idsL ns := by simp [idsL]
  rw [e] at hn ⊢
  simp only [walkFs]
  rw [v5_of n d s hd (List.nodup_append.1 hn).1 (fun x hx => hr x (by simp [idsL, hx]))]
  exact v5_ofL ns d (s ++ idsN n) hd hn (fun x hx => hr x (by simp [idsL, hx]))
end
mutual
theorem v1_of : ∀ (n : Nd) (d s : Int), d + n.high ≤ 7 → s + n.weigh ≤ 40 → walkF v1F n d s = (true, s + n.weigh)
 | .mk i nm r k sb, d, s, hd, hs => by
  simp only [Nd.high] at hd
  simp only [Nd.weigh] at hs ⊢
  have hf : v1F (.mk i nm r k sb) d s = (true, s + 1) := by
   have e1 : decide (s + 1 ≤ 40) = true := decide_eq_true (by omega)
   have e2 : decide (d ≤ 6) = true := decide_eq_true (by omega)
   simp only [v1F, e1, e2, Bool.and_self]
  simp only [walkF]
  rw [hf]
  simp only
  rw [v1_ofL sb (d + 1) (s + 1) (by omega) (by omega)]
  simp only [Prod.mk.injEq, true_and]
  omega
theorem v1_ofL : ∀ (l : List Nd) (d s : Int), d + Nd.highs l ≤ 7 → s + Nd.weighs l ≤ 40 → walkFs v1F l d s = (true, s + Nd.weighs l)
 | [], d, s, hd, hs => by simp [walkFs, Nd.weighs]
 | n :: ns, d, s, hd, hs => by
  simp only [Nd.highs] at hd
  simp only [Nd.weighs] at hs ⊢
  simp only [walkFs]
  rw [v1_of n d s (by omega) (by omega)]
  simp only
  rw [v1_ofL ns d _ (by omega) (by omega)]
  simp only [Prod.mk.injEq, true_and]
  omega
end
mutual
theorem walk_of {f : Nd → Int → Unit → Bool × Unit} {P : Nd → Prop} (hP : ∀ n d, 1 ≤ d → P n → (f n d ()).1 = true) : ∀ (n : Nd) (d : Int), 1 ≤ d → n.All P → walkF f n d () = (true, ())
 | .mk i nm r k sb, d, hd, h => by
  have hf : f (.mk i nm r k sb) d () = (true, ()) := Prod.ext (hP _ d hd h.1) rfl
  simp only [walkF]
  rw [hf]
  exact walk_ofL hP sb (d + 1) (by omega) h.2
theorem walk_ofL {f : Nd → Int → Unit → Bool × Unit} {P : Nd → Prop} (hP : ∀ n d, 1 ≤ d → P n → (f n d ()).1 = true) : ∀ (l : List Nd) (d : Int), 1 ≤ d → Nd.Alls P l → walkFs f l d () = (true, ())
 | [], d, hd, h => rfl
 | n :: ns, d, hd, h => by
  simp only [walkFs]
  rw [walk_of hP n d hd h.1]
  exact walk_ofL hP ns d hd h.2
end
theorem fit_of {nd : Nd} (h : validF nd = none) : Fit nd.sub := by
 have hS := schema_of_valid h
 unfold validF at h
 split at h
 ·cases h
 rename_i h1
 split at h
 ·cases h
 rename_i h2
 split at h
 ·cases h
 rename_i h3
 split at h
 ·cases h
 rename_i h4
 split at h
 ·cases h
 rename_i h5
 rw [Bool.not_eq_false] at h1 h2 h3 h4 h5
 have a3 := (walk_root (P := fun n => (v3F n ()).1 = true) (fun n d s hd hf => by simp only [allF, if_neg (show ¬ d = 0 by omega)] at hf; exact hf) nd () h3).1
 have a4 := walk_root (P := fun n => namesB n.sub = true) (fun n d s hd hf => hf) nd () h4
 have h6 := hS.high
 have h7 := hS.small
 obtain ⟨i, nm, r, k, sb⟩ := nd
 simp only [walkF] at h5
 have hf : allF v5F (.mk i nm r k sb) 0 [] = (true, []) := by simp [allF]
 rw [hf] at h5
 have a5 := v5_idsL sb (0 + 1) [] (by omega) h5 (by simp)
 simp only [Nd.high] at h6
 simp only [Nd.weigh] at h7
 unfold rootB at h2
 rw [Bool.and_eq_true, Bool.and_eq_true, Bool.and_eq_true, Bool.and_eq_true] at h2
 have h8 := of_decide_eq_true h2.2
 refine ⟨fun e => h8 ?_, by simp only [Nd.sub]; omega, by simp only [Nd.sub]; omega, a3, a4.2, a4.1, by simpa [Nd.sub] using a5.2.1, a5.2.2⟩
 rw [e]; rfl
theorem valid_of {s : List Nd} (h : Fit s) : validF (.mk 0 rootName 1 0 s) = none := by
 have h1 : (walkF v1F (.mk 0 rootName 1 0 s) 1 0) = (true, _) := v1_of (.mk 0 rootName 1 0 s) 1 0 (by have := h.high; simp only [Nd.high]; omega) (by have := h.small; simp only [Nd.weigh]; omega)
 have h2 : rootB (.mk 0 rootName 1 0 s) = true := by
  unfold rootB
  have h9 : ((s.length : Nat) : Int) ≠ 0 := by
   have := h.ne
   cases s with
   | nil => exact absurd rfl this
   | cons x xs => simp only [List.length_cons]; omega
  have h10 : decide (((s.length : Nat) : Int) ≠ 0) = true := decide_eq_true h9
  simp only [Nd.id, Nd.name, Nd.rep, Nd.kind, Nd.sub, decide_true, Bool.true_and]
  exact h10
 have h3 : (walkF (allF v3F) (.mk 0 rootName 1 0 s) 0 ()).1 = true := by
  simp only [walkF]
  have hf : allF v3F (.mk 0 rootName 1 0 s) 0 () = (true, ()) := by simp [allF]
  rw [hf]
  simp only
  rw [walk_ofL (P := fun n => (v3F n ()).1 = true) (fun n d hd hp => by simp only [allF, if_neg (show ¬ d = 0 by omega)]; exact hp) s (0 + 1) (by omega) h.nodes]
 have h4 : (walkF v4F (.mk 0 rootName 1 0 s) 0 ()).1 = true := by
  simp only [walkF]
  have hf : v4F (.mk 0 rootName 1 0 s) 0 () = (true, ()) := Prod.ext h.names rfl
  rw [hf]
  simp only
  rw [walk_ofL (P := fun n => namesB n.sub = true) (fun n d hd hp => hp) s (0 + 1) (by omega) h.deep]
 have h5 : (walkF (allF v5F) (.mk 0 rootName 1 0 s) 0 []).1 = true := by
  simp only [walkF]
  have hf : allF v5F (.mk 0 rootName 1 0 s) 0 [] = (true, []) := by simp [allF]
  rw [hf]
  simp only
  rw [v5_ofL s (0 + 1) [] (by omega) (by simpa using h.nodup) h.range]
 unfold validF
 rw [h1, if_neg (by simp), h2, if_neg (by simp), h3, if_neg (by simp), h4, if_neg (by simp), h5, if_neg (by simp)]
mutual
def fullN : Nd → Int → Int → Nat → List Pl
 | .mk i n r k s, d, a, at0 => ⟨.mk i n r k s, d, a⟩ :: fullL s (d + 1) at0 (at0 + 1)
def fullL : List Nd → Int → Int → Nat → List Pl
 | [], _, _, _ => []
 | n :: ns, d, a, at0 => fullN n d a at0 ++ fullL ns d a (at0 + n.weigh)
end
section
variable {nd : Nd} {L : List Pl} (hL : L = fullN nd 1 (-1) 0)
include hL
end
def IdxP (p : Nd → Bool) (l : List Nd) (k : Int) : Prop :=
 (k = -1 ∧ ∀ a ∈ l, p a = false) ∨ ∃ (j : Nat) (a : Nd), k = (j : Int) ∧ l[j]? = some a ∧ p a = true ∧ ∀ (i : Nat) (a' : Nd), i < j → l[i]? = some a' → p a' = false
def RetIdxP (p : Nd → Bool) (l : List Nd) (w : World) (e : Ending) (w' : World) : Prop := ∃ k, e = .returned (.int .i64 k) ∧ IdxP p l k ∧ Chg NoB w w'
def IdxPRel (p : Nd → Bool) (l : List Nd) (w : World) (vi : Value) (wr : World) : Prop := ∃ j : Nat, j ≤ l.length ∧ vi = .int .i64 (j : Nat) ∧ Chg NoB w wr ∧ ∀ (i : Nat) (a' : Nd), i < j → l[i]? = some a' → p a' = false
def idB (id : Int) (n : Nd) : Bool := decide (n.id = id)
def delB (id : Int) (n : Nd) : Bool := decide (n.id = id) || (decide (n.kind = 0) && n.sub.isEmpty)
theorem edit1_any (n : Nd) (id : Int) (c : Nat) (w : World) (S : Nat → Prop) (cs : List Value) (hr : Reads w S n.dt cs) (hc0 : w.cell? ⟨c, 0, none⟩ = some (.int .i64 id)) :
  Calls Tryz.prog 58 #[.agg cs.toArray, .pointer (some ⟨c, 0, none⟩)] w (RetV (.bool (idB id n)) w) := by
 obtain ⟨i, nm, r, k, s⟩ := n
 obtain ⟨sv, rfl, hs⟩ := reads_nd.1 hr
 have hlt := lt_of_cell hc0
 show Calls _ _ _ _ (RetV (.bool (decide (i = id))) w)
 by_cases h : i = id
 ·subst h
  go_enter Tryz.func58, Tryz.ntmps58
  go_wp2_with fail
  go_ret
  exact ⟨by simp, (Chg.refl _ _).alloc _⟩
 ·have hb : (i == id) = false := by simpa using h
  go_enter Tryz.func58, Tryz.ntmps58
  go_wp2_with fail
  go_ret
  exact ⟨by simp [h], (Chg.refl _ _).alloc _⟩
theorem drop1_any (n : Nd) (id : Int) (c : Nat) (w : World) (S : Nat → Prop) (cs : List Value) (hr : Reads w S n.dt cs) (hc0 : w.cell? ⟨c, 0, none⟩ = some (.int .i64 id)) :
  Calls Tryz.prog 97 #[.agg cs.toArray, .pointer (some ⟨c, 0, none⟩)] w (RetV (.bool (delB id n)) w) := by
 obtain ⟨i, nm, r, k, s⟩ := n
 obtain ⟨sv, rfl, hs⟩ := reads_nd.1 hr
 obtain ⟨a, cap, rfl, hlen, hcap, hel⟩ := reads_subs hs
 clear hs hel hr
 unfold maxLen at hcap
 have hlt := lt_of_cell hc0
 by_cases h : i = id
 ·have hb : (i == id) = true := by simpa using h
  have hres : delB id (.mk i nm r k s) = true := by simp [delB, Nd.id, h]
  have Hres := Lib.hid hres
  clear hres h
  go_enter Tryz.func97, Tryz.ntmps97
  go_wp2_with fail
  go_ret
  rw [Hres.out]
  exact ⟨by simp, (Chg.refl _ _).alloc _⟩
 ·have hb : (i == id) = false := by simpa using h
  by_cases h2 : k = 0
  ·have hb2 : (k == 0) = true := by simpa using h2
   by_cases h3 : s.length = 0
   ·have hres : delB id (.mk i nm r k s) = true := by
     have hs0 : s = [] := List.eq_nil_of_length_eq_zero h3
     subst hs0
     simp [delB, Nd.kind, Nd.sub, h2]
    have Hres := Lib.hid hres
    have hb3 : ((s.length : Int) == 0) = true := by simpa using h3
    clear hres h h2 h3
    go_enter Tryz.func97, Tryz.ntmps97
    go_wp2_with fail
    go_ret
    rw [Hres.out]
    exact ⟨by simp, (Chg.refl _ _).alloc _⟩
   ·have hres : delB id (.mk i nm r k s) = false := by
     have hs0 : s.isEmpty = false := by cases s; exact absurd rfl h3; rfl
     simp [delB, Nd.id, Nd.sub, h, hs0]
    have Hres := Lib.hid hres
    have hb3 : ((s.length : Int) == 0) = false := by
     rw [beq_eq_false_iff_ne]; omega
    clear hres h h2 h3
    go_enter Tryz.func97, Tryz.ntmps97
    go_wp2_with fail
    go_ret
    rw [Hres.out]
    exact ⟨by simp, (Chg.refl _ _).alloc _⟩
  ·have hres : delB id (.mk i nm r k s) = false := by simp [delB, Nd.id, Nd.kind, h, h2]
   have Hres := Lib.hid hres
   have hb2 : (k == 0) = false := by simpa using h2
   clear hres h h2
   go_enter Tryz.func97, Tryz.ntmps97
   go_wp2_with fail
   go_ret
   rw [Hres.out]
   exact ⟨by simp, (Chg.refl _ _).alloc _⟩
theorem indexE_any (l : List Nd) (id : Int) (c : Nat) (w : World) (S : Nat → Prop) (v : Value) (hr : Reads w S (.list 5 (Nd.dts l)) [v]) (hc0 : w.cell? ⟨c, 0, none⟩ = some (.int .i64 id)) :
  Calls Tryz.prog 57 #[v, .func (.func 58) #[] #[.pointer (some ⟨c, 0, none⟩)]] w (RetIdxP (idB id) l w) := by
 obtain ⟨a, cap, rfl, hlen, hcap, hel⟩ := reads_subs hr
 unfold maxLen at hcap
 have he := enters_of Tryz.func58 (P := Tryz.prog) (by kernel_rfl) rfl
 go_enter Tryz.func57, Tryz.ntmps57
 go_wp2_with fail
 go_loopw [8] (fun vi wr => IdxPRel (idB id) l w vi wr) (fun vi _ => l.length - (intOf vi).toNat)
 case atStart => exact ⟨0, Nat.zero_le _, rfl, Chg.refl _ _, fun i a' h => absurd h (by omega)⟩
 case round =>
  obtain ⟨j, hj, rfl, hc, hno⟩ := hrel
  have Hno := Lib.hid hno
  clear hno
  by_cases hlt : j < l.length
  ·have hltI : (j : Int) < (l.length : Int) := by omega
   obtain ⟨b, off, rfl, hSb, hbw, hE⟩ := hel (by omega)
   obtain ⟨ecs, hl5, hcells, hre⟩ := hE.get j l[j].dt (by simp [hlt])
   have Hat := Lib.hid (List.getElem?_eq_getElem hlt)
   generalize l[j] = nj at hre Hat
   obtain ⟨i1, n1, r1, k1, s1⟩ := nj
   obtain ⟨v1, rfl, hs1⟩ := reads_nd.1 hre
   have ef : ∀ t c, [Value.int .i64 i1, .string n1, .int .i64 r1, .int .i64 k1, v1][t]? = some c → wr.cell? ⟨b, off + j * 5 + t, none⟩ = some c := fun t c ht => (hc.cell (p := ⟨b, off + j * 5 + t, none⟩) hbw (fun e => e)).trans (hcells t c ht)
   have e0 : wr.cell? ⟨b, off + j * 5, none⟩ = some (.int .i64 i1) := ef 0 _ rfl
   have e1 : wr.cell? ⟨b, off + j * 5 + 1, none⟩ = some (.string n1) := ef 1 _ rfl
   have e2 : wr.cell? ⟨b, off + j * 5 + 2, none⟩ = some (.int .i64 r1) := ef 2 _ rfl
   have e3 : wr.cell? ⟨b, off + j * 5 + 3, none⟩ = some (.int .i64 k1) := ef 3 _ rfl
   have e4 : wr.cell? ⟨b, off + j * 5 + 4, none⟩ = some v1 := ef 4 _ rfl
   clear ef
   go_wp2_with fail
   refine (edit1_any (.mk i1 n1 r1 k1 s1) id c wr S _ (hre.chg0 hc) ((hc.cell (lt_of_cell hc0) nbE).trans hc0)).mono ?_
   rintro en w2 ⟨rfl, hc2⟩
   cases hp : idB id (.mk i1 n1 r1 k1 s1) with
   | true =>
    have Hp := Lib.hid hp
    clear hp
    go_wp2_with fail
    go_ret
    exact ⟨_, rfl, .inr ⟨j, _, rfl, Hat.out, Hp.out, Hno.out⟩, hc.tr hc2⟩
   | false =>
    have Hp := Lib.hid hp
    clear hp
    go_wp2_with fail
    go_roundw
    case rel =>
     refine ⟨j + 1, hlt, by go_num, hc.tr hc2, fun i a' hi ha => ?_⟩
     by_cases hij : i = j
     ·subst hij
      obtain rfl := Option.some.inj (Hat.out.symm.trans ha)
      exact Hp.out
     ·exact Hno.out i a' (by omega) ha
    case measure => simp [intOf]; omega
  ·have hjl : j = l.length := by omega
   subst hjl
   have hltI : ¬ ((l.length : Int) < (l.length : Int)) := by omega
   go_wp2_with fail
   go_ret
   refine ⟨_, rfl, .inl ⟨rfl, fun a' ha => ?_⟩, hc⟩
   obtain ⟨i, hi⟩ := List.mem_iff_getElem?.1 ha
   exact Hno.out i a' (List.getElem?_eq_some_iff.1 hi).1 hi
theorem indexD_any (l : List Nd) (id : Int) (c : Nat) (w : World) (S : Nat → Prop) (v : Value) (hr : Reads w S (.list 5 (Nd.dts l)) [v]) (hc0 : w.cell? ⟨c, 0, none⟩ = some (.int .i64 id)) :
  Calls Tryz.prog 57 #[v, .func (.func 97) #[] #[.pointer (some ⟨c, 0, none⟩)]] w (RetIdxP (delB id) l w) := by
 obtain ⟨a, cap, rfl, hlen, hcap, hel⟩ := reads_subs hr
 unfold maxLen at hcap
 have he := enters_of Tryz.func97 (P := Tryz.prog) (by kernel_rfl) rfl
 go_enter Tryz.func57, Tryz.ntmps57
 go_wp2_with fail
 go_loopw [8] (fun vi wr => IdxPRel (delB id) l w vi wr) (fun vi _ => l.length - (intOf vi).toNat)
 case atStart => exact ⟨0, Nat.zero_le _, rfl, Chg.refl _ _, fun i a' h => absurd h (by omega)⟩
 case round =>
  obtain ⟨j, hj, rfl, hc, hno⟩ := hrel
  have Hno := Lib.hid hno
  clear hno
  by_cases hlt : j < l.length
  ·have hltI : (j : Int) < (l.length : Int) := by omega
   obtain ⟨b, off, rfl, hSb, hbw, hE⟩ := hel (by omega)
   obtain ⟨ecs, hl5, hcells, hre⟩ := hE.get j l[j].dt (by simp [hlt])
   have Hat := Lib.hid (List.getElem?_eq_getElem hlt)
   generalize l[j] = nj at hre Hat
   obtain ⟨i1, n1, r1, k1, s1⟩ := nj
   obtain ⟨v1, rfl, hs1⟩ := reads_nd.1 hre
   have ef : ∀ t c, [Value.int .i64 i1, .string n1, .int .i64 r1, .int .i64 k1, v1][t]? = some c → wr.cell? ⟨b, off + j * 5 + t, none⟩ = some c := fun t c ht => (hc.cell (p := ⟨b, off + j * 5 + t, none⟩) hbw (fun e => e)).trans (hcells t c ht)
   have e0 : wr.cell? ⟨b, off + j * 5, none⟩ = some (.int .i64 i1) := ef 0 _ rfl
   have e1 : wr.cell? ⟨b, off + j * 5 + 1, none⟩ = some (.string n1) := ef 1 _ rfl
   have e2 : wr.cell? ⟨b, off + j * 5 + 2, none⟩ = some (.int .i64 r1) := ef 2 _ rfl
   have e3 : wr.cell? ⟨b, off + j * 5 + 3, none⟩ = some (.int .i64 k1) := ef 3 _ rfl
   have e4 : wr.cell? ⟨b, off + j * 5 + 4, none⟩ = some v1 := ef 4 _ rfl
   clear ef
   go_wp2_with fail
   refine (drop1_any (.mk i1 n1 r1 k1 s1) id c wr S _ (hre.chg0 hc) ((hc.cell (lt_of_cell hc0) nbE).trans hc0)).mono ?_
   rintro en w2 ⟨rfl, hc2⟩
   cases hp : delB id (.mk i1 n1 r1 k1 s1) with
   | true =>
    have Hp := Lib.hid hp
    clear hp
    go_wp2_with fail
    go_ret
    exact ⟨_, rfl, .inr ⟨j, _, rfl, Hat.out, Hp.out, Hno.out⟩, hc.tr hc2⟩
   | false =>
    have Hp := Lib.hid hp
    clear hp
    go_wp2_with fail
    go_roundw
    case rel =>
     refine ⟨j + 1, hlt, by go_num, hc.tr hc2, fun i a' hi ha => ?_⟩
     by_cases hij : i = j
     ·subst hij
      obtain rfl := Option.some.inj (Hat.out.symm.trans ha)
      exact Hp.out
     ·exact Hno.out i a' (by omega) ha
    case measure => simp [intOf]; omega
  ·have hjl : j = l.length := by omega
   subst hjl
   have hltI : ¬ ((l.length : Int) < (l.length : Int)) := by omega
   go_wp2_with fail
   go_ret
   refine ⟨_, rfl, .inl ⟨rfl, fun a' ha => ?_⟩, hc⟩
   obtain ⟨i, hi⟩ := List.mem_iff_getElem?.1 ha
   exact Hno.out i a' (List.getElem?_eq_some_iff.1 hi).1 hi
section
variable {P : Program} {ops : Array Oper} {Q : Exit → Act → World → Prop} {md : Region.Mode} {S : World → Prop} {ns : List Nat}
theorem wpAnyN_pure {i : Nat} {oi : Oper} {v : Value} (hi : ops[i]? = some oi) (hsel : ∀ (j : Nat) (o : Oper) cs b, ops[j]? = some o → o.op ≠ .select cs b)
  (hQ : ∀ c a w, Q (.panic c) (a.put oi.dst v) w → Q (.panic c) a w) (hin : ns.contains i = true) :
  ∀ (fuel : Nat) (listed : Array Bool) (a : Act) (w : World),
   (∀ j oj, ops[j]? = some oj → j ≠ i → listed.getD j true = false → (∀ e ∈ oj.after, Region.binds md e = true → e.on ≠ i) → oi.apart ops oj = true) →
   i ∈ Region.ready md ops listed → YieldsIf P ops (fun _ => True) oi v a →
   wpAnyN P md ops Q S ns fuel (listed.setIfInBounds i true) (a.put oi.dst v) w → wpAnyN P md ops Q S ns (fuel + 1) listed a w := by
 have hno : ns.contains i = false → ∀ {p : Prop}, p := fun h => by rw [hin] at h; cases h
 intro fuel
 induction fuel with
 | zero =>
  intro listed a w _ hr hy H
  refine ⟨fun h => (by rw [h] at hr; cases hr), fun j hj => ?_⟩
  by_cases hji : j = i
  ·subst hji; exact hy.wpOp hi trivial ⟨fun h => hno h, H⟩
  ·have := ready_mono hj hji
   rw [H.1] at this
   cases this
 | succ fuel ih =>
  intro listed a w hfree hr hy H
  refine ⟨fun h => (by rw [h] at hr; cases hr), fun j hj => ?_⟩
  by_cases hji : j = i
  ·subst hji; exact hy.wpOp hi trivial ⟨fun h => hno h, H⟩
  ·have h1 := H.2 j (ready_mono hj hji)
   obtain ⟨hjun, oj, hoj, hall⟩ := mem_ready.1 hj
   have hnot : ∀ e ∈ oj.after, Region.binds md e = true → e.on ≠ i := fun e he hb heq => by
    have h1 := hall e he hb
    have h0 := (mem_ready.1 hr).1
    rw [heq, getD_both h0] at h1
    cases h1
   have h2 := wpOp_putIf hoj (hfree j oj hoj hji hjun hnot) (fun cs b => hsel i oi cs b hi) (fun cs b => hsel j oj cs b hoj) hQ hy h1
   have hfree' : ∀ k ok, ops[k]? = some ok → k ≠ i → (listed.setIfInBounds j true).getD k true = false →
     (∀ e ∈ ok.after, Region.binds md e = true → e.on ≠ i) → oi.apart ops ok = true := fun k ok hk hki hun hno => by
    refine hfree k ok hk hki ?_ hno
    by_cases hjk : j = k
    ·subst hjk; exact hjun
    ·rw [getD_set_ne true hjk] at hun; exact hun
   refine wpOp_mono (fun a' w' h3 => ⟨h3.2.1, ih (listed.setIfInBounds j true) a' w' hfree' (ready_mono hr (Ne.symm hji)) h3.1 ?_⟩) h2
   rw [Array.setIfInBounds_comm _ _ hji]
   exact h3.2.2
theorem n_pure (i : Nat) {oi : Oper} {v : Value} {fuel : Nat} {listed : Array Bool} {a : Act} {w : World} (hi : ops[i]? = some oi) (hy : YieldsIf P ops (fun _ => True) oi v a)
  (hc : (Region.noSelect ops && Region.free md ops listed i && (Region.ready md ops listed).contains i && ns.contains i) = true)
  (hQ : ∀ c a w, Q (.panic c) (a.put oi.dst v) w → Q (.panic c) a w)
  (h : wpAnyN P md ops Q S ns fuel (listed.setIfInBounds i true) (a.put oi.dst v) w) : wpAnyN P md ops Q S ns (fuel + 1) listed a w := by
 simp only [Bool.and_eq_true] at hc
 exact wpAnyN_pure hi (Region.noSelect_spec hc.1.1.1) hQ hc.2 fuel listed a w (Region.free_spec hi hc.1.1.2) (by simpa using hc.1.2) hy h
end
end Go.Proofs.YtgcmfpcgmkkobaaGreatDoor
