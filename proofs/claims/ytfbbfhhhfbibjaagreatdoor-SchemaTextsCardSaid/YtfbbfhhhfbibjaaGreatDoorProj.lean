/-
  A projection of a right schema, as plain data: it is right, its leaves are some of the schema's, projected again it is the same.
-/
import Derived.Test.YtfbbfhhhfbibjaaGreatDoorPlain
import Derived.Test.YtfbbfhhhfbibjaaGreatDoorLeaves
import Derived.Test.YtfbbfhhhfbibjaaGreatDoorFind
namespace Go.Proofs.YtfbbfhhhfbibjaaGreatDoor
open Go.RowKit

mutual
/-- A node under a projection: itself, or what is left of it, or nothing. -/
def projN (ids : List Int) : Nd → List Nd
  | .mk i n r k s => if has ids i = true then [.mk i n r k s] else match projL ids s with
    | [] => []
    | x :: xs => [.mk i n r k (x :: xs)]
def projL (ids : List Int) : List Nd → List Nd
  | [] => []
  | n :: ns => projN ids n ++ projL ids ns
end
mutual
/-- The IDs, in order. -/
def idsN : Nd → List Int
  | .mk i _ _ _ s => i :: idsL s
def idsL : List Nd → List Int
  | [] => []
  | n :: ns => idsN n ++ idsL ns
end
theorem projN_cases (ids : List Int) (i : Int) (n : ByteArray) (r k : Int) (s : List Nd) :
    (i ∈ ids ∧ projN ids (.mk i n r k s) = [.mk i n r k s]) ∨ (i ∉ ids ∧ projL ids s = [] ∧ projN ids (.mk i n r k s) = []) ∨
      (i ∉ ids ∧ projL ids s ≠ [] ∧ projN ids (.mk i n r k s) = [.mk i n r k (projL ids s)]) := by
  simp only [projN]
  by_cases h : has ids i = true
  · exact .inl ⟨(has_iff _ _).1 h, if_pos h⟩
  · have h' : i ∉ ids := (has_not _ _).1 (by simpa using h)
    rw [if_neg h]
    rcases hp : projL ids s with _ | ⟨x, xs⟩
    · exact .inr (.inl ⟨h', rfl, rfl⟩)
    · exact .inr (.inr ⟨h', by simp, rfl⟩)
theorem projL_append (ids : List Int) : ∀ (a b : List Nd), projL ids (a ++ b) = projL ids a ++ projL ids b
  | [], b => rfl
  | x :: xs, b => by simp only [List.cons_append, projL, projL_append ids xs b, List.append_assoc]
theorem projL_one (ids : List Int) (n : Nd) : projL ids [n] = projN ids n := by simp [projL]
theorem idsL_append : ∀ (a b : List Nd), idsL (a ++ b) = idsL a ++ idsL b
  | [], b => rfl
  | x :: xs, b => by simp only [List.cons_append, idsL, idsL_append xs b, List.append_assoc]
theorem highs_append : ∀ (a b : List Nd), Nd.highs (a ++ b) = max (Nd.highs a) (Nd.highs b)
  | [], b => by simp [Nd.highs]
  | x :: xs, b => by simp only [List.cons_append, Nd.highs, highs_append xs b]; omega
theorem alls_append {P : Nd → Prop} : ∀ (a b : List Nd), Nd.Alls P a → Nd.Alls P b → Nd.Alls P (a ++ b)
  | [], _b, _, hb => hb
  | _x :: xs, b, ha, hb => ⟨ha.1, alls_append xs b ha.2 hb⟩

mutual
theorem projN_ids (ids : List Int) : ∀ n : Nd, (idsL (projN ids n)).Sublist (idsN n)
  | .mk i n r k s => by
    rcases projN_cases ids i n r k s with ⟨_, h⟩ | ⟨_, _, h⟩ | ⟨_, _, h⟩
    · rw [h]; simp [idsL]
    · rw [h]; exact List.nil_sublist _
    · rw [h]
      simp only [idsL, idsN, List.append_nil]
      exact (projL_ids ids s).cons_cons i
theorem projL_ids (ids : List Int) : ∀ l : List Nd, (idsL (projL ids l)).Sublist (idsL l)
  | [] => List.Sublist.refl _
  | n :: ns => by
    simp only [projL, idsL_append, idsL]
    exact (projN_ids ids n).append (projL_ids ids ns)
end
mutual
theorem projN_high (ids : List Int) : ∀ n : Nd, Nd.highs (projN ids n) ≤ n.high
  | .mk i n r k s => by
    have := projL_high ids s
    rcases projN_cases ids i n r k s with ⟨_, h⟩ | ⟨_, _, h⟩ | ⟨_, _, h⟩ <;> rw [h] <;> simp only [Nd.highs, Nd.high] <;> omega
theorem projL_high (ids : List Int) : ∀ l : List Nd, Nd.highs (projL ids l) ≤ Nd.highs l
  | [] => Nat.le_refl _
  | n :: ns => by
    have h1 := projN_high ids n
    have h2 := projL_high ids ns
    simp only [projL, highs_append, Nd.highs]
    omega
end
mutual
theorem projN_weigh (ids : List Int) : ∀ n : Nd, Nd.weighs (projN ids n) ≤ n.weigh
  | .mk i n r k s => by
    have := projL_weigh ids s
    rcases projN_cases ids i n r k s with ⟨_, h⟩ | ⟨_, _, h⟩ | ⟨_, _, h⟩ <;> rw [h] <;> simp only [Nd.weighs, Nd.weigh] <;> omega
theorem projL_weigh (ids : List Int) : ∀ l : List Nd, Nd.weighs (projL ids l) ≤ Nd.weighs l
  | [] => Nat.le_refl _
  | n :: ns => by
    have h1 := projN_weigh ids n
    have h2 := projL_weigh ids ns
    simp only [projL, weighs_app, Nd.weighs]
    omega
end
theorem projL_names (ids : List Int) : ∀ l : List Nd, ((projL ids l).map Nd.name).Sublist (l.map Nd.name)
  | [] => List.Sublist.refl _
  | .mk i n r k s :: ns => by
    simp only [projL, List.map_append, List.map_cons]
    have h1 : ((projN ids (.mk i n r k s)).map Nd.name).Sublist [n] := by
      rcases projN_cases ids i n r k s with ⟨_, h⟩ | ⟨_, _, h⟩ | ⟨_, _, h⟩ <;> rw [h]
      · exact List.Sublist.refl _
      · exact List.nil_sublist _
      · exact List.Sublist.refl _
    exact h1.append (projL_names ids ns)
mutual
theorem projN_alls {P : Nd → Prop} {ids : List Int} (hP : ∀ i n r k s, P (.mk i n r k s) → projL ids s ≠ [] → P (.mk i n r k (projL ids s))) : ∀ n : Nd, n.All P → Nd.Alls P (projN ids n)
  | .mk i n r k s, h => by
    rcases projN_cases ids i n r k s with ⟨_, e⟩ | ⟨_, _, e⟩ | ⟨_, hne, e⟩ <;> rw [e]
    · exact ⟨h, trivial⟩
    · trivial
    · exact ⟨⟨hP i n r k s h.1 hne, projL_alls hP s h.2⟩, trivial⟩
theorem projL_alls {P : Nd → Prop} {ids : List Int} (hP : ∀ i n r k s, P (.mk i n r k s) → projL ids s ≠ [] → P (.mk i n r k (projL ids s))) : ∀ l : List Nd, Nd.Alls P l → Nd.Alls P (projL ids l)
  | [], _ => trivial
  | n :: ns, h => by
    simp only [projL]
    exact alls_append _ _ (projN_alls hP n h.1) (projL_alls hP ns h.2)
end
mutual
theorem projN_again (ids : List Int) : ∀ n : Nd, projL ids (projN ids n) = projN ids n
  | .mk i n r k s => by
    rcases projN_cases ids i n r k s with ⟨_, e⟩ | ⟨_, _, e⟩ | ⟨hi, hne, e⟩ <;> rw [e]
    · rw [projL_one, e]
    · rfl
    · rw [projL_one]
      have h2 := projL_again ids s
      rcases projN_cases ids i n r k (projL ids s) with ⟨h, _⟩ | ⟨_, h, _⟩ | ⟨_, _, h⟩
      · exact absurd h hi
      · rw [h2] at h; exact absurd h hne
      · rw [h, h2]
theorem projL_again (ids : List Int) : ∀ l : List Nd, projL ids (projL ids l) = projL ids l
  | [] => rfl
  | n :: ns => by simp only [projL, projL_append, projN_again ids n, projL_again ids ns]
end
mutual
theorem projN_has {ids : List Int} {x : Int} (hx : x ∈ ids) : ∀ n : Nd, x ∈ idsN n → x ∈ idsL (projN ids n)
  | .mk i n r k s, h => by
    simp only [idsN, List.mem_cons] at h
    rcases projN_cases ids i n r k s with ⟨_, e⟩ | ⟨hi, he, e⟩ | ⟨hi, hne, e⟩ <;> rw [e]
    · simpa [idsL, idsN] using h
    · rcases h with rfl | h
      · exact absurd hx hi
      · have := projL_has hx s h
        rw [he] at this
        cases this
    · rcases h with rfl | h
      · exact absurd hx hi
      · simp only [idsL, idsN, List.append_nil, List.mem_cons]
        exact .inr (projL_has hx s h)
theorem projL_has {ids : List Int} {x : Int} (hx : x ∈ ids) : ∀ l : List Nd, x ∈ idsL l → x ∈ idsL (projL ids l)
  | [], h => h
  | n :: ns, h => by
    simp only [idsL, List.mem_append] at h
    simp only [projL, idsL_append, List.mem_append]
    exact h.imp (projN_has hx n) (projL_has hx ns)
end

/-- What makes a schema right, told of what is in the root. -/
structure Fit (s : List Nd) : Prop where
  ne : s ≠ []
  high : Nd.highs s ≤ 5
  small : Nd.weighs s ≤ 39
  nodes : Nd.Alls (fun n => (v3F n ()).1 = true) s
  names : namesB s = true
  deep : Nd.Alls (fun n => namesB n.sub = true) s
  nodup : (idsL s).Nodup
  range : ∀ x ∈ idsL s, 1 ≤ x ∧ x ≤ 1000

mutual
theorem v5_ids : ∀ (n : Nd) (d : Int) (s : List Int), 1 ≤ d → (walkF (allF v5F) n d s).1 = true → s.Nodup → (walkF (allF v5F) n d s).2 = s ++ idsN n ∧ (s ++ idsN n).Nodup ∧ ∀ x ∈ idsN n, 1 ≤ x ∧ x ≤ 1000
  | .mk i nm r k sb, d, s, hd, h, hn => by
    simp only [walkF] at h ⊢
    have hf : allF v5F (.mk i nm r k sb) d s = (decide (1 ≤ i) && decide (i ≤ 1000) && !has s i, s ++ [i]) := by
      simp only [allF, if_neg (show ¬ d = 0 by omega)]; rfl
    rw [hf] at h ⊢
    cases hb : (decide (1 ≤ i) && decide (i ≤ 1000) && !has s i) with
    | false => rw [hb] at h; cases h
    | true =>
      rw [hb] at h
      simp only [Bool.and_eq_true, decide_eq_true_eq, Bool.not_eq_true', has_not] at hb
      have hn2 : (s ++ [i]).Nodup := List.nodup_append.2 ⟨hn, by simp, fun a ha b hb2 => by
        simp only [List.mem_cons, List.not_mem_nil, or_false] at hb2
        subst hb2
        rintro rfl
        exact hb.2 ha⟩
      obtain ⟨h1, h2, h3⟩ := v5_idsL sb (d + 1) (s ++ [i]) (by omega) h hn2
      have e : s ++ idsN (.mk i nm r k sb) = (s ++ [i]) ++ idsL sb := by simp [idsN]
      rw [e]
      refine ⟨h1, h2, fun x hx => ?_⟩
      simp only [idsN, List.mem_cons] at hx
      rcases hx with rfl | hx
      · exact hb.1
      · exact h3 x hx
theorem v5_idsL : ∀ (l : List Nd) (d : Int) (s : List Int), 1 ≤ d → (walkFs (allF v5F) l d s).1 = true → s.Nodup → (walkFs (allF v5F) l d s).2 = s ++ idsL l ∧ (s ++ idsL l).Nodup ∧ ∀ x ∈ idsL l, 1 ≤ x ∧ x ≤ 1000
  | [], d, s, hd, h, hn => by
    simp only [walkFs, idsL, List.append_nil]
    exact ⟨trivial, hn, fun x hx => by cases hx⟩
  | n :: ns, d, s, hd, h, hn => by
    simp only [walkFs] at h ⊢
    have h0 := v5_ids n d s hd
    rcases hw : walkF (allF v5F) n d s with ⟨b, s'⟩
    rw [hw] at h h0
    cases b
    · cases h
    · obtain ⟨e, h1, h2⟩ := h0 rfl hn
      simp only at e h
      subst e
      obtain ⟨h3, h4, h5⟩ := v5_idsL ns d (s ++ idsN n) hd h h1
      have e : s ++ idsL (n :: ns) = (s ++ idsN n) ++ idsL ns := by simp [idsL]
      rw [e]
      refine ⟨h3, h4, fun x hx => ?_⟩
      simp only [idsL, List.mem_append] at hx
      exact hx.elim (h2 x) (h5 x)
end
mutual
theorem v5_of : ∀ (n : Nd) (d : Int) (s : List Int), 1 ≤ d → (s ++ idsN n).Nodup → (∀ x ∈ idsN n, 1 ≤ x ∧ x ≤ 1000) → walkF (allF v5F) n d s = (true, s ++ idsN n)
  | .mk i nm r k sb, d, s, hd, hn, hr => by
    have e : s ++ idsN (.mk i nm r k sb) = (s ++ [i]) ++ idsL sb := by simp [idsN]
    rw [e] at hn ⊢
    have hi := hr i (by simp [idsN])
    have hni : i ∉ s := fun h => by
      have := (List.nodup_append.1 (List.nodup_append.1 hn).1).2.2 i h i (by simp)
      exact this rfl
    have hf : allF v5F (.mk i nm r k sb) d s = (true, s ++ [i]) := by
      simp only [allF, if_neg (show ¬ d = 0 by omega), v5F, Nd.id, hi.1, hi.2, (has_not _ _).2 hni, decide_true, Bool.not_false, Bool.and_self]
    simp only [walkF]
    rw [hf]
    exact v5_ofL sb (d + 1) (s ++ [i]) (by omega) hn (fun x hx => hr x (by simp [idsN, hx]))
theorem v5_ofL : ∀ (l : List Nd) (d : Int) (s : List Int), 1 ≤ d → (s ++ idsL l).Nodup → (∀ x ∈ idsL l, 1 ≤ x ∧ x ≤ 1000) → walkFs (allF v5F) l d s = (true, s ++ idsL l)
  | [], d, s, hd, hn, hr => by simp [walkFs, idsL]
  | n :: ns, d, s, hd, hn, hr => by
    have e : s ++ idsL (n :: ns) = (s ++ idsN n) ++ idsL ns := by simp [idsL]
    rw [e] at hn ⊢
    simp only [walkFs]
    rw [v5_of n d s hd (List.nodup_append.1 hn).1 (fun x hx => hr x (by simp [idsL, hx]))]
    exact v5_ofL ns d (s ++ idsN n) hd hn (fun x hx => hr x (by simp [idsL, hx]))
end
mutual
theorem v1_of : ∀ (n : Nd) (d s : Int), d + n.high ≤ 7 → s + n.weigh ≤ 40 → walkF v1F n d s = (true, s + n.weigh)
  | .mk i nm r k sb, d, s, hd, hs => by
    simp only [Nd.high] at hd
    simp only [Nd.weigh] at hs ⊢
    have hf : v1F (.mk i nm r k sb) d s = (true, s + 1) := by
      have e1 : decide (s + 1 ≤ 40) = true := decide_eq_true (by omega)
      have e2 : decide (d ≤ 6) = true := decide_eq_true (by omega)
      simp only [v1F, e1, e2, Bool.and_self]
    simp only [walkF]
    rw [hf]
    simp only
    rw [v1_ofL sb (d + 1) (s + 1) (by omega) (by omega)]
    simp only [Prod.mk.injEq, true_and]
    omega
theorem v1_ofL : ∀ (l : List Nd) (d s : Int), d + Nd.highs l ≤ 7 → s + Nd.weighs l ≤ 40 → walkFs v1F l d s = (true, s + Nd.weighs l)
  | [], d, s, hd, hs => by simp [walkFs, Nd.weighs]
  | n :: ns, d, s, hd, hs => by
    simp only [Nd.highs] at hd
    simp only [Nd.weighs] at hs ⊢
    simp only [walkFs]
    rw [v1_of n d s (by omega) (by omega)]
    simp only
    rw [v1_ofL ns d _ (by omega) (by omega)]
    simp only [Prod.mk.injEq, true_and]
    omega
end
mutual
theorem walk_of {f : Nd → Int → Unit → Bool × Unit} {P : Nd → Prop} (hP : ∀ n d, 1 ≤ d → P n → (f n d ()).1 = true) : ∀ (n : Nd) (d : Int), 1 ≤ d → n.All P → walkF f n d () = (true, ())
  | .mk i nm r k sb, d, hd, h => by
    have hf : f (.mk i nm r k sb) d () = (true, ()) := Prod.ext (hP _ d hd h.1) rfl
    simp only [walkF]
    rw [hf]
    exact walk_ofL hP sb (d + 1) (by omega) h.2
theorem walk_ofL {f : Nd → Int → Unit → Bool × Unit} {P : Nd → Prop} (hP : ∀ n d, 1 ≤ d → P n → (f n d ()).1 = true) : ∀ (l : List Nd) (d : Int), 1 ≤ d → Nd.Alls P l → walkFs f l d () = (true, ())
  | [], d, hd, h => rfl
  | n :: ns, d, hd, h => by
    simp only [walkFs]
    rw [walk_of hP n d hd h.1]
    exact walk_ofL hP ns d hd h.2
end
theorem fit_of {nd : Nd} (h : validF nd = none) : Fit nd.sub := by
  have hS := schema_of_valid h
  unfold validF at h
  split at h
  · cases h
  rename_i h1
  split at h
  · cases h
  rename_i h2
  split at h
  · cases h
  rename_i h3
  split at h
  · cases h
  rename_i h4
  split at h
  · cases h
  rename_i h5
  rw [Bool.not_eq_false] at h1 h2 h3 h4 h5
  have a3 := (walk_root (P := fun n => (v3F n ()).1 = true) (fun n d s hd hf => by simp only [allF, if_neg (show ¬ d = 0 by omega)] at hf; exact hf) nd () h3).1
  have a4 := walk_root (P := fun n => namesB n.sub = true) (fun n d s hd hf => hf) nd () h4
  have h6 := hS.high
  have h7 := hS.small
  obtain ⟨i, nm, r, k, sb⟩ := nd
  simp only [walkF] at h5
  have hf : allF v5F (.mk i nm r k sb) 0 [] = (true, []) := by simp [allF]
  rw [hf] at h5
  have a5 := v5_idsL sb (0 + 1) [] (by omega) h5 (by simp)
  simp only [Nd.high] at h6
  simp only [Nd.weigh] at h7
  unfold rootB at h2
  rw [Bool.and_eq_true, Bool.and_eq_true, Bool.and_eq_true, Bool.and_eq_true] at h2
  have h8 := of_decide_eq_true h2.2
  refine ⟨fun e => h8 ?_, by simp only [Nd.sub]; omega, by simp only [Nd.sub]; omega, a3, a4.2, a4.1, by simpa [Nd.sub] using a5.2.1, a5.2.2⟩
  rw [e]; rfl
theorem valid_of {s : List Nd} (h : Fit s) : validF (.mk 0 rootName 1 0 s) = none := by
  have h1 : (walkF v1F (.mk 0 rootName 1 0 s) 1 0) = (true, _) := v1_of (.mk 0 rootName 1 0 s) 1 0 (by have := h.high; simp only [Nd.high]; omega) (by have := h.small; simp only [Nd.weigh]; omega)
  have h2 : rootB (.mk 0 rootName 1 0 s) = true := by
    unfold rootB
    have h9 : ((s.length : Nat) : Int) ≠ 0 := by
      have := h.ne
      cases s with
      | nil => exact absurd rfl this
      | cons x xs => simp only [List.length_cons]; omega
    have h10 : decide (((s.length : Nat) : Int) ≠ 0) = true := decide_eq_true h9
    simp only [Nd.id, Nd.name, Nd.rep, Nd.kind, Nd.sub, decide_true, Bool.true_and]
    exact h10
  have h3 : (walkF (allF v3F) (.mk 0 rootName 1 0 s) 0 ()).1 = true := by
    simp only [walkF]
    have hf : allF v3F (.mk 0 rootName 1 0 s) 0 () = (true, ()) := by simp [allF]
    rw [hf]
    simp only
    rw [walk_ofL (P := fun n => (v3F n ()).1 = true) (fun n d hd hp => by simp only [allF, if_neg (show ¬ d = 0 by omega)]; exact hp) s (0 + 1) (by omega) h.nodes]
  have h4 : (walkF v4F (.mk 0 rootName 1 0 s) 0 ()).1 = true := by
    simp only [walkF]
    have hf : v4F (.mk 0 rootName 1 0 s) 0 () = (true, ()) := Prod.ext h.names rfl
    rw [hf]
    simp only
    rw [walk_ofL (P := fun n => namesB n.sub = true) (fun n d hd hp => hp) s (0 + 1) (by omega) h.deep]
  have h5 : (walkF (allF v5F) (.mk 0 rootName 1 0 s) 0 []).1 = true := by
    simp only [walkF]
    have hf : allF v5F (.mk 0 rootName 1 0 s) 0 [] = (true, []) := by simp [allF]
    rw [hf]
    simp only
    rw [v5_ofL s (0 + 1) [] (by omega) (by simpa using h.nodup) h.range]
  unfold validF
  rw [h1, if_neg (by simp), h2, if_neg (by simp), h3, if_neg (by simp), h4, if_neg (by simp), h5, if_neg (by simp)]
theorem names_proj (ids : List Int) (s : List Nd) (h : namesB s = true) : namesB (projL ids s) = true := by
  unfold namesB at h ⊢
  rw [Bool.and_eq_true] at h ⊢
  have hs := projL_names ids s
  refine ⟨List.all_eq_true.2 fun x hx => ?_, decide_eq_true ((of_decide_eq_true h.2).sublist hs)⟩
  have h1 : x.name ∈ s.map Nd.name := hs.subset (List.mem_map_of_mem hx)
  obtain ⟨y, hy, e⟩ := List.mem_map.1 h1
  rw [← e]
  exact List.all_eq_true.1 h.1 y hy

theorem Fit.proj {s : List Nd} (h : Fit s) (ids : List Int) (hne : projL ids s ≠ []) : Fit (projL ids s) where
  ne := hne
  high := Nat.le_trans (projL_high ids s) h.high
  small := Nat.le_trans (projL_weigh ids s) h.small
  nodes := projL_alls (fun i n r k s hp hn => by
    simp only [v3F, Nd.rep, Nd.kind, Nd.sub] at hp ⊢
    have e : (projL ids s).isEmpty = s.isEmpty := by
      cases s with
      | nil => rfl
      | cons x xs => cases hq : projL ids (x :: xs) with
        | nil => exact absurd hq hn
        | cons y ys => rfl
    rw [e]; exact hp) s h.nodes
  names := names_proj ids s h.names
  deep := projL_alls (fun i n r k s hp _ => names_proj ids s hp) s h.deep
  nodup := h.nodup.sublist (projL_ids ids s)
  range := fun x hx => h.range x ((projL_ids ids s).subset hx)
mutual
theorem projN_lv (ids : List Int) : ∀ (n : Nd) (mr md : Int) (p : List Int), (lvL mr md p (projN ids n)).Sublist (lvN mr md p n)
  | .mk i n r k s, mr, md, p => by
    rcases projN_cases ids i n r k s with ⟨_, e⟩ | ⟨_, _, e⟩ | ⟨_, _, e⟩ <;> rw [e]
    · rw [lvL_one]; exact List.Sublist.refl _
    · exact List.nil_sublist _
    · rw [lvL_one]
      simp only [lvN]
      split
      · exact projL_lv ids s _ _ _
      · exact List.Sublist.refl _
theorem projL_lv (ids : List Int) : ∀ (l : List Nd) (mr md : Int) (p : List Int), (lvL mr md p (projL ids l)).Sublist (lvL mr md p l)
  | [], mr, md, p => List.Sublist.refl _
  | n :: ns, mr, md, p => by
    simp only [projL, lvL_append, lvL]
    exact (projN_lv ids n mr md p).append (projL_lv ids ns mr md p)
end
mutual
theorem lvN_ids : ∀ (n : Nd) (mr md : Int) (p : List Int), ((lvN mr md p n).map Lf.id).Sublist (idsN n)
  | .mk i n r k s, mr, md, p => by
    simp only [lvN, idsN]
    split
    · exact (lvL_ids s _ _ _).trans (List.sublist_cons_self _ _)
    · simp only [List.map_cons, List.map_nil]
      exact (List.nil_sublist _).cons_cons i
theorem lvL_ids : ∀ (l : List Nd) (mr md : Int) (p : List Int), ((lvL mr md p l).map Lf.id).Sublist (idsL l)
  | [], mr, md, p => List.Sublist.refl _
  | n :: ns, mr, md, p => by
    simp only [lvL, List.map_append, idsL]
    exact (lvN_ids n mr md p).append (lvL_ids ns mr md p)
end

mutual
theorem findG_ids (id : Int) : ∀ (n : Nd) (d : Int) (s : Nd), (walkF (findG id) n d s).1 = true ↔ id ∉ idsN n
  | .mk i nm r k sb, d, s => by
    simp only [walkF]
    by_cases h : i = id
    · rw [findG_hit h]
      simp [idsN, h]
    · rw [findG_miss h]
      simp only
      have := findG_idsL id sb (d + 1) (.mk i nm r k sb)
      simp only [idsN, List.mem_cons, not_or]
      rw [this]
      exact ⟨fun h1 => ⟨fun e => h e.symm, h1⟩, fun h1 => h1.2⟩
theorem findG_idsL (id : Int) : ∀ (l : List Nd) (d : Int) (s : Nd), (walkFs (findG id) l d s).1 = true ↔ id ∉ idsL l
  | [], d, s => by simp [walkFs, idsL]
  | n :: ns, d, s => by
    simp only [walkFs, idsL, List.mem_append, not_or]
    have h1 := findG_ids id n d s
    rcases hw : walkF (findG id) n d s with ⟨b, s'⟩
    rw [hw] at h1
    cases b
    · simp only [Bool.false_eq_true, false_iff] at h1 ⊢
      exact fun h => h1 h.1
    · simp only [true_iff] at h1
      simp only
      rw [findG_idsL id ns d s']
      exact ⟨fun h => ⟨h1, h⟩, fun h => h.2⟩
end
theorem findF_none {nd : Nd} {id : Int} : findF nd id = none ↔ id ∉ idsN nd := by
  unfold findF
  rw [← findG_ids id nd 0 zeroNd]
  rcases walkF (findG id) nd 0 zeroNd with ⟨b, s⟩
  cases b <;> simp

def subOf (ids : List Int) (l : List Nd) : List Nd := if has ids 0 = true then l else projL ids l
def projectF (nd : Nd) (ids : List Int) : PJ := match validF nd with
  | some e => .er e
  | none => bif ids.any (fun i => (findF nd i).isNone) then .non
    else bif (subOf ids nd.sub).isEmpty then .er .shape
    else .ok (.mk nd.id nd.name nd.rep nd.kind (subOf ids nd.sub))
theorem subOf_again (ids : List Int) (l : List Nd) : subOf ids (subOf ids l) = subOf ids l := by
  unfold subOf
  by_cases h : has ids 0 = true
  · simp only [if_pos h]
  · simp only [if_neg h]; exact projL_again ids l
def leavesOf (nd : Nd) : List Lf := lvL 0 0 [] nd.sub

theorem project_law {nd p : Nd} {ids : List Int} (h : projectF nd ids = .ok p) :
    validF nd = none ∧ validF p = none ∧ (leavesOf p).Sublist (leavesOf nd) ∧ ((leavesOf nd).map Lf.id).Nodup ∧ projectF p ids = .ok p := by
  have hv : validF nd = none := by
    cases hv : validF nd with
    | none => rfl
    | some e => unfold projectF at h; rw [hv] at h; cases h
  have hS := schema_of_valid hv
  have hF := fit_of hv
  unfold projectF at h
  rw [hv] at h
  simp only at h
  obtain ⟨i, nm, r, k, sb⟩ := nd
  have hroot := hS.root
  simp only [Nd.mk.injEq, Nd.sub, and_true] at hroot
  obtain ⟨rfl, rfl, rfl, rfl⟩ := hroot
  simp only [Nd.sub, Nd.id, Nd.name, Nd.rep, Nd.kind] at h hF
  have hids : ((leavesOf (.mk 0 rootName 1 0 sb)).map Lf.id).Nodup := hF.nodup.sublist (lvL_ids sb 0 0 [])
  refine ⟨hv, ?_⟩
  cases hany : ids.any (fun i => (findF (.mk 0 rootName 1 0 sb) i).isNone) with
  | true => rw [hany] at h; cases h
  | false =>
    rw [hany] at h
    simp only [cond_false] at h
    cases hne : (subOf ids sb).isEmpty with
    | true => rw [hne] at h; cases h
    | false =>
      rw [hne] at h
      simp only [cond_false] at h
      obtain rfl := PJ.ok.inj h
      have hne' : subOf ids sb ≠ [] := fun e => by rw [e] at hne; cases hne
      have hF2 : Fit (subOf ids sb) := by
        unfold subOf at hne' ⊢
        by_cases h0 : has ids 0 = true
        · simp only [if_pos h0]; exact hF
        · simp only [if_neg h0] at hne' ⊢; exact hF.proj ids hne'
      have hlv : (lvL 0 0 [] (subOf ids sb)).Sublist (lvL 0 0 [] sb) := by
        unfold subOf
        by_cases h0 : has ids 0 = true
        · simp only [if_pos h0]; exact List.Sublist.refl _
        · simp only [if_neg h0]; exact projL_lv ids sb 0 0 []
      have hsome : ∀ x, x ∈ ids → x ∈ idsL sb → x ∈ idsL (subOf ids sb) := fun x hx hm => by
        unfold subOf
        by_cases h0 : has ids 0 = true
        · simp only [if_pos h0]; exact hm
        · simp only [if_neg h0]; exact projL_has hx sb hm
      have hv2 := valid_of hF2
      refine ⟨hv2, hlv, hids, ?_⟩
      have hany2 : ids.any (fun i => (findF (.mk 0 rootName 1 0 (subOf ids sb)) i).isNone) = false := by
        rw [List.any_eq_false] at hany ⊢
        intro x hx hxn
        apply hany x hx
        rw [Option.isNone_iff_eq_none, findF_none] at hxn ⊢
        intro hm
        apply hxn
        simp only [idsN, List.mem_cons] at hm ⊢
        exact hm.imp (fun e => e) (hsome x hx)
      unfold projectF
      rw [hv2]
      simp only [Nd.sub, Nd.id, Nd.name, Nd.rep, Nd.kind, hany2, subOf_again, hne, cond_false]

/-- From two lists, one a part of the other: what the law's own loop looks for. -/
theorem next_of {α : Type} {x a : α} {l m : List α} (h : (x :: l).Sublist (a :: m)) (hne : x ≠ a) : (x :: l).Sublist m := by
  cases h with
  | cons _ h => exact h
  | cons_cons _ h => exact absurd rfl hne
end Go.Proofs.YtfbbfhhhfbibjaaGreatDoor
