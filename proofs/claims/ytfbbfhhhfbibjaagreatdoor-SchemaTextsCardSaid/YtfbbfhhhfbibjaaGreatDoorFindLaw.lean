/-
  Find and Under against FindOf and UnderOf: the plain laws; and the errors' numbers.
-/
import Derived.Test.YtfbbfhhhfbibjaaGreatDoorErrLaw
import Derived.Test.YtfbbfhhhfbibjaaGreatDoorFindOf
import Derived.Test.YtfbbfhhhfbibjaaGreatDoorUnderOf
import Derived.Test.YtfbbfhhhfbibjaaGreatDoorUnder
import Derived.Test.YtfbbfhhhfbibjaaGreatDoorCode
namespace Go.Proofs.YtfbbfhhhfbibjaaGreatDoor
open Go.RowKit

mutual
theorem find_full (id : Int) : ∀ (n : Nd) (d' a : Int) (at0 : Nat) (d : Int) (s : Nd),
    match findP id (fullN n d' a at0) with
      | some p => walkF (findG id) n d s = (false, p.n)
      | none => (walkF (findG id) n d s).1 = true
  | .mk i nm r k sb, d', a, at0, d, s => by
    simp only [fullN, walkF]
    by_cases h : i = id
    · rw [findG_hit h]
      have h1 : findP id (⟨.mk i nm r k sb, d', a⟩ :: fullL sb (d' + 1) at0 (at0 + 1)) = some ⟨.mk i nm r k sb, d', a⟩ := by simp [findP, Nd.id, h]
      rw [h1]
    · rw [findG_miss h]
      have h1 : findP id (⟨.mk i nm r k sb, d', a⟩ :: fullL sb (d' + 1) at0 (at0 + 1)) = findP id (fullL sb (d' + 1) at0 (at0 + 1)) := by simp [findP, Nd.id, h]
      rw [h1]
      exact find_fullL id sb (d' + 1) at0 (at0 + 1) (d + 1) _
theorem find_fullL (id : Int) : ∀ (l : List Nd) (d' a : Int) (at0 : Nat) (d : Int) (s : Nd),
    match findP id (fullL l d' a at0) with
      | some p => walkFs (findG id) l d s = (false, p.n)
      | none => (walkFs (findG id) l d s).1 = true
  | [], d', a, at0, d, s => by simp [fullL, findP, walkFs]
  | n :: ns, d', a, at0, d, s => by
    simp only [fullL, walkFs]
    have h1 := find_full id n d' a at0 d s
    have h3 : findP id (fullN n d' a at0 ++ fullL ns d' a (at0 + n.weigh)) = (findP id (fullN n d' a at0)).or (findP id (fullL ns d' a (at0 + n.weigh))) := List.find?_append
    rw [h3]
    rcases hp : findP id (fullN n d' a at0) with _ | p
    · rw [hp] at h1
      simp only at h1
      rcases hw : walkF (findG id) n d s with ⟨b, s'⟩
      rw [hw] at h1
      simp only at h1
      subst h1
      exact find_fullL id ns d' a _ d s'
    · rw [hp] at h1
      simp only at h1
      rw [h1]
      rfl
end
theorem findF_full {nd : Nd} {L : List Pl} (hL : L = fullN nd 1 (-1) 0) (id : Int) : findF nd id = (findP id L).map Pl.n := by
  subst hL
  have h1 := find_full id nd 1 (-1) 0 0 zeroNd
  unfold findF
  rcases hp : findP id (fullN nd 1 (-1) 0) with _ | p
  · rw [hp] at h1
    simp only at h1
    rcases hw : walkF (findG id) nd 0 zeroNd with ⟨b, s'⟩
    rw [hw] at h1
    simp only at h1
    subst h1
    rfl
  · rw [hp] at h1
    simp only at h1
    rw [h1]
    rfl
theorem underL_append (a b : List Pl) : underL (a ++ b) = underL a ++ underL b := by unfold underL; rw [List.filter_append, List.map_append]
mutual
theorem under_full : ∀ (n : Nd) (d' a : Int) (at0 : Nat) (d : Int) (s : List Int), walkF underG n d s = (true, s ++ underL (fullN n d' a at0))
  | .mk i nm r k sb, d', a, at0, d, s => by
    simp only [fullN, walkF]
    by_cases h : k = 0
    · subst h
      have h1 : underG (.mk i nm r 0 sb) d s = (true, s) := by simp [underG, Nd.kind]
      have h2 : underL (⟨.mk i nm r 0 sb, d', a⟩ :: fullL sb (d' + 1) at0 (at0 + 1)) = underL (fullL sb (d' + 1) at0 (at0 + 1)) := by simp [underL, Nd.kind]
      rw [h1, h2]
      exact under_fullL sb (d' + 1) at0 (at0 + 1) (d + 1) s
    · have h1 : underG (.mk i nm r k sb) d s = (true, s ++ [i]) := by simp [underG, Nd.kind, Nd.id, h]
      have h2 : underL (⟨.mk i nm r k sb, d', a⟩ :: fullL sb (d' + 1) at0 (at0 + 1)) = i :: underL (fullL sb (d' + 1) at0 (at0 + 1)) := by simp [underL, Nd.kind, Nd.id, h]
      rw [h1, h2]
      have h3 := under_fullL sb (d' + 1) at0 (at0 + 1) (d + 1) (s ++ [i])
      simp only
      rw [h3]
      simp
theorem under_fullL : ∀ (l : List Nd) (d' a : Int) (at0 : Nat) (d : Int) (s : List Int), walkFs underG l d s = (true, s ++ underL (fullL l d' a at0))
  | [], d', a, at0, d, s => by simp [fullL, underL, walkFs]
  | n :: ns, d', a, at0, d, s => by
    simp only [fullL, walkFs]
    rw [under_full n d' a at0 d s]
    simp only
    rw [under_fullL ns d' a (at0 + n.weigh) d _, underL_append, List.append_assoc]
end
theorem underW_flat {n : Nd} (h1 : n.high ≤ 100) (h2 : n.weigh ≤ 2000) : underW n = underL (flatOf n) := by
  have h3 : flatOf n = fullN n 1 (-1) 0 := by
    have := flatN_full n [] 1 (-1) (by simp only [List.length_nil]; omega) (by omega)
    simpa [flatOf] using this
  rw [h3]
  unfold underW
  rw [under_full n 1 (-1) 0 0 []]
  rfl
mutual
theorem all_small (H W : Nat) : ∀ n : Nd, n.ok → n.high ≤ H → n.weigh ≤ W → n.All (fun x => x.ok ∧ x.high ≤ H ∧ x.weigh ≤ W)
  | .mk i nm r k s, h1, h2, h3 => ⟨⟨h1, h2, h3⟩, alls_small H W s h1.2.2.2.2.2 (by simp only [Nd.high] at h2; omega) (by simp only [Nd.weigh] at h3; omega)⟩
theorem alls_small (H W : Nat) : ∀ l : List Nd, Nd.oks l → Nd.highs l ≤ H → Nd.weighs l ≤ W → Nd.Alls (fun x => x.ok ∧ x.high ≤ H ∧ x.weigh ≤ W) l
  | [], _, _, _ => trivial
  | n :: ns, h1, h2, h3 => by
    simp only [Nd.highs] at h2
    simp only [Nd.weighs] at h3
    exact ⟨all_small H W n h1.1 (by omega) (by omega), alls_small H W ns h1.2 (by omega) (by omega)⟩
end
theorem found_small {nd n : Nd} {id : Int} (hok : nd.ok) (h : findR nd id = .ok n) : n.ok ∧ n.high ≤ 6 ∧ n.weigh ≤ 40 := by
  unfold findR at h
  cases hv : validF nd with
  | some e => rw [hv] at h; cases h
  | none =>
    rw [hv] at h
    simp only at h
    have hS := schema_of_valid hv
    have hL : flatOf nd = fullN nd 1 (-1) 0 := by
      have h1 := hS.high
      have h2 := hS.small
      have := flatN_full nd [] 1 (-1) (by simp only [List.length_nil]; omega) (by omega)
      simpa [flatOf] using this
    have hA := all_small 6 40 nd hok hS.high hS.small
    rw [← fullN_P nd 1 (-1) 0] at hA
    cases hf : findF nd id with
    | none => rw [hf] at h; cases h
    | some m =>
      rw [hf] at h
      obtain rfl := PJ.ok.inj h
      rw [findF_full rfl] at hf
      obtain ⟨p, hp, rfl⟩ := Option.map_eq_some_iff.1 hf
      exact hA p (List.mem_of_find?_eq_some hp)
theorem flat_valid {nd : Nd} (hv : validF nd = none) : flatOf nd = fullN nd 1 (-1) 0 := by
  have hS := schema_of_valid hv
  have h1 := hS.high
  have h2 := hS.small
  have := flatN_full nd [] 1 (-1) (by simp only [List.length_nil]; omega) (by omega)
  simpa [flatOf] using this

/-- Which of the eight an error of Valid's is. -/
def Er.i : Er → Nat
  | .text => 0 | .bound => 1 | .shape => 2 | .name => 4
structure Named (w : World) (A : Nat → Addr) (E : Er → Value) (N : Value) : Prop where
  sents : Sents w A
  er : ∀ e : Er, E e = sv (A e.i)
  non : N = sv (A 5)
theorem Named.told {w : World} {A : Nat → Addr} {E : Er → Value} {N : Value} (h : Named w A E N) (e : Er) : Told w A (E e) (errNum (some e)) (-1) := by
  rw [h.er e]
  cases e
  · exact Told.sent 1 (by omega)
  · exact Told.sent 0 (by omega)
  · exact Told.sent 2 (by omega)
  · exact Told.sent 4 (by omega)
theorem Named.toldN {w : World} {A : Nat → Addr} {E : Er → Value} {N : Value} (h : Named w A E N) : Told w A N 6 (-1) := by
  rw [h.non]
  exact Told.sent 5 (by omega)
theorem Named.keep0 {w w' : World} {A : Nat → Addr} {E : Er → Value} {N : Value} (h : Named w A E N) (hc : Chg NoB w w') : Named w' A E N := ⟨h.sents.keep0 hc, h.er, h.non⟩
end Go.Proofs.YtfbbfhhhfbibjaaGreatDoor
