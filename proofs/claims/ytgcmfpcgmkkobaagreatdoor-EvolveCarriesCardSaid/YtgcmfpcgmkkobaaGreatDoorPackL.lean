/-
 A datum against a node (right), what a fresh node holds, and a datum moved from one node to another: plain.
 Data under a right node, and what is moved: plain.
 enc.OK and shredcolref1.IsValue: is a value one of a kind?
 shredcollaw4.weight: some number; nothing has changed.
-/
import Derived.Test.YtgcmfpcgmkkobaaGreatDoorPackK
import Derived.Test.YtgcmfpcgmkkobaaGreatDoorPackC
import Derived.Test.YtgcmfpcgmkkobaaGreatDoorPackI
set_option linter.unusedVariables false
set_option linter.unusedSimpArgs false
namespace Go.Proofs.YtgcmfpcgmkkobaaGreatDoor
open Go.RowKit

/-- What data.right tells. -/
inductive Ek where
 | er (e : Er)
 | kind
def ekVal (E : Er → Value) (K : Value) : Option Ek → Value
 | none => .nilIface
 | some (.er e) => E e
 | some .kind => K
def ekNum : Option Ek → Int
 | none => 0
 | some (.er e) => errNum (some e)
 | some .kind => 4
theorem ekNum_pos (e : Ek) : 0 < ekNum (some e) ∧ ekNum (some e) ≤ 5 := by
 cases e with
 | er e => cases e <;> simp [ekNum, errNum]
 | kind => simp [ekNum]

/-- Is a value one of a kind? -/
def okF (kind k n : Int) (s : ByteArray) : Bool :=
 decide (k = kind) && (if kind = 4 then decide (n = 0) && decide (s.size ≤ 100) else (decide (kind ≠ 1) || (decide (0 ≤ n) && decide (n ≤ 1))) && (decide (kind ≠ 2) || (decide (-2147483648 ≤ n) && decide (n ≤ 2147483647))) && decide (s = ⟨#[]⟩))

mutual
def rightF : Dm → Nd → Bool → Option Ek
 | .mk no k v s l f, n, one =>
  if one = false ∧ n.rep = 2 ∧ no = true then (if bareF no k v s l.length f.length true false false false then none else some (.er .shape))
  else if one = false ∧ n.rep ≠ 1 ∧ n.rep ≠ 2 then
   if bareF no k v s l.length f.length false false true false then (if l.length ≤ 40 then rightL l n else some (.er .bound)) else some (.er .shape)
  else if n.kind ≠ 0 then
   if bareF no k v s l.length f.length false true false false then (if okF n.kind k v s then none else some .kind) else some (.er .shape)
  else if bareF no k v s l.length f.length false false false true ∧ f.length = n.sub.length then rightP f n.sub else some (.er .shape)
def rightL : List Dm → Nd → Option Ek
 | [], _ => none
 | d :: ds, n => match rightF d n true with
  | some e => some e
  | none => rightL ds n
def rightP : List Dm → List Nd → Option Ek
 | [], _ => none
 | _ :: _, [] => none
 | d :: ds, n :: ns => match rightF d n false with
  | some e => some e
  | none => rightP ds ns
end

-- What a node that was not there holds.
mutual
def freshF : Nd → Dm
 | .mk _ _ r k s => if r = 2 then .mk true 0 0 ⟨#[]⟩ [] [] else if r = 3 then .mk false 0 0 ⟨#[]⟩ [] [] else if k ≠ 0 then .mk false k 0 ⟨#[]⟩ [] [] else .mk false 0 0 ⟨#[]⟩ [] (freshL s)
def freshL : List Nd → List Dm
 | [] => []
 | n :: ns => freshF n :: freshL ns
end
theorem freshL_eq : ∀ l : List Nd, freshL l = l.map freshF
 | [] => rfl
 | n :: ns => by simp [freshL, freshL_eq ns]

def pickF (ms : List (Int × (Nd → Dm))) (b : Nd) : Dm :=
 match ms.find? (fun m => decide (m.1 = b.id)) with
 | some m => m.2 b
 | none => freshF b
mutual
def moveF : Dm → Nd → Nd → Bool → Dm
 | .mk no _ v s l f, a, b, one =>
  if no = true then .mk true 0 0 ⟨#[]⟩ [] []
  else if a.rep = 3 ∧ one = false then .mk false 0 0 ⟨#[]⟩ (moveL l a b) []
  else if a.kind ≠ 0 then .mk false b.kind v s [] []
  else .mk false 0 0 ⟨#[]⟩ [] (b.sub.map (pickF (movers f a.sub)))
def moveL : List Dm → Nd → Nd → List Dm
 | [], _, _ => []
 | d :: ds, a, b => moveF d a b true :: moveL ds a b
def movers : List Dm → List Nd → List (Int × (Nd → Dm))
 | [], _ => []
 | _ :: _, [] => []
 | d :: ds, a :: az => (a.id, fun b => moveF d a b false) :: movers ds az
end
theorem moveL_eq (a b : Nd) : ∀ l : List Dm, moveL l a b = l.map (fun d => moveF d a b true)
 | [] => rfl
 | n :: ns => by simp [moveL, moveL_eq a b ns]
theorem movers_eq : ∀ (l : List Dm) (ns : List Nd), movers l ns = List.zipWith (fun d a => (a.id, fun b => moveF d a b false)) l ns
 | [], _ => by simp [movers]
 | _ :: _, [] => by simp [movers]
 | d :: ds, a :: az => by simp [movers, movers_eq ds az]
theorem rightL_none {n : Nd} : ∀ {l : List Dm}, rightL l n = none ↔ ∀ d ∈ l, rightF d n true = none
 | [] => by simp [rightL]
 | d :: ds => by
  rw [rightL]
  cases h : rightF d n true with
  | some e => simp [h]
  | none => simp [h, rightL_none (l := ds)]
theorem rightP_none : ∀ {l : List Dm} {ns : List Nd}, l.length = ns.length → (rightP l ns = none ↔ ∀ (i : Nat) (d : Dm) (n : Nd), l[i]? = some d → ns[i]? = some n → rightF d n false = none)
 | [], _, _ => by simp [rightP]
 | _ :: _, [], h => by simp at h
 | d :: ds, n :: ns, h => by
  rw [rightP]
  have ih := rightP_none (l := ds) (ns := ns) (by simpa using h)
  cases h1 : rightF d n false with
  | some e =>
   simp only [reduceCtorEq, false_iff]
   intro h2
   have := h2 0 d n rfl rfl
   rw [h1] at this
   cases this
  | none =>
   simp only [ih]
   constructor
   ·intro h2 i d' n' h3 h4
    cases i with
    | zero => obtain rfl := Option.some.inj h3; obtain rfl := Option.some.inj h4; exact h1
    | succ i => exact h2 i d' n' (by simpa using h3) (by simpa using h4)
   ·intro h2 i d' n' h3 h4
    exact h2 (i + 1) d' n' (by simpa using h3) (by simpa using h4)
/-- One step of a list. -/
theorem rightL_at {n : Nd} {l : List Dm} {j : Nat} {d : Dm} (hd : l[j]? = some d) : rightL (l.drop j) n = match rightF d n true with | some e => some e | none => rightL (l.drop (j + 1)) n := by
 obtain ⟨h1, rfl⟩ := List.getElem?_eq_some_iff.1 hd
 rw [List.drop_eq_getElem_cons h1, rightL]
theorem rightP_at {ns : List Nd} {l : List Dm} {j : Nat} {d : Dm} {n : Nd} (hd : l[j]? = some d) (hn : ns[j]? = some n) : rightP (l.drop j) (ns.drop j) = match rightF d n false with | some e => some e | none => rightP (l.drop (j + 1)) (ns.drop (j + 1)) := by
 obtain ⟨h1, rfl⟩ := List.getElem?_eq_some_iff.1 hd
 obtain ⟨h2, rfl⟩ := List.getElem?_eq_some_iff.1 hn
 rw [List.drop_eq_getElem_cons h1, List.drop_eq_getElem_cons h2, rightP]
end Go.Proofs.YtgcmfpcgmkkobaaGreatDoor
namespace Go.Proofs.YtgcmfpcgmkkobaaGreatDoor
open Go.RowKit

def Shp (n : Nd) : Prop := 1 ≤ n.rep ∧ n.rep ≤ 3 ∧ 0 ≤ n.kind ∧ n.kind ≤ 5 ∧ (n.kind ≠ 0 → n.sub = [])
theorem alls_at {P : Nd → Prop} : ∀ {l : List Nd}, Nd.Alls P l → ∀ c ∈ l, c.All P
 | [], _, c, h => by cases h
 | x :: xs, h, c, hc => by
  rcases List.mem_cons.1 hc with rfl | hc
  ·exact h.1
  ·exact alls_at h.2 c hc
theorem Nd.All.here {P : Nd → Prop} {n : Nd} (h : n.All P) : P n := by obtain ⟨i, nm, r, k, s⟩ := n; exact h.1
theorem Nd.All.subs {P : Nd → Prop} {n : Nd} (h : n.All P) : Nd.Alls P n.sub := by obtain ⟨i, nm, r, k, s⟩ := n; exact h.2
theorem ids_sub {c : Nd} : ∀ {l : List Nd}, c ∈ l → (idsN c).Sublist (idsL l)
 | [], h => by cases h
 | x :: xs, h => by
  rcases List.mem_cons.1 h with rfl | h
  ·exact List.sublist_append_left _ _
  ·exact (ids_sub h).trans (List.sublist_append_right _ _)
theorem ids_in (c : Nd) : (idsL c.sub).Sublist (idsN c) := by obtain ⟨i, nm, r, k, s⟩ := c; exact List.sublist_cons_self _ _
theorem ids_tops : ∀ l : List Nd, (l.map Nd.id).Sublist (idsL l)
 | [] => List.Sublist.refl _
 | .mk i nm r k s :: xs => by
  show (i :: xs.map Nd.id).Sublist (i :: (idsL s ++ idsL xs))
  exact ((ids_tops xs).trans (List.sublist_append_right _ _)).cons_cons i

/-- A node of a right schema. -/
structure FitN (n : Nd) : Prop where
 shape : n.All Shp
 ids : (idsL n.sub).Nodup
 small : n.weigh ≤ 40
 ok : n.ok
theorem FitN.sub {n c : Nd} (h : FitN n) (hc : c ∈ n.sub) : FitN c where
 shape := alls_at h.shape.subs c hc
 ids := h.ids.sublist ((ids_in c).trans (ids_sub hc))
 small := by
  have h1 := h.small
  have h2 := Nd.weigh_mem hc
  obtain ⟨i, nm, r, k, s⟩ := n
  simp only [Nd.weigh, Nd.sub] at h1 h2
  omega
 ok := by
  obtain ⟨i, nm, r, k, s⟩ := n
  exact Nd.oks_mem h.ok.2.2.2.2.2 c hc
theorem len_weighs : ∀ l : List Nd, l.length ≤ Nd.weighs l
 | [] => Nat.le_refl _
 | .mk i nm r k s :: xs => by
  have := len_weighs xs
  simp only [List.length_cons, Nd.weighs, Nd.weigh]
  omega
theorem FitN.len {n : Nd} (h : FitN n) : n.sub.length ≤ 39 := by
 have h1 := h.small
 obtain ⟨i, nm, r, k, s⟩ := n
 have := len_weighs s
 simp only [Nd.weigh] at h1
 show s.length ≤ 39
 omega
theorem FitN.apart {n : Nd} (h : FitN n) : (n.sub.map Nd.id).Nodup := h.ids.sublist (ids_tops _)
theorem FitN.rep {n : Nd} (h : FitN n) : 1 ≤ n.rep ∧ n.rep ≤ 3 := ⟨h.shape.here.1, h.shape.here.2.1⟩
theorem FitN.kind {n : Nd} (h : FitN n) : 0 ≤ n.kind ∧ n.kind ≤ 5 := ⟨h.shape.here.2.2.1, h.shape.here.2.2.2.1⟩
theorem FitN.leaf {n : Nd} (h : FitN n) (hk : n.kind ≠ 0) : n.sub = [] := h.shape.here.2.2.2.2 hk
theorem fitN_of {n : Nd} (hv : validF n = none) (hok : n.ok) : FitN n := by
 have hS := schema_of_valid hv
 have hF := fit_of hv
 refine ⟨?_, hF.nodup, hS.small, hok⟩
 rw [hS.root]
 refine ⟨⟨by simp [Nd.rep], by simp [Nd.rep], by simp [Nd.kind], by simp [Nd.kind], fun h => absurd rfl h⟩, ?_⟩
 exact Nd.Alls.imp (fun x hx => ⟨hx.1, hx.2.1, hx.2.2.1, hx.2.2.2.1, hx.2.2.2.2.1⟩) _ hS.right

theorem right_list {no : Bool} {k v : Int} {s : ByteArray} {l f : List Dm} {n : Nd} {one : Bool} (h : rightF (.mk no k v s l f) n one = none) (hn : no = false) (h3 : n.rep = 3) (h1 : one = false) :
  l.length ≤ 40 ∧ rightL l n = none := by
 unfold rightF at h
 rw [if_neg (by simp [hn]), if_pos (by rw [h3]; exact ⟨h1, by decide, by decide⟩)] at h
 split at h
 ·split at h
  ·rename_i h5; exact ⟨h5, h⟩
  ·cases h
 ·cases h
theorem right_group {no : Bool} {k v : Int} {s : ByteArray} {l f : List Dm} {n : Nd} {one : Bool} (h : rightF (.mk no k v s l f) n one = none) (hn : no = false) (hr : 1 ≤ n.rep ∧ n.rep ≤ 3) (hl : ¬ (n.rep = 3 ∧ one = false)) (hk : n.kind = 0) :
  f.length = n.sub.length ∧ rightP f n.sub = none := by
 unfold rightF at h
 rw [if_neg (by simp [hn]), if_neg (by rintro ⟨h1, h2, h3⟩; exact hl ⟨by omega, h1⟩), if_neg (by simp [hk])] at h
 split at h
 ·rename_i h5; exact ⟨h5.2, h⟩
 ·cases h

theorem pick_none {b : Nd} {M : List (Int × (Nd → Dm))} (h : ∀ m ∈ M, m.1 ≠ b.id) : pickF M b = freshF b := by
 unfold pickF
 rw [List.find?_eq_none.2 (fun m hm => by simpa using h m hm)]
theorem pick_first {b : Nd} : ∀ {M : List (Int × (Nd → Dm))} {k : Nat} {m : Int × (Nd → Dm)}, M[k]? = some m → m.1 = b.id → (∀ (j : Nat) m', j < k → M[j]? = some m' → m'.1 ≠ b.id) → pickF M b = m.2 b
 | [], k, m, h, _, _ => by simp at h
 | x :: xs, 0, m, h, h1, _ => by
  obtain rfl := Option.some.inj h
  unfold pickF
  rw [List.find?_cons_of_pos (by simpa using h1)]
 | x :: xs, k + 1, m, h, h1, h2 => by
  have h3 := h2 0 x (by omega) rfl
  have ih := pick_first (M := xs) (k := k) (m := m) (by simpa using h) h1 (fun j m' hj hm => h2 (j + 1) m' (by omega) (by simpa using hm))
  unfold pickF at ih ⊢
  rw [List.find?_cons_of_neg (by simpa using h3)]
  exact ih
theorem pick_no {b : Nd} {M : List (Int × (Nd → Dm))} {i : Nat} {m : Int × (Nd → Dm)} (h : M[i]? = some m) (h1 : m.1 ≠ b.id) : pickF (M.take (i + 1)) b = pickF (M.take i) b := by
 unfold pickF
 rw [List.take_add_one, h, List.find?_append]
 cases (M.take i).find? (fun m => decide (m.1 = b.id)) with
 | some x => rfl
 | none => simp [h1]
theorem mover_at {f : List Dm} {az : List Nd} {i : Nat} {d : Dm} {a : Nd} (hd : f[i]? = some d) (ha : az[i]? = some a) : (movers f az)[i]? = some (a.id, fun b => moveF d a b false) := by
 rw [movers_eq, List.getElem?_zipWith, hd, ha]
theorem mover_id {f : List Dm} {az : List Nd} {i : Nat} {m : Int × (Nd → Dm)} (h : (movers f az)[i]? = some m) : ∃ a, az[i]? = some a ∧ m.1 = a.id := by
 rw [movers_eq, List.getElem?_zipWith] at h
 split at h
 ·rename_i d a h1 h2
  obtain rfl := Option.some.inj h
  exact ⟨a, h2, rfl⟩
 ·cases h
theorem movers_len {f : List Dm} {az : List Nd} (h : f.length = az.length) : (movers f az).length = az.length := by rw [movers_eq, List.length_zipWith, h, Nat.min_self]
theorem pick_at {f : List Dm} {az : List Nd} {k : Nat} {d : Dm} {a b : Nd} (hd : f[k]? = some d) (ha : az[k]? = some a) (h1 : a.id = b.id) (h2 : ∀ (j : Nat) a', j < k → az[j]? = some a' → a'.id ≠ b.id) : pickF (movers f az) b = moveF d a b false :=
 pick_first (mover_at hd ha) h1 (fun j m' hj hm => by obtain ⟨a', h3, h4⟩ := mover_id hm; rw [h4]; exact h2 j a' hj h3)
theorem pick_un {f : List Dm} {az : List Nd} {b : Nd} (h : ∀ a ∈ az, a.id ≠ b.id) : pickF (movers f az) b = freshF b := by
 refine pick_none fun m hm => ?_
 obtain ⟨i, hi⟩ := List.mem_iff_getElem?.1 hm
 obtain ⟨a, h3, h4⟩ := mover_id hi
 rw [h4]
 exact h a (List.mem_of_getElem? h3)
theorem pick_yes {f : List Dm} {az : List Nd} {k : Nat} {d : Dm} {a b : Nd} (hn : (az.map Nd.id).Nodup) (hd : f[k]? = some d) (ha : az[k]? = some a) (h1 : a.id = b.id) : pickF ((movers f az).take (k + 1)) b = moveF d a b false := by
 refine pick_first (M := (movers f az).take (k + 1)) (k := k) (m := (a.id, fun b => moveF d a b false)) (by rw [List.getElem?_take_of_lt (by omega)]; exact mover_at hd ha) h1 fun j m' hj hm => ?_
 rw [List.getElem?_take_of_lt (by omega)] at hm
 obtain ⟨a', h3, h4⟩ := mover_id hm
 rw [h4, ← h1]
 intro e
 have h5 : (az.map Nd.id)[j]? = some a.id := by rw [List.getElem?_map, h3]; simp [e]
 have h6 : (az.map Nd.id)[k]? = some a.id := by rw [List.getElem?_map, ha]; rfl
 have := (List.getElem?_inj (List.getElem?_eq_some_iff.1 h5).1 hn).1 (h5.trans h6.symm)
 omega
end Go.Proofs.YtgcmfpcgmkkobaaGreatDoor
namespace Go.Proofs.YtgcmfpcgmkkobaaGreatDoor
open Go.RowKit

set_option maxHeartbeats 1000000 in
theorem encOK_any (kind k n : Int) (s : ByteArray) (w : World) (hk0 : 1 ≤ kind ∧ kind ≤ 5) (hn0 : I64 n) (hs0 : s.size ≤ reach) :
  Calls Tryz.prog 76 #[.int .i64 kind, .agg #[.int .i64 k, .int .i64 n, .string s]] w (RetV (.bool (okF kind k n s)) w) := by
 obtain ⟨hn1, hn2⟩ := hn0
 obtain ⟨hk1, hk2⟩ := hk0
 unfold reach at hs0
 go_enter Tryz.func76, Tryz.ntmps76
 by_cases hk : k = kind
 case neg =>
  have hkb : (k == kind) = false := by simpa using hk
  go_wp2_with fail
  go_ret
  refine ⟨?_, (Chg.refl _ _).alloc _⟩
  first | (simp [okF, *]; done) | (simp [okF, *]; intros; omega)
 subst hk
 by_cases h4 : k = 4
 ·subst h4
  by_cases hn : n = 0
  ·subst hn
   by_cases hs : (s.size : Int) ≤ 100
   ·have hs' : s.size ≤ 100 := by omega
    go_wp2_with fail
    go_ret
    refine ⟨?_, (Chg.refl _ _).alloc _⟩
    first | (simp [okF, *]; done) | (simp [okF, *]; intros; omega)
   ·have hs' : ¬ s.size ≤ 100 := by omega
    go_wp2_with fail
    go_ret
    refine ⟨?_, (Chg.refl _ _).alloc _⟩
    first | (simp [okF, *]; done) | (simp [okF, *]; intros; omega)
  ·go_wp2_with fail
   go_ret
   refine ⟨?_, (Chg.refl _ _).alloc _⟩
   first | (simp [okF, *]; done) | (simp [okF, *]; intros; omega)
 by_cases h1 : k = 1
 ·subst h1
  by_cases hn : 0 ≤ n ∧ n ≤ 1
  ·obtain ⟨a1, a2⟩ := hn
   by_cases hs : s = ⟨#[]⟩
   ·subst hs
    go_wp2_with fail
    go_ret
    refine ⟨?_, (Chg.refl _ _).alloc _⟩
    first | (simp [okF, *]; done) | (simp [okF, *]; intros; omega)
   ·have hs2 := bytes_ne hs
    go_wp2_with fail
    go_ret
    refine ⟨?_, (Chg.refl _ _).alloc _⟩
    first | (simp [okF, *]; done) | (simp [okF, *]; intros; omega)
  ·go_wp2_with fail
   go_ret
   refine ⟨?_, (Chg.refl _ _).alloc _⟩
   first | (simp [okF, *]; done) | (simp [okF, *]; intros; omega)
 by_cases h2 : k = 2
 ·subst h2
  by_cases hn : -2147483648 ≤ n ∧ n ≤ 2147483647
  ·obtain ⟨a1, a2⟩ := hn
   by_cases hs : s = ⟨#[]⟩
   ·subst hs
    go_wp2_with fail
    go_ret
    refine ⟨?_, (Chg.refl _ _).alloc _⟩
    first | (simp [okF, *]; done) | (simp [okF, *]; intros; omega)
   ·have hs2 := bytes_ne hs
    go_wp2_with fail
    go_ret
    refine ⟨?_, (Chg.refl _ _).alloc _⟩
    first | (simp [okF, *]; done) | (simp [okF, *]; intros; omega)
  ·have hw : n ≠ wrap64 (wrap32 n) := by unfold wrap64 wrap32; omega
   have hwb : (n != wrap64 (wrap32 n)) = true := by simpa using hw
   clear hw
   go_wp2_with fail
   go_ret
   refine ⟨?_, (Chg.refl _ _).alloc _⟩
   first | (simp [okF, *]; done) | (simp [okF, *]; intros; omega)
 have h4b : (k == 4) = false := by simpa using h4
 have h1b : (k == 1) = false := by simpa using h1
 have h2b : (k == 2) = false := by simpa using h2
 by_cases hs : s = ⟨#[]⟩
 ·subst hs
  go_wp2_with fail
  go_ret
  refine ⟨?_, (Chg.refl _ _).alloc _⟩
  first | (simp [okF, *]; done) | (simp [okF, *]; intros; omega)
 ·have hs2 := bytes_ne hs
  go_wp2_with fail
  go_ret
  refine ⟨?_, (Chg.refl _ _).alloc _⟩
  first | (simp [okF, *]; done) | (simp [okF, *]; intros; omega)
set_option maxHeartbeats 1000000 in
theorem isValue_any (kind k n : Int) (s : ByteArray) (w : World) (hk0 : 1 ≤ kind ∧ kind ≤ 5) (hn0 : I64 n) (hs0 : s.size ≤ reach) :
  Calls Tryz.prog 86 #[.int .i64 kind, .agg #[.int .i64 k, .int .i64 n, .string s]] w (RetV (.bool (okF kind k n s)) w) := by
 obtain ⟨hn1, hn2⟩ := hn0
 obtain ⟨hk1, hk2⟩ := hk0
 have hk1' : ¬ kind < 1 := by omega
 have hk2' : ¬ 5 < kind := by omega
 unfold reach at hs0
 go_enter Tryz.func86, Tryz.ntmps86
 by_cases hk : k = kind
 case neg =>
  have hkb : (k == kind) = false := by simpa using hk
  go_wp2_with fail
  go_ret
  refine ⟨?_, (Chg.refl _ _).alloc _⟩
  first | (simp [okF, *]; done) | (simp [okF, *]; intros; omega)
 subst hk
 by_cases h4 : k = 4
 ·subst h4
  by_cases hn : n = 0
  ·subst hn
   by_cases hs : (s.size : Int) ≤ 100
   ·have hs' : s.size ≤ 100 := by omega
    go_wp2_with fail
    go_ret
    refine ⟨?_, (Chg.refl _ _).alloc _⟩
    first | (simp [okF, *]; done) | (simp [okF, *]; intros; omega)
   ·have hs' : ¬ s.size ≤ 100 := by omega
    go_wp2_with fail
    go_ret
    refine ⟨?_, (Chg.refl _ _).alloc _⟩
    first | (simp [okF, *]; done) | (simp [okF, *]; intros; omega)
  ·go_wp2_with fail
   go_ret
   refine ⟨?_, (Chg.refl _ _).alloc _⟩
   first | (simp [okF, *]; done) | (simp [okF, *]; intros; omega)
 by_cases h1 : k = 1
 ·subst h1
  by_cases ha : n < 0
  ·have ha' : ¬ 0 ≤ n := by omega
   go_wp2_with fail
   go_ret
   refine ⟨?_, (Chg.refl _ _).alloc _⟩
   first | (simp [okF, *]; done) | (simp [okF, *]; intros; omega)
  by_cases hb : 1 < n
  ·have hb' : ¬ n ≤ 1 := by omega
   go_wp2_with fail
   go_ret
   refine ⟨?_, (Chg.refl _ _).alloc _⟩
   first | (simp [okF, *]; done) | (simp [okF, *]; intros; omega)
  have ha' : 0 ≤ n := by omega
  have hb' : n ≤ 1 := by omega
  by_cases hs : s = ⟨#[]⟩
  ·subst hs
   go_wp2_with fail
   go_ret
   refine ⟨?_, (Chg.refl _ _).alloc _⟩
   first | (simp [okF, *]; done) | (simp [okF, *]; intros; omega)
  ·have hs2 := bytes_ne hs
   go_wp2_with fail
   go_ret
   refine ⟨?_, (Chg.refl _ _).alloc _⟩
   first | (simp [okF, *]; done) | (simp [okF, *]; intros; omega)
 by_cases h2 : k = 2
 ·subst h2
  by_cases ha : n < -2147483648
  ·have ha' : ¬ -2147483648 ≤ n := by omega
   go_wp2_with fail
   go_ret
   refine ⟨?_, (Chg.refl _ _).alloc _⟩
   first | (simp [okF, *]; done) | (simp [okF, *]; intros; omega)
  by_cases hb : 2147483647 < n
  ·have hb' : ¬ n ≤ 2147483647 := by omega
   go_wp2_with fail
   go_ret
   refine ⟨?_, (Chg.refl _ _).alloc _⟩
   first | (simp [okF, *]; done) | (simp [okF, *]; intros; omega)
  have ha' : -2147483648 ≤ n := by omega
  have hb' : n ≤ 2147483647 := by omega
  by_cases hs : s = ⟨#[]⟩
  ·subst hs
   go_wp2_with fail
   go_ret
   refine ⟨?_, (Chg.refl _ _).alloc _⟩
   first | (simp [okF, *]; done) | (simp [okF, *]; intros; omega)
  ·have hs2 := bytes_ne hs
   go_wp2_with fail
   go_ret
   refine ⟨?_, (Chg.refl _ _).alloc _⟩
   first | (simp [okF, *]; done) | (simp [okF, *]; intros; omega)
 have h4b : (k == 4) = false := by simpa using h4
 have h1b : (k == 1) = false := by simpa using h1
 have h2b : (k == 2) = false := by simpa using h2
 by_cases hs : s = ⟨#[]⟩
 ·subst hs
  go_wp2_with fail
  go_ret
  refine ⟨?_, (Chg.refl _ _).alloc _⟩
  first | (simp [okF, *]; done) | (simp [okF, *]; intros; omega)
 ·have hs2 := bytes_ne hs
  go_wp2_with fail
  go_ret
  refine ⟨?_, (Chg.refl _ _).alloc _⟩
  first | (simp [okF, *]; done) | (simp [okF, *]; intros; omega)
end Go.Proofs.YtgcmfpcgmkkobaaGreatDoor
namespace Go.Proofs.YtgcmfpcgmkkobaaGreatDoor
open Go.RowKit

/-- Some number. -/
def RetSome (w : World) (e : Ending) (w' : World) : Prop := ∃ z, e = .returned (.int .i64 z) ∧ Chg NoB w w'
def WeightRel (w : World) (l : List Dm) (vn vi : Value) (wr : World) : Prop := ∃ j z, j ≤ l.length ∧ vi = .int .i64 (j : Nat) ∧ vn = .int .i64 z ∧ Chg NoB w wr

set_option maxHeartbeats 1000000 in
theorem weight4_any : ∀ (m : Nat) (d : Dm) (w : World) (S : Nat → Prop) (cs : List Value), d.weigh ≤ m → Reads w S d.dt cs →
  Calls Tryz.prog 25 #[.agg cs.toArray] w (RetSome w) := by
 intro m
 induction m with
 | zero => intro d w S cs hm; cases d; simp [Dm.weigh] at hm
 | succ m ih =>
  intro d w S cs hm hr
  obtain ⟨b, k, n, s, l, f⟩ := d
  obtain ⟨vl, vf, rfl, hsl, hsf⟩ := reads_dm.1 hr
  simp only [Dm.weigh] at hm
  have Hl := Lib.hid (show ∀ d ∈ l, ∀ (w : World) (S : Nat → Prop) (cs : List Value), Reads w S d.dt cs → Calls Tryz.prog 25 #[.agg cs.toArray] w (RetSome w) from fun d hd w S cs hr => ih d w S cs (by have := Dm.weigh_mem hd; omega) hr)
  have Hf := Lib.hid (show ∀ d ∈ f, ∀ (w : World) (S : Nat → Prop) (cs : List Value), Reads w S d.dt cs → Calls Tryz.prog 25 #[.agg cs.toArray] w (RetSome w) from fun d hd w S cs hr => ih d w S cs (by have := Dm.weigh_mem hd; omega) hr)
  clear ih hm hr
  obtain ⟨al, cl, rfl, hll, hlc, hel⟩ := reads_data hsl
  obtain ⟨af, cf, rfl, hfl, hfc, hef⟩ := reads_data hsf
  clear hsl hsf
  unfold maxLen at hlc hfc
  go_enter Tryz.func25, Tryz.ntmps25
  go_wp2_with fail
  generalize hw1 : World.alloc _ _ = w1
  have hc1 : Chg NoB w w1 := by
   rw [← hw1]
   repeat (first | exact Chg.refl _ _ | apply Chg.alloc | apply Chg.drew)
  have hb1 : Blk w1 (w.heap.size) (dmCells b k n s (.slice al l.length cl) (.slice af f.length cf)) 43 := by
   rw [← hw1]
   repeat (first | exact Blk.newAt (by first | rfl | (simp; done) | (simp; omega)) | apply Blk.alloc | apply Blk.drew)
  clear hw1
  go_loopw [3, 4] (fun vn vi wr => WeightRel w1 l vn vi wr) (fun _ vi _ => l.length - (intOf vi).toNat)
  case atStart => exact ⟨0, _, Nat.zero_le _, rfl, rfl, Chg.refl _ _⟩
  case round =>
   obtain ⟨j, z, hj, rfl, rfl, hc⟩ := hrel
   have hb := hb1.keep hc NoB.elim
   have hbk := hb
   have x0 : wr.cell? ⟨w.heap.size, 0, none⟩ = some (.bool b) := hb.cell 0
   have x1 : wr.cell? ⟨w.heap.size, 1, none⟩ = some (.int .i64 (k)) := hb.cell 1
   have x2 : wr.cell? ⟨w.heap.size, 2, none⟩ = some (.int .i64 (n)) := hb.cell 2
   have x3 : wr.cell? ⟨w.heap.size, 3, none⟩ = some (.string s) := hb.cell 3
   have x4 : wr.cell? ⟨w.heap.size, 4, none⟩ = some (.slice al l.length cl) := hb.cell 4
   have x5 : wr.cell? ⟨w.heap.size, 5, none⟩ = some (.slice af f.length cf) := hb.cell 5
   by_cases hlt : j < l.length
   ·have hltI : (j : Int) < (l.length : Int) := by omega
    obtain ⟨b', off, rfl, hSb, hbw, hE⟩ := hel (by omega)
    obtain ⟨ecs, hl6, hcells, hre⟩ := hE.get j l[j].dt (by simp [hlt])
    have hcall := Hl.out _ (List.getElem_mem hlt)
    have Hc1 := Lib.hid hcall
    clear hcall
    generalize l[j] = dj at hre Hc1
    obtain ⟨b1, k1, n1, s1, l1, f1⟩ := dj
    obtain ⟨vl1, vf1, rfl, _, _⟩ := reads_dm.1 hre
    have hcr := hc1.tr hc
    have ef : ∀ t c, [Value.bool b1, .int .i64 k1, .int .i64 n1, .string s1, vl1, vf1][t]? = some c → wr.cell? ⟨b', off + j * 6 + t, none⟩ = some c := fun t c ht => (hcr.cell (p := ⟨b', off + j * 6 + t, none⟩) hbw (fun e => e)).trans (hcells t c ht)
    have e0 : wr.cell? ⟨b', off + j * 6, none⟩ = some (.bool b1) := ef 0 _ rfl
    have e1 : wr.cell? ⟨b', off + j * 6 + 1, none⟩ = some (.int .i64 k1) := ef 1 _ rfl
    have e2 : wr.cell? ⟨b', off + j * 6 + 2, none⟩ = some (.int .i64 n1) := ef 2 _ rfl
    have e3 : wr.cell? ⟨b', off + j * 6 + 3, none⟩ = some (.string s1) := ef 3 _ rfl
    have e4 : wr.cell? ⟨b', off + j * 6 + 4, none⟩ = some vl1 := ef 4 _ rfl
    have e5 : wr.cell? ⟨b', off + j * 6 + 5, none⟩ = some vf1 := ef 5 _ rfl
    clear ef
    go_wp2_with fail
    refine (Hc1.out wr S _ (hre.chg0 hcr)).mono ?_
    rintro en w2 ⟨z2, rfl, hc2⟩
    go_wp2_with fail
    go_roundw
    case rel => exact ⟨j + 1, _, hlt, by go_num, rfl, hc.tr hc2⟩
    case measure => simp [intOf]; omega
   ·have hjl : j = l.length := by omega
    subst hjl
    have hltI : ¬ ((l.length : Int) < (l.length : Int)) := by omega
    clear hb hb1
    have hcr := hc1.tr hc
    have hbr := hbk
    go_wp2_with fail
    obtain ⟨wa, hwa⟩ : ∃ x, x = wr := ⟨_, rfl⟩
    subst hwa
    go_loopw [3, 5] (fun vn vi wq => WeightRel wa f vn vi wq) (fun _ vi _ => f.length - (intOf vi).toNat)
    case atStart => exact ⟨0, _, Nat.zero_le _, rfl, rfl, Chg.refl _ _⟩
    case round =>
     obtain ⟨j, z', hj', rfl, rfl, hc'⟩ := hrel
     have hb := hbr.keep hc' NoB.elim
     clear x0 x1 x2 x3 x4 x5
     have x0 : wr.cell? ⟨w.heap.size, 0, none⟩ = some (.bool b) := hb.cell 0
     have x1 : wr.cell? ⟨w.heap.size, 1, none⟩ = some (.int .i64 (k)) := hb.cell 1
     have x2 : wr.cell? ⟨w.heap.size, 2, none⟩ = some (.int .i64 (n)) := hb.cell 2
     have x3 : wr.cell? ⟨w.heap.size, 3, none⟩ = some (.string s) := hb.cell 3
     have x4 : wr.cell? ⟨w.heap.size, 4, none⟩ = some (.slice al l.length cl) := hb.cell 4
     have x5 : wr.cell? ⟨w.heap.size, 5, none⟩ = some (.slice af f.length cf) := hb.cell 5
     have hcw := hcr.tr hc'
     by_cases hlt : j < f.length
     ·have hltI : (j : Int) < (f.length : Int) := by omega
      obtain ⟨b', off, rfl, hSb, hbw, hE⟩ := hef (by omega)
      obtain ⟨ecs, hl6, hcells, hre⟩ := hE.get j f[j].dt (by simp [hlt])
      have hcall := Hf.out _ (List.getElem_mem hlt)
      have Hc1 := Lib.hid hcall
      clear hcall
      generalize f[j] = dj at hre Hc1
      obtain ⟨b1, k1, n1, s1, l1, f1⟩ := dj
      obtain ⟨vl1, vf1, rfl, _, _⟩ := reads_dm.1 hre
      have ef : ∀ t c, [Value.bool b1, .int .i64 k1, .int .i64 n1, .string s1, vl1, vf1][t]? = some c → wr.cell? ⟨b', off + j * 6 + t, none⟩ = some c := fun t c ht => (hcw.cell (p := ⟨b', off + j * 6 + t, none⟩) hbw (fun e => e)).trans (hcells t c ht)
      have e0 : wr.cell? ⟨b', off + j * 6, none⟩ = some (.bool b1) := ef 0 _ rfl
      have e1 : wr.cell? ⟨b', off + j * 6 + 1, none⟩ = some (.int .i64 k1) := ef 1 _ rfl
      have e2 : wr.cell? ⟨b', off + j * 6 + 2, none⟩ = some (.int .i64 n1) := ef 2 _ rfl
      have e3 : wr.cell? ⟨b', off + j * 6 + 3, none⟩ = some (.string s1) := ef 3 _ rfl
      have e4 : wr.cell? ⟨b', off + j * 6 + 4, none⟩ = some vl1 := ef 4 _ rfl
      have e5 : wr.cell? ⟨b', off + j * 6 + 5, none⟩ = some vf1 := ef 5 _ rfl
      clear ef
      go_wp2_with fail
      refine (Hc1.out wr S _ (hre.chg0 hcw)).mono ?_
      rintro en w2 ⟨z2, rfl, hc2⟩
      go_wp2_with fail
      go_roundw
      case rel => exact ⟨j + 1, _, hlt, by go_num, rfl, hc'.tr hc2⟩
      case measure => simp [intOf]; omega
     ·have hjl : j = f.length := by omega
      subst hjl
      have hltI : ¬ ((f.length : Int) < (f.length : Int)) := by omega
      go_wp2_with fail
      go_ret
      exact ⟨_, rfl, hcw⟩
end Go.Proofs.YtgcmfpcgmkkobaaGreatDoor
