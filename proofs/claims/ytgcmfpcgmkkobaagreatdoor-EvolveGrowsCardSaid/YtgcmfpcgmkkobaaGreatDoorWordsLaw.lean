/-
  A datum against a node (right), what a fresh node holds, and a datum moved from one node to another: plain.; Data under a right node, and what is moved: plain.; evolve.at: the node with an ID, and the one around it, by their places.; A tree edited at the node with an ID: the plain law behind evolve.at.; copy, clear and append within a block that is known whole, for elements of any number of cells.
-/
import Derived.Test.YtgcmfpcgmkkobaaGreatDoorBare
import Derived.Test.YtgcmfpcgmkkobaaGreatDoorValid2
import Derived.Test.YtgcmfpcgmkkobaaGreatDoorRegion2
import Derived.Test.YtgcmfpcgmkkobaaGreatDoorTree
import Derived.Test.YtgcmfpcgmkkobaaGreatDoorTreeMore
import Derived.Laws.CopyRow
import Derived.Lib.SliceRun
import Derived.ArgAppend
import Derived.Maps.Own
import Derived.Maps.OwnSet
import Derived.Carry
import Derived.Test.YtgcmfpcgmkkobaaGreatDoorRead
import Derived.Lib.AtoiTie
set_option linter.unusedVariables false
set_option maxHeartbeats 20000000
set_option maxRecDepth 100000
set_option linter.unusedSimpArgs false
namespace Go.Proofs.YtgcmfpcgmkkobaaGreatDoor
open Go.RowKit
inductive Ek where
 | er (e : Er)
 | kind
def ekVal (E : Er → Value) (K : Value) : Option Ek → Value
 | none => .nilIface
 | some (.er e) => E e
 | some .kind => K
def okF (kind k n : Int) (s : ByteArray) : Bool :=
 decide (k = kind) && (if kind = 4 then decide (n = 0) && decide (s.size ≤ 100) else (decide (kind ≠ 1) || (decide (0 ≤ n) && decide (n ≤ 1))) && (decide (kind ≠ 2) || (decide (-2147483648 ≤ n) && decide (n ≤ 2147483647))) && decide (s = ⟨#[]⟩))
mutual
def rightF : Dm → Nd → Bool → Option Ek
 | .mk no k v s l f, n, one =>
  if one = false ∧ n.rep = 2 ∧ no = true then (if bareF no k v s l.length f.length true false false false then none else some (.er .shape))
  else if one = false ∧ n.rep ≠ 1 ∧ n.rep ≠ 2 then
   if bareF no k v s l.length f.length false false true false then (if l.length ≤ 40 then rightL l n else some (.er .bound)) else some (.er .shape)
  else if n.kind ≠ 0 then
   if bareF no k v s l.length f.length false true false false then (if okF n.kind k v s then none else some .kind) else some (.er .shape)
  else if bareF no k v s l.length f.length false false false true ∧ f.length = n.sub.length then rightP f n.sub else some (.er .shape)
def rightL : List Dm → Nd → Option Ek
 | [], _ => none
 | d :: ds, n => match rightF d n true with
  | some e => some e
  | none => rightL ds n
def rightP : List Dm → List Nd → Option Ek
 | [], _ => none
 | _ :: _, [] => none
 | d :: ds, n :: ns => match rightF d n false with
  | some e => some e
  | none => rightP ds ns
end
mutual
def freshF : Nd → Dm
 | .mk _ _ r k s => if r = 2 then .mk true 0 0 ⟨#[]⟩ [] [] else if r = 3 then .mk false 0 0 ⟨#[]⟩ [] [] else if k ≠ 0 then .mk false k 0 ⟨#[]⟩ [] [] else .mk false 0 0 ⟨#[]⟩ [] (freshL s)
def freshL : List Nd → List Dm
 | [] => []
 | n :: ns => freshF n :: freshL ns
end
theorem freshL_eq : ∀ l : List Nd, freshL l = l.map freshF
 | [] => rfl
 | n :: ns => by simp [freshL, freshL_eq ns]
def pickF (ms : List (Int × (Nd → Dm))) (b : Nd) : Dm :=
 match ms.find? (fun m => decide (m.1 = b.id)) with
 | some m => m.2 b
 | none => freshF b
mutual
def moveF : Dm → Nd → Nd → Bool → Dm
 | .mk no _ v s l f, a, b, one =>
  if no = true then .mk true 0 0 ⟨#[]⟩ [] []
  else if a.rep = 3 ∧ one = false then .mk false 0 0 ⟨#[]⟩ (moveL l a b) []
  else if a.kind ≠ 0 then .mk false b.kind v s [] []
  else .mk false 0 0 ⟨#[]⟩ [] (b.sub.map (pickF (movers f a.sub)))
def moveL : List Dm → Nd → Nd → List Dm
 | [], _, _ => []
 | d :: ds, a, b => moveF d a b true :: moveL ds a b
def movers : List Dm → List Nd → List (Int × (Nd → Dm))
 | [], _ => []
 | _ :: _, [] => []
 | d :: ds, a :: az => (a.id, fun b => moveF d a b false) :: movers ds az
end
theorem moveL_eq (a b : Nd) : ∀ l : List Dm, moveL l a b = l.map (fun d => moveF d a b true)
 | [] => rfl
 | n :: ns => by simp [moveL, moveL_eq a b ns]
theorem movers_eq : ∀ (l : List Dm) (ns : List Nd), movers l ns = List.zipWith (fun d a => (a.id, fun b => moveF d a b false)) l ns
 | [], _ => by simp [movers]
 | _ :: _, [] => by simp [movers]
 | d :: ds, a :: az => by simp [movers, movers_eq ds az]
theorem rightL_none {n : Nd} : ∀ {l : List Dm}, rightL l n = none ↔ ∀ d ∈ l, rightF d n true = none
 | [] => by simp [rightL]
 | d :: ds => by
  rw [rightL]
  cases h : rightF d n true with
  | some e => simp [h]
  | none => simp [h, rightL_none (l := ds)]
theorem rightP_none : ∀ {l : List Dm} {ns : List Nd}, l.length = ns.length → (rightP l ns = none ↔ ∀ (i : Nat) (d : Dm) (n : Nd), l[i]? = some d → ns[i]? = some n → rightF d n false = none)
 | [], _, _ => by simp [rightP]
 | _ :: _, [], h => by simp at h
 | d :: ds, n :: ns, h => by
  rw [rightP]
  have ih := rightP_none (l := ds) (ns := ns) (by simpa using h)
  cases h1 : rightF d n false with
  | some e =>
   simp only [reduceCtorEq, false_iff]
   intro h2
   have := h2 0 d n rfl rfl
   rw [h1] at this
   cases this
  | none =>
   simp only [ih]
   constructor
   ·intro h2 i d' n' h3 h4
    cases i with
    | zero => obtain rfl := Option.some.inj h3; obtain rfl := Option.some.inj h4; exact h1
    | succ i => exact h2 i d' n' (by simpa using h3) (by simpa using h4)
   ·intro h2 i d' n' h3 h4
    exact h2 (i + 1) d' n' (by simpa using h3) (by simpa using h4)
theorem rightL_at {n : Nd} {l : List Dm} {j : Nat} {d : Dm} (hd : l[j]? = some d) : rightL (l.drop j) n = match rightF d n true with | some e => some e | none => rightL (l.drop (j + 1)) n := by
 obtain ⟨h1, rfl⟩ := List.getElem?_eq_some_iff.1 hd
 rw [List.drop_eq_getElem_cons h1, rightL]
theorem rightP_at {ns : List Nd} {l : List Dm} {j : Nat} {d : Dm} {n : Nd} (hd : l[j]? = some d) (hn : ns[j]? = some n) : rightP (l.drop j) (ns.drop j) = match rightF d n false with | some e => some e | none => rightP (l.drop (j + 1)) (ns.drop (j + 1)) := by
 obtain ⟨h1, rfl⟩ := List.getElem?_eq_some_iff.1 hd
 obtain ⟨h2, rfl⟩ := List.getElem?_eq_some_iff.1 hn
 rw [List.drop_eq_getElem_cons h1, List.drop_eq_getElem_cons h2, rightP]
def Shp (n : Nd) : Prop := 1 ≤ n.rep ∧ n.rep ≤ 3 ∧ 0 ≤ n.kind ∧ n.kind ≤ 5 ∧ (n.kind ≠ 0 → n.sub = [])
theorem alls_at {P : Nd → Prop} : ∀ {l : List Nd}, Nd.Alls P l → ∀ c ∈ l, c.All P
 | [], _, c, h => by cases h
 | x :: xs, h, c, hc => by
  rcases List.mem_cons.1 hc with rfl | hc
  ·exact h.1
  ·exact alls_at h.2 c hc
theorem Nd.All.here {P : Nd → Prop} {n : Nd} (h : n.All P) : P n := by obtain ⟨i, nm, r, k, s⟩ := n; exact h.1
theorem Nd.All.subs {P : Nd → Prop} {n : Nd} (h : n.All P) : Nd.Alls P n.sub := by obtain ⟨i, nm, r, k, s⟩ := n; exact h.2
theorem ids_sub {c : Nd} : ∀ {l : List Nd}, c ∈ l → (idsN c).Sublist (idsL l)
 | [], h => by cases h
 | x :: xs, h => by
  rcases List.mem_cons.1 h with rfl | h
  ·exact List.sublist_append_left _ _
  ·exact (ids_sub h).trans (List.sublist_append_right _ _)
theorem ids_in (c : Nd) : (idsL c.sub).Sublist (idsN c) := by obtain ⟨i, nm, r, k, s⟩ := c; exact List.sublist_cons_self _ _
theorem ids_tops : ∀ l : List Nd, (l.map Nd.id).Sublist (idsL l)
 | [] => List.Sublist.refl _
 | .mk i nm r k s :: xs => by
  show (i :: xs.map Nd.id).Sublist (i :: (idsL s ++ idsL xs))
  exact ((ids_tops xs).trans (List.sublist_append_right _ _)).cons_cons i
structure FitN (n : Nd) : Prop where
 shape : n.All Shp
 ids : (idsL n.sub).Nodup
 small : n.weigh ≤ 40
 ok : n.ok
theorem FitN.sub {n c : Nd} (h : FitN n) (hc : c ∈ n.sub) : FitN c where
 shape := alls_at h.shape.subs c hc
 ids := h.ids.sublist ((ids_in c).trans (ids_sub hc))
 small := by
  have h1 := h.small
  have h2 := Nd.weigh_mem hc
  obtain ⟨i, nm, r, k, s⟩ := n
  simp only [Nd.weigh, Nd.sub] at h1 h2
  omega
 ok := by
  obtain ⟨i, nm, r, k, s⟩ := n
  exact Nd.oks_mem h.ok.2.2.2.2.2 c hc
theorem len_weighs : ∀ l : List Nd, l.length ≤ Nd.weighs l
 | [] => Nat.le_refl _
 | .mk i nm r k s :: xs => by
  have := len_weighs xs
  simp only [List.length_cons, Nd.weighs, Nd.weigh]
  omega
theorem FitN.len {n : Nd} (h : FitN n) : n.sub.length ≤ 39 := by
 have h1 := h.small
 obtain ⟨i, nm, r, k, s⟩ := n
 have := len_weighs s
 simp only [Nd.weigh] at h1
 show s.length ≤ 39
 omega
theorem FitN.apart {n : Nd} (h : FitN n) : (n.sub.map Nd.id).Nodup := h.ids.sublist (ids_tops _)
theorem FitN.rep {n : Nd} (h : FitN n) : 1 ≤ n.rep ∧ n.rep ≤ 3 := ⟨h.shape.here.1, h.shape.here.2.1⟩
theorem FitN.kind {n : Nd} (h : FitN n) : 0 ≤ n.kind ∧ n.kind ≤ 5 := ⟨h.shape.here.2.2.1, h.shape.here.2.2.2.1⟩
theorem FitN.leaf {n : Nd} (h : FitN n) (hk : n.kind ≠ 0) : n.sub = [] := h.shape.here.2.2.2.2 hk
theorem fitN_of {n : Nd} (hv : validF n = none) (hok : n.ok) : FitN n := by
 have hS := schema_of_valid hv
 have hF := fit_of hv
 refine ⟨?_, hF.nodup, hS.small, hok⟩
 rw [hS.root]
 refine ⟨⟨by simp [Nd.rep], by simp [Nd.rep], by simp [Nd.kind], by simp [Nd.kind], fun h => absurd rfl h⟩, ?_⟩
 exact Nd.Alls.imp (fun x hx => ⟨hx.1, hx.2.1, hx.2.2.1, hx.2.2.2.1, hx.2.2.2.2.1⟩) _ hS.right
theorem right_list {no : Bool} {k v : Int} {s : ByteArray} {l f : List Dm} {n : Nd} {one : Bool} (h : rightF (.mk no k v s l f) n one = none) (hn : no = false) (h3 : n.rep = 3) (h1 : one = false) :
  l.length ≤ 40 ∧ rightL l n = none := by
 unfold rightF at h
 rw [if_neg (by simp [hn]), if_pos (by rw [h3]; exact ⟨h1, by decide, by decide⟩)] at h
 split at h
 ·split at h
  ·rename_i h5; exact ⟨h5, h⟩
  ·cases h
 ·cases h
theorem right_group {no : Bool} {k v : Int} {s : ByteArray} {l f : List Dm} {n : Nd} {one : Bool} (h : rightF (.mk no k v s l f) n one = none) (hn : no = false) (hr : 1 ≤ n.rep ∧ n.rep ≤ 3) (hl : ¬ (n.rep = 3 ∧ one = false)) (hk : n.kind = 0) :
  f.length = n.sub.length ∧ rightP f n.sub = none := by
 unfold rightF at h
 rw [if_neg (by simp [hn]), if_neg (by rintro ⟨h1, h2, h3⟩; exact hl ⟨by omega, h1⟩), if_neg (by simp [hk])] at h
 split at h
 ·rename_i h5; exact ⟨h5.2, h⟩
 ·cases h
theorem pick_none {b : Nd} {M : List (Int × (Nd → Dm))} (h : ∀ m ∈ M, m.1 ≠ b.id) : pickF M b = freshF b := by
 unfold pickF
 rw [List.find?_eq_none.2 (fun m hm => by simpa using h m hm)]
theorem pick_first {b : Nd} : ∀ {M : List (Int × (Nd → Dm))} {k : Nat} {m : Int × (Nd → Dm)}, M[k]? = some m → m.1 = b.id → (∀ (j : Nat) m', j < k → M[j]? = some m' → m'.1 ≠ b.id) → pickF M b = m.2 b
 | [], k, m, h, _, _ => by simp at h
 | x :: xs, 0, m, h, h1, _ => by
  obtain rfl := Option.some.inj h
  unfold pickF
  rw [List.find?_cons_of_pos (by simpa using h1)]
 | x :: xs, k + 1, m, h, h1, h2 => by
  have h3 := h2 0 x (by omega) rfl
  have ih := pick_first (M := xs) (k := k) (m := m) (by simpa using h) h1 (fun j m' hj hm => h2 (j + 1) m' (by omega) (by simpa using hm))
  unfold pickF at ih ⊢
  rw [List.find?_cons_of_neg (by simpa using h3)]
  exact ih
theorem mover_at {f : List Dm} {az : List Nd} {i : Nat} {d : Dm} {a : Nd} (hd : f[i]? = some d) (ha : az[i]? = some a) : (movers f az)[i]? = some (a.id, fun b => moveF d a b false) := by
 rw [movers_eq, List.getElem?_zipWith, hd, ha]
theorem mover_id {f : List Dm} {az : List Nd} {i : Nat} {m : Int × (Nd → Dm)} (h : (movers f az)[i]? = some m) : ∃ a, az[i]? = some a ∧ m.1 = a.id := by
 rw [movers_eq, List.getElem?_zipWith] at h
 split at h
 ·rename_i d a h1 h2
  obtain rfl := Option.some.inj h
  exact ⟨a, h2, rfl⟩
 ·cases h
theorem pick_at {f : List Dm} {az : List Nd} {k : Nat} {d : Dm} {a b : Nd} (hd : f[k]? = some d) (ha : az[k]? = some a) (h1 : a.id = b.id) (h2 : ∀ (j : Nat) a', j < k → az[j]? = some a' → a'.id ≠ b.id) : pickF (movers f az) b = moveF d a b false :=
 pick_first (mover_at hd ha) h1 (fun j m' hj hm => by obtain ⟨a', h3, h4⟩ := mover_id hm; rw [h4]; exact h2 j a' hj h3)
theorem pick_un {f : List Dm} {az : List Nd} {b : Nd} (h : ∀ a ∈ az, a.id ≠ b.id) : pickF (movers f az) b = freshF b := by
 refine pick_none fun m hm => ?_
 obtain ⟨i, hi⟩ := List.mem_iff_getElem?.1 hm
 obtain ⟨a, h3, h4⟩ := mover_id hi
 rw [h4]
 exact h a (List.mem_of_getElem? h3)
inductive Holds : Nd → Nd → (Nd → Nd) → Prop
 | here (n : Nd) : Holds n n (fun x => x)
 | down {i : Int} {nm : ByteArray} {r k : Int} {s : List Nd} {j : Nat} {c h : Nd} {C : Nd → Nd} : s[j]? = some c → Holds c h C → Holds (.mk i nm r k s) h (fun x => .mk i nm r k (s.set j (C x)))
structure Inside (w : World) (B b o : Nat) (n : Nd) (F : List Nat) (hb ho : Nat) (h : Nd) (Fh : List Nat) (C : Nd → Nd) : Prop where
 pt : PtN w B hb ho h Fh
 path : Holds n h C
 upd : ∀ w' h' Fh', Upd w B hb ho h Fh w' h' Fh' → ∃ F', Upd w B b o n F w' (C h') F'
 blk : hb = b ∨ hb ∈ F
 sub : ∀ x ∈ Fh, x ∈ F
theorem Inside.here {w : World} {B b o : Nat} {n : Nd} {F : List Nat} (h : PtN w B b o n F) : Inside w B b o n F b o n F (fun x => x) :=
 ⟨h, .here n, fun _ _ F' hu => ⟨F', hu⟩, .inl rfl, fun _ hx => hx⟩
def RetAt (wz : World) (B b o : Nat) (n : Nd) (F : List Nat) (id : Int) (w : World) (en : Ending) (w' : World) : Prop :=
 Chg NoB w w' ∧ ((id ∉ idsL n.sub ∧ en = .returned (.tuple #[.pointer none, .pointer none])) ∨
  ∃ hb ho h Fh C rb cap j q, en = .returned (.tuple #[.pointer (some ⟨rb, j * 5, none⟩), .pointer (some ⟨hb, ho, none⟩)]) ∧ Inside wz B b o n F hb ho h Fh C ∧ h.sub[j]? = some q ∧ q.id = id ∧
   wz.cell? ⟨hb, ho + 4, none⟩ = some (.slice (some ⟨rb, 0, none⟩) h.sub.length cap))
theorem at_any (wz : World) (B : Nat) (id : Int) : ∀ (m : Nat) (b o : Nat) (n : Nd) (F : List Nat) (w : World), n.weigh ≤ m → PtN wz B b o n F → Chg NoB wz w →
  Calls Tryz.prog 54 #[.pointer (some ⟨b, o, none⟩), .int .i64 id] w (RetAt wz B b o n F id w) := by
 intro m
 induction m with
 | zero => intro b o n F w hm; cases n; simp [Nd.weigh] at hm
 | succ m ih =>
  intro b o n F w hm hp hz
  have Hih := Lib.hid ih
  clear ih
  obtain ⟨i, nm, r, k, s⟩ := n
  obtain ⟨v, htl, _, _, _, _, c4z, _⟩ := hp.form
  have c4 := (hz.cell (p := ⟨b, o + 4, none⟩) (lt_of_cell c4z) nbE).trans c4z
  obtain ⟨a, c, rfl, hlen, hcap⟩ := htl.form
  unfold maxLen at hcap
  simp only [Nd.weigh] at hm
  go_enter Tryz.func54, Tryz.ntmps54
  go_wp2_with fail
  go_loopw [14] (fun vi wr => ∃ t : Nat, t ≤ s.length ∧ vi = .int .i64 (t : Nat) ∧ Chg NoB w wr ∧ id ∉ idsL (s.take t)) (fun vi _ => s.length - (intOf vi).toNat)
  case atStart => exact ⟨0, Nat.zero_le _, rfl, Chg.refl _ _, by simp [idsL]⟩
  case round =>
   obtain ⟨t, ht, rfl, hc, hno⟩ := hrel
   have Hno := Lib.hid hno
   clear hno
   by_cases hlt : t < s.length
   ·have hltI : (t : Int) < (s.length : Int) := by omega
    have hj : s[t]? = some s[t] := List.getElem?_eq_getElem hlt
    have hmem : s[t] ∈ s := List.getElem_mem hlt
    have hwj := Nd.weigh_mem hmem
    have htake : s.take (t + 1) = s.take t ++ [s[t]] := List.take_succ_eq_append_getElem hlt
    generalize s[t] = q at hj hmem hwj htake
    obtain ⟨rb, cap, Fc, z4, h1, h2, h3, h4, hpc, hup⟩ := hp.child hj
    have hsl : Value.slice (some ⟨rb, 0, none⟩) s.length cap = .slice a s.length c := Option.some.inj (z4.symm.trans c4z)
    obtain ⟨rfl, -, rfl⟩ := Value.slice.inj hsl
    obtain ⟨iq, nq, rq, kq, sq⟩ := q
    obtain ⟨vq, _, q0z, _⟩ := hpc.form
    have hzr := hz.tr hc
    have r4 := (hzr.cell (p := ⟨b, o + 4, none⟩) (lt_of_cell z4) nbE).trans z4
    have q0 := (hzr.cell (p := ⟨rb, t * 5, none⟩) (lt_of_cell q0z) nbE).trans q0z
    have Hup := Lib.hid hup
    have Htake := Lib.hid htake
    have Hj := Lib.hid hj
    clear hup htake hj hsl
    by_cases hid : iq = id
    ·subst hid
     go_wp2_with fail
     go_ret2
     exact ⟨hc, .inr ⟨b, o, _, F, fun x => x, rb, cap, t, _, rfl, Inside.here hp, Hj.out, rfl, z4⟩⟩
    ·go_wp2_with fail
     refine (Hih.out rb (t * 5) (.mk iq nq rq kq sq) Fc wr (by omega) hpc hzr).mono ?_
     rintro en w2 ⟨hc2, (⟨hn2, rfl⟩ | ⟨hb, ho, h, Fh, C, rb2, cap2, j2, q2, rfl, hin, hh, hq2, hcell⟩)⟩
     ·go_wp2_with fail
      go_roundw
      case rel =>
       refine ⟨t + 1, by omega, by go_num, hc.tr hc2, ?_⟩
       rw [Htake.out, idsL_append]
       simp only [idsL, idsN, List.append_nil, List.mem_append, List.mem_cons, not_or]
       exact ⟨Hno.out, fun e => hid e.symm, hn2⟩
      case measure => simp [intOf]; omega
     ·go_wp2_with fail
      go_ret2
      refine ⟨hc.tr hc2, .inr ⟨hb, ho, h, Fh, _, rb2, cap2, j2, q2, rfl, ⟨hin.pt, .down Hj.out hin.path, ?_, ?_, fun x hx => h4 x (hin.sub x hx)⟩, hh, hq2, hcell⟩⟩
      ·intro w' h' Fh' hu
       obtain ⟨Fq', hu2⟩ := hin.upd w' h' Fh' hu
       exact Hup.out _ _ _ hu2
      ·rcases hin.blk with e | e
       ·exact .inr (e ▸ h3)
       ·exact .inr (h4 _ e)
   ·have hltI : ¬ (t : Int) < (s.length : Int) := by omega
    have hte : s.take t = s := List.take_of_length_le (by omega)
    go_wp2_with fail
    go_ret2
    exact ⟨hc, .inl ⟨by have := Hno.out; rwa [hte] at this, rfl⟩⟩
def Nd.withSub (n : Nd) (s : List Nd) : Nd := match n with | .mk i nm r k _ => .mk i nm r k s
mutual
def grpN (id : Int) (g : List Nd → List Nd) : Nd → Nd
 | .mk i n r k s => .mk i n r k (if (s.any fun c => decide (c.id = id)) = true then g s else grpL id g s)
def grpL (id : Int) (g : List Nd → List Nd) : List Nd → List Nd
 | [] => []
 | n :: ns => grpN id g n :: grpL id g ns
end
def grpT (id : Int) (g : List Nd → List Nd) (s : List Nd) : List Nd := if (s.any fun c => decide (c.id = id)) = true then g s else grpL id g s
theorem grpN_eq (id : Int) (g : List Nd → List Nd) (n : Nd) : grpN id g n = n.withSub (grpT id g n.sub) := by cases n; simp only [grpN, grpT, Nd.withSub, Nd.sub] <;> rfl
theorem grpL_eq (id : Int) (g : List Nd → List Nd) : ∀ l : List Nd, grpL id g l = l.map (grpN id g)
 | [] => rfl
 | n :: ns => by simp [grpL, grpL_eq id g ns]
theorem id_in_ids {c : Nd} : ∀ {l : List Nd}, c ∈ l → c.id ∈ idsL l
 | [], h => by cases h
 | x :: xs, h => by
  simp only [idsL, List.mem_append]
  rcases List.mem_cons.1 h with rfl | h
  ·left; cases c; simp [idsN, Nd.id]
  ·exact .inr (id_in_ids h)
theorem sub_in_ids {c : Nd} {x : Int} : ∀ {l : List Nd}, c ∈ l → x ∈ idsL c.sub → x ∈ idsL l
 | [], h, _ => by cases h
 | y :: ys, h, hx => by
  simp only [idsL, List.mem_append]
  rcases List.mem_cons.1 h with rfl | h
  ·left; cases c; simp only [idsN, List.mem_cons]; exact .inr hx
  ·exact .inr (sub_in_ids h hx)
theorem any_id {id : Int} {s : List Nd} : (s.any fun c => decide (c.id = id)) = true ↔ ∃ c ∈ s, c.id = id := by
 rw [List.any_eq_true]
 exact ⟨fun ⟨c, h1, h2⟩ => ⟨c, h1, of_decide_eq_true h2⟩, fun ⟨c, h1, h2⟩ => ⟨c, h1, decide_eq_true h2⟩⟩
mutual
theorem grpN_no (id : Int) (g : List Nd → List Nd) : ∀ n : Nd, id ∉ idsL n.sub → grpN id g n = n
 | .mk i nm r k s, h => by
  simp only [Nd.sub] at h
  have h1 : ¬ (s.any fun c => decide (c.id = id)) = true := fun e => by
   obtain ⟨c, hc, rfl⟩ := any_id.1 e
   exact h (id_in_ids hc)
  rw [grpN, if_neg h1, grpL_no id g s h]
theorem grpL_no (id : Int) (g : List Nd → List Nd) : ∀ l : List Nd, id ∉ idsL l → grpL id g l = l
 | [], _ => rfl
 | n :: ns, h => by
  simp only [idsL, List.mem_append, not_or] at h
  rw [grpL, grpN_no id g n (fun e => h.1 (by cases n; simp only [idsN, List.mem_cons, Nd.sub] at e ⊢; exact .inr e)), grpL_no id g ns h.2]
end
theorem nodup_mid {l1 l2 : List Nd} {c : Nd} (h : (idsL (l1 ++ c :: l2)).Nodup) : (idsN c).Nodup ∧ ∀ x ∈ idsN c, x ∉ idsL l1 ∧ x ∉ idsL l2 := by
 rw [idsL_append] at h
 simp only [idsL] at h
 rw [List.nodup_append, List.nodup_append] at h
 obtain ⟨h1, ⟨h2, h3, h4⟩, h5⟩ := h
 exact ⟨h2, fun x hx => ⟨fun e => h5 x e x (List.mem_append_left _ hx) rfl, fun e => h4 x hx x e rfl⟩⟩
theorem holds_grp {id : Int} : ∀ {n h : Nd} {C : Nd → Nd}, Holds n h C → ∀ {j : Nat} {q : Nd}, h.sub[j]? = some q → q.id = id → (idsL n.sub).Nodup → (id ∈ idsL n.sub) ∧ ∀ g, C (h.withSub (g h.sub)) = n.withSub (grpT id g n.sub) := by
 intro n h C hH
 induction hH with
 | here n =>
  intro j q hq hid hn
  have hm := List.mem_of_getElem? hq
  refine ⟨hid ▸ id_in_ids hm, fun g => ?_⟩
  unfold grpT
  rw [if_pos (any_id.2 ⟨q, hm, hid⟩)]
 | down hj hH ih =>
  rename_i i nm r k s jj c hh C
  intro j q hq hid hn
  simp only [Nd.sub] at hn
  obtain ⟨l1, l2, rfl, rfl, hset⟩ := list_split hj
  obtain ⟨h1, h2⟩ := nodup_mid hn
  have hcn : (idsL c.sub).Nodup := by cases c; simp only [idsN, List.nodup_cons] at h1; exact h1.2
  obtain ⟨k1, k2⟩ := ih hq hid hcn
  have hidc : id ∈ idsN c := by cases c; simp only [idsN, List.mem_cons]; exact .inr k1
  have hcne : c.id ≠ id := fun e => by
   cases c
   simp only [idsN, List.nodup_cons, Nd.id, Nd.sub] at h1 e k1
   exact h1.1 (e ▸ k1)
  refine ⟨sub_in_ids (List.mem_append_right _ (List.mem_cons_self ..)) k1, fun g => ?_⟩
  have hno : ¬ ((l1 ++ c :: l2).any fun c => decide (c.id = id)) = true := fun e => by
   obtain ⟨x, hx, hxi⟩ := any_id.1 e
   rcases List.mem_append.1 hx with hx | hx
   ·exact (h2 id hidc).1 (hxi ▸ id_in_ids hx)
   ·rcases List.mem_cons.1 hx with rfl | hx
    ·exact hcne hxi
    ·exact (h2 id hidc).2 (hxi ▸ id_in_ids hx)
  show Nd.mk i nm r k ((l1 ++ c :: l2).set l1.length (C (hh.withSub (g hh.sub)))) = Nd.mk i nm r k (grpT id g (l1 ++ c :: l2))
  unfold grpT
  rw [if_neg hno, hset, k2 g, grpL_eq, List.map_append, List.map_cons, ← grpL_eq, ← grpL_eq, grpL_no id g l1 (h2 id hidc).1, grpL_no id g l2 (h2 id hidc).2, grpN_eq]
mutual
def fndN (id : Int) : Nd → Option Nd
 | .mk i n r k s => if i = id then some (.mk i n r k s) else fndL id s
def fndL (id : Int) : List Nd → Option Nd
 | [] => none
 | n :: ns => match fndN id n with
  | some x => some x
  | none => fndL id ns
end
mutual
theorem fndN_no (id : Int) : ∀ n : Nd, id ∉ idsN n → fndN id n = none
 | .mk i nm r k s, h => by
  simp only [idsN, List.mem_cons, not_or] at h
  rw [fndN, if_neg (fun e => h.1 e.symm), fndL_no id s h.2]
theorem fndL_no (id : Int) : ∀ l : List Nd, id ∉ idsL l → fndL id l = none
 | [], _ => rfl
 | n :: ns, h => by
  simp only [idsL, List.mem_append, not_or] at h
  rw [fndL, fndN_no id n h.1]
  exact fndL_no id ns h.2
end
theorem fndL_skip {id : Int} {c : Nd} (l2 : List Nd) : ∀ l1 : List Nd, id ∉ idsL l1 → fndL id (l1 ++ c :: l2) = match fndN id c with | some x => some x | none => fndL id l2
 | [], _ => rfl
 | n :: ns, h => by
  simp only [idsL, List.mem_append, not_or] at h
  rw [List.cons_append, fndL, fndN_no id n h.1]
  exact fndL_skip l2 ns h.2
theorem holds_fnd {id : Int} : ∀ {n h : Nd} {C : Nd → Nd}, Holds n h C → ∀ {j : Nat} {q : Nd}, h.sub[j]? = some q → q.id = id → (idsL n.sub).Nodup → fndL id n.sub = some q := by
 intro n h C hH
 induction hH with
 | here n =>
  intro j q hq hid hn
  obtain ⟨l1, l2, hs, rfl, _⟩ := list_split hq
  rw [hs] at hn ⊢
  obtain ⟨h1, h2⟩ := nodup_mid hn
  have hidq : id ∈ idsN q := by cases q; simp only [idsN, List.mem_cons]; exact .inl hid.symm
  rw [fndL_skip l2 l1 (h2 id hidq).1]
  cases q
  simp only [Nd.id] at hid
  rw [fndN, if_pos hid]
 | down hj hH ih =>
  rename_i i nm r k s jj c hh C
  intro j q hq hid hn
  simp only [Nd.sub] at hn ⊢
  have hk := (holds_grp hH hq hid (by
   obtain ⟨l1, l2, rfl, rfl, _⟩ := list_split hj
   have h1 := (nodup_mid hn).1
   cases c; simp only [idsN, List.nodup_cons] at h1; exact h1.2)).1
  obtain ⟨l1, l2, rfl, rfl, hset⟩ := list_split hj
  obtain ⟨h1, h2⟩ := nodup_mid hn
  have hcn : (idsL c.sub).Nodup := by cases c; simp only [idsN, List.nodup_cons] at h1; exact h1.2
  have hidc : id ∈ idsN c := by cases c; simp only [idsN, List.mem_cons]; exact .inr hk
  rw [fndL_skip l2 l1 (h2 id hidc).1]
  have h9 := ih hq hid hcn
  cases c
  simp only [idsN, List.nodup_cons, Nd.sub] at h1 hk h9
  rename_i ci cn cr ck cs
  rw [fndN, if_neg (fun e : ci = id => h1.1 (by rw [e]; exact hk)), h9]
def setId (id : Int) (f : Nd → Nd) (s : List Nd) : List Nd := s.map fun c => if c.id = id then f c else c
theorem setId_no {id : Int} {f : Nd → Nd} : ∀ {s : List Nd}, id ∉ idsL s → setId id f s = s
 | [], _ => rfl
 | n :: ns, h => by
  simp only [idsL, List.mem_append, not_or] at h
  have h1 : n.id ≠ id := fun e => h.1 (by cases n; simp only [idsN, List.mem_cons]; exact .inl e.symm)
  unfold setId
  rw [List.map_cons, if_neg h1]
  congr 1
  exact setId_no h.2
theorem setId_set {id : Int} {f : Nd → Nd} {s : List Nd} {j : Nat} {q : Nd} (hj : s[j]? = some q) (hid : q.id = id) (hn : (idsL s).Nodup) : setId id f s = s.set j (f q) := by
 obtain ⟨l1, l2, rfl, rfl, hset⟩ := list_split hj
 obtain ⟨h1, h2⟩ := nodup_mid hn
 have hidq : id ∈ idsN q := by cases q; simp only [idsN, List.mem_cons]; exact .inl hid.symm
 rw [hset]
 unfold setId
 rw [List.map_append, List.map_cons, if_pos hid]
 have e1 := setId_no (f := f) (h2 id hidq).1
 have e2 := setId_no (f := f) (h2 id hidq).2
 unfold setId at e1 e2
 rw [e1, e2]
theorem holds_nodup : ∀ {n h : Nd} {C : Nd → Nd}, Holds n h C → (idsL n.sub).Nodup → (idsL h.sub).Nodup := by
 intro n h C hH
 induction hH with
 | here n => exact id
 | down hj hH ih =>
  rename_i i nm r k s jj c hh C
  intro hn
  replace hn : (idsL s).Nodup := hn
  obtain ⟨l1, l2, rfl, rfl, _⟩ := list_split hj
  have h1 := (nodup_mid hn).1
  refine ih ?_
  cases c
  simp only [idsN, List.nodup_cons] at h1
  exact h1.2
theorem setRow_chg (w : World) (g : Nat) (a : Array Value) : Chg (OneB g) w (w.setRow g a) :=
 ⟨rfl, rfl, rfl, by simp [World.setRow], fun k hk hn => by
  have hne : g ≠ k := fun e => hn e.symm
  simp [World.setRow, Array.getElem?_modify, hne]⟩
structure Mid (w : World) (g : Nat) (pre news post : List Value) (t : TypeId) (w' : World) : Prop where
 blk : Blk w' g (pre ++ (news ++ post)) t
 chg : Chg (OneB g) w w'
section
variable {P : Program}
theorem run_store_mid (w : World) {g : Nat} {pre mid post news : List Value} {t : TypeId} (hb : Blk w g (pre ++ (mid ++ post)) t) (hl : mid.length = news.length) (h1 : ∀ v ∈ news, v.oneCell' = true) :
  ∃ w', (storeCells ⟨g, pre.length, none⟩ news 0).run P w = .ok () w' ∧ Mid w g pre news post t w' := by
 have h := run_storeCells_at P g pre.length t news 0 (pre ++ (mid ++ post)).toArray w hb (by simp [hl]) h1
 refine ⟨_, h, ?_, setRow_chg w g _⟩
 have e : ((pre ++ (mid ++ post)).toArray.toList.take (pre.length + 0) ++ news ++ (pre ++ (mid ++ post)).toArray.toList.drop (pre.length + 0 + news.length)) = pre ++ (news ++ post) := by
  simp only [List.toList_toArray, Nat.add_zero, List.take_left, List.append_assoc]
  rw [← List.append_assoc pre mid post, List.drop_left' (by simp [hl])]
 have h2 := setRow_heap w g _ ((pre ++ (mid ++ post)).toArray.toList.take (pre.length + 0) ++ news ++ (pre ++ (mid ++ post)).toArray.toList.drop (pre.length + 0 + news.length)).toArray t (0, 0) hb
 rw [e] at h2
 rw [e]
 exact h2
theorem run_copy_mid (w : World) (dT sT ty elem : TypeId) {k : Nat} (hu : P.underlying dT = some (.slice elem)) (hs : (P.info? elem).map (·.size) = some k) {g dLen dCap : Nat} {a : Addr} {sLen sCap : Nat} {pre mid post news : List Value} {t : TypeId}
  (hb : Blk w g (pre ++ (mid ++ post)) t) (hn : news.length = Nat.min sLen dLen * k) (hsrc : ∀ j v, news[j]? = some v → w.cell? (a.add j) = some v) (hl : mid.length = news.length) (h1 : ∀ v ∈ news, v.oneCell' = true) :
  ∃ w', (Builtin.copy_ #[dT, sT] ty #[.slice (some ⟨g, pre.length, none⟩) dLen dCap, .slice (some a) sLen sCap]).run P w = .ok (goInt (Nat.min sLen dLen)) w' ∧ Mid w g pre news post t w' := by
 have h2 := run_loadCells_list (P := P) w a news hsrc
 obtain ⟨w', hst, hm⟩ := run_store_mid (P := P) w hb hl h1
 refine ⟨w', ?_, hm⟩
 cases hq : P.info? elem with
 | none => simp [hq] at hs
 | some i =>
  have hi : i.size = k := by simpa [hq] using hs
  rw [hn] at h2
  simp [Builtin.copy_, run_underlying hu, Builtin.lenOf, Builtin.firstCells, sizeOf, typeInfo, hq, hi, h2, hst]
theorem run_clear_mid (w : World) (tS e ty : TypeId) {z : Value} (ht : P.underlying tS = some (.slice e)) (hv : ∀ w, (zeroValue e).run P w = .ok z w) {n : Nat} (h1 : ∀ v ∈ (Builtin.zeroCells z.cells n).toList, v.oneCell' = true) {g c : Nat} {pre mid post : List Value} {t : TypeId}
  (hb : Blk w g (pre ++ (mid ++ post)) t) (hl : mid.length = n * z.cells.size) :
  ∃ w', (Builtin.clear_ #[tS] ty #[.slice (some ⟨g, pre.length, none⟩) n c]).run P w = .ok (.tuple #[]) w' ∧ Mid w g pre (Builtin.zeroCells z.cells n).toList post t w' := by
 have hlz : (Builtin.zeroCells z.cells n).toList.length = n * z.cells.size := by simp [Builtin.zeroCells]
 obtain ⟨w', hst, hm⟩ := run_store_mid (P := P) w hb (hl.trans hlz.symm) h1
 cases n with
 | zero =>
  have hmid : mid = [] := List.eq_nil_of_length_eq_zero (by simpa using hl)
  subst hmid
  have hz0 : (Builtin.zeroCells z.cells 0).toList = [] := List.eq_nil_of_length_eq_zero (by simpa using hlz)
  refine ⟨w, ?_, by rw [hz0]; exact ⟨hb, Chg.refl _ _⟩⟩
  simp [Builtin.clear_, run_underlying ht]
 | succ n =>
  refine ⟨w', ?_, hm⟩
  simp [Builtin.clear_, run_underlying ht, hv, hst]
theorem run_append_mid (w : World) (t ty e : TypeId) (i : TypeInfo) (ht : P.underlying t = some (.slice e)) (hi : P.info? e = some i) {g n cap : Nat} {a : Addr} {m c : Nat} {pre mid post news : List Value} {t' : TypeId}
  (hb : Blk w g (pre ++ (mid ++ post)) t') (hp : pre.length = n * i.size) (hl : news.length = m * i.size) (hm : mid.length = news.length) (hnews : ∀ j v, news[j]? = some v → w.cell? (a.add j) = some v) (h1 : ∀ v ∈ news, v.oneCell' = true) (hroom : n + m ≤ cap) :
  ∃ w', (Builtin.append_ #[t, t] ty #[.slice (some ⟨g, 0, none⟩) n cap, .slice (some a) m c]).run P w = .ok (.slice (some ⟨g, 0, none⟩) (n + m) cap) w' ∧ Mid w g pre news post t' w' := by
 have hfc := run_firstCells_some (P := P) w i.size m a m c news hl hnews
 obtain ⟨w', hst, hmid⟩ := run_store_mid (P := P) w hb hm h1
 rw [hp] at hst
 refine ⟨w', ?_, hmid⟩
 have hadd : (⟨g, 0, none⟩ : Addr).add (n * i.size) = ⟨g, n * i.size, none⟩ := by rw [Addr.add_lit, Nat.zero_add]
 simp [Builtin.append_, run_underlying ht, sizeOf, typeInfo, hi, Builtin.lenOf, hroom, hfc, hadd, hst]
variable {w : World} {ops : Array Oper} {rest : List Oper} {o : Oper} {a : Act} {Q : Exit → Act → World → Prop}
theorem wpList_copy_run (hgd : o.guard = none) (d s : Operand) (t t' : TypeId) (ho : o.op = .call { callee := .builtin .copy, args := #[d, s], argTypes := #[t, t'] }) (v u : Value) (hd : a.eval d = v) (hs : a.eval s = u) {v' : Value} {w' : World}
  (hr : (Builtin.copy_ #[t, t'] o.type #[v, u]).run P w = .ok v' w') (h : wpList P ops Q rest (a.put o.dst v') w') : wpList P ops Q (o :: rest) a w :=
 wpList_plain hgd fun _ hK => by
  unfold Oper.wp execOp
  simp only [ho, resolve, invoke, builtin, Sem.run_bind, Sem.run_pure, Result.andThen_ok, List.map_toArray, List.map_cons, List.map_nil, hd, hs, hr]
  exact hK _ _ h
theorem wpList_append_run (hgd : o.guard = none) (d s : Operand) (t t' : TypeId) (ho : o.op = .call { callee := .builtin .append, args := #[d, s], argTypes := #[t, t'] }) (v u : Value) (hd : a.eval d = v) (hs : a.eval s = u) {v' : Value} {w' : World}
  (hr : (Builtin.append_ #[t, t'] o.type #[v, u]).run P w = .ok v' w') (h : wpList P ops Q rest (a.put o.dst v') w') : wpList P ops Q (o :: rest) a w :=
 wpList_plain hgd fun _ hK => by
  unfold Oper.wp execOp
  simp only [ho, resolve, invoke, builtin, Sem.run_bind, Sem.run_pure, Result.andThen_ok, List.map_toArray, List.map_cons, List.map_nil, hd, hs, hr]
  exact hK _ _ h
theorem wpList_copy_ex (hgd : o.guard = none) (d s : Operand) (t t' : TypeId) (ho : o.op = .call { callee := .builtin .copy, args := #[d, s], argTypes := #[t, t'] }) (v u : Value) (hd : a.eval d = v) (hs : a.eval s = u) {v' : Value} {R : World → Prop}
  (hr : ∃ w', (Builtin.copy_ #[t, t'] o.type #[v, u]).run P w = .ok v' w' ∧ R w') (h : ∀ w', R w' → wpList P ops Q rest (a.put o.dst v') w') : wpList P ops Q (o :: rest) a w := by
 obtain ⟨w', h1, h2⟩ := hr
 exact wpList_copy_run hgd d s t t' ho v u hd hs h1 (h w' h2)
theorem wpList_append_ex (hgd : o.guard = none) (d s : Operand) (t t' : TypeId) (ho : o.op = .call { callee := .builtin .append, args := #[d, s], argTypes := #[t, t'] }) (v u : Value) (hd : a.eval d = v) (hs : a.eval s = u) {v' : Value} {R : World → Prop}
  (hr : ∃ w', (Builtin.append_ #[t, t'] o.type #[v, u]).run P w = .ok v' w' ∧ R w') (h : ∀ w', R w' → wpList P ops Q rest (a.put o.dst v') w') : wpList P ops Q (o :: rest) a w := by
 obtain ⟨w', h1, h2⟩ := hr
 exact wpList_append_run hgd d s t t' ho v u hd hs h1 (h w' h2)
end
def zeroAgg : Value := .agg #[.int .i64 0, .string ⟨#[]⟩, .int .i64 0, .int .i64 0, .slice none 0 0]
theorem zero_nodeV (w : World) : (zeroValue 28).run Tryz.prog w = .ok zeroAgg w := by kernel_rfl
theorem zero_one (n : Nat) : ∀ v ∈ (Builtin.zeroCells zeroAgg.cells n).toList, v.oneCell' = true := by
 intro v hv
 simp only [Builtin.zeroCells, Array.toList_map, List.mem_map] at hv
 obtain ⟨i, hi, rfl⟩ := hv
 have h5 : i % zeroAgg.cells.size < 5 := Nat.mod_lt _ (by decide)
 generalize i % zeroAgg.cells.size = q at h5
 have : q = 0 ∨ q = 1 ∨ q = 2 ∨ q = 3 ∨ q = 4 := by omega
 rcases this with rfl | rfl | rfl | rfl | rfl <;> rfl
theorem zero_five : zeroAgg.cells.size = 5 := rfl
theorem lawS : Go.Maps.Keyed Tryz.prog 9 := Go.Maps.string_keyed Tryz.underlying9
theorem zeroI (w : World) : (zeroValue 3).run Tryz.prog w = .ok (.int .i64 0) w := by kernel_rfl
def SM (w : World) (b n : Nat) (D : DataW Value) : Prop := w.ownsMap Tryz.prog 9 (plainElem Tryz.prog 3) b n D
theorem SM.keep {C : Nat → Prop} {w w' : World} {b n : Nat} {D : DataW Value} (h : SM w b n D) (hc : Chg C w w') (hn : ¬ C b) : SM w' b n D := by
 obtain ⟨es, clock, hb, F, hs, hD⟩ := h
 exact ⟨es, clock, hc.at hb hn, F, hs, hD⟩
theorem SM.lt {w : World} {b n : Nat} {D : DataW Value} (h : SM w b n D) : b < w.heap.size := World.ownsMap.lt h
section
variable {H : Type} {P : Program}
theorem wpList_insert_own (w : World) {ops : Array Oper} {rest : List Oper} {o : Oper} {a : Act} {Q : Exit → Act → World → Prop}
  (hg : o.guard = none) (m x v : Operand) (t : TypeId) (hop : o.op = Op.insert t m x v)
  (k e : TypeId) (K : Go.Maps.Keyed P k) (ht : P.underlying t = some (.map k e)) (R : Value → Option (DataW H × List MemPlace)) (b n : Nat) (D : DataW H)
  (hm : a.eval m = .map (some b)) (hown : w.ownsMap P k R b n D) (hn : n < maxLen) (key val : Value) (kl : Lit) (hx : a.eval x = key) (hv : a.eval v = val) (hkey : keyOf P k key = some kl)
  (d : DataW H) (ps : List MemPlace) (hval : R val = some (d, ps))
  (hK : ∀ w', w'.ownsMap P k R b (n + 1) (D.put kl d) → w.grownBy w' (some b) → wpList P ops Q rest (a.put o.dst undef) w') :
  wpList P ops Q (o :: rest) a w := by
 refine wpList_plain hg fun K' hK' => ?_
 obtain ⟨w', hrun, r1, r2⟩ := hown.update K ht hn hkey hval
 unfold Oper.wp
 simp [execOp, hop, hm, hx, hv, hrun, Result.andThen]
 exact hK' _ _ (hK w' r1 r2)
end
def bDrop : ByteArray := ⟨#[100, 114, 111, 112]⟩
def bRename : ByteArray := ⟨#[114, 101, 110, 97, 109, 101]⟩
def bMove : ByteArray := ⟨#[109, 111, 118, 101]⟩
def bWiden : ByteArray := ⟨#[119, 105, 100, 101, 110]⟩
def bLoosen : ByteArray := ⟨#[108, 111, 111, 115, 101, 110]⟩
def keyS (s : ByteArray) : Lit := .string s.data.toList
theorem keyS_inj {a b : ByteArray} (h : keyS a = keyS b) : a = b := by
 unfold keyS at h
 injection h with h
 cases a; cases b
 simp only at h
 rw [Array.toList_inj.1 h]
theorem keyOfS {s : ByteArray} (h : s.size ≤ maxLen) : keyOf Tryz.prog 9 (.string s) = some (keyS s) := Go.WideMaps.keyOf_string_mk Tryz.underlying9 h
def manyF (s : ByteArray) : Option Int := if s = bDrop then some 1 else if s = bRename then some 2 else if s = bMove then some 2 else if s = bWiden then some 1 else if s = bLoosen then some 1 else none
def ManyD (D : DataW Value) : Prop := ∀ s : ByteArray, Go.Maps.has D (keyS s) = (manyF s).isSome ∧ ∀ n, manyF s = some n → ∀ z, D.atKey (keyS s) z = .lit (.int .i64 n)
def putI (D : DataW Value) (s : ByteArray) (n : Int) : DataW Value := D.put (keyS s) (.lit (.int .i64 n))
theorem many_D : ManyD (putI (putI (putI (putI (putI (.map []) bDrop 1) bRename 2) bMove 2) bWiden 1) bLoosen 1) := by
 have m0 : Go.Maps.IsMap (.map [] : DataW Value) := Go.Maps.isMap_empty
 have m1 : Go.Maps.IsMap (putI (.map []) bDrop 1) := m0.put _ _
 have m2 := m1.put (keyS bRename) (.lit (.int .i64 2))
 have m3 := m2.put (keyS bMove) (.lit (.int .i64 2))
 have m4 := m3.put (keyS bWiden) (.lit (.int .i64 1))
 have hk : ∀ s : ByteArray, WideAt.IsKeyLit (keyS s) := fun _ => trivial
 intro s
 unfold manyF
 by_cases h5 : s = bLoosen
 ·subst h5
  rw [if_neg (by decide), if_neg (by decide), if_neg (by decide), if_neg (by decide), if_pos rfl]
  exact ⟨Go.Maps.has_put_same m4 (hk _) _, fun n hn z => by obtain rfl := Option.some.inj hn; exact Go.Maps.atKey_put_same m4 (hk _) _ _⟩
 have n5 : keyS s ≠ keyS bLoosen := fun e => h5 (keyS_inj e)
 by_cases h4 : s = bWiden
 ·subst h4
  rw [if_neg (by decide), if_neg (by decide), if_neg (by decide), if_pos rfl]
  refine ⟨?_, fun n hn z => ?_⟩
  ·unfold putI; rw [Go.Maps.has_put_other n5]; exact Go.Maps.has_put_same m3 (hk _) _
  ·obtain rfl := Option.some.inj hn; unfold putI; rw [Go.Maps.atKey_put_other n5]; exact Go.Maps.atKey_put_same m3 (hk _) _ _
 have n4 : keyS s ≠ keyS bWiden := fun e => h4 (keyS_inj e)
 by_cases h3 : s = bMove
 ·subst h3
  rw [if_neg (by decide), if_neg (by decide), if_pos rfl]
  refine ⟨?_, fun n hn z => ?_⟩
  ·unfold putI; rw [Go.Maps.has_put_other n5, Go.Maps.has_put_other n4]; exact Go.Maps.has_put_same m2 (hk _) _
  ·obtain rfl := Option.some.inj hn; unfold putI; rw [Go.Maps.atKey_put_other n5, Go.Maps.atKey_put_other n4]; exact Go.Maps.atKey_put_same m2 (hk _) _ _
 have n3 : keyS s ≠ keyS bMove := fun e => h3 (keyS_inj e)
 by_cases h2 : s = bRename
 ·subst h2
  rw [if_neg (by decide), if_pos rfl]
  refine ⟨?_, fun n hn z => ?_⟩
  ·unfold putI; rw [Go.Maps.has_put_other n5, Go.Maps.has_put_other n4, Go.Maps.has_put_other n3]; exact Go.Maps.has_put_same m1 (hk _) _
  ·obtain rfl := Option.some.inj hn; unfold putI; rw [Go.Maps.atKey_put_other n5, Go.Maps.atKey_put_other n4, Go.Maps.atKey_put_other n3]; exact Go.Maps.atKey_put_same m1 (hk _) _ _
 have n2 : keyS s ≠ keyS bRename := fun e => h2 (keyS_inj e)
 by_cases h1 : s = bDrop
 ·subst h1
  rw [if_pos rfl]
  refine ⟨?_, fun n hn z => ?_⟩
  ·unfold putI; rw [Go.Maps.has_put_other n5, Go.Maps.has_put_other n4, Go.Maps.has_put_other n3, Go.Maps.has_put_other n2]; exact Go.Maps.has_put_same m0 (hk _) _
  ·obtain rfl := Option.some.inj hn; unfold putI; rw [Go.Maps.atKey_put_other n5, Go.Maps.atKey_put_other n4, Go.Maps.atKey_put_other n3, Go.Maps.atKey_put_other n2]; exact Go.Maps.atKey_put_same m0 (hk _) _ _
 have n1 : keyS s ≠ keyS bDrop := fun e => h1 (keyS_inj e)
 rw [if_neg h1, if_neg h2, if_neg h3, if_neg h4, if_neg h5]
 refine ⟨?_, fun n hn => by cases hn⟩
 unfold putI
 rw [Go.Maps.has_put_other n5, Go.Maps.has_put_other n4, Go.Maps.has_put_other n3, Go.Maps.has_put_other n2, Go.Maps.has_put_other n1]
 rfl
theorem chg_more {w a b : World} (h : Chg NoB w a) {B : Nat} (hg : a.grownBy b (some B)) (hB : w.heap.size ≤ B := by simp) : Chg NoB w b :=
 h.trans (C := NoB) (D := OneB B) ((Chg.refl (OneB B) a).grown hg (fun k hk => .inl (Option.some.inj hk).symm)) (fun i hi => .inr (by have e : i = B := hi; omega))
def RetMany (w : World) (en : Ending) (w' : World) : Prop := ∃ b D, en = .returned (.map (some b)) ∧ SM w' b 5 D ∧ ManyD D ∧ Chg NoB w w'
theorem elI (n : Int) (h : (Lit.int .i64 n).wf = true) : plainElem (H := Value) Tryz.prog 3 (.int .i64 n) = some (.lit (.int .i64 n), []) := plainElem_int Tryz.underlying3 h
theorem many_any (w : World) : Calls Tryz.prog 52 #[] w (RetMany w) := by
 have hmk := @run_makeMap Tryz.prog
 have e1 := elI 1 (by decide)
 have e2 := elI 2 (by decide)
 have E1 := Lib.hid e1
 have E2 := Lib.hid e2
 clear e1 e2
 go_enter Tryz.func52, Tryz.ntmps52
 go_wp2_with (refine wpList_insert_own _ rfl (.tmp 1) _ _ 99 rfl 9 3 lawS Tryz.underlying99 (plainElem Tryz.prog 3) w.heap.size 0 (.map []) rfl (World.ownsMap_made ..) (by unfold maxLen; omega) _ _ (keyS bDrop) rfl rfl (keyOfS (by decide)) (.lit (.int .i64 1)) [] E1.out ?_; refine stop_here ?_)
 refine Stop.go ?_
 intro w1 h1 g1
 refine wpList_insert_own _ rfl (.tmp 1) _ _ 99 rfl 9 3 lawS Tryz.underlying99 (plainElem Tryz.prog 3) w.heap.size 1 _ rfl h1 (by unfold maxLen; omega) _ _ (keyS bRename) rfl rfl (keyOfS (by decide)) (.lit (.int .i64 2)) [] E2.out ?_
 intro w2 h2 g2
 refine wpList_insert_own _ rfl (.tmp 1) _ _ 99 rfl 9 3 lawS Tryz.underlying99 (plainElem Tryz.prog 3) w.heap.size 2 _ rfl h2 (by unfold maxLen; omega) _ _ (keyS bMove) rfl rfl (keyOfS (by decide)) (.lit (.int .i64 2)) [] E2.out ?_
 intro w3 h3 g3
 refine wpList_insert_own _ rfl (.tmp 1) _ _ 99 rfl 9 3 lawS Tryz.underlying99 (plainElem Tryz.prog 3) w.heap.size 3 _ rfl h3 (by unfold maxLen; omega) _ _ (keyS bWiden) rfl rfl (keyOfS (by decide)) (.lit (.int .i64 1)) [] E1.out ?_
 intro w4 h4 g4
 refine wpList_insert_own _ rfl (.tmp 1) _ _ 99 rfl 9 3 lawS Tryz.underlying99 (plainElem Tryz.prog 3) w.heap.size 4 _ rfl h4 (by unfold maxLen; omega) _ _ (keyS bLoosen) rfl rfl (keyOfS (by decide)) (.lit (.int .i64 1)) [] E1.out ?_
 intro w5 h5 g5
 have hc : Chg NoB w w5 := by
  have a0 : Chg NoB w (w.alloc (.map #[] 0)) := (Chg.refl _ _).alloc _
  have a1 := chg_more a0 g1
  have a2 := chg_more a1 g2
  have a3 := chg_more a2 g3
  have a4 := chg_more a3 g4
  exact chg_more a4 g5
 have HD := Lib.hid many_D
 have H5 := Lib.hid h5
 clear h1 h2 h3 h4 h5
 go_wp2_with fail
 go_ret
 exact ⟨w.heap.size, _, rfl, H5.out, HD.out, hc⟩
theorem isNameE_any (s : ByteArray) (w : World) (hs : s.size ≤ 9223372036854775807) :
  Calls Tryz.prog 56 #[.string s] w (RetV (.bool (isNameB s)) w) := by
 by_cases h0 : s.size = 0
 ·have := empty_of_size h0
  subst this
  have h1 : isNameB ⟨#[]⟩ = false := by rfl
  go_enter Tryz.func56, Tryz.ntmps56
  go_wp2_with fail
  go_ret
  rw [h1]
  exact ⟨rfl, Chg.refl _ _⟩
 have hne : s.toList.isEmpty = false := toList_isEmpty h0
 by_cases h1 : s.size ≤ 12
 ·have h1' : (s.size : Int) ≤ 12 := by omega
  go_enter Tryz.func56, Tryz.ntmps56
  go_wp2_with fail
  refine (trim_letters s w hs).mono ?_
  rintro e w1 ⟨rfl, hc⟩
  have hc1 := Chg.ofBelow hc
  clear hc
  have key : isNameB s = (Lib.trimS s.data.toList letters).isEmpty := by
   have h2 := trimS_nil s.data.toList letters
   simp only [letters_contains] at h2
   unfold isNameB
   rw [decide_eq_true h0, decide_eq_true h1, Bool.true_and, Bool.true_and, Bool.eq_iff_iff, ← h2]
   exact List.isEmpty_iff.symm
  have Key := Lib.hid key
  clear key
  generalize Lib.trimS s.data.toList letters = t at Key ⊢
  cases t with
  | nil =>
   go_wp2_with fail
   go_ret
   rw [Key.out]
   exact ⟨rfl, hc1⟩
  | cons x xs =>
   have hx : (⟨(x :: xs).toArray⟩ : ByteArray).toList.isEmpty = false := toList_isEmpty (by simp [ByteArray.size])
   go_wp2_with fail
   go_ret
   rw [Key.out]
   exact ⟨rfl, hc1⟩
 ·have h1' : ¬ (s.size : Int) ≤ 12 := by omega
  have h2 : isNameB s = false := by simp [isNameB, h1]
  go_enter Tryz.func56, Tryz.ntmps56
  go_wp2_with fail
  go_ret
  exact ⟨rfl, Chg.refl _ _⟩
def dval : List UInt8 → Int → Int
 | [], n => n
 | c :: r, n => dval r (n * 10 + ((c.toNat : Int) - 48))
theorem digit_nat {c : UInt8} (h : digits.contains c = true) : 48 ≤ c.toNat ∧ c.toNat ≤ 57 := by
 simp only [digits, List.contains_iff_mem, List.mem_cons, List.not_mem_nil, or_false] at h
 rcases h with rfl | rfl | rfl | rfl | rfl | rfl | rfl | rfl | rfl | rfl <;> decide
theorem dec_dval : ∀ (l : List UInt8) (acc : Nat), l.all (digits.contains ·) = true → ∃ m : Nat, Lib.decFrom acc l = some m ∧ (m : Int) = dval l (acc : Int) ∧ acc ≤ m
 | [], acc, _ => ⟨acc, rfl, rfl, Nat.le_refl _⟩
 | c :: r, acc, h => by
  simp only [List.all_cons, Bool.and_eq_true] at h
  have hc := digit_nat h.1
  obtain ⟨m, h1, h2, h3⟩ := dec_dval r (acc * 10 + (c.toNat - 48)) h.2
  refine ⟨m, ?_, ?_, by omega⟩
  ·simp only [Lib.decFrom, Lib.digitVal]
   rw [if_pos hc]
   exact h1
  ·rw [h2]
   simp only [dval]
   congr 1
   omega
theorem numOk_digits {ds : List UInt8} (ha : ds.all (digits.contains ·) = true) (hl : ds.length ≤ 4) (hne : ds ≠ []) : numOk ds = some (dval ds 0) := by
 obtain ⟨m, h1, h2, _⟩ := dec_dval ds 0 ha
 unfold numOk
 rw [Lib.atoiAll_short ds (by omega)]
 cases ds with
 | nil => exact absurd rfl hne
 | cons b r =>
  simp only [List.all_cons, Bool.and_eq_true] at ha
  have hb := digit_nat ha.1
  have e1 : (b == 45) = false := by rw [beq_eq_false_iff_ne]; intro e; subst e; exact absurd hb (by decide)
  have e2 : (b == 43) = false := by rw [beq_eq_false_iff_ne]; intro e; subst e; exact absurd hb (by decide)
  have h3 : Lib.atoi (b :: r) = some (m : Int) := by
   simp only [Lib.atoi, e1, e2, Lib.decNat, List.isEmpty_cons, h1]
   rfl
  rw [h3]
  simp only [Lib.NumEnd.ofOption]
  rw [h2]
  rfl
abbrev Kn := Nd × Int
mutual
def knN (a : Int) : Nd → List Kn
 | .mk i n r k s => (.mk i n r k s, a) :: knL i s
def knL (a : Int) : List Nd → List Kn
 | [] => []
 | n :: ns => knN a n ++ knL a ns
end
theorem knL_append (a : Int) : ∀ (l m : List Nd), knL a (l ++ m) = knL a l ++ knL a m
 | [], m => rfl
 | n :: ns, m => by simp only [List.cons_append, knL, knL_append a ns m, List.append_assoc]
mutual
theorem knN_ids : ∀ (a : Int) (n : Nd), (knN a n).map (fun x => x.1.id) = idsN n
 | a, .mk i n r k s => by
  simp only [knN, idsN, List.map_cons]
  rw [knL_ids i s]
  rfl
theorem knL_ids : ∀ (a : Int) (l : List Nd), (knL a l).map (fun x => x.1.id) = idsL l
 | a, [] => rfl
 | a, n :: ns => by simp only [knL, idsL, List.map_append, knN_ids a n, knL_ids a ns]
end
def knOf (nd : Nd) : List Kn := knL nd.id nd.sub
def pairB (x y : Kn) : Bool := (decide (x.1.kind = y.1.kind) || (decide (x.1.kind = 2) && decide (y.1.kind = 3))) && (decide (x.1.rep = y.1.rep) || (decide (x.1.rep = 1) && decide (y.1.rep = 2))) && decide (x.2 = y.2)
def sameF (A B : List Kn) : Bool := A.all fun x => B.all fun y => !decide (x.1.id = y.1.id) || pairB x y
def seekF (B : List Kn) (i : Int) : Option Kn := B.find? (fun y => decide (y.1.id = i))
theorem seek_some {B : List Kn} {i : Int} {y : Kn} (h : seekF B i = some y) : y ∈ B ∧ y.1.id = i := by
 unfold seekF at h
 exact ⟨List.mem_of_find?_eq_some h, by simpa using List.find?_some h⟩
theorem seek_none {B : List Kn} {i : Int} (h : seekF B i = none) : ∀ y ∈ B, y.1.id ≠ i := by
 unfold seekF at h
 intro y hy
 have := List.find?_eq_none.1 h y hy
 simpa using this
theorem eq_of_kid : ∀ {B : List Kn}, (B.map fun x => x.1.id).Nodup → ∀ {x y : Kn}, x ∈ B → y ∈ B → x.1.id = y.1.id → x = y
 | [], _, _, _, hx, _, _ => by cases hx
 | b :: bs, hn, x, y, hx, hy, he => by
  simp only [List.map_cons, List.nodup_cons] at hn
  rcases List.mem_cons.1 hx with e1 | h1
  ·rcases List.mem_cons.1 hy with e2 | h2
   ·rw [e1, e2]
   ·exact absurd (List.mem_map.2 ⟨y, h2, by rw [← he, e1]⟩) hn.1
  ·rcases List.mem_cons.1 hy with e2 | h2
   ·exact absurd (List.mem_map.2 ⟨x, h1, by rw [he, e2]⟩) hn.1
   ·exact eq_of_kid hn.2 h1 h2 he
def oneF (B : List Kn) (x : Kn) : Bool := match seekF B x.1.id with
 | none => true
 | some y => pairB x y
theorem oneF_eq {B : List Kn} (hB : (B.map fun x => x.1.id).Nodup) (x : Kn) : oneF B x = B.all fun y => !decide (x.1.id = y.1.id) || pairB x y := by
 unfold oneF
 cases hs : seekF B x.1.id with
 | none =>
  have hn := seek_none hs
  symm
  rw [List.all_eq_true]
  intro y hy
  have : ¬ x.1.id = y.1.id := fun e => hn y hy e.symm
  simp [this]
 | some y =>
  obtain ⟨hy, hid⟩ := seek_some hs
  simp only []
  rw [Bool.eq_iff_iff, List.all_eq_true]
  constructor
  ·intro hp z hz
   by_cases he : x.1.id = z.1.id
   ·have : z = y := eq_of_kid hB hz hy (he.symm.trans hid.symm)
    subst this
    simp [he, hp]
   ·simp [he]
  ·intro h
   have := h y hy
   simpa [hid] using this
theorem sameF_eq {A B : List Kn} (hB : (B.map fun x => x.1.id).Nodup) : sameF A B = A.all (oneF B) := by
 unfold sameF
 congr 1
 funext x
 exact (oneF_eq hB x).symm
end Go.Proofs.YtgcmfpcgmkkobaaGreatDoor
