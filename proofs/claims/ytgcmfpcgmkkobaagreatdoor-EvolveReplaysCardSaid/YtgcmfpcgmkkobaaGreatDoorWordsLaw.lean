/-
  A tree edited at the node with an ID: the plain law behind evolve.at.; evolve.many: how many words each edit has, a map by names; evolve.isName.; A schema's text by its words (WordsOf, NumberOf): the plain law against the reader's own.; The document's items as they lie in memory; at, without.; What SchemaError tells is what Valid tells: the plain law.
-/
import Derived.Test.YtgcmfpcgmkkobaaGreatDoorProj
import Derived.Test.YtgcmfpcgmkkobaaGreatDoorValid2
import Derived.Maps.Own
import Derived.Maps.OwnSet
import Derived.Carry
import Derived.Test.YtgcmfpcgmkkobaaGreatDoorRead
import Derived.Lib.AtoiTie
import Derived.Test.YtgcmfpcgmkkobaaGreatDoorTreeMore
import Derived.Test.YtgcmfpcgmkkobaaGreatDoorTwiceP
set_option linter.unusedVariables false
set_option maxHeartbeats 20000000
set_option maxRecDepth 100000
set_option linter.unusedSimpArgs false
namespace Go.Proofs.YtgcmfpcgmkkobaaGreatDoor
open Go.RowKit
def Nd.withSub (n : Nd) (s : List Nd) : Nd := match n with | .mk i nm r k _ => .mk i nm r k s
mutual
def grpN (id : Int) (g : List Nd → List Nd) : Nd → Nd
 | .mk i n r k s => .mk i n r k (if (s.any fun c => decide (c.id = id)) = true then g s else grpL id g s)
def grpL (id : Int) (g : List Nd → List Nd) : List Nd → List Nd
 | [] => []
 | n :: ns => grpN id g n :: grpL id g ns
end
def grpT (id : Int) (g : List Nd → List Nd) (s : List Nd) : List Nd := if (s.any fun c => decide (c.id = id)) = true then g s else grpL id g s
theorem grpN_eq (id : Int) (g : List Nd → List Nd) (n : Nd) : grpN id g n = n.withSub (grpT id g n.sub) := by cases n; simp only [grpN, grpT, Nd.withSub, Nd.sub] <;> rfl
theorem grpL_eq (id : Int) (g : List Nd → List Nd) : ∀ l : List Nd, grpL id g l = l.map (grpN id g)
 | [] => rfl
 | n :: ns => by simp [grpL, grpL_eq id g ns]
theorem id_in_ids {c : Nd} : ∀ {l : List Nd}, c ∈ l → c.id ∈ idsL l
 | [], h => by cases h
 | x :: xs, h => by
  simp only [idsL, List.mem_append]
  rcases List.mem_cons.1 h with rfl | h
  ·left; cases c; simp [idsN, Nd.id]
  ·exact .inr (id_in_ids h)
theorem sub_in_ids {c : Nd} {x : Int} : ∀ {l : List Nd}, c ∈ l → x ∈ idsL c.sub → x ∈ idsL l
 | [], h, _ => by cases h
 | y :: ys, h, hx => by
  simp only [idsL, List.mem_append]
  rcases List.mem_cons.1 h with rfl | h
  ·left; cases c; simp only [idsN, List.mem_cons]; exact .inr hx
  ·exact .inr (sub_in_ids h hx)
theorem any_id {id : Int} {s : List Nd} : (s.any fun c => decide (c.id = id)) = true ↔ ∃ c ∈ s, c.id = id := by
 rw [List.any_eq_true]
 exact ⟨fun ⟨c, h1, h2⟩ => ⟨c, h1, of_decide_eq_true h2⟩, fun ⟨c, h1, h2⟩ => ⟨c, h1, decide_eq_true h2⟩⟩
mutual
theorem grpN_no (id : Int) (g : List Nd → List Nd) : ∀ n : Nd, id ∉ idsL n.sub → grpN id g n = n
 | .mk i nm r k s, h => by
  simp only [Nd.sub] at h
  have h1 : ¬ (s.any fun c => decide (c.id = id)) = true := fun e => by
   obtain ⟨c, hc, rfl⟩ := any_id.1 e
   exact h (id_in_ids hc)
  rw [grpN, if_neg h1, grpL_no id g s h]
theorem grpL_no (id : Int) (g : List Nd → List Nd) : ∀ l : List Nd, id ∉ idsL l → grpL id g l = l
 | [], _ => rfl
 | n :: ns, h => by
  simp only [idsL, List.mem_append, not_or] at h
  rw [grpL, grpN_no id g n (fun e => h.1 (by cases n; simp only [idsN, List.mem_cons, Nd.sub] at e ⊢; exact .inr e)), grpL_no id g ns h.2]
end
theorem nodup_mid {l1 l2 : List Nd} {c : Nd} (h : (idsL (l1 ++ c :: l2)).Nodup) : (idsN c).Nodup ∧ ∀ x ∈ idsN c, x ∉ idsL l1 ∧ x ∉ idsL l2 := by
 rw [idsL_append] at h
 simp only [idsL] at h
 rw [List.nodup_append, List.nodup_append] at h
 obtain ⟨h1, ⟨h2, h3, h4⟩, h5⟩ := h
 exact ⟨h2, fun x hx => ⟨fun e => h5 x e x (List.mem_append_left _ hx) rfl, fun e => h4 x hx x e rfl⟩⟩
theorem holds_grp {id : Int} : ∀ {n h : Nd} {C : Nd → Nd}, Holds n h C → ∀ {j : Nat} {q : Nd}, h.sub[j]? = some q → q.id = id → (idsL n.sub).Nodup → (id ∈ idsL n.sub) ∧ ∀ g, C (h.withSub (g h.sub)) = n.withSub (grpT id g n.sub) := by
 intro n h C hH
 induction hH with
 | here n =>
  intro j q hq hid hn
  have hm := List.mem_of_getElem? hq
  refine ⟨hid ▸ id_in_ids hm, fun g => ?_⟩
  unfold grpT
  rw [if_pos (any_id.2 ⟨q, hm, hid⟩)]
 | down hj hH ih =>
  rename_i i nm r k s jj c hh C
  intro j q hq hid hn
  simp only [Nd.sub] at hn
  obtain ⟨l1, l2, rfl, rfl, hset⟩ := list_split hj
  obtain ⟨h1, h2⟩ := nodup_mid hn
  have hcn : (idsL c.sub).Nodup := by cases c; simp only [idsN, List.nodup_cons] at h1; exact h1.2
  obtain ⟨k1, k2⟩ := ih hq hid hcn
  have hidc : id ∈ idsN c := by cases c; simp only [idsN, List.mem_cons]; exact .inr k1
  have hcne : c.id ≠ id := fun e => by
   cases c
   simp only [idsN, List.nodup_cons, Nd.id, Nd.sub] at h1 e k1
   exact h1.1 (e ▸ k1)
  refine ⟨sub_in_ids (List.mem_append_right _ (List.mem_cons_self ..)) k1, fun g => ?_⟩
  have hno : ¬ ((l1 ++ c :: l2).any fun c => decide (c.id = id)) = true := fun e => by
   obtain ⟨x, hx, hxi⟩ := any_id.1 e
   rcases List.mem_append.1 hx with hx | hx
   ·exact (h2 id hidc).1 (hxi ▸ id_in_ids hx)
   ·rcases List.mem_cons.1 hx with rfl | hx
    ·exact hcne hxi
    ·exact (h2 id hidc).2 (hxi ▸ id_in_ids hx)
  show Nd.mk i nm r k ((l1 ++ c :: l2).set l1.length (C (hh.withSub (g hh.sub)))) = Nd.mk i nm r k (grpT id g (l1 ++ c :: l2))
  unfold grpT
  rw [if_neg hno, hset, k2 g, grpL_eq, List.map_append, List.map_cons, ← grpL_eq, ← grpL_eq, grpL_no id g l1 (h2 id hidc).1, grpL_no id g l2 (h2 id hidc).2, grpN_eq]
mutual
def fndN (id : Int) : Nd → Option Nd
 | .mk i n r k s => if i = id then some (.mk i n r k s) else fndL id s
def fndL (id : Int) : List Nd → Option Nd
 | [] => none
 | n :: ns => match fndN id n with
  | some x => some x
  | none => fndL id ns
end
mutual
theorem fndN_no (id : Int) : ∀ n : Nd, id ∉ idsN n → fndN id n = none
 | .mk i nm r k s, h => by
  simp only [idsN, List.mem_cons, not_or] at h
  rw [fndN, if_neg (fun e => h.1 e.symm), fndL_no id s h.2]
theorem fndL_no (id : Int) : ∀ l : List Nd, id ∉ idsL l → fndL id l = none
 | [], _ => rfl
 | n :: ns, h => by
  simp only [idsL, List.mem_append, not_or] at h
  rw [fndL, fndN_no id n h.1]
  exact fndL_no id ns h.2
end
theorem fndL_skip {id : Int} {c : Nd} (l2 : List Nd) : ∀ l1 : List Nd, id ∉ idsL l1 → fndL id (l1 ++ c :: l2) = match fndN id c with | some x => some x | none => fndL id l2
 | [], _ => rfl
 | n :: ns, h => by
  simp only [idsL, List.mem_append, not_or] at h
  rw [List.cons_append, fndL, fndN_no id n h.1]
  exact fndL_skip l2 ns h.2
theorem holds_fnd {id : Int} : ∀ {n h : Nd} {C : Nd → Nd}, Holds n h C → ∀ {j : Nat} {q : Nd}, h.sub[j]? = some q → q.id = id → (idsL n.sub).Nodup → fndL id n.sub = some q := by
 intro n h C hH
 induction hH with
 | here n =>
  intro j q hq hid hn
  obtain ⟨l1, l2, hs, rfl, _⟩ := list_split hq
  rw [hs] at hn ⊢
  obtain ⟨h1, h2⟩ := nodup_mid hn
  have hidq : id ∈ idsN q := by cases q; simp only [idsN, List.mem_cons]; exact .inl hid.symm
  rw [fndL_skip l2 l1 (h2 id hidq).1]
  cases q
  simp only [Nd.id] at hid
  rw [fndN, if_pos hid]
 | down hj hH ih =>
  rename_i i nm r k s jj c hh C
  intro j q hq hid hn
  simp only [Nd.sub] at hn ⊢
  have hk := (holds_grp hH hq hid (by
   obtain ⟨l1, l2, rfl, rfl, _⟩ := list_split hj
   have h1 := (nodup_mid hn).1
   cases c; simp only [idsN, List.nodup_cons] at h1; exact h1.2)).1
  obtain ⟨l1, l2, rfl, rfl, hset⟩ := list_split hj
  obtain ⟨h1, h2⟩ := nodup_mid hn
  have hcn : (idsL c.sub).Nodup := by cases c; simp only [idsN, List.nodup_cons] at h1; exact h1.2
  have hidc : id ∈ idsN c := by cases c; simp only [idsN, List.mem_cons]; exact .inr hk
  rw [fndL_skip l2 l1 (h2 id hidc).1]
  have h9 := ih hq hid hcn
  cases c
  simp only [idsN, List.nodup_cons, Nd.sub] at h1 hk h9
  rename_i ci cn cr ck cs
  rw [fndN, if_neg (fun e : ci = id => h1.1 (by rw [e]; exact hk)), h9]
def setId (id : Int) (f : Nd → Nd) (s : List Nd) : List Nd := s.map fun c => if c.id = id then f c else c
theorem setId_no {id : Int} {f : Nd → Nd} : ∀ {s : List Nd}, id ∉ idsL s → setId id f s = s
 | [], _ => rfl
 | n :: ns, h => by
  simp only [idsL, List.mem_append, not_or] at h
  have h1 : n.id ≠ id := fun e => h.1 (by cases n; simp only [idsN, List.mem_cons]; exact .inl e.symm)
  unfold setId
  rw [List.map_cons, if_neg h1]
  congr 1
  exact setId_no h.2
theorem setId_set {id : Int} {f : Nd → Nd} {s : List Nd} {j : Nat} {q : Nd} (hj : s[j]? = some q) (hid : q.id = id) (hn : (idsL s).Nodup) : setId id f s = s.set j (f q) := by
 obtain ⟨l1, l2, rfl, rfl, hset⟩ := list_split hj
 obtain ⟨h1, h2⟩ := nodup_mid hn
 have hidq : id ∈ idsN q := by cases q; simp only [idsN, List.mem_cons]; exact .inl hid.symm
 rw [hset]
 unfold setId
 rw [List.map_append, List.map_cons, if_pos hid]
 have e1 := setId_no (f := f) (h2 id hidq).1
 have e2 := setId_no (f := f) (h2 id hidq).2
 unfold setId at e1 e2
 rw [e1, e2]
theorem holds_nodup : ∀ {n h : Nd} {C : Nd → Nd}, Holds n h C → (idsL n.sub).Nodup → (idsL h.sub).Nodup := by
 intro n h C hH
 induction hH with
 | here n => exact id
 | down hj hH ih =>
  rename_i i nm r k s jj c hh C
  intro hn
  replace hn : (idsL s).Nodup := hn
  obtain ⟨l1, l2, rfl, rfl, _⟩ := list_split hj
  have h1 := (nodup_mid hn).1
  refine ih ?_
  cases c
  simp only [idsN, List.nodup_cons] at h1
  exact h1.2
theorem lawS : Go.Maps.Keyed Tryz.prog 9 := Go.Maps.string_keyed Tryz.underlying9
theorem zeroI (w : World) : (zeroValue 3).run Tryz.prog w = .ok (.int .i64 0) w := by kernel_rfl
def SM (w : World) (b n : Nat) (D : DataW Value) : Prop := w.ownsMap Tryz.prog 9 (plainElem Tryz.prog 3) b n D
theorem SM.lt {w : World} {b n : Nat} {D : DataW Value} (h : SM w b n D) : b < w.heap.size := World.ownsMap.lt h
section
variable {H : Type} {P : Program}
theorem wpList_insert_own (w : World) {ops : Array Oper} {rest : List Oper} {o : Oper} {a : Act} {Q : Exit → Act → World → Prop}
  (hg : o.guard = none) (m x v : Operand) (t : TypeId) (hop : o.op = Op.insert t m x v)
  (k e : TypeId) (K : Go.Maps.Keyed P k) (ht : P.underlying t = some (.map k e)) (R : Value → Option (DataW H × List MemPlace)) (b n : Nat) (D : DataW H)
  (hm : a.eval m = .map (some b)) (hown : w.ownsMap P k R b n D) (hn : n < maxLen) (key val : Value) (kl : Lit) (hx : a.eval x = key) (hv : a.eval v = val) (hkey : keyOf P k key = some kl)
  (d : DataW H) (ps : List MemPlace) (hval : R val = some (d, ps))
  (hK : ∀ w', w'.ownsMap P k R b (n + 1) (D.put kl d) → w.grownBy w' (some b) → wpList P ops Q rest (a.put o.dst undef) w') :
  wpList P ops Q (o :: rest) a w := by
 refine wpList_plain hg fun K' hK' => ?_
 obtain ⟨w', hrun, r1, r2⟩ := hown.update K ht hn hkey hval
 unfold Oper.wp
 simp [execOp, hop, hm, hx, hv, hrun, Result.andThen]
 exact hK' _ _ (hK w' r1 r2)
end
def bDrop : ByteArray := ⟨#[100, 114, 111, 112]⟩
def bRename : ByteArray := ⟨#[114, 101, 110, 97, 109, 101]⟩
def bMove : ByteArray := ⟨#[109, 111, 118, 101]⟩
def bWiden : ByteArray := ⟨#[119, 105, 100, 101, 110]⟩
def bLoosen : ByteArray := ⟨#[108, 111, 111, 115, 101, 110]⟩
def keyS (s : ByteArray) : Lit := .string s.data.toList
theorem keyS_inj {a b : ByteArray} (h : keyS a = keyS b) : a = b := by
 unfold keyS at h
 injection h with h
 cases a; cases b
 simp only at h
 rw [Array.toList_inj.1 h]
theorem keyOfS {s : ByteArray} (h : s.size ≤ maxLen) : keyOf Tryz.prog 9 (.string s) = some (keyS s) := Go.WideMaps.keyOf_string_mk Tryz.underlying9 h
def manyF (s : ByteArray) : Option Int := if s = bDrop then some 1 else if s = bRename then some 2 else if s = bMove then some 2 else if s = bWiden then some 1 else if s = bLoosen then some 1 else none
def ManyD (D : DataW Value) : Prop := ∀ s : ByteArray, Go.Maps.has D (keyS s) = (manyF s).isSome ∧ ∀ n, manyF s = some n → ∀ z, D.atKey (keyS s) z = .lit (.int .i64 n)
def putI (D : DataW Value) (s : ByteArray) (n : Int) : DataW Value := D.put (keyS s) (.lit (.int .i64 n))
theorem many_D : ManyD (putI (putI (putI (putI (putI (.map []) bDrop 1) bRename 2) bMove 2) bWiden 1) bLoosen 1) := by
 have m0 : Go.Maps.IsMap (.map [] : DataW Value) := Go.Maps.isMap_empty
 have m1 : Go.Maps.IsMap (putI (.map []) bDrop 1) := m0.put _ _
 have m2 := m1.put (keyS bRename) (.lit (.int .i64 2))
 have m3 := m2.put (keyS bMove) (.lit (.int .i64 2))
 have m4 := m3.put (keyS bWiden) (.lit (.int .i64 1))
 have hk : ∀ s : ByteArray, WideAt.IsKeyLit (keyS s) := fun _ => trivial
 intro s
 unfold manyF
 by_cases h5 : s = bLoosen
 ·subst h5
  rw [if_neg (by decide), if_neg (by decide), if_neg (by decide), if_neg (by decide), if_pos rfl]
  exact ⟨Go.Maps.has_put_same m4 (hk _) _, fun n hn z => by obtain rfl := Option.some.inj hn; exact Go.Maps.atKey_put_same m4 (hk _) _ _⟩
 have n5 : keyS s ≠ keyS bLoosen := fun e => h5 (keyS_inj e)
 by_cases h4 : s = bWiden
 ·subst h4
  rw [if_neg (by decide), if_neg (by decide), if_neg (by decide), if_pos rfl]
  refine ⟨?_, fun n hn z => ?_⟩
  ·unfold putI; rw [Go.Maps.has_put_other n5]; exact Go.Maps.has_put_same m3 (hk _) _
  ·obtain rfl := Option.some.inj hn; unfold putI; rw [Go.Maps.atKey_put_other n5]; exact Go.Maps.atKey_put_same m3 (hk _) _ _
 have n4 : keyS s ≠ keyS bWiden := fun e => h4 (keyS_inj e)
 by_cases h3 : s = bMove
 ·subst h3
  rw [if_neg (by decide), if_neg (by decide), if_pos rfl]
  refine ⟨?_, fun n hn z => ?_⟩
  ·unfold putI; rw [Go.Maps.has_put_other n5, Go.Maps.has_put_other n4]; exact Go.Maps.has_put_same m2 (hk _) _
  ·obtain rfl := Option.some.inj hn; unfold putI; rw [Go.Maps.atKey_put_other n5, Go.Maps.atKey_put_other n4]; exact Go.Maps.atKey_put_same m2 (hk _) _ _
 have n3 : keyS s ≠ keyS bMove := fun e => h3 (keyS_inj e)
 by_cases h2 : s = bRename
 ·subst h2
  rw [if_neg (by decide), if_pos rfl]
  refine ⟨?_, fun n hn z => ?_⟩
  ·unfold putI; rw [Go.Maps.has_put_other n5, Go.Maps.has_put_other n4, Go.Maps.has_put_other n3]; exact Go.Maps.has_put_same m1 (hk _) _
  ·obtain rfl := Option.some.inj hn; unfold putI; rw [Go.Maps.atKey_put_other n5, Go.Maps.atKey_put_other n4, Go.Maps.atKey_put_other n3]; exact Go.Maps.atKey_put_same m1 (hk _) _ _
 have n2 : keyS s ≠ keyS bRename := fun e => h2 (keyS_inj e)
 by_cases h1 : s = bDrop
 ·subst h1
  rw [if_pos rfl]
  refine ⟨?_, fun n hn z => ?_⟩
  ·unfold putI; rw [Go.Maps.has_put_other n5, Go.Maps.has_put_other n4, Go.Maps.has_put_other n3, Go.Maps.has_put_other n2]; exact Go.Maps.has_put_same m0 (hk _) _
  ·obtain rfl := Option.some.inj hn; unfold putI; rw [Go.Maps.atKey_put_other n5, Go.Maps.atKey_put_other n4, Go.Maps.atKey_put_other n3, Go.Maps.atKey_put_other n2]; exact Go.Maps.atKey_put_same m0 (hk _) _ _
 have n1 : keyS s ≠ keyS bDrop := fun e => h1 (keyS_inj e)
 rw [if_neg h1, if_neg h2, if_neg h3, if_neg h4, if_neg h5]
 refine ⟨?_, fun n hn => by cases hn⟩
 unfold putI
 rw [Go.Maps.has_put_other n5, Go.Maps.has_put_other n4, Go.Maps.has_put_other n3, Go.Maps.has_put_other n2, Go.Maps.has_put_other n1]
 rfl
theorem chg_more {w a b : World} (h : Chg NoB w a) {B : Nat} (hg : a.grownBy b (some B)) (hB : w.heap.size ≤ B := by simp) : Chg NoB w b :=
 h.trans (C := NoB) (D := OneB B) ((Chg.refl (OneB B) a).grown hg (fun k hk => .inl (Option.some.inj hk).symm)) (fun i hi => .inr (by have e : i = B := hi; omega))
def RetMany (w : World) (en : Ending) (w' : World) : Prop := ∃ b D, en = .returned (.map (some b)) ∧ SM w' b 5 D ∧ ManyD D ∧ Chg NoB w w'
theorem elI (n : Int) (h : (Lit.int .i64 n).wf = true) : plainElem (H := Value) Tryz.prog 3 (.int .i64 n) = some (.lit (.int .i64 n), []) := plainElem_int Tryz.underlying3 h
theorem many_any (w : World) : Calls Tryz.prog 52 #[] w (RetMany w) := by
 have hmk := @run_makeMap Tryz.prog
 have e1 := elI 1 (by decide)
 have e2 := elI 2 (by decide)
 have E1 := Lib.hid e1
 have E2 := Lib.hid e2
 clear e1 e2
 go_enter Tryz.func52, Tryz.ntmps52
 go_wp2_with (refine wpList_insert_own _ rfl (.tmp 1) _ _ 99 rfl 9 3 lawS Tryz.underlying99 (plainElem Tryz.prog 3) w.heap.size 0 (.map []) rfl (World.ownsMap_made ..) (by unfold maxLen; omega) _ _ (keyS bDrop) rfl rfl (keyOfS (by decide)) (.lit (.int .i64 1)) [] E1.out ?_; refine stop_here ?_)
 refine Stop.go ?_
 intro w1 h1 g1
 refine wpList_insert_own _ rfl (.tmp 1) _ _ 99 rfl 9 3 lawS Tryz.underlying99 (plainElem Tryz.prog 3) w.heap.size 1 _ rfl h1 (by unfold maxLen; omega) _ _ (keyS bRename) rfl rfl (keyOfS (by decide)) (.lit (.int .i64 2)) [] E2.out ?_
 intro w2 h2 g2
 refine wpList_insert_own _ rfl (.tmp 1) _ _ 99 rfl 9 3 lawS Tryz.underlying99 (plainElem Tryz.prog 3) w.heap.size 2 _ rfl h2 (by unfold maxLen; omega) _ _ (keyS bMove) rfl rfl (keyOfS (by decide)) (.lit (.int .i64 2)) [] E2.out ?_
 intro w3 h3 g3
 refine wpList_insert_own _ rfl (.tmp 1) _ _ 99 rfl 9 3 lawS Tryz.underlying99 (plainElem Tryz.prog 3) w.heap.size 3 _ rfl h3 (by unfold maxLen; omega) _ _ (keyS bWiden) rfl rfl (keyOfS (by decide)) (.lit (.int .i64 1)) [] E1.out ?_
 intro w4 h4 g4
 refine wpList_insert_own _ rfl (.tmp 1) _ _ 99 rfl 9 3 lawS Tryz.underlying99 (plainElem Tryz.prog 3) w.heap.size 4 _ rfl h4 (by unfold maxLen; omega) _ _ (keyS bLoosen) rfl rfl (keyOfS (by decide)) (.lit (.int .i64 1)) [] E1.out ?_
 intro w5 h5 g5
 have hc : Chg NoB w w5 := by
  have a0 : Chg NoB w (w.alloc (.map #[] 0)) := (Chg.refl _ _).alloc _
  have a1 := chg_more a0 g1
  have a2 := chg_more a1 g2
  have a3 := chg_more a2 g3
  have a4 := chg_more a3 g4
  exact chg_more a4 g5
 have HD := Lib.hid many_D
 have H5 := Lib.hid h5
 clear h1 h2 h3 h4 h5
 go_wp2_with fail
 go_ret
 exact ⟨w.heap.size, _, rfl, H5.out, HD.out, hc⟩
theorem isNameE_any (s : ByteArray) (w : World) (hs : s.size ≤ 9223372036854775807) :
  Calls Tryz.prog 56 #[.string s] w (RetV (.bool (isNameB s)) w) := by
 by_cases h0 : s.size = 0
 ·have := empty_of_size h0
  subst this
  have h1 : isNameB ⟨#[]⟩ = false := by rfl
  go_enter Tryz.func56, Tryz.ntmps56
  go_wp2_with fail
  go_ret
  rw [h1]
  exact ⟨rfl, Chg.refl _ _⟩
 have hne : s.toList.isEmpty = false := toList_isEmpty h0
 by_cases h1 : s.size ≤ 12
 ·have h1' : (s.size : Int) ≤ 12 := by omega
  go_enter Tryz.func56, Tryz.ntmps56
  go_wp2_with fail
  refine (trim_letters s w hs).mono ?_
  rintro e w1 ⟨rfl, hc⟩
  have hc1 := Chg.ofBelow hc
  clear hc
  have key : isNameB s = (Lib.trimS s.data.toList letters).isEmpty := by
   have h2 := trimS_nil s.data.toList letters
   simp only [letters_contains] at h2
   unfold isNameB
   rw [decide_eq_true h0, decide_eq_true h1, Bool.true_and, Bool.true_and, Bool.eq_iff_iff, ← h2]
   exact List.isEmpty_iff.symm
  have Key := Lib.hid key
  clear key
  generalize Lib.trimS s.data.toList letters = t at Key ⊢
  cases t with
  | nil =>
   go_wp2_with fail
   go_ret
   rw [Key.out]
   exact ⟨rfl, hc1⟩
  | cons x xs =>
   have hx : (⟨(x :: xs).toArray⟩ : ByteArray).toList.isEmpty = false := toList_isEmpty (by simp [ByteArray.size])
   go_wp2_with fail
   go_ret
   rw [Key.out]
   exact ⟨rfl, hc1⟩
 ·have h1' : ¬ (s.size : Int) ≤ 12 := by omega
  have h2 : isNameB s = false := by simp [isNameB, h1]
  go_enter Tryz.func56, Tryz.ntmps56
  go_wp2_with fail
  go_ret
  exact ⟨rfl, Chg.refl _ _⟩
def dval : List UInt8 → Int → Int
 | [], n => n
 | c :: r, n => dval r (n * 10 + ((c.toNat : Int) - 48))
theorem dval_snoc : ∀ (l : List UInt8) (c : UInt8) (n : Int), dval (l ++ [c]) n = dval l n * 10 + ((c.toNat : Int) - 48)
 | [], c, n => rfl
 | x :: xs, c, n => by simp only [List.cons_append, dval]; exact dval_snoc xs c _
def numberF (ds : List UInt8) : Int := if 4 < ds.length then -1 else if ds = [] ∨ (1 < ds.length ∧ ds.head? = some 48) then -1 else dval ds 0
theorem digit_nat {c : UInt8} (h : digits.contains c = true) : 48 ≤ c.toNat ∧ c.toNat ≤ 57 := by
 simp only [digits, List.contains_iff_mem, List.mem_cons, List.not_mem_nil, or_false] at h
 rcases h with rfl | rfl | rfl | rfl | rfl | rfl | rfl | rfl | rfl | rfl <;> decide
theorem dec_dval : ∀ (l : List UInt8) (acc : Nat), l.all (digits.contains ·) = true → ∃ m : Nat, Lib.decFrom acc l = some m ∧ (m : Int) = dval l (acc : Int) ∧ acc ≤ m
 | [], acc, _ => ⟨acc, rfl, rfl, Nat.le_refl _⟩
 | c :: r, acc, h => by
  simp only [List.all_cons, Bool.and_eq_true] at h
  have hc := digit_nat h.1
  obtain ⟨m, h1, h2, h3⟩ := dec_dval r (acc * 10 + (c.toNat - 48)) h.2
  refine ⟨m, ?_, ?_, by omega⟩
  ·simp only [Lib.decFrom, Lib.digitVal]
   rw [if_pos hc]
   exact h1
  ·rw [h2]
   simp only [dval]
   congr 1
   omega
theorem numOk_digits {ds : List UInt8} (ha : ds.all (digits.contains ·) = true) (hl : ds.length ≤ 4) (hne : ds ≠ []) : numOk ds = some (dval ds 0) := by
 obtain ⟨m, h1, h2, _⟩ := dec_dval ds 0 ha
 unfold numOk
 rw [Lib.atoiAll_short ds (by omega)]
 cases ds with
 | nil => exact absurd rfl hne
 | cons b r =>
  simp only [List.all_cons, Bool.and_eq_true] at ha
  have hb := digit_nat ha.1
  have e1 : (b == 45) = false := by rw [beq_eq_false_iff_ne]; intro e; subst e; exact absurd hb (by decide)
  have e2 : (b == 43) = false := by rw [beq_eq_false_iff_ne]; intro e; subst e; exact absurd hb (by decide)
  have h3 : Lib.atoi (b :: r) = some (m : Int) := by
   simp only [Lib.atoi, e1, e2, Lib.decNat, List.isEmpty_cons, h1]
   rfl
  rw [h3]
  simp only [Lib.NumEnd.ofOption]
  rw [h2]
  rfl
structure It where
 n : Nd
 ar : Int
def itCells (x : It) : List Value := [.int .i64 x.n.id, .string x.n.name, .int .i64 x.n.rep, .int .i64 x.n.kind, .slice none 0 0, .int .i64 x.ar]
def It.dt (x : It) : Dt := .agg ((itCells x).map Dt.lit)
theorem reads_it {w : World} {S : Nat → Prop} {x : It} {cs : List Value} : Reads w S x.dt cs ↔ cs = itCells x := by
 constructor
 ·intro h
  obtain ⟨c0, r0, rfl, ⟨rfl, _⟩, c1, r1, rfl, ⟨rfl, _⟩, c2, r2, rfl, ⟨rfl, _⟩, c3, r3, rfl, ⟨rfl, _⟩, c4, r4, rfl, ⟨rfl, _⟩, c5, r5, rfl, ⟨rfl, _⟩, rfl⟩ := h
  rfl
 ·rintro rfl
  exact ⟨[_], _, rfl, ⟨rfl, rfl⟩, [_], _, rfl, ⟨rfl, rfl⟩, [_], _, rfl, ⟨rfl, rfl⟩, [_], _, rfl, ⟨rfl, rfl⟩, [_], _, rfl, ⟨rfl, rfl⟩, [_], [], rfl, ⟨rfl, rfl⟩, rfl⟩
theorem it_chunks (w : World) (S : Nat → Prop) : ∀ l : List It, ReadsC w S 6 (l.map It.dt) (l.flatMap itCells)
 | [] => rfl
 | x :: l => ⟨itCells x, l.flatMap itCells, by simp, rfl, reads_it.2 rfl, it_chunks w S l⟩
theorem it_news {w : World} {S : Nat → Prop} : ∀ {l : List It} {xs : List Value}, ReadsC w S 6 (l.map It.dt) xs → xs = l.flatMap itCells
 | [], xs, h => h
 | x :: l, xs, h => by
  obtain ⟨c, r, rfl, _, h2, h3⟩ := h
  obtain rfl := reads_it.1 h2
  rw [it_news h3, List.flatMap_cons]
theorem infoItem : (Tryz.prog.info? 124).map (fun i => (i.zero, i.size, i.bytes)) = some (some (.agg #[.int .i64 0, .string ⟨#[]⟩, .int .i64 0, .int .i64 0, .slice none 0 0, .int .i64 0]), 6, 72) := by kernel_rfl
structure ItAt (w : World) (b o : Nat) (x : It) : Prop where
 id : w.cell? ⟨b, o, none⟩ = some (.int .i64 x.n.id)
 name : w.cell? ⟨b, o + 1, none⟩ = some (.string x.n.name)
 rep : w.cell? ⟨b, o + 2, none⟩ = some (.int .i64 x.n.rep)
 kind : w.cell? ⟨b, o + 3, none⟩ = some (.int .i64 x.n.kind)
 sub : w.cell? ⟨b, o + 4, none⟩ = some (.slice none 0 0)
 ar : w.cell? ⟨b, o + 5, none⟩ = some (.int .i64 x.ar)
theorem ItAt.keep {C : Nat → Prop} {w w' : World} {b o : Nat} {x : It} (h : ItAt w b o x) (hc : Chg C w w') (hn : ¬ C b) : ItAt w' b o x := by
 have k : ∀ {j v}, w.cell? ⟨b, j, none⟩ = some v → w'.cell? ⟨b, j, none⟩ = some v := fun {j v} hv => (hc.cell (p := ⟨b, j, none⟩) (lt_of_at hv) hn).trans hv
 exact ⟨k h.id, k h.name, k h.rep, k h.kind, k h.sub, k h.ar⟩
structure Its (w : World) (S : Nat → Prop) (v : Value) (its : List It) : Prop where
 reads : Reads w S (.list 6 (its.map It.dt)) [v]
 small : its.length ≤ 1000000
theorem Its.keep {C S : Nat → Prop} {w w' : World} {v : Value} {its : List It} (h : Its w S v its) (hc : Chg C w w') (hn : ∀ b, S b → ¬ C b) : Its w' S v its := ⟨h.reads.chg hc hn, h.small⟩
theorem Its.mono {w : World} {S S' : Nat → Prop} {v : Value} {its : List It} (h : Its w S v its) (hS : ∀ b, S b → S' b) : Its w S' v its := ⟨h.reads.mono hS, h.small⟩
theorem Its.form {w : World} {S : Nat → Prop} {v : Value} {its : List It} (h : Its w S v its) : ∃ a c, v = .slice a its.length c ∧ its.length ≤ c ∧ c ≤ maxLen ∧ (its.length ≠ 0 → ∃ b off, a = some ⟨b, off, none⟩ ∧ S b ∧ b < w.heap.size ∧ ∀ j x, its[j]? = some x → ItAt w b (off + j * 6) x) := by
 obtain ⟨a, c, h1, h2, h3, h4⟩ := reads_list h.reads
 simp only [List.length_map] at h1 h2 h4
 refine ⟨a, c, h1, h2, h3, fun hne => ?_⟩
 obtain ⟨b, off, ha, hb, hlt, hE⟩ := h4 hne
 refine ⟨b, off, ha, hb, hlt, fun j x hj => ?_⟩
 obtain ⟨cs, h5, h6, h7⟩ := hE.get j x.dt (by simp [hj])
 obtain rfl := reads_it.1 h7
 exact ⟨h6 0 _ rfl, h6 1 _ rfl, h6 2 _ rfl, h6 3 _ rfl, h6 4 _ rfl, h6 5 _ rfl⟩
def arB (p : Int) (x : It) : Bool := decide (x.ar = p)
def underF (its : List It) : Nat → Int → List Nd
 | 0, _ => []
 | k + 1, p => (its.filter (arB p)).map fun x => .mk x.n.id x.n.name x.n.rep x.n.kind (if x.n.kind = 0 then underF its k x.n.id else [])
structure Grow (its : List It) (m : Int) : Prop where
 up : ∀ x ∈ its, 0 ≤ x.ar ∧ x.ar < x.n.id
 le : ∀ x ∈ its, x.n.id < m
def unN (its : List It) (k : Nat) (x : It) : Nd := .mk x.n.id x.n.name x.n.rep x.n.kind (if x.n.kind = 0 then underF its (k - 1) x.n.id else [])
theorem underF_eq {its : List It} {m : Int} (hg : Grow its m) {k : Nat} {p : Int} (hk : m ≤ p + k) : underF its k p = (its.filter (arB p)).map (unN its k) := by
 cases k with
 | zero =>
  have he : its.filter (arB p) = [] := by
   rw [List.filter_eq_nil_iff]
   intro x hx e
   have e : x.ar = p := of_decide_eq_true e
   have := hg.up x hx
   have := hg.le x hx
   omega
  rw [he]; rfl
 | succ k => rfl
def AtSpec (its : List It) (id r : Int) : Prop := (∃ (j : Nat) (x : It), r = (j : Nat) ∧ its[j]? = some x ∧ x.n.id = id ∧ ∀ (i : Nat) (y : It), i < j → its[i]? = some y → y.n.id ≠ id) ∨ (r = -1 ∧ ∀ x ∈ its, x.n.id ≠ id)
theorem atR_any (its : List It) (id : Int) (v : Value) (w : World) (S : Nat → Prop) (h : Its w S v its) :
  Calls Tryz.prog 81 #[v, .int .i64 id] w (fun en w' => ∃ r, en = .returned (.int .i64 r) ∧ AtSpec its id r ∧ w' = w) := by
 obtain ⟨a, c, rfl, hlc, hcm, hcell⟩ := h.form
 have hsm := h.small
 unfold maxLen at hcm
 go_enter Tryz.func81, Tryz.ntmps81
 go_wp2_with fail
 go_loop [5] (fun vi => ∃ j : Nat, j ≤ its.length ∧ vi = .int .i64 (j : Nat) ∧ ∀ (i : Nat) (y : It), i < j → its[i]? = some y → y.n.id ≠ id) (fun vi => its.length - (intOf vi).toNat)
 case atStart => exact ⟨0, Nat.zero_le _, rfl, fun i y hi => by omega⟩
 case round =>
  obtain ⟨j, hj, rfl, hno⟩ := hrel
  by_cases hlt : j < its.length
  ·have hltI : (j : Int) < (its.length : Int) := by omega
   obtain ⟨b, off, rfl, hSb, hbw, hE⟩ := hcell (by omega)
   have hg : its[j]? = some its[j] := List.getElem?_eq_getElem hlt
   have e0 := (hE j its[j] hg).id
   generalize its[j] = x at hg e0
   have Hno := Lib.hid hno
   have Hg := Lib.hid hg
   clear hno hg hE
   by_cases hid : x.n.id = id
   ·have hidb : (x.n.id == id) = true := by rw [beq_iff_eq]; exact hid
    have Hid := Lib.hid hid
    clear hid
    go_wp2_with fail
    go_ret
    exact ⟨_, rfl, .inl ⟨j, x, rfl, Hg.out, Hid.out, Hno.out⟩, rfl⟩
   ·have hidb : (x.n.id == id) = false := by rw [beq_eq_false_iff_ne]; exact hid
    have Hid := Lib.hid hid
    clear hid
    go_wp2_with fail
    go_round
    case rel =>
     refine ⟨j + 1, hlt, by go_num, fun i y hi hy => ?_⟩
     rcases Nat.lt_succ_iff_lt_or_eq.1 hi with hi | rfl
     ·exact Hno.out i y hi hy
     ·obtain rfl := Option.some.inj (Hg.out.symm.trans hy)
      exact Hid.out
    case measure => simp [intOf]; omega
  ·have hltI : ¬ (j : Int) < (its.length : Int) := by omega
   have Hno := Lib.hid hno
   clear hno
   go_wp2_with fail
   go_ret
   refine ⟨_, rfl, .inr ⟨rfl, fun x hx => ?_⟩, rfl⟩
   obtain ⟨i, hi⟩ := List.getElem?_of_mem hx
   have := (List.getElem?_eq_some_iff.1 hi).1
   exact Hno.out i x (by omega) hi
def RetIts (its : List It) (w : World) (en : Ending) (w' : World) : Prop := ∃ v, en = .returned v ∧ Own w' w.heap.size 124 6 (fun _ => False) v (its.map It.dt) ∧ Chg NoB w w'
theorem Own.its {w : World} {B : Nat} {v : Value} {l : List It} (h : Own w B 124 6 (fun _ => False) v (l.map It.dt)) (hl : l.length ≤ 1000000) : Its w (fun b => B ≤ b ∧ b < w.heap.size) v l :=
 ⟨h.reads (fun _ e => e.elim) (fun b h1 h2 => ⟨h1, h2⟩) (by rw [List.length_map]; unfold maxLen; omega), hl⟩
theorem Its.part {w : World} {S : Nat → Prop} {b off n c : Nat} {its : List It} (hE : ∀ j x, its[j]? = some x → ItAt w b (off + j * 6) x) (i m : Nat) (him : i + m ≤ its.length) :
  ∀ ad, some (⟨b, off + i * 6, none⟩ : Addr) = some ad → ∀ j u, (((its.drop i).take m).flatMap itCells)[j]? = some u → w.cell? (ad.add j) = some u := by
 intro ad had j u hj
 obtain rfl := Option.some.inj had
 rw [show (⟨b, off + i * 6, none⟩ : Addr).add j = ⟨b, off + i * 6 + j, none⟩ from by unfold Addr.add; split <;> simp_all]
 have key : ∀ (l : List It) (o : Nat), (∀ k x, l[k]? = some x → ItAt w b (o + k * 6) x) → ∀ j u, (l.flatMap itCells)[j]? = some u → w.cell? ⟨b, o + j, none⟩ = some u := by
  intro l
  induction l with
  | nil => intro o _ j u hj; simp at hj
  | cons x l ih =>
   intro o hl j u hj
   rw [List.flatMap_cons] at hj
   by_cases h6 : j < 6
   ·rw [List.getElem?_append_left (by exact h6)] at hj
    have hx := hl 0 x rfl
    rw [Nat.zero_mul, Nat.add_zero] at hx
    match j, h6, hj with
    | 0, _, hj => obtain rfl := Option.some.inj hj; exact hx.id
    | 1, _, hj => obtain rfl := Option.some.inj hj; exact hx.name
    | 2, _, hj => obtain rfl := Option.some.inj hj; exact hx.rep
    | 3, _, hj => obtain rfl := Option.some.inj hj; exact hx.kind
    | 4, _, hj => obtain rfl := Option.some.inj hj; exact hx.sub
    | 5, _, hj => obtain rfl := Option.some.inj hj; exact hx.ar
   ·rw [List.getElem?_append_right (by show 6 ≤ j; omega)] at hj
    have h9 := ih (o + 6) (fun k y hk => by
     have := hl (k + 1) y hk
     rw [show o + (k + 1) * 6 = o + 6 + k * 6 from by omega] at this
     exact this) (j - 6) u hj
    rwa [show o + 6 + (j - 6) = o + j from by omega] at h9
 refine key _ (off + i * 6) (fun k x hk => ?_) j u hj
 have hk2 := hk
 rw [List.getElem?_take] at hk2
 split at hk2
 ·rw [List.getElem?_drop] at hk2
  have := hE (i + k) x hk2
  rwa [show off + (i + k) * 6 = off + i * 6 + k * 6 from by omega] at this
 ·cases hk2
theorem withoutR_any (its : List It) (i : Nat) (v : Value) (w : World) (S : Nat → Prop) (h : Its w S v its) (hi : i < its.length) :
  Calls Tryz.prog 83 #[v, .int .i64 (i : Nat)] w (RetIts (its.eraseIdx i) w) := by
 obtain ⟨a, c, rfl, hlc, hcm, hcell⟩ := h.form
 have hsm := h.small
 obtain ⟨b, off, rfl, hSb, hbw, hE⟩ := hcell (by omega)
 have hcmx := hcm
 unfold maxLen at hcm
 have he : its.eraseIdx i = its.take i ++ its.drop (i + 1) := List.eraseIdx_eq_take_drop_succ ..
 have hp1 := Its.part (S := S) (n := 0) (c := 0) hE 0 i (by omega)
 rw [List.drop_zero, Nat.zero_mul, Nat.add_zero] at hp1
 have hp2 := Its.part (S := S) (n := 0) (c := 0) hE (i + 1) (its.length - (i + 1)) (by omega)
 rw [List.take_of_length_le (by rw [List.length_drop]; omega)] at hp2
 have HE := Lib.hid hE
 have hiI : (i : Int) ≤ (its.length : Int) := by omega
 have hiI2 : (i : Int) + 1 ≤ (its.length : Int) := by omega
 clear hcell hE
 go_enter Tryz.func83, Tryz.ntmps83
 go_wp2_with (at_builtin; refine stop_here ?_)
 refine Stop.go ?_
 refine wpList_own rfl (.tmp 6) (.tmp 9) 84 rfl w.heap.size 124 Tryz.underlying84 infoItem rfl (by decide) rfl (Own.nil w w.heap.size 124 6 (fun _ => False)) rfl ((its.take i).map It.dt) _ (by rw [List.length_map, List.length_take]; omega) (it_chunks _ _ _) hp1 (fun e => by cases e) ?_ ?_ (Nat.le_refl _) ?_
 ·simp [maxLen]; omega
 ·simp; omega
 intro ao2 cap2 wB hoB hcB hatB
 simp only [List.length_nil, Nat.zero_add, List.nil_append] at hoB hcB hatB ⊢
 have hcB0 : Chg NoB w wB := hcB.mono (fun _ _ e => by cases e)
 replace hp2 : ∀ (ad : Addr), some (⟨b, off + (i + 1) * 6, none⟩ : Addr) = some ad → ∀ (j : Nat) (u : Value), ((its.drop (i + 1)).flatMap itCells)[j]? = some u → wB.cell? (ad.add j) = some u := fun ad had j u hu => by
  have h9 := hp2 ad had j u hu
  exact (hcB0.cell (lt_of_at h9) nbE).trans h9
 have hlt2 : (its.take i).length = i := by rw [List.length_take]; omega
 have hld : (its.drop (i + 1)).length = its.length - (i + 1) := List.length_drop ..
 clear hcB hatB hp1
 have fin : ∀ (ao3 : Option Addr) (cap3 : Nat) (wC : World), Own wC w.heap.size 124 6 (fun _ => False) (.slice ao3 (i + (its.length - (i + 1))) cap3) ((its.take i).map It.dt ++ (its.drop (i + 1)).map It.dt) → Chg NoB w wC → RetIts (its.eraseIdx i) w (.returned (.slice ao3 (i + (its.length - (i + 1))) cap3)) wC := fun ao3 cap3 wC hC hcC => by
  rw [← List.map_append, ← he] at hC
  exact ⟨_, rfl, hC, hcC⟩
 have Fin := Lib.hid fin
 have Hp2 := Lib.hid hp2
 clear fin he hp2
 by_cases hce : c = i + 1
 ·have hn0 : its.length = i + 1 := by omega
  have hd0 : its.drop (i + 1) = [] := List.drop_eq_nil_of_le (by omega)
  go_wp2_with (at_builtin; refine stop_here ?_)
  refine Stop.go ?_
  refine wpList_own rfl (.tmp 11) (.tmp 15) 84 rfl w.heap.size 124 Tryz.underlying84 infoItem rfl (by decide) rfl hoB rfl ((its.drop (i + 1)).map It.dt) _ (by rw [List.length_map, hld]; omega) (it_chunks _ _ _) (fun ad had j u hu => by rw [hd0] at hu; simp at hu) (fun e => by cases e) ?_ ?_ hcB0.size ?_
  ·rw [List.length_map]; simp [maxLen]; omega
  ·rw [List.length_map]; simp; omega
  intro ao3 cap3 wC hoC hcC hatC
  rw [List.length_map, hlt2] at hoC
  have h9 := Fin.out ao3 cap3 wC (by rw [show its.length - (i + 1) = 0 from by omega]; exact hoC) (hcB0.trans hcC (fun x e => .inr (hoB.block x e).1))
  rw [show its.length - (i + 1) = 0 from by omega, Nat.add_zero] at h9
  have H9 := Lib.hid h9
  rw [List.length_map, hlt2, Nat.add_zero]
  clear h9 hoC hcC hatC
  go_wp2_with fail
  go_ret
  exact H9.out
 ·go_wp2_with (at_builtin; refine stop_here ?_)
  refine Stop.go ?_
  refine wpList_own rfl (.tmp 11) (.tmp 15) 84 rfl w.heap.size 124 Tryz.underlying84 infoItem rfl (by decide) rfl hoB rfl ((its.drop (i + 1)).map It.dt) _ (by rw [List.length_map, hld]) (it_chunks _ _ _) Hp2.out (fun e => by cases e) ?_ ?_ hcB0.size ?_
  ·rw [List.length_map]; simp [maxLen]; omega
  ·rw [List.length_map]; simp; omega
  intro ao3 cap3 wC hoC hcC hatC
  rw [List.length_map, hlt2] at hoC
  have h9 := Fin.out ao3 cap3 wC hoC (hcB0.trans hcC (fun x e => .inr (hoB.block x e).1))
  have H9 := Lib.hid h9
  rw [List.length_map, hlt2]
  clear h9 hoC hcC hatC
  go_wp2_with fail
  go_ret
  exact H9.out
def errNum : Option Er → Int
 | none => 0
 | some .text => 1
 | some .bound => 2
 | some .shape => 3
 | some .name => 5
mutual
def fullN : Nd → Int → Int → Nat → List Pl
 | .mk i n r k s, d, a, at0 => ⟨.mk i n r k s, d, a⟩ :: fullL s (d + 1) at0 (at0 + 1)
def fullL : List Nd → Int → Int → Nat → List Pl
 | [], _, _, _ => []
 | n :: ns, d, a, at0 => fullN n d a at0 ++ fullL ns d a (at0 + n.weigh)
end
mutual
theorem fullN_len : ∀ (n : Nd) (d a : Int) (at0 : Nat), (fullN n d a at0).length = n.weigh
 | .mk i n r k s, d, a, at0 => by simp only [fullN, List.length_cons, fullL_len s, Nd.weigh]; omega
theorem fullL_len : ∀ (l : List Nd) (d a : Int) (at0 : Nat), (fullL l d a at0).length = Nd.weighs l
 | [], d, a, at0 => rfl
 | n :: ns, d, a, at0 => by simp only [fullL, List.length_append, fullN_len n, fullL_len ns, Nd.weighs]
end
mutual
theorem flatN_full : ∀ (n : Nd) (l : List Pl) (d a : Int), l.length + n.weigh ≤ 2000 → d + n.high ≤ 101 → flatN l n d a = l ++ fullN n d a l.length
 | .mk i n r k s, l, d, a, h1, h2 => by
  simp only [Nd.weigh] at h1
  simp only [Nd.high] at h2
  simp only [flatN, fullN]
  rw [if_neg (by omega), flatL_full s _ _ _ (by simp; omega) (by omega)]
  simp
theorem flatL_full : ∀ (s : List Nd) (l : List Pl) (d a : Int), l.length + Nd.weighs s ≤ 2000 → d + Nd.highs s ≤ 101 → flatL l s d a = l ++ fullL s d a l.length
 | [], l, d, a, h1, h2 => by simp [flatL, fullL]
 | n :: ns, l, d, a, h1, h2 => by
  simp only [Nd.weighs] at h1
  simp only [Nd.highs] at h2
  simp only [flatL, fullL]
  rw [flatN_full n l d a (by omega) (by omega), flatL_full ns _ _ _ (by simp only [List.length_append, fullN_len]; omega) (by omega)]
  simp only [List.length_append, fullN_len, List.append_assoc]
end
mutual
theorem flatN_grow : ∀ (n : Nd) (l : List Pl) (d a : Int), ∃ m, flatN l n d a = l ++ m
 | .mk i n r k s, l, d, a => by
  simp only [flatN]
  split
  ·exact ⟨[], by simp⟩
  ·obtain ⟨m, h⟩ := flatL_grow s (l ++ [⟨.mk i n r k s, d, a⟩]) (d + 1) l.length
   exact ⟨⟨.mk i n r k s, d, a⟩ :: m, by rw [h]; simp⟩
theorem flatL_grow : ∀ (s : List Nd) (l : List Pl) (d a : Int), ∃ m, flatL l s d a = l ++ m
 | [], l, d, a => ⟨[], by simp [flatL]⟩
 | n :: ns, l, d, a => by
  simp only [flatL]
  obtain ⟨m1, h1⟩ := flatN_grow n l d a
  obtain ⟨m2, h2⟩ := flatL_grow ns (flatN l n d a) d a
  exact ⟨m1 ++ m2, by rw [h2, h1]; simp⟩
end
mutual
theorem flatN_small : ∀ (n : Nd) (l : List Pl) (d a : Int), d ≤ 100 → (flatN l n d a).length ≤ 40 → (∀ p ∈ flatN l n d a, p.deep ≤ 6) → l.length + n.weigh ≤ 40 ∧ d + n.high ≤ 7
 | .mk i n r k s, l, d, a, hd, h1, h2 => by
  obtain ⟨m, hm⟩ := flatN_grow (.mk i n r k s) l d a
  have hl : l.length ≤ 40 := by rw [hm, List.length_append] at h1; omega
  simp only [flatN] at h1 h2
  rw [if_neg (by omega)] at h1 h2
  obtain ⟨m2, hm2⟩ := flatL_grow s (l ++ [⟨.mk i n r k s, d, a⟩]) (d + 1) l.length
  have hd6 : d ≤ 6 := h2 ⟨.mk i n r k s, d, a⟩ (by rw [hm2]; simp)
  have h3 := flatL_small s (l ++ [⟨.mk i n r k s, d, a⟩]) (d + 1) l.length (by omega) h1 h2
  simp only [List.length_append, List.length_cons, List.length_nil] at h3
  simp only [Nd.weigh, Nd.high]
  refine ⟨by omega, ?_⟩
  rcases h3.2 with h4 | h4
  ·subst h4; simp only [Nd.highs]; omega
  ·omega
theorem flatL_small : ∀ (s : List Nd) (l : List Pl) (d a : Int), d ≤ 100 → (flatL l s d a).length ≤ 40 → (∀ p ∈ flatL l s d a, p.deep ≤ 6) → l.length + Nd.weighs s ≤ 40 ∧ (s = [] ∨ d + Nd.highs s ≤ 7)
 | [], l, d, a, hd, h1, h2 => ⟨by simpa [flatL, Nd.weighs] using h1, .inl rfl⟩
 | n :: ns, l, d, a, hd, h1, h2 => by
  simp only [flatL] at h1 h2
  obtain ⟨m2, hm2⟩ := flatL_grow ns (flatN l n d a) d a
  have h3 := flatN_small n l d a hd (by rw [hm2, List.length_append] at h1; omega) (fun p hp => h2 p (by rw [hm2]; exact List.mem_append_left _ hp))
  have h5 : flatN l n d a = l ++ fullN n d a l.length := flatN_full n l d a (by omega) (by omega)
  have h4 := flatL_small ns (flatN l n d a) d a hd h1 h2
  rw [h5, List.length_append, fullN_len] at h4
  simp only [Nd.weighs, Nd.highs]
  refine ⟨by omega, .inr ?_⟩
  rcases h4.2 with h6 | h6
  ·subst h6; simp only [Nd.highs]; omega
  ·omega
end
mutual
theorem fullN_deep : ∀ (n : Nd) (d a : Int) (at0 : Nat), ∀ p ∈ fullN n d a at0, p.deep < d + n.high
 | .mk i n r k s, d, a, at0, p, hp => by
  simp only [fullN, List.mem_cons] at hp
  simp only [Nd.high]
  rcases hp with rfl | hp
  ·simp only; omega
  ·have := fullL_deep s (d + 1) at0 (at0 + 1) p hp
   omega
theorem fullL_deep : ∀ (l : List Nd) (d a : Int) (at0 : Nat), ∀ p ∈ fullL l d a at0, p.deep < d + Nd.highs l
 | [], d, a, at0, p, hp => by cases hp
 | n :: ns, d, a, at0, p, hp => by
  simp only [fullL, List.mem_append] at hp
  simp only [Nd.highs]
  rcases hp with hp | hp
  ·have := fullN_deep n d a at0 p hp; omega
  ·have := fullL_deep ns d a _ p hp; omega
end
theorem bound_iff (nd : Nd) : ((flatOf nd).length ≤ 40 ∧ ∀ p ∈ flatOf nd, p.deep ≤ 6) ↔ (walkF v1F nd 1 0).1 = true := by
 constructor
 ·rintro ⟨h1, h2⟩
  have h3 := flatN_small nd [] 1 (-1) (by omega) h1 h2
  simp only [List.length_nil] at h3
  rw [v1_of nd 1 0 (by omega) (by omega)]
 ·intro h
  have h1 := v1_high nd 1 0 h
  have h2 := v1_count nd 1 0 h
  have h3 : flatOf nd = fullN nd 1 (-1) 0 := by
   have := flatN_full nd [] 1 (-1) (by simp only [List.length_nil]; omega) (by omega)
   simpa [flatOf] using this
  rw [h3]
  refine ⟨by rw [fullN_len]; omega, fun p hp => ?_⟩
  have := fullN_deep nd 1 (-1) 0 p hp
  omega
theorem flat_is_full {nd : Nd} (h1 : (flatOf nd).length ≤ 40) (h2 : ∀ p ∈ flatOf nd, p.deep ≤ 6) : flatOf nd = fullN nd 1 (-1) 0 := by
 have h3 := flatN_small nd [] 1 (-1) (by omega) h1 h2
 simp only [List.length_nil] at h3
 have := flatN_full nd [] 1 (-1) (by simp only [List.length_nil]; omega) (by omega)
 simpa [flatOf] using this
theorem allOk_tail {L : List Pl} {x : Pl} {F : Nat → Pl → Prop} : AllOk (x :: L) F ↔ ∀ i p, L[i]? = some p → F (i + 1) p := by
 constructor
 ·intro h i p hp
  exact h (i + 1) p (by omega) (by simpa using hp)
 ·intro h i p h1 hp
  obtain ⟨j, rfl⟩ : ∃ j, i = j + 1 := ⟨i - 1, by omega⟩
  exact h j p (by simpa using hp)
mutual
theorem fullN_P {P : Nd → Prop} : ∀ (n : Nd) (d a : Int) (at0 : Nat), (∀ p ∈ fullN n d a at0, P p.n) ↔ n.All P
 | .mk i n r k s, d, a, at0 => by
  simp only [fullN, List.mem_cons, forall_eq_or_imp, Nd.All]
  rw [fullL_P s]
theorem fullL_P {P : Nd → Prop} : ∀ (l : List Nd) (d a : Int) (at0 : Nat), (∀ p ∈ fullL l d a at0, P p.n) ↔ Nd.Alls P l
 | [], d, a, at0 => by simp [fullL, Nd.Alls]
 | n :: ns, d, a, at0 => by
  simp only [fullL, List.mem_append, Nd.Alls]
  rw [← fullN_P n d a at0, ← fullL_P ns d a (at0 + n.weigh)]
  exact ⟨fun h => ⟨fun p hp => h p (.inl hp), fun p hp => h p (.inr hp)⟩, fun h p hp => hp.elim (h.1 p) (h.2 p)⟩
end
mutual
theorem fullN_ids : ∀ (n : Nd) (d a : Int) (at0 : Nat), (fullN n d a at0).map (fun p => p.n.id) = idsN n
 | .mk i n r k s, d, a, at0 => by
  simp only [fullN, List.map_cons, idsN]
  rw [fullL_ids s]
  rfl
theorem fullL_ids : ∀ (l : List Nd) (d a : Int) (at0 : Nat), (fullL l d a at0).map (fun p => p.n.id) = idsL l
 | [], d, a, at0 => rfl
 | n :: ns, d, a, at0 => by simp only [fullL, List.map_append, fullN_ids n, fullL_ids ns, idsL]
end
mutual
theorem fullN_around : ∀ (n : Nd) (d a : Int) (at0 : Nat), ∀ p ∈ fullN n d a at0, p = ⟨n, d, a⟩ ∨ ((at0 : Int) ≤ p.around ∧ p.around < at0 + n.weigh)
 | .mk i n r k s, d, a, at0, p, hp => by
  simp only [fullN, List.mem_cons] at hp
  rcases hp with rfl | hp
  ·exact .inl rfl
  ·rcases fullL_around s (d + 1) at0 (at0 + 1) p hp with ⟨m, hm, rfl⟩ | h
   ·refine .inr ⟨Int.le_refl _, ?_⟩
    simp only [Nd.weigh]; omega
   ·refine .inr ⟨by omega, ?_⟩
    simp only [Nd.weigh]; omega
theorem fullL_around : ∀ (l : List Nd) (d a : Int) (at0 : Nat), ∀ p ∈ fullL l d a at0, (∃ m, m ∈ l ∧ p = ⟨m, d, a⟩) ∨ ((at0 : Int) ≤ p.around ∧ p.around < at0 + Nd.weighs l)
 | [], d, a, at0, p, hp => by cases hp
 | n :: ns, d, a, at0, p, hp => by
  simp only [fullL, List.mem_append] at hp
  simp only [Nd.weighs]
  rcases hp with hp | hp
  ·rcases fullN_around n d a at0 p hp with rfl | h
   ·exact .inl ⟨n, List.mem_cons_self .., rfl⟩
   ·exact .inr ⟨h.1, by omega⟩
  ·rcases fullL_around ns d a _ p hp with ⟨m, hm, rfl⟩ | h
   ·exact .inl ⟨m, List.mem_cons_of_mem _ hm, rfl⟩
   ·exact .inr ⟨by omega, by omega⟩
end
theorem full_direct : ∀ (l : List Nd) (d a : Int) (at0 : Nat), ∀ m ∈ l, (⟨m, d, a⟩ : Pl) ∈ fullL l d a at0
 | [], d, a, at0, m, hm => by cases hm
 | .mk i n r k s :: ns, d, a, at0, m, hm => by
  simp only [fullL, fullN, List.mem_append, List.mem_cons]
  rcases List.mem_cons.1 hm with rfl | hm
  ·exact .inl (.inl rfl)
  ·exact .inr (full_direct ns d a _ m hm)
def Apart (q p : Pl) : Prop := ¬ (q.around = p.around ∧ q.n.name = p.n.name)
def SubNames (n : Nd) : Prop := (n.sub.map Nd.name).Nodup
mutual
theorem pairN : ∀ (n : Nd) (d a : Int) (at0 : Nat), a < at0 → ((fullN n d a at0).Pairwise Apart ↔ n.All SubNames)
 | .mk i nm r k s, d, a, at0, ha => by
  simp only [fullN, List.pairwise_cons, Nd.All]
  rw [pairL s (d + 1) at0 (at0 + 1) (by omega)]
  constructor
  ·rintro ⟨_, h⟩
   exact h
  ·intro h
   refine ⟨fun p hp e => ?_, h⟩
   have e1 : a = p.around := e.1
   rcases fullL_around s (d + 1) at0 (at0 + 1) p hp with ⟨m, _, rfl⟩ | h2
   ·simp only at e1; omega
   ·omega
theorem pairL : ∀ (l : List Nd) (d a : Int) (at0 : Nat), a < at0 → ((fullL l d a at0).Pairwise Apart ↔ (l.map Nd.name).Nodup ∧ Nd.Alls SubNames l)
 | [], d, a, at0, ha => by simp [fullL, Nd.Alls]
 | n :: ns, d, a, at0, ha => by
  simp only [fullL, List.pairwise_append, List.map_cons, List.nodup_cons, Nd.Alls]
  rw [pairN n d a at0 ha, pairL ns d a (at0 + n.weigh) (by omega)]
  constructor
  ·rintro ⟨h1, ⟨h2, h3⟩, h4⟩
   refine ⟨⟨fun hm => ?_, h2⟩, h1, h3⟩
   obtain ⟨m, hm1, hm2⟩ := List.mem_map.1 hm
   have h5 : (⟨n, d, a⟩ : Pl) ∈ fullN n d a at0 := by cases n; simp only [fullN, List.mem_cons, true_or]
   exact h4 _ h5 _ (full_direct ns d a _ m hm1) ⟨rfl, hm2.symm⟩
  ·rintro ⟨⟨h1, h2⟩, h3, h4⟩
   refine ⟨h3, ⟨h2, h4⟩, fun x hx y hy e => ?_⟩
   obtain ⟨e1, e2⟩ := e
   rcases fullN_around n d a at0 x hx with rfl | hx2
   ·rcases fullL_around ns d a _ y hy with ⟨m, hm, rfl⟩ | hy2
    ·exact h1 (List.mem_map.2 ⟨m, hm, e2.symm⟩)
    ·simp only at e1; omega
   ·rcases fullL_around ns d a _ y hy with ⟨m, hm, rfl⟩ | hy2
    ·simp only at e1; omega
    ·omega
end
mutual
theorem down_all {N : Nd → Prop} : ∀ n : Nd, n.All N ↔ N n ∧ n.All (fun x => ∀ y ∈ x.sub, N y)
 | .mk i nm r k s => by
  simp only [Nd.All]
  rw [down_alls s]
  exact Iff.rfl
theorem down_alls {N : Nd → Prop} : ∀ l : List Nd, Nd.Alls N l ↔ (∀ x ∈ l, N x) ∧ Nd.Alls (fun x => ∀ y ∈ x.sub, N y) l
 | [] => by simp [Nd.Alls]
 | n :: ns => by
  simp only [Nd.Alls, List.mem_cons, forall_eq_or_imp]
  rw [down_all n, down_alls ns]
  exact ⟨fun h => ⟨⟨h.1.1, h.2.1⟩, h.1.2, h.2.2⟩, fun h => ⟨⟨h.1.1, h.2.1⟩, h.1.2, h.2.2⟩⟩
end
theorem namesB_iff (l : List Nd) : namesB l = true ↔ (∀ x ∈ l, isNameB x.name = true) ∧ (l.map Nd.name).Nodup := by
 unfold namesB
 rw [Bool.and_eq_true, List.all_eq_true, decide_eq_true_eq]
theorem pairwise_of {L : List Pl} {R : Pl → Pl → Prop} : L.Pairwise R ↔ ∀ (i : Nat) p, L[i]? = some p → ∀ (k : Nat) q, k < i → L[k]? = some q → R q p := by
 rw [List.pairwise_iff_getElem]
 constructor
 ·intro h i p hp k q hk hq
  obtain ⟨h1, rfl⟩ := List.getElem?_eq_some_iff.1 hp
  obtain ⟨h2, rfl⟩ := List.getElem?_eq_some_iff.1 hq
  exact h k i h2 h1 hk
 ·intro h i j hi hj hij
  exact h j _ (List.getElem?_eq_getElem hj) i _ hij (List.getElem?_eq_getElem hi)
theorem mem_iff_get {L : List Pl} {P : Pl → Prop} : (∀ p ∈ L, P p) ↔ ∀ (i : Nat) p, L[i]? = some p → P p :=
 ⟨fun h i p hp => h p (List.mem_of_getElem? hp), fun h p hp => by obtain ⟨i, hi⟩ := List.getElem?_of_mem hp; exact h i p hi⟩
section
variable {nd : Nd} {L : List Pl} (hL : L = fullN nd 1 (-1) 0)
include hL
theorem fit_iff : AllOk L FitOk ↔ (walkF (allF v3F) nd 0 ()).1 = true := by
 obtain ⟨i, nm, r, k, s⟩ := nd
 subst hL
 simp only [fullN]
 rw [allOk_tail]
 have h1 : (∀ (i' : Nat) p, (fullL s (1 + 1) (0 : Nat) (0 + 1))[i']? = some p → FitOk (i' + 1) p) ↔ Nd.Alls (fun n => (v3F n ()).1 = true) s := by
  rw [← fullL_P s (1 + 1) (0 : Nat) (0 + 1), mem_iff_get]
  refine forall_congr' fun i' => forall_congr' fun p => imp_congr_right fun _ => ?_
  simp only [FitOk, v3F, Bool.and_eq_true, decide_eq_true_eq, beq_iff_eq]
  constructor
  ·rintro ⟨a1, a2, a3, a4, a5⟩
   refine ⟨⟨⟨⟨a1, a2⟩, a3⟩, a4⟩, ?_⟩
   by_cases h0 : p.n.kind = 0
   ·have := a5.1 h0
    cases hs : p.n.sub with
    | nil => rw [hs] at this; exact absurd rfl this
    | cons x xs => simp [h0]
   ·cases hs : p.n.sub with
    | nil => simp [h0]
    | cons x xs => rw [hs] at a5; exact absurd (a5.2 (by simp)) h0
  ·rintro ⟨⟨⟨⟨a1, a2⟩, a3⟩, a4⟩, a5⟩
   refine ⟨a1, a2, a3, a4, ?_⟩
   by_cases h0 : p.n.kind = 0
   ·simp only [h0, decide_true, Bool.not_true] at a5
    refine ⟨fun _ h => ?_, fun _ => h0⟩
    rw [List.eq_nil_of_length_eq_zero h] at a5
    cases a5
   ·simp only [h0, decide_false, Bool.not_false] at a5
    refine ⟨fun h => absurd h h0, fun h => ?_⟩
    rw [List.isEmpty_iff.1 a5.symm] at h
    exact absurd rfl h
 have h2 : (walkF (allF v3F) (.mk i nm r k s) 0 ()).1 = true ↔ Nd.Alls (fun n => (v3F n ()).1 = true) s := by
  constructor
  ·intro h
   exact (walk_root (P := fun n => (v3F n ()).1 = true) (fun n d s hd hf => by simp only [allF, if_neg (show ¬ d = 0 by omega)] at hf; exact hf) (.mk i nm r k s) () h).1
  ·intro h
   simp only [walkF]
   have hf : allF v3F (.mk i nm r k s) 0 () = (true, ()) := by simp [allF]
   rw [hf]
   simp only
   rw [walk_ofL (P := fun n => (v3F n ()).1 = true) (fun n d hd hp => by simp only [allF, if_neg (show ¬ d = 0 by omega)]; exact hp) s (0 + 1) (by omega) h]
 rw [h2]
 exact h1
theorem name_iff : AllOk L (NameOk L) ↔ (walkF v4F nd 0 ()).1 = true := by
 obtain ⟨i, nm, r, k, s⟩ := nd
 subst hL
 simp only [fullN]
 rw [allOk_tail]
 have h1 : (∀ (i' : Nat) p, (fullL s (1 + 1) (0 : Nat) (0 + 1))[i']? = some p → NameOk (⟨.mk i nm r k s, 1, -1⟩ :: fullL s (1 + 1) (0 : Nat) (0 + 1)) (i' + 1) p) ↔
   (∀ p ∈ fullL s (1 + 1) (0 : Nat) (0 + 1), isNameB p.n.name = true) ∧ (fullL s (1 + 1) (0 : Nat) (0 + 1)).Pairwise Apart := by
  rw [mem_iff_get, pairwise_of]
  constructor
  ·intro h
   refine ⟨fun i' p hp => (h i' p hp).1, fun i' p hp k' q hk hq => ?_⟩
   exact (h i' p hp).2 (k' + 1) q (by omega) (by omega) (by simpa using hq)
  ·rintro ⟨h2, h3⟩ i' p hp
   refine ⟨h2 i' p hp, fun k' q hk1 hk2 hq => ?_⟩
   obtain ⟨k2, rfl⟩ : ∃ x, k' = x + 1 := ⟨k' - 1, by omega⟩
   exact h3 i' p hp k2 q (by omega) (by simpa using hq)
 have h2 : (walkF v4F (.mk i nm r k s) 0 ()).1 = true ↔ namesB s = true ∧ Nd.Alls (fun n => namesB n.sub = true) s := by
  constructor
  ·intro h
   have := walk_root (P := fun n => namesB n.sub = true) (fun n d s hd hf => hf) (.mk i nm r k s) () h
   exact ⟨this.2, this.1⟩
  ·rintro ⟨ha, hb⟩
   simp only [walkF]
   have hf : v4F (.mk i nm r k s) 0 () = (true, ()) := Prod.ext ha rfl
   rw [hf]
   simp only
   rw [walk_ofL (P := fun n => namesB n.sub = true) (fun n d hd hp => hp) s (0 + 1) (by omega) hb]
 rw [h2]
 refine h1.trans ?_
 rw [fullL_P (P := fun n => isNameB n.name = true), pairL s (1 + 1) (0 : Nat) (0 + 1) (by omega), down_alls, namesB_iff]
 constructor
 ·rintro ⟨⟨a1, a2⟩, a3, a4⟩
  exact ⟨⟨a1, a3⟩, Nd.Alls.imp (fun n h => (namesB_iff n.sub).2 h) s (Nd.Alls.and s a2 a4)⟩
 ·rintro ⟨⟨a1, a2⟩, a3⟩
  exact ⟨⟨a1, Nd.Alls.imp (fun n h => ((namesB_iff n.sub).1 h).1) s a3⟩, a2, Nd.Alls.imp (fun n h => ((namesB_iff n.sub).1 h).2) s a3⟩
theorem num_iff : AllOk L (IdOk L) ↔ (walkF (allF v5F) nd 0 []).1 = true := by
 obtain ⟨i, nm, r, k, s⟩ := nd
 subst hL
 simp only [fullN]
 rw [allOk_tail]
 have h1 : (∀ (i' : Nat) p, (fullL s (1 + 1) (0 : Nat) (0 + 1))[i']? = some p → IdOk (⟨.mk i nm r k s, 1, -1⟩ :: fullL s (1 + 1) (0 : Nat) (0 + 1)) (i' + 1) p) ↔
   (∀ p ∈ fullL s (1 + 1) (0 : Nat) (0 + 1), 1 ≤ p.n.id ∧ p.n.id ≤ 1000) ∧ (fullL s (1 + 1) (0 : Nat) (0 + 1)).Pairwise (fun q p => q.n.id ≠ p.n.id) := by
  rw [mem_iff_get, pairwise_of]
  constructor
  ·intro h
   refine ⟨fun i' p hp => ⟨(h i' p hp).1, (h i' p hp).2.1⟩, fun i' p hp k' q hk hq => ?_⟩
   exact (h i' p hp).2.2 (k' + 1) q (by omega) (by omega) (by simpa using hq)
  ·rintro ⟨h2, h3⟩ i' p hp
   refine ⟨(h2 i' p hp).1, (h2 i' p hp).2, fun k' q hk1 hk2 hq => ?_⟩
   obtain ⟨k2, rfl⟩ : ∃ x, k' = x + 1 := ⟨k' - 1, by omega⟩
   exact h3 i' p hp k2 q (by omega) (by simpa using hq)
 have h3 : ((∀ p ∈ fullL s (1 + 1) (0 : Nat) (0 + 1), 1 ≤ p.n.id ∧ p.n.id ≤ 1000) ∧ (fullL s (1 + 1) (0 : Nat) (0 + 1)).Pairwise (fun q p => q.n.id ≠ p.n.id)) ↔
   (∀ x ∈ idsL s, 1 ≤ x ∧ x ≤ 1000) ∧ (idsL s).Nodup := by
  have e := fullL_ids s (1 + 1) (0 : Nat) (0 + 1)
  rw [← e, List.Nodup, List.pairwise_map]
  refine and_congr_left fun _ => ⟨fun h x hx => ?_, fun h p hp => h _ (List.mem_map_of_mem hp)⟩
  obtain ⟨p, hp, rfl⟩ := List.mem_map.1 hx
  exact h p hp
 have hf : allF v5F (.mk i nm r k s) 0 [] = (true, []) := by simp [allF]
 refine h1.trans (h3.trans ?_)
 simp only [walkF]
 rw [hf]
 simp only
 constructor
 ·rintro ⟨a1, a2⟩
  rw [v5_ofL s (0 + 1) [] (by omega) (by simpa using a2) a1]
 ·intro h
  have := v5_idsL s (0 + 1) [] (by omega) h (by simp)
  exact ⟨this.2.2, by simpa using this.2.1⟩
end
theorem err_law {nd : Nd} {r : Int} (h : ErrSpec nd (flatOf nd) r) : r = errNum (validF nd) := by
 have hb := bound_iff nd
 have many : ¬ ((flatOf nd).length ≤ 40 ∧ ∀ p ∈ flatOf nd, p.deep ≤ 6) → validF nd = some .bound := fun hn => by
  rw [hb] at hn
  unfold validF
  rw [if_pos (by simpa using hn)]
 cases h with
 | many h => rw [many (fun h2 => by omega)]; rfl
 | high h p hp h6 => rw [many (fun h2 => by have := h2.2 p hp; omega)]; rfl
 | root h hd hr =>
  have h1 := hb.1 ⟨h, hd⟩
  have : validF nd = some .shape := by unfold validF; rw [if_neg (by rw [h1]; simp), if_pos hr]
  rw [this]; rfl
 | fit h hd hr hf =>
  have h1 := hb.1 ⟨h, hd⟩
  rw [fit_iff (flat_is_full h hd)] at hf
  have : validF nd = some .shape := by unfold validF; rw [if_neg (by rw [h1]; simp), if_neg (by rw [hr]; simp), if_pos (by simpa using hf)]
  rw [this]; rfl
 | name h hd hr hf hn =>
  have h1 := hb.1 ⟨h, hd⟩
  rw [fit_iff (flat_is_full h hd)] at hf
  rw [name_iff (flat_is_full h hd)] at hn
  have : validF nd = some .name := by unfold validF; rw [if_neg (by rw [h1]; simp), if_neg (by rw [hr]; simp), if_neg (by rw [hf]; simp), if_pos (by simpa using hn)]
  rw [this]; rfl
 | num h hd hr hf hn hi =>
  have h1 := hb.1 ⟨h, hd⟩
  rw [fit_iff (flat_is_full h hd)] at hf
  rw [name_iff (flat_is_full h hd)] at hn
  rw [num_iff (flat_is_full h hd)] at hi
  have : validF nd = some .name := by unfold validF; rw [if_neg (by rw [h1]; simp), if_neg (by rw [hr]; simp), if_neg (by rw [hf]; simp), if_neg (by rw [hn]; simp), if_pos (by simpa using hi)]
  rw [this]; rfl
 | ok h hd hr hf hn hi =>
  have h1 := hb.1 ⟨h, hd⟩
  rw [fit_iff (flat_is_full h hd)] at hf
  rw [name_iff (flat_is_full h hd)] at hn
  rw [num_iff (flat_is_full h hd)] at hi
  have : validF nd = none := by unfold validF; rw [if_neg (by rw [h1]; simp), if_neg (by rw [hr]; simp), if_neg (by rw [hf]; simp), if_neg (by rw [hn]; simp), if_neg (by rw [hi]; simp)]
  rw [this]; rfl
end Go.Proofs.YtgcmfpcgmkkobaaGreatDoor
