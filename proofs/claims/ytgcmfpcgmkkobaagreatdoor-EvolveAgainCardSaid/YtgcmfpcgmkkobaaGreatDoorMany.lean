/-
 evolve.many: how many words each edit has, a map by names; evolve.isName.
-/
import Derived.Test.YtgcmfpcgmkkobaaGreatDoorPackC
import Derived.Maps.Own
import Derived.Maps.OwnSet
import Derived.Carry
set_option linter.unusedVariables false
set_option linter.unusedSimpArgs false
namespace Go.Proofs.YtgcmfpcgmkkobaaGreatDoor
open Go.RowKit

theorem lawS : Go.Maps.Keyed Tryz.prog 9 := Go.Maps.string_keyed Tryz.underlying9
theorem zeroI (w : World) : (zeroValue 3).run Tryz.prog w = .ok (.int .i64 0) w := by kernel_rfl
def SM (w : World) (b n : Nat) (D : DataW Value) : Prop := w.ownsMap Tryz.prog 9 (plainElem Tryz.prog 3) b n D
theorem SM.keep {C : Nat → Prop} {w w' : World} {b n : Nat} {D : DataW Value} (h : SM w b n D) (hc : Chg C w w') (hn : ¬ C b) : SM w' b n D := by
 obtain ⟨es, clock, hb, F, hs, hD⟩ := h
 exact ⟨es, clock, hc.at hb hn, F, hs, hD⟩
theorem SM.lt {w : World} {b n : Nat} {D : DataW Value} (h : SM w b n D) : b < w.heap.size := World.ownsMap.lt h
section
variable {H : Type} {P : Program}
theorem wpList_insert_own (w : World) {ops : Array Oper} {rest : List Oper} {o : Oper} {a : Act} {Q : Exit → Act → World → Prop}
  (hg : o.guard = none) (m x v : Operand) (t : TypeId) (hop : o.op = Op.insert t m x v)
  (k e : TypeId) (K : Go.Maps.Keyed P k) (ht : P.underlying t = some (.map k e)) (R : Value → Option (DataW H × List MemPlace)) (b n : Nat) (D : DataW H)
  (hm : a.eval m = .map (some b)) (hown : w.ownsMap P k R b n D) (hn : n < maxLen) (key val : Value) (kl : Lit) (hx : a.eval x = key) (hv : a.eval v = val) (hkey : keyOf P k key = some kl)
  (d : DataW H) (ps : List MemPlace) (hval : R val = some (d, ps))
  (hK : ∀ w', w'.ownsMap P k R b (n + 1) (D.put kl d) → w.grownBy w' (some b) → wpList P ops Q rest (a.put o.dst undef) w') :
  wpList P ops Q (o :: rest) a w := by
 refine wpList_plain hg fun K' hK' => ?_
 obtain ⟨w', hrun, r1, r2⟩ := hown.update K ht hn hkey hval
 unfold Oper.wp
 simp [execOp, hop, hm, hx, hv, hrun, Result.andThen]
 exact hK' _ _ (hK w' r1 r2)
end
def bDrop : ByteArray := ⟨#[100, 114, 111, 112]⟩
def bRename : ByteArray := ⟨#[114, 101, 110, 97, 109, 101]⟩
def bMove : ByteArray := ⟨#[109, 111, 118, 101]⟩
def bWiden : ByteArray := ⟨#[119, 105, 100, 101, 110]⟩
def bLoosen : ByteArray := ⟨#[108, 111, 111, 115, 101, 110]⟩
def keyS (s : ByteArray) : Lit := .string s.data.toList
theorem keyS_inj {a b : ByteArray} (h : keyS a = keyS b) : a = b := by
 unfold keyS at h
 injection h with h
 cases a; cases b
 simp only at h
 rw [Array.toList_inj.1 h]
theorem keyOfS {s : ByteArray} (h : s.size ≤ maxLen) : keyOf Tryz.prog 9 (.string s) = some (keyS s) := Go.WideMaps.keyOf_string_mk Tryz.underlying9 h
/-- How many words an edit has beside its own. -/
def manyF (s : ByteArray) : Option Int := if s = bDrop then some 1 else if s = bRename then some 2 else if s = bMove then some 2 else if s = bWiden then some 1 else if s = bLoosen then some 1 else none
def ManyD (D : DataW Value) : Prop := ∀ s : ByteArray, Go.Maps.has D (keyS s) = (manyF s).isSome ∧ ∀ n, manyF s = some n → ∀ z, D.atKey (keyS s) z = .lit (.int .i64 n)
def putI (D : DataW Value) (s : ByteArray) (n : Int) : DataW Value := D.put (keyS s) (.lit (.int .i64 n))
theorem many_D : ManyD (putI (putI (putI (putI (putI (.map []) bDrop 1) bRename 2) bMove 2) bWiden 1) bLoosen 1) := by
 have m0 : Go.Maps.IsMap (.map [] : DataW Value) := Go.Maps.isMap_empty
 have m1 : Go.Maps.IsMap (putI (.map []) bDrop 1) := m0.put _ _
 have m2 := m1.put (keyS bRename) (.lit (.int .i64 2))
 have m3 := m2.put (keyS bMove) (.lit (.int .i64 2))
 have m4 := m3.put (keyS bWiden) (.lit (.int .i64 1))
 have hk : ∀ s : ByteArray, WideAt.IsKeyLit (keyS s) := fun _ => trivial
 intro s
 unfold manyF
 by_cases h5 : s = bLoosen
 ·subst h5
  rw [if_neg (by decide), if_neg (by decide), if_neg (by decide), if_neg (by decide), if_pos rfl]
  exact ⟨Go.Maps.has_put_same m4 (hk _) _, fun n hn z => by obtain rfl := Option.some.inj hn; exact Go.Maps.atKey_put_same m4 (hk _) _ _⟩
 have n5 : keyS s ≠ keyS bLoosen := fun e => h5 (keyS_inj e)
 by_cases h4 : s = bWiden
 ·subst h4
  rw [if_neg (by decide), if_neg (by decide), if_neg (by decide), if_pos rfl]
  refine ⟨?_, fun n hn z => ?_⟩
  ·unfold putI; rw [Go.Maps.has_put_other n5]; exact Go.Maps.has_put_same m3 (hk _) _
  ·obtain rfl := Option.some.inj hn; unfold putI; rw [Go.Maps.atKey_put_other n5]; exact Go.Maps.atKey_put_same m3 (hk _) _ _
 have n4 : keyS s ≠ keyS bWiden := fun e => h4 (keyS_inj e)
 by_cases h3 : s = bMove
 ·subst h3
  rw [if_neg (by decide), if_neg (by decide), if_pos rfl]
  refine ⟨?_, fun n hn z => ?_⟩
  ·unfold putI; rw [Go.Maps.has_put_other n5, Go.Maps.has_put_other n4]; exact Go.Maps.has_put_same m2 (hk _) _
  ·obtain rfl := Option.some.inj hn; unfold putI; rw [Go.Maps.atKey_put_other n5, Go.Maps.atKey_put_other n4]; exact Go.Maps.atKey_put_same m2 (hk _) _ _
 have n3 : keyS s ≠ keyS bMove := fun e => h3 (keyS_inj e)
 by_cases h2 : s = bRename
 ·subst h2
  rw [if_neg (by decide), if_pos rfl]
  refine ⟨?_, fun n hn z => ?_⟩
  ·unfold putI; rw [Go.Maps.has_put_other n5, Go.Maps.has_put_other n4, Go.Maps.has_put_other n3]; exact Go.Maps.has_put_same m1 (hk _) _
  ·obtain rfl := Option.some.inj hn; unfold putI; rw [Go.Maps.atKey_put_other n5, Go.Maps.atKey_put_other n4, Go.Maps.atKey_put_other n3]; exact Go.Maps.atKey_put_same m1 (hk _) _ _
 have n2 : keyS s ≠ keyS bRename := fun e => h2 (keyS_inj e)
 by_cases h1 : s = bDrop
 ·subst h1
  rw [if_pos rfl]
  refine ⟨?_, fun n hn z => ?_⟩
  ·unfold putI; rw [Go.Maps.has_put_other n5, Go.Maps.has_put_other n4, Go.Maps.has_put_other n3, Go.Maps.has_put_other n2]; exact Go.Maps.has_put_same m0 (hk _) _
  ·obtain rfl := Option.some.inj hn; unfold putI; rw [Go.Maps.atKey_put_other n5, Go.Maps.atKey_put_other n4, Go.Maps.atKey_put_other n3, Go.Maps.atKey_put_other n2]; exact Go.Maps.atKey_put_same m0 (hk _) _ _
 have n1 : keyS s ≠ keyS bDrop := fun e => h1 (keyS_inj e)
 rw [if_neg h1, if_neg h2, if_neg h3, if_neg h4, if_neg h5]
 refine ⟨?_, fun n hn => by cases hn⟩
 unfold putI
 rw [Go.Maps.has_put_other n5, Go.Maps.has_put_other n4, Go.Maps.has_put_other n3, Go.Maps.has_put_other n2, Go.Maps.has_put_other n1]
 rfl
theorem chg_more {w a b : World} (h : Chg NoB w a) {B : Nat} (hg : a.grownBy b (some B)) (hB : w.heap.size ≤ B := by simp) : Chg NoB w b :=
 h.trans (C := NoB) (D := OneB B) ((Chg.refl (OneB B) a).grown hg (fun k hk => .inl (Option.some.inj hk).symm)) (fun i hi => .inr (by have e : i = B := hi; omega))
def RetMany (w : World) (en : Ending) (w' : World) : Prop := ∃ b D, en = .returned (.map (some b)) ∧ SM w' b 5 D ∧ ManyD D ∧ Chg NoB w w'
theorem elI (n : Int) (h : (Lit.int .i64 n).wf = true) : plainElem (H := Value) Tryz.prog 3 (.int .i64 n) = some (.lit (.int .i64 n), []) := plainElem_int Tryz.underlying3 h

set_option maxHeartbeats 1000000 in
set_option maxRecDepth 100000 in
theorem many_any (w : World) : Calls Tryz.prog 52 #[] w (RetMany w) := by
 have hmk := @run_makeMap Tryz.prog
 have e1 := elI 1 (by decide)
 have e2 := elI 2 (by decide)
 have E1 := Lib.hid e1
 have E2 := Lib.hid e2
 clear e1 e2
 go_enter Tryz.func52, Tryz.ntmps52
 go_wp2_with (refine wpList_insert_own _ rfl (.tmp 1) _ _ 99 rfl 9 3 lawS Tryz.underlying99 (plainElem Tryz.prog 3) w.heap.size 0 (.map []) rfl (World.ownsMap_made ..) (by unfold maxLen; omega) _ _ (keyS bDrop) rfl rfl (keyOfS (by decide)) (.lit (.int .i64 1)) [] E1.out ?_; refine stop_here ?_)
 refine Stop.go ?_
 intro w1 h1 g1
 refine wpList_insert_own _ rfl (.tmp 1) _ _ 99 rfl 9 3 lawS Tryz.underlying99 (plainElem Tryz.prog 3) w.heap.size 1 _ rfl h1 (by unfold maxLen; omega) _ _ (keyS bRename) rfl rfl (keyOfS (by decide)) (.lit (.int .i64 2)) [] E2.out ?_
 intro w2 h2 g2
 refine wpList_insert_own _ rfl (.tmp 1) _ _ 99 rfl 9 3 lawS Tryz.underlying99 (plainElem Tryz.prog 3) w.heap.size 2 _ rfl h2 (by unfold maxLen; omega) _ _ (keyS bMove) rfl rfl (keyOfS (by decide)) (.lit (.int .i64 2)) [] E2.out ?_
 intro w3 h3 g3
 refine wpList_insert_own _ rfl (.tmp 1) _ _ 99 rfl 9 3 lawS Tryz.underlying99 (plainElem Tryz.prog 3) w.heap.size 3 _ rfl h3 (by unfold maxLen; omega) _ _ (keyS bWiden) rfl rfl (keyOfS (by decide)) (.lit (.int .i64 1)) [] E1.out ?_
 intro w4 h4 g4
 refine wpList_insert_own _ rfl (.tmp 1) _ _ 99 rfl 9 3 lawS Tryz.underlying99 (plainElem Tryz.prog 3) w.heap.size 4 _ rfl h4 (by unfold maxLen; omega) _ _ (keyS bLoosen) rfl rfl (keyOfS (by decide)) (.lit (.int .i64 1)) [] E1.out ?_
 intro w5 h5 g5
 have hc : Chg NoB w w5 := by
  have a0 : Chg NoB w (w.alloc (.map #[] 0)) := (Chg.refl _ _).alloc _
  have a1 := chg_more a0 g1
  have a2 := chg_more a1 g2
  have a3 := chg_more a2 g3
  have a4 := chg_more a3 g4
  exact chg_more a4 g5
 have HD := Lib.hid many_D
 have H5 := Lib.hid h5
 clear h1 h2 h3 h4 h5
 go_wp2_with fail
 go_ret
 exact ⟨w.heap.size, _, rfl, H5.out, HD.out, hc⟩

set_option maxHeartbeats 400000 in
theorem isNameE_any (s : ByteArray) (w : World) (hs : s.size ≤ 9223372036854775807) :
  Calls Tryz.prog 56 #[.string s] w (RetV (.bool (isNameB s)) w) := by
 by_cases h0 : s.size = 0
 ·have := empty_of_size h0
  subst this
  have h1 : isNameB ⟨#[]⟩ = false := by rfl
  go_enter Tryz.func56, Tryz.ntmps56
  go_wp2_with fail
  go_ret
  rw [h1]
  exact ⟨rfl, Chg.refl _ _⟩
 have hne : s.toList.isEmpty = false := toList_isEmpty h0
 by_cases h1 : s.size ≤ 12
 ·have h1' : (s.size : Int) ≤ 12 := by omega
  go_enter Tryz.func56, Tryz.ntmps56
  go_wp2_with fail
  refine (trim_letters s w hs).mono ?_
  rintro e w1 ⟨rfl, hc⟩
  have hc1 := Chg.ofBelow hc
  clear hc
  have key : isNameB s = (Lib.trimS s.data.toList letters).isEmpty := by
   have h2 := trimS_nil s.data.toList letters
   simp only [letters_contains] at h2
   unfold isNameB
   rw [decide_eq_true h0, decide_eq_true h1, Bool.true_and, Bool.true_and, Bool.eq_iff_iff, ← h2]
   exact List.isEmpty_iff.symm
  have Key := Lib.hid key
  clear key
  generalize Lib.trimS s.data.toList letters = t at Key ⊢
  cases t with
  | nil =>
   go_wp2_with fail
   go_ret
   rw [Key.out]
   exact ⟨rfl, hc1⟩
  | cons x xs =>
   have hx : (⟨(x :: xs).toArray⟩ : ByteArray).toList.isEmpty = false := toList_isEmpty (by simp [ByteArray.size])
   go_wp2_with fail
   go_ret
   rw [Key.out]
   exact ⟨rfl, hc1⟩
 ·have h1' : ¬ (s.size : Int) ≤ 12 := by omega
  have h2 : isNameB s = false := by simp [isNameB, h1]
  go_enter Tryz.func56, Tryz.ntmps56
  go_wp2_with fail
  go_ret
  exact ⟨rfl, Chg.refl _ _⟩
end Go.Proofs.YtgcmfpcgmkkobaaGreatDoor
