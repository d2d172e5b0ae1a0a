/-
  The group around an ID, in plain words.; evolve's edit: add.; Find and Under against FindOf and UnderOf: the plain laws; and the errors' numbers.; evolve.known: the nodes by their IDs, in two maps.; shredcollaw4's short and texts: of lines that are handed in.
-/
import Derived.Test.YtgcmfpcgmkkobaaGreatDoorEditT
import Derived.Test.YtgcmfpcgmkkobaaGreatDoorRegion2
import Derived.Test.YtgcmfpcgmkkobaaGreatDoorTree
import Derived.Test.YtgcmfpcgmkkobaaGreatDoorTwiceP
import Derived.Test.YtgcmfpcgmkkobaaGreatDoorWalk
import Derived.Test.YtgcmfpcgmkkobaaGreatDoorValid2
import Derived.Test.YtgcmfpcgmkkobaaGreatDoorRead
import Derived.Test.YtgcmfpcgmkkobaaGreatDoorAll
import Derived.Test.YtgcmfpcgmkkobaaGreatDoorNumbered
import Derived.Test.YtgcmfpcgmkkobaaGreatDoorWordsLaw
import Derived.Maps.RangeWalk
set_option linter.unusedVariables false
set_option maxHeartbeats 20000000
set_option maxRecDepth 100000
set_option linter.unusedSimpArgs false
namespace Go.Proofs.YtgcmfpcgmkkobaaGreatDoor
open Go.RowKit
mutual
theorem fndG_no (id : Int) : ∀ n : Nd, id ∉ idsL n.sub → fndG id n = none
 | .mk i nm r k s, h => by
  simp only [Nd.sub] at h
  have h1 : ¬ (s.any fun c => decide (c.id = id)) = true := fun e => by
   obtain ⟨c, hc, rfl⟩ := any_id.1 e
   exact h (id_in_ids hc)
  rw [fndG, if_neg h1, fndGL_no id s h]
theorem fndGL_no (id : Int) : ∀ l : List Nd, id ∉ idsL l → fndGL id l = none
 | [], _ => rfl
 | n :: ns, h => by
  simp only [idsL, List.mem_append, not_or] at h
  rw [fndGL, fndG_no id n (fun e => h.1 (by cases n; simp only [idsN, List.mem_cons, Nd.sub] at e ⊢; exact .inr e))]
  exact fndGL_no id ns h.2
end
theorem fndGL_skip {id : Int} {c : Nd} (l2 : List Nd) : ∀ l1 : List Nd, id ∉ idsL l1 → fndGL id (l1 ++ c :: l2) = match fndG id c with | some x => some x | none => fndGL id l2
 | [], _ => rfl
 | n :: ns, h => by
  simp only [idsL, List.mem_append, not_or] at h
  rw [List.cons_append, fndGL, fndG_no id n (fun e => h.1 (by cases n; simp only [idsN, List.mem_cons, Nd.sub] at e ⊢; exact .inr e))]
  exact fndGL_skip l2 ns h.2
theorem holds_fndG {id : Int} : ∀ {n h : Nd} {C : Nd → Nd}, Holds n h C → ∀ {j : Nat} {q : Nd}, h.sub[j]? = some q → q.id = id → (idsL n.sub).Nodup → fndG id n = some h.sub := by
 intro n h C hH
 induction hH with
 | here n =>
  intro j q hq hid hn
  have hm := List.mem_of_getElem? hq
  cases n
  simp only [Nd.sub] at hm ⊢
  rw [fndG, if_pos (any_id.2 ⟨q, hm, hid⟩)]
 | down hj hH ih =>
  rename_i i nm r k s jj c hh C
  intro j q hq hid hn
  simp only [Nd.sub] at hn
  have hk := (holds_grp hH hq hid (by
   obtain ⟨l1, l2, rfl, rfl, _⟩ := list_split hj
   have h1 := (nodup_mid hn).1
   cases c; simp only [idsN, List.nodup_cons] at h1; exact h1.2)).1
  obtain ⟨l1, l2, rfl, rfl, hset⟩ := list_split hj
  obtain ⟨h1, h2⟩ := nodup_mid hn
  have hcn : (idsL c.sub).Nodup := by cases c; simp only [idsN, List.nodup_cons] at h1; exact h1.2
  have hidc : id ∈ idsN c := by cases c; simp only [idsN, List.mem_cons]; exact .inr hk
  have hcne : c.id ≠ id := fun e => by
   cases c
   simp only [idsN, List.nodup_cons, Nd.id, Nd.sub] at h1 e hk
   exact h1.1 (e ▸ hk)
  have hno : ¬ ((l1 ++ c :: l2).any fun c => decide (c.id = id)) = true := fun e => by
   obtain ⟨x, hx, hxi⟩ := any_id.1 e
   rcases List.mem_append.1 hx with hx | hx
   ·exact (h2 id hidc).1 (hxi ▸ id_in_ids hx)
   ·rcases List.mem_cons.1 hx with rfl | hx
    ·exact hcne hxi
    ·exact (h2 id hidc).2 (hxi ▸ id_in_ids hx)
  rw [fndG, if_neg hno, fndGL_skip l2 l1 (h2 id hidc).1, ih hq hid hcn]
theorem movTo_at {id : Int} {s : List Nd} {j : Nat} {q : Nd} (hj : s[j]? = some q) (hid : q.id = id) (hn : (idsL s).Nodup) (p : Nat) :
  ∃ l1 l2, s = l1 ++ q :: l2 ∧ l1.length = j ∧ (∀ x ∈ l1, x.id ≠ id) ∧ movTo id p s = (l1 ++ l2).take p ++ q :: (l1 ++ l2).drop p := by
 obtain ⟨l1, l2, rfl, rfl, hset⟩ := list_split hj
 obtain ⟨h1, h2⟩ := nodup_mid hn
 have hidq : id ∈ idsN q := by cases q; simp only [idsN, List.mem_cons]; exact .inl hid.symm
 have n1 : ∀ x ∈ l1, x.id ≠ id := fun x hx e => (h2 id hidq).1 (e ▸ id_in_ids hx)
 have n2 : ∀ x ∈ l2, x.id ≠ id := fun x hx e => (h2 id hidq).2 (e ▸ id_in_ids hx)
 refine ⟨l1, l2, rfl, rfl, n1, ?_⟩
 have hf : (l1 ++ q :: l2).find? (fun c => decide (c.id = id)) = some q := by
  rw [List.find?_append, List.find?_eq_none.2 (fun x hx => by simpa using n1 x hx)]
  simp [hid]
 have hfl : ((l1 ++ q :: l2).filter fun c => !decide (c.id = id)) = l1 ++ l2 := by
  rw [List.filter_append, List.filter_cons_of_neg (by simp [hid]), List.filter_eq_self.2 (fun x hx => by simpa using n1 x hx), List.filter_eq_self.2 (fun x hx => by simpa using n2 x hx)]
 unfold movTo
 rw [hf, hfl]
theorem RetEd.ahead {B0 gb : Nat} {E : Er → Value} {N K : Value} {r : EdR} {F : List Nat} {w w2 : World} {en : Ending} {w' : World} (hc : Chg NoB w w2) (h : RetEd B0 gb E N K r F w2 en w') : RetEd B0 gb E N K r F w en w' := by
 obtain ⟨h1, h2⟩ := h
 refine ⟨(hc.mono (D := fun x => x = gb ∨ x ∈ F) (fun _ _ e => nbE e)).trans h1 (fun x e => .inl e), ?_⟩
 cases r with
 | ok l nx => obtain ⟨he, F', hL, hs⟩ := h2; exact ⟨he, F', hL, fun x hx => (hs x hx).imp id (fun h => Nat.le_trans hc.size h)⟩
 | bad e => exact h2
theorem RetEd.form {B0 gb : Nat} {E : Er → Value} {N K : Value} {r : EdR} {F : List Nat} {w2 wg : World} {m : Int} {en : Ending} {w' : World} (hG : EvG B0 E N K m wg) (h : RetEd B0 gb E N K r F w2 en w') : en = .returned .nilIface ∨ ∃ T u, en = .returned (.iface T u) := by
 obtain ⟨h1, h2⟩ := h
 cases r with
 | ok l nx => exact .inl h2.1
 | bad e =>
  refine .inr ?_
  cases e with
  | er e => obtain ⟨T, u, hE⟩ := hG.glo.errs.form e; exact ⟨T, u, by rw [← hE]; exact h2⟩
  | non => obtain ⟨T, u, hE⟩ := hG.nform; exact ⟨T, u, by rw [← hE]; exact h2⟩
  | kind => obtain ⟨T, u, hE⟩ := hG.kform; exact ⟨T, u, by rw [← hE]; exact h2⟩
theorem mkB_sz (l : List UInt8) : (mkB l).size = l.length := by simp [mkB, ByteArray.size]
theorem join_rest {line w0 w1 x : ByteArray} {r : List ByteArray} (h : wordsB line = w0 :: w1 :: x :: r) : (joinW (x :: r)).length ≤ line.size := by
 have h1 := joinW_words line
 rw [h] at h1
 have h2 := congrArg List.length h1
 rw [length_data] at h2
 simp only [joinW, blanks, List.map_cons, List.flatten_cons, List.length_append, List.length_cons] at h2 ⊢
 omega
theorem edit_add (B0 gb : Nat) (E : Er → Value) (N K : Value) (line w0 s1 x : ByteArray) (r : List ByteArray) (hws : wordsB line = w0 :: s1 :: x :: r) (l : List Nd) (nx m : Int) (F : List Nat) (w : World) (hG : EvG B0 E N K m w) (hl : line.size ≤ 10000) (hB : B0 ≤ gb) (hL : LogSt w B0 gb l nx F) (hn : (idsL l).Nodup) (hw : Nd.weighs l ≤ 1000) (hnx : 0 ≤ nx ∧ nx ≤ 1000000) (hw0d : w0 = bAdd) :
  Calls Tryz.prog 29 #[.pointer (some ⟨gb, 0, none⟩), .string line] w (RetEd B0 gb E N K (addF s1 (mkB (joinW (x :: r))) l nx) F w) := by
 have hsp := Tryz.strings_Split line ⟨#[32]⟩ m w (by omega) hG.max (by decide)
 have hwl := words_len line
 have hwsz := words_size line
 have hwc := words_count line
 have hjr := join_rest hws
 rw [split_words, ← hwl, hws] at hsp
 rw [hws] at hwsz hwc
 obtain ⟨n, hne⟩ : ∃ n, n = (w0 :: s1 :: x :: r).length := ⟨_, rfl⟩
 rw [← hne] at hsp hwc
 have hne2 : n = (x :: r).length + 2 := hne
 have hn2 : 3 ≤ n := by rw [hne2, List.length_cons]; omega
 have hnI : (2 : Int) < (n : Int) := by omega
 have hab : (w0.toList == [97, 100, 100]) = true := by rw [bytes_beq]; exact decide_eq_true hw0d
 have hs1 : s1.size ≤ 10000 := by have := hwsz s1 (List.mem_cons_of_mem _ (List.mem_cons_self ..)); omega
 have hxs : ∀ y ∈ x :: r, y.size ≤ 100000 := fun y hy => by have := hwsz y (List.mem_cons_of_mem _ (List.mem_cons_of_mem _ hy)); omega
 have Hxs := Lib.hid hxs
 have Hne2 := Lib.hid hne2
 have hgl := hL.pt.lt.1
 have Hlt := Lib.hid hL.pt.lt.2
 clear hwl hws hwsz hw0d hxs hne hne2
 go_enter Tryz.func29, Tryz.ntmps29
 go_wp2_with fail
 refine hsp.mono ?_
 rintro en w1 ⟨rfl, hww⟩
 have hc1 : Chg NoB w w1 := by
  rw [← hww.symm]
  repeat (first | exact Chg.refl _ _ | apply Chg.alloc | apply Chg.drew)
 have hb1 : Blk w1 w.heap.size ((w0 :: s1 :: x :: r).map Value.string) 9 := by rw [hww]; exact Blk.newAt rfl
 clear hsp hww
 have e0 : w1.cell? ⟨w.heap.size, 0, none⟩ = some (.string w0) := hb1.cell 0
 have e1 : w1.cell? ⟨w.heap.size, 1, none⟩ = some (.string s1) := hb1.cell 1
 have hz1 := hb1.lt
 go_wp2_with fail
 refine wp_region_n (fun w' => w'.cell? ⟨w.heap.size, 1, none⟩ = some (.string s1)) [] (by kernel_rfl) ?_ (fun hSh => ?_)
 ·exact e1
 refine n_tA (v := ?_) 0 rfl (Or.inl ⟨by rfl, ?_⟩) ?_
 rotate_left 1
 ·(intro w' hSw; (try dsimp only at hSw); go_simp; try with_reducible rfl)
 simp only [Act.put, qA, qB, qC, qD, qE, qF]
 refine n_tA (v := ?_) 1 rfl (Or.inl ⟨by rfl, ?_⟩) ?_
 rotate_left 1
 ·(intro w' hSw; (try dsimp only at hSw); go_simp; try with_reducible rfl)
 simp only [Act.put, qA, qB, qC, qD, qE, qF]
 refine n_tA (v := ?_) 2 rfl (Or.inl ⟨by rfl, ?_⟩) ?_
 rotate_left 1
 ·(intro w' hSw; (try dsimp only at hSw); go_simp; rw [if_pos (by omega)]; (try rw [if_neg (by omega)]); try with_reducible rfl)
 simp only [Act.put, qA, qB, qC, qD, qE, qF]
 refine n_tA (v := ?_) 3 rfl (Or.inl ⟨by rfl, ?_⟩) ?_
 rotate_left 1
 ·(intro w' hSw; (try dsimp only at hSw); go_simp; try with_reducible rfl)
 simp only [Act.put, qA, qB, qC, qD, qE, qF]
 refine n_tA (v := ?_) 4 rfl (Or.inl ⟨by rfl, ?_⟩) ?_
 rotate_left 1
 ·(intro w' hSw; (try dsimp only at hSw); go_simp; try with_reducible rfl)
 simp only [Act.put, qA, qB, qC, qD, qE, qF]
 refine n_tA (v := ?_) 5 rfl (Or.inl ⟨by rfl, ?_⟩) ?_
 rotate_left 1
 ·(intro w' hSw; (try dsimp only at hSw); go_simp; rw [if_pos (by omega)]; (try rw [if_neg (by omega)]); try with_reducible rfl)
 simp only [Act.put, qA, qB, qC, qD, qE, qF]
 refine n_step 6 rfl (by kernel_rfl) ?_
 go_wp2_with fail
 have hjo : Calls Tryz.prog 51 #[.slice (some ⟨w.heap.size, 2, none⟩) (n - 2) (n - 2), .string ⟨#[32]⟩] w1.drew (RetV (.string (mkB (joinW (x :: r)))) w1.drew) := by
  rw [show n - 2 = (x :: r).length from by rw [Hne2.out]; omega]
  refine join_any w.heap.size 2 _ (x :: r) w1.drew (by simp) (fun j y hy => ?_) hz1 (by have := Hne2.out; omega) (Nat.le_refl _) Hxs.out
  have h9 : w1.drew.cell? ⟨w.heap.size, 2 + j, none⟩ = some (.string y) := by
   rw [hb1.drew.cell (2 + j), Nat.add_comm 2 j]
   show ((x :: r).map Value.string)[j]? = _
   rw [List.getElem?_map, hy]; rfl
  exact h9
 refine hjo.mono ?_
 clear hjo
 rintro en w2 ⟨rfl, hc2⟩
 have hc12 : Chg NoB w w2 := hc1.tr (Chg.trans ((Chg.refl NoB w1).drew) hc2 (fun _ e => nbE e))
 have hb2 := hb1.drew.keep hc2 nbE
 have hL2 := hL.keep hc12 nbE (fun _ _ => nbE)
 go_wp2_with fail
 refine ⟨fun _ => hb2.cell 1, fun hSk => ?_⟩
 replace hSk := hSk (by rfl)
 refine n_step 7 rfl (by kernel_rfl) ?_
 go_wp2_with fail
 refine (add_any B0 gb E N K s1 (mkB (joinW (x :: r))) l nx m F w2 (hG.keep0 hc12) hB hL2 hn hw (by omega) (by rw [mkB_sz]; omega) hnx).mono ?_
 intro en w3 hR
 have hR0 := hR.ahead hc12
 have e13 : w3.cell? ⟨w.heap.size, 1, none⟩ = some (.string s1) := (hR.1.cell (p := ⟨w.heap.size, 1, none⟩) hb2.lt (fun e => by
  rcases e with e | e
  ·have e : w.heap.size = gb := e; omega
  ·have h9 := (Hlt.out _ e).2; exact Nat.lt_irrefl _ h9)).trans (hb2.cell 1)
 rcases hR.form hG with rfl | ⟨T, u, rfl⟩
 ·have HR := Lib.hid hR0
  clear hR hR0
  go_wp2_with fail
  refine ⟨fun _ => e13, fun hSk3 => ?_⟩
  replace hSk3 := hSk3 (by rfl)
  refine n_step 8 rfl (by kernel_rfl) ?_
  go_wp2_with fail
  refine ⟨fun _ => hSk3, fun _ => ?_⟩
  refine n_done (by kernel_rfl) ?_
  go_wp2_with fail
  go_ret
  exact HR.out
 ·have HR := Lib.hid hR0
  clear hR hR0
  go_wp2_with fail
  refine ⟨fun _ => e13, fun hSk3 => ?_⟩
  replace hSk3 := hSk3 (by rfl)
  refine n_step 8 rfl (by kernel_rfl) ?_
  go_wp2_with fail
  refine ⟨fun _ => hSk3, fun _ => ?_⟩
  refine n_done (by kernel_rfl) ?_
  go_wp2_with fail
  go_ret
  exact HR.out
def Er.i : Er → Nat
 | .text => 0 | .bound => 1 | .shape => 2 | .name => 4
abbrev DV := DataW Value
def RV (v : Value) : Option (DV × List MemPlace) := some (.held v, [])
theorem lawI : Go.Maps.Keyed Tryz.prog 3 := Go.Maps.int_keyed Tryz.underlying3
def OM (w : World) (b n : Nat) (D : DV) : Prop := w.ownsMap Tryz.prog 3 RV b n D
theorem OM.keep {C : Nat → Prop} {w w' : World} {b n : Nat} {D : DV} (h : OM w b n D) (hc : Chg C w w') (hn : ¬ C b) : OM w' b n D := by
 obtain ⟨es, clock, hb, F, hs, hD⟩ := h
 exact ⟨es, clock, hc.at hb hn, F, hs, hD⟩
theorem OM.lt {w : World} {b n : Nat} {D : DV} (h : OM w b n D) : b < w.heap.size := World.ownsMap.lt h
def keyI (i : Int) : Lit := .int .i64 i
theorem keyI_wf {i : Int} (h : I64 i) : (keyI i).wf = true := by
 obtain ⟨h1, h2⟩ := h
 have e1 : IntKind.i64.min = -9223372036854775808 := by decide
 have e2 : IntKind.i64.max = 9223372036854775807 := by decide
 simp only [keyI, Lit.wf, e1, e2]
 simp
 omega
theorem keyOfI {i : Int} (h : I64 i) : keyOf Tryz.prog 3 (.int .i64 i) = some (keyI i) := Go.Maps.keyOf_int_mk Tryz.underlying3 (keyI_wf h)
theorem keyI_inj {i j : Int} (h : keyI i = keyI j) : i = j := by
 unfold keyI at h
 injection h
def ndVal (n : Nd) (sl : Value) : Value := .agg #[.int .i64 n.id, .string n.name, .int .i64 n.rep, .int .i64 n.kind, sl]
structure Inv (D1 D2 : DV) (K : List Kn) : Prop where
 m1 : Go.Maps.IsMap D1
 m2 : Go.Maps.IsMap D2
 tell : ∀ x ∈ K, ∃ (sa : Option Addr) (ln cp : Nat), (∀ zd, D1.atKey (keyI x.1.id) zd = .held (ndVal x.1 (.slice sa ln cp))) ∧ ∀ zd, D2.atKey (keyI x.1.id) zd = .held (.int .i64 x.2)
 only : ∀ i : Int, Go.Maps.has D1 (keyI i) = true → ∃ x ∈ K, x.1.id = i
theorem Inv.start : Inv (.map []) (.map []) [] := by
 refine ⟨Go.Maps.isMap_empty, Go.Maps.isMap_empty, fun x hx => (List.not_mem_nil hx).elim, fun i h => ?_⟩
 rw [Go.Maps.has_eq] at h
 cases h
theorem Inv.put {D1 D2 : DV} {K : List Kn} (h : Inv D1 D2 K) (x : Kn) (sa : Option Addr) (ln cp : Nat) (hx : x.1.id ∉ K.map fun y => y.1.id) : Inv (D1.put (keyI x.1.id) (.held (ndVal x.1 (.slice sa ln cp)))) (D2.put (keyI x.1.id) (.held (.int .i64 x.2))) (K ++ [x]) := by
 refine ⟨h.m1.put _ _, h.m2.put _ _, fun y hy => ?_, fun i hi => ?_⟩
 ·rcases List.mem_append.1 hy with hy | hy
  ·have hne : keyI y.1.id ≠ keyI x.1.id := fun e => hx (List.mem_map.2 ⟨y, hy, keyI_inj e⟩)
   obtain ⟨sa', ln', cp', a1, a2⟩ := h.tell y hy
   exact ⟨sa', ln', cp', fun zd => by rw [Go.Maps.atKey_put_other hne]; exact a1 zd, fun zd => by rw [Go.Maps.atKey_put_other hne]; exact a2 zd⟩
  ·obtain rfl := List.mem_singleton.1 hy
   exact ⟨sa, ln, cp, fun zd => Go.Maps.atKey_put_same h.m1 (show WideAt.IsKeyLit (keyI y.1.id) from trivial) _ _, fun zd => Go.Maps.atKey_put_same h.m2 (show WideAt.IsKeyLit (keyI y.1.id) from trivial) _ _⟩
 ·by_cases he : i = x.1.id
  ·exact ⟨x, List.mem_append.2 (.inr (List.mem_singleton.2 rfl)), he.symm⟩
  ·rw [Go.Maps.has_put_other (fun e => he (keyI_inj e))] at hi
   obtain ⟨y, hy, hyi⟩ := h.only i hi
   exact ⟨y, List.mem_append.2 (.inl hy), hyi⟩
def TwoB (b1 b2 : Nat) : Nat → Prop := fun x => x = b1 ∨ x = b2
theorem weighs_snoc : ∀ (l : List Nd) (n : Nd), Nd.weighs (l ++ [n]) = Nd.weighs l + n.weigh
 | [], n => by simp [Nd.weighs]
 | x :: xs, n => by simp only [List.cons_append, Nd.weighs, weighs_snoc xs n]; omega
def RetKn (b1 b2 n : Nat) (K : List Kn) (w : World) (en : Ending) (w' : World) : Prop :=
 en = .returned (.tuple #[]) ∧ ∃ D1 D2, OM w' b1 n D1 ∧ OM w' b2 n D2 ∧ Inv D1 D2 K ∧ Chg (TwoB b1 b2) w w'
def KnRel (b1 b2 n : Nat) (K : List Kn) (i : Int) (s : List Nd) (w : World) (nb : Nat) (cells : List Value) (vj : Value) (wr : World) : Prop :=
 ∃ (j : Nat) (D1 D2 : DV), j ≤ s.length ∧ vj = .int .i64 (j : Nat) ∧ OM wr b1 (n + Nd.weighs (s.take j)) D1 ∧ OM wr b2 (n + Nd.weighs (s.take j)) D2 ∧ Inv D1 D2 (K ++ knL i (s.take j)) ∧ Chg (TwoB b1 b2) w wr ∧ Blk wr nb cells 28
theorem known_any (b1 b2 : Nat) (hne : b1 ≠ b2) : ∀ (m : Nat) (nd : Nd) (w : World) (S : Nat → Prop) (cs : List Value) (n : Nat) (D1 D2 : DV) (K : List Kn), nd.weigh ≤ m → Reads w S nd.dt cs → nd.ok → (∀ x, S x → ¬ TwoB b1 b2 x) → OM w b1 n D1 → OM w b2 n D2 → Inv D1 D2 K →
  ((K.map fun y => y.1.id) ++ idsL nd.sub).Nodup → n + nd.weigh ≤ 140737488355328 →
  Calls Tryz.prog 34 #[.agg cs.toArray, .map (some b1), .map (some b2)] w (RetKn b1 b2 (n + Nd.weighs nd.sub) (K ++ knL nd.id nd.sub) w) := by
 intro m
 induction m with
 | zero => intro nd w S cs n D1 D2 K hm; cases nd; simp [Nd.weigh] at hm
 | succ m ih =>
  intro nd w S cs n D1 D2 K hm hr hok hS ho1 ho2 hinv hnod hbound
  have Hih := Lib.hid ih
  clear ih
  obtain ⟨i, nm, r, k, s⟩ := nd
  obtain ⟨sv, rfl, hs⟩ := reads_nd.1 hr
  obtain ⟨sa, cap, rfl, hlen, hcap, hel⟩ := reads_subs hs
  obtain ⟨hi, hn, hrr, hk, hsl, hoks⟩ := hok
  simp only [Nd.weigh] at hm hbound
  have Hnod := Lib.hid hnod
  clear hnod
  unfold reach at hsl
  go_enter Tryz.func34, Tryz.ntmps34
  go_wp2_with fail
  generalize hw1 : w.alloc _ = w1
  have hc1 : Chg NoB w w1 := by
   rw [← hw1]
   repeat (first | exact Chg.refl _ _ | apply Chg.alloc | apply Chg.drew)
  have hb1 : Blk w1 (w.heap.size) (ndCells i nm r k (.slice sa s.length cap)) 28 := by
   rw [← hw1]
   repeat (first | exact Blk.newAt (by first | rfl | (simp; done) | (simp; omega)) | apply Blk.alloc | apply Blk.drew)
  clear hw1
  have hl1 := ho1.lt
  have hl2 := ho2.lt
  have ho1 := ho1.keep hc1 nbE
  have ho2 := ho2.keep hc1 nbE
  have hc01 : Chg (TwoB b1 b2) w w1 := hc1.mono (fun _ _ e => nbE e)
  have hnb : ¬ TwoB b1 b2 w.heap.size := by
   rintro (e | e) <;> omega
  go_loopw [11] (fun vj wr => KnRel b1 b2 n K i s w w.heap.size (ndCells i nm r k (.slice sa s.length cap)) vj wr) (fun vj _ => s.length - (intOf vj).toNat)
  case atStart => exact ⟨0, D1, D2, Nat.zero_le _, rfl, by simpa [Nd.weighs] using ho1, by simpa [Nd.weighs] using ho2, by simpa [knL] using hinv, hc01, hb1⟩
  case round =>
   obtain ⟨j, E1, E2, hj, rfl, hq1, hq2, hinvj, hcj, hbj⟩ := hrel
   by_cases hlt : j < s.length
   ·obtain ⟨eb, off, rfl, hSb, hbw, hE⟩ := hel (by omega)
    obtain ⟨ecs, hl5, hcells, hre⟩ := hE.get j s[j].dt (by simp [hlt])
    have hmem : s[j] ∈ s := List.getElem_mem hlt
    have hwj := Nd.weigh_mem hmem
    have hokj := Nd.oks_mem hoks _ hmem
    have htake : s.take (j + 1) = s.take j ++ [s[j]] := List.take_succ_eq_append_getElem hlt
    have hdrop : s = s.take j ++ s[j] :: s.drop (j + 1) := by rw [← List.drop_eq_getElem_cons hlt, List.take_append_drop]
    have hle := Nd.weigh_mem hmem
    have hnodj := Hnod.out
    simp only [Nd.sub] at hnodj
    rw [hdrop, idsL_append] at hnodj
    generalize s[j] = nj at hre hwj hokj htake hnodj hle
    obtain ⟨i1, n1, r1, k1, s1⟩ := nj
    have hids : (K ++ knL i (s.take j)).map (fun y => y.1.id) = (K.map fun y => y.1.id) ++ idsL (s.take j) := by rw [List.map_append, knL_ids]
    simp only [idsL, idsN] at hnodj
    have hnod3 : (((K.map fun y => y.1.id) ++ idsL (s.take j)) ++ (i1 :: idsL s1)).Nodup := by
     refine hnodj.sublist ?_
     rw [List.append_assoc]
     refine List.Sublist.append_left (List.Sublist.append_left ?_ _) _
     exact List.sublist_append_left _ _
    have hfresh : i1 ∉ (K ++ knL i (s.take j)).map fun y => y.1.id := by
     rw [hids]
     intro hmem2
     exact (List.nodup_append.1 hnod3).2.2 i1 hmem2 i1 (List.mem_cons_self ..) rfl
    have hnod4 : (((K ++ knL i (s.take j)) ++ [((.mk i1 n1 r1 k1 s1 : Nd), i)]).map (fun y => y.1.id) ++ idsL s1).Nodup := by
     rw [List.map_append, hids, List.map_cons, List.map_nil, List.append_assoc, List.append_assoc]
     rw [List.append_assoc] at hnod3
     exact hnod3
    have hKj : (K ++ knL i (s.take j)) ++ [((.mk i1 n1 r1 k1 s1 : Nd), i)] ++ knL i1 s1 = K ++ knL i (s.take (j + 1)) := by
     rw [htake, knL_append]
     simp only [knL, knN, List.append_nil, List.append_assoc, List.cons_append, List.nil_append]
    have hWj : Nd.weighs (s.take (j + 1)) = Nd.weighs (s.take j) + (Nd.weighs s1 + 1) := by rw [htake, weighs_snoc, Nd.weigh]; omega
    have hWle : Nd.weighs (s.take (j + 1)) ≤ Nd.weighs s := by
     have h9 : s = s.take (j + 1) ++ s.drop (j + 1) := (List.take_append_drop _ _).symm
     have h8 : ∀ a b : List Nd, Nd.weighs a ≤ Nd.weighs (a ++ b) := fun a b => by
      induction a with
      | nil => simp [Nd.weighs]
      | cons x xs ih => simp only [List.cons_append, Nd.weighs]; omega
     have h7 := h8 (s.take (j + 1)) (s.drop (j + 1))
     rwa [← h9] at h7
    have Hfresh := Lib.hid hfresh
    have Hnod4 := Lib.hid hnod4
    have HKj := Lib.hid hKj
    simp only [Nd.weigh] at hle
    clear hnodj hnod3 hfresh hnod4 hKj hids hdrop htake
    obtain ⟨sl1, rfl, hs1⟩ := reads_nd.1 hre
    obtain ⟨sa1, cap1, rfl, _, _, _⟩ := reads_subs hs1
    have hi1 : I64 i1 := hokj.1
    have hebn : ¬ TwoB b1 b2 eb := hS eb hSb
    have e0 : wr.cell? ⟨eb, off + j * 5, none⟩ = some (.int .i64 i1) := (hcj.cell (p := ⟨eb, off + j * 5, none⟩) hbw hebn).trans (hcells 0 _ rfl)
    have e1 : wr.cell? ⟨eb, off + j * 5 + 1, none⟩ = some (.string n1) := (hcj.cell (p := ⟨eb, off + j * 5 + 1, none⟩) hbw hebn).trans (hcells 1 _ rfl)
    have e2 : wr.cell? ⟨eb, off + j * 5 + 2, none⟩ = some (.int .i64 r1) := (hcj.cell (p := ⟨eb, off + j * 5 + 2, none⟩) hbw hebn).trans (hcells 2 _ rfl)
    have e3 : wr.cell? ⟨eb, off + j * 5 + 3, none⟩ = some (.int .i64 k1) := (hcj.cell (p := ⟨eb, off + j * 5 + 3, none⟩) hbw hebn).trans (hcells 3 _ rfl)
    have e4 : wr.cell? ⟨eb, off + j * 5 + 4, none⟩ = some (.slice sa1 s1.length cap1) := (hcj.cell (p := ⟨eb, off + j * 5 + 4, none⟩) hbw hebn).trans (hcells 4 _ rfl)
    clear hcells
    have hltI : (j : Int) < (s.length : Int) := by omega
    go_wp2_with fail
    generalize hw2 : wr.alloc _ = w2
    have hc2 : Chg NoB wr w2 := by
     rw [← hw2]
     repeat (first | exact Chg.refl _ _ | apply Chg.alloc | apply Chg.drew)
    have hx2 : Blk w2 (wr.heap.size) (ndCells i1 n1 r1 k1 (.slice sa1 s1.length cap1)) 28 := by
     rw [← hw2]
     repeat (first | exact Blk.newAt (by first | rfl | (simp; done) | (simp; omega)) | apply Blk.alloc | apply Blk.drew)
    clear hw2 e0 e1 e2 e3 e4
    have hb2 := hbj.keep hc2 nbE
    have hq1 := hq1.keep hc2 nbE
    have hq2 := hq2.keep hc2 nbE
    have hc02 := hcj.tr hc2
    have hxl := hx2.lt
    have hszw := hcj.size
    have hxn : ¬ TwoB b1 b2 wr.heap.size := by
     rintro (e | e) <;> omega
    refine wp_region_n (fun w' => w'.cell? ⟨wr.heap.size, 0, none⟩ = some (.int .i64 i1) ∧ w'.cell? ⟨wr.heap.size, 1, none⟩ = some (.string n1) ∧ w'.cell? ⟨wr.heap.size, 2, none⟩ = some (.int .i64 r1) ∧ w'.cell? ⟨wr.heap.size, 3, none⟩ = some (.int .i64 k1) ∧ w'.cell? ⟨wr.heap.size, 4, none⟩ = some (.slice sa1 s1.length cap1) ∧ w'.cell? ⟨w.heap.size, 0, none⟩ = some (.int .i64 i)) [10] (by kernel_rfl) ?_ (fun hSh => ?_)
    ·exact ⟨hx2.cell 0, hx2.cell 1, hx2.cell 2, hx2.cell 3, hx2.cell 4, hb2.cell 0⟩
    refine n_from 0 ?_
    intro htk
    iterate 9
     refine n_tB (v := ?_) htk rfl (Or.inl ⟨by rfl, ?_⟩) ?_
     rotate_left 1
     ·(intro w' hSw; (try dsimp only at hSw); go_simp; try with_reducible rfl)
     clear htk
     intro htk
     simp only [Nat.reduceAdd] at htk
     simp only [Act.put, qA, qB, qC, qD, qE, qF]
    clear htk
    refine n_step 9 rfl (by kernel_rfl) ?_
    refine wpList_mapUpdate_own _ rfl _ _ _ 74 rfl 3 28 lawI Tryz.underlying74 RV b1 (n + Nd.weighs (s.take j)) E1 rfl (show OM w2.drew b1 _ E1 from hq1) (by unfold maxLen; omega) _ _ (keyI i1) rfl rfl (keyOfI hi1) (.held (ndVal (.mk i1 n1 r1 k1 s1) (.slice sa1 s1.length cap1))) [] rfl ?_
    intro w3 hown3 hgrow3
    have hc3 : Chg (TwoB b1 b2) w2 w3 := (Chg.refl (TwoB b1 b2) w2).drew.grown hgrow3 (fun x e => .inl (.inl (Option.some.inj e).symm))
    have hc3' : Chg (OneB b1) w2 w3 := (Chg.refl (OneB b1) w2).drew.grown hgrow3 (fun x e => .inl (Option.some.inj e).symm)
    have hx3 := hx2.keep hc3 hxn
    have hb3 := hb2.keep hc3 hnb
    have hq2 := hq2.keep hc3' (fun e => hne e.symm)
    go_wp2_with fail
    refine ⟨fun _ => ⟨hx3.cell 0, hx3.cell 1, hx3.cell 2, hx3.cell 3, hx3.cell 4, hb3.cell 0⟩, fun hSk => ?_⟩
    replace hSk := hSk (by rfl)
    refine n_step 10 rfl (by kernel_rfl) ?_
    refine wpList_mapUpdate_own _ rfl _ _ _ 75 rfl 3 3 lawI Tryz.underlying75 RV b2 (n + Nd.weighs (s.take j)) E2 rfl hq2 (by unfold maxLen; omega) _ _ (keyI i1) rfl rfl (keyOfI hi1) (.held (.int .i64 i)) [] rfl ?_
    intro w4 hown4 hgrow4
    have hc4 : Chg (TwoB b1 b2) w3 w4 := (Chg.refl (TwoB b1 b2) w3).grown hgrow4 (fun x e => .inl (.inr (Option.some.inj e).symm))
    have hc4' : Chg (OneB b2) w3 w4 := (Chg.refl (OneB b2) w3).grown hgrow4 (fun x e => .inl (Option.some.inj e).symm)
    have hx4 := hx3.keep hc4 hxn
    have hb4 := hb3.keep hc4 hnb
    have hown3 : OM w4 b1 _ _ := OM.keep hown3 hc4' (fun e => hne e)
    have hinv4 := hinvj.put ((.mk i1 n1 r1 k1 s1 : Nd), i) sa1 s1.length cap1 Hfresh.out
    have hc04 := (hc02.trans hc3 (fun _ e => .inl e)).trans hc4 (fun _ e => .inl e)
    have hc24 := hc3.trans hc4 (fun _ e => .inl e)
    clear hSk hSh hgrow3 hgrow4 hx3 hx2 hb3 hb2 hq1 hq2 hc3 hc3' hc4 hc4'
    go_wp2_with fail
    refine n_done (by kernel_rfl) ?_
    have y0 : w4.cell? ⟨wr.heap.size, 0, none⟩ = some (.int .i64 (i1)) := hx4.cell 0
    have y1 : w4.cell? ⟨wr.heap.size, 1, none⟩ = some (.string n1) := hx4.cell 1
    have y2 : w4.cell? ⟨wr.heap.size, 2, none⟩ = some (.int .i64 (r1)) := hx4.cell 2
    have y3 : w4.cell? ⟨wr.heap.size, 3, none⟩ = some (.int .i64 (k1)) := hx4.cell 3
    have y4 : w4.cell? ⟨wr.heap.size, 4, none⟩ = some (.slice sa1 s1.length cap1) := hx4.cell 4
    have hxl4 := hx4.lt
    go_wp2_with fail
    have hrj : Reads w4 S (Nd.dt (.mk i1 n1 r1 k1 s1)) [.int .i64 i1, .string n1, .int .i64 r1, .int .i64 k1, .slice sa1 s1.length cap1] := hre.chg hc04 hS
    refine (Hih.out (.mk i1 n1 r1 k1 s1) w4 S _ (n + Nd.weighs (s.take j) + 1) _ _ _ (by simp only [Nd.weigh]; omega) hrj hokj hS hown3 hown4 hinv4 Hnod4.out (by simp only [Nd.weigh]; omega)).mono ?_
    rintro en w5 ⟨rfl, F1, F2, hp1, hp2, hinv5, hc5⟩
    have hb5 := hb4.keep hc5 hnb
    simp only [Nd.sub, Nd.id] at hp1 hp2 hinv5
    rw [HKj.out] at hinv5
    rw [show n + Nd.weighs (s.take j) + 1 + Nd.weighs s1 = n + Nd.weighs (s.take (j + 1)) by omega] at hp1 hp2
    go_wp2_with fail
    refine ⟨⟨j + 1, F1, F2, hlt, by go_num, hp1, hp2, hinv5, hc04.trans hc5 (fun _ e => .inl e), hb5⟩, by simp [intOf]; omega⟩
   ·have hje : j = s.length := by omega
    have hltI : ¬ (j : Int) < (s.length : Int) := by omega
    rw [hje, List.take_length] at hq1 hq2 hinvj
    go_wp2_with fail
    refine bodyPost_ret (v := .tuple #[]) (by simp [results, Tryz.results34, go_sem]) rfl ?_
    exact ⟨rfl, E1, E2, hq1, hq2, hinvj, hcj⟩
def lineSum (l : List ByteArray) : Nat := (l.map ByteArray.size).sum
def shortB (l : List ByteArray) : Bool := decide (l.length ≤ 80) && decide (lineSum l ≤ 4000)
theorem lineSum_le {l : List ByteArray} (h : ∀ s ∈ l, s.size ≤ reach) : lineSum l ≤ l.length * reach := by
 induction l with
 | nil => exact Nat.zero_le _
 | cons x xs ih =>
  have h1 := ih (fun s hs => h s (List.mem_cons_of_mem _ hs))
  have h2 := h x (List.mem_cons_self ..)
  simp only [lineSum, List.map_cons, List.sum_cons, List.length_cons] at h1 ⊢
  rw [Nat.succ_mul]; omega
def ShortRel (l : List ByteArray) (vn vi : Value) : Prop := ∃ (j : Nat) (n : Int), j ≤ l.length ∧ vi = .int .i64 (j : Nat) ∧ vn = .int .i64 n ∧ (l.length ≤ 80 → n = (lineSum (l.take j) : Nat))
theorem short_any (l : List ByteArray) (v : Value) (w : World) (S : Nat → Prop) (h : Reads w S (.list 1 (l.map strDt)) [v]) (hsz : ∀ s ∈ l, s.size ≤ reach) (hl : l.length * 16 ≤ reach) :
  Calls Tryz.prog 9 #[v] w (RetV (.bool (shortB l)) w) := by
 obtain ⟨a, c, rfl, hlc, hcm, hcell⟩ := list_cells (f := fun s => Value.string s) h
 unfold maxLen at hcm
 have hsb : shortB l = (decide (l.length ≤ 80) && decide (lineSum l ≤ 4000)) := rfl
 have Hsb := Lib.hid hsb
 clear hsb
 unfold reach at hl
 by_cases h80 : l.length ≤ 80
 ·have h80I : (l.length : Int) ≤ 80 := by omega
  go_enter Tryz.func9, Tryz.ntmps9
  go_wp2_with fail
  go_loop [3, 4] (fun vn vi => ShortRel l vn vi) (fun _ vi => l.length - (intOf vi).toNat)
  case atStart => exact ⟨0, 0, Nat.zero_le _, rfl, rfl, fun _ => rfl⟩
  case round =>
   obtain ⟨j, n, hj, rfl, rfl, hn⟩ := hrel
   obtain rfl := hn h80
   by_cases hlt : j < l.length
   ·obtain ⟨b, off, rfl, hSb, hbw, hE⟩ := hcell (by omega)
    have e1 := hE j l[j] (List.getElem?_eq_getElem hlt)
    have hx := hsz l[j] (List.getElem_mem hlt)
    have htake : l.take (j + 1) = l.take j ++ [l[j]] := List.take_succ_eq_append_getElem hlt
    have hsum : lineSum (l.take (j + 1)) = lineSum (l.take j) + l[j].size := by unfold lineSum; rw [htake, List.map_append, List.sum_append]; simp only [List.map_cons, List.map_nil, List.sum_cons, List.sum_nil, Nat.add_zero]
    have hle : lineSum (l.take j) ≤ 80 * reach := Nat.le_trans (lineSum_le (fun s hs => hsz s (List.mem_of_mem_take hs))) (Nat.mul_le_mul_right _ (by rw [List.length_take]; omega))
    have Hsum := Lib.hid hsum
    clear hsum htake hE hn
    generalize l[j] = ej at e1 hx Hsum
    generalize lineSum (l.take j) = q at Hsum hle ⊢
    unfold reach at hx hle
    have hltI : (j : Int) < (l.length : Int) := by omega
    go_wp2_with fail
    go_round
    case rel => exact ⟨j + 1, _, hlt, by go_num, rfl, fun _ => by rw [Hsum.out]; omega⟩
    case measure => simp [intOf]; omega
   ·have hltI : ¬ (j : Int) < (l.length : Int) := by omega
    have hjs : l.take j = l := List.take_of_length_le (by omega)
    rw [hjs]
    generalize lineSum l = q at Hsb
    go_wp2_with fail
    go_ret
    refine ⟨?_, Chg.refl _ _⟩
    rw [Hsb.out]
    first | (simp [h80]; done) | (simp [h80]; omega)
 ·have h80I : ¬ (l.length : Int) ≤ 80 := by omega
  have hf : shortB l = false := by rw [Hsb.out, decide_eq_false h80, Bool.false_and]
  rw [hf]
  clear Hsb hf
  go_enter Tryz.func9, Tryz.ntmps9
  go_wp2_with fail
  go_loop [3, 4] (fun vn vi => ∃ (j : Nat) (n : Int), j ≤ l.length ∧ vi = .int .i64 (j : Nat) ∧ vn = .int .i64 n) (fun _ vi => l.length - (intOf vi).toNat)
  case atStart => exact ⟨0, 0, Nat.zero_le _, rfl, rfl⟩
  case round =>
   obtain ⟨j, n, hj, rfl, rfl⟩ := hrel
   by_cases hlt : j < l.length
   ·obtain ⟨b, off, rfl, hSb, hbw, hE⟩ := hcell (by omega)
    have e1 := hE j l[j] (List.getElem?_eq_getElem hlt)
    clear hE
    generalize l[j] = ej at e1
    have hltI : (j : Int) < (l.length : Int) := by omega
    go_wp2_with fail
    go_round
    case rel => exact ⟨j + 1, _, hlt, by go_num, rfl⟩
    case measure => simp [intOf]; omega
   ·have hltI : ¬ (j : Int) < (l.length : Int) := by omega
    go_wp2_with fail
    go_ret
    exact ⟨rfl, Chg.refl _ _⟩
theorem strs_chunksT (w : World) (S : Nat → Prop) : ∀ l : List ByteArray, ReadsC w S 1 (l.map strDt) (l.map Value.string)
 | [] => rfl
 | x :: l => ⟨[.string x], _, rfl, rfl, ⟨rfl, rfl⟩, strs_chunksT w S l⟩
theorem strs_newsT {w : World} {S : Nat → Prop} : ∀ {l : List ByteArray} {xs : List Value}, ReadsC w S 1 (l.map strDt) xs → xs = l.map Value.string
 | [], xs, h => h
 | x :: l, xs, h => by
  obtain ⟨c, r, rfl, _, h2, h3⟩ := h
  obtain ⟨rfl, _⟩ := (h2 : c = [.string x] ∧ _)
  rw [strs_newsT h3]; rfl
theorem texts_any (l : List ByteArray) (v : Value) (w : World) (S : Nat → Prop) (h : Reads w S (.list 1 (l.map strDt)) [v]) (hl : l.length * 16 ≤ 140737488355328) :
  Calls Tryz.prog 10 #[v] w fun e w' => ∃ v', e = .returned v' ∧ Own w' w.heap.size 9 1 (fun _ => False) v' (l.map strDt) ∧ Chg NoB w w' := by
 obtain ⟨a, c, news, rfl, hc1, hc2, hn, hcell, hnone⟩ := news_of h
 obtain rfl := strs_newsT hn
 have hlen : (l.map strDt).length = l.length := List.length_map ..
 go_enter Tryz.func10, Tryz.ntmps10
 go_wp2_with (at_builtin; refine stop_here ?_)
 refine Stop.go ?_
 refine wpList_own rfl (.tmp 4) (.tmp 5) 22 rfl w.heap.size 9 Tryz.underlying22 infoStr rfl (by decide) rfl (Own.nil w w.heap.size 9 1 (fun _ => False)) rfl (l.map strDt) _ rfl (strs_chunksT _ _ l) hcell hnone ?_ ?_ (Nat.le_refl _) ?_
 ·simp [maxLen]; omega
 ·simp; omega
 intro ao2 cap2 wB hoB hcB hatB
 simp only [List.length_nil, Nat.zero_add, List.nil_append] at hoB hcB hatB ⊢
 go_wp2_with fail
 go_ret
 rw [hlen] at hoB
 exact ⟨_, rfl, hoB, hcB.mono (fun _ _ e => by cases e)⟩
end Go.Proofs.YtgcmfpcgmkkobaaGreatDoor
