/-
  The group around an ID, in plain words.; evolve's edit: add.; shredcollaw4's short and texts: of lines that are handed in.; What the row's list gives: the package's variables.; What SchemaError tells is what Valid tells: the plain law.; Find and Under against FindOf and UnderOf: the plain laws; and the errors' numbers.
-/
import Derived.Test.YtnmhkafpgohefaaGreatDoorEditT
import Derived.Test.YtnmhkafpgohefaaGreatDoorNumbered
import Derived.Test.YtnmhkafpgohefaaGreatDoorTreeMore
import Derived.Lib.SliceRun
import Derived.Test.YtnmhkafpgohefaaGreatDoorParse
import Derived.OpenShut
import Derived.LaidLaws
import Derived.Test.YtnmhkafpgohefaaGreatDoorNames
import Derived.Test.YtnmhkafpgohefaaGreatDoorValid
import Derived.Test.YtnmhkafpgohefaaGreatDoorWordsLaw
import Derived.Test.YtnmhkafpgohefaaGreatDoorLeaf
import Derived.Test.YtnmhkafpgohefaaGreatDoorAll
import Derived.Test.YtnmhkafpgohefaaGreatDoorPlainE
set_option linter.unusedVariables false
set_option maxHeartbeats 20000000
set_option maxRecDepth 100000
set_option linter.unusedSimpArgs false
namespace Go.Proofs.YtnmhkafpgohefaaGreatDoor
open Go.RowKit
mutual
theorem fndG_no (id : Int) : ∀ n : Nd, id ∉ idsL n.sub → fndG id n = none
 | .mk i nm r k s, h => by
  simp only [Nd.sub] at h
  have h1 : ¬ (s.any fun c => decide (c.id = id)) = true := fun e => by
   obtain ⟨c, hc, rfl⟩ := any_id.1 e
   exact h (id_in_ids hc)
  rw [fndG, if_neg h1, fndGL_no id s h]
theorem fndGL_no (id : Int) : ∀ l : List Nd, id ∉ idsL l → fndGL id l = none
 | [], _ => rfl
 | n :: ns, h => by
  simp only [idsL, List.mem_append, not_or] at h
  rw [fndGL, fndG_no id n (fun e => h.1 (by cases n; simp only [idsN, List.mem_cons, Nd.sub] at e ⊢; exact .inr e))]
  exact fndGL_no id ns h.2
end
theorem fndGL_skip {id : Int} {c : Nd} (l2 : List Nd) : ∀ l1 : List Nd, id ∉ idsL l1 → fndGL id (l1 ++ c :: l2) = match fndG id c with | some x => some x | none => fndGL id l2
 | [], _ => rfl
 | n :: ns, h => by
  simp only [idsL, List.mem_append, not_or] at h
  rw [List.cons_append, fndGL, fndG_no id n (fun e => h.1 (by cases n; simp only [idsN, List.mem_cons, Nd.sub] at e ⊢; exact .inr e))]
  exact fndGL_skip l2 ns h.2
theorem holds_fndG {id : Int} : ∀ {n h : Nd} {C : Nd → Nd}, Holds n h C → ∀ {j : Nat} {q : Nd}, h.sub[j]? = some q → q.id = id → (idsL n.sub).Nodup → fndG id n = some h.sub := by
 intro n h C hH
 induction hH with
 | here n =>
  intro j q hq hid hn
  have hm := List.mem_of_getElem? hq
  cases n
  simp only [Nd.sub] at hm ⊢
  rw [fndG, if_pos (any_id.2 ⟨q, hm, hid⟩)]
 | down hj hH ih =>
  rename_i i nm r k s jj c hh C
  intro j q hq hid hn
  simp only [Nd.sub] at hn
  have hk := (holds_grp hH hq hid (by
   obtain ⟨l1, l2, rfl, rfl, _⟩ := list_split hj
   have h1 := (nodup_mid hn).1
   cases c; simp only [idsN, List.nodup_cons] at h1; exact h1.2)).1
  obtain ⟨l1, l2, rfl, rfl, hset⟩ := list_split hj
  obtain ⟨h1, h2⟩ := nodup_mid hn
  have hcn : (idsL c.sub).Nodup := by cases c; simp only [idsN, List.nodup_cons] at h1; exact h1.2
  have hidc : id ∈ idsN c := by cases c; simp only [idsN, List.mem_cons]; exact .inr hk
  have hcne : c.id ≠ id := fun e => by
   cases c
   simp only [idsN, List.nodup_cons, Nd.id, Nd.sub] at h1 e hk
   exact h1.1 (e ▸ hk)
  have hno : ¬ ((l1 ++ c :: l2).any fun c => decide (c.id = id)) = true := fun e => by
   obtain ⟨x, hx, hxi⟩ := any_id.1 e
   rcases List.mem_append.1 hx with hx | hx
   ·exact (h2 id hidc).1 (hxi ▸ id_in_ids hx)
   ·rcases List.mem_cons.1 hx with rfl | hx
    ·exact hcne hxi
    ·exact (h2 id hidc).2 (hxi ▸ id_in_ids hx)
  rw [fndG, if_neg hno, fndGL_skip l2 l1 (h2 id hidc).1, ih hq hid hcn]
theorem movTo_at {id : Int} {s : List Nd} {j : Nat} {q : Nd} (hj : s[j]? = some q) (hid : q.id = id) (hn : (idsL s).Nodup) (p : Nat) :
  ∃ l1 l2, s = l1 ++ q :: l2 ∧ l1.length = j ∧ (∀ x ∈ l1, x.id ≠ id) ∧ movTo id p s = (l1 ++ l2).take p ++ q :: (l1 ++ l2).drop p := by
 obtain ⟨l1, l2, rfl, rfl, hset⟩ := list_split hj
 obtain ⟨h1, h2⟩ := nodup_mid hn
 have hidq : id ∈ idsN q := by cases q; simp only [idsN, List.mem_cons]; exact .inl hid.symm
 have n1 : ∀ x ∈ l1, x.id ≠ id := fun x hx e => (h2 id hidq).1 (e ▸ id_in_ids hx)
 have n2 : ∀ x ∈ l2, x.id ≠ id := fun x hx e => (h2 id hidq).2 (e ▸ id_in_ids hx)
 refine ⟨l1, l2, rfl, rfl, n1, ?_⟩
 have hf : (l1 ++ q :: l2).find? (fun c => decide (c.id = id)) = some q := by
  rw [List.find?_append, List.find?_eq_none.2 (fun x hx => by simpa using n1 x hx)]
  simp [hid]
 have hfl : ((l1 ++ q :: l2).filter fun c => !decide (c.id = id)) = l1 ++ l2 := by
  rw [List.filter_append, List.filter_cons_of_neg (by simp [hid]), List.filter_eq_self.2 (fun x hx => by simpa using n1 x hx), List.filter_eq_self.2 (fun x hx => by simpa using n2 x hx)]
 unfold movTo
 rw [hf, hfl]
theorem RetEd.ahead {B0 gb : Nat} {E : Er → Value} {N K : Value} {r : EdR} {F : List Nat} {w w2 : World} {en : Ending} {w' : World} (hc : Chg NoB w w2) (h : RetEd B0 gb E N K r F w2 en w') : RetEd B0 gb E N K r F w en w' := by
 obtain ⟨h1, h2⟩ := h
 refine ⟨(hc.mono (D := fun x => x = gb ∨ x ∈ F) (fun _ _ e => nbE e)).trans h1 (fun x e => .inl e), ?_⟩
 cases r with
 | ok l nx => obtain ⟨he, F', hL, hs⟩ := h2; exact ⟨he, F', hL, fun x hx => (hs x hx).imp id (fun h => Nat.le_trans hc.size h)⟩
 | bad e => exact h2
theorem RetEd.form {B0 gb : Nat} {E : Er → Value} {N K : Value} {r : EdR} {F : List Nat} {w2 wg : World} {m : Int} {en : Ending} {w' : World} (hG : EvG B0 E N K m wg) (h : RetEd B0 gb E N K r F w2 en w') : en = .returned .nilIface ∨ ∃ T u, en = .returned (.iface T u) := by
 obtain ⟨h1, h2⟩ := h
 cases r with
 | ok l nx => exact .inl h2.1
 | bad e =>
  refine .inr ?_
  cases e with
  | er e => obtain ⟨T, u, hE⟩ := hG.glo.errs.form e; exact ⟨T, u, by rw [← hE]; exact h2⟩
  | non => obtain ⟨T, u, hE⟩ := hG.nform; exact ⟨T, u, by rw [← hE]; exact h2⟩
  | kind => obtain ⟨T, u, hE⟩ := hG.kform; exact ⟨T, u, by rw [← hE]; exact h2⟩
theorem mkB_sz (l : List UInt8) : (mkB l).size = l.length := by simp [mkB, ByteArray.size]
theorem join_rest {line w0 w1 x : ByteArray} {r : List ByteArray} (h : wordsB line = w0 :: w1 :: x :: r) : (joinW (x :: r)).length ≤ line.size := by
 have h1 := joinW_words line
 rw [h] at h1
 have h2 := congrArg List.length h1
 rw [length_data] at h2
 simp only [joinW, blanks, List.map_cons, List.flatten_cons, List.length_append, List.length_cons] at h2 ⊢
 omega
theorem edit_add (B0 gb : Nat) (E : Er → Value) (N K : Value) (line w0 s1 x : ByteArray) (r : List ByteArray) (hws : wordsB line = w0 :: s1 :: x :: r) (l : List Nd) (nx m : Int) (F : List Nat) (w : World) (hG : EvG B0 E N K m w) (hl : line.size ≤ 10000) (hB : B0 ≤ gb) (hL : LogSt w B0 gb l nx F) (hn : (idsL l).Nodup) (hw : Nd.weighs l ≤ 1000) (hnx : 0 ≤ nx ∧ nx ≤ 1000000) (hw0d : w0 = bAdd) :
  Calls Tryz.prog 30 #[.pointer (some ⟨gb, 0, none⟩), .string line] w (RetEd B0 gb E N K (addF s1 (mkB (joinW (x :: r))) l nx) F w) := by
 have hsp := Tryz.strings_Split line ⟨#[32]⟩ m w (by omega) hG.max (by decide)
 have hwl := words_len line
 have hwsz := words_size line
 have hwc := words_count line
 have hjr := join_rest hws
 rw [split_words, ← hwl, hws] at hsp
 rw [hws] at hwsz hwc
 obtain ⟨n, hne⟩ : ∃ n, n = (w0 :: s1 :: x :: r).length := ⟨_, rfl⟩
 rw [← hne] at hsp hwc
 have hne2 : n = (x :: r).length + 2 := hne
 have hn2 : 3 ≤ n := by rw [hne2, List.length_cons]; omega
 have hnI : (2 : Int) < (n : Int) := by omega
 have hab : (w0.toList == [97, 100, 100]) = true := by rw [bytes_beq]; exact decide_eq_true hw0d
 have hs1 : s1.size ≤ 10000 := by have := hwsz s1 (List.mem_cons_of_mem _ (List.mem_cons_self ..)); omega
 have hxs : ∀ y ∈ x :: r, y.size ≤ 100000 := fun y hy => by have := hwsz y (List.mem_cons_of_mem _ (List.mem_cons_of_mem _ hy)); omega
 have Hxs := Lib.hid hxs
 have Hne2 := Lib.hid hne2
 have hgl := hL.pt.lt.1
 have Hlt := Lib.hid hL.pt.lt.2
 clear hwl hws hwsz hw0d hxs hne hne2
 go_enter Tryz.func30, Tryz.ntmps30
 go_wp2_with fail
 refine hsp.mono ?_
 rintro en w1 ⟨rfl, hww⟩
 have hc1 : Chg NoB w w1 := by
  rw [← hww.symm]
  repeat (first | exact Chg.refl _ _ | apply Chg.alloc | apply Chg.drew)
 have hb1 : Blk w1 w.heap.size ((w0 :: s1 :: x :: r).map Value.string) 9 := by rw [hww]; exact Blk.newAt rfl
 clear hsp hww
 have e0 : w1.cell? ⟨w.heap.size, 0, none⟩ = some (.string w0) := hb1.cell 0
 have e1 : w1.cell? ⟨w.heap.size, 1, none⟩ = some (.string s1) := hb1.cell 1
 have hz1 := hb1.lt
 go_wp2_with fail
 refine wp_region_n (fun w' => w'.cell? ⟨w.heap.size, 1, none⟩ = some (.string s1)) [] (by kernel_rfl) ?_ (fun hSh => ?_)
 ·exact e1
 refine n_tA (v := ?_) 0 rfl (Or.inl ⟨by rfl, ?_⟩) ?_
 rotate_left 1
 ·(intro w' hSw; (try dsimp only at hSw); go_simp; try with_reducible rfl)
 simp only [Act.put, qA, qB, qC, qD, qE, qF]
 refine n_tA (v := ?_) 1 rfl (Or.inl ⟨by rfl, ?_⟩) ?_
 rotate_left 1
 ·(intro w' hSw; (try dsimp only at hSw); go_simp; try with_reducible rfl)
 simp only [Act.put, qA, qB, qC, qD, qE, qF]
 refine n_tA (v := ?_) 2 rfl (Or.inl ⟨by rfl, ?_⟩) ?_
 rotate_left 1
 ·(intro w' hSw; (try dsimp only at hSw); go_simp; rw [if_pos (by omega)]; (try rw [if_neg (by omega)]); try with_reducible rfl)
 simp only [Act.put, qA, qB, qC, qD, qE, qF]
 refine n_tA (v := ?_) 3 rfl (Or.inl ⟨by rfl, ?_⟩) ?_
 rotate_left 1
 ·(intro w' hSw; (try dsimp only at hSw); go_simp; try with_reducible rfl)
 simp only [Act.put, qA, qB, qC, qD, qE, qF]
 refine n_tA (v := ?_) 4 rfl (Or.inl ⟨by rfl, ?_⟩) ?_
 rotate_left 1
 ·(intro w' hSw; (try dsimp only at hSw); go_simp; try with_reducible rfl)
 simp only [Act.put, qA, qB, qC, qD, qE, qF]
 refine n_tA (v := ?_) 5 rfl (Or.inl ⟨by rfl, ?_⟩) ?_
 rotate_left 1
 ·(intro w' hSw; (try dsimp only at hSw); go_simp; rw [if_pos (by omega)]; (try rw [if_neg (by omega)]); try with_reducible rfl)
 simp only [Act.put, qA, qB, qC, qD, qE, qF]
 refine n_step 6 rfl (by kernel_rfl) ?_
 go_wp2_with fail
 have hjo : Calls Tryz.prog 48 #[.slice (some ⟨w.heap.size, 2, none⟩) (n - 2) (n - 2), .string ⟨#[32]⟩] w1.drew (RetV (.string (mkB (joinW (x :: r)))) w1.drew) := by
  rw [show n - 2 = (x :: r).length from by rw [Hne2.out]; omega]
  refine join_any w.heap.size 2 _ (x :: r) w1.drew (by simp) (fun j y hy => ?_) hz1 (by have := Hne2.out; omega) (Nat.le_refl _) Hxs.out
  have h9 : w1.drew.cell? ⟨w.heap.size, 2 + j, none⟩ = some (.string y) := by
   rw [hb1.drew.cell (2 + j), Nat.add_comm 2 j]
   show ((x :: r).map Value.string)[j]? = _
   rw [List.getElem?_map, hy]; rfl
  exact h9
 refine hjo.mono ?_
 clear hjo
 rintro en w2 ⟨rfl, hc2⟩
 have hc12 : Chg NoB w w2 := hc1.tr (Chg.trans ((Chg.refl NoB w1).drew) hc2 (fun _ e => nbE e))
 have hb2 := hb1.drew.keep hc2 nbE
 have hL2 := hL.keep hc12 nbE (fun _ _ => nbE)
 go_wp2_with fail
 refine ⟨fun _ => hb2.cell 1, fun hSk => ?_⟩
 replace hSk := hSk (by rfl)
 refine n_step 7 rfl (by kernel_rfl) ?_
 go_wp2_with fail
 refine (add_any B0 gb E N K s1 (mkB (joinW (x :: r))) l nx m F w2 (hG.keep0 hc12) hB hL2 hn hw (by omega) (by rw [mkB_sz]; omega) hnx).mono ?_
 intro en w3 hR
 have hR0 := hR.ahead hc12
 have e13 : w3.cell? ⟨w.heap.size, 1, none⟩ = some (.string s1) := (hR.1.cell (p := ⟨w.heap.size, 1, none⟩) hb2.lt (fun e => by
  rcases e with e | e
  ·have e : w.heap.size = gb := e; omega
  ·have h9 := (Hlt.out _ e).2; exact Nat.lt_irrefl _ h9)).trans (hb2.cell 1)
 rcases hR.form hG with rfl | ⟨T, u, rfl⟩
 ·have HR := Lib.hid hR0
  clear hR hR0
  go_wp2_with fail
  refine ⟨fun _ => e13, fun hSk3 => ?_⟩
  replace hSk3 := hSk3 (by rfl)
  refine n_step 8 rfl (by kernel_rfl) ?_
  go_wp2_with fail
  refine ⟨fun _ => hSk3, fun _ => ?_⟩
  refine n_done (by kernel_rfl) ?_
  go_wp2_with fail
  go_ret
  exact HR.out
 ·have HR := Lib.hid hR0
  clear hR hR0
  go_wp2_with fail
  refine ⟨fun _ => e13, fun hSk3 => ?_⟩
  replace hSk3 := hSk3 (by rfl)
  refine n_step 8 rfl (by kernel_rfl) ?_
  go_wp2_with fail
  refine ⟨fun _ => hSk3, fun _ => ?_⟩
  refine n_done (by kernel_rfl) ?_
  go_wp2_with fail
  go_ret
  exact HR.out
theorem strs_chunksT (w : World) (S : Nat → Prop) : ∀ l : List ByteArray, ReadsC w S 1 (l.map strDt) (l.map Value.string)
 | [] => rfl
 | x :: l => ⟨[.string x], _, rfl, rfl, ⟨rfl, rfl⟩, strs_chunksT w S l⟩
theorem strs_newsT {w : World} {S : Nat → Prop} : ∀ {l : List ByteArray} {xs : List Value}, ReadsC w S 1 (l.map strDt) xs → xs = l.map Value.string
 | [], xs, h => h
 | x :: l, xs, h => by
  obtain ⟨c, r, rfl, _, h2, h3⟩ := h
  obtain ⟨rfl, _⟩ := (h2 : c = [.string x] ∧ _)
  rw [strs_newsT h3]; rfl
theorem laid_get {P : Program} {W : World} {n : String} {d : DataW Unit} : ∀ {l : List (String × DataW Unit)} {ps : List MemPlace}, DataW.LaidVars P W l ps → (n, d) ∈ l →
  ∃ g t cs fuel p, P.globalNamed n = some g ∧ (P.globals[g]?).map (·.type) = some t ∧ W.var? P n = some cs ∧ DataW.trod (fun _ => ()) P W 0 (fun _ => true) false fuel t cs.toList = some (d, p)
 | [], _, _, h => by cases h
 | (n', d') :: r, ps, hl, h => by
  obtain ⟨g, t, cs, fuel, p, q, h1, h2, h3, h4, h5, _⟩ := hl
  rcases List.mem_cons.1 h with h | h
  ·obtain ⟨rfl, rfl⟩ := Prod.mk.inj h
   exact ⟨g, t, cs, fuel, p, h1, h2, h3, h4⟩
  ·exact laid_get h5 h
theorem laid_iface {P : Program} {W : World} {n nm : String} {d : DataW Unit} {l : List (String × DataW Unit)} {ps : List MemPlace} {g t : Nat} {ms : Array (String × TypeId)} (hL : DataW.LaidVars P W l ps) (hm : (n, .iface nm d) ∈ l)
  (hg : P.globalNamed n = some g) (hty : (P.globals[g]?).map (·.type) = some t) (ht : P.underlying t = some (.interface ms)) : ∃ T v, W.cell? ⟨g, 0, none⟩ = some (.iface T v) := by
 obtain ⟨g', t', cs, fuel, p, h1, h2, h3, h4⟩ := laid_get hL hm
 obtain rfl := Option.some.inj (hg.symm.trans h1)
 obtain rfl := Option.some.inj (hty.symm.trans h2)
 obtain ⟨_, u, v, h5, _, _⟩ := iface_of_trod ht h4
 refine ⟨u, v, ?_⟩
 rw [World.var?_cell hg h3, ← Array.getElem?_toList, h5]
 rfl
theorem strs_of {H : Type} {enc : TypeId × Value → H} {P : Program} {W : World} {base : Nat} {sp : Nat → Bool} {held : Bool} {fuel : Nat} {t e : TypeId} {n : Nat} {cs : List Value} {l : List (List UInt8)} {p : List MemPlace}
  (ht : P.underlying t = some (.array n e)) (he : P.underlying e = some TypeDesc.string) (hce : P.cellsOf e = 1) (h : DataW.trod enc P W base sp held fuel t cs = some (DataW.agg (l.map fun b => DataW.lit (Lit.string b)), p)) :
  ∀ (i : Nat) (b : List UInt8), l[i]? = some b → cs[i]? = some (.string ⟨b.toArray⟩) := by
 obtain ⟨xs, m, _, hx, hcl, hxl, hi⟩ := DataW.trod_array ht h
 intro i b hb
 have hx1 : (l.map fun b => (DataW.lit (Lit.string b) : DataW H)) = xs.map (fun z => z.1) := by
  have := congrArg Prod.fst hx
  simpa using this
 have hll : l.length = xs.length := by simpa using congrArg List.length hx1
 have hil : i < l.length := (List.getElem?_eq_some_iff.1 hb).1
 have h1 := congrArg (fun z => z[i]?) hx1
 simp only [List.getElem?_map, hb, Option.map_some] at h1
 rw [List.getElem?_eq_getElem (by omega)] at h1
 simp only [Option.map_some, Option.some.injEq] at h1
 have h2 := hi i (by omega)
 rw [hce, Nat.mul_one, List.getElem?_eq_getElem (by omega)] at h2
 obtain ⟨s, h3, h4, _⟩ := DataW.trod_string he h2
 rw [h4] at h1
 simp only [DataW.lit.injEq, Lit.string.injEq] at h1
 have h5 : cs[i]? = some (.string s) := by
  have := congrArg (fun z => z[0]?) h3
  simpa using this
 rw [h5, h1]
theorem laid_strs {P : Program} {W : World} {nm : String} {l : List (List UInt8)} {lv : List (String × DataW Unit)} {ps : List MemPlace} {g t e n : Nat} (hL : DataW.LaidVars P W lv ps) (hm : (nm, DataW.agg (l.map fun b => DataW.lit (Lit.string b))) ∈ lv)
  (hg : P.globalNamed nm = some g) (hty : (P.globals[g]?).map (·.type) = some t) (ht : P.underlying t = some (.array n e)) (he : P.underlying e = some TypeDesc.string) (hce : P.cellsOf e = 1) :
  ∀ (i : Nat) (b : List UInt8), l[i]? = some b → W.cell? ⟨g, i, none⟩ = some (.string ⟨b.toArray⟩) := by
 obtain ⟨g', t', cs, fuel, p, h1, h2, h3, h4⟩ := laid_get hL hm
 obtain rfl := Option.some.inj (hg.symm.trans h1)
 obtain rfl := Option.some.inj (hty.symm.trans h2)
 intro i b hb
 rw [World.var?_cell hg h3, ← Array.getElem?_toList]
 exact strs_of ht he hce h4 i b hb
theorem laid_tab {P : Program} {W : World} {nm : String} {k : IntKind} {zs : List Int} {lv : List (String × DataW Unit)} {ps : List MemPlace} {g t e n : Nat} (hL : DataW.LaidVars P W lv ps) (hm : (nm, Lib.tabData k zs) ∈ lv)
  (hg : P.globalNamed nm = some g) (hty : (P.globals[g]?).map (·.type) = some t) (ht : P.underlying t = some (.array n e)) (he : P.underlying e = some (.int k)) (hce : P.cellsOf e = 1) (hct : P.cellsOf t = n) : Lib.TabIs P W nm k zs := by
 obtain ⟨g', t', cs, fuel, p, h1, h2, h3, h4⟩ := laid_get hL hm
 obtain rfl := Option.some.inj (hg.symm.trans h1)
 obtain rfl := Option.some.inj (hty.symm.trans h2)
 unfold Lib.TabIs
 rw [h3, ← Lib.cells_of_tab ht he hce hct h4]
theorem gB : Tryz.prog.globalNamed "shredcol/api.ErrBound" = some 0 := by kernel_rfl
theorem gT : Tryz.prog.globalNamed "shredcol/api.ErrText" = some 2 := by kernel_rfl
theorem gS : Tryz.prog.globalNamed "shredcol/api.ErrShape" = some 5 := by kernel_rfl
theorem gN : Tryz.prog.globalNamed "shredcol/api.ErrName" = some 3 := by kernel_rfl
theorem gY : Tryz.prog.globalNamed "strconv.ErrSyntax" = some 16 := by kernel_rfl
theorem gR : Tryz.prog.globalNamed "strconv.ErrRange" = some 17 := by kernel_rfl
theorem gReps : Tryz.prog.globalNamed "shredcol/schema.reps" = some 11 := by kernel_rfl
theorem gKinds : Tryz.prog.globalNamed "shredcol/schema.kinds" = some 12 := by kernel_rfl
def errText (l : List UInt8) : DataW Unit := .iface "*errors.errorString" (.ptr (.agg [.lit (.string l)]))
def repsD : DataW Unit := .agg [.lit (.string []), .lit (.string [114, 101, 113, 117, 105, 114, 101, 100]), .lit (.string [111, 112, 116, 105, 111, 110, 97, 108]), .lit (.string [114, 101, 112, 101, 97, 116, 101, 100])]
def kindsD : DataW Unit := .agg [.lit (.string [103, 114, 111, 117, 112]), .lit (.string [98, 111, 111, 108]), .lit (.string [105, 110, 116]), .lit (.string [108, 111, 110, 103]), .lit (.string [98, 121, 116, 101, 115]), .lit (.string [100, 111, 117, 98, 108, 101])]
structure Lists (lv : List (String × DataW Unit)) : Prop where
 b : ∃ l, ("shredcol/api.ErrBound", errText l) ∈ lv
 t : ∃ l, ("shredcol/api.ErrText", errText l) ∈ lv
 s : ∃ l, ("shredcol/api.ErrShape", errText l) ∈ lv
 n : ∃ l, ("shredcol/api.ErrName", errText l) ∈ lv
 y : ∃ l, ("strconv.ErrSyntax", errText l) ∈ lv
 r : ∃ l, ("strconv.ErrRange", errText l) ∈ lv
 reps : ("shredcol/schema.reps", repsD) ∈ lv
 kinds : ("shredcol/schema.kinds", kindsD) ∈ lv
 pow : ("internal/strconv.uint64pow10", Lib.tabData .u64 Lib.pow10Tab) ∈ lv
theorem glo_of {lv : List (String × DataW Unit)} {W : World} (hlv : Lists lv) (hL : laidMet Tryz.prog lv W) : ∃ E, Glo W.heap.size E W := by
 obtain ⟨ps, hV, _⟩ := hL
 obtain ⟨_, m1⟩ := hlv.b
 obtain ⟨_, m2⟩ := hlv.t
 obtain ⟨_, m3⟩ := hlv.s
 obtain ⟨_, m4⟩ := hlv.n
 obtain ⟨_, m5⟩ := hlv.y
 obtain ⟨_, m6⟩ := hlv.r
 obtain ⟨T1, v1, c1⟩ := laid_iface hV m1 gB (by kernel_rfl) Tryz.underlying25
 obtain ⟨T2, v2, c2⟩ := laid_iface hV m2 gT (by kernel_rfl) Tryz.underlying25
 obtain ⟨T3, v3, c3⟩ := laid_iface hV m3 gS (by kernel_rfl) Tryz.underlying25
 obtain ⟨T4, v4, c4⟩ := laid_iface hV m4 gN (by kernel_rfl) Tryz.underlying25
 obtain ⟨T5, v5, c5⟩ := laid_iface hV m5 gY (by kernel_rfl) Tryz.underlying25
 obtain ⟨T6, v6, c6⟩ := laid_iface hV m6 gR (by kernel_rfl) Tryz.underlying25
 have hreps := laid_strs (l := [[], [114, 101, 113, 117, 105, 114, 101, 100], [111, 112, 116, 105, 111, 110, 97, 108], [114, 101, 112, 101, 97, 116, 101, 100]]) (e := 9) hV hlv.reps gReps (by kernel_rfl) Tryz.underlying247 Tryz.underlying9 (by kernel_rfl)
 have hkinds := laid_strs (l := [[103, 114, 111, 117, 112], [98, 111, 111, 108], [105, 110, 116], [108, 111, 110, 103], [98, 121, 116, 101, 115], [100, 111, 117, 98, 108, 101]]) (e := 9) hV hlv.kinds gKinds (by kernel_rfl) Tryz.underlying248 Tryz.underlying9 (by kernel_rfl)
 have hpow : Lib.TabIs Tryz.prog W "internal/strconv.uint64pow10" .u64 Lib.pow10Tab := laid_tab hV hlv.pow pow_at (t := 280) (e := 69) (by kernel_rfl) Tryz.underlying280 Tryz.underlying69 (by kernel_rfl) (by kernel_rfl)
 have l1 := lt_of_cell c1
 have l2 := lt_of_cell c2
 have l3 := lt_of_cell c3
 have l4 := lt_of_cell c4
 have l5 := lt_of_cell c5
 have l6 := lt_of_cell c6
 have l7 := lt_of_cell (hreps 0 _ rfl)
 have l8 := lt_of_cell (hkinds 0 _ rfl)
 have l9 : 18 < W.heap.size := by
  have h1 := hpow.cell pow_at 0 (by decide)
  exact lt_of_cell h1
 refine ⟨fun e => match e with | .bound => .iface T1 v1 | .text => .iface T2 v2 | .shape => .iface T3 v3 | .name => .iface T4 v4, ⟨fun e => ?_, fun e => ?_⟩, ⟨⟨l7, l8, l9⟩, fun i s hi => ?_, fun i s hi => ?_, hpow⟩, ⟨T5, v5, c5⟩, ⟨T6, v6, c6⟩, ⟨fun e => ?_, l5, l6⟩⟩
 ·cases e
  ·exact c1
  ·exact c2
  ·exact c3
  ·exact c4
 ·cases e
  ·exact ⟨_, _, rfl⟩
  ·exact ⟨_, _, rfl⟩
  ·exact ⟨_, _, rfl⟩
  ·exact ⟨_, _, rfl⟩
 ·have := hreps i s.data.toList (by
   have h1 := congrArg (fun z => z.map (fun x : ByteArray => x.data.toList)) hi
   rw [← List.getElem?_map] at h1
   exact h1)
  rw [this]
 ·have := hkinds i s.data.toList (by
   have h1 := congrArg (fun z => z.map (fun x : ByteArray => x.data.toList)) hi
   rw [← List.getElem?_map] at h1
   exact h1)
  rw [this]
 ·cases e
  ·exact l1
  ·exact l2
  ·exact l3
  ·exact l4
mutual
def fullN : Nd → Int → Int → Nat → List Pl
 | .mk i n r k s, d, a, at0 => ⟨.mk i n r k s, d, a⟩ :: fullL s (d + 1) at0 (at0 + 1)
def fullL : List Nd → Int → Int → Nat → List Pl
 | [], _, _, _ => []
 | n :: ns, d, a, at0 => fullN n d a at0 ++ fullL ns d a (at0 + n.weigh)
end
section
variable {nd : Nd} {L : List Pl} (hL : L = fullN nd 1 (-1) 0)
include hL
end
def Er.i : Er → Nat
 | .text => 0 | .bound => 1 | .shape => 2 | .name => 4
structure Named (w : World) (A : Nat → Addr) (E : Er → Value) (N : Value) : Prop where
 sents : Sents w A
 er : ∀ e : Er, E e = sv (A e.i)
 non : N = sv (A 5)
theorem Named.keep0 {w w' : World} {A : Nat → Addr} {E : Er → Value} {N : Value} (h : Named w A E N) (hc : Chg NoB w w') : Named w' A E N := ⟨h.sents.keep0 hc, h.er, h.non⟩
end Go.Proofs.YtnmhkafpgohefaaGreatDoor
