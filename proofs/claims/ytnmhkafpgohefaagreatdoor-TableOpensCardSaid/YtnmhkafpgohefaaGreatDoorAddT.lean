/-
  evolve's add: a node into a group.
-/
import Derived.Test.YtnmhkafpgohefaaGreatDoorWordsLaw
import Derived.Test.YtnmhkafpgohefaaGreatDoorLogNodeT
import Derived.Test.YtnmhkafpgohefaaGreatDoorNumberT
import Derived.Test.YtnmhkafpgohefaaGreatDoorTreeMore
import Derived.Test.YtnmhkafpgohefaaGreatDoorDelF
set_option linter.unusedVariables false
set_option maxHeartbeats 20000000
set_option maxRecDepth 100000
set_option linter.unusedSimpArgs false
namespace Go.Proofs.YtnmhkafpgohefaaGreatDoor
open Go.RowKit
structure EvG (B0 : Nat) (E : Er → Value) (N K : Value) (m : Int) (w : World) : Prop where
 glo : Glo B0 E w
 non : w.cell? ⟨1, 0, none⟩ = some N
 kind : w.cell? ⟨6, 0, none⟩ = some K
 max : w.cell? ⟨15, 0, none⟩ = some (.int .i64 m)
 asc : Lib.TabIs Tryz.prog w "strings.asciiSpace" .u8 Lib.asciiSpaceTab
 below : 1 < B0 ∧ 6 < B0 ∧ 15 < B0 ∧ 8 < B0
 nform : ∃ T v, N = .iface T v
 kform : ∃ T v, K = .iface T v
theorem tab_asciiC {C : Nat → Prop} {w w' : World} (h : Lib.TabIs Tryz.prog w "strings.asciiSpace" .u8 Lib.asciiSpaceTab) (hc : Chg C w w') (hn : ¬ C 8) : Lib.TabIs Tryz.prog w' "strings.asciiSpace" .u8 Lib.asciiSpaceTab := by
 unfold Lib.TabIs World.var? at h ⊢
 rw [ascii_at] at h ⊢
 simp only [Option.bind_some] at h ⊢
 cases hb : w.heap[8]? with
 | none => rw [hb] at h; simp at h
 | some o =>
  rw [hc.block _ (lt_of_block hb) hn]
  exact h
theorem EvG.keep {B0 : Nat} {E : Er → Value} {N K : Value} {m : Int} {C : Nat → Prop} {w w' : World} (h : EvG B0 E N K m w) (hc : Chg C w w') (hC : ∀ b, b < B0 → ¬ C b) : EvG B0 E N K m w' :=
 ⟨h.glo.keep hc hC, (hc.cell (lt_of_cell h.non) (hC _ h.below.1)).trans h.non, (hc.cell (lt_of_cell h.kind) (hC _ h.below.2.1)).trans h.kind, (hc.cell (lt_of_cell h.max) (hC _ h.below.2.2.1)).trans h.max, tab_asciiC h.asc hc (hC _ h.below.2.2.2), h.below, h.nform, h.kform⟩
theorem EvG.keep0 {B0 : Nat} {E : Er → Value} {N K : Value} {m : Int} {w w' : World} (h : EvG B0 E N K m w) (hc : Chg NoB w w') : EvG B0 E N K m w' := h.keep hc (fun _ _ => nbE)
inductive EdEr where
 | er (e : Er) | non | kind
def edVal (E : Er → Value) (N K : Value) : EdEr → Value
 | .er e => E e
 | .non => N
 | .kind => K
inductive EdR where
 | ok (l : List Nd) (nx : Int) | bad (e : EdEr)
def rootNd (l : List Nd) : Nd := .mk 0 rootName 1 0 l
structure LogSt (w : World) (B gb : Nat) (l : List Nd) (nx : Int) (F : List Nat) : Prop where
 blk : ∃ v, Blk w gb [.int .i64 0, .string rootName, .int .i64 1, .int .i64 0, v, .int .i64 nx] 81 ∧ TrL w B l v F
 out : gb ∉ F
 nd : F.Nodup
theorem LogSt.pt {w : World} {B gb : Nat} {l : List Nd} {nx : Int} {F : List Nat} (h : LogSt w B gb l nx F) : PtN w B gb 0 (rootNd l) F := by
 obtain ⟨v, h1, h2⟩ := h.blk
 exact ⟨[], ndCells 0 rootName 1 0 v, [.int .i64 nx], _, rfl, h1, trN.2 ⟨v, rfl, h2⟩, h.out, h.nd⟩
theorem LogSt.upd {w w' : World} {B gb : Nat} {l l' : List Nd} {nx : Int} {F F' : List Nat} (h : LogSt w B gb l nx F) (hu : Upd w B gb 0 (rootNd l) F w' (rootNd l') F') : LogSt w' B gb l' nx F' := by
 obtain ⟨v, h1, h2⟩ := h.blk
 obtain ⟨pre, cs, cs', post, T, a1, a2, a3, a4, a5⟩ := hu.cells
 obtain rfl := List.eq_nil_of_length_eq_zero a1
 obtain ⟨v', rfl, hv'⟩ := trN.1 a5
 obtain ⟨e1, rfl⟩ := blk_eq (show Blk w gb (ndCells 0 rootName 1 0 v ++ [.int .i64 nx]) _ from h1) (show Blk w gb (cs ++ post) T from a2)
 obtain ⟨_, rfl⟩ := List.append_inj e1 (a4.five.symm ▸ rfl)
 exact ⟨⟨v', a3, hv'⟩, hu.out', hu.nd'⟩
theorem LogSt.keep {C : Nat → Prop} {w w' : World} {B gb : Nat} {l : List Nd} {nx : Int} {F : List Nat} (h : LogSt w B gb l nx F) (hc : Chg C w w') (hb : ¬ C gb) (hF : ∀ x ∈ F, ¬ C x) : LogSt w' B gb l nx F := by
 obtain ⟨v, h1, h2⟩ := h.blk
 exact ⟨⟨v, h1.keep hc hb, h2.keep (fun x hx => hc.block x (h2.lt x hx).2 (hF x hx))⟩, h.out, h.nd⟩
theorem weighs_len : ∀ l : List Nd, l.length ≤ Nd.weighs l
 | [] => Nat.le_refl _
 | n :: ns => by
  have := weighs_len ns
  have h : 1 ≤ n.weigh := by cases n; simp only [Nd.weigh]; omega
  simp only [Nd.weighs, List.length_cons]; omega
theorem holds_weigh : ∀ {n h : Nd} {C : Nd → Nd}, Holds n h C → h.weigh ≤ n.weigh := by
 intro n h C hH
 induction hH with
 | here n => exact Nat.le_refl _
 | down hj hH ih =>
  have h1 := Nd.weigh_mem (List.mem_of_getElem? hj)
  simp only [Nd.weigh]; omega
theorem setCell_swap (w : World) {p q : Addr} (h : p.block ≠ q.block) (u v : Value) : (w.setCell p u).setCell q v = (w.setCell q v).setCell p u := by
 unfold World.setCell
 congr 1
 apply Array.ext_getElem?
 intro k
 simp only [Array.getElem?_modify]
 by_cases h1 : q.block = k
 ·have h2 : ¬ p.block = k := fun e => h (e.trans h1.symm)
  simp [h1, h2]
 ·simp [h1]
theorem TrL.last {w : World} {B : Nat} {s : List Nd} {z : Nd} {v : Value} {F : List Nat} (h : TrL w B (s ++ [z]) v F) (hn : F.Nodup) :
  ∃ g cap x1 c0 r G1, v = .slice (some ⟨g, 0, none⟩) (s.length + 1) cap ∧ Blk w g (x1 ++ (c0 ++ r)) 56 ∧ x1.length = s.length * 5 ∧ c0.length = 5 ∧ (g ∈ F ∧ (∀ x ∈ G1, x ∈ F) ∧ (g :: G1).Nodup) ∧ s.length + 1 ≤ cap ∧ cap ≤ maxLen ∧
   ∀ (w' : World) (ct : List Value) (t : Nd) (Ft : List Nat), Blk w' g (x1 ++ (ct ++ r)) 56 → (∀ x ∈ G1, w'.heap[x]? = w.heap[x]?) → TrN w' B t ct Ft → TrL w' B (s ++ [t]) v (g :: (G1 ++ Ft)) := by
 have hl : (s ++ [z]).length = s.length + 1 := by simp
 rcases h with ⟨h0, _⟩ | ⟨g, cap, cur, F', rfl, e2, e3, e4, e5, e6, e7, rfl⟩
 ·simp at h0
 obtain ⟨x1, x2, G1, G2, rfl, g1, g2, g3, rfl⟩ := trC_split.1 e7
 obtain ⟨c0, r, H1, H2, rfl, k1, k2, rfl⟩ := trC_cons.1 g3
 rw [List.nodup_cons, List.nodup_append] at hn
 refine ⟨g, cap, x1, c0, r, G1, by rw [hl], e5, g1, k1.five, ⟨List.mem_cons_self .., fun x hx => List.mem_cons_of_mem _ (List.mem_append_left _ hx), List.nodup_cons.2 ⟨fun e => hn.1 (List.mem_append_left _ e), hn.2.1⟩⟩, by omega, e3, fun w' ct t Ft hb hk ht => ?_⟩
 refine .inr ⟨g, cap, _, G1 ++ Ft, by simp, by simpa using e2, e3, e4, hb, ?_, ?_, rfl⟩
 ·rw [← e6]; simp only [List.length_append, k1.five, ht.five]
 ·exact trC_split.2 ⟨x1, ct ++ r, G1, Ft, rfl, g1, TrC.keep s x1 G1 g2 hk, trC_cons.2 ⟨ct, r, Ft, [], rfl, ht, trC_nil.2 rfl, by simp⟩, rfl⟩
def addSub (t q : Nd) : Nd := q.withSub (q.sub ++ [t])
def addF (into line : ByteArray) (l : List Nd) (nx : Int) : EdR :=
 match numF into.data.toList with
 | none => .bad (.er .text)
 | some p => match nodeF line nx with
  | none => .bad (.er .text)
  | some (t, nx') => if p = 0 then .ok (l ++ [t]) nx' else match fndL p l with
   | none => .bad .non
   | some q => if q.kind = 0 then .ok (grpT p (setId p (addSub t)) l) nx' else .bad .kind
def RetEd (B0 gb : Nat) (E : Er → Value) (N K : Value) (r : EdR) (F : List Nat) (w : World) (en : Ending) (w' : World) : Prop :=
 Chg (fun x => x = gb ∨ x ∈ F) w w' ∧ match r with
 | .ok l nx => en = .returned .nilIface ∧ ∃ F', LogSt w' B0 gb l nx F' ∧ ∀ x ∈ F', x ∈ F ∨ w.heap.size ≤ x
 | .bad e => en = .returned (edVal E N K e)
theorem add_any (B0 gb : Nat) (E : Er → Value) (N K : Value) (into line : ByteArray) (l : List Nd) (nx m : Int) (F : List Nat) (w : World) (hG : EvG B0 E N K m w) (hB : B0 ≤ gb) (hL : LogSt w B0 gb l nx F) (hn : (idsL l).Nodup) (hw : Nd.weighs l ≤ 1000) (hi : into.size ≤ 10000) (hl : line.size ≤ 10000) (hnx : 0 ≤ nx ∧ nx ≤ 1000000) :
  Calls Tryz.prog 47 #[.pointer (some ⟨gb, 0, none⟩), .string into, .string line] w (RetEd B0 gb E N K (addF into line l nx) F w) := by
 obtain ⟨v, hblk, htl⟩ := hL.blk
 have hgl := hblk.lt
 have hnum := number_any into w hG.glo (by omega)
 have hFl := htl.lt
 go_enter Tryz.func47, Tryz.ntmps47
 go_wp2_with fail
 refine hnum.mono ?_
 rintro en w1 ⟨vn, rfl, hc1, hvn⟩
 clear hnum
 have hG1 := hG.keep0 hc1
 have hb1 := hblk.keep hc1 nbE
 have hnode := logNode_any gb _ _ _ _ _ line nx m w1 E (hG1.glo.up (Nat.le_trans (by omega) hc1.size)) hb1 hG1.max (by have := hG.below; omega) hG1.asc hl hnx
 have Hvn := Lib.hid hvn
 have Hadd := Lib.hid (show addF into line l nx = _ from rfl)
 clear hvn
 go_wp2_with fail
 refine hnode.mono ?_
 rintro en w2 ⟨hc2, hm2⟩
 clear hnode
 have hc02 : Chg (fun x => x = gb ∨ x ∈ F) w w2 := (hc1.mono (D := fun x => x = gb ∨ x ∈ F) (fun _ _ e => nbE e)).trans hc2 (fun x e => .inl (.inl e))
 have hG2 := hG1.keep hc2 (fun b hb e => by have e : b = gb := e; omega)
 have htx := hG2.glo.errs.cell .text
 simp only [Er.g] at htx
 have htxl : 2 < w2.heap.size := lt_of_cell htx
 obtain ⟨Tx, vx, hEx⟩ := hG.glo.errs.form .text
 cases hnf : numF into.data.toList with
 | none =>
  have hres : addF into line l nx = .bad (.er .text) := by unfold addF; rw [hnf]
  have Hres := Lib.hid hres
  rw [hEx] at htx
  have HEx := Lib.hid hEx
  clear hres hnf Hvn Hadd hEx
  cases hnd : nodeF line nx with
  | none =>
   rw [hnd] at hm2
   obtain ⟨rfl, _⟩ := hm2
   unfold zeroNode
   go_wp2_with fail
   go_ret
   rw [Hres.out]
   exact ⟨hc02.alloc _, congrArg Ending.returned HEx.out.symm⟩
  | some r =>
   rw [hnd] at hm2
   obtain ⟨t, nx'⟩ := r
   obtain ⟨cs, F2, rfl, htr, _⟩ := hm2
   obtain ⟨i1, n1, r1, k1, s1⟩ := t
   obtain ⟨v1, hcs, ht1⟩ := trN.1 htr
   obtain ⟨a1, cap1, rfl, _, _⟩ := ht1.form
   unfold ndCells at hcs
   subst hcs
   clear ht1 htr
   go_wp2_with fail
   go_ret
   rw [Hres.out]
   exact ⟨hc02.alloc _, congrArg Ending.returned HEx.out.symm⟩
 | some p =>
  obtain rfl : vn = p := Hvn.out p hnf
  cases hnd : nodeF line nx with
  | none =>
   have hres : addF into line l nx = .bad (.er .text) := by unfold addF; rw [hnf]; simp only [hnd]
   have Hres := Lib.hid hres
   rw [hEx] at htx
   have HEx := Lib.hid hEx
   rw [hnd] at hm2
   obtain ⟨rfl, _⟩ := hm2
   unfold zeroNode
   clear hres hnf Hvn Hadd hEx hnd
   go_wp2_with fail
   go_ret
   rw [Hres.out]
   exact ⟨hc02.alloc _, congrArg Ending.returned HEx.out.symm⟩
  | some r =>
   rw [hnd] at hm2
   obtain ⟨t, nx'⟩ := r
   obtain ⟨cs, Ft, rfl, htr, hFtn, hb2⟩ := hm2
   have hL2 : LogSt w2 B0 gb l nx' F := ⟨⟨v, hb2, htl.keep (fun x hx => by
    rw [hc2.block x (Nat.lt_of_lt_of_le (hFl x hx).2 hc1.size) (fun e => hL.out (by have e : x = gb := e; exact e ▸ hx)), hc1.block x (hFl x hx).2 nbE])⟩, hL.out, hL.nd⟩
   have hzb := hb1.set 5 (.int .i64 nx')
   have hz1 : Chg (OneB gb) w1 (w1.setCell ⟨gb, 5, none⟩ (.int .i64 nx')) := (Chg.refl (OneB gb) w1).setCell (p := ⟨gb, 5, none⟩) (.inl rfl) _
   have hzs : w1.heap.size = (w1.setCell ⟨gb, 5, none⟩ (.int .i64 nx')).heap.size := by simp
   have hzw2 : Chg NoB (w1.setCell ⟨gb, 5, none⟩ (.int .i64 nx')) w2 := ⟨hc2.os.trans hz1.os.symm, hc2.tape.trans hz1.tape.symm, hc2.output.trans hz1.output.symm, by rw [← hzs]; exact hc2.size, fun k hk _ => by
    rw [← hzs] at hk
    by_cases hkg : k = gb
    ·subst hkg; exact hb2.trans hzb.symm
    ·rw [hc2.block k hk (fun e => hkg e), hz1.block k hk (fun e => hkg e)]⟩
   have hLz : LogSt (w1.setCell ⟨gb, 5, none⟩ (.int .i64 nx')) B0 gb l nx' F := ⟨⟨v, hzb, htl.keep (fun x hx => by
    rw [hz1.block x (Nat.lt_of_lt_of_le (hFl x hx).2 hc1.size) (fun e => hL.out (by have e : x = gb := e; exact e ▸ hx)), hc1.block x (hFl x hx).2 nbE])⟩, hL.out, hL.nd⟩
   have hcz : Chg (fun x => x = gb ∨ x ∈ F) w (w1.setCell ⟨gb, 5, none⟩ (.int .i64 nx')) := (hc1.mono (D := fun x => x = gb ∨ x ∈ F) (fun _ _ e => nbE e)).trans hz1 (fun x e => .inl (.inl e))
   have hFt1 : ∀ x ∈ Ft, (w1.setCell ⟨gb, 5, none⟩ (.int .i64 nx')).heap.size ≤ x := fun x hx => by rw [← hzs]; exact (TrN.lt t cs Ft htr x hx).1
   generalize w1.setCell ⟨gb, 5, none⟩ (.int .i64 nx') = wz at hzb hz1 hzs hzw2 hLz hcz hFt1
   clear hzb hz1 hzs
   have hFt := TrN.lt t cs Ft htr
   have hdis : ∀ y ∈ Ft, y ∉ F ∧ y ≠ gb := fun y hy => ⟨fun e => by have := (hFl y e).2; have := (hFt y hy).1; have := hc1.size; omega, fun e => by have := (hFt y hy).1; have := hc1.size; omega⟩
   obtain ⟨i1, n1, r1, k1, s1⟩ := t
   obtain ⟨v1, hcs, ht1⟩ := trN.1 htr
   obtain ⟨a1, cap1, rfl, _, _⟩ := ht1.form
   unfold ndCells at hcs
   subst hcs
   have g3 : w2.cell? ⟨gb, 3, none⟩ = some (.int .i64 0) := hb2.cell 3
   have hgl2 := hb2.lt
   by_cases hp0 : vn = 0
   ·have hres : addF into line l nx = .ok (l ++ [.mk i1 n1 r1 k1 s1]) nx' := by unfold addF; rw [hnf]; simp only [hnd]; rw [if_pos hp0]
    have Hres := Lib.hid hres
    have hp0b : ((vn : Int) != 0) = false := by rw [hp0]; rfl
    have Htr := Lib.hid htr
    have hptz := hLz.pt
    clear hres hnf Hvn Hadd hEx hnd hp0 htr ht1
    go_wp2_with fail
    generalize hw3 : World.alloc w2 _ = w3
    have hc3 : Chg NoB w2 w3 := by
     rw [← hw3]
     repeat (first | exact Chg.refl _ _ | apply Chg.alloc | apply Chg.drew)
    have hn3 : Blk w3 (w2.heap.size) ([.int .i64 i1, .string n1, .int .i64 r1, .int .i64 k1, .slice a1 s1.length cap1]) 56 := by
     rw [← hw3]
     repeat (first | exact Blk.newAt (by first | rfl | (simp; done) | (simp; omega)) | apply Blk.alloc | apply Blk.drew)
    clear hw3 g3
    have hz3 := hzw2.tr hc3
    unfold rootNd at hptz
    have hqs : l.length ≤ 1000 := by have := weighs_len l; omega
    have Hclose := Lib.hid (show ∀ wE F9, Upd wz B0 gb 0 (.mk 0 rootName 1 0 l) F wE (.mk 0 rootName 1 0 (l ++ [.mk i1 n1 r1 k1 s1])) F9 → RetEd B0 gb E N K (addF into line l nx) F w (.returned .nilIface) wE from fun wE F9 hu => by
     rw [Hres.out]
     exact ⟨hcz.trans hu.chg (fun x e => .inl e), rfl, F9, hLz.upd hu, fun x hx => (hu.sub x hx).imp id (fun h => Nat.le_trans hcz.size h)⟩)
    obtain ⟨vq, htq, _, _, _, _, c4z, fqz⟩ := hptz.form
    obtain ⟨qa, qc, rfl, hqlen, hqcap⟩ := htq.form
    have lqz := lt_of_cell c4z
    have c4 : w3.cell? ⟨gb, 0 + 4, none⟩ = some (.slice qa (l).length qc) := (hz3.cell (p := ⟨gb, 0 + 4, none⟩) lqz nbE).trans c4z
    have fq : w3.frozen? ⟨gb, 0 + 4, none⟩ = false := (hz3.frozen (p := ⟨gb, 0 + 4, none⟩) lqz nbE).trans (fqz _)
    have lq3 := lt_of_cell c4
    have hqF := Lib.hid htq.lt
    have hq3 := htq.keep (fun x hx => hz3.block x (htq.lt x hx).2 nbE)
    have hqn := hptz
    have hqout : gb ∉ F := by obtain ⟨_, _, _, _, _, _, _, k1, _⟩ := hqn; exact k1
    have hqnd : (F).Nodup := by obtain ⟨_, _, _, _, _, _, _, _, k2⟩ := hqn; exact k2
    have hnl := hn3.lt
    have htr3 := TrN.keep _ _ _ Htr.out (fun x hx => hc3.block x (hFt x hx).2 nbE)
    refine wp_region_n (fun w' => w'.cell? ⟨gb, 0 + 4, none⟩ = some (.slice qa (l).length qc) ∧ w'.cell? ⟨w2.heap.size, 0, none⟩ = some (.int .i64 i1) ∧ w'.cell? ⟨w2.heap.size, 1, none⟩ = some (.string n1) ∧ w'.cell? ⟨w2.heap.size, 2, none⟩ = some (.int .i64 r1) ∧ w'.cell? ⟨w2.heap.size, 3, none⟩ = some (.int .i64 k1) ∧ w'.cell? ⟨w2.heap.size, 4, none⟩ = some (.slice a1 s1.length cap1)) [7, 8, 9, 10, 11, 12] (by kernel_rfl) ?_ (fun hSh => ?_)
    ·exact ⟨c4, hn3.cell 0, hn3.cell 1, hn3.cell 2, hn3.cell 3, hn3.cell 4⟩
    refine n_from 0 ?_
    intro htk
    iterate 6
     refine n_tB (v := ?_) htk rfl (Or.inl ⟨by rfl, ?_⟩) ?_
     rotate_left 1
     ·(intro w' hSw; (try dsimp only at hSw); go_simp; try with_reducible rfl)
     clear htk
     intro htk
     simp only [Nat.reduceAdd] at htk
     simp only [Act.put, qA, qB, qC, qD, qE, qF]
    clear htk
    have Hc4 := Lib.hid c4
    have Hfq := Lib.hid fq
    have Hlq := Lib.hid lq3
    clear c4 fq c4z fqz lq3 lqz hnl
    refine n_step 6 rfl (by kernel_rfl) ?_
    go_wp2_with fail
    have ha : Chg NoB w3 (w3.alloc (.cells #[.int .i64 0, .string ⟨#[]⟩, .int .i64 0, .int .i64 0, .slice none 0 0] 56)) := (Chg.refl NoB w3).alloc _
    have hnS := hn3.keep ha nbE
    have hS := And.intro ((ha.cell (p := ⟨gb, 0 + 4, none⟩) Hlq.out nbE).trans Hc4.out) (And.intro (hnS.cell 0) (And.intro (hnS.cell 1) (And.intro (hnS.cell 2) (And.intro (hnS.cell 3) (hnS.cell 4)))))
    first
     | refine ⟨fun _ => hS, fun _ => ?_⟩
     | (refine ⟨hS, ?_⟩; intro _ _ _ _ _ _)
    generalize hwA : World.drew _ = wA
    have hcA : Chg NoB w3 wA := by rw [← hwA]; exact ((Chg.refl NoB w3).alloc _).drew
    have hbA : Blk wA w3.heap.size [.int .i64 0, .string ⟨#[]⟩, .int .i64 0, .int .i64 0, .slice none 0 0] 56 := by rw [← hwA]; exact (Blk.newAt rfl).drew
    clear hwA hS hnS ha hSh
    have hnA := hn3.keep hcA nbE
    have hqA := hq3.keep (fun x hx => hcA.block x (Nat.lt_of_lt_of_le (hqF.out x hx).2 hz3.size) nbE)
    have hcap0 : B0 ≤ wA.heap.size := by have := hz3.size; have := hcA.size; have h9 : gb < w2.heap.size := hgl2; have := hc3.size; omega
    obtain ⟨ao, cap2, wB, FB, hrun, hTB, hnB, hsubB, hcB, hatB⟩ := hqA.push hqnd (nd := .mk 0 ⟨#[]⟩ 0 0 []) (cs := [.int .i64 0, .string ⟨#[]⟩, .int .i64 0, .int .i64 0, .slice none 0 0]) (Fx := []) (trN.2 ⟨_, rfl, .inl ⟨rfl, rfl, rfl⟩⟩) List.nodup_nil (fun y hy => (List.not_mem_nil hy).elim) 54 54 Tryz.underlying54 infoNode rfl hbA (by unfold maxLen; omega) (by omega) hcap0 (c := 1)
    obtain ⟨g, cap, x1, c0, r, G1, hv, hbg, hx1l, hc0l, ⟨hgF, hG1F, hgn⟩, hcap1, hcapm, hlast⟩ := hTB.last hnB
    obtain ⟨rfl, -, rfl⟩ := Value.slice.inj hv
    obtain ⟨z0, z1, z2, z3, z4, R0, hc0⟩ := five_split (M := c0) (by omega)
    obtain rfl : R0 = [] := List.eq_nil_of_length_eq_zero (by have h9 := hc0l; rw [hc0, List.length_append] at h9; simp only [List.length_cons, List.length_nil] at h9; omega)
    rw [List.append_nil] at hc0
    subst hc0
    have hcAB : Chg (fun x => x ∈ F) wA wB := hcB.mono (fun x _ e => by
     obtain ⟨xs9, G9, _, _, _, h9⟩ := hqA.owns
     rcases h9 with ⟨_, h9⟩ | ⟨b9, h9, h8⟩
     ·rw [h9] at e; cases e
     ·obtain rfl := Option.some.inj (h9.symm.trans e)
      rw [h8]; exact List.mem_cons_self ..)
    refine n_step 7 rfl (by kernel_rfl) ?_
    refine wpList_append_run rfl (.tmp 55) (.tmp 58) 54 54 rfl _ _ rfl rfl hrun ?_
    have hgtb : g ≠ gb := fun e => by
     rcases hsubB g hgF with h9 | h9 | h9
     ·exact hqout (e ▸ h9)
     ·exact (List.not_mem_nil h9).elim
     ·have := Hlq.out; have := hcA.size; simp only at *; omega
    have htbg : gb ≠ g := fun e => hgtb e.symm
    have c4B : wB.cell? ⟨gb, 0 + 4, none⟩ = some (.slice qa (l).length qc) := (hcAB.cell (p := ⟨gb, 0 + 4, none⟩) (Nat.lt_of_lt_of_le Hlq.out hcA.size) hqout).trans ((hcA.cell (p := ⟨gb, 0 + 4, none⟩) Hlq.out nbE).trans Hc4.out)
    have fqB : wB.frozen? ⟨gb, 0 + 4, none⟩ = false := (hcAB.frozen (p := ⟨gb, 0 + 4, none⟩) (Nat.lt_of_lt_of_le Hlq.out hcA.size) hqout).trans ((hcA.frozen (p := ⟨gb, 0 + 4, none⟩) Hlq.out nbE).trans Hfq.out)
    have e0 := some_at hbg 0 (by simp)
    have e1 := some_at hbg 1 (by simp)
    have e2 := some_at hbg 2 (by simp)
    have e3 := some_at hbg 3 (by simp)
    have e4 := some_at hbg 4 (by simp)
    rw [hx1l] at e0 e1 e2 e3 e4
    simp only [Nat.add_zero, qB, qC] at e0 e1 e2 e3 e4
    have f0 := hbg.free ((l).length * 5)
    have f1 := hbg.free ((l).length * 5 + 1)
    have f2 := hbg.free ((l).length * 5 + 2)
    have f3 := hbg.free ((l).length * 5 + 3)
    have f4 := hbg.free ((l).length * 5 + 4)
    have lgB := hbg.lt
    have ltB := lt_of_cell c4B
    have hlI : ((l).length : Int) < ((l).length : Int) + 1 := by omega
    have hS5 := store5_mid hbg hx1l (.int .i64 i1) (.string n1) (.int .i64 r1) (.int .i64 k1) (.slice a1 s1.length cap1)
    have hC5 := store5_at_chg wB g ((l).length * 5) (.int .i64 i1) (.string n1) (.int .i64 r1) (.int .i64 k1) (.slice a1 s1.length cap1)
    have hcz3A := hz3.tr hcA
    have hFt3 : ∀ x ∈ Ft, x < wA.heap.size ∧ x ∉ F := fun x hx => ⟨Nat.lt_of_lt_of_le (hFt x hx).2 (Nat.le_trans hc3.size hcA.size), fun e => by have := (hqF.out x e).2; have := hFt1 x hx; omega⟩
    have hgFt : g ∉ Ft := fun e => by
     rcases hsubB g hgF with h9 | h9 | h9
     ·exact (hFt3 g e).2 h9
     ·exact (List.not_mem_nil h9).elim
     ·have := (hFt3 g e).1; omega
    have htrB := TrN.keep _ _ _ htr3 (fun x hx => by
     have h9 := hFt3 x hx
     rw [hcAB.block x h9.1 h9.2, hcA.block x (Nat.lt_of_lt_of_le (hFt x hx).2 hc3.size) nbE])
    have htrC := TrN.mono (B' := B0) (by have := hc1.size; omega) _ _ _ (TrN.keep _ _ _ htrB (fun x hx => hC5.block x (TrN.lt _ _ _ htrB x hx).2 (fun e => hgFt (by have e : x = g := e; exact e ▸ hx))))
    have hTC := hlast _ _ _ _ hS5 (fun x hx => hC5.block x (hTB.lt x (hG1F x hx)).2 (fun e => (List.nodup_cons.1 hgn).1 (by have e : x = g := e; exact e ▸ hx))) htrC
    have hFB : ∀ x ∈ FB, x ∈ F ∨ wz.heap.size ≤ x := fun x hx => by
     rcases hsubB x hx with h9 | h9 | h9
     ·exact .inl h9
     ·exact (List.not_mem_nil h9).elim
     ·exact .inr (by rw [h9]; exact hcz3A.size)
    have htbFt : gb ∉ Ft := fun e => by have := hFt1 _ e; have h9 := hptz.lt.1; omega
    have htbFB : gb ∉ FB := fun e => by
     rcases hFB _ e with h9 | h9
     ·exact hqout h9
     ·have h9' := hptz.lt.1; omega
    have hFBt : ∀ x ∈ Ft, x ∉ FB := fun x hx e => by
     rcases hsubB x e with h9 | h9 | h9
     ·exact (hFt3 x hx).2 h9
     ·exact (List.not_mem_nil h9).elim
     ·have := (hFt3 x hx).1; omega
    have hu := hptz.list (((hcz3A.mono (D := fun x => x ∈ F) (fun _ _ e => nbE e)).trans hcAB (fun _ e => .inl e)).trans hC5 (fun x e => by have e : x = g := e; rw [e]; exact hFB g hgF)) hTC (by
      simp only [List.mem_cons, List.mem_append, not_or]
      exact ⟨htbg, fun e => htbFB (hG1F _ e), htbFt⟩) (by
      rw [List.nodup_cons] at hgn
      rw [List.nodup_cons, List.nodup_append, List.mem_append, not_or]
      exact ⟨⟨hgn.1, hgFt⟩, hgn.2, hFtn, fun x hx y hy e => hFBt y hy (e ▸ hG1F x hx)⟩) (fun x hx => by
      simp only [List.mem_cons, List.mem_append] at hx
      rcases hx with rfl | hx | hx
      ·exact hFB _ hgF
      ·exact hFB x (hG1F x hx)
      ·exact .inr (hFt1 x hx))
    have Hu := Lib.hid hu
    clear hu hTC htrC htrB hS5 hC5 hlast hbg hTB hqA hq3 hrun hnA hn3 hbA htq hqF htr3 hatB hcB hFB
    go_wp2_with fail
    first | refine ⟨fun (hx : ([7, 8, 9, 10, 11, 12] : List Nat).contains _ = false) => absurd hx (by decide), fun _ => ?_⟩ | skip
    refine n_pure (v := ?_) 8 rfl (Or.inl ⟨by rfl, ?_⟩) (by kernel_rfl) (fun _ _ _ h => h) ?_
    rotate_left 1
    ·(intro w' hSw; go_simp; try with_reducible rfl)
    simp only [Act.put, qA, qB, qC, qD, qE, qF]
    refine n_pure (v := ?_) 10 rfl (Or.inl ⟨by rfl, ?_⟩) (by kernel_rfl) (fun _ _ _ h => h) ?_
    rotate_left 1
    ·(intro w' hSw; go_simp; try with_reducible rfl)
    simp only [Act.put, qA, qB, qC, qD, qE, qF]
    refine n_pure (v := ?_) 11 rfl (Or.inl ⟨by rfl, ?_⟩) (by kernel_rfl) (fun _ _ _ h => h) ?_
    rotate_left 1
    ·(intro w' hSw; go_simp; try with_reducible rfl)
    simp only [Act.put, qA, qB, qC, qD, qE, qF]
    refine n_fork 9 12 rfl rfl (by kernel_rfl) ?_ ?_
    ·go_wp2_with fail
     first | refine ⟨fun (hx : ([7, 8, 9, 10, 11, 12] : List Nat).contains _ = false) => absurd hx (by decide), fun _ => ?_⟩ | skip
     refine n_step 12 rfl (by kernel_rfl) ?_
     go_wp2_with fail
     first | refine ⟨fun (hx : ([7, 8, 9, 10, 11, 12] : List Nat).contains _ = false) => absurd hx (by decide), fun _ => ?_⟩ | skip
     refine n_done (by kernel_rfl) ?_
     go_wp2_with fail
     go_ret
     exact Hclose.out _ _ Hu.out
    ·go_wp2_with fail
     first | refine ⟨fun (hx : ([7, 8, 9, 10, 11, 12] : List Nat).contains _ = false) => absurd hx (by decide), fun _ => ?_⟩ | skip
     refine n_step 9 rfl (by kernel_rfl) ?_
     go_wp2_with fail
     first | refine ⟨fun (hx : ([7, 8, 9, 10, 11, 12] : List Nat).contains _ = false) => absurd hx (by decide), fun _ => ?_⟩ | skip
     refine n_done (by kernel_rfl) ?_
     go_wp2_with fail
     go_ret
     have hu := Hu.out
     rw [setCell_swap _ (p := ⟨g, (l).length * 5 + 4, none⟩) (q := ⟨gb, 0 + 4, none⟩) hgtb, setCell_swap _ (p := ⟨g, (l).length * 5 + 3, none⟩) (q := ⟨gb, 0 + 4, none⟩) hgtb, setCell_swap _ (p := ⟨g, (l).length * 5 + 2, none⟩) (q := ⟨gb, 0 + 4, none⟩) hgtb, setCell_swap _ (p := ⟨g, (l).length * 5 + 1, none⟩) (q := ⟨gb, 0 + 4, none⟩) hgtb, setCell_swap _ (p := ⟨g, (l).length * 5, none⟩) (q := ⟨gb, 0 + 4, none⟩) hgtb] at hu
     exact Hclose.out _ _ hu
   ·have hp0b : ((vn : Int) != 0) = true := by rw [bne_iff_ne]; exact hp0
    have hnn : (idsL (rootNd l).sub).Nodup := hn
    have hwl : (rootNd l).weigh ≤ 1001 := by simp only [rootNd, Nd.weigh]; omega
    have Htr := Lib.hid htr
    have hptz := hLz.pt
    have hdec : addF into line l nx = if vn = 0 then .ok (l ++ [.mk i1 n1 r1 k1 s1]) nx' else match fndL vn l with
      | none => .bad .non
      | some q => if q.kind = 0 then .ok (grpT vn (setId vn (addSub (.mk i1 n1 r1 k1 s1))) l) nx' else .bad .kind := by unfold addF; rw [hnf]; simp only [hnd]
    rw [if_neg hp0] at hdec
    have Hdec := Lib.hid hdec
    clear hdec hnf Hvn Hadd hEx hnd hp0 htr ht1
    go_wp2_with fail
    generalize hwb : World.alloc w2 _ = wb
    have hcb : Chg NoB w2 wb := by
     rw [← hwb]
     repeat (first | exact Chg.refl _ _ | apply Chg.alloc | apply Chg.drew)
    have hnb : Blk wb (w2.heap.size) ([.int .i64 i1, .string n1, .int .i64 r1, .int .i64 k1, .slice a1 s1.length cap1]) 56 := by
     rw [← hwb]
     repeat (first | exact Blk.newAt (by first | rfl | (simp; done) | (simp; omega)) | apply Blk.alloc | apply Blk.drew)
    clear hwb g3
    refine (at_any wz B0 vn _ gb 0 (rootNd l) F wb (Nat.le_refl _) hptz (hzw2.tr hcb)).mono ?_
    rintro en w3 ⟨hc4, (⟨hno, rfl⟩ | ⟨hb, ho, h, Fh, C, rb, cap, j, q, rfl, hin, hq, hqid, hcell⟩)⟩
    ·have hres : addF into line l nx = .bad .non := by rw [Hdec.out, fndL_no vn l hno]
     have Hres := Lib.hid hres
     have hG4 := (hG2.keep0 hcb).keep0 hc4
     have gn := hG4.non
     obtain ⟨Tn, vN, hN⟩ := hG.nform
     rw [hN] at gn
     have HN := Lib.hid hN
     clear hres hN
     go_wp2_with fail
     go_ret
     rw [Hres.out]
     exact ⟨hc02.tr (hcb.tr hc4), congrArg Ending.returned HN.out.symm⟩
    ·have hc3 := hcb.tr hc4
     have hz3 := hzw2.tr hc3
     have hn3 := hnb.keep hc4 nbE
     have hfnd := holds_fnd hin.path hq hqid hnn
     have hgrp := (holds_grp hin.path hq hqid hnn).2 (setId vn (addSub (.mk i1 n1 r1 k1 s1)))
     have hsid := setId_set (f := addSub (.mk i1 n1 r1 k1 s1)) hq hqid (holds_nodup hin.path hnn)
     have hwh := holds_weigh hin.path
     have hG3 := hG2.keep0 hc3
     obtain ⟨hi', hnm, hr', hk', hs⟩ := h
     simp only [Nd.sub] at hq hcell hsid
     have hqw := Nd.weigh_mem (List.mem_of_getElem? hq)
     obtain ⟨rb', cap', Fc, z4, _, _, hrbF, hFcF, hpc, hup⟩ := hin.pt.child hq
     obtain ⟨he1, -, -⟩ := Value.slice.inj (Option.some.inj (hcell.symm.trans z4))
     obtain rfl : rb = rb' := by simpa using he1
     obtain ⟨qi, qn, qr, qk, qs⟩ := q
     obtain ⟨vq3, _, _, _, _, k3z, _⟩ := hpc.form
     have k3 := (hz3.cell (p := ⟨rb, j * 5 + 3, none⟩) (lt_of_cell k3z) nbE).trans k3z
     by_cases hqk : qk = 0
     ·subst hqk
      have hres : addF into line l nx = .ok (grpT vn (setId vn (addSub (.mk i1 n1 r1 k1 s1))) l) nx' := by
       rw [Hdec.out]
       rw [show fndL vn l = some (.mk qi qn qr 0 qs) from hfnd]
       rfl
      have Hres := Lib.hid hres
      have hqs : qs.length ≤ 1000 := by
       have := weighs_len qs
       simp only [Nd.weigh] at hqw hwh hwl
       omega
      have Hclose := Lib.hid (show ∀ wE F9, Upd wz B0 rb (j * 5) (.mk qi qn qr 0 qs) Fc wE (.mk qi qn qr 0 (qs ++ [.mk i1 n1 r1 k1 s1])) F9 → RetEd B0 gb E N K (addF into line l nx) F w (.returned .nilIface) wE from fun wE F9 hu => by
       obtain ⟨F8, hu8⟩ := hup wE _ F9 hu
       obtain ⟨F7, hu7⟩ := hin.upd wE _ F8 hu8
       have e9 : C (.mk hi' hnm hr' hk' (hs.set j (.mk qi qn qr 0 (qs ++ [.mk i1 n1 r1 k1 s1])))) = rootNd (grpT vn (setId vn (addSub (.mk i1 n1 r1 k1 s1))) l) := by
        rw [show hs.set j (.mk qi qn qr 0 (qs ++ [.mk i1 n1 r1 k1 s1])) = setId vn (addSub (.mk i1 n1 r1 k1 s1)) hs from hsid.symm]
        exact hgrp
       rw [e9] at hu7
       rw [Hres.out]
       exact ⟨hcz.trans hu7.chg (fun x e => .inl e), rfl, F7, hLz.upd hu7, fun x hx => (hu7.sub x hx).imp id (fun h => Nat.le_trans hcz.size h)⟩)
      clear hres hfnd hgrp hsid hup hin hq hqid hcell hqw hwh hwl hnn z4 k3z hrbF hFcF hptz
      go_wp2_with fail
      clear k3
      obtain ⟨vq, htq, _, _, _, _, c4z, fqz⟩ := hpc.form
      obtain ⟨qa, qc, rfl, hqlen, hqcap⟩ := htq.form
      have lqz := lt_of_cell c4z
      have c4 : w3.cell? ⟨rb, j * 5 + 4, none⟩ = some (.slice qa (qs).length qc) := (hz3.cell (p := ⟨rb, j * 5 + 4, none⟩) lqz nbE).trans c4z
      have fq : w3.frozen? ⟨rb, j * 5 + 4, none⟩ = false := (hz3.frozen (p := ⟨rb, j * 5 + 4, none⟩) lqz nbE).trans (fqz _)
      have lq3 := lt_of_cell c4
      have hqF := Lib.hid htq.lt
      have hq3 := htq.keep (fun x hx => hz3.block x (htq.lt x hx).2 nbE)
      have hqn := hpc
      have hqout : rb ∉ Fc := by obtain ⟨_, _, _, _, _, _, _, k1, _⟩ := hqn; exact k1
      have hqnd : (Fc).Nodup := by obtain ⟨_, _, _, _, _, _, _, _, k2⟩ := hqn; exact k2
      have hnl := hn3.lt
      have htr3 := TrN.keep _ _ _ Htr.out (fun x hx => hc3.block x (hFt x hx).2 nbE)
      refine wp_region_n (fun w' => w'.cell? ⟨rb, j * 5 + 4, none⟩ = some (.slice qa (qs).length qc) ∧ w'.cell? ⟨w2.heap.size, 0, none⟩ = some (.int .i64 i1) ∧ w'.cell? ⟨w2.heap.size, 1, none⟩ = some (.string n1) ∧ w'.cell? ⟨w2.heap.size, 2, none⟩ = some (.int .i64 r1) ∧ w'.cell? ⟨w2.heap.size, 3, none⟩ = some (.int .i64 k1) ∧ w'.cell? ⟨w2.heap.size, 4, none⟩ = some (.slice a1 s1.length cap1)) [7, 8, 9, 10, 11, 12] (by kernel_rfl) ?_ (fun hSh => ?_)
      ·exact ⟨c4, hn3.cell 0, hn3.cell 1, hn3.cell 2, hn3.cell 3, hn3.cell 4⟩
      refine n_from 0 ?_
      intro htk
      iterate 6
       refine n_tB (v := ?_) htk rfl (Or.inl ⟨by rfl, ?_⟩) ?_
       rotate_left 1
       ·(intro w' hSw; (try dsimp only at hSw); go_simp; try with_reducible rfl)
       clear htk
       intro htk
       simp only [Nat.reduceAdd] at htk
       simp only [Act.put, qA, qB, qC, qD, qE, qF]
      clear htk
      have Hc4 := Lib.hid c4
      have Hfq := Lib.hid fq
      have Hlq := Lib.hid lq3
      clear c4 fq c4z fqz lq3 lqz hnl
      refine n_step 6 rfl (by kernel_rfl) ?_
      go_wp2_with fail
      have ha : Chg NoB w3 (w3.alloc (.cells #[.int .i64 0, .string ⟨#[]⟩, .int .i64 0, .int .i64 0, .slice none 0 0] 56)) := (Chg.refl NoB w3).alloc _
      have hnS := hn3.keep ha nbE
      have hS := And.intro ((ha.cell (p := ⟨rb, j * 5 + 4, none⟩) Hlq.out nbE).trans Hc4.out) (And.intro (hnS.cell 0) (And.intro (hnS.cell 1) (And.intro (hnS.cell 2) (And.intro (hnS.cell 3) (hnS.cell 4)))))
      first
       | refine ⟨fun _ => hS, fun _ => ?_⟩
       | (refine ⟨hS, ?_⟩; intro _ _ _ _ _ _)
      generalize hwA : World.drew _ = wA
      have hcA : Chg NoB w3 wA := by rw [← hwA]; exact ((Chg.refl NoB w3).alloc _).drew
      have hbA : Blk wA w3.heap.size [.int .i64 0, .string ⟨#[]⟩, .int .i64 0, .int .i64 0, .slice none 0 0] 56 := by rw [← hwA]; exact (Blk.newAt rfl).drew
      clear hwA hS hnS ha hSh
      have hnA := hn3.keep hcA nbE
      have hqA := hq3.keep (fun x hx => hcA.block x (Nat.lt_of_lt_of_le (hqF.out x hx).2 hz3.size) nbE)
      have hcap0 : B0 ≤ wA.heap.size := by have := hz3.size; have := hcA.size; have h9 : gb < w2.heap.size := hgl2; have := hc3.size; omega
      obtain ⟨ao, cap2, wB, FB, hrun, hTB, hnB, hsubB, hcB, hatB⟩ := hqA.push hqnd (nd := .mk 0 ⟨#[]⟩ 0 0 []) (cs := [.int .i64 0, .string ⟨#[]⟩, .int .i64 0, .int .i64 0, .slice none 0 0]) (Fx := []) (trN.2 ⟨_, rfl, .inl ⟨rfl, rfl, rfl⟩⟩) List.nodup_nil (fun y hy => (List.not_mem_nil hy).elim) 54 54 Tryz.underlying54 infoNode rfl hbA (by unfold maxLen; omega) (by omega) hcap0 (c := 1)
      obtain ⟨g, cap, x1, c0, r, G1, hv, hbg, hx1l, hc0l, ⟨hgF, hG1F, hgn⟩, hcap1, hcapm, hlast⟩ := hTB.last hnB
      obtain ⟨rfl, -, rfl⟩ := Value.slice.inj hv
      obtain ⟨z0, z1, z2, z3, z4, R0, hc0⟩ := five_split (M := c0) (by omega)
      obtain rfl : R0 = [] := List.eq_nil_of_length_eq_zero (by have h9 := hc0l; rw [hc0, List.length_append] at h9; simp only [List.length_cons, List.length_nil] at h9; omega)
      rw [List.append_nil] at hc0
      subst hc0
      have hcAB : Chg (fun x => x ∈ Fc) wA wB := hcB.mono (fun x _ e => by
       obtain ⟨xs9, G9, _, _, _, h9⟩ := hqA.owns
       rcases h9 with ⟨_, h9⟩ | ⟨b9, h9, h8⟩
       ·rw [h9] at e; cases e
       ·obtain rfl := Option.some.inj (h9.symm.trans e)
        rw [h8]; exact List.mem_cons_self ..)
      refine n_step 7 rfl (by kernel_rfl) ?_
      refine wpList_append_run rfl (.tmp 55) (.tmp 58) 54 54 rfl _ _ rfl rfl hrun ?_
      have hgtb : g ≠ rb := fun e => by
       rcases hsubB g hgF with h9 | h9 | h9
       ·exact hqout (e ▸ h9)
       ·exact (List.not_mem_nil h9).elim
       ·have := Hlq.out; have := hcA.size; simp only at *; omega
      have htbg : rb ≠ g := fun e => hgtb e.symm
      have c4B : wB.cell? ⟨rb, j * 5 + 4, none⟩ = some (.slice qa (qs).length qc) := (hcAB.cell (p := ⟨rb, j * 5 + 4, none⟩) (Nat.lt_of_lt_of_le Hlq.out hcA.size) hqout).trans ((hcA.cell (p := ⟨rb, j * 5 + 4, none⟩) Hlq.out nbE).trans Hc4.out)
      have fqB : wB.frozen? ⟨rb, j * 5 + 4, none⟩ = false := (hcAB.frozen (p := ⟨rb, j * 5 + 4, none⟩) (Nat.lt_of_lt_of_le Hlq.out hcA.size) hqout).trans ((hcA.frozen (p := ⟨rb, j * 5 + 4, none⟩) Hlq.out nbE).trans Hfq.out)
      have e0 := some_at hbg 0 (by simp)
      have e1 := some_at hbg 1 (by simp)
      have e2 := some_at hbg 2 (by simp)
      have e3 := some_at hbg 3 (by simp)
      have e4 := some_at hbg 4 (by simp)
      rw [hx1l] at e0 e1 e2 e3 e4
      simp only [Nat.add_zero, qB, qC] at e0 e1 e2 e3 e4
      have f0 := hbg.free ((qs).length * 5)
      have f1 := hbg.free ((qs).length * 5 + 1)
      have f2 := hbg.free ((qs).length * 5 + 2)
      have f3 := hbg.free ((qs).length * 5 + 3)
      have f4 := hbg.free ((qs).length * 5 + 4)
      have lgB := hbg.lt
      have ltB := lt_of_cell c4B
      have hlI : ((qs).length : Int) < ((qs).length : Int) + 1 := by omega
      have hS5 := store5_mid hbg hx1l (.int .i64 i1) (.string n1) (.int .i64 r1) (.int .i64 k1) (.slice a1 s1.length cap1)
      have hC5 := store5_at_chg wB g ((qs).length * 5) (.int .i64 i1) (.string n1) (.int .i64 r1) (.int .i64 k1) (.slice a1 s1.length cap1)
      have hcz3A := hz3.tr hcA
      have hFt3 : ∀ x ∈ Ft, x < wA.heap.size ∧ x ∉ Fc := fun x hx => ⟨Nat.lt_of_lt_of_le (hFt x hx).2 (Nat.le_trans hc3.size hcA.size), fun e => by have := (hqF.out x e).2; have := hFt1 x hx; omega⟩
      have hgFt : g ∉ Ft := fun e => by
       rcases hsubB g hgF with h9 | h9 | h9
       ·exact (hFt3 g e).2 h9
       ·exact (List.not_mem_nil h9).elim
       ·have := (hFt3 g e).1; omega
      have htrB := TrN.keep _ _ _ htr3 (fun x hx => by
       have h9 := hFt3 x hx
       rw [hcAB.block x h9.1 h9.2, hcA.block x (Nat.lt_of_lt_of_le (hFt x hx).2 hc3.size) nbE])
      have htrC := TrN.mono (B' := B0) (by have := hc1.size; omega) _ _ _ (TrN.keep _ _ _ htrB (fun x hx => hC5.block x (TrN.lt _ _ _ htrB x hx).2 (fun e => hgFt (by have e : x = g := e; exact e ▸ hx))))
      have hTC := hlast _ _ _ _ hS5 (fun x hx => hC5.block x (hTB.lt x (hG1F x hx)).2 (fun e => (List.nodup_cons.1 hgn).1 (by have e : x = g := e; exact e ▸ hx))) htrC
      have hFB : ∀ x ∈ FB, x ∈ Fc ∨ wz.heap.size ≤ x := fun x hx => by
       rcases hsubB x hx with h9 | h9 | h9
       ·exact .inl h9
       ·exact (List.not_mem_nil h9).elim
       ·exact .inr (by rw [h9]; exact hcz3A.size)
      have htbFt : rb ∉ Ft := fun e => by have := hFt1 _ e; have h9 := hpc.lt.1; omega
      have htbFB : rb ∉ FB := fun e => by
       rcases hFB _ e with h9 | h9
       ·exact hqout h9
       ·have h9' := hpc.lt.1; omega
      have hFBt : ∀ x ∈ Ft, x ∉ FB := fun x hx e => by
       rcases hsubB x e with h9 | h9 | h9
       ·exact (hFt3 x hx).2 h9
       ·exact (List.not_mem_nil h9).elim
       ·have := (hFt3 x hx).1; omega
      have hu := hpc.list (((hcz3A.mono (D := fun x => x ∈ Fc) (fun _ _ e => nbE e)).trans hcAB (fun _ e => .inl e)).trans hC5 (fun x e => by have e : x = g := e; rw [e]; exact hFB g hgF)) hTC (by
        simp only [List.mem_cons, List.mem_append, not_or]
        exact ⟨htbg, fun e => htbFB (hG1F _ e), htbFt⟩) (by
        rw [List.nodup_cons] at hgn
        rw [List.nodup_cons, List.nodup_append, List.mem_append, not_or]
        exact ⟨⟨hgn.1, hgFt⟩, hgn.2, hFtn, fun x hx y hy e => hFBt y hy (e ▸ hG1F x hx)⟩) (fun x hx => by
        simp only [List.mem_cons, List.mem_append] at hx
        rcases hx with rfl | hx | hx
        ·exact hFB _ hgF
        ·exact hFB x (hG1F x hx)
        ·exact .inr (hFt1 x hx))
      have Hu := Lib.hid hu
      clear hu hTC htrC htrB hS5 hC5 hlast hbg hTB hqA hq3 hrun hnA hn3 hbA htq hqF htr3 hatB hcB hFB
      go_wp2_with fail
      first | refine ⟨fun (hx : ([7, 8, 9, 10, 11, 12] : List Nat).contains _ = false) => absurd hx (by decide), fun _ => ?_⟩ | skip
      refine n_pure (v := ?_) 8 rfl (Or.inl ⟨by rfl, ?_⟩) (by kernel_rfl) (fun _ _ _ h => h) ?_
      rotate_left 1
      ·(intro w' hSw; go_simp; try with_reducible rfl)
      simp only [Act.put, qA, qB, qC, qD, qE, qF]
      refine n_pure (v := ?_) 10 rfl (Or.inl ⟨by rfl, ?_⟩) (by kernel_rfl) (fun _ _ _ h => h) ?_
      rotate_left 1
      ·(intro w' hSw; go_simp; try with_reducible rfl)
      simp only [Act.put, qA, qB, qC, qD, qE, qF]
      refine n_pure (v := ?_) 11 rfl (Or.inl ⟨by rfl, ?_⟩) (by kernel_rfl) (fun _ _ _ h => h) ?_
      rotate_left 1
      ·(intro w' hSw; go_simp; try with_reducible rfl)
      simp only [Act.put, qA, qB, qC, qD, qE, qF]
      refine n_fork 9 12 rfl rfl (by kernel_rfl) ?_ ?_
      ·go_wp2_with fail
       first | refine ⟨fun (hx : ([7, 8, 9, 10, 11, 12] : List Nat).contains _ = false) => absurd hx (by decide), fun _ => ?_⟩ | skip
       refine n_step 12 rfl (by kernel_rfl) ?_
       go_wp2_with fail
       first | refine ⟨fun (hx : ([7, 8, 9, 10, 11, 12] : List Nat).contains _ = false) => absurd hx (by decide), fun _ => ?_⟩ | skip
       refine n_done (by kernel_rfl) ?_
       go_wp2_with fail
       go_ret
       exact Hclose.out _ _ Hu.out
      ·go_wp2_with fail
       first | refine ⟨fun (hx : ([7, 8, 9, 10, 11, 12] : List Nat).contains _ = false) => absurd hx (by decide), fun _ => ?_⟩ | skip
       refine n_step 9 rfl (by kernel_rfl) ?_
       go_wp2_with fail
       first | refine ⟨fun (hx : ([7, 8, 9, 10, 11, 12] : List Nat).contains _ = false) => absurd hx (by decide), fun _ => ?_⟩ | skip
       refine n_done (by kernel_rfl) ?_
       go_wp2_with fail
       go_ret
       have hu := Hu.out
       rw [setCell_swap _ (p := ⟨g, (qs).length * 5 + 4, none⟩) (q := ⟨rb, j * 5 + 4, none⟩) hgtb, setCell_swap _ (p := ⟨g, (qs).length * 5 + 3, none⟩) (q := ⟨rb, j * 5 + 4, none⟩) hgtb, setCell_swap _ (p := ⟨g, (qs).length * 5 + 2, none⟩) (q := ⟨rb, j * 5 + 4, none⟩) hgtb, setCell_swap _ (p := ⟨g, (qs).length * 5 + 1, none⟩) (q := ⟨rb, j * 5 + 4, none⟩) hgtb, setCell_swap _ (p := ⟨g, (qs).length * 5, none⟩) (q := ⟨rb, j * 5 + 4, none⟩) hgtb] at hu
       exact Hclose.out _ _ hu
     ·have hres : addF into line l nx = .bad .kind := by
       rw [Hdec.out]
       rw [show fndL vn l = some (.mk qi qn qr qk qs) from hfnd]
       exact if_neg hqk
      have Hres := Lib.hid hres
      have gk := hG3.kind
      obtain ⟨Tk, vK, hK⟩ := hG.kform
      rw [hK] at gk
      have HK := Lib.hid hK
      have hqb : ((qk : Int) != 0) = true := by rw [bne_iff_ne]; exact hqk
      clear hres hK hqk
      go_wp2_with fail
      go_ret
      rw [Hres.out]
      exact ⟨hc02.tr hc3, congrArg Ending.returned HK.out.symm⟩
end Go.Proofs.YtnmhkafpgohefaaGreatDoor
