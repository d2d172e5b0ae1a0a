/-
 evolve.known: the nodes by their IDs, in two maps.
-/
import Derived.Test.YtgcmfpcgmkkobaaGreatDoorSameLaw
import Derived.Test.YtgcmfpcgmkkobaaGreatDoorPackF
import Derived.Maps.RangeWalk
set_option linter.unusedVariables false
set_option linter.unusedSimpArgs false
namespace Go.Proofs.YtgcmfpcgmkkobaaGreatDoor
open Go.RowKit

abbrev DV := DataW Value
def RV (v : Value) : Option (DV × List MemPlace) := some (.held v, [])
theorem lawI : Go.Maps.Keyed Tryz.prog 3 := Go.Maps.int_keyed Tryz.underlying3
def OM (w : World) (b n : Nat) (D : DV) : Prop := w.ownsMap Tryz.prog 3 RV b n D
theorem OM.keep {C : Nat → Prop} {w w' : World} {b n : Nat} {D : DV} (h : OM w b n D) (hc : Chg C w w') (hn : ¬ C b) : OM w' b n D := by
 obtain ⟨es, clock, hb, F, hs, hD⟩ := h
 exact ⟨es, clock, hc.at hb hn, F, hs, hD⟩
theorem OM.lt {w : World} {b n : Nat} {D : DV} (h : OM w b n D) : b < w.heap.size := World.ownsMap.lt h
def keyI (i : Int) : Lit := .int .i64 i
theorem keyI_wf {i : Int} (h : I64 i) : (keyI i).wf = true := by
 obtain ⟨h1, h2⟩ := h
 have e1 : IntKind.i64.min = -9223372036854775808 := by decide
 have e2 : IntKind.i64.max = 9223372036854775807 := by decide
 simp only [keyI, Lit.wf, e1, e2]
 simp
 omega
theorem keyOfI {i : Int} (h : I64 i) : keyOf Tryz.prog 3 (.int .i64 i) = some (keyI i) := Go.Maps.keyOf_int_mk Tryz.underlying3 (keyI_wf h)
theorem keyI_inj {i j : Int} (h : keyI i = keyI j) : i = j := by
 unfold keyI at h
 injection h
def ndVal (n : Nd) (sl : Value) : Value := .agg #[.int .i64 n.id, .string n.name, .int .i64 n.rep, .int .i64 n.kind, sl]
/-- Two maps tell of the nodes that are known. -/
structure Inv (D1 D2 : DV) (K : List Kn) : Prop where
 m1 : Go.Maps.IsMap D1
 m2 : Go.Maps.IsMap D2
 tell : ∀ x ∈ K, ∃ (sa : Option Addr) (ln cp : Nat), (∀ zd, D1.atKey (keyI x.1.id) zd = .held (ndVal x.1 (.slice sa ln cp))) ∧ ∀ zd, D2.atKey (keyI x.1.id) zd = .held (.int .i64 x.2)
 only : ∀ i : Int, Go.Maps.has D1 (keyI i) = true → ∃ x ∈ K, x.1.id = i
theorem Inv.start : Inv (.map []) (.map []) [] := by
 refine ⟨Go.Maps.isMap_empty, Go.Maps.isMap_empty, fun x hx => (List.not_mem_nil hx).elim, fun i h => ?_⟩
 rw [Go.Maps.has_eq] at h
 cases h
theorem Inv.put {D1 D2 : DV} {K : List Kn} (h : Inv D1 D2 K) (x : Kn) (sa : Option Addr) (ln cp : Nat) (hx : x.1.id ∉ K.map fun y => y.1.id) : Inv (D1.put (keyI x.1.id) (.held (ndVal x.1 (.slice sa ln cp)))) (D2.put (keyI x.1.id) (.held (.int .i64 x.2))) (K ++ [x]) := by
 refine ⟨h.m1.put _ _, h.m2.put _ _, fun y hy => ?_, fun i hi => ?_⟩
 ·rcases List.mem_append.1 hy with hy | hy
  ·have hne : keyI y.1.id ≠ keyI x.1.id := fun e => hx (List.mem_map.2 ⟨y, hy, keyI_inj e⟩)
   obtain ⟨sa', ln', cp', a1, a2⟩ := h.tell y hy
   exact ⟨sa', ln', cp', fun zd => by rw [Go.Maps.atKey_put_other hne]; exact a1 zd, fun zd => by rw [Go.Maps.atKey_put_other hne]; exact a2 zd⟩
  ·obtain rfl := List.mem_singleton.1 hy
   exact ⟨sa, ln, cp, fun zd => Go.Maps.atKey_put_same h.m1 (show WideAt.IsKeyLit (keyI y.1.id) from trivial) _ _, fun zd => Go.Maps.atKey_put_same h.m2 (show WideAt.IsKeyLit (keyI y.1.id) from trivial) _ _⟩
 ·by_cases he : i = x.1.id
  ·exact ⟨x, List.mem_append.2 (.inr (List.mem_singleton.2 rfl)), he.symm⟩
  ·rw [Go.Maps.has_put_other (fun e => he (keyI_inj e))] at hi
   obtain ⟨y, hy, hyi⟩ := h.only i hi
   exact ⟨y, List.mem_append.2 (.inl hy), hyi⟩

def TwoB (b1 b2 : Nat) : Nat → Prop := fun x => x = b1 ∨ x = b2
theorem weighs_snoc : ∀ (l : List Nd) (n : Nd), Nd.weighs (l ++ [n]) = Nd.weighs l + n.weigh
 | [], n => by simp [Nd.weighs]
 | x :: xs, n => by simp only [List.cons_append, Nd.weighs, weighs_snoc xs n]; omega
/-- What known leaves. -/
def RetKn (b1 b2 n : Nat) (K : List Kn) (w : World) (en : Ending) (w' : World) : Prop :=
 en = .returned (.tuple #[]) ∧ ∃ D1 D2, OM w' b1 n D1 ∧ OM w' b2 n D2 ∧ Inv D1 D2 K ∧ Chg (TwoB b1 b2) w w'
def KnRel (b1 b2 n : Nat) (K : List Kn) (i : Int) (s : List Nd) (w : World) (nb : Nat) (cells : List Value) (vj : Value) (wr : World) : Prop :=
 ∃ (j : Nat) (D1 D2 : DV), j ≤ s.length ∧ vj = .int .i64 (j : Nat) ∧ OM wr b1 (n + Nd.weighs (s.take j)) D1 ∧ OM wr b2 (n + Nd.weighs (s.take j)) D2 ∧ Inv D1 D2 (K ++ knL i (s.take j)) ∧ Chg (TwoB b1 b2) w wr ∧ Blk wr nb cells 28

set_option maxHeartbeats 4000000 in
set_option maxRecDepth 100000 in
theorem known_any (b1 b2 : Nat) (hne : b1 ≠ b2) : ∀ (m : Nat) (nd : Nd) (w : World) (S : Nat → Prop) (cs : List Value) (n : Nat) (D1 D2 : DV) (K : List Kn), nd.weigh ≤ m → Reads w S nd.dt cs → nd.ok → (∀ x, S x → ¬ TwoB b1 b2 x) → OM w b1 n D1 → OM w b2 n D2 → Inv D1 D2 K →
  ((K.map fun y => y.1.id) ++ idsL nd.sub).Nodup → n + nd.weigh ≤ 140737488355328 →
  Calls Tryz.prog 34 #[.agg cs.toArray, .map (some b1), .map (some b2)] w (RetKn b1 b2 (n + Nd.weighs nd.sub) (K ++ knL nd.id nd.sub) w) := by
 intro m
 induction m with
 | zero => intro nd w S cs n D1 D2 K hm; cases nd; simp [Nd.weigh] at hm
 | succ m ih =>
  intro nd w S cs n D1 D2 K hm hr hok hS ho1 ho2 hinv hnod hbound
  have Hih := Lib.hid ih
  clear ih
  obtain ⟨i, nm, r, k, s⟩ := nd
  obtain ⟨sv, rfl, hs⟩ := reads_nd.1 hr
  obtain ⟨sa, cap, rfl, hlen, hcap, hel⟩ := reads_subs hs
  obtain ⟨hi, hn, hrr, hk, hsl, hoks⟩ := hok
  simp only [Nd.weigh] at hm hbound
  have Hnod := Lib.hid hnod
  clear hnod
  unfold reach at hsl
  go_enter Tryz.func34, Tryz.ntmps34
  go_wp2_with fail
  generalize hw1 : w.alloc _ = w1
  have hc1 : Chg NoB w w1 := by
   rw [← hw1]
   repeat (first | exact Chg.refl _ _ | apply Chg.alloc | apply Chg.drew)
  have hb1 : Blk w1 (w.heap.size) (ndCells i nm r k (.slice sa s.length cap)) 28 := by
   rw [← hw1]
   repeat (first | exact Blk.newAt (by first | rfl | (simp; done) | (simp; omega)) | apply Blk.alloc | apply Blk.drew)
  clear hw1
  have hl1 := ho1.lt
  have hl2 := ho2.lt
  have ho1 := ho1.keep hc1 NoB.elim
  have ho2 := ho2.keep hc1 NoB.elim
  have hc01 : Chg (TwoB b1 b2) w w1 := hc1.mono (fun _ _ e => NoB.elim e)
  have hnb : ¬ TwoB b1 b2 w.heap.size := by
   rintro (e | e) <;> omega
  go_loopw [11] (fun vj wr => KnRel b1 b2 n K i s w w.heap.size (ndCells i nm r k (.slice sa s.length cap)) vj wr) (fun vj _ => s.length - (intOf vj).toNat)
  case atStart => exact ⟨0, D1, D2, Nat.zero_le _, rfl, by simpa [Nd.weighs] using ho1, by simpa [Nd.weighs] using ho2, by simpa [knL] using hinv, hc01, hb1⟩
  case round =>
   obtain ⟨j, E1, E2, hj, rfl, hq1, hq2, hinvj, hcj, hbj⟩ := hrel
   by_cases hlt : j < s.length
   ·obtain ⟨eb, off, rfl, hSb, hbw, hE⟩ := hel (by omega)
    obtain ⟨ecs, hl5, hcells, hre⟩ := hE.get j s[j].dt (by simp [hlt])
    have hmem : s[j] ∈ s := List.getElem_mem hlt
    have hwj := Nd.weigh_mem hmem
    have hokj := Nd.oks_mem hoks _ hmem
    have htake : s.take (j + 1) = s.take j ++ [s[j]] := List.take_succ_eq_append_getElem hlt
    have hdrop : s = s.take j ++ s[j] :: s.drop (j + 1) := by rw [← List.drop_eq_getElem_cons hlt, List.take_append_drop]
    have hle := Nd.weigh_mem hmem
    have hnodj := Hnod.out
    simp only [Nd.sub] at hnodj
    rw [hdrop, idsL_append] at hnodj
    generalize s[j] = nj at hre hwj hokj htake hnodj hle
    obtain ⟨i1, n1, r1, k1, s1⟩ := nj
    have hids : (K ++ knL i (s.take j)).map (fun y => y.1.id) = (K.map fun y => y.1.id) ++ idsL (s.take j) := by rw [List.map_append, knL_ids]
    simp only [idsL, idsN] at hnodj
    have hnod3 : (((K.map fun y => y.1.id) ++ idsL (s.take j)) ++ (i1 :: idsL s1)).Nodup := by
     refine hnodj.sublist ?_
     rw [List.append_assoc]
     refine List.Sublist.append_left (List.Sublist.append_left ?_ _) _
     exact List.sublist_append_left _ _
    have hfresh : i1 ∉ (K ++ knL i (s.take j)).map fun y => y.1.id := by
     rw [hids]
     intro hmem2
     exact (List.nodup_append.1 hnod3).2.2 i1 hmem2 i1 (List.mem_cons_self ..) rfl
    have hnod4 : (((K ++ knL i (s.take j)) ++ [((.mk i1 n1 r1 k1 s1 : Nd), i)]).map (fun y => y.1.id) ++ idsL s1).Nodup := by
     rw [List.map_append, hids, List.map_cons, List.map_nil, List.append_assoc, List.append_assoc]
     rw [List.append_assoc] at hnod3
     exact hnod3
    have hKj : (K ++ knL i (s.take j)) ++ [((.mk i1 n1 r1 k1 s1 : Nd), i)] ++ knL i1 s1 = K ++ knL i (s.take (j + 1)) := by
     rw [htake, knL_append]
     simp only [knL, knN, List.append_nil, List.append_assoc, List.cons_append, List.nil_append]
    have hWj : Nd.weighs (s.take (j + 1)) = Nd.weighs (s.take j) + (Nd.weighs s1 + 1) := by rw [htake, weighs_snoc, Nd.weigh]; omega
    have hWle : Nd.weighs (s.take (j + 1)) ≤ Nd.weighs s := by
     have h9 : s = s.take (j + 1) ++ s.drop (j + 1) := (List.take_append_drop _ _).symm
     have h8 : ∀ a b : List Nd, Nd.weighs a ≤ Nd.weighs (a ++ b) := fun a b => by
      induction a with
      | nil => simp [Nd.weighs]
      | cons x xs ih => simp only [List.cons_append, Nd.weighs]; omega
     have h7 := h8 (s.take (j + 1)) (s.drop (j + 1))
     rwa [← h9] at h7
    have Hfresh := Lib.hid hfresh
    have Hnod4 := Lib.hid hnod4
    have HKj := Lib.hid hKj
    simp only [Nd.weigh] at hle
    clear hnodj hnod3 hfresh hnod4 hKj hids hdrop htake
    obtain ⟨sl1, rfl, hs1⟩ := reads_nd.1 hre
    obtain ⟨sa1, cap1, rfl, _, _, _⟩ := reads_subs hs1
    have hi1 : I64 i1 := hokj.1
    have hebn : ¬ TwoB b1 b2 eb := hS eb hSb
    have e0 : wr.cell? ⟨eb, off + j * 5, none⟩ = some (.int .i64 i1) := (hcj.cell (p := ⟨eb, off + j * 5, none⟩) hbw hebn).trans (hcells 0 _ rfl)
    have e1 : wr.cell? ⟨eb, off + j * 5 + 1, none⟩ = some (.string n1) := (hcj.cell (p := ⟨eb, off + j * 5 + 1, none⟩) hbw hebn).trans (hcells 1 _ rfl)
    have e2 : wr.cell? ⟨eb, off + j * 5 + 2, none⟩ = some (.int .i64 r1) := (hcj.cell (p := ⟨eb, off + j * 5 + 2, none⟩) hbw hebn).trans (hcells 2 _ rfl)
    have e3 : wr.cell? ⟨eb, off + j * 5 + 3, none⟩ = some (.int .i64 k1) := (hcj.cell (p := ⟨eb, off + j * 5 + 3, none⟩) hbw hebn).trans (hcells 3 _ rfl)
    have e4 : wr.cell? ⟨eb, off + j * 5 + 4, none⟩ = some (.slice sa1 s1.length cap1) := (hcj.cell (p := ⟨eb, off + j * 5 + 4, none⟩) hbw hebn).trans (hcells 4 _ rfl)
    clear hcells
    have hltI : (j : Int) < (s.length : Int) := by omega
    go_wp2_with fail
    generalize hw2 : wr.alloc _ = w2
    have hc2 : Chg NoB wr w2 := by
     rw [← hw2]
     repeat (first | exact Chg.refl _ _ | apply Chg.alloc | apply Chg.drew)
    have hx2 : Blk w2 (wr.heap.size) (ndCells i1 n1 r1 k1 (.slice sa1 s1.length cap1)) 28 := by
     rw [← hw2]
     repeat (first | exact Blk.newAt (by first | rfl | (simp; done) | (simp; omega)) | apply Blk.alloc | apply Blk.drew)
    clear hw2 e0 e1 e2 e3 e4
    have hb2 := hbj.keep hc2 NoB.elim
    have hq1 := hq1.keep hc2 NoB.elim
    have hq2 := hq2.keep hc2 NoB.elim
    have hc02 := hcj.tr hc2
    have hxl := hx2.lt
    have hszw := hcj.size
    have hxn : ¬ TwoB b1 b2 wr.heap.size := by
     rintro (e | e) <;> omega
    refine wp_region_n (fun w' => w'.cell? ⟨wr.heap.size, 0, none⟩ = some (.int .i64 i1) ∧ w'.cell? ⟨wr.heap.size, 1, none⟩ = some (.string n1) ∧ w'.cell? ⟨wr.heap.size, 2, none⟩ = some (.int .i64 r1) ∧ w'.cell? ⟨wr.heap.size, 3, none⟩ = some (.int .i64 k1) ∧ w'.cell? ⟨wr.heap.size, 4, none⟩ = some (.slice sa1 s1.length cap1) ∧ w'.cell? ⟨w.heap.size, 0, none⟩ = some (.int .i64 i)) [10] (by kernel_rfl) ?_ (fun hSh => ?_)
    ·exact ⟨hx2.cell 0, hx2.cell 1, hx2.cell 2, hx2.cell 3, hx2.cell 4, hb2.cell 0⟩
    refine n_take (v := ?_) 0 rfl (Or.inl ⟨by rfl, ?_⟩) (by kernel_rfl) (fun _ _ _ h => h) (by assumption) ?_
    rotate_left 1
    ·(intro w' hSw; (try dsimp only at hSw); go_simp; try with_reducible rfl)
    simp only [Act.put, List.getElem_toArray, List.getElem_cons_zero, List.getElem_cons_succ, List.setIfInBounds_toArray, List.set_cons_zero, List.set_cons_succ]
    refine n_take (v := ?_) 1 rfl (Or.inl ⟨by rfl, ?_⟩) (by kernel_rfl) (fun _ _ _ h => h) (by assumption) ?_
    rotate_left 1
    ·(intro w' hSw; (try dsimp only at hSw); go_simp; try with_reducible rfl)
    simp only [Act.put, List.getElem_toArray, List.getElem_cons_zero, List.getElem_cons_succ, List.setIfInBounds_toArray, List.set_cons_zero, List.set_cons_succ]
    refine n_take (v := ?_) 2 rfl (Or.inl ⟨by rfl, ?_⟩) (by kernel_rfl) (fun _ _ _ h => h) (by assumption) ?_
    rotate_left 1
    ·(intro w' hSw; (try dsimp only at hSw); go_simp; try with_reducible rfl)
    simp only [Act.put, List.getElem_toArray, List.getElem_cons_zero, List.getElem_cons_succ, List.setIfInBounds_toArray, List.set_cons_zero, List.set_cons_succ]
    refine n_take (v := ?_) 3 rfl (Or.inl ⟨by rfl, ?_⟩) (by kernel_rfl) (fun _ _ _ h => h) (by assumption) ?_
    rotate_left 1
    ·(intro w' hSw; (try dsimp only at hSw); go_simp; try with_reducible rfl)
    simp only [Act.put, List.getElem_toArray, List.getElem_cons_zero, List.getElem_cons_succ, List.setIfInBounds_toArray, List.set_cons_zero, List.set_cons_succ]
    refine n_take (v := ?_) 4 rfl (Or.inl ⟨by rfl, ?_⟩) (by kernel_rfl) (fun _ _ _ h => h) (by assumption) ?_
    rotate_left 1
    ·(intro w' hSw; (try dsimp only at hSw); go_simp; try with_reducible rfl)
    simp only [Act.put, List.getElem_toArray, List.getElem_cons_zero, List.getElem_cons_succ, List.setIfInBounds_toArray, List.set_cons_zero, List.set_cons_succ]
    refine n_take (v := ?_) 5 rfl (Or.inl ⟨by rfl, ?_⟩) (by kernel_rfl) (fun _ _ _ h => h) (by assumption) ?_
    rotate_left 1
    ·(intro w' hSw; (try dsimp only at hSw); go_simp; try with_reducible rfl)
    simp only [Act.put, List.getElem_toArray, List.getElem_cons_zero, List.getElem_cons_succ, List.setIfInBounds_toArray, List.set_cons_zero, List.set_cons_succ]
    refine n_take (v := ?_) 6 rfl (Or.inl ⟨by rfl, ?_⟩) (by kernel_rfl) (fun _ _ _ h => h) (by assumption) ?_
    rotate_left 1
    ·(intro w' hSw; (try dsimp only at hSw); go_simp; try with_reducible rfl)
    simp only [Act.put, List.getElem_toArray, List.getElem_cons_zero, List.getElem_cons_succ, List.setIfInBounds_toArray, List.set_cons_zero, List.set_cons_succ]
    refine n_take (v := ?_) 7 rfl (Or.inl ⟨by rfl, ?_⟩) (by kernel_rfl) (fun _ _ _ h => h) (by assumption) ?_
    rotate_left 1
    ·(intro w' hSw; (try dsimp only at hSw); go_simp; try with_reducible rfl)
    simp only [Act.put, List.getElem_toArray, List.getElem_cons_zero, List.getElem_cons_succ, List.setIfInBounds_toArray, List.set_cons_zero, List.set_cons_succ]
    refine n_take (v := ?_) 8 rfl (Or.inl ⟨by rfl, ?_⟩) (by kernel_rfl) (fun _ _ _ h => h) (by assumption) ?_
    rotate_left 1
    ·(intro w' hSw; (try dsimp only at hSw); go_simp; try with_reducible rfl)
    simp only [Act.put, List.getElem_toArray, List.getElem_cons_zero, List.getElem_cons_succ, List.setIfInBounds_toArray, List.set_cons_zero, List.set_cons_succ]
    refine n_step 9 rfl (by kernel_rfl) ?_
    refine wpList_mapUpdate_own _ rfl _ _ _ 74 rfl 3 28 lawI Tryz.underlying74 RV b1 (n + Nd.weighs (s.take j)) E1 rfl (show OM w2.drew b1 _ E1 from hq1) (by unfold maxLen; omega) _ _ (keyI i1) rfl rfl (keyOfI hi1) (.held (ndVal (.mk i1 n1 r1 k1 s1) (.slice sa1 s1.length cap1))) [] rfl ?_
    intro w3 hown3 hgrow3
    have hc3 : Chg (TwoB b1 b2) w2 w3 := (Chg.refl (TwoB b1 b2) w2).drew.grown hgrow3 (fun x e => .inl (.inl (Option.some.inj e).symm))
    have hc3' : Chg (OneB b1) w2 w3 := (Chg.refl (OneB b1) w2).drew.grown hgrow3 (fun x e => .inl (Option.some.inj e).symm)
    have hx3 := hx2.keep hc3 hxn
    have hb3 := hb2.keep hc3 hnb
    have hq2 := hq2.keep hc3' (fun e => hne e.symm)
    go_wp2_with fail
    refine ⟨fun _ => ⟨hx3.cell 0, hx3.cell 1, hx3.cell 2, hx3.cell 3, hx3.cell 4, hb3.cell 0⟩, fun hSk => ?_⟩
    replace hSk := hSk (by rfl)
    refine n_step 10 rfl (by kernel_rfl) ?_
    refine wpList_mapUpdate_own _ rfl _ _ _ 75 rfl 3 3 lawI Tryz.underlying75 RV b2 (n + Nd.weighs (s.take j)) E2 rfl hq2 (by unfold maxLen; omega) _ _ (keyI i1) rfl rfl (keyOfI hi1) (.held (.int .i64 i)) [] rfl ?_
    intro w4 hown4 hgrow4
    have hc4 : Chg (TwoB b1 b2) w3 w4 := (Chg.refl (TwoB b1 b2) w3).grown hgrow4 (fun x e => .inl (.inr (Option.some.inj e).symm))
    have hc4' : Chg (OneB b2) w3 w4 := (Chg.refl (OneB b2) w3).grown hgrow4 (fun x e => .inl (Option.some.inj e).symm)
    have hx4 := hx3.keep hc4 hxn
    have hb4 := hb3.keep hc4 hnb
    have hown3 : OM w4 b1 _ _ := OM.keep hown3 hc4' (fun e => hne e)
    have hinv4 := hinvj.put ((.mk i1 n1 r1 k1 s1 : Nd), i) sa1 s1.length cap1 Hfresh.out
    have hc04 := (hc02.trans hc3 (fun _ e => .inl e)).trans hc4 (fun _ e => .inl e)
    have hc24 := hc3.trans hc4 (fun _ e => .inl e)
    clear hSk hSh hgrow3 hgrow4 hx3 hx2 hb3 hb2 hq1 hq2 hc3 hc3' hc4 hc4'
    go_wp2_with fail
    refine n_done (by kernel_rfl) ?_
    have y0 : w4.cell? ⟨wr.heap.size, 0, none⟩ = some (.int .i64 (i1)) := hx4.cell 0
    have y1 : w4.cell? ⟨wr.heap.size, 1, none⟩ = some (.string n1) := hx4.cell 1
    have y2 : w4.cell? ⟨wr.heap.size, 2, none⟩ = some (.int .i64 (r1)) := hx4.cell 2
    have y3 : w4.cell? ⟨wr.heap.size, 3, none⟩ = some (.int .i64 (k1)) := hx4.cell 3
    have y4 : w4.cell? ⟨wr.heap.size, 4, none⟩ = some (.slice sa1 s1.length cap1) := hx4.cell 4
    have hxl4 := hx4.lt
    go_wp2_with fail
    have hrj : Reads w4 S (Nd.dt (.mk i1 n1 r1 k1 s1)) [.int .i64 i1, .string n1, .int .i64 r1, .int .i64 k1, .slice sa1 s1.length cap1] := hre.chg hc04 hS
    refine (Hih.out (.mk i1 n1 r1 k1 s1) w4 S _ (n + Nd.weighs (s.take j) + 1) _ _ _ (by simp only [Nd.weigh]; omega) hrj hokj hS hown3 hown4 hinv4 Hnod4.out (by simp only [Nd.weigh]; omega)).mono ?_
    rintro en w5 ⟨rfl, F1, F2, hp1, hp2, hinv5, hc5⟩
    have hb5 := hb4.keep hc5 hnb
    simp only [Nd.sub, Nd.id] at hp1 hp2 hinv5
    rw [HKj.out] at hinv5
    rw [show n + Nd.weighs (s.take j) + 1 + Nd.weighs s1 = n + Nd.weighs (s.take (j + 1)) by omega] at hp1 hp2
    go_wp2_with fail
    refine ⟨⟨j + 1, F1, F2, hlt, by go_num, hp1, hp2, hinv5, hc04.trans hc5 (fun _ e => .inl e), hb5⟩, by simp [intOf]; omega⟩
   ·have hje : j = s.length := by omega
    have hltI : ¬ (j : Int) < (s.length : Int) := by omega
    rw [hje, List.take_length] at hq1 hq2 hinvj
    go_wp2_with fail
    refine bodyPost_ret (v := .tuple #[]) (by simp [results, Tryz.results34, go_sem]) rfl ?_
    exact ⟨rfl, E1, E2, hq1, hq2, hinvj, hcj⟩
end Go.Proofs.YtgcmfpcgmkkobaaGreatDoor
