/-
  table: the manifest's text of a table that is new.; table: what a new table's commit comes by.; The node of a line, in plain words: its numbers go on from the next one, in the order of reading.; Replay, in plain words; what holds along the way.; disk: Names, of a disk with at most one file.
-/
import Derived.Test.YtnmhkafpgohefaaGreatDoorTabPut
import Derived.Test.YtnmhkafpgohefaaGreatDoorJoin
import Derived.Deep.DeepCutAuto
import Derived.Test.YtnmhkafpgohefaaGreatDoorNumbered
import Derived.Test.YtnmhkafpgohefaaGreatDoorSevLaw
set_option linter.unusedVariables false
set_option maxHeartbeats 20000000
set_option maxRecDepth 100000
set_option linter.unusedSimpArgs false
namespace Go.Proofs.YtnmhkafpgohefaaGreatDoor
open Go.RowKit
def man0 : List UInt8 := Lib.uvarint 0 ++ Lib.uvarint 0 ++ longL []
def manF : List UInt8 := leL 4 (crcF man0) ++ man0
theorem man0_le : man0.length ≤ 30 := by
 have := Lib.uvarint_length64 (x := 0) (by decide)
 unfold man0 longL
 simp only [List.length_append, List.append_nil, List.length_nil]
 omega
theorem manF_le : 4 ≤ manF.length ∧ manF.length ≤ 34 := by
 have := man0_le
 unfold manF
 rw [List.length_append, leL_length]
 omega
theorem sumL_any (l : List UInt8) (w : World) (hb : l.length ≤ 9000000000000000000) : Calls Tryz.prog 26 #[.string ⟨l.toArray⟩] w (RetV (.int .u32 (crcF l : Nat)) w) := by
 have h := sum_any ⟨l.toArray⟩ w (by rw [siz_list]; exact hb)
 rwa [dat_list] at h
theorem textS_new (sb c : Nat) (w : World) (hs : w.cell? ⟨sb, 0, none⟩ = some (.slice none 0 0)) :
  Calls Tryz.prog 39 #[.agg #[.slice none 0 0, .slice (some ⟨sb, 0, none⟩) 1 c, .int .i64 0]] w (RetV (.string ⟨manF.toArray⟩) w) := by
 have hsl := lt_cell hs
 have HU := Lib.hid (fun w => uvarint_any 0 w (by decide))
 have hll : (longL []).length ≤ 10 := by
  have := Lib.uvarint_length64 (x := 0) (by decide)
  unfold longL
  rw [List.append_nil]
  exact this
 have HT := Lib.hid (fun w => wtext_any ⟨#[]⟩ w (by decide))
 have hul := Lib.uvarint_length64 (x := 0) (by decide)
 go_enter Tryz.func39, Tryz.ntmps39
 go_upto_region 1 with fail
 generalize hw1 : World.alloc _ _ = w1
 have hc1 : Chg NoB w w1 := by
  rw [← hw1]
  repeat (first | exact Chg.refl _ _ | apply Chg.alloc | apply Chg.drew)
 have hb1 : Blk w1 (w.heap.size) ([.slice none 0 0, .slice (some ⟨sb, 0, none⟩) 1 c, .int .i64 0]) 51 := by
  rw [← hw1]
  repeat (first | exact Blk.newAt (by first | rfl | (simp; done) | (simp; omega)) | apply Blk.alloc | apply Blk.drew)
 clear hw1
 have c0 : w1.cell? ⟨w.heap.size, 0, none⟩ = some (.slice none 0 0) := hb1.cell 0
 have c1 : w1.cell? ⟨w.heap.size, 1, none⟩ = some (.slice (some ⟨sb, 0, none⟩) 1 c) := hb1.cell 1
 have c2 : w1.cell? ⟨w.heap.size, 2, none⟩ = some (.int .i64 0) := hb1.cell 2
 have hlt1 := hb1.lt
 go_wp2_with fail
 refine wp_region_n (fun w' => w'.cell? ⟨w.heap.size, 0, none⟩ = some (.slice none 0 0) ∧ w'.cell? ⟨w.heap.size, 2, none⟩ = some (.int .i64 0)) [] (by kernel_rfl) ?_ (fun hSh => ?_)
 ·exact ⟨c0, c2⟩
 refine n_from 0 ?_
 intro htk
 iterate 3
  refine n_tB (v := ?_) htk rfl (Or.inl ⟨by rfl, ?_⟩) ?_
  rotate_left 1
  ·(intro w' hSw; (try dsimp only at hSw); go_simp; try with_reducible rfl)
  clear htk
  intro htk
  simp only [Nat.reduceAdd] at htk
  simp only [Act.put, qA, qB, qC, qD, qE, qF]
 clear htk
 refine n_from 4 ?_
 intro htk
 iterate 4
  refine n_tB (v := ?_) htk rfl (Or.inl ⟨by rfl, ?_⟩) ?_
  rotate_left 1
  ·(intro w' hSw; (try dsimp only at hSw); go_simp; try with_reducible rfl)
  clear htk
  intro htk
  simp only [Nat.reduceAdd] at htk
  simp only [Act.put, qA, qB, qC, qD, qE, qF]
 clear htk
 refine n_step 3 rfl (by kernel_rfl) ?_
 go_wp2_with fail
 refine (HU.out _).mono ?_
 rintro en w2 ⟨rfl, hc2⟩
 have hc12 : Chg NoB w1 w2 := hc2.ofDrew
 have k0 := (hc12.cell (p := ⟨w.heap.size, 0, none⟩) hlt1 nbE).trans c0
 have k2 := (hc12.cell (p := ⟨w.heap.size, 2, none⟩) hlt1 nbE).trans c2
 go_wp2_with fail
 refine ⟨fun _ => ⟨k0, k2⟩, fun hSk => ?_⟩
 replace hSk := hSk (by rfl)
 refine n_step 8 rfl (by kernel_rfl) ?_
 go_wp2_with fail
 refine (HU.out _).mono ?_
 rintro en w3 ⟨rfl, hc3⟩
 have hc13 := hc12.tr hc3
 have k0' := (hc13.cell (p := ⟨w.heap.size, 0, none⟩) hlt1 nbE).trans c0
 have k2' := (hc13.cell (p := ⟨w.heap.size, 2, none⟩) hlt1 nbE).trans c2
 go_wp2_with fail
 refine ⟨fun _ => ⟨k0', k2'⟩, fun hSk => ?_⟩
 replace hSk := hSk (by rfl)
 refine n_step 9 rfl (by kernel_rfl) ?_
 go_wp2_with fail
 refine ⟨fun _ => ⟨k0', k2'⟩, fun hSk => ?_⟩
 replace hSk := hSk (by rfl)
 refine n_step 10 rfl (by kernel_rfl) ?_
 go_wp2_with fail
 refine ⟨fun _ => ⟨k0', k2'⟩, fun hSk => ?_⟩
 replace hSk := hSk (by rfl)
 refine n_done (by kernel_rfl) ?_
 have c1' := (hc13.cell (p := ⟨w.heap.size, 1, none⟩) hlt1 nbE).trans c1
 have hs' := ((hc1.tr hc13).cell hsl nbE).trans hs
 clear hSk hSh k0 k2 c0 c1 c2
 go_wp2_with fail
 refine wp_loop_rounds 1 ?_
 rw [rounds_succ]
 go_wp2_with fail
 refine wp_loop_rounds 2 ?_
 rw [rounds_succ]
 go_wp2_with fail
 refine (Tryz.strings_Join_none none 0 ⟨#[32]⟩ w3).mono ?_
 rintro en w4 ⟨rfl, rfl⟩
 go_wp2_with fail
 refine (HT.out w4).mono ?_
 rintro en w5 ⟨rfl, hc5⟩
 have hc05 := (hc1.tr hc13).tr hc5
 have c1'' := (hc5.cell (p := ⟨w.heap.size, 1, none⟩) (lt_cell c1') nbE).trans c1'
 go_wp2_with fail
 rw [rounds_succ]
 go_wp2_with fail
 obtain ⟨M, hM⟩ : ∃ M : ByteArray, (⟨(Lib.uvarint 0).toArray⟩ : ByteArray) ++ ⟨(Lib.uvarint 0).toArray⟩ ++ ⟨(longL []).toArray⟩ = M := ⟨_, rfl⟩
 have hM2 : M = ⟨man0.toArray⟩ := by rw [← hM, bcat, bcat]; rfl
 subst hM2
 rw [hM]
 clear hM
 have hml := man0_le
 have hcl := crcF_lt man0
 have hW : leL 4 (crcF man0) ++ man0 = manF := rfl
 obtain ⟨m0, hm0⟩ : ∃ z, z = man0 := ⟨_, rfl⟩
 rw [← hm0] at hml hcl hW ⊢
 obtain ⟨F, hF⟩ : ∃ z, z = manF := ⟨_, rfl⟩
 rw [← hF] at hW ⊢
 have HW := Lib.hid (show (⟨(leL 4 (crcF m0)).toArray⟩ : ByteArray) ++ ⟨m0.toArray⟩ = ⟨F.toArray⟩ from by rw [bcat, hW])
 have Hsum := Lib.hid (fun w => sumL_any m0 w (by omega))
 have hf := fun w => fixed_any 4 (crcF m0) w (by decide) (by decide) hcl
 rw [show ((4 : Nat) : Int) = 4 from rfl] at hf
 have Hf := Lib.hid hf
 have hle : (leL 4 (crcF m0)).length ≤ 4 := by rw [leL_length]; exact Nat.le_refl _
 have HF := Lib.hid hF
 clear hf hW hF hm0
 refine (Hsum.out w5).mono ?_
 rintro en w6 ⟨rfl, hc6⟩
 go_wp2_with fail
 refine (Hf.out w6).mono ?_
 rintro en w7 ⟨rfl, hc7⟩
 go_wp2_with fail
 rw [HW.out]
 go_ret
 exact ⟨by rw [← HF.out]; rfl, (hc05.tr hc6).tr hc7⟩
theorem needed_new (sb c : Nat) (w : World) (hs : w.cell? ⟨sb, 0, none⟩ = some (.slice none 0 0)) :
  Calls Tryz.prog 17 #[.agg #[.slice none 0 0, .slice (some ⟨sb, 0, none⟩) 1 c, .int .i64 0]] w (fun en w' => (∃ a c', en = .returned (.slice a 0 c')) ∧ Chg NoB w w') := by
 have hsl := lt_cell hs
 go_enter Tryz.func17, Tryz.ntmps17
 go_upto_region 2 with fail
 generalize hw1 : World.alloc _ _ = w1
 have hc1 : Chg NoB w w1 := by
  rw [← hw1]
  repeat (first | exact Chg.refl _ _ | apply Chg.alloc | apply Chg.drew)
 have hb1 : Blk w1 (w.heap.size) ([.slice none 0 0, .slice (some ⟨sb, 0, none⟩) 1 c, .int .i64 0]) 51 := by
  rw [← hw1]
  repeat (first | exact Blk.newAt (by first | rfl | (simp; done) | (simp; omega)) | apply Blk.alloc | apply Blk.drew)
 clear hw1
 have c1 : w1.cell? ⟨w.heap.size, 1, none⟩ = some (.slice (some ⟨sb, 0, none⟩) 1 c) := hb1.cell 1
 have hs1 := (hc1.cell hsl nbE).trans hs
 go_wp2_with fail
 refine wp_loop_rounds 2 ?_
 rw [rounds_succ]
 go_wp2_with (at_builtin; refine stop_here ?_)
 refine Stop.go ?_
 refine wpList_own rfl (.tmp 13) (.tmp 14) 37 rfl w1.heap.size 9 Tryz.underlying37 infoStr rfl (by decide) rfl (Own.nil w1 w1.heap.size 9 1 (fun _ => False)) rfl [] [] rfl rfl (fun ad h => by cases h) (fun _ => ⟨rfl, rfl⟩) (by simp [maxLen]) (by decide) (Nat.le_refl _) ?_
 intro ao cap w2 ho2 hc2 _
 have hc02 : Chg NoB w w2 := hc1.trans hc2 (fun b e => by cases e)
 have hc12 : Chg NoB w1 w2 := hc2.mono (fun b _ e => by cases e)
 clear ho2
 go_wp2_with fail
 rw [rounds_succ]
 go_wp2_with fail
 refine (Tryz.slices_Sort_string_none ao cap w2).mono ?_
 rintro en w3 ⟨rfl, rfl⟩
 go_wp2_with fail
 refine (Tryz.slices_Compact_string_empty ao cap w3).mono ?_
 rintro en w4 ⟨rfl, rfl⟩
 go_wp2_with fail
 go_ret
 exact ⟨⟨ao, cap, rfl⟩, hc02⟩
def blankS (ws : List (List UInt8)) : List UInt8 := ws.flatMap fun w => 32 :: w
theorem blankS_app (a b : List (List UInt8)) : blankS (a ++ b) = blankS a ++ blankS b := List.flatMap_append ..
theorem blankS_cons (w : List UInt8) (ws : List (List UInt8)) : blankS (w :: ws) = 32 :: (w ++ blankS ws) := by simp [blankS]
theorem blankS_join : ∀ ws : List (List UInt8), ws ≠ [] → blankS ws = 32 :: joinL ws
 | [], h => absurd rfl h
 | [w], _ => by simp [blankS, joinL]
 | w :: x :: xs, _ => by
  rw [blankS_cons, blankS_join (x :: xs) (by simp)]
  rfl
theorem ind_one : ∀ c ∈ ([32] : List UInt8), c = 32 := fun c hc => by simpa using hc
mutual
theorem parse_lineN : ∀ (n : Nd) (deep : Int) (more : List UInt8), n.All Right → deep + n.high ≤ 7 → parseL deep (skipW (blankS (idWordsN n) ++ more)) = (parseL deep (skipW more)).cons n
 | .mk i nm r k s, deep, more, hA, hd => by
  obtain ⟨⟨b1, b2, b3, b4, b5, b6, b7, b8, b9⟩, hs⟩ := hA
  simp only [Nd.rep, Nd.kind, Nd.sub, Nd.name, Nd.id] at b1 b2 b3 b4 b5 b6 b7 b8 b9
  by_cases hk : k = 0
  ·subst hk
   have hne := b6 rfl
   have hhi : 2 ≤ (Nd.mk i nm r 0 s).high := by
    cases s with
    | nil => exact absurd rfl hne
    | cons x xs =>
     simp only [Nd.high, Nd.highs]
     have : 1 ≤ x.high := by cases x; simp only [Nd.high]; omega
     omega
   have e : blankS (idWordsN (.mk i nm r 0 s)) ++ more = headS i nm r 0 [32] ++ (32 :: 123 :: (blankS (idWordsNs s) ++ (32 :: 125 :: more))) := by
    simp only [idWordsN, if_true, headS, List.append_assoc, List.cons_append, List.nil_append, blankS_cons, blankS_app]
    simp [blankS]
   obtain ⟨rest, h0, h1, h2, h3, h4, h5, h6, h7⟩ := head_text (deep := deep) (Z := 32 :: 123 :: (blankS (idWordsNs s) ++ (32 :: 125 :: more))) ind_one b1 b2 b3 b4 b7 b8 b9 (soft32 _)
   rw [skip_ws (.inl rfl), skip_at (by decide)] at h7
   have hh : headN deep rest = .group i nm r (skipW (blankS (idWordsNs s) ++ (32 :: 125 :: more))) := by
    unfold headN
    rw [if_neg h1, h2, if_neg (by omega), h3, if_neg (by omega), h4, h5, if_neg (by simp), h6]
    simp only [if_true]
    rw [h7, tok123, if_neg (by simp), if_neg (by omega), back_name, nxt123]
   have hp : parseL (deep + 1) (skipW (blankS (idWordsNs s) ++ (32 :: 125 :: more))) = .ok s (125 :: more) := by
    rw [parse_lineL s (deep + 1) _ hs (by simp only [Nd.high] at hd; omega), skip_ws (.inl rfl), skip_at (by decide), parse_stop (show headN (deep + 1) (125 :: more) = .stop from if_pos (.inl (tok125 _)))]
    simp [PR.app]
   rw [e, h0, (parse_group hh hp (tok125 _)).1, nxt125]
  ·have hsub := b5 hk
   subst hsub
   have e : blankS (idWordsN (.mk i nm r k [])) ++ more = headS i nm r k [32] ++ (59 :: more) := by
    simp only [idWordsN, if_neg hk, headS, List.append_assoc, List.cons_append, List.nil_append, blankS_cons]
    simp [blankS]
   obtain ⟨rest, h0, h1, h2, h3, h4, h5, h6, h7⟩ := head_text (deep := deep) (Z := 59 :: more) ind_one b1 b2 b3 b4 b7 b8 b9 (soft59 _)
   rw [skip_at (by decide)] at h7
   have hh : headN deep rest = .leaf (.mk i nm r k []) (skipW more) := by
    unfold headN
    rw [if_neg h1, h2, if_neg (by omega), h3, if_neg (by omega), h4, h5, if_neg (by simp), h6]
    simp only [if_neg hk]
    rw [h7, tok59, if_neg (by simp), back_name, nxt59]
   rw [e, h0, parse_leaf hh]
theorem parse_lineL : ∀ (l : List Nd) (deep : Int) (more : List UInt8), Nd.Alls Right l → deep + Nd.highs l ≤ 7 → parseL deep (skipW (blankS (idWordsNs l) ++ more)) = (parseL deep (skipW more)).app l
 | [], deep, more, hA, hd => by
  simp only [idWordsNs, blankS, List.flatMap_nil, List.nil_append]
  cases parseL deep (skipW more) <;> simp [PR.app]
 | n :: ns, deep, more, hA, hd => by
  simp only [Nd.highs] at hd
  simp only [idWordsNs, blankS_app, List.append_assoc]
  rw [parse_lineN n deep _ hA.1 (by omega), parse_lineL ns deep more hA.2 (by omega)]
  cases parseL deep (skipW more) <;> simp [PR.app, PR.cons]
end
mutual
theorem line_len : ∀ n : Nd, n.All Right → (blankS (idWordsN n)).length ≤ 60 * n.weigh ∧ (idWordsN n) ≠ []
 | .mk i nm r k s, hA => by
  obtain ⟨⟨b1, b2, b3, b4, b5, b6, b7, b8, b9⟩, hs⟩ := hA
  simp only [Nd.rep, Nd.kind, Nd.sub, Nd.name, Nd.id] at b1 b2 b3 b4 b5 b6 b7 b8 b9
  have h1 := lines_len s hs
  have h2 := (num_all b8 b9).2.2
  have h3 : nm.data.toList.length ≤ 12 := by
   unfold isNameB at b7
   simp only [Bool.and_eq_true, decide_eq_true_eq] at b7
   rw [length_data]; exact b7.1.2
  have h4 : (repS r).length ≤ 8 := by
   obtain rfl | rfl | rfl : r = 1 ∨ r = 2 ∨ r = 3 := by omega
   all_goals decide
  have h5 : (kindS k).length ≤ 6 := by
   obtain rfl | rfl | rfl | rfl | rfl | rfl : k = 0 ∨ k = 1 ∨ k = 2 ∨ k = 3 ∨ k = 4 ∨ k = 5 := by omega
   all_goals decide
  simp only [idWordsN, Nd.weigh]
  split
  ·refine ⟨?_, by simp⟩
   simp only [List.cons_append, List.nil_append, blankS_cons, blankS_app, List.length_cons, List.length_append]
   simp only [blankS, List.flatMap_cons, List.flatMap_nil, List.length_cons, List.length_nil, List.length_append] at h1 ⊢
   omega
  ·refine ⟨?_, by simp⟩
   simp only [blankS, List.flatMap_cons, List.flatMap_nil, List.length_cons, List.length_nil, List.length_append]
   omega
theorem lines_len : ∀ l : List Nd, Nd.Alls Right l → (blankS (idWordsNs l)).length ≤ 60 * Nd.weighs l
 | [], _ => by simp [idWordsNs, blankS]
 | n :: ns, hA => by
  have h1 := line_len n hA.1
  have h2 := lines_len ns hA.2
  simp only [idWordsNs, blankS_app, List.length_append, Nd.weighs]
  omega
end
theorem read_line {t : Nd} (hf : Fit [t]) : readF (mkB (joinL (idWordsN t))) = .ok (.mk 0 rootName 1 0 [t]) := by
 have hv := valid_of hf
 have hS := schema_of_valid hv
 have hA : t.All Right := hS.right.1
 have hh := hf.high
 have hw := hf.small
 have hl := line_len t hA
 have hp := parse_lineN t 2 [] hA (by simp only [Nd.highs] at hh; omega)
 rw [List.append_nil, blankS_join _ hl.2, skip_ws (.inl rfl), show skipW [] = [] from rfl, parse_stop (show headN 2 [] = .stop from if_pos (.inr ⟨rfl, by decide⟩))] at hp
 have hlen : (joinL (idWordsN t)).length ≤ 8000 := by
  have h1 := hl.1
  rw [blankS_join _ hl.2, List.length_cons] at h1
  simp only [Nd.weighs] at hw
  omega
 unfold readF
 rw [if_neg (show ¬ 8000 < (mkB (joinL (idWordsN t))).size by rw [mkB_sz]; omega), mkB_data, hp]
 simp only [PR.cons, show tok [] = [] from rfl, if_true]
 rw [hv]
def numFold (st : List ByteArray × Int × Nat) (ws : List ByteArray) : List ByteArray × Int × Nat := ws.foldl (fun s x => (s.1 ++ (numStep s.2.2 s.2.1 x).1, (numStep s.2.2 s.2.1 x).2, s.2.2 + 1)) st
theorem numFold_cons (out : List ByteArray) (nx : Int) (i : Nat) (x : ByteArray) (ws : List ByteArray) : numFold (out, nx, i) (x :: ws) = numFold (out ++ (numStep i nx x).1, (numStep i nx x).2, i + 1) ws := rfl
theorem numFold_app (st : List ByteArray × Int × Nat) (a b : List ByteArray) : numFold st (a ++ b) = numFold (numFold st a) b := List.foldl_append ..
mutual
def renN (a : Int) : Nd → Nd
 | .mk _ n r k s => .mk a n r k (renL (a + 1) s)
def renL (a : Int) : List Nd → List Nd
 | [] => []
 | n :: ns => renN a n :: renL (a + n.weigh) ns
end
def Plainly (n : Nd) : Prop := 1 ≤ n.rep ∧ n.rep ≤ 3 ∧ 0 ≤ n.kind ∧ n.kind ≤ 5 ∧ (n.kind ≠ 0 → n.sub = []) ∧ (n.kind = 0 → n.sub ≠ []) ∧ isNameB n.name = true
theorem plainly_of {n : Nd} (h : Right n) : Plainly n := ⟨h.1, h.2.1, h.2.2.1, h.2.2.2.1, h.2.2.2.2.1, h.2.2.2.2.2.1, h.2.2.2.2.2.2.1⟩
theorem pieces_plain {i : Int} {nm : ByteArray} {r k : Int} {s : List Nd} (h : Plainly (.mk i nm r k s)) : ((repS r).all lower = true ∧ (repS r).isEmpty = false) ∧ ((kindS k).all lower = true ∧ (kindS k).isEmpty = false) ∧ (nm.data.toList.all lower = true ∧ nm.data.toList.isEmpty = false) := by
 obtain ⟨b1, b2, b3, b4, b5, b6, b7⟩ := h
 have hp := pieces_of (i := 1) (nm := nm) (r := r) (k := k) (s := s) ⟨b1, b2, b3, b4, b5, b6, b7, (by decide : (1 : Int) ≤ 1), (by decide : (1 : Int) ≤ 1000)⟩
 exact ⟨hp.rep, hp.kind, hp.name⟩
theorem semi_lower {w : List UInt8} (h : w.all lower = true) : semiB (mkB w) = false := semi_no fun b hb => lower_ne59 (List.all_eq_true.1 h b hb)
theorem ne_brace {w : List UInt8} (h : w.all lower = true) : mkB w ≠ ⟨#[123]⟩ := fun e => by
 have e2 : w = [123] := by
  have := congrArg (fun s : ByteArray => s.data.toList) e
  exact this
 rw [e2] at h
 exact absurd h (by decide)
theorem numStep_word {w : List UInt8} (h : w.all lower = true) (i : Nat) (nx : Int) : numStep i nx (mkB w) = ([mkB w], nx) := by
 unfold numStep
 rw [semi_lower h, if_neg (by simp), if_neg (fun e => ne_brace h e.1)]
theorem numStep_close (i : Nat) (nx : Int) : numStep i nx (mkB [125]) = ([mkB [125]], nx) := by
 unfold numStep
 rw [show semiB (mkB [125]) = false from semi_no (by simp), if_neg (by simp), if_neg (fun e => by
  have := congrArg (fun s : ByteArray => s.data.toList) e.1
  exact absurd (show ([125] : List UInt8) = [123] from this) (by decide))]
theorem hashW_mk (n : Int) : hashW n = mkB (35 :: Lib.itoa n) := by
 unfold hashW mkB
 apply ByteArray.ext
 apply Array.ext'
 simp
theorem numStep_open (i : Nat) (hi : 0 < i) (nx : Int) : numStep i nx (mkB [123]) = ([mkB (35 :: Lib.itoa nx), mkB [123]], nx + 1) := by
 unfold numStep
 rw [show semiB (mkB [123]) = false from semi_no (by simp), if_neg (by simp), if_pos ⟨rfl, hi⟩, hashW_mk]
theorem cut_semi (w : List UInt8) : cutS (mkB (w ++ [59])) = mkB w := by
 unfold cutS
 rw [semi_of.2 ⟨w, rfl⟩, if_pos rfl, mkB_sz]
 apply ByteArray.ext
 apply Array.ext'
 rw [ByteArray.data_extract, Array.toList_extract, List.extract_eq_take_drop]
 show ((w ++ [59]).drop 0).take ((w ++ [59]).length - 1 - 0) = w
 simp
theorem numStep_leaf (w : List UInt8) (i : Nat) (nx : Int) : numStep i nx (mkB (w ++ [59])) = ([mkB w, mkB (35 :: Lib.itoa nx ++ [59])], nx + 1) := by
 unfold numStep
 rw [semi_of.2 ⟨w, rfl⟩, if_pos rfl, cut_semi, hashW_mk]
 have e : mkB (35 :: Lib.itoa nx) ++ (⟨#[59]⟩ : ByteArray) = mkB (35 :: Lib.itoa nx ++ [59]) := by
  unfold mkB
  apply ByteArray.ext
  apply Array.ext'
  simp
 rw [e]
mutual
theorem num_words : ∀ (n : Nd) (out : List ByteArray) (nx : Int) (i : Nat), n.All Plainly → numFold (out, nx, i) ((wordsN n).map mkB) = (out ++ (idWordsN (renN nx n)).map mkB, nx + n.weigh, i + (wordsN n).length)
 | .mk i0 nm r k s, out, nx, i, hA => by
  obtain ⟨p1, p2, p3⟩ := pieces_plain hA.1
  simp only [wordsN, renN, idWordsN, Nd.weigh]
  by_cases hk : k = 0
  ·rw [if_pos hk, if_pos hk]
   simp only [List.cons_append, List.nil_append, List.map_cons, List.map_append, numFold_cons, numStep_word p1.1, numStep_word p2.1, numStep_word p3.1, numStep_open (i + 1 + 1 + 1) (by omega)]
   rw [numFold_app, num_wordsL s _ _ _ hA.2]
   simp only [List.map_nil, numFold_cons, numStep_close]
   simp only [numFold, List.foldl_nil, List.append_assoc, List.cons_append, List.nil_append, List.length_cons, List.length_append, List.length_nil]
   refine Prod.ext rfl (Prod.ext ?_ ?_)
   ·dsimp only; omega
   ·dsimp only; omega
  ·rw [if_neg hk, if_neg hk]
   obtain ⟨_, _, _, _, b5, _⟩ := hA.1
   have hs : s = [] := b5 hk
   subst hs
   simp only [List.map_cons, List.map_nil, numFold_cons, numStep_word p1.1, numStep_word p2.1, numStep_leaf]
   simp only [numFold, List.foldl_nil, List.append_assoc, List.cons_append, List.nil_append, List.length_cons, List.length_nil, Nd.weighs]
   refine Prod.ext rfl (Prod.ext ?_ ?_)
   ·dsimp only; omega
   ·rfl
theorem num_wordsL : ∀ (l : List Nd) (out : List ByteArray) (nx : Int) (i : Nat), Nd.Alls Plainly l → numFold (out, nx, i) ((wordsNs l).map mkB) = (out ++ (idWordsNs (renL nx l)).map mkB, nx + Nd.weighs l, i + (wordsNs l).length)
 | [], out, nx, i, _ => by
  simp [wordsNs, renL, idWordsNs, numFold, Nd.weighs]
 | n :: ns, out, nx, i, hA => by
  simp only [wordsNs, renL, idWordsNs, Nd.weighs, List.map_append, List.length_append]
  rw [numFold_app, num_words n out nx i hA.1, num_wordsL ns _ _ _ hA.2, List.append_assoc]
  refine Prod.ext rfl (Prod.ext ?_ ?_)
  ·dsimp only; omega
  ·dsimp only; omega
end
mutual
theorem words_plain : ∀ n : Nd, n.All Plainly → ∀ w ∈ wordsN n, ∀ b ∈ w, b ≠ 32
 | .mk i0 nm r k s, hA => by
  obtain ⟨p1, p2, p3⟩ := pieces_plain hA.1
  have low : ∀ {w : List UInt8}, w.all lower = true → ∀ b ∈ w, b ≠ 32 := fun h b hb => (lower_ne (List.all_eq_true.1 h b hb)).2.1
  intro w hw
  simp only [wordsN] at hw
  split at hw
  ·simp only [List.cons_append, List.nil_append, List.mem_cons, List.mem_append, List.not_mem_nil, or_false] at hw
   rcases hw with rfl | rfl | rfl | rfl | hw | rfl
   ·exact low p1.1
   ·exact low p2.1
   ·exact low p3.1
   ·simp
   ·exact words_plainL s hA.2 w hw
   ·simp
  ·simp only [List.mem_cons, List.not_mem_nil, or_false] at hw
   rcases hw with rfl | rfl | rfl
   ·exact low p1.1
   ·exact low p2.1
   ·intro b hb
    rcases List.mem_append.1 hb with hb | hb
    ·exact low p3.1 b hb
    ·rw [List.mem_singleton.1 hb]; decide
theorem words_plainL : ∀ l : List Nd, Nd.Alls Plainly l → ∀ w ∈ wordsNs l, ∀ b ∈ w, b ≠ 32
 | [], _ => fun w hw => by simp [wordsNs] at hw
 | n :: ns, hA => by
  intro w hw
  simp only [wordsNs, List.mem_append] at hw
  rcases hw with hw | hw
  ·exact words_plain n hA.1 w hw
  ·exact words_plainL ns hA.2 w hw
end
theorem wordsN_ne (n : Nd) : wordsN n ≠ [] := by
 cases n
 simp only [wordsN]
 split <;> simp
theorem words_of_line {t : Nd} {line : ByteArray} (hA : t.All Plainly) (h : mkB (joinL (wordsNs [t])) = line) : wordsB line = (wordsN t).map mkB := by
 have e : wordsNs [t] = wordsN t := by simp [wordsNs]
 rw [e] at h
 subst h
 unfold wordsB
 rw [mkB_data, spl_joinL _ (wordsN_ne t) (words_plain t hA)]
mutual
theorem ren_ids (a : Int) : ∀ n : Nd, ∀ x ∈ idsN (renN a n), a ≤ x ∧ x < a + n.weigh
 | .mk i nm r k s, x, hx => by
  simp only [renN, idsN, List.mem_cons] at hx
  simp only [Nd.weigh]
  rcases hx with rfl | hx
  ·omega
  ·have := ren_idsL (a + 1) s x hx; omega
theorem ren_idsL (a : Int) : ∀ l : List Nd, ∀ x ∈ idsL (renL a l), a ≤ x ∧ x < a + Nd.weighs l
 | [], x, hx => by simp [renL, idsL] at hx
 | n :: ns, x, hx => by
  simp only [renL, idsL, List.mem_append] at hx
  simp only [Nd.weighs]
  rcases hx with hx | hx
  ·have := ren_ids a n x hx; omega
  ·have := ren_idsL (a + n.weigh) ns x hx; omega
end
mutual
theorem ren_nodup (a : Int) : ∀ n : Nd, (idsN (renN a n)).Nodup
 | .mk i nm r k s => by
  simp only [renN, idsN, List.nodup_cons]
  exact ⟨fun h => by have := ren_idsL (a + 1) s _ h; omega, ren_nodupL (a + 1) s⟩
theorem ren_nodupL (a : Int) : ∀ l : List Nd, (idsL (renL a l)).Nodup
 | [] => by simp [renL, idsL]
 | n :: ns => by
  simp only [renL, idsL]
  rw [List.nodup_append]
  exact ⟨ren_nodup a n, ren_nodupL _ ns, fun x hx y hy e => by have := ren_ids a n x hx; have := ren_idsL _ ns y hy; omega⟩
end
mutual
theorem ren_weigh (a : Int) : ∀ n : Nd, (renN a n).weigh = n.weigh
 | .mk i nm r k s => by simp only [renN, Nd.weigh, ren_weighs]
theorem ren_weighs (a : Int) : ∀ l : List Nd, Nd.weighs (renL a l) = Nd.weighs l
 | [] => rfl
 | n :: ns => by simp only [renL, Nd.weighs, ren_weigh a n, ren_weighs _ ns]
end
mutual
theorem ren_high (a : Int) : ∀ n : Nd, (renN a n).high = n.high
 | .mk i nm r k s => by simp only [renN, Nd.high, ren_highs]
theorem ren_highs (a : Int) : ∀ l : List Nd, Nd.highs (renL a l) = Nd.highs l
 | [] => rfl
 | n :: ns => by simp only [renL, Nd.highs, ren_high a n, ren_highs _ ns]
end
theorem ren_names : ∀ (a : Int) (l : List Nd), (renL a l).map Nd.name = l.map Nd.name
 | _, [] => rfl
 | a, .mk i nm r k s :: ns => by
  simp only [renL, renN, List.map_cons, Nd.name]
  rw [ren_names]
theorem namesB_of {l m : List Nd} (h : l.map Nd.name = m.map Nd.name) : namesB l = namesB m := by
 unfold namesB
 rw [h]
 congr 1
 have h1 : ∀ x : List Nd, (x.all fun n => isNameB n.name) = (x.map Nd.name).all isNameB := fun x => by rw [List.all_map]; rfl
 rw [h1, h1, h]
def OfForm (P : Nd → Prop) : Prop := ∀ i i' n r k (s s' : List Nd), s.map Nd.name = s'.map Nd.name → P (.mk i n r k s) → P (.mk i' n r k s')
mutual
theorem ren_all {P : Nd → Prop} (hP : OfForm P) : ∀ (a : Int) (n : Nd), n.All P → (renN a n).All P
 | a, .mk i nm r k s, h => by
  rw [renN]
  exact ⟨hP _ _ _ _ _ _ _ (ren_names _ s).symm h.1, ren_alls hP _ s h.2⟩
theorem ren_alls {P : Nd → Prop} (hP : OfForm P) : ∀ (a : Int) (l : List Nd), Nd.Alls P l → Nd.Alls P (renL a l)
 | a, [], _ => trivial
 | a, n :: ns, h => by
  rw [renL]
  exact ⟨ren_all hP a n h.1, ren_alls hP _ ns h.2⟩
end
theorem len_names {s s' : List Nd} (h : s.map Nd.name = s'.map Nd.name) : s.isEmpty = s'.isEmpty := by
 cases s <;> cases s' <;> simp at h <;> rfl
theorem form_v3 : OfForm (fun n => (v3F n ()).1 = true) := fun i i' n r k s s' h hv => by
 simp only [v3F, Nd.rep, Nd.kind, Nd.sub] at hv ⊢
 rw [← len_names h]
 exact hv
theorem form_names : OfForm (fun n => namesB n.sub = true) := fun i i' n r k s s' h hv => by
 simp only [Nd.sub] at hv ⊢
 rw [← namesB_of h]
 exact hv
theorem fit_ren {l : List Nd} (h : Fit l) (a : Int) (ha : 1 ≤ a ∧ a + Nd.weighs l ≤ 1001) : Fit (renL a l) where
 ne := by
  have := h.ne
  cases l with
  | nil => exact absurd rfl this
  | cons x xs => simp [renL]
 high := by rw [ren_highs]; exact h.high
 small := by rw [ren_weighs]; exact h.small
 nodes := ren_alls form_v3 a l h.nodes
 names := by rw [namesB_of (ren_names a l)]; exact h.names
 deep := ren_alls form_names a l h.deep
 nodup := ren_nodupL a l
 range := fun x hx => by have := ren_idsL a l x hx; omega
mutual
theorem give_ren (d : Int) : ∀ (a : Int) (n : Nd), giveN d (renN a n) = renN (a + d) n
 | a, .mk i nm r k s => by
  simp only [renN, giveN]
  rw [give_renL d (a + 1) s]
  congr 2
  omega
theorem give_renL (d : Int) : ∀ (a : Int) (l : List Nd), giveL d (renL a l) = renL (a + d) l
 | a, [] => rfl
 | a, n :: ns => by
  simp only [renL, giveL]
  rw [give_ren d a n, give_renL d _ ns]
  congr 2
  omega
end
theorem fold_one (nx : Int) (ws : List ByteArray) : numGo nx ws = numFold ([], nx, 0) ws := rfl
theorem nodeF_some {line : ByteArray} {nx nx' : Int} {t : Nd} (h : nodeF line nx = some (t, nx')) :
  ∃ t0, Fit [renN 1 t0] ∧ t0.All Plainly ∧ wordsB line = (wordsN t0).map mkB ∧ t = renN nx t0 ∧ nx' = nx + t0.weigh := by
 unfold nodeF at h
 split at h
 ·rename_i t0 ht
  split at h
  ·rename_i hline
   obtain ⟨rfl, rfl⟩ : giveN (nx - 1) t0 = t ∧ (numGo nx (wordsB line)).2.1 = nx' := by simpa using h
   unfold oneOf at ht
   split at ht
   ·rename_i i1 nm1 r1 k1 t1 hR
    cases ht
    obtain ⟨hA, hw, hf⟩ := readF_right hR
    have hP : t0.All Plainly := Nd.All.imp (fun n hn => plainly_of hn) t0 hA
    have hwl := words_of_line hP hline
    have hf1 : Fit [renN 1 t0] := by
     have h9 := fit_ren hf 1 (by simp only [Nd.weighs]; omega)
     simpa [renL] using h9
    have e1 : (numGo 1 (wordsB line)).1 = (idWordsN (renN 1 t0)).map mkB := by rw [hwl, fold_one, num_words t0 [] 1 0 hP]; rfl
    rw [e1, joinW_mk, read_line hf1] at hR
    have e2 : renN 1 t0 = t0 := by
     have := RR.ok.inj hR
     simp only [Nd.mk.injEq, List.cons.injEq, and_true] at this
     exact this.2.2.2.2
    refine ⟨t0, hf1, hP, hwl, ?_, ?_⟩
    ·have := give_ren (nx - 1) 1 t0
     rw [e2] at this
     rw [this]
     congr 1
     omega
    ·rw [hwl, fold_one, num_words t0 [] nx 0 hP]
   ·cases ht
  ·cases h
 ·cases h
inductive RepR where
 | ok (l : List Nd) (nx : Int) | bad (i : Nat) (e : EdEr) | many
def replayGo : Nat → List ByteArray → List Nd → Int → RepR
 | _, [], l, nx => .ok l nx
 | i, e :: es, l, nx => match editW (wordsB e) l nx with
  | .bad x => .bad i x
  | .ok l' nx' => if l'.isEmpty = true then replayGo (i + 1) es l' nx' else match validF (rootNd l') with
   | none => replayGo (i + 1) es l' nx'
   | some x => .bad i (.er x)
def replayF (es : List ByteArray) : RepR := if 60 < es.length then .many else replayGo 0 es [] 1
def EStep (e : ByteArray) (l : List Nd) (nx : Int) (l' : List Nd) (nx' : Int) : Prop := editW (wordsB e) l nx = .ok l' nx' ∧ (l' = [] ∨ Fit l')
theorem fit_iff_valid {l : List Nd} : validF (rootNd l) = none ↔ Fit l := ⟨fun h => fit_of h, fun h => valid_of h⟩
theorem replay_step {i : Nat} {e : ByteArray} {es : List ByteArray} {l l' : List Nd} {nx nx' : Int} (h : EStep e l nx l' nx') : replayGo i (e :: es) l nx = replayGo (i + 1) es l' nx' := by
 rw [replayGo, h.1]
 dsimp only
 rcases h.2 with rfl | hf
 ·rfl
 ·rw [fit_iff_valid.2 hf]
  split <;> rfl
theorem replay_cons {i : Nat} {e : ByteArray} {es : List ByteArray} {l l2 : List Nd} {nx n2 : Int} (h : replayGo i (e :: es) l nx = .ok l2 n2) : ∃ l' nx', EStep e l nx l' nx' ∧ replayGo (i + 1) es l' nx' = .ok l2 n2 := by
 rw [replayGo] at h
 split at h
 ·cases h
 ·rename_i l' nx' he
  split at h
  ·rename_i hl
   exact ⟨l', nx', ⟨he, .inl (List.isEmpty_iff.1 hl)⟩, h⟩
  ·split at h
   ·rename_i hv
    exact ⟨l', nx', ⟨he, .inr (fit_iff_valid.1 hv)⟩, h⟩
   ·cases h
theorem editW_all {P : Nd → Prop} (hP : Flatly P) (hf : ∀ i n r k s n' k' r', P (.mk i n r k s) → P (.mk i n' r' k' s)) {ws : List ByteArray} {l l' : List Nd} {nx nx' : Int} (hs : Nd.Alls P l)
  (ht : ∀ line t, nodeF line nx = some (t, nx') → t.All P) (h : editW ws l nx = .ok l' nx') : Nd.Alls P l' := by
 match ws, h with
 | [], h => cases h
 | [_], h => cases h
 | w0 :: w1 :: rest, h =>
  simp only [editW] at h
  split at h
  ·unfold addF at h
   split at h
   ·cases h
   ·split at h
    ·cases h
    ·rename_i t nx2 hnd
     have f1 : nx2 = nx' → t.All P := fun e => ht _ _ (e ▸ hnd)
     split at h
     ·cases h
      exact alls_append _ _ hs ⟨f1 rfl, trivial⟩
     ·split at h
      ·cases h
      ·split at h
       ·cases h
        exact all_grpT hP (fun s h => all_setId (all_addSub hP (f1 rfl)) h) hs
       ·cases h
  ·split at h
   ·cases h
   ·split at h
    ·cases h
    ·split at h
     ·cases h
     ·rename_i id hid
      have key : ∀ (w2 : ByteArray) (pl : Int), opF w0 w2 id pl l nx = .ok l' nx' → Nd.Alls P l' := by
       intro w2 pl h
       unfold opF at h
       split at h
       ·cases h
       ·split at h
        ·cases h
         exact all_sub (fun _ hn => (List.mem_filter.1 hn).1) (all_dropL hP l hs)
        ·split at h
         ·split at h
          ·cases h
           refine all_grpT hP (fun s h => all_setId (fun n hn => ?_) h) hs
           cases n
           exact ⟨hf _ _ _ _ _ _ _ _ hn.1, hn.2⟩
          ·cases h
         ·split at h
          ·split at h
           ·cases h
           ·split at h
            ·cases h
            ·cases h
             exact all_grpT hP (fun s h => all_sub movTo_mem h) hs
          ·split at h
           ·split at h
            ·cases h
             refine all_grpT hP (fun s h => all_setId (fun n hn => ?_) h) hs
             cases n
             exact ⟨hf _ _ _ _ _ _ _ _ hn.1, hn.2⟩
            ·cases h
           ·split at h
            ·cases h
             refine all_grpT hP (fun s h => all_setId (fun n hn => ?_) h) hs
             cases n
             exact ⟨hf _ _ _ _ _ _ _ _ hn.1, hn.2⟩
            ·cases h
      split at h
      ·split at h
       ·cases h
       ·split at h
        ·cases h
        ·exact key _ _ h
      ·exact key _ _ h
mutual
theorem ids_all {P : Int → Prop} : ∀ n : Nd, n.All (fun n => P n.id) ↔ ∀ x ∈ idsN n, P x
 | .mk i nm r k s => by
  show P i ∧ Nd.Alls (fun n => P n.id) s ↔ _
  rw [ids_alls s]
  simp [idsN]
theorem ids_alls {P : Int → Prop} : ∀ l : List Nd, Nd.Alls (fun n => P n.id) l ↔ ∀ x ∈ idsL l, P x
 | [] => by simp [Nd.Alls, idsL]
 | n :: ns => by
  show n.All (fun n => P n.id) ∧ Nd.Alls (fun n => P n.id) ns ↔ _
  rw [ids_all n, ids_alls ns]
  simp only [idsL, List.mem_append]
  exact ⟨fun h x hx => hx.elim (h.1 x) (h.2 x), fun h => ⟨fun x hx => h x (.inl hx), fun x hx => h x (.inr hx)⟩⟩
end
theorem nx_mono {line : ByteArray} {l l' : List Nd} {nx nx' : Int} (h : editW (wordsB line) l nx = .ok l' nx') : nx' = nx ∨ ∃ ln t0, (ln : ByteArray).size ≤ line.size ∧ Fit [renN 1 t0] ∧ t0.All Plainly ∧ wordsB ln = (wordsN t0).map mkB ∧ nodeF ln nx = some (renN nx t0, nx') ∧ nx' = nx + t0.weigh := by
 generalize hwb : wordsB line = ws at h
 match ws, h with
 | [], h => cases h
 | [_], h => cases h
 | w0 :: w1 :: rest, h =>
  simp only [editW] at h
  split at h
  ·rename_i hadd
   obtain ⟨x, r, rfl⟩ : ∃ x r, rest = x :: r := by
    cases rest with
    | nil => exact absurd rfl hadd.2
    | cons x r => exact ⟨x, r, rfl⟩
   have hjr := join_rest hwb
   have hsz : (mkB (joinW (x :: r))).size ≤ line.size := by rw [mkB_sz]; exact hjr
   unfold addF at h
   split at h
   ·cases h
   ·split at h
    ·cases h
    ·rename_i t nx2 hnd
     have hnd2 := hnd
     obtain ⟨t0, f1, f2, f3, rfl, rfl⟩ := nodeF_some hnd
     have key : nx + (t0.weigh : Int) = nx' → nx' = nx ∨ ∃ ln t0, (ln : ByteArray).size ≤ line.size ∧ Fit [renN 1 t0] ∧ t0.All Plainly ∧ wordsB ln = (wordsN t0).map mkB ∧ nodeF ln nx = some (renN nx t0, nx') ∧ nx' = nx + t0.weigh := by
      rintro rfl
      exact .inr ⟨_, t0, hsz, f1, f2, f3, hnd2, rfl⟩
     split at h
     ·exact key (EdR.ok.inj h).2
     ·split at h
      ·cases h
      ·split at h
       ·exact key (EdR.ok.inj h).2
       ·cases h
  ·left
   split at h
   ·cases h
   ·split at h
    ·cases h
    ·split at h
     ·cases h
     ·have key : ∀ (w2 : ByteArray) (id pl : Int), opF w0 w2 id pl l nx = .ok l' nx' → nx' = nx := by
       intro w2 id pl h
       unfold opF at h
       repeat' split at h
       all_goals first | (cases h; done) | exact ((EdR.ok.inj h).2).symm
      split at h
      ·split at h
       ·cases h
       ·split at h
        ·cases h
        ·exact key _ _ _ h
      ·exact key _ _ _ h
mutual
theorem word_sum : ∀ n : Nd, n.All Plainly → 15 * n.weigh ≤ (blankS (wordsN n)).length
 | .mk i nm r k s, hA => by
  obtain ⟨⟨b1, b2, b3, b4, b5, b6, b7⟩, hs⟩ := hA
  simp only [Nd.rep, Nd.kind, Nd.sub, Nd.name] at b1 b2 b3 b4 b5 b6 b7
  have h1 := words_sum s hs
  have h3 : 1 ≤ nm.data.toList.length := by
   unfold isNameB at b7
   simp only [Bool.and_eq_true, decide_eq_true_eq] at b7
   have := b7.1.1
   rw [length_data]; omega
  have h4 : 8 ≤ (repS r).length := by
   obtain rfl | rfl | rfl : r = 1 ∨ r = 2 ∨ r = 3 := by omega
   all_goals decide
  have h5 : 3 ≤ (kindS k).length := by
   obtain rfl | rfl | rfl | rfl | rfl | rfl : k = 0 ∨ k = 1 ∨ k = 2 ∨ k = 3 ∨ k = 4 ∨ k = 5 := by omega
   all_goals decide
  simp only [wordsN, Nd.weigh]
  split
  ·simp only [List.cons_append, List.nil_append, blankS_cons, blankS_app, List.length_cons, List.length_append]
   omega
  ·rename_i hk
   have hs0 := b5 hk
   subst hs0
   simp only [blankS_cons, List.length_cons, List.length_append, Nd.weighs, List.length_nil]
   omega
theorem words_sum : ∀ l : List Nd, Nd.Alls Plainly l → 15 * Nd.weighs l ≤ (blankS (wordsNs l)).length
 | [], _ => by simp [Nd.weighs]
 | n :: ns, hA => by
  have h1 := word_sum n hA.1
  have h2 := words_sum ns hA.2
  simp only [wordsNs, blankS_app, List.length_append, Nd.weighs]
  omega
end
theorem words_size2 {line : ByteArray} {ws : List (List UInt8)} (hw : wordsB line = ws.map mkB) (hne : ws ≠ []) : (blankS ws).length = line.size + 1 := by
 have h1 := joinW_words line
 rw [hw, joinW_mk] at h1
 rw [blankS_join ws hne, List.length_cons, h1, length_data]
structure Sound (l : List Nd) (nx : Int) : Prop where
 fit : l = [] ∨ Fit l
 pos : 1 ≤ nx
 ids : ∀ x ∈ idsL l, x < nx
theorem sound0 : Sound [] 1 := ⟨.inl rfl, Int.le_refl _, fun x hx => by simp [idsL] at hx⟩
theorem Sound.step {e : ByteArray} {l l' : List Nd} {nx nx' : Int} (h : Sound l nx) (hs : EStep e l nx l' nx') : Sound l' nx' ∧ nx ≤ nx' ∧ 14 * (nx' - nx) ≤ e.size := by
 have hm := nx_mono hs.1
 have hle : nx ≤ nx' ∧ 14 * (nx' - nx) ≤ e.size := by
  rcases hm with rfl | ⟨ln, t0, h1, h2, h3, h4, h5, rfl⟩
  ·omega
  ·have h6 := word_sum t0 h3
   rw [words_size2 h4 (wordsN_ne t0)] at h6
   have h7 : 1 ≤ t0.weigh := by cases t0; simp only [Nd.weigh]; omega
   omega
 refine ⟨⟨hs.2, by have := h.pos; omega, ?_⟩, hle⟩
 rw [← ids_alls (P := fun x => x < nx')]
 refine editW_all (P := fun n => n.id < nx') (fun _ _ _ _ _ _ h => h) (fun _ _ _ _ _ _ _ _ h => h) ?_ ?_ hs.1
 ·rw [ids_alls (P := fun x => x < nx')]
  exact fun x hx => Int.lt_of_lt_of_le (h.ids x hx) hle.1
 ·intro line t hnd
  obtain ⟨t0, _, _, _, rfl, rfl⟩ := nodeF_some hnd
  rw [ids_all (P := fun x => x < nx + t0.weigh)]
  exact fun x hx => (ren_ids nx t0 x hx).2
theorem Sound.go : ∀ (es : List ByteArray) (i : Nat) (l l' : List Nd) (nx nx' : Int), Sound l nx → replayGo i es l nx = .ok l' nx' → Sound l' nx' ∧ nx ≤ nx' ∧ 14 * (nx' - nx) ≤ ((es.map ByteArray.size).sum : Nat)
 | [], i, l, l', nx, nx', h, hr => by
  cases hr
  exact ⟨h, Int.le_refl _, by simp⟩
 | e :: es, i, l, l', nx, nx', h, hr => by
  obtain ⟨l1, n1, h1, h3⟩ := replay_cons hr
  obtain ⟨a1, a2, a3⟩ := h.step h1
  obtain ⟨b1, b2, b3⟩ := Sound.go es (i + 1) l1 l' n1 nx' a1 h3
  refine ⟨b1, by omega, ?_⟩
  rw [List.map_cons, List.sum_cons]
  omega
open Go.RowKit Go.Maps Go.Sort Go.Shelf
theorem namesD_any (db mb n : Nat) (D : DataW Value) (w : World) (steps used : Int) (hd : Blk w db (dkCells steps used mb) 46) (hm : FM w mb n D) (h1 : Maps.size D ≤ 1) (hk : (strKeys D).length = Maps.size D) :
  Calls Tryz.prog 21 #[.pointer (some ⟨db, 0, none⟩)] w (fun en w' => (∃ a c, en = .returned (.slice a (Maps.size D) c)) ∧ Chg NoB w w') := by
 have c5 : w.cell? ⟨db, 5, none⟩ = some (.map (some mb)) := hd.cell 5
 have s1 : Maps.size D ≤ maxLen := by unfold maxLen; omega
 have s2 : Maps.size D * 16 ≤ 140737488355328 := by omega
 refine (callsIn_wide (n := 6)).1 ?_
 have hfK : Fence.wide.fn 38 := trivial
 have hfS : Fence.wide.fn 37 := trivial
 refine callsIn_of_wp Tryz.func21 rfl trivial ?_ rfl
 simp only [Tryz.ntmps21, List.size_toArray, List.length_cons, List.length_nil, Nat.reduceAdd, Nat.reduceSub, Array.replicate_succ, Array.replicate_zero, List.push_toArray, List.append_toArray, List.nil_append, List.cons_append]
 gi_wp2_with (first
  | (gi_at_call 38; refine (Tryz.iter_keys _ _).mono ?_; rintro e w' ⟨rfl, rfl⟩)
  | (gi_at_call 37; refine (Tryz.iter_sorted mb n D heldE w hm s1 s2).mono ?_; rintro e w' ⟨v, ss, rfl, hS, hrow, hnil, hb⟩))
 go_ret
 have hl : ss.length = Maps.size D := by rw [hS.length_eq, hk]
 refine ⟨?_, Chg.ofBelow (((Below.refl _ w).alloc (Nat.le_refl _) _).trans (hb.mono (by simp)))⟩
 rcases hrow.2 with ⟨rfl, h0⟩ | ⟨g, cap, cur, rfl, _⟩
 ·exact ⟨none, 0, by rw [← hl, h0]; rfl⟩
 ·exact ⟨_, _, by rw [← hl]; rfl⟩
end Go.Proofs.YtnmhkafpgohefaaGreatDoor
