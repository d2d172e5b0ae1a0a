/-
  Two data that read the same: shredcolref2.SameDatum and SameData answer true; nothing has changed.; evolve.plain: NODE, as P130 has it, of a schema's text.
-/
import Derived.Test.YtgcmfpcgmkkobaaGreatDoorTreeMore
import Derived.Test.YtgcmfpcgmkkobaaGreatDoorNumbered
set_option linter.unusedVariables false
set_option maxHeartbeats 20000000
set_option maxRecDepth 100000
set_option linter.unusedSimpArgs false
namespace Go.Proofs.YtgcmfpcgmkkobaaGreatDoor
open Go.RowKit
def SameDRel (w : World) (l : List Dm) (vi : Value) (wr : World) : Prop := ∃ j, j ≤ l.length ∧ vi = .int .i64 (j : Nat) ∧ Chg NoB w wr
theorem sameData_of (l : List Dm) (hcall : ∀ d ∈ l, ∀ (w : World) (S S' : Nat → Prop) (cs cs' : List Value), Reads w S d.dt cs → Reads w S' d.dt cs' → Calls Tryz.prog 21 #[.agg cs.toArray, .agg cs'.toArray] w (RetV (.bool true) w))
  (w : World) (S S' : Nat → Prop) (v v' : Value) (hr : Reads w S (.list 6 (Dm.dts l)) [v]) (hr' : Reads w S' (.list 6 (Dm.dts l)) [v']) : Calls Tryz.prog 38 #[v, v'] w (RetV (.bool true) w) := by
 obtain ⟨a, cap, rfl, hlen, hcap, hel⟩ := reads_data hr
 obtain ⟨a', cap', rfl, hlen', hcap', hel'⟩ := reads_data hr'
 have hl : l.length ≤ 9223372036854775807 := by unfold maxLen at hcap; omega
 have Hcall := Lib.hid hcall
 clear hcall
 go_enter Tryz.func38, Tryz.ntmps38
 go_wp2_with fail
 go_loopw [5] (fun vi wr => SameDRel w l vi wr) (fun vi _ => l.length - (intOf vi).toNat)
 case atStart => exact ⟨0, Nat.zero_le _, rfl, Chg.refl _ _⟩
 case round =>
  obtain ⟨j, hj, rfl, hc⟩ := hrel
  by_cases hlt : j < l.length
  ·have hltI : (j : Int) < (l.length : Int) := by omega
   obtain ⟨b, off, rfl, hSb, hbw, hE⟩ := hel (by omega)
   obtain ⟨b', off', rfl, hSb', hbw', hE'⟩ := hel' (by omega)
   obtain ⟨ecs, hl6, hcells, hre⟩ := hE.get j l[j].dt (by simp [hlt])
   obtain ⟨ecs', hl6', hcells', hre'⟩ := hE'.get j l[j].dt (by simp [hlt])
   have hcall := Hcall.out _ (List.getElem_mem hlt)
   have Hc1 := Lib.hid hcall
   clear hcall
   generalize l[j] = dj at hre hre' Hc1
   obtain ⟨b1, k1, n1, s1, l1, f1⟩ := dj
   obtain ⟨vl1, vf1, rfl, _, _⟩ := reads_dm.1 hre
   obtain ⟨vl1', vf1', rfl, _, _⟩ := reads_dm.1 hre'
   have ef : ∀ t c, [Value.bool b1, .int .i64 k1, .int .i64 n1, .string s1, vl1, vf1][t]? = some c → wr.cell? ⟨b, off + j * 6 + t, none⟩ = some c := fun t c ht => (hc.cell (p := ⟨b, off + j * 6 + t, none⟩) hbw (fun e => e)).trans (hcells t c ht)
   have e0 : wr.cell? ⟨b, off + j * 6, none⟩ = some (.bool b1) := ef 0 _ rfl
   have e1 : wr.cell? ⟨b, off + j * 6 + 1, none⟩ = some (.int .i64 k1) := ef 1 _ rfl
   have e2 : wr.cell? ⟨b, off + j * 6 + 2, none⟩ = some (.int .i64 n1) := ef 2 _ rfl
   have e3 : wr.cell? ⟨b, off + j * 6 + 3, none⟩ = some (.string s1) := ef 3 _ rfl
   have e4 : wr.cell? ⟨b, off + j * 6 + 4, none⟩ = some vl1 := ef 4 _ rfl
   have e5 : wr.cell? ⟨b, off + j * 6 + 5, none⟩ = some vf1 := ef 5 _ rfl
   clear ef
   have gf : ∀ t c, [Value.bool b1, .int .i64 k1, .int .i64 n1, .string s1, vl1', vf1'][t]? = some c → wr.cell? ⟨b', off' + j * 6 + t, none⟩ = some c := fun t c ht => (hc.cell (p := ⟨b', off' + j * 6 + t, none⟩) hbw' (fun e => e)).trans (hcells' t c ht)
   have g0 : wr.cell? ⟨b', off' + j * 6, none⟩ = some (.bool b1) := gf 0 _ rfl
   have g1 : wr.cell? ⟨b', off' + j * 6 + 1, none⟩ = some (.int .i64 k1) := gf 1 _ rfl
   have g2 : wr.cell? ⟨b', off' + j * 6 + 2, none⟩ = some (.int .i64 n1) := gf 2 _ rfl
   have g3 : wr.cell? ⟨b', off' + j * 6 + 3, none⟩ = some (.string s1) := gf 3 _ rfl
   have g4 : wr.cell? ⟨b', off' + j * 6 + 4, none⟩ = some vl1' := gf 4 _ rfl
   have g5 : wr.cell? ⟨b', off' + j * 6 + 5, none⟩ = some vf1' := gf 5 _ rfl
   clear gf
   go_wp2_with fail
   refine wp_region_n (fun w' => w'.cell? ⟨b, off + j * 6, none⟩ = some (.bool b1) ∧ w'.cell? ⟨b, off + j * 6 + 1, none⟩ = some (.int .i64 k1) ∧ w'.cell? ⟨b, off + j * 6 + 2, none⟩ = some (.int .i64 n1) ∧ w'.cell? ⟨b, off + j * 6 + 3, none⟩ = some (.string s1) ∧ w'.cell? ⟨b, off + j * 6 + 4, none⟩ = some (vl1) ∧ w'.cell? ⟨b, off + j * 6 + 5, none⟩ = some (vf1) ∧ w'.cell? ⟨b', off' + j * 6, none⟩ = some (.bool b1) ∧ w'.cell? ⟨b', off' + j * 6 + 1, none⟩ = some (.int .i64 k1) ∧ w'.cell? ⟨b', off' + j * 6 + 2, none⟩ = some (.int .i64 n1) ∧ w'.cell? ⟨b', off' + j * 6 + 3, none⟩ = some (.string s1) ∧ w'.cell? ⟨b', off' + j * 6 + 4, none⟩ = some (vl1') ∧ w'.cell? ⟨b', off' + j * 6 + 5, none⟩ = some (vf1')) [] (by kernel_rfl) ?_ (fun hSh => ?_)
   ·exact ⟨e0, e1, e2, e3, e4, e5, g0, g1, g2, g3, g4, g5⟩
   refine n_from 0 ?_
   intro htk
   iterate 8
    refine n_tB (v := ?_) htk rfl (Or.inl ⟨by rfl, ?_⟩) ?_
    rotate_left 1
    ·(intro w' hSw; (try dsimp only at hSw); go_simp; try with_reducible rfl)
    clear htk
    intro htk
    simp only [Nat.reduceAdd] at htk
    simp only [Act.put, qA, qB, qC, qD, qE, qF]
   clear htk
   refine n_step 8 rfl (by kernel_rfl) ?_
   go_wp2_with fail
   refine (Hc1.out wr.drew S S' _ _ (hre.chg0 hc.drew) (hre'.chg0 hc.drew)).mono ?_
   rintro e w1 ⟨rfl, hc1⟩
   replace hc1 := hc1.ofDrew
   go_wp2_with fail
   refine ⟨fun _ => ?_, fun hSk => ?_⟩
   ·(repeat' refine And.intro ?_ ?_) <;> exact (hc1.cell (by first | assumption | (simp; done) | (have := hc.size; simp; omega)) nbE).trans (by assumption)
   replace hSk := hSk (by rfl)
   refine n_tA (v := ?_) 9 rfl (Or.inl ⟨by rfl, ?_⟩) ?_
   rotate_left 1
   ·(intro w' hSw; (try dsimp only at hSw); go_simp; try with_reducible rfl)
   simp only [Act.put, qA, qB, qC, qD, qE, qF]
   refine n_done (by kernel_rfl) ?_
   go_wp2_with fail
   go_roundw
   case rel => exact ⟨j + 1, hlt, by go_num, hc.tr hc1⟩
   case measure => simp [intOf]; omega
  ·have hltI : ¬ ((j : Int) < (l.length : Int)) := by omega
   go_wp2_with fail
   go_ret
   exact ⟨rfl, hc⟩
theorem sameDatum_yes : ∀ (m : Nat) (d : Dm) (w : World) (S S' : Nat → Prop) (cs cs' : List Value), d.weigh ≤ m → Reads w S d.dt cs → Reads w S' d.dt cs' →
  Calls Tryz.prog 21 #[.agg cs.toArray, .agg cs'.toArray] w (RetV (.bool true) w) := by
 intro m
 induction m with
 | zero => intro d w S S' cs cs' hm; cases d; simp [Dm.weigh] at hm
 | succ m ih =>
  intro d w S S' cs cs' hm hr hr'
  obtain ⟨b, k, n, s, l, f⟩ := d
  obtain ⟨vl, vf, rfl, hsl, hsf⟩ := reads_dm.1 hr
  obtain ⟨vl', vf', rfl, hsl', hsf'⟩ := reads_dm.1 hr'
  simp only [Dm.weigh] at hm
  have dl := fun w => sameData_of l (fun d hd w S S' cs cs' hr hr' => ih d w S S' cs cs' (by have := Dm.weigh_mem hd; omega) hr hr') w
  have df := fun w => sameData_of f (fun d hd w S S' cs cs' hr hr' => ih d w S S' cs cs' (by have := Dm.weigh_mem hd; omega) hr hr') w
  have Dl := Lib.hid dl
  have Df := Lib.hid df
  clear dl df ih
  have h1 := hsl
  have h2 := hsf
  have h3 := hsl'
  have h4 := hsf'
  obtain ⟨al, cl, rfl, _, _, _⟩ := reads_data h1
  obtain ⟨af, cf, rfl, _, _, _⟩ := reads_data h2
  obtain ⟨al', cl', rfl, _, _, _⟩ := reads_data h3
  obtain ⟨af', cf', rfl, _, _, _⟩ := reads_data h4
  clear h1 h2 h3 h4
  go_enter Tryz.func21, Tryz.ntmps21
  go_wp2_with fail
  generalize hw1 : World.alloc _ _ = w1
  have hc1 : Chg NoB w w1 := by
   rw [← hw1]
   repeat (first | exact Chg.refl _ _ | apply Chg.alloc | apply Chg.drew)
  have hx1 : Blk w1 (w.heap.size) (dmCells b k n s (.slice al l.length cl) (.slice af f.length cf)) 43 := by
   rw [← hw1]
   repeat (first | exact Blk.newAt (by first | rfl | (simp; done) | (simp; omega)) | apply Blk.alloc | apply Blk.drew)
  have hy1 : Blk w1 (w.heap.size + 1) (dmCells b k n s (.slice al' l.length cl') (.slice af' f.length cf')) 43 := by
   rw [← hw1]
   repeat (first | exact Blk.newAt (by first | rfl | (simp; done) | (simp; omega)) | apply Blk.alloc | apply Blk.drew)
  clear hw1
  refine (Dl.out w1 S S' _ _ (hsl.chg0 hc1) (hsl'.chg0 hc1)).mono ?_
  rintro e w2 ⟨rfl, hc2⟩
  have hx2 := hx1.keep hc2 nbE
  have hy2 := hy1.keep hc2 nbE
  have x0 : w2.cell? ⟨w.heap.size, 0, none⟩ = some (.bool b) := hx2.cell 0
  have x1 : w2.cell? ⟨w.heap.size, 1, none⟩ = some (.int .i64 (k)) := hx2.cell 1
  have x2 : w2.cell? ⟨w.heap.size, 2, none⟩ = some (.int .i64 (n)) := hx2.cell 2
  have x3 : w2.cell? ⟨w.heap.size, 3, none⟩ = some (.string s) := hx2.cell 3
  have x4 : w2.cell? ⟨w.heap.size, 4, none⟩ = some (.slice al l.length cl) := hx2.cell 4
  have x5 : w2.cell? ⟨w.heap.size, 5, none⟩ = some (.slice af f.length cf) := hx2.cell 5
  have y0 : w2.cell? ⟨w.heap.size + 1, 0, none⟩ = some (.bool b) := hy2.cell 0
  have y1 : w2.cell? ⟨w.heap.size + 1, 1, none⟩ = some (.int .i64 (k)) := hy2.cell 1
  have y2 : w2.cell? ⟨w.heap.size + 1, 2, none⟩ = some (.int .i64 (n)) := hy2.cell 2
  have y3 : w2.cell? ⟨w.heap.size + 1, 3, none⟩ = some (.string s) := hy2.cell 3
  have y4 : w2.cell? ⟨w.heap.size + 1, 4, none⟩ = some (.slice al' l.length cl') := hy2.cell 4
  have y5 : w2.cell? ⟨w.heap.size + 1, 5, none⟩ = some (.slice af' f.length cf') := hy2.cell 5
  go_wp2_with fail
  refine (Df.out w2 S S' _ _ (hsf.chg0 (hc1.tr hc2)) (hsf'.chg0 (hc1.tr hc2))).mono ?_
  rintro e w3 ⟨rfl, hc3⟩
  go_wp2_with fail
  go_ret
  exact ⟨rfl, (hc1.tr hc2).tr hc3⟩
theorem strs_chunks (w : World) (S : Nat → Prop) : ∀ l : List ByteArray, ReadsC w S 1 (l.map strDt) (l.map Value.string)
 | [] => rfl
 | x :: xs => ⟨[.string x], xs.map Value.string, rfl, rfl, reads_str w S x, strs_chunks w S xs⟩
theorem strs_news {w : World} {S : Nat → Prop} : ∀ {l : List ByteArray} {xs : List Value}, ReadsC w S 1 (l.map strDt) xs → xs = l.map Value.string
 | [], xs, h => h
 | x :: r, xs, h => by
  obtain ⟨c, q, rfl, _, ⟨rfl, _⟩, h2⟩ := h
  rw [strs_news h2]
  rfl
theorem own_str {w : World} {B : Nat} {v : Value} {l : List ByteArray} (h : Own w B 9 1 (fun _ => False) v (l.map strDt)) {i : Nat} (hi : i < l.length) :
  ∃ g cap, v = .slice (some ⟨g, 0, none⟩) l.length cap ∧ B ≤ g ∧ g < w.heap.size ∧ w.cell? ⟨g, i, none⟩ = some (.string l[i]) ∧ w.frozen? ⟨g, i, none⟩ = false ∧ ∀ y : ByteArray, Own (w.setCell ⟨g, i, none⟩ (.string y)) B 9 1 (fun _ => False) v ((l.set i y).map strDt) := by
 obtain ⟨xs, ⟨hx1, hx2⟩, hrd⟩ := h
 have hxs := strs_news hrd
 rw [List.length_map] at hx1 hx2
 rcases hx2 with ⟨_, h0⟩ | ⟨g, cap, cur, rfl, hB, hh, hncap, hcapm, hcs, htake⟩
 ·omega
 ·have hb : Blk w g cur.toList 9 := by unfold Blk; rw [hh]
  have hcl : cur.toList.length = cap := by rw [Array.length_toList, hcs, Nat.mul_one]
  rw [Nat.mul_one] at htake
  have hci : cur.toList[i]? = some (.string l[i]) := by
   have h1 : (cur.toList.take l.length)[i]? = some (.string l[i]) := by rw [htake, hxs]; simp [hi]
   rwa [List.getElem?_take, if_pos hi] at h1
  refine ⟨g, cap, rfl, hB, hb.lt, (hb.cell i).trans hci, hb.free i, fun y => ?_⟩
  have hb2 := hb.set i (.string y)
  refine ⟨(l.set i y).map Value.string, ⟨?_, .inr ⟨g, cap, (cur.toList.set i (.string y)).toArray, ?_, hB, hb2, ?_, hcapm, ?_, ?_⟩⟩, strs_chunks _ _ _⟩
  ·simp
  ·simp
  ·simpa using hncap
  ·simp [hcs]
  ·simp only [List.length_map, List.length_set, Nat.mul_one]
   rw [List.take_set, htake, hxs, List.map_set]
def hashP (s : ByteArray) : Bool := Lib.hasPrefix s.data.toList [35]
def addSemi (out : List ByteArray) : List ByteArray := out.set (out.length - 1) (out.getD (out.length - 1) ⟨#[]⟩ ++ (⟨#[59]⟩ : ByteArray))
def plStep (out : List ByteArray) (x : ByteArray) : List ByteArray := if hashP x then (if semiB x then addSemi out else out) else out ++ [x]
def plGo (ws : List ByteArray) : List ByteArray := ws.foldl plStep []
theorem plGo_snoc (ws : List ByteArray) (x : ByteArray) : plGo (ws ++ [x]) = plStep (plGo ws) x := by
 unfold plGo
 rw [List.foldl_append]
 rfl
theorem addSemi_size {out : List ByteArray} {n : Nat} (h : ∀ x ∈ out, x.size ≤ n) (h1 : 1 ≤ out.length) : ∀ x ∈ addSemi out, x.size ≤ n + 1 := by
 intro x hx
 unfold addSemi at hx
 rcases List.mem_or_eq_of_mem_set hx with h2 | h2
 ·have := h x h2; omega
 ·rw [h2, ByteArray.size_append]
  have h3 : out.getD (out.length - 1) ⟨#[]⟩ = out[out.length - 1]'(by omega) := by
   rw [List.getD_eq_getElem?_getD, List.getElem?_eq_getElem (by omega)]
   rfl
  rw [h3]
  have h4 := h _ (List.getElem_mem (show out.length - 1 < out.length by omega))
  show _ + 1 ≤ _
  omega
def PlSt (ws : List ByteArray) (w : World) (B : Nat) (vi vo : Value) (wr : World) : Prop :=
 ∃ (j : Nat) (out : List ByteArray) (ao : Option Addr) (cp : Nat), j ≤ ws.length ∧ vi = .int .i64 (j : Nat) ∧ vo = .slice ao out.length cp ∧ plGo (ws.take j) = out ∧ Chg NoB w wr ∧ Own wr B 9 1 (fun _ => False) vo (out.map strDt) ∧ out.length ≤ j ∧ ∀ x ∈ out, x.size ≤ 80000 + j
theorem plain_any (s : ByteArray) (ws : List ByteArray) (w : World) (hs : s.size < 4294967281) (hascii : ∀ (j : Nat) b, s.data.toList[j]? = some b → b.toNat < 128) (htab : Lib.TabIs Tryz.prog w "strings.asciiSpace" .u8 Lib.asciiSpaceTab)
  (hws : (Lib.fields s.data.toList).map (fun l => (⟨l.toArray⟩ : ByteArray)) = ws) (hwl : ws.length ≤ 10000) (hsz : ∀ x ∈ ws, x.size ≤ 80000) (hno : ∀ j (h : j < ws.length), hashP ws[j] = true → semiB ws[j] = true → 1 ≤ (plGo (ws.take j)).length) (hne : 1 ≤ (plGo ws).length) :
  Calls Tryz.prog 120 #[.string s] w (RetV (.string ⟨(joinW (plGo ws)).toArray⟩) w) := by
 have hf := Tryz.strings_Fields s w hs hascii htab
 have hfl : (Lib.fields s.data.toList).length = ws.length := by rw [← hws, List.length_map]
 have hfc : ((Lib.fields s.data.toList).map fun l => Value.string ⟨l.toArray⟩) = ws.map Value.string := by rw [← hws, List.map_map]; rfl
 rw [hfl, hfc] at hf
 have Hsz := Lib.hid hsz
 have Hno := Lib.hid hno
 have Hne := Lib.hid hne
 clear hsz hno hne hws hfl hfc hascii htab
 go_enter Tryz.func120, Tryz.ntmps120
 go_wp2_with fail
 refine hf.mono ?_
 rintro en w1 ⟨rfl, hww⟩
 have hc1 : Chg NoB w w1 := by
  rw [← hww.symm]
  repeat (first | exact Chg.refl _ _ | apply Chg.alloc | apply Chg.drew)
 have hb1 : Blk w1 w.heap.size (ws.map Value.string) 9 := by rw [hww]; exact Blk.newAt rfl
 clear hf hww
 have hz1 := hb1.lt
 go_wp2_with fail
 go_loopw [9, 3] (fun vi vo wr => PlSt ws w1 w1.heap.size vi vo wr) (fun vi _ _ => ws.length - (intOf vi).toNat)
 case atStart => exact ⟨0, [], none, 0, Nat.zero_le _, rfl, rfl, rfl, Chg.refl _ _, Own.nil _ _ _ _ _, Nat.le_refl _, fun x hx => (List.not_mem_nil hx).elim⟩
 case round =>
  obtain ⟨j, out, ao, cp, hj, rfl, rfl, heq, hcr, ho, hol, hos⟩ := hrel
  have Heq := Lib.hid heq
  have Hos := Lib.hid hos
  clear heq hos
  by_cases hlt : j < ws.length
  ·have hltI : (j : Int) < (ws.length : Int) := by omega
   have hcw : wr.cell? ⟨w.heap.size, j, none⟩ = some (.string (ws[j]'hlt)) := (hcr.cell (p := ⟨w.heap.size, j, none⟩) hz1 nbE).trans (by rw [hb1.cell j, List.getElem?_map, List.getElem?_eq_getElem hlt]; rfl)
   have hxs := Hsz.out _ (List.getElem_mem hlt)
   have hstep := plGo_snoc (ws.take j) (ws[j]'hlt)
   rw [← List.take_succ_eq_append_getElem hlt, Heq.out] at hstep
   have hnoj := Hno.out j hlt
   rw [Heq.out] at hnoj
   generalize ws[j]'hlt = x at hcw hxs hstep hnoj
   have Hstep := Lib.hid hstep
   have Hnoj := Lib.hid hnoj
   clear hstep hnoj
   have hp := Tryz.strings_HasPrefix x ⟨#[35]⟩ wr
   rw [show Lib.hasPrefix x.data.toList (⟨#[35]⟩ : ByteArray).data.toList = hashP x from rfl] at hp
   have hsf := Tryz.strings_HasSuffix x ⟨#[59]⟩ wr (by omega)
   rw [show Lib.hasSuffix x.data.toList (⟨#[59]⟩ : ByteArray).data.toList = semiB x from rfl] at hsf
   cases hh : hashP x with
   | false =>
    have hst : plStep out x = out ++ [x] := by unfold plStep; rw [if_neg (by rw [hh]; simp)]
    rw [hh] at hp
    have Hst := Lib.hid hst
    clear hst hh hsf
    go_wp2_with fail
    refine hp.mono ?_
    rintro en w0 ⟨rfl, h0⟩
    obtain rfl := h0.symm
    clear h0 hp
    go_wp2_with (at_builtin; refine stop_here ?_)
    refine Stop.go ?_
    generalize hwA : World.alloc wr _ = wA
    have hcA : Chg NoB wr wA := by
     rw [← hwA]
     repeat (first | exact Chg.refl _ _ | apply Chg.alloc | apply Chg.drew)
    have hbA : Blk wA (wr.heap.size) ([.string x]) 9 := by
     rw [← hwA]
     repeat (first | exact Blk.newAt (by first | rfl | (simp; done) | (simp; omega)) | apply Blk.alloc | apply Blk.drew)
    clear hwA
    have hoA := ho.keep hcA (fun _ h => h.elim) (fun _ _ => nbE)
    have hlm : (out.map strDt).length = out.length := List.length_map ..
    refine wpList_own rfl (.tmp 16) (.tmp 18) 22 rfl w1.heap.size 9 Tryz.underlying22 infoStr rfl (by decide) rfl hoA rfl [strDt x] [.string x] rfl (ReadsC.single rfl (reads_str _ _ _)) hbA.news (fun e => by cases e) ?_ ?_ ?_ ?_
    ·rw [hlm]; unfold maxLen; omega
    ·rw [hlm]; omega
    ·have := (hcr.tr hcA).size; omega
    intro ao2 cp2 wB hoB hcB hatB
    rw [hlm] at hoB ⊢
    have hcV : Chg NoB w1 wB := (hcr.tr hcA).trans hcB (fun y e => .inr (hoA.block y e).1)
    go_wp2_with fail
    refine ⟨⟨j + 1, out ++ [x], ao2, cp2, hlt, by go_num, by simp, by rw [Hstep.out, Hst.out], hcV, by rw [List.map_append]; exact hoB, by simp only [List.length_append, List.length_singleton]; omega, fun y hy => ?_⟩, by simp [intOf]; omega⟩
    rcases List.mem_append.1 hy with hy | hy
    ·have := Hos.out y hy; omega
    ·obtain rfl := List.mem_singleton.1 hy
     omega
   | true =>
    rw [hh] at hp
    cases hs2 : semiB x with
    | false =>
     have hst : plStep out x = out := by unfold plStep; rw [if_pos hh, if_neg (by rw [hs2]; simp)]
     rw [hs2] at hsf
     have Hst := Lib.hid hst
     clear hst hh hs2
     go_wp2_with fail
     refine hp.mono ?_
     rintro en w0 ⟨rfl, h0⟩
     obtain rfl := h0.symm
     clear h0 hp
     go_wp2_with fail
     refine hsf.mono ?_
     rintro en w0 ⟨rfl, h0⟩
     obtain rfl := h0.symm
     clear h0 hsf
     go_wp2_with fail
     exact ⟨⟨j + 1, out, ao, cp, hlt, by go_num, rfl, by rw [Hstep.out, Hst.out], hcr, ho, by omega, fun y hy => by have := Hos.out y hy; omega⟩, by simp [intOf]; omega⟩
    | true =>
     have hst : plStep out x = addSemi out := by unfold plStep; rw [if_pos hh, if_pos hs2]
     have hn1 := Hnoj.out hh hs2
     rw [hs2] at hsf
     have Hst := Lib.hid hst
     clear hst hh hs2
     obtain ⟨g, cap, hvv, hgB, hglt, hgc, hgf, hgo⟩ := own_str ho (i := out.length - 1) (by omega)
     obtain ⟨rfl, -, rfl⟩ := Value.slice.inj hvv
     have hgB2 : w1.heap.size ≤ g := hgB
     have Hgo := Lib.hid hgo
     clear hvv hgo
     have hqx : out.getD (out.length - 1) ⟨#[]⟩ = out[out.length - 1]'(by omega) := by
      rw [List.getD_eq_getElem?_getD, List.getElem?_eq_getElem (by omega)]
      rfl
     have hysz := Hos.out _ (List.getElem_mem (show out.length - 1 < out.length by omega))
     have hgo2 := Hgo.out (out[out.length - 1]'(by omega) ++ (⟨#[59]⟩ : ByteArray))
     generalize out[out.length - 1]'(by omega) = y at hgc hqx hysz hgo2
     have hadd : addSemi out = out.set (out.length - 1) (y ++ (⟨#[59]⟩ : ByteArray)) := by unfold addSemi; rw [hqx]
     have Hadd := Lib.hid hadd
     have Hgo2 := Lib.hid hgo2
     clear hadd hgo2 hqx
     go_wp2_with fail
     refine hp.mono ?_
     rintro en w0 ⟨rfl, h0⟩
     obtain rfl := h0.symm
     clear h0 hp
     go_wp2_with fail
     refine hsf.mono ?_
     rintro en w0 ⟨rfl, h0⟩
     obtain rfl := h0.symm
     clear h0 hsf
     go_wp2_with fail
     have hc9 : Chg NoB w1 (wr.setCell ⟨g, out.length - 1, none⟩ (.string (y ++ (⟨#[59]⟩ : ByteArray)))) := hcr.setCell (p := ⟨g, out.length - 1, none⟩) (.inr hgB2) _
     refine ⟨⟨j + 1, out.set (out.length - 1) (y ++ (⟨#[59]⟩ : ByteArray)), some ⟨g, 0, none⟩, cp, hlt, by go_num, by rw [List.length_set], by rw [Hstep.out, Hst.out, Hadd.out], hc9, Hgo2.out, by rw [List.length_set]; omega, fun z hz => ?_⟩, by simp [intOf]; omega⟩
     rw [← Hadd.out] at hz
     have := addSemi_size Hos.out hn1 z hz
     omega
  ·have hje : j = ws.length := by omega
   have heq := Heq.out
   rw [hje, List.take_length] at heq
   have hne2 := Hne.out
   rw [heq] at hne2
   have Hfin := Lib.hid heq
   have hltI : ¬ (j : Int) < (ws.length : Int) := by omega
   have hrd := ho.reads (S' := fun y => w1.heap.size ≤ y) (fun _ h => h.elim) (fun y hy _ => hy) (by rw [List.length_map]; unfold maxLen; omega)
   obtain ⟨a', c', hv, hlen', hcap', hel'⟩ := reads_list hrd
   rw [List.length_map] at hv hlen' hel'
   obtain ⟨rfl, -, rfl⟩ := Value.slice.inj hv
   obtain ⟨ob, off, rfl, _, hobw, hE⟩ := hel' (by omega)
   have hcells : ∀ (q : Nat) y, out[q]? = some y → wr.cell? ⟨ob, off + q, none⟩ = some (.string y) := fun q y hq => by
    obtain ⟨cs, h5, h6, h7⟩ := hE.get q (strDt y) (by simp [hq])
    obtain ⟨rfl, _⟩ := h7
    have := h6 0 _ rfl
    simpa using this
   have Hcells := Lib.hid hcells
   clear heq hje hrd hel' hE hcells
   go_wp2_with fail
   refine (join_any ob off _ out wr hne2 Hcells.out hobw (by omega) hlen' (fun y hy => by have := Hos.out y hy; omega)).mono ?_
   rintro en w5 ⟨rfl, hc5⟩
   go_wp2_with fail
   go_ret
   rw [Hfin.out]
   exact ⟨rfl, (hc1.tr hcr).tr hc5⟩
end Go.Proofs.YtgcmfpcgmkkobaaGreatDoor
