/-
  The document's add.
-/
import Derived.Test.YtgcmfpcgmkkobaaGreatDoorRdy
set_option linter.unusedVariables false
set_option maxHeartbeats 20000000
set_option maxRecDepth 100000
set_option linter.unusedSimpArgs false
namespace Go.Proofs.YtgcmfpcgmkkobaaGreatDoor
open Go.RowKit
theorem alone_at {into nx : Int} {t : Nd} {j : Nat} {x : It} (h : (flatI into [renN nx t])[j]? = some x) :
  (flatI 0 [renN 1 t])[j]? = some ⟨.mk (x.n.id - nx + 1) x.n.name x.n.rep x.n.kind [], if j = 0 then 0 else x.ar - nx + 1⟩ ∧ nx ≤ x.n.id ∧ x.n.id < nx + t.weigh ∧ (x.ar = into ∨ (nx ≤ x.ar ∧ x.ar < x.n.id)) ∧ x.n.sub = [] := by
 obtain ⟨i, nm, r, k, s⟩ := t
 have e1 : flatI into [renN nx (.mk i nm r k s)] = ⟨.mk nx nm r k [], into⟩ :: flatI nx (renL (nx + 1) s) := by simp [renN, flatI]
 have e2 : flatI 0 [renN 1 (.mk i nm r k s)] = ⟨.mk 1 nm r k [], 0⟩ :: flatI 1 (renL 2 s) := by simp [renN, flatI]
 rw [e1] at h
 rw [e2]
 cases j with
 | zero =>
  cases h
  refine ⟨?_, by simp [Nd.id], by simp only [Nd.id, Nd.weigh]; omega, .inl rfl, rfl⟩
  simp only [Nd.id, Nd.name, Nd.rep, Nd.kind, List.getElem?_cons_zero, if_true]
  rw [show nx - nx + 1 = 1 from by omega]
 | succ j =>
  rw [List.getElem?_cons_succ] at h
  have hx := List.mem_of_getElem? h
  have h0 := flat_grow 0 1 s (by decide) (by decide)
  have h1 := flat_shift (1 - nx) nx (nx + 1) s
  rw [show nx + (1 - nx) = 1 from by omega, show nx + 1 + (1 - nx) = 2 from by omega] at h1
  have h2 := flat_shift (nx - 1) 1 2 s
  rw [show 1 + (nx - 1) = nx from by omega, show 2 + (nx - 1) = nx + 1 from by omega] at h2
  have h3 := flat_grow 1 2 s (by decide) (by decide)
  rw [h2] at hx
  obtain ⟨y, hy, rfl⟩ := List.mem_map.1 hx
  have h4 := h3 y hy
  have h5 : 1 ≤ y.ar := by
   rcases low 1 2 s (by decide) y hy with h | h <;> omega
  obtain ⟨⟨yi, yn, yr, yk, ys⟩, ya⟩ := y
  simp only [Nd.id, Nd.name, Nd.rep, Nd.kind, Nd.sub] at h h4 h5 ⊢
  refine ⟨?_, by omega, by simp only [Nd.weigh]; omega, .inr ⟨by omega, by omega⟩, trivial⟩
  rw [List.getElem?_cons_succ, h1, List.getElem?_map, h]
  simp only [Option.map_some, Nd.id, Nd.name, Nd.rep, Nd.kind]
  rw [if_neg (by omega), show yi + (nx - 1) + (1 - nx) = yi + (nx - 1) - nx + 1 from by omega, show ya + (nx - 1) + (1 - nx) = ya + (nx - 1) - nx + 1 from by omega]
where
 low : ∀ (p a : Int) (s : List Nd), p ≤ a → ∀ x ∈ flatI p (renL a s), x.ar = p ∨ a ≤ x.ar
  | p, a, [], _, x, hx => by simp [renL, flatI] at hx
  | p, a, .mk i nm r k s :: ns, hp, x, hx => by
   rw [renL, renN, flatI] at hx
   rcases List.mem_cons.1 hx with rfl | hx
   ·exact .inl rfl
   ·rcases List.mem_append.1 hx with hx | hx
    ·have := low a (a + 1) s (by omega) x hx
     exact .inr (by omega)
    ·rcases low p (a + (Nd.mk i nm r k s).weigh) ns (by omega) x hx with h | h
     ·exact .inl h
     ·exact .inr (by omega)
theorem numR_le (w : List UInt8) : numR w ≤ 9999 := by
 cases h : numF w with
 | none => unfold numR; rw [h]; decide
 | some v =>
  have h1 : w.length ≤ 4 ∧ w.all digitB = true := by
   unfold numF at h
   split at h
   ·cases h
   ·split at h
    ·rename_i hc
     exact ⟨hc.1, by rw [digit_all]; exact (trimS_nil w digits).1 hc.2.1⟩
    ·cases h
  rw [numR_digits h1.2]
  unfold numberF
  split
  ·decide
  ·split
   ·decide
   ·obtain ⟨m', e1, e2⟩ := dval_lt w 0 h1.2
    have e3 : 10 ^ w.length ≤ 10 ^ 4 := Nat.pow_le_pow_right (by decide) h1.1
    have e4 : dval w 0 = (m' : Int) := e1
    rw [e4]
    omega
theorem Its.src {w : World} {S : Nat → Prop} {v : Value} {its : List It} (h : Its w S v its) : ∃ ao c, v = .slice ao its.length c ∧ (∀ ad, ao = some ad → ∀ j u, (its.flatMap itCells)[j]? = some u → w.cell? (ad.add j) = some u) ∧ (ao = none → its.length = 0 ∧ c = 0) := by
 obtain ⟨a, c, h0, h1, h2, h3⟩ := h.reads
 rw [List.length_map] at h0 h1
 have hv : v = .slice a its.length c := by simpa using h0
 refine ⟨a, c, hv, ?_, ?_⟩
 ·intro ad had j u hj
  by_cases hne : its.length = 0
  ·rw [List.eq_nil_of_length_eq_zero hne] at hj
   simp at hj
  ·obtain ⟨a', c', hv', _, _, hcell⟩ := h.form
   obtain ⟨rfl, -, rfl⟩ := Value.slice.inj (hv.symm.trans hv')
   obtain ⟨b, off, rfl, _, _, hE⟩ := hcell hne
   have hp := Its.part (S := S) (n := 0) (c := 0) hE 0 its.length (by omega)
   rw [List.drop_zero, Nat.zero_mul, Nat.add_zero, List.take_length] at hp
   exact hp ad had j u hj
 ·rintro rfl
  rcases h3 with ⟨h4, h5⟩ | ⟨b, off, h4, _⟩
  ·exact ⟨by simpa using h4, h5 rfl⟩
  ·cases h4
mutual
theorem slim_ren : ∀ (a : Int) (t : Nd), 0 ≤ a → a + t.weigh ≤ 2000000 → t.All PlainW → (renN a t).All Slim
 | a, .mk i nm r k s, h0, h1, h => by
  simp only [Nd.weigh] at h1
  obtain ⟨⟨a1, a2, a3, a4, a5, _⟩, hs⟩ := h
  simp only [Nd.rep, Nd.kind, Nd.name] at a1 a2 a3 a4 a5
  have h8 : nm.size ≤ 12 := by
   unfold isNameB at a5
   simp only [Bool.and_eq_true, decide_eq_true_eq] at a5
   exact a5.1.2
  exact ⟨⟨h0, by simp only [Nd.id]; omega, by simp only [Nd.name]; omega, by simp only [Nd.rep]; omega, by simp only [Nd.rep]; omega, a3, by simp only [Nd.kind]; omega⟩, slim_renL (a + 1) s (by omega) (by omega) hs⟩
theorem slim_renL : ∀ (a : Int) (l : List Nd), 0 ≤ a → a + Nd.weighs l ≤ 2000000 → Nd.Alls PlainW l → Nd.Alls Slim (renL a l)
 | a, [], _, _, _ => trivial
 | a, n :: ns, h0, h1, h => by
  simp only [Nd.weighs] at h1
  exact ⟨slim_ren a n h0 (by omega) h.1, slim_renL _ ns (by omega) (by omega) h.2⟩
end
theorem items_len {its : List It} {l : List Nd} {nx : Int} (h : Rdy its l nx) : its.length ≤ Nd.weighs l := by
 have h1 := sub_len (its.map fun x => x.n.id) (idsL l) h.ids (fun g hg => by
  obtain ⟨x, hx, rfl⟩ := List.mem_map.1 hg
  exact ids_in h.rep h.numb.nodup hx)
 rw [List.length_map, ← flat_ids 0 l, List.length_map, flat_len] at h1
 exact h1
def AlRel (top alone : List It) (w9 : World) (va vi : Value) (wr : World) : Prop :=
 ∃ j : Nat, j ≤ top.length ∧ vi = .int .i64 (j : Nat) ∧ Own wr w9.heap.size 124 6 (fun _ => False) va ((alone.take j).map It.dt) ∧ Chg NoB w9 wr
theorem addR_any (line : ByteArray) (W : List (List UInt8)) (its : List It) (l : List Nd) (nx : Int) (gb b off cap : Nat) (w : World) (hW : wordsB line = W.map mkB) (h0 : W.head? = some [97, 100, 100]) (hWl : W.length ≤ 100000) (hsz : ∀ x ∈ W, x.length ≤ 100000)
  (hl : line.size ≤ 10000) (hR : Rdy its l nx) (hS : Nd.Alls Slim l) (hw : Nd.weighs l ≤ 39) (hnx : 1 ≤ nx ∧ nx ≤ 500000) (hlt : ∀ x ∈ idsL l, x < nx) (hL : LogI w gb its nx)
  (hc : ∀ (j : Nat) (x : List UInt8), W[j]? = some x → w.cell? ⟨b, off + j, none⟩ = some (.string (mkB x))) :
  Calls Tryz.prog 78 #[.pointer (some ⟨gb, 0, none⟩), .slice (some ⟨b, off, none⟩) W.length cap] w (RetEdR gb (editW (wordsB line) l nx) w) := by
 have HLT := Lib.hid hlt
 clear hlt
 have hism : its.length ≤ 39 := Nat.le_trans (items_len hR) hw
 obtain ⟨v0, hb0, hI0⟩ := hL
 have g0 : w.cell? ⟨gb, 0, none⟩ = some v0 := hb0.cell 0
 have g1 : w.cell? ⟨gb, 1, none⟩ = some (.int .i64 nx) := hb0.cell 1
 have hgb := hb0.lt
 obtain ⟨a0, c0, rfl, hlc, hcm, hcell⟩ := hI0.form
 match W, h0 with
 | w0 :: W1, h0 =>
 obtain rfl := Option.some.inj h0
 by_cases h3 : W1.length < 2
 ·have h3I : ((([97, 100, 100] : List UInt8) :: W1).length : Int) < 3 := by simp only [List.length_cons]; omega
  have hed : editW (wordsB line) l nx = .bad (.er .text) := by
   rw [hW]
   match W1, h3 with
   | [], _ => rfl
   | [w1], _ =>
    simp only [List.map_cons, List.map_nil, editW]
    rw [if_neg (by simp), show manyF (mkB [97, 100, 100]) = none from many_add]
  have Hed := Lib.hid hed
  clear hed hcell
  generalize hWc : ([97, 100, 100] : List UInt8) :: W1 = WW at h3I ⊢
  go_enter Tryz.func78, Tryz.ntmps78
  go_wp2_with fail
  go_ret
  rw [Hed.out]
  exact ⟨Chg.refl _ _, rfl⟩
 ·obtain ⟨w1, x2, X1, rfl⟩ : ∃ w1 x2 X1, W1 = w1 :: x2 :: X1 := by
   match W1, h3 with
   | [], h => simp at h
   | [_], h => simp at h
   | a :: b :: c, _ => exact ⟨a, b, c, rfl⟩
  have hed : editW (wordsB line) l nx = addF (mkB w1) (mkB (joinW ((x2 :: X1).map mkB))) l nx := by
   rw [hW]
   simp only [List.map_cons, editW]
   rw [if_pos ⟨rfl, by simp⟩]
  have hwr : wordsB (mkB (joinW ((x2 :: X1).map mkB))) = (x2 :: X1).map mkB := words_rest (a := [mkB [97, 100, 100], mkB w1]) (by rw [hW]; rfl) (by simp)
  have Hed := Lib.hid hed
  generalize mkB (joinW ((x2 :: X1).map mkB)) = ln at hed hwr
  have h3I : ¬ ((([97, 100, 100] : List UInt8) :: w1 :: x2 :: X1).length : Int) < 3 := by simp only [List.length_cons]; omega
  have z1 := hc 1 w1 rfl
  have hs1 : w1.length ≤ 100000 := hsz w1 (by simp)
  have hdr : (([97, 100, 100] : List UInt8) :: w1 :: x2 :: X1).drop 2 = x2 :: X1 := rfl
  have hWs := hWl
  generalize hWg : ([97, 100, 100] : List UInt8) :: w1 :: x2 :: X1 = WW at h3I hc hWl hsz hdr hWs ⊢
  have HWg := Lib.hid hWg
  have hLn : WW.length = 2 + (x2 :: X1).length := by rw [← hWg]; simp only [List.length_cons]; omega
  generalize hXg : x2 :: X1 = X at hdr hwr hLn
  have Hwr := Lib.hid hwr
  have Hdr := Lib.hid hdr
  have Hcell := Lib.hid hcell
  have Hc := Lib.hid hc
  have Hsz := Lib.hid hsz
  clear Hed
  have Hed := Lib.hid hed
  have HR := Lib.hid hR
  have HW0 := Lib.hid hW
  have HLn := Lib.hid hLn
  clear hed hwr hdr hWg hXg hcell hc hsz hW h3 hLn
  go_enter Tryz.func78, Tryz.ntmps78
  go_wp2_with fail
  refine (numberOf_gen (mkB w1) w (by rw [mkB_sz]; exact hs1)).mono ?_
  rintro en w0 ⟨rfl, h0⟩
  obtain rfl := h0.symm
  clear h0 z1
  rw [mkB_data]
  have hnum : (numF w1 = none ∧ numR w1 = -1) ∨ ∃ v : Int, numF w1 = some v ∧ numR w1 = v ∧ 0 ≤ v := by
   unfold numR
   cases hn : numF w1 with
   | none => exact .inl ⟨rfl, rfl⟩
   | some v => exact .inr ⟨v, rfl, rfl, numF_pos hn⟩
  have hnb : numR w1 ≤ 9999 := numR_le w1
  generalize numR w1 = into at hnum hnb ⊢
  have hin1 : -1 ≤ into := by
   rcases hnum with ⟨_, h⟩ | ⟨v, _, h, h2⟩ <;> omega
  have Hnum := Lib.hid hnum
  clear hnum
  go_wp2_with fail
  have hAd := addedR_any WW b off cap (by omega) (fun x hx => by have := Hsz.out x hx; omega) (WW.length + 1) 2 nx into w (by omega) (by omega) (by omega) (by omega) Hc.out
  unfold RetAdd at hAd
  rw [Hdr.out] at hAd
  rw [show ((2 : Nat) : Int) = 2 from rfl] at hAd
  have hnone : nodeF ln nx = none → addF (mkB w1) ln l nx = .bad (.er .text) := fun h => by
   unfold addF
   cases numF (mkB w1).data.toList with
   | none => rfl
   | some v => simp only [h]
  have hneg : into < 0 → addF (mkB w1) ln l nx = .bad (.er .text) := fun hi => by
   unfold addF
   rw [mkB_data]
   rcases Hnum.out with ⟨h1, _⟩ | ⟨v, h1, rfl, h2⟩
   ·rw [h1]
   ·omega
  have Hnone := Lib.hid hnone
  have Hneg := Lib.hid hneg
  clear hnone hneg
  refine hAd.mono ?_
  clear hAd
  rintro en w2 ⟨hc2, ⟨t, rest, v1, hX, hA, rfl, ho1⟩ | ⟨hno, z, rfl⟩⟩
  ·have hlX : X.length = (wordsN t).length + rest.length := by rw [hX, List.length_append]
   have hww := words_weigh t hA
   have hTl : (flatI into [renN nx t]).length = t.weigh := by
    rw [flat_len]; simp only [Nd.weighs]; rw [ren_weigh]; omega
   have hln := HLn.out
   obtain ⟨n2, hn2⟩ : ∃ n : Nat, n = 2 + (wordsN t).length := ⟨_, rfl⟩
   rw [← hn2]
   have hwb : t.weigh ≤ 100000 := by omega
   obtain ⟨a1, c1, hv1⟩ := ho1.form
   rw [List.length_map, hTl] at hv1
   subst hv1
   have HlX := Lib.hid hlX
   have Hn2 := Lib.hid hn2
   have HX := Lib.hid hX
   clear hlX hn2 hln hX
   by_cases hi0 : into < 0
   ·have Hadd := Lib.hid (Hneg.out hi0)
    go_wp2_with fail
    go_ret
    rw [Hed.out, Hadd.out]
    exact ⟨Chg.mono (hc2) (fun _ _ e => nbE e), rfl⟩
   ·by_cases hat : n2 = WW.length
    ·have hXw : X = wordsN t := by
      have h1 := HlX.out
      have h2 := HLn.out
      have h3 := Hn2.out
      have h4 : rest = [] := List.eq_nil_of_length_eq_zero (by omega)
      rw [HX.out, h4, List.append_nil]
     have HXw := Lib.hid hXw
     have hne : ((n2 : Int) != (WW.length : Int)) = false := by rw [bne_eq_false_iff_eq]; omega
     have hI1 := ho1.its (by rw [hTl]; omega)
     obtain ⟨a1', c1', hv1, hlc1, hcm1, hcell1⟩ := hI1.form
     rw [hTl] at hv1
     obtain ⟨rfl, -, rfl⟩ := Value.slice.inj hv1
     have hAl : (flatI 0 [renN 1 t]).length = t.weigh := by
      rw [flat_len]; simp only [Nd.weighs]; rw [ren_weigh]; omega
     have hTA := fun (j : Nat) (x : It) => alone_at (into := into) (nx := nx) (t := t) (j := j) (x := x)
     generalize hTg : flatI into [renN nx t] = T at ho1 hTl hI1 hcell1 hlc1 hTA
     have HTg := Lib.hid hTg
     generalize hAg : flatI 0 [renN 1 t] = A at hAl hTA
     have HAg := Lib.hid hAg
     obtain ⟨tw, htw⟩ : ∃ n, n = t.weigh := ⟨_, rfl⟩
     rw [← htw] at hTl hAl hwb ⊢
     have Htw := Lib.hid htw
     have HTl := Lib.hid hTl
     have HTA := Lib.hid hTA
     have Hcell1 := Lib.hid hcell1
     have HAl := Lib.hid hAl
     rw [hTl] at hlc1
     have Hho1 := Lib.hid ho1
     have HI1 := Lib.hid hI1
     have g1w := (hc2.cell hgb nbE).trans g1
     clear hXw hTg hAg htw hTl hAl hTA hcell1 ho1 hI1 hww hat hv1
     have hgw : gb < w2.heap.size := lt_of_at g1w
     go_wp2_with fail
     go_loopw [9, 10] (fun va vi wr => AlRel T A w2 va vi wr) (fun _ vi _ => tw - (intOf vi).toNat)
     case atStart => exact ⟨0, Nat.zero_le _, rfl, Own.nil _ _ _ _ _, Chg.refl _ _⟩
     case round =>
      obtain ⟨j, hj, rfl, hown, hcr⟩ := hrel
      have htl := HTl.out
      have hta : (List.map It.dt (A.take j)).length = j := by
       have := HAl.out
       rw [List.length_map, List.length_take]; omega
      obtain ⟨aa, ca, hva⟩ := hown.form
      rw [hta] at hva
      subst hva
      have g1r := (hcr.cell hgw nbE).trans g1w
      have Hta := Lib.hid hta
      clear hta
      rw [htl] at hj
      clear htl
      by_cases hlt : j < tw
      ·have hltI : (j : Int) < (tw : Int) := by omega
       have hltT : j < T.length := by rw [HTl.out]; exact hlt
       obtain ⟨bt, offt, rfl, _, hbt, hE⟩ := Hcell1.out (by omega)
       have hgt : T[j]? = some T[j] := List.getElem?_eq_getElem hltT
       have hAt := (hE j T[j] hgt).keep hcr nbE
       have hTj := HTA.out j T[j] hgt
       have htwj := Htw.out
       generalize T[j] = x at hgt hAt hTj
       obtain ⟨⟨xi, xn, xr, xk, xs⟩, xa⟩ := x
       simp only [Nd.id, Nd.name, Nd.rep, Nd.kind, Nd.sub] at hTj
       obtain ⟨hAj, hb1, hb2, hb3, rfl⟩ := hTj
       rw [← htwj] at hb2
       have y0 := hAt.id
       have y1 := hAt.name
       have y2 := hAt.rep
       have y3 := hAt.kind
       have y4 := hAt.sub
       have y5 := hAt.ar
       simp only [Nd.id, Nd.name, Nd.rep, Nd.kind] at y0 y1 y2 y3 y5
       have htk : A.take (j + 1) = A.take j ++ [⟨.mk (xi - nx + 1) xn xr xk [], if j = 0 then 0 else xa - nx + 1⟩] := by
        have hl := HAl.out
        have hjA : j < A.length := by omega
        rw [List.take_succ_eq_append_getElem hjA]
        rw [List.getElem?_eq_getElem hjA] at hAj
        rw [Option.some.inj hAj]
       have Htk := Lib.hid htk
       have hxa : -1 ≤ xa ∧ xa ≤ 1000000 := by
        rcases hb3 with h | ⟨h, h2⟩ <;> omega
       clear hAt hE hgt hAj htk htwj hb3
       go_wp2_with fail
       generalize hw3 : World.alloc wr _ = w3
       have hc3 : Chg NoB wr w3 := by
        rw [← hw3]
        repeat (first | exact Chg.refl _ _ | apply Chg.alloc | apply Chg.drew)
       have hb3 : Blk w3 (wr.heap.size) ([.int .i64 xi, .string xn, .int .i64 xr, .int .i64 xk, .slice none 0 0, .int .i64 xa]) 124 := by
        rw [← hw3]
        repeat (first | exact Blk.newAt (by first | rfl | (simp; done) | (simp; omega)) | apply Blk.alloc | apply Blk.drew)
       clear hw3 y0 y1 y2 y3 y4 y5
       have hgr : gb < wr.heap.size := lt_of_at g1r
       generalize hob : wr.heap.size = ob at hb3 hgr ⊢
       have hobw : wr.heap.size ≤ ob := by omega
       have Hob := Lib.hid hob
       clear hob
       have b0 : w3.cell? ⟨ob, 0, none⟩ = some (.int .i64 xi) := hb3.cell 0
       have b0f : w3.frozen? ⟨ob, 0, none⟩ = false := hb3.free 0
       have g3 := (hc3.cell (p := ⟨gb, 1, none⟩) (by simpa using lt_of_at g1r) nbE).trans g1r
       refine wp_region_n (fun w' => w'.cell? ⟨ob, 0, none⟩ = some (.int .i64 xi) ∧ w'.cell? ⟨gb, 1, none⟩ = some (.int .i64 nx)) [11] (by kernel_rfl) ?_ (fun hSh => ?_)
       ·exact ⟨b0, g3⟩
       refine n_from 0 ?_
       intro htk
       iterate 9
        refine n_tB (v := ?_) htk rfl (Or.inl ⟨by rfl, ?_⟩) ?_
        rotate_left 1
        ·(intro w' hSw; (try dsimp only at hSw); go_simp; try with_reducible rfl)
        clear htk
        intro htk
        simp only [Nat.reduceAdd] at htk
        simp only [Act.put, qA, qB, qC, qD, qE, qF]
       clear htk
       refine n_step 9 rfl (by kernel_rfl) ?_
       go_wp2_with fail
       refine ⟨fun _ => ⟨b0, g3⟩, fun _ => ?_⟩
       refine n_tA (v := ?_) 10 rfl (Or.inl ⟨by rfl, ?_⟩) ?_
       rotate_left 1
       ·(intro w' hSw; (try dsimp only at hSw); go_simp; try with_reducible rfl)
       simp only [Act.put, qA, qB, qC, qD, qE, qF]
       refine n_step 11 rfl (by kernel_rfl) ?_
       go_wp2_with fail
       refine ⟨fun hx => absurd hx (by decide), fun _ => ?_⟩
       refine n_done (by kernel_rfl) ?_
       have hb4 : Blk (w3.setCell ⟨ob, 0, none⟩ (.int .i64 (xi - nx + 1))).drew ob [.int .i64 (xi - nx + 1), .string xn, .int .i64 xr, .int .i64 xk, .slice none 0 0, .int .i64 xa] 124 := (hb3.set 0 (.int .i64 (xi - nx + 1))).drew
       have hc4 : Chg NoB wr (w3.setCell ⟨ob, 0, none⟩ (.int .i64 (xi - nx + 1))).drew := (hc3.setCell (p := ⟨ob, 0, none⟩) (.inr hobw) _).drew
       generalize World.drew (w3.setCell ⟨ob, 0, none⟩ (.int .i64 (xi - nx + 1))) = w4 at hb4 hc4 ⊢
       clear hSh b0 b0f hb3 hc3 g3
       have b5 : w4.cell? ⟨ob, 5, none⟩ = some (.int .i64 xa) := hb4.cell 5
       have b5f : w4.frozen? ⟨ob, 5, none⟩ = false := hb4.free 5
       have g4 := (hc4.cell (p := ⟨gb, 1, none⟩) (by simpa using lt_of_at g1r) nbE).trans g1r
       go_wp2_with fail
       refine wp_region_n (fun w' => w'.cell? ⟨ob, 5, none⟩ = some (.int .i64 xa) ∧ w'.cell? ⟨gb, 1, none⟩ = some (.int .i64 nx)) [9] (by kernel_rfl) ?_ (fun hSh => ?_)
       ·exact ⟨b5, g4⟩
       refine n_from 0 ?_
       intro htk
       iterate 9
        refine n_tB (v := ?_) htk rfl (Or.inl ⟨by rfl, ?_⟩) ?_
        rotate_left 1
        ·(intro w' hSw; (try dsimp only at hSw); go_simp; try with_reducible rfl)
        clear htk
        intro htk
        simp only [Nat.reduceAdd] at htk
        simp only [Act.put, qA, qB, qC, qD, qE, qF]
       clear htk
       refine n_step 9 rfl (by kernel_rfl) ?_
       go_wp2_with fail
       refine ⟨fun hx => absurd hx (by decide), fun _ => ?_⟩
       refine n_done (by kernel_rfl) ?_
       have hb5 : Blk (w4.setCell ⟨ob, 5, none⟩ (.int .i64 (xa - nx + 1))).drew ob [.int .i64 (xi - nx + 1), .string xn, .int .i64 xr, .int .i64 xk, .slice none 0 0, .int .i64 (xa - nx + 1)] 124 := (hb4.set 5 (.int .i64 (xa - nx + 1))).drew
       have hc5 : Chg NoB wr (w4.setCell ⟨ob, 5, none⟩ (.int .i64 (xa - nx + 1))).drew := (hc4.setCell (p := ⟨ob, 5, none⟩) (.inr hobw) _).drew
       generalize World.drew (w4.setCell ⟨ob, 5, none⟩ (.int .i64 (xa - nx + 1))) = w5 at hb5 hc5 ⊢
       clear hSh b5 b5f hb4 hc4 g4
       by_cases hj0 : j = 0
       ·have hjI : ((j : Int) == 0) = true := by rw [beq_iff_eq]; omega
        have htk2 := Htk.out
        rw [if_pos hj0] at htk2
        have htk2 := htk2
        have b5f : w5.frozen? ⟨ob, 5, none⟩ = false := hb5.free 5
        have b5 : w5.cell? ⟨ob, 5, none⟩ = some (.int .i64 (xa - nx + 1)) := hb5.cell 5
        have hb6 : Blk (w5.setCell ⟨ob, 5, none⟩ (.int .i64 0)) ob [.int .i64 (xi - nx + 1), .string xn, .int .i64 xr, .int .i64 xk, .slice none 0 0, .int .i64 0] 124 := hb5.set 5 (.int .i64 0)
        have hc6 : Chg NoB wr (w5.setCell ⟨ob, 5, none⟩ (.int .i64 0)) := hc5.setCell (p := ⟨ob, 5, none⟩) (.inr hobw) _
        have Hj0 := Lib.hid hj0
        clear hj0 hb5 hc5
        have q0 : (w5.setCell ⟨ob, 5, none⟩ (.int .i64 0)).cell? ⟨ob, 0, none⟩ = some (.int .i64 (xi - nx + 1)) := hb6.cell 0
        have q1 : (w5.setCell ⟨ob, 5, none⟩ (.int .i64 0)).cell? ⟨ob, 1, none⟩ = some (.string xn) := hb6.cell 1
        have q2 : (w5.setCell ⟨ob, 5, none⟩ (.int .i64 0)).cell? ⟨ob, 2, none⟩ = some (.int .i64 xr) := hb6.cell 2
        have q3 : (w5.setCell ⟨ob, 5, none⟩ (.int .i64 0)).cell? ⟨ob, 3, none⟩ = some (.int .i64 xk) := hb6.cell 3
        have q4 : (w5.setCell ⟨ob, 5, none⟩ (.int .i64 0)).cell? ⟨ob, 4, none⟩ = some (.slice none 0 0) := hb6.cell 4
        have q5 : (w5.setCell ⟨ob, 5, none⟩ (.int .i64 0)).cell? ⟨ob, 5, none⟩ = some (.int .i64 (0)) := hb6.cell 5
        go_wp2_with (at_builtin; refine stop_here ?_)
        refine Stop.go ?_
        clear q0 q1 q2 q3 q4 q5
        generalize hw7 : World.alloc _ _ = w7
        have hc7 : Chg NoB (w5.setCell ⟨ob, 5, none⟩ (.int .i64 0)) w7 := by
         rw [← hw7]
         repeat (first | exact Chg.refl _ _ | apply Chg.alloc | apply Chg.drew)
        have hb7 : Blk w7 (w5.heap.size) (itCells ⟨.mk (xi - nx + 1) xn xr xk [], 0⟩) 124 := by
         rw [← hw7]
         repeat (first | exact Blk.newAt (by first | rfl | (simp; done) | (simp; omega)) | apply Blk.alloc | apply Blk.drew)
        clear hw7
        have hcr7 := hc6.tr hc7
        have hown7 := hown.keep hcr7 (fun _ e => e.elim) (fun _ _ => nbE)
        refine wpList_own rfl (.tmp 74) (.tmp 76) 84 rfl w2.heap.size 124 Tryz.underlying84 infoItem rfl (by decide) rfl hown7 rfl [It.dt ⟨.mk (xi - nx + 1) xn xr xk [], 0⟩] (itCells ⟨.mk (xi - nx + 1) xn xr xk [], 0⟩) rfl (ReadsC.single rfl (reads_it.2 rfl)) hb7.news (fun e => by cases e) ?_ ?_ (Nat.le_trans hcr.size hcr7.size) ?_
        ·rw [Hta.out]; simp [maxLen]; omega
        ·rw [Hta.out]; omega
        intro ao8 cp8 w8 ho8 hc8 hat8
        rw [Hta.out] at ho8 ⊢
        have hc08 : Chg NoB w2 w8 := (hcr.tr hcr7).trans hc8 (fun y e => .inr (hown7.block y e).1)
        clear hat8 hc8 hb7 hc7 hcr7 hown7
        go_wp2_with fail
        go_roundw
        case rel => exact ⟨j + 1, hltT, by go_num, by rw [htk2, List.map_append]; exact ho8, hc08⟩
        case measure => simp [intOf]; omega
       ·have hjI : ((j : Int) == 0) = false := by rw [beq_eq_false_iff_ne]; omega
        have htk2 := Htk.out
        rw [if_neg hj0] at htk2
        clear hj0
        have q0 : (w5).cell? ⟨ob, 0, none⟩ = some (.int .i64 (xi - nx + 1)) := hb5.cell 0
        have q1 : (w5).cell? ⟨ob, 1, none⟩ = some (.string xn) := hb5.cell 1
        have q2 : (w5).cell? ⟨ob, 2, none⟩ = some (.int .i64 xr) := hb5.cell 2
        have q3 : (w5).cell? ⟨ob, 3, none⟩ = some (.int .i64 xk) := hb5.cell 3
        have q4 : (w5).cell? ⟨ob, 4, none⟩ = some (.slice none 0 0) := hb5.cell 4
        have q5 : (w5).cell? ⟨ob, 5, none⟩ = some (.int .i64 ((xa - nx + 1))) := hb5.cell 5
        go_wp2_with (at_builtin; refine stop_here ?_)
        refine Stop.go ?_
        clear q0 q1 q2 q3 q4 q5
        generalize hw7 : World.alloc _ _ = w7
        have hc7 : Chg NoB (w5) w7 := by
         rw [← hw7]
         repeat (first | exact Chg.refl _ _ | apply Chg.alloc | apply Chg.drew)
        have hb7 : Blk w7 (w5.heap.size) (itCells ⟨.mk (xi - nx + 1) xn xr xk [], (xa - nx + 1)⟩) 124 := by
         rw [← hw7]
         repeat (first | exact Blk.newAt (by first | rfl | (simp; done) | (simp; omega)) | apply Blk.alloc | apply Blk.drew)
        clear hw7
        have hcr7 := hc5.tr hc7
        have hown7 := hown.keep hcr7 (fun _ e => e.elim) (fun _ _ => nbE)
        refine wpList_own rfl (.tmp 74) (.tmp 76) 84 rfl w2.heap.size 124 Tryz.underlying84 infoItem rfl (by decide) rfl hown7 rfl [It.dt ⟨.mk (xi - nx + 1) xn xr xk [], (xa - nx + 1)⟩] (itCells ⟨.mk (xi - nx + 1) xn xr xk [], (xa - nx + 1)⟩) rfl (ReadsC.single rfl (reads_it.2 rfl)) hb7.news (fun e => by cases e) ?_ ?_ (Nat.le_trans hcr.size hcr7.size) ?_
        ·rw [Hta.out]; simp [maxLen]; omega
        ·rw [Hta.out]; omega
        intro ao8 cp8 w8 ho8 hc8 hat8
        rw [Hta.out] at ho8 ⊢
        have hc08 : Chg NoB w2 w8 := (hcr.tr hcr7).trans hc8 (fun y e => .inr (hown7.block y e).1)
        clear hat8 hc8 hb7 hc7 hcr7 hown7
        go_wp2_with fail
        go_roundw
        case rel => exact ⟨j + 1, hltT, by go_num, by rw [htk2, List.map_append]; exact ho8, hc08⟩
        case measure => simp [intOf]; omega
      ·have hltI : ¬ (j : Int) < (tw : Int) := by omega
       have hAj : A.take j = A := List.take_of_length_le (by have := HAl.out; omega)
       rw [hAj] at hown
       have hoA : Its wr (fun b => w2.heap.size ≤ b ∧ b < wr.heap.size) (.slice aa j ca) A := hown.its (by have := HAl.out; omega)
       have hal : Rdy A [renN 1 t] (1 + t.weigh) := by
        have h9 := rdy_nil.add0 (t := t) (by decide) (fun x hx => by simp [idsL] at hx) hA
        simp only [List.nil_append] at h9
        rw [← HAg.out]; exact h9
       obtain ⟨hun, _⟩ := hal.becF (k := tw + 1) (by have := Htw.out; omega)
       have hno := nodeOf_any A (1 + t.weigh) hal.grow (.slice aa j ca) _ (tw + 1) wr hoA (by have := Htw.out; omega)
       rw [hun] at hno
       have Hrn := Lib.hid (rfl : renN 1 t = renN 1 t)
       generalize hrt : renN 1 t = rt at hno
       have Hrt := Lib.hid hrt
       clear hrt hun hal hAj hown
       have hwr9 := hc2.tr hcr
       go_wp2_with fail
       refine hno.mono ?_
       clear hno
       rintro en w4 ⟨v4, F4, rfl, ht4, _, hc4⟩
       have hrd : Reads w4 (fun b => b < w4.heap.size) (rootNd [rt]).dt (ndCells 0 rootName 1 0 v4) := reads_nd.2 ⟨_, rfl, ht4.reads (fun x hx => (ht4.lt x hx).2)⟩
       have hrok : (rootNd [rt]).ok := by
        rw [← Hrt.out]
        have hwt := Htw.out
        refine ⟨⟨by decide, by decide⟩, by decide, ⟨by decide, by decide⟩, ⟨by decide, by decide⟩, by unfold reach; simp, all_ok ⟨slim_ren 1 t (by decide) (by omega) hA, trivial⟩ (by simp only [Nd.weighs]; rw [ren_weigh]; omega)⟩
       have hse := schemaError_any (rootNd [rt]) w4 _ _ hrd hrok
       obtain ⟨a4, c4, rfl, _, _⟩ := ht4.form
       unfold ndCells at hse
       go_wp2_with fail
       refine hse.mono ?_
       clear hse
       rintro en w5 ⟨r, rfl, hs, hc5⟩
       have hre := err_law hs
       have hc25 := (hwr9.tr hc4).tr hc5
       clear hs hrd
       have hc25t : Chg NoB w2 w5 := (hcr.tr hc4).tr hc5
       generalize hvr : validF (rootNd [rt]) = vr at hre
       have hfit : Fit [rt] ↔ vr = none := by rw [← hvr]; exact fit_iff_valid.symm
       have Hfit := Lib.hid hfit
       clear hfit hvr
       cases vr with
       | some e =>
        have hpos : 0 < r := by rw [hre]; exact (errNum_pos e).1
        have Hadd := Lib.hid (Hnone.out (nodeF_unfit hA (by rw [Hwr.out, HXw.out]) (fun h => by
         rw [Hrt.out] at h
         have := Hfit.out.1 h
         cases this) nx))
        clear hre
        go_wp2_with fail
        go_ret
        rw [Hed.out, Hadd.out]
        exact ⟨Chg.mono (hc25) (fun _ _ e => nbE e), rfl⟩
       | none =>
        have hr0 : r = 0 := hre
        subst hr0
        clear hre
        have hfit1 : Fit [renN 1 t] := by rw [Hrt.out]; exact Hfit.out.2 rfl
        have hnode : nodeF ln nx = some (renN nx t, nx + t.weigh) := nodeF_yes hA (by rw [Hwr.out, HXw.out]) hfit1 nx
        have Hnode := Lib.hid hnode
        have Hfit1 := Lib.hid hfit1
        clear hnode hfit1
        obtain ⟨hv, hnumv⟩ : numF w1 = some into ∧ 0 ≤ into := by
         rcases Hnum.out with ⟨_, h⟩ | ⟨v, h, h2, h3⟩
         ·omega
         ·rw [h2]; exact ⟨h, h3⟩
        have Hv := Lib.hid hv
        clear hv
        by_cases hp0 : 0 < into
        ·have hR0 := HR.out
         have hatl := atR_any its into (.slice a0 its.length c0) w5 _ (hI0.keep hc25 (fun _ _ => nbE))
         have gN := (hc25.cell (p := ⟨gb, 0, none⟩) hgb nbE).trans g0
         go_wp2_with fail
         refine hatl.mono ?_
         clear hatl
         rintro en w6 ⟨ra, rfl, hspec, h6⟩
         obtain rfl := h6.symm
         clear h6
         have hcase := at_law hR0.rep hR0.numb hspec
         clear hspec hR0
         rcases hcase with ⟨hnone, rfl⟩ | ⟨q, jq, x, hfq, rfl, hjx, hxq, hxi, _, _⟩
         ·have hadd : addF (mkB w1) ln l nx = .bad .non := by
           unfold addF
           rw [mkB_data, Hv.out]
           simp only [Hnode.out]
           rw [if_neg (by omega)]
           simp only [hnone]
          have Hadd := Lib.hid hadd
          clear hadd hnone
          go_wp2_with fail
          go_ret
          rw [Hed.out, Hadd.out]
          exact ⟨Chg.mono (hc25) (fun _ _ e => nbE e), rfl⟩
         ·have hjl : jq < its.length := (List.getElem?_eq_some_iff.1 hjx).1
          have hjI : ¬ ((jq : Nat) : Int) < 0 := by omega
          have hjI2 : ((jq : Nat) : Int) < (its.length : Int) := by omega
          obtain ⟨a5, c5, hv5, _, _, hcell5⟩ := (hI0.keep hc25 (fun _ _ => nbE)).form
          obtain ⟨rfl, -, rfl⟩ := Value.slice.inj hv5
          obtain ⟨b5, off5, rfl, _, _, hE5⟩ := hcell5 (by omega)
          have hA5 := (hE5 jq x hjx).kind
          rw [hxq, bare_kind] at hA5
          clear hE5 hcell5 hv5
          by_cases hk0 : q.kind = 0
          ·have hkb : (q.kind != 0) = false := by rw [bne_eq_false_iff_eq]; exact hk0
           have hadd : addF (mkB w1) ln l nx = .ok (grpT into (setId into (addSub (renN nx t))) l) (nx + t.weigh) := by
            unfold addF
            rw [mkB_data, Hv.out]
            simp only [Hnode.out]
            rw [if_neg (by omega)]
            simp only [hfq]
            rw [if_pos hk0]
           have hrdy : Rdy (its ++ T) (grpT into (setId into (addSub (renN nx t))) l) (nx + t.weigh) := by
            rw [← HTg.out]; exact HR.out.addIn hnx.1 HLT.out hA hfq hk0
           clear hk0 hfq hxq hjx
           have hwf := editW_facts (line := line) hl ⟨hnx.1, by omega⟩ hS hw (Hed.out.trans hadd)
           have hRdy := hrdy
           have hok9 : (rootNd (grpT into (setId into (addSub (renN nx t))) l)).ok := ⟨⟨by decide, by decide⟩, by decide, ⟨by decide, by decide⟩, ⟨by decide, by decide⟩, by have := weighs_len (grpT into (setId into (addSub (renN nx t))) l); have := hwf.2.1; unfold reach; omega, all_ok hwf.1 (by have := hwf.2.1; omega)⟩
           have Hadd := Lib.hid hadd
           have HRdy := Lib.hid hRdy
           have Hok9 := Lib.hid hok9
           clear hwf hRdy hok9
           obtain ⟨ao, co, hv, hcs, hnn⟩ := (hI0.keep hc25 (fun _ _ => nbE)).src
           obtain ⟨rfl, -, rfl⟩ := Value.slice.inj hv
           have gN := (hc25.cell (p := ⟨gb, 0, none⟩) hgb nbE).trans g0
           have Hcs := Lib.hid hcs
           have Hnn := Lib.hid hnn
           clear hcs hnn hv
           go_wp2_with (at_builtin; refine stop_here ?_)
           refine Stop.go ?_
           refine wpList_own rfl (.tmp 103) (.tmp 107) 84 rfl w.heap.size 124 Tryz.underlying84 infoItem rfl (by decide) rfl (Own.nil w5 w.heap.size 124 6 (fun _ => False)) rfl (its.map It.dt) _ (by rw [List.length_map]) (it_chunks _ _ _) Hcs.out Hnn.out ?_ ?_ hc25.size ?_
           ·simp [maxLen]; omega
           ·simp; omega
           intro ao2 cp2 wB hoB hcB hatB
           simp only [List.length_nil, Nat.zero_add, List.nil_append] at hoB hcB hatB ⊢
           have hcB0 : Chg NoB w5 wB := hcB.mono (fun _ _ e => by cases e)
           have hcwB := hc25.tr hcB0
           obtain ⟨ao4, co4, hv4, hcs4, hnn4⟩ := (HI1.out.keep ((hc25t).tr hcB0) (fun _ _ => nbE)).src
           rw [HTl.out] at hv4 hnn4
           obtain ⟨rfl, -, rfl⟩ := Value.slice.inj hv4
           have Hcs4 := Lib.hid hcs4
           have Hnn4 := Lib.hid hnn4
           clear hcs4 hnn4 hv4 hcB hatB
           go_wp2_with (at_builtin; refine stop_here ?_)
           refine Stop.go ?_
           refine wpList_own rfl (.tmp 110) (.tmp 111) 84 rfl w.heap.size 124 Tryz.underlying84 infoItem rfl (by decide) rfl hoB rfl (T.map It.dt) _ (by rw [List.length_map, HTl.out]) (it_chunks _ _ _) Hcs4.out Hnn4.out ?_ ?_ hcwB.size ?_
           ·rw [List.length_map]; unfold maxLen; omega
           ·rw [List.length_map]; omega
           intro ao3 cp3 wC hoC hcC hatC
           rw [← List.map_append] at hoC
           have hcwC : Chg NoB w wC := hcwB.trans hcC (fun y e => .inr (hoB.block y e).1)
           have htl9 := HTl.out
           have hIC := hoC.its (by rw [List.length_append]; omega)
           rw [List.length_map] at hoC hIC ⊢
           have hbC := hb0.keep hcwC nbE
           have hbl := becomeR_law HRdy.out (by omega) hbC hIC (fun y hy e => by have := hy.1; omega) Hok9.out
           rw [← Htw.out] at hbl
           clear hatC hcC hoC hIC
           go_wp2_with fail
           refine hbl.mono ?_
           clear hbl
           rintro en w9 ⟨hc9, rfl, h9⟩
           rw [Htw.out] at h9
           go_wp2_with fail
           go_ret
           rw [Hed.out, Hadd.out]
           exact ⟨(hcwC.mono (fun _ _ e => nbE e)).trans hc9 (fun _ e => .inl e), rfl, h9⟩
          ·have hkb : (q.kind != 0) = true := by rw [bne_iff_ne]; exact hk0
           have hadd : addF (mkB w1) ln l nx = .bad .kind := by
            unfold addF
            rw [mkB_data, Hv.out]
            simp only [Hnode.out]
            rw [if_neg (by omega)]
            simp only [hfq]
            rw [if_neg hk0]
           have Hadd := Lib.hid hadd
           clear hadd hk0 hfq hxq hjx
           go_wp2_with fail
           go_ret
           rw [Hed.out, Hadd.out]
           exact ⟨Chg.mono (hc25) (fun _ _ e => nbE e), rfl⟩
        ·have hp00 : into = 0 := by omega
         have hadd : addF (mkB w1) ln l nx = .ok (l ++ [renN nx t]) (nx + t.weigh) := by
          unfold addF
          rw [mkB_data, Hv.out]
          simp only [Hnode.out]
          rw [if_pos hp00]
         have hrdy : Rdy (its ++ T) (l ++ [renN nx t]) (nx + t.weigh) := by
          rw [← HTg.out, hp00]; exact HR.out.add0 hnx.1 HLT.out hA
         have hwf := editW_facts (line := line) hl ⟨hnx.1, by omega⟩ hS hw (Hed.out.trans hadd)
         have hRdy := hrdy
         have hok9 : (rootNd (l ++ [renN nx t])).ok := ⟨⟨by decide, by decide⟩, by decide, ⟨by decide, by decide⟩, ⟨by decide, by decide⟩, by have := weighs_len (l ++ [renN nx t]); have := hwf.2.1; unfold reach; omega, all_ok hwf.1 (by have := hwf.2.1; omega)⟩
         have Hadd := Lib.hid hadd
         have HRdy := Lib.hid hRdy
         have Hok9 := Lib.hid hok9
         clear hwf hRdy hok9
         obtain ⟨ao, co, hv, hcs, hnn⟩ := (hI0.keep hc25 (fun _ _ => nbE)).src
         obtain ⟨rfl, -, rfl⟩ := Value.slice.inj hv
         have gN := (hc25.cell (p := ⟨gb, 0, none⟩) hgb nbE).trans g0
         have Hcs := Lib.hid hcs
         have Hnn := Lib.hid hnn
         clear hcs hnn hv
         go_wp2_with (at_builtin; refine stop_here ?_)
         refine Stop.go ?_
         refine wpList_own rfl (.tmp 103) (.tmp 107) 84 rfl w.heap.size 124 Tryz.underlying84 infoItem rfl (by decide) rfl (Own.nil w5 w.heap.size 124 6 (fun _ => False)) rfl (its.map It.dt) _ (by rw [List.length_map]) (it_chunks _ _ _) Hcs.out Hnn.out ?_ ?_ hc25.size ?_
         ·simp [maxLen]; omega
         ·simp; omega
         intro ao2 cp2 wB hoB hcB hatB
         simp only [List.length_nil, Nat.zero_add, List.nil_append] at hoB hcB hatB ⊢
         have hcB0 : Chg NoB w5 wB := hcB.mono (fun _ _ e => by cases e)
         have hcwB := hc25.tr hcB0
         obtain ⟨ao4, co4, hv4, hcs4, hnn4⟩ := (HI1.out.keep ((hc25t).tr hcB0) (fun _ _ => nbE)).src
         rw [HTl.out] at hv4 hnn4
         obtain ⟨rfl, -, rfl⟩ := Value.slice.inj hv4
         have Hcs4 := Lib.hid hcs4
         have Hnn4 := Lib.hid hnn4
         clear hcs4 hnn4 hv4 hcB hatB
         go_wp2_with (at_builtin; refine stop_here ?_)
         refine Stop.go ?_
         refine wpList_own rfl (.tmp 110) (.tmp 111) 84 rfl w.heap.size 124 Tryz.underlying84 infoItem rfl (by decide) rfl hoB rfl (T.map It.dt) _ (by rw [List.length_map, HTl.out]) (it_chunks _ _ _) Hcs4.out Hnn4.out ?_ ?_ hcwB.size ?_
         ·rw [List.length_map]; unfold maxLen; omega
         ·rw [List.length_map]; omega
         intro ao3 cp3 wC hoC hcC hatC
         rw [← List.map_append] at hoC
         have hcwC : Chg NoB w wC := hcwB.trans hcC (fun y e => .inr (hoB.block y e).1)
         have htl9 := HTl.out
         have hIC := hoC.its (by rw [List.length_append]; omega)
         rw [List.length_map] at hoC hIC ⊢
         have hbC := hb0.keep hcwC nbE
         have hbl := becomeR_law HRdy.out (by omega) hbC hIC (fun y hy e => by have := hy.1; omega) Hok9.out
         rw [← Htw.out] at hbl
         clear hatC hcC hoC hIC
         go_wp2_with fail
         refine hbl.mono ?_
         clear hbl
         rintro en w9 ⟨hc9, rfl, h9⟩
         rw [Htw.out] at h9
         go_wp2_with fail
         go_ret
         rw [Hed.out, Hadd.out]
         exact ⟨(hcwC.mono (fun _ _ e => nbE e)).trans hc9 (fun _ e => .inl e), rfl, h9⟩
    ·have hne : ((n2 : Int) != (WW.length : Int)) = true := by rw [bne_iff_ne]; omega
     have Hadd := Lib.hid (Hnone.out (nodeF_no Hwr.out (fun t' ht' e => by
      have h9 := (twR t t' rest [] hA ht' (by rw [List.append_nil, ← HX.out, e])).2
      have h1 := HlX.out
      have h2 := HLn.out
      have h3 := Hn2.out
      rw [h9, List.length_nil] at h1
      omega) nx))
     clear hat
     go_wp2_with fail
     go_ret
     rw [Hed.out, Hadd.out]
     exact ⟨Chg.mono (hc2) (fun _ _ e => nbE e), rfl⟩
  ·by_cases hi0 : into < 0
   ·have Hadd := Lib.hid (Hneg.out hi0)
    go_wp2_with fail
    go_ret
    rw [Hed.out, Hadd.out]
    exact ⟨Chg.mono (hc2) (fun _ _ e => nbE e), rfl⟩
   ·have hne : ((-1 : Int) != (WW.length : Int)) = true := by rw [bne_iff_ne]; omega
    have Hadd := Lib.hid (Hnone.out (nodeF_no Hwr.out (fun t' ht' e => hno t' [] ht' (by rw [e, List.append_nil])) nx))
    go_wp2_with fail
    go_ret
    rw [Hed.out, Hadd.out]
    exact ⟨Chg.mono (hc2) (fun _ _ e => nbE e), rfl⟩
end Go.Proofs.YtgcmfpcgmkkobaaGreatDoor
