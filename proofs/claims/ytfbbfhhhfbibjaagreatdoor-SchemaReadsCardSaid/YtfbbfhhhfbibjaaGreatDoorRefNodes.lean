/-
  shredcolref2's parser: nodes.
-/
import Derived.Test.YtfbbfhhhfbibjaaGreatDoorParser
import Derived.Deep.DeepCutAuto
set_option linter.unusedVariables false
set_option linter.unusedSimpArgs false
namespace Go.Proofs.YtfbbfhhhfbibjaaGreatDoor
open Go.RowKit

/-- Where a round stands: the list so far, the parser, the node under way in block nb. -/
structure Stp (b T : Nat) (wv : Value) (W : List (List UInt8 × Int)) (w : World) (v : Value) (ds : List Dt) (nb : Nat) (cells : List Value) (s : PSt) (wk : World) : Prop where
  own : Own wk w.heap.size 24 5 (fun x => w.heap.size ≤ x ∧ x ≠ nb) v ds
  prs : Prs b T wv W s wk
  chg : Chg (OneB b) w wk
  nd : Blk wk nb cells 24
  ge : w.heap.size ≤ nb
  vn : v.ownBlock ≠ some nb
  lt : b < w.heap.size
section
variable {b T : Nat} {wv : Value} {W : List (List UInt8 × Int)} {w : World} {v : Value} {ds : List Dt} {nb : Nat} {cells : List Value} {s s' : PSt} {wk w' : World}
theorem Stp.keep0 (h : Stp b T wv W w v ds nb cells s wk) (hc : Chg NoB wk w') : Stp b T wv W w v ds nb cells s w' :=
  ⟨h.own.keep hc (fun _ _ => NoB.elim) (fun _ _ => NoB.elim), h.prs.keep0 hc, h.chg.tr hc, h.nd.keep hc NoB.elim, h.ge, h.vn, h.lt⟩
theorem Stp.next (h : Stp b T wv W w v ds nb cells s wk) (hr : Prs b T wv W s' w') (hc : Chg (OneB b) wk w') : Stp b T wv W w v ds nb cells s' w' := by
  have hlt := h.lt
  refine ⟨h.own.keep hc (fun x hx e => ?_) (fun x hx e => ?_), hr, h.chg.trans hc (fun _ e => .inl e), h.nd.keep hc (fun e => ?_), h.ge, h.vn, h.lt⟩
  · have e : x = b := e
    have := hx.1; omega
  · have e : x = b := e
    have := (h.own.block x hx).1; omega
  · have e : nb = b := e
    have := h.ge; omega
theorem Stp.set (h : Stp b T wv W w v ds nb cells s wk) (i : Nat) (u : Value) : Stp b T wv W w v ds nb (cells.set i u) s (wk.setCell ⟨nb, i, none⟩ u) := by
  have hc : Chg (OneB nb) wk (wk.setCell ⟨nb, i, none⟩ u) := (Chg.refl (OneB nb) wk).setCell (p := ⟨nb, i, none⟩) (.inl rfl) u
  have hlt := h.lt
  have hge := h.ge
  refine ⟨h.own.keep hc (fun x hx e => hx.2 e) (fun x hx e => h.vn (by rw [← show x = nb from e]; exact hx)), h.prs.keep hc (fun x hx e => ?_), h.chg.trans hc (fun x e => .inr ?_), h.nd.set i u, h.ge, h.vn, h.lt⟩
  · have e : x = nb := e
    omega
  · have e : x = nb := e
    omega
end
def goB (deep : Int) (s : PSt) : Bool := decide (s.code = 0 ∧ ¬ (tok s.rest = [125] ∨ (tok s.rest = [] ∧ deep ≤ 2)))
theorem goB_code {deep : Int} {s : PSt} (h : ¬ s.code = 0) : goB deep s = false := decide_eq_false (fun e => h e.1)
theorem goB_brace {deep : Int} {s : PSt} (h : tok s.rest = [125]) : goB deep s = false := decide_eq_false (fun e => e.2 (.inl h))
theorem goB_end {deep : Int} {s : PSt} (h : tok s.rest = []) (hd : deep ≤ 2) : goB deep s = false := decide_eq_false (fun e => e.2 (.inr ⟨h, hd⟩))
theorem goB_yes {deep : Int} {s : PSt} (h0 : s.code = 0) (h1 : ¬ tok s.rest = [125]) (h2 : tok s.rest = [] → ¬ deep ≤ 2) : goB deep s = true := decide_eq_true ⟨h0, by
  rintro (h | ⟨h, hd⟩)
  · exact h1 h
  · exact h2 h hd⟩

def hashB : List UInt8 → Bool
  | [] => false
  | c :: _ => decide (c.toNat = 35)
theorem hash_eq (c : UInt8) (r : List UInt8) : ((c.toNat : Int) == 35) = hashB (c :: r) := by
  rw [Bool.eq_iff_iff]
  simp only [hashB, beq_iff_eq, decide_eq_true_eq]
  omega
theorem ext_tail (c : UInt8) (r : List UInt8) : (⟨(c :: r).toArray⟩ : ByteArray).extract 1 (r.length + 1) = ⟨r.toArray⟩ := by
  rw [Lib.extract_eq]
  simp
theorem digitB_all {l : List UInt8} (h : l.all (digits.contains ·) = true) : l.all digitB = true := by
  rw [List.all_eq_true] at h ⊢
  intro x hx
  rw [digitB_eq]
  exact h x hx
theorem beq_dec (a b : List UInt8) : (a == b) = decide (a = b) := by
  by_cases h : a = b <;> simp [h]
def itemDt (i : Int) (nm : ByteArray) (r k : Int) (ls : List Dt) : Dt := .agg [.lit (.int .i64 i), .lit (.string nm), .lit (.int .i64 r), .lit (.int .i64 k), .list 5 ls]
theorem itemDt_nd (i : Int) (nm : ByteArray) (r k : Int) (sub : List Nd) : itemDt i nm r k (sub.map Nd.dt) = Nd.dt (.mk i nm r k sub) := by
  unfold itemDt
  rw [← Nd.dts_eq]
  rfl
theorem reads_item {w : World} {S : Nat → Prop} {i : Int} {nm : ByteArray} {r k : Int} {ls : List Dt} {v : Value} (h : Reads w S (.list 5 ls) [v]) : Reads w S (itemDt i nm r k ls) [.int .i64 i, .string nm, .int .i64 r, .int .i64 k, v] :=
  ⟨[_], _, rfl, ⟨rfl, rfl⟩, [_], _, rfl, ⟨rfl, rfl⟩, [_], _, rfl, ⟨rfl, rfl⟩, [_], _, rfl, ⟨rfl, rfl⟩, [v], [], rfl, h, rfl⟩
theorem reads_none (w : World) (S : Nat → Prop) : Reads w S (.list 5 []) [.slice none 0 0] := ⟨none, 0, rfl, Nat.le_refl _, Nat.zero_le _, .inl ⟨rfl, fun _ => rfl⟩⟩
def midS (T : Nat) (deep : Int) (s : PSt) : PSt := if tok s.rest = [123] ∧ deep = 6 then s.fail T 2 else s
/-- What nodes hands back. -/
def RetPN (b T : Nat) (wv : Value) (W : List (List UInt8 × Int)) (deep : Int) (rest0 : List UInt8) (w : World) (en : Ending) (w' : World) : Prop :=
  ∃ (v : Value) (l : List Dt) (s : PSt), en = .returned v ∧ Own w' w.heap.size 24 5 (fun x => w.heap.size ≤ x) v l ∧ Prs b T wv W s w' ∧ Chg (OneB b) w w' ∧ PDone T deep rest0 l s ∧ s.rest.length ≤ rest0.length ∧ l.length ≤ rest0.length + 1
def PnRel (b T : Nat) (wv : Value) (W : List (List UInt8 × Int)) (deep : Int) (rest0 : List UInt8) (w : World) (vl : Value) (wr : World) : Prop :=
  ∃ (l : List Dt) (s : PSt) (ao : Option Addr) (cap : Nat), vl = .slice ao l.length cap ∧ Own wr w.heap.size 24 5 (fun x => w.heap.size ≤ x) vl l ∧ Prs b T wv W s wr ∧ Chg (OneB b) w wr ∧ PWant T deep rest0 l s ∧ s.rest.length ≤ rest0.length
theorem repT3_len : repT3.length = 3 := rfl

set_option maxHeartbeats 4000000 in
set_option maxRecDepth 100000 in
theorem pnodes_any (b T : Nat) (wv : Value) (W : List (List UInt8 × Int)) : ∀ (m : Nat) (deep : Int) (s0 : PSt) (w : World), 2 ≤ deep → deep ≤ 6 → 7 - deep ≤ m → s0.code = 0 → s0.rest.length ≤ 8000 → Prs b T wv W s0 w →
    Calls Tryz.prog 55 #[.pointer (some ⟨b, 0, none⟩), .int .i64 deep] w (RetPN b T wv W deep s0.rest w) := by
  intro m
  induction m with
  | zero => intro deep s0 w h1 h2 h3; omega
  | succ m ih =>
    intro deep s0 w hd2 hd6 hm hs0 hr8 hP
    have Hih := Lib.hid ih
    clear ih
    have hblt := hP.lt
    go_enter Tryz.func55, Tryz.ntmps55
    go_wp2_with fail
    go_loopw [5] (fun vl wr => PnRel b T wv W deep s0.rest w vl wr) (fun vl _ => s0.rest.length + 2 - lenV vl)
    case atStart =>
      exact ⟨[], s0, none, 0, rfl, Own.nil _ _ _ _ _, hP, Chg.refl _ _, want_start T deep s0 hs0, Nat.le_refl _⟩
    case round =>
      obtain ⟨l, s, ao, cap, rfl, hown, hPr, hc, hwant, hsl⟩ := hrel
      have hlw := hwant.len
      have Hwant := Lib.hid hwant
      clear hwant
      go_upto_region 2 with fail
      go_cut [27] (fun v27 wx => v27 = .bool (goB deep s) ∧ Chg NoB wr wx)
      case first =>
        have c2 := hPr.code
        by_cases h0 : s.code = 0
        · have hw := word_any hPr
          have Hw := Lib.hid hw
          clear hw
          go_wp2_with fail
          refine Hw.out.mono ?_
          rintro en w1 ⟨rfl, hc1⟩
          by_cases hA : tok s.rest = [125]
          · have hg := Lib.hid (goB_brace (deep := deep) hA)
            have hA' : (tok s.rest == [125]) = true := by simpa using hA
            clear hA
            go_wp2_with fail
            go_meet
            rw [hg.out]
            exact ⟨rfl, hc1⟩
          · have hA' : (tok s.rest == [125]) = false := by simpa using hA
            have hw2 := word_any (hPr.keep0 hc1)
            have Hw2 := Lib.hid hw2
            clear hw2
            by_cases hB : tok s.rest = []
            · have hB' : (tok s.rest).isEmpty = true := by rw [hB]; rfl
              by_cases hd : deep ≤ 2
              · have hg := Lib.hid (goB_end hB hd)
                clear hA hB
                go_wp2_with fail
                refine Hw2.out.mono ?_
                rintro en w2 ⟨rfl, hc2⟩
                go_wp2_with fail
                go_meet
                rw [hg.out]
                exact ⟨congrArg Value.bool (decide_eq_false (by omega)), hc1.tr hc2⟩
              · have hg := Lib.hid (goB_yes h0 hA (fun _ => hd))
                have hd' : 2 < deep := by omega
                clear hA hB hd
                go_wp2_with fail
                refine Hw2.out.mono ?_
                rintro en w2 ⟨rfl, hc2⟩
                go_wp2_with fail
                go_meet
                rw [hg.out]
                exact ⟨rfl, hc1.tr hc2⟩
            · have hB' : (tok s.rest).isEmpty = false := by simpa using hB
              have hg := Lib.hid (goB_yes (deep := deep) h0 hA (fun h => absurd h hB))
              clear hA hB
              go_wp2_with fail
              refine Hw2.out.mono ?_
              rintro en w2 ⟨rfl, hc2⟩
              go_wp2_with fail
              go_meet
              rw [hg.out]
              exact ⟨rfl, hc1.tr hc2⟩
        · have hg := Lib.hid (goB_code (deep := deep) h0)
          go_wp2_with fail
          go_meet
          rw [hg.out]
          exact ⟨rfl, Chg.refl _ _⟩
      case rest =>
        obtain ⟨rfl, hcg⟩ := hcut
        cases hgo : goB deep s with
        | false =>
          have hstop : s.code = 0 → tok s.rest = [125] ∨ (tok s.rest = [] ∧ deep ≤ 2) := fun h0 => Decidable.of_not_not (fun e => by
            have := decide_eq_false_iff_not.1 hgo
            exact this ⟨h0, e⟩)
          have hdone := want_stop Hwant.out hstop
          have Hdone := Lib.hid hdone
          clear hstop hdone hgo
          go_wp2_with fail
          go_ret
          exact ⟨_, l, s, rfl, hown.keep hcg (fun _ _ => NoB.elim) (fun _ _ => NoB.elim), hPr.keep0 hcg, hc.tr hcg, Hdone.out, hsl, hlw⟩
        | true =>
          obtain ⟨hs00, hgo2⟩ := of_decide_eq_true hgo
          have Hgo2 := Lib.hid hgo2
          clear hgo hgo2
          have hownC := hown.keep hcg (fun _ _ => NoB.elim) (fun _ _ => NoB.elim)
          have hPC := hPr.keep0 hcg
          have hcC := hc.tr hcg
          clear hown hPr hc hcg
          go_upto_region 3 with fail
          go_cut [6] (fun v6 wx => ∃ nb, v6 = .pointer (some ⟨nb, 0, none⟩) ∧ Stp b T wv W w (.slice ao l.length cap) l nb (ndCells 0 ⟨#[]⟩ (repF (tok s.rest)) 0 (.slice none 0 0)) s wx)
          case first =>
            go_wp2_with fail
            generalize hw1 : wc.alloc _ = w1
            have hc1 : Chg NoB wc w1 := by
              rw [← hw1]
              repeat (first | exact Chg.refl _ _ | apply Chg.alloc | apply Chg.drew)
            have hb1 : Blk w1 (wc.heap.size) (repT3.map Value.string) 9 := by
              rw [← hw1]
              repeat (first | exact Blk.newAt (by first | rfl | (simp; done) | (simp; omega)) | apply Blk.alloc | apply Blk.drew)
            clear hw1
            refine (word_any (hPC.keep0 hc1)).mono ?_
            rintro en w2 ⟨rfl, hc2⟩
            have hb2 := hb1.keep hc2 NoB.elim
            go_wp2_with fail
            refine (index_any repT3 ⟨(tok s.rest).toArray⟩ wc.heap.size 0 3 w2 (by decide) (fun j z hz => by
              rw [Nat.zero_add, hb2.cell j, List.getElem?_map, hz]
              rfl)).mono ?_
            rintro en w3 ⟨rfl, h0⟩
            obtain rfl := h0.symm
            clear h0
            have hix := idxT_bd repT3 (tok s.rest)
            have hrf : repF (tok s.rest) = 1 + idxT repT3 (tok s.rest) := rfl
            rw [show Lib.idxOfS repT3 ⟨(tok s.rest).toArray⟩ = idxT repT3 (tok s.rest) from rfl]
            rw [repT3_len] at hix
            have Hrf := Lib.hid hrf
            clear hrf
            generalize idxT repT3 (tok s.rest) = ri at *
            go_wp2_with fail
            go_meet
            have hc12 := hc1.tr hc2
            have hcA := hc12.alloc (.cells (ndCells 0 ⟨#[]⟩ (1 + ri) 0 (.slice none 0 0)).toArray 24)
            have hsz := hc12.size
            refine ⟨w2.heap.size, rfl, ?_, hPC.keep0 hcA, hcC.tr hcA, ?_, ?_, fun e => ?_, hblt⟩
            · exact (hownC.inHeap.mono (Nat.le_refl _) (fun x hx => ⟨hx.1, by have := hx.2; omega⟩)).keep hcA (fun _ _ => NoB.elim) (fun _ _ => NoB.elim)
            · rw [Hrf.out]; exact Blk.new w2 (ndCells 0 ⟨#[]⟩ (1 + ri) 0 (.slice none 0 0)) 24
            · have := hcC.size; omega
            · have := (hownC.block _ e).2; omega
          case rest =>
            obtain ⟨nb, rfl, hst⟩ := hcut
            clear hownC hPC hcC
            have x2 : wc.cell? ⟨nb, 2, none⟩ = some (.int .i64 (repF (tok s.rest))) := hst.nd.cell 2
            go_wp2_with fail
            refine (take_any (decide (0 < repF (tok s.rest))) hst.prs).mono ?_
            rintro en w2 ⟨rfl, hp2, hc2⟩
            replace hst := hst.next hp2 hc2
            clear hp2 hc2 x2
            obtain ⟨s1, hs1⟩ : ∃ x, x = s.take T (decide (0 < repF (tok s.rest))) := ⟨_, rfl⟩
            rw [← hs1] at hst
            have Hs1 := Lib.hid hs1
            clear hs1
            go_wp2_with fail
            generalize hw3 : w2.alloc _ = w3
            have hc3 : Chg NoB w2 w3 := by
              rw [← hw3]
              repeat (first | exact Chg.refl _ _ | apply Chg.alloc | apply Chg.drew)
            have hb3 : Blk w3 (w2.heap.size) (kindT.map Value.string) 9 := by
              rw [← hw3]
              repeat (first | exact Blk.newAt (by first | rfl | (simp; done) | (simp; omega)) | apply Blk.alloc | apply Blk.drew)
            clear hw3
            replace hst := hst.keep0 hc3
            refine (word_any hst.prs).mono ?_
            rintro en w4 ⟨rfl, hc4⟩
            have hb4 := hb3.keep hc4 NoB.elim
            replace hst := hst.keep0 hc4
            go_wp2_with fail
            refine (index_any kindT ⟨(tok s1.rest).toArray⟩ w2.heap.size 0 6 w4 (by decide) (fun j z hz => by
              rw [Nat.zero_add, hb4.cell j, List.getElem?_map, hz]
              rfl)).mono ?_
            rintro en w5 ⟨rfl, h0⟩
            obtain rfl := h0.symm
            clear h0
            rw [show Lib.idxOfS kindT ⟨(tok s1.rest).toArray⟩ = idxT kindT (tok s1.rest) from rfl]
            have k1 : w4.cell? ⟨nb, 3, none⟩ = some (.int .i64 0) := hst.nd.cell 3
            have k2 : w4.frozen? ⟨nb, 3, none⟩ = false := hst.nd.free 3
            clear hc3 hc4 hb3 hb4
            replace hst := hst.set 3 (.int .i64 (idxT kindT (tok s1.rest)))
            simp only [ndCells, List.set_cons_zero, List.set_cons_succ] at hst
            have x3 : (w4.setCell ⟨nb, 3, none⟩ (.int .i64 (idxT kindT (tok s1.rest)))).cell? ⟨nb, 3, none⟩ = some (.int .i64 (idxT kindT (tok s1.rest))) := hst.nd.cell 3
            go_wp2_with fail
            refine (take_any (decide (0 ≤ idxT kindT (tok s1.rest))) hst.prs).mono ?_
            rintro en w6 ⟨rfl, hp6, hc6⟩
            replace hst := hst.next hp6 hc6
            clear hp6 hc6 k1 k2 x3
            obtain ⟨s2, hs2⟩ : ∃ x, x = s1.take T (decide (0 ≤ idxT kindT (tok s1.rest))) := ⟨_, rfl⟩
            rw [← hs2] at hst
            have Hs2 := Lib.hid hs2
            clear hs2
            go_wp2_with fail
            refine (word_any hst.prs).mono ?_
            rintro en w7 ⟨rfl, hc7⟩
            replace hst := hst.keep0 hc7
            clear hc7
            go_upto_region 8 with fail
            have x1 : w7.cell? ⟨nb, 1, none⟩ = some (.string ⟨#[]⟩) := hst.nd.cell 1
            have x1f : w7.frozen? ⟨nb, 1, none⟩ = false := hst.nd.free 1
            go_cut [7] (fun _ wx => Stp b T wv W w (.slice ao l.length cap) l nb (ndCells 0 ⟨(tok s2.rest).toArray⟩ (repF (tok s.rest)) (idxT kindT (tok s1.rest)) (.slice none 0 0)) (s2.take T (headB (tok s2.rest))) wx)
            case first =>
              have hend : ∀ (ok : Bool), ok = headB (tok s2.rest) → Calls Tryz.prog 84 #[.pointer (some ⟨b, 0, none⟩), .bool ok] w7 (fun en w' => en = .returned (.string ⟨(tok s2.rest).toArray⟩) ∧ Stp b T wv W w (.slice ao l.length cap) l nb (ndCells 0 ⟨#[]⟩ (repF (tok s.rest)) (idxT kindT (tok s1.rest)) (.slice none 0 0)) (s2.take T (headB (tok s2.rest))) w') := fun ok hok =>
                (take_any ok hst.prs).mono fun en w' hq => ⟨hq.1, hst.next (by rw [← hok]; exact hq.2.1) hq.2.2⟩
              have Hend := Lib.hid hend
              clear hend
              rcases ht : tok s2.rest with _ | ⟨c, r⟩
              · have Ht := Lib.hid ht
                clear ht
                go_wp2_with fail
                refine (Hend.out false (by rw [Ht.out]; rfl)).mono ?_
                rintro en w8 ⟨rfl, hst8⟩
                have y1 : w8.cell? ⟨nb, 1, none⟩ = some (.string ⟨#[]⟩) := hst8.nd.cell 1
                have y2 : w8.frozen? ⟨nb, 1, none⟩ = false := hst8.nd.free 1
                go_wp2_with fail
                go_meet
                exact hst8.set 1 _
              · have Ht := Lib.hid ht
                clear ht
                have hpos : 0 < (⟨(c :: r).toArray⟩ : ByteArray).size := Nat.succ_pos _
                have hL := isLetter_any ((⟨(c :: r).toArray⟩ : ByteArray)[0]'hpos) w7
                go_wp2_with fail
                refine hL.mono ?_
                rintro en w0 ⟨rfl, h0⟩
                obtain rfl := h0.symm
                clear h0 hL
                go_wp2_with fail
                refine (Hend.out _ (by rw [Ht.out]; rfl)).mono ?_
                rintro en w8 ⟨rfl, hst8⟩
                have y1 : w8.cell? ⟨nb, 1, none⟩ = some (.string ⟨#[]⟩) := hst8.nd.cell 1
                have y2 : w8.frozen? ⟨nb, 1, none⟩ = false := hst8.nd.free 1
                go_wp2_with fail
                go_meet
                exact hst8.set 1 _
            case rest =>
              replace hst := hcut
              clear hcut x1 x1f
              obtain ⟨s3, hs3⟩ : ∃ x, x = s2.take T (headB (tok s2.rest)) := ⟨_, rfl⟩
              rw [← hs3] at hst
              have Hs3 := Lib.hid hs3
              have hlen3 : s3.rest.length ≤ 8000 := by
                have a1 : s1.rest.length ≤ s.rest.length := by rw [Hs1.out]; exact take_len
                have a2 : s2.rest.length ≤ s1.rest.length := by rw [Hs2.out]; exact take_len
                have a3 : s3.rest.length ≤ s2.rest.length := by rw [hs3]; exact take_len
                omega
              have Hlen3 := Lib.hid hlen3
              clear hs3 hlen3
              go_wp2_with fail
              refine (word_any hst.prs).mono ?_
              rintro en w9 ⟨rfl, hc9⟩
              replace hst := hst.keep0 hc9
              clear hc9
              go_upto_region 10 with fail
              go_cut [7, 69] (fun v7 v69 wx => v7 = .string ⟨(tok s3.rest).toArray⟩ ∧ v69 = .bool (hashB (tok s3.rest)) ∧ wx = w9)
              case first =>
                rcases ht : tok s3.rest with _ | ⟨c, r⟩
                · have Ht := Lib.hid ht
                  clear ht
                  go_wp2_with fail
                  go_meet
                  rw [Ht.out]
                  exact ⟨rfl, rfl, rfl⟩
                · have Ht := Lib.hid ht
                  clear ht
                  have hpos : 0 < (⟨(c :: r).toArray⟩ : ByteArray).size := Nat.succ_pos _
                  go_wp2_with fail
                  go_meet
                  rw [Ht.out]
                  exact ⟨rfl, congrArg Value.bool (hash_eq c r), rfl⟩
              case rest =>
                obtain ⟨rfl, rfl, rfl⟩ := hcut
                have x0 : wc.cell? ⟨nb, 0, none⟩ = some (.int .i64 0) := hst.nd.cell 0
                have x0f : wc.frozen? ⟨nb, 0, none⟩ = false := hst.nd.free 0
                go_upto_if 69 with fail
                go_cut [7] (fun v7 wx => v7 = .string ⟨(tok s3.rest).toArray⟩ ∧ Stp b T wv W w (.slice ao l.length cap) l nb (ndCells (refId (tok s3.rest)) ⟨(tok s2.rest).toArray⟩ (repF (tok s.rest)) (idxT kindT (tok s1.rest)) (.slice none 0 0)) s3 wx)
                case first =>
                  have htl : (tok s3.rest).length ≤ 8000 := by
                    have := tok_le s3.rest
                    have := Hlen3.out
                    omega
                  have hdg := @tok_digits
                  rcases ht : tok s3.rest with _ | ⟨c, r⟩
                  · have Ht := Lib.hid ht
                    rw [show hashB [] = false from rfl]
                    clear ht hdg
                    go_wp2_with fail
                    go_meet
                    rw [Ht.out]
                    exact ⟨rfl, hst⟩
                  · by_cases h35 : c.toNat = 35
                    · rw [show hashB (c :: r) = true from decide_eq_true h35]
                      have hN := numberOf_any r wc (by rw [ht] at htl; simp only [List.length_cons] at htl; omega) (digitB_all (tok_digits ht h35))
                      have hri : refId (c :: r) = numberF r := if_pos h35
                      have Hri := Lib.hid hri
                      have Ht := Lib.hid ht
                      clear ht h35 hri hdg
                      go_wp2_with fail
                      rw [ext_tail]
                      refine hN.mono ?_
                      rintro en w0 ⟨rfl, h0⟩
                      obtain rfl := h0.symm
                      clear h0 hN
                      go_wp2_with fail
                      go_meet
                      rw [Ht.out, Hri.out]
                      exact ⟨rfl, hst.set 0 _⟩
                    · rw [show hashB (c :: r) = false from decide_eq_false h35]
                      have Ht := Lib.hid ht
                      have hr0 : refId (c :: r) = 0 := if_neg h35
                      have Hr0 := Lib.hid hr0
                      clear ht hr0 hdg h35
                      go_wp2_with fail
                      go_meet
                      rw [Ht.out, Hr0.out]
                      exact ⟨rfl, hst⟩
                case rest =>
                  obtain ⟨rfl, hst0⟩ := hcut
                  replace hst := hst0
                  clear hst0 x0 x0f
                  have x0 : wc.cell? ⟨nb, 0, none⟩ = some (.int .i64 (refId (tok s3.rest))) := hst.nd.cell 0
                  go_upto_region 12 with fail
                  go_cut [7] (fun _ wx => Stp b T wv W w (.slice ao l.length cap) l nb (ndCells (refId (tok s3.rest)) ⟨(tok s2.rest).toArray⟩ (repF (tok s.rest)) (idxT kindT (tok s1.rest)) (.slice none 0 0)) (s3.take T (decide (0 < refId (tok s3.rest)))) wx)
                  case first =>
                    have hend : ∀ (ok : Bool), ok = decide (0 < refId (tok s3.rest)) → Calls Tryz.prog 84 #[.pointer (some ⟨b, 0, none⟩), .bool ok] wc (fun en w' => (∃ v, en = .returned (.string v)) ∧ Stp b T wv W w (.slice ao l.length cap) l nb (ndCells (refId (tok s3.rest)) ⟨(tok s2.rest).toArray⟩ (repF (tok s.rest)) (idxT kindT (tok s1.rest)) (.slice none 0 0)) (s3.take T (decide (0 < refId (tok s3.rest)))) w') := fun ok hok =>
                      (take_any ok hst.prs).mono fun en w' hq => ⟨⟨_, hq.1⟩, hst.next (by rw [← hok]; exact hq.2.1) hq.2.2⟩
                    have Hend := Lib.hid hend
                    clear hend
                    rcases ht : tok s3.rest with _ | ⟨c, r⟩
                    · have Ht := Lib.hid ht
                      clear ht
                      go_wp2_with fail
                      refine (Hend.out false (by rw [Ht.out]; rfl)).mono ?_
                      rintro en w8 ⟨⟨v8, rfl⟩, hst8⟩
                      go_wp2_with fail
                      go_meet
                      exact hst8
                    · have hpos : 0 < (⟨(c :: r).toArray⟩ : ByteArray).size := Nat.succ_pos _
                      by_cases h35 : c.toNat = 35
                      · have h35' : (((⟨(c :: r).toArray⟩ : ByteArray)[0]'hpos).toNat : Int) = 35 := by show (c.toNat : Int) = 35; omega
                        have Ht := Lib.hid ht
                        rw [ht] at x0
                        clear ht
                        go_wp2_with fail
                        refine (Hend.out _ (by rw [Ht.out])).mono ?_
                        rintro en w8 ⟨⟨v8, rfl⟩, hst8⟩
                        go_wp2_with fail
                        go_meet
                        exact hst8
                      · have h35' : ((((⟨(c :: r).toArray⟩ : ByteArray)[0]'hpos).toNat : Int) == 35) = false := by show ((c.toNat : Int) == 35) = false; simp; omega
                        have hr0 : refId (c :: r) = 0 := if_neg h35
                        have Hr0 := Lib.hid hr0
                        have Ht := Lib.hid ht
                        clear ht hr0 h35
                        go_wp2_with fail
                        refine (Hend.out false (by rw [Ht.out, Hr0.out]; rfl)).mono ?_
                        rintro en w8 ⟨⟨v8, rfl⟩, hst8⟩
                        go_wp2_with fail
                        go_meet
                        exact hst8
                  case rest =>
                    replace hst := hcut
                    clear hcut x0
                    obtain ⟨s4, hs4⟩ : ∃ x, x = s3.take T (decide (0 < refId (tok s3.rest))) := ⟨_, rfl⟩
                    rw [← hs4] at hst
                    have hv : headV T s = ⟨repF (tok s.rest), idxT kindT (tok s1.rest), tok s2.rest, refId (tok s3.rest)⟩ := by
                      rw [Hs3.out, Hs2.out, Hs1.out]
                      rfl
                    have h4 : s4 = head4 T s := by
                      rw [hs4, Hs3.out, Hs2.out, Hs1.out]
                      rfl
                    have hlen4 : s4.rest.length ≤ s.rest.length := by
                      have a1 : s1.rest.length ≤ s.rest.length := by rw [Hs1.out]; exact take_len
                      have a2 : s2.rest.length ≤ s1.rest.length := by rw [Hs2.out]; exact take_len
                      have a3 : s3.rest.length ≤ s2.rest.length := by rw [Hs3.out]; exact take_len
                      have a4 : s4.rest.length ≤ s3.rest.length := by rw [hs4]; exact take_len
                      omega
                    clear hs4 Hlen3
                    generalize repF (tok s.rest) = vr at hv hst
                    generalize idxT kindT (tok s1.rest) = kd at hv hst
                    generalize tok s2.rest = vn at hv hst
                    generalize refId (tok s3.rest) = vi at hv hst
                    have hwh := want_head (s5 := headEnd T deep kd s4) (v := ⟨vr, kd, vn, vi⟩) hd6 Hwant.out hs00 Hgo2.out hv.symm (by rw [h4])
                    clear Hs1 Hs2 Hs3 Hwant Hgo2 hv h4
                    have x3 : wc.cell? ⟨nb, 3, none⟩ = some (.int .i64 kd) := hst.nd.cell 3
                    by_cases hk : kd = 0
                    · subst hk
                      obtain ⟨sm, hsm⟩ : ∃ x, x = midS T deep s4 := ⟨_, rfl⟩
                      obtain ⟨s5, hs5⟩ : ∃ x, x = sm.take T (decide (tok sm.rest = [123])) := ⟨_, rfl⟩
                      have hE : headEnd T deep 0 s4 = s5 := by rw [hs5, hsm]; rfl
                      rw [hE] at hwh
                      have hlm : sm.rest.length ≤ s4.rest.length := by
                        rw [hsm]
                        unfold midS
                        split
                        · exact fail_len
                        · exact Nat.le_refl _
                      have hl5 : s5.rest.length ≤ sm.rest.length := by rw [hs5]; exact take_len
                      have Hwh := Lib.hid hwh
                      have Hsm := Lib.hid hsm
                      have Hs5 := Lib.hid hs5
                      clear hwh hE hsm hs5
                      go_upto_region 15 with fail
                      go_cut [102] (fun v102 wx => v102 = .bool (decide (tok s4.rest = [123] ∧ deep = 6)) ∧ Chg NoB wc wx)
                      case first =>
                        go_wp2_with fail
                        refine (word_any hst.prs).mono ?_
                        rintro en w8 ⟨rfl, hc8⟩
                        by_cases h123 : tok s4.rest = [123]
                        · have hb1 : (tok s4.rest == [123]) = true := by simpa using h123
                          have H123 := Lib.hid h123
                          clear h123
                          go_wp2_with fail
                          go_meet
                          exact ⟨congrArg Value.bool (by rw [H123.out]; by_cases h : deep = 6 <;> simp [h]), hc8⟩
                        · have hb1 : (tok s4.rest == [123]) = false := by simpa using h123
                          have hdf : decide (tok s4.rest = [123] ∧ deep = 6) = false := decide_eq_false (fun h => h123 h.1)
                          have Hdf := Lib.hid hdf
                          clear h123 hdf
                          go_wp2_with fail
                          go_meet
                          rw [Hdf.out]
                          exact ⟨rfl, hc8⟩
                      case rest =>
                        obtain ⟨rfl, hc8⟩ := hcut
                        replace hst := hst.keep0 hc8
                        clear hc8 x3
                        go_upto_if 102 with fail
                        go_cut [] (fun wx => Stp b T wv W w (.slice ao l.length cap) l nb (ndCells vi ⟨vn.toArray⟩ vr 0 (.slice none 0 0)) sm wx)
                        case first =>
                          by_cases hmd : tok s4.rest = [123] ∧ deep = 6
                          · rw [decide_eq_true hmd]
                            have hse : sm = s4.fail T 2 := by rw [Hsm.out]; exact if_pos hmd
                            have Hse := Lib.hid hse
                            clear hse hmd
                            go_wp2_with fail
                            refine (fail_any 2 hst.prs).mono ?_
                            rintro en w9 ⟨rfl, hp9, hc9⟩
                            rw [← Hse.out] at hp9
                            go_wp2_with fail
                            go_meet
                            exact hst.next hp9 hc9
                          · rw [decide_eq_false hmd]
                            have hse : sm = s4 := by rw [Hsm.out]; exact if_neg hmd
                            rw [← hse] at hst
                            clear hse hmd
                            go_wp2_with fail
                            go_meet
                            exact hst
                        case rest =>
                          replace hst := hcut
                          clear hcut
                          go_wp2_with fail
                          refine (word_any hst.prs).mono ?_
                          rintro en w10 ⟨rfl, hc10⟩
                          replace hst := hst.keep0 hc10
                          clear hc10
                          go_wp2_with fail
                          refine (take_any (tok sm.rest == [123]) hst.prs).mono ?_
                          rintro en w11 ⟨rfl, hp11, hc11⟩
                          rw [beq_dec, ← Hs5.out] at hp11
                          replace hst := hst.next hp11 hc11
                          clear hp11 hc11 Hs5 Hsm
                          have cc := hst.prs.code
                          by_cases h50 : s5.code = 0
                          · have hthird : deep < 6 ∧ ∀ ls s6, PDone T (deep + 1) s5.rest ls s6 → s6.rest.length ≤ s5.rest.length → PWant T deep s0.rest (l ++ [itemDt vi ⟨vn.toArray⟩ vr 0 ls]) (s6.take T (decide (tok s6.rest = [125]))) := by
                              rcases Hwh.out with ⟨h, _⟩ | ⟨_, h, _⟩ | ⟨_, _, h6, _, h7⟩
                              · exact absurd h50 h
                              · exact absurd rfl h
                              · refine ⟨h6, fun ls s6 h8 h9 => ?_⟩
                                obtain ⟨g1, g2⟩ := h7 ls s6 h8 h9
                                by_cases hc : (s6.take T (decide (tok s6.rest = [125]))).code = 0
                                · obtain ⟨sub, rfl, g3⟩ := g2 hc
                                  rw [itemDt_nd]
                                  exact g3
                                · exact g1 _ hc
                            obtain ⟨hd6', hth⟩ := hthird
                            have Hth := Lib.hid hth
                            clear hth Hwh
                            go_wp2_with fail
                            have hlt9 := hst.nd.lt
                            have hsz9 := hst.chg.size
                            have hob := fun x e => (hst.own.block x e).2
                            have hbw := hst.prs.lt
                            refine (Hih.out (deep + 1) s5 w11 (by omega) (by omega) (by omega) h50 (by omega) hst.prs).mono ?_
                            rintro en w12 ⟨v5, ls, s6, rfl, ho5, hp6, hc12, hdone, hsl6, hll⟩
                            obtain ⟨a5, cap5, rfl⟩ := ho5.form
                            have hpw := Hth.out ls s6 hdone hsl6
                            have Hpw := Lib.hid hpw
                            obtain ⟨s7, hs7⟩ : ∃ x, x = s6.take T (decide (tok s6.rest = [125])) := ⟨_, rfl⟩
                            have hl7 : s7.rest.length ≤ s6.rest.length := by rw [hs7]; exact take_len
                            rw [← hs7] at hpw
                            have Hpw := Lib.hid hpw
                            have Hsl5 := Lib.hid (show s7.rest.length ≤ s0.rest.length from by omega)
                            clear hpw Hth hdone hl7
                            replace hst := hst.next hp6 hc12
                            have z4 : w12.cell? ⟨nb, 4, none⟩ = some (.slice none 0 0) := hst.nd.cell 4
                            have z4f : w12.frozen? ⟨nb, 4, none⟩ = false := hst.nd.free 4
                            have hsub := (ho5.reads (S' := fun x => w11.heap.size ≤ x) (fun _ h => h) (fun _ h _ => h) ho5.len).chg ((Chg.refl (OneB nb) w12).setCell (p := ⟨nb, 4, none⟩) (.inl rfl) (.slice a5 ls.length cap5)) (fun x hx e => by have e : x = nb := e; omega)
                            replace hst := hst.set 4 (.slice a5 ls.length cap5)
                            simp only [ndCells, List.set_cons_zero, List.set_cons_succ] at hst
                            clear hp6 hc12 ho5 cc
                            go_wp2_with fail
                            refine (word_any hst.prs).mono ?_
                            rintro en w13 ⟨rfl, hc13⟩
                            replace hst := hst.keep0 hc13
                            replace hsub := hsub.chg0 hc13
                            clear hc13 z4 z4f
                            go_wp2_with fail
                            refine (take_any (tok s6.rest == [125]) hst.prs).mono ?_
                            rintro en w14 ⟨rfl, hp14, hc14⟩
                            rw [beq_dec, ← hs7] at hp14
                            replace hst := hst.next hp14 hc14
                            replace hsub := hsub.chg hc14 (fun x hx e => by have e : x = b := e; omega)
                            replace hsub := hsub.mono (S' := fun x => (w.heap.size ≤ x ∧ x ≠ nb) ∧ (Value.slice ao l.length cap).ownBlock ≠ some x) (fun x hx => ⟨⟨by omega, by omega⟩, fun e => by have := hob x e; omega⟩)
                            clear hp14 hc14 hs7 hob
                            have hcells := hst.nd
                            have y0 : w14.cell? ⟨nb, 0, none⟩ = some (.int .i64 vi) := hcells.cell 0
                            have y1 : w14.cell? ⟨nb, 1, none⟩ = some (.string ⟨vn.toArray⟩) := hcells.cell 1
                            have y2 : w14.cell? ⟨nb, 2, none⟩ = some (.int .i64 vr) := hcells.cell 2
                            have y3 : w14.cell? ⟨nb, 3, none⟩ = some (.int .i64 0) := hcells.cell 3
                            have y4 : w14.cell? ⟨nb, 4, none⟩ = some (.slice a5 ls.length cap5) := hcells.cell 4
                            clear hcells
                            go_wp2_with (at_builtin; refine stop_here ?_)
                            refine Stop.go ?_
                            generalize hwA : World.alloc _ _ = wA
                            have hcA : Chg NoB w14 wA := by
                              rw [← hwA]
                              repeat (first | exact Chg.refl _ _ | apply Chg.alloc | apply Chg.drew)
                            have hbA : Blk wA (w14.heap.size) ([.int .i64 vi, .string ⟨vn.toArray⟩, .int .i64 vr, .int .i64 0, .slice a5 ls.length cap5]) 24 := by
                              rw [← hwA]
                              repeat (first | exact Blk.newAt (by first | rfl | (simp; done) | (simp; omega)) | apply Blk.alloc | apply Blk.drew)
                            clear hwA y0 y1 y2 y3 y4
                            replace hst := hst.keep0 hcA
                            replace hsub := hsub.chg0 hcA
                            have hownA := hst.own
                            refine wpList_own rfl (.tmp 126) (.tmp 128) 22 rfl w.heap.size 24 Tryz.underlying22 infoNode rfl (by decide) rfl hownA rfl [itemDt vi ⟨vn.toArray⟩ vr 0 ls] _ rfl (ReadsC.single rfl (reads_item (hsub.mono ?_))) hbA.news (fun e => by cases e) ?_ ?_ ?_ ?_
                            · exact fun x hx => hx
                            · unfold maxLen; omega
                            · omega
                            · exact hst.chg.size
                            intro ao2 cap2 wB hoB hcB hatB
                            replace hcB : Chg (fun x => (Value.slice ao l.length cap).ownBlock = some x) wA wB := hcB
                            go_wp2_with fail
                            go_roundw
                            case rel =>
                              have hlow9 := hst.lt
                              refine ⟨l ++ [itemDt vi ⟨vn.toArray⟩ vr 0 ls], s7, ao2, cap2, by rw [List.length_append]; rfl, hoB.mono (Nat.le_refl _) (fun x hx => hx.1), hst.prs.keep hcB (fun x hx e => by have := (hownA.block x e).1; omega), hst.chg.trans hcB (fun x e => .inr (hownA.block x e).1), Hpw.out, ?_⟩
                              have := Hsl5.out
                              omega
                            case measure =>
                              simp only [lenV]
                              omega
                          · have hpw : PWant T deep s0.rest (l ++ [itemDt vi ⟨vn.toArray⟩ vr 0 []]) s5 := by
                              rcases Hwh.out with ⟨_, h⟩ | ⟨h, _⟩ | ⟨h, _⟩
                              · exact h _
                              · exact absurd h h50
                              · exact absurd h h50
                            have Hpw := Lib.hid hpw
                            have Hsl5 := Lib.hid (show s5.rest.length ≤ s0.rest.length from by omega)
                            have hsub := reads_none w11 (fun x => (w.heap.size ≤ x ∧ x ≠ nb) ∧ (Value.slice ao l.length cap).ownBlock ≠ some x)
                            clear hpw Hwh
                            have hcells := hst.nd
                            have y0 : w11.cell? ⟨nb, 0, none⟩ = some (.int .i64 vi) := hcells.cell 0
                            have y1 : w11.cell? ⟨nb, 1, none⟩ = some (.string ⟨vn.toArray⟩) := hcells.cell 1
                            have y2 : w11.cell? ⟨nb, 2, none⟩ = some (.int .i64 vr) := hcells.cell 2
                            have y3 : w11.cell? ⟨nb, 3, none⟩ = some (.int .i64 0) := hcells.cell 3
                            have y4 : w11.cell? ⟨nb, 4, none⟩ = some (.slice none 0 0) := hcells.cell 4
                            clear hcells
                            go_wp2_with (at_builtin; refine stop_here ?_)
                            refine Stop.go ?_
                            generalize hwA : World.alloc _ _ = wA
                            have hcA : Chg NoB w11 wA := by
                              rw [← hwA]
                              repeat (first | exact Chg.refl _ _ | apply Chg.alloc | apply Chg.drew)
                            have hbA : Blk wA (w11.heap.size) ([.int .i64 vi, .string ⟨vn.toArray⟩, .int .i64 vr, .int .i64 0, .slice none 0 0]) 24 := by
                              rw [← hwA]
                              repeat (first | exact Blk.newAt (by first | rfl | (simp; done) | (simp; omega)) | apply Blk.alloc | apply Blk.drew)
                            clear hwA y0 y1 y2 y3 y4
                            replace hst := hst.keep0 hcA
                            replace hsub := hsub.chg0 hcA
                            have hownA := hst.own
                            refine wpList_own rfl (.tmp 126) (.tmp 128) 22 rfl w.heap.size 24 Tryz.underlying22 infoNode rfl (by decide) rfl hownA rfl [itemDt vi ⟨vn.toArray⟩ vr 0 []] _ rfl (ReadsC.single rfl (reads_item (hsub.mono ?_))) hbA.news (fun e => by cases e) ?_ ?_ ?_ ?_
                            · exact fun x hx => hx
                            · unfold maxLen; omega
                            · omega
                            · exact hst.chg.size
                            intro ao2 cap2 wB hoB hcB hatB
                            replace hcB : Chg (fun x => (Value.slice ao l.length cap).ownBlock = some x) wA wB := hcB
                            go_wp2_with fail
                            go_roundw
                            case rel =>
                              have hlow9 := hst.lt
                              refine ⟨l ++ [itemDt vi ⟨vn.toArray⟩ vr 0 []], s5, ao2, cap2, by rw [List.length_append]; rfl, hoB.mono (Nat.le_refl _) (fun x hx => hx.1), hst.prs.keep hcB (fun x hx e => by have := (hownA.block x e).1; omega), hst.chg.trans hcB (fun x e => .inr (hownA.block x e).1), Hpw.out, ?_⟩
                              have := Hsl5.out
                              omega
                            case measure =>
                              simp only [lenV]
                              omega
                    · obtain ⟨s5, hs5⟩ : ∃ x, x = s4.take T (decide (tok s4.rest = [59])) := ⟨_, rfl⟩
                      have hE : headEnd T deep kd s4 = s5 := by unfold headEnd; rw [if_neg hk, hs5]
                      rw [hE] at hwh
                      have hpw : PWant T deep s0.rest (l ++ [itemDt vi ⟨vn.toArray⟩ vr kd []]) s5 := by
                        rcases hwh with ⟨_, h⟩ | ⟨_, _, h⟩ | ⟨_, h, _⟩
                        · exact h _
                        · exact h
                        · exact absurd h hk
                      have hsl5 : s5.rest.length ≤ s0.rest.length := by
                        have : s5.rest.length ≤ s4.rest.length := by rw [hs5]; exact take_len
                        omega
                      have Hsl5 := Lib.hid hsl5
                      have Hpw := Lib.hid hpw
                      clear hwh hE hpw hsl5
                      go_wp2_with fail
                      refine (word_any hst.prs).mono ?_
                      rintro en w8 ⟨rfl, hc8⟩
                      replace hst := hst.keep0 hc8
                      clear hc8
                      go_wp2_with fail
                      refine (take_any (tok s4.rest == [59]) hst.prs).mono ?_
                      rintro en w9 ⟨rfl, hp9, hc9⟩
                      rw [beq_dec, ← hs5] at hp9
                      replace hst := hst.next hp9 hc9
                      have hsub := reads_none w9 (fun x => (w.heap.size ≤ x ∧ x ≠ nb) ∧ (Value.slice ao l.length cap).ownBlock ≠ some x)
                      clear hp9 hc9 hs5 x3
                      have hcells := hst.nd
                      have y0 : w9.cell? ⟨nb, 0, none⟩ = some (.int .i64 vi) := hcells.cell 0
                      have y1 : w9.cell? ⟨nb, 1, none⟩ = some (.string ⟨vn.toArray⟩) := hcells.cell 1
                      have y2 : w9.cell? ⟨nb, 2, none⟩ = some (.int .i64 vr) := hcells.cell 2
                      have y3 : w9.cell? ⟨nb, 3, none⟩ = some (.int .i64 kd) := hcells.cell 3
                      have y4 : w9.cell? ⟨nb, 4, none⟩ = some (.slice none 0 0) := hcells.cell 4
                      clear hcells
                      go_wp2_with (at_builtin; refine stop_here ?_)
                      refine Stop.go ?_
                      generalize hwA : World.alloc _ _ = wA
                      have hcA : Chg NoB w9 wA := by
                        rw [← hwA]
                        repeat (first | exact Chg.refl _ _ | apply Chg.alloc | apply Chg.drew)
                      have hbA : Blk wA (w9.heap.size) ([.int .i64 vi, .string ⟨vn.toArray⟩, .int .i64 vr, .int .i64 kd, .slice none 0 0]) 24 := by
                        rw [← hwA]
                        repeat (first | exact Blk.newAt (by first | rfl | (simp; done) | (simp; omega)) | apply Blk.alloc | apply Blk.drew)
                      clear hwA y0 y1 y2 y3 y4
                      replace hst := hst.keep0 hcA
                      replace hsub := hsub.chg0 hcA
                      have hownA := hst.own
                      refine wpList_own rfl (.tmp 126) (.tmp 128) 22 rfl w.heap.size 24 Tryz.underlying22 infoNode rfl (by decide) rfl hownA rfl [itemDt vi ⟨vn.toArray⟩ vr kd []] _ rfl (ReadsC.single rfl (reads_item (hsub.mono ?_))) hbA.news (fun e => by cases e) ?_ ?_ ?_ ?_
                      · exact fun x hx => hx
                      · unfold maxLen; omega
                      · omega
                      · exact hst.chg.size
                      intro ao2 cap2 wB hoB hcB hatB
                      replace hcB : Chg (fun x => (Value.slice ao l.length cap).ownBlock = some x) wA wB := hcB
                      go_wp2_with fail
                      go_roundw
                      case rel =>
                        have hlow9 := hst.lt
                        refine ⟨l ++ [itemDt vi ⟨vn.toArray⟩ vr kd []], s5, ao2, cap2, by rw [List.length_append]; rfl, hoB.mono (Nat.le_refl _) (fun x hx => hx.1), hst.prs.keep hcB (fun x hx e => by have := (hownA.block x e).1; omega), hst.chg.trans hcB (fun x e => .inr (hownA.block x e).1), Hpw.out, ?_⟩
                        have := Hsl5.out
                        omega
                      case measure =>
                        simp only [lenV]
                        omega
end Go.Proofs.YtfbbfhhhfbibjaaGreatDoor
