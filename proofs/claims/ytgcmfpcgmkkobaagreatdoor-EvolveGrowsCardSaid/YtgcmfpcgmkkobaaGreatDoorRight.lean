/-
  data.right: the walk.
-/
import Derived.Test.YtgcmfpcgmkkobaaGreatDoorEncOK
import Derived.Deep.CutBlock
import Derived.Test.YtgcmfpcgmkkobaaGreatDoorWordsLaw
set_option linter.unusedVariables false
set_option maxHeartbeats 20000000
set_option maxRecDepth 100000
set_option linter.unusedSimpArgs false
namespace Go.Proofs.YtgcmfpcgmkkobaaGreatDoor
open Go.RowKit
structure Eks (w : World) (E : Er → Value) (K : Value) : Prop where
 errs : Errs w E
 kind : w.cell? ⟨1, 0, none⟩ = some K
 form : ∃ T v, K = .iface T v
theorem Eks.keep0 {w w' : World} {E : Er → Value} {K : Value} (h : Eks w E K) (hc : Chg NoB w w') : Eks w' E K :=
 ⟨h.errs.keep0 hc, (hc.cell (lt_of_cell h.kind) nbE).trans h.kind, h.form⟩
theorem Eks.val {w : World} {E : Er → Value} {K : Value} (h : Eks w E K) (e : Ek) : ∃ T v, ekVal E K (some e) = .iface T v := by
 cases e with
 | er e => exact h.errs.form e
 | kind => exact h.form
def tailF (no : Bool) (k v : Int) (s : ByteArray) (l f : List Dm) (n : Nd) : Option Ek :=
 if n.kind ≠ 0 then
  if bareF no k v s l.length f.length false true false false then (if okF n.kind k v s then none else some .kind) else some (.er .shape)
 else if bareF no k v s l.length f.length false false false true ∧ f.length = n.sub.length then rightP f n.sub else some (.er .shape)
theorem right_tail {no : Bool} {k v : Int} {s : ByteArray} {l f : List Dm} {n : Nd} {one : Bool} (h : one = true ∨ n.rep = 1 ∨ (n.rep = 2 ∧ no = false)) : rightF (.mk no k v s l f) n one = tailF no k v s l f n := by
 unfold rightF tailF
 rw [if_neg (by rintro ⟨h1, h2, h3⟩; rcases h with h | h | h <;> simp_all), if_neg (by rintro ⟨h1, h2, h3⟩; rcases h with h | h | h <;> simp_all)]
def RightLRel (w : World) (l : List Dm) (n : Nd) (vi : Value) (wr : World) : Prop := ∃ j, j ≤ l.length ∧ vi = .int .i64 (j : Nat) ∧ Chg NoB w wr ∧ rightL l n = rightL (l.drop j) n
def RightPRel (w : World) (f : List Dm) (sb : List Nd) (vi : Value) (wr : World) : Prop := ∃ j, j ≤ f.length ∧ vi = .int .i64 (j : Nat) ∧ Chg NoB w wr ∧ rightP f sb = rightP (f.drop j) (sb.drop j)
theorem right_any : ∀ (m : Nat) (d : Dm) (n : Nd) (one : Bool) (w : World) (S S' : Nat → Prop) (cs cs' : List Value) (E : Er → Value) (K : Value), d.weigh ≤ m → Eks w E K → Reads w S n.dt cs → Reads w S' d.dt cs' → d.ok → n.All Shp →
  Calls Tryz.prog 39 #[.agg cs.toArray, .agg cs'.toArray, .bool one] w (RetV (ekVal E K (rightF d n one)) w) := by
 intro m
 induction m with
 | zero => intro d n one w S S' cs cs' E K hm; cases d; simp [Dm.weigh] at hm
 | succ m ih =>
  intro d n one w S S' cs cs' E K hm hE hr hr' hok hsh
  obtain ⟨no, k, v, s, l, f⟩ := d
  have hHl : ∀ d ∈ l, ∀ (w : World) (S S' : Nat → Prop) (cs cs' : List Value), Eks w E K → Reads w S n.dt cs → Reads w S' d.dt cs' → Calls Tryz.prog 39 #[.agg cs.toArray, .agg cs'.toArray, .bool true] w (RetV (ekVal E K (rightF d n true)) w) :=
   fun d hd w S S' cs cs' hE hr hr' => ih d n true w S S' cs cs' E K (by have := Dm.weigh_mem hd; simp only [Dm.weigh] at hm; omega) hE hr hr' (Dm.oks_mem hok.2.2.2.2.2.1 d hd) hsh
  obtain ⟨i, nm, rp, kd, sb⟩ := n
  have hHf : ∀ d ∈ f, ∀ n ∈ sb, ∀ (w : World) (S S' : Nat → Prop) (cs cs' : List Value), Eks w E K → Reads w S n.dt cs → Reads w S' d.dt cs' → Calls Tryz.prog 39 #[.agg cs.toArray, .agg cs'.toArray, .bool false] w (RetV (ekVal E K (rightF d n false)) w) :=
   fun d hd n hn w S S' cs cs' hE hr hr' => ih d n false w S S' cs cs' E K (by have := Dm.weigh_mem hd; simp only [Dm.weigh] at hm; omega) hE hr hr' (Dm.oks_mem hok.2.2.2.2.2.2 d hd) (alls_at hsh.2 n hn)
  have Hl := Lib.hid hHl
  have Hf := Lib.hid hHf
  clear hHl hHf ih hm
  obtain ⟨⟨hr1, hr3, hkd0, hkd5, hlf⟩, hsh2⟩ := hsh
  simp only [Nd.rep, Nd.kind] at hr1 hr3 hkd0 hkd5
  clear hlf hsh2
  obtain ⟨vl, vf, rfl, hsl, hsf⟩ := reads_dm.1 hr'
  have Hr := Lib.hid hr
  obtain ⟨vs, rfl, hss⟩ := reads_nd.1 hr
  obtain ⟨hk, hn, hs, hl, hf, hol, hof⟩ := hok
  clear hol hof hl hf hr hr'
  obtain ⟨al, cl, rfl, hll, hlc, hel⟩ := reads_data hsl
  obtain ⟨af, cf, rfl, hfl, hfc, hef⟩ := reads_data hsf
  obtain ⟨az, cc, rfl, hsl2, hsc, hes⟩ := reads_subs hss
  clear hsl hsf hss
  unfold maxLen at hlc hfc hsc
  go_enter Tryz.func39, Tryz.ntmps39
  go_upto_block 0 with fail
  generalize hw1 : World.alloc _ _ = w1
  have hc1 : Chg NoB w w1 := by
   rw [← hw1]
   repeat (first | exact Chg.refl _ _ | apply Chg.alloc | apply Chg.drew)
  have hx1 : Blk w1 (w.heap.size) (ndCells i nm rp kd (.slice az sb.length cc)) 28 := by
   rw [← hw1]
   repeat (first | exact Blk.newAt (by first | rfl | (simp; done) | (simp; omega)) | apply Blk.alloc | apply Blk.drew)
  have hy1 : Blk w1 (w.heap.size + 1) (dmCells no k v s (.slice al l.length cl) (.slice af f.length cf)) 43 := by
   rw [← hw1]
   repeat (first | exact Blk.newAt (by first | rfl | (simp; done) | (simp; omega)) | apply Blk.alloc | apply Blk.drew)
  clear hw1
  have x0 : w1.cell? ⟨w.heap.size, 0, none⟩ = some (.int .i64 (i)) := hx1.cell 0
  have x1 : w1.cell? ⟨w.heap.size, 1, none⟩ = some (.string nm) := hx1.cell 1
  have x2 : w1.cell? ⟨w.heap.size, 2, none⟩ = some (.int .i64 (rp)) := hx1.cell 2
  have x3 : w1.cell? ⟨w.heap.size, 3, none⟩ = some (.int .i64 (kd)) := hx1.cell 3
  have x4 : w1.cell? ⟨w.heap.size, 4, none⟩ = some (.slice az sb.length cc) := hx1.cell 4
  have y0 : w1.cell? ⟨w.heap.size + 1, 0, none⟩ = some (.bool no) := hy1.cell 0
  have y1 : w1.cell? ⟨w.heap.size + 1, 1, none⟩ = some (.int .i64 (k)) := hy1.cell 1
  have y2 : w1.cell? ⟨w.heap.size + 1, 2, none⟩ = some (.int .i64 (v)) := hy1.cell 2
  have y3 : w1.cell? ⟨w.heap.size + 1, 3, none⟩ = some (.string s) := hy1.cell 3
  have y4 : w1.cell? ⟨w.heap.size + 1, 4, none⟩ = some (.slice al l.length cl) := hy1.cell 4
  have y5 : w1.cell? ⟨w.heap.size + 1, 5, none⟩ = some (.slice af f.length cf) := hy1.cell 5
  go_cut [] (fun wx => (one = true ∨ rp = 1 ∨ (rp = 2 ∧ no = false)) ∧ Chg NoB w1 wx)
  case first =>
   cases one with
   | true =>
    go_wp2_with fail
    go_meet
    exact ⟨by simp, Chg.refl _ _⟩
   | false =>
   by_cases h1 : rp = 1
   ·subst h1
    go_wp2_with fail
    go_meet
    exact ⟨by simp, Chg.refl _ _⟩
   by_cases h2 : rp = 2
   ·subst h2
    cases no with
    | false =>
     go_wp2_with fail
     go_meet
     exact ⟨by simp, Chg.refl _ _⟩
    | true =>
     have Hres := Lib.hid (show rightF (.mk true k v s l f) (.mk i nm 2 kd sb) false = (if bareF true k v s l.length f.length true false false false then none else some (.er .shape)) from by unfold rightF; rw [if_pos ⟨rfl, rfl, rfl⟩])
     go_wp2_with fail
     refine (bare_1000 true k v s al af l.length cl f.length cf w1).mono ?_
     rintro en w2 ⟨rfl, hc2⟩
     cases hb : bareF true k v s l.length f.length true false false false with
     | false => 
      have hc02 := hc1.tr hc2
      have hv : E .shape = ekVal E K (rightF (.mk true k v s l f) (.mk i nm 2 kd sb) false) := by
       rw [Hres.out]
       first
        | (rw [hb]; rfl)
        | (unfold tailF; rw [if_pos (by simpa [Nd.kind] using hkd), hb]; rfl)
        | (unfold tailF; rw [if_neg (by simp [Nd.kind]), hb]; rfl)
        | (unfold tailF; rw [if_neg (by simp [Nd.kind]), if_neg (by rintro ⟨_, h⟩; exact hln h)]; rfl)
      have Hv := Lib.hid hv
      clear hv
      have g3 := (hE.keep0 hc02).errs.cell .shape
      simp only [Er.g] at g3
      go_wp2_with fail
      go_ret
      exact ⟨congrArg Ending.returned Hv.out, hc02⟩
     | true =>
      have hv : Value.nilIface = ekVal E K (rightF (.mk true k v s l f) (.mk i nm 2 kd sb) false) := by rw [Hres.out, hb]; rfl
      have Hv := Lib.hid hv
      clear hv
      go_wp2_with fail
      go_ret
      exact ⟨congrArg Ending.returned Hv.out, hc1.tr hc2⟩
   have h3 : rp = 3 := by omega
   subst h3
   have Hres := Lib.hid (show rightF (.mk no k v s l f) (.mk i nm 3 kd sb) false = (if bareF no k v s l.length f.length false false true false then (if l.length ≤ 40 then rightL l (.mk i nm 3 kd sb) else some (.er .bound)) else some (.er .shape)) from by
    unfold rightF
    rw [if_neg (by rintro ⟨_, h, _⟩; cases h), if_pos ⟨rfl, by simp [Nd.rep], by simp [Nd.rep]⟩])
   clear h1 h2
   go_wp2_with fail
   refine (bare_0010 no k v s al af l.length cl f.length cf w1).mono ?_
   rintro en w2 ⟨rfl, hc2⟩
   cases hb : bareF no k v s l.length f.length false false true false with
   | false => 
    have hc02 := hc1.tr hc2
    have hv : E .shape = ekVal E K (rightF (.mk no k v s l f) (.mk i nm 3 kd sb) false) := by
     rw [Hres.out]
     first
      | (rw [hb]; rfl)
      | (unfold tailF; rw [if_pos (by simpa [Nd.kind] using hkd), hb]; rfl)
      | (unfold tailF; rw [if_neg (by simp [Nd.kind]), hb]; rfl)
      | (unfold tailF; rw [if_neg (by simp [Nd.kind]), if_neg (by rintro ⟨_, h⟩; exact hln h)]; rfl)
    have Hv := Lib.hid hv
    clear hv
    have g3 := (hE.keep0 hc02).errs.cell .shape
    simp only [Er.g] at g3
    go_wp2_with fail
    go_ret
    exact ⟨congrArg Ending.returned Hv.out, hc02⟩
   | true =>
    have hx2 := hx1.keep hc2 nbE
    have hy2 := hy1.keep hc2 nbE
    have hc02 := hc1.tr hc2
    have x0 : w2.cell? ⟨w.heap.size, 0, none⟩ = some (.int .i64 (i)) := hx2.cell 0
    have x1 : w2.cell? ⟨w.heap.size, 1, none⟩ = some (.string nm) := hx2.cell 1
    have x2 : w2.cell? ⟨w.heap.size, 2, none⟩ = some (.int .i64 (3)) := hx2.cell 2
    have x3 : w2.cell? ⟨w.heap.size, 3, none⟩ = some (.int .i64 (kd)) := hx2.cell 3
    have x4 : w2.cell? ⟨w.heap.size, 4, none⟩ = some (.slice az sb.length cc) := hx2.cell 4
    have y0 : w2.cell? ⟨w.heap.size + 1, 0, none⟩ = some (.bool no) := hy2.cell 0
    have y1 : w2.cell? ⟨w.heap.size + 1, 1, none⟩ = some (.int .i64 (k)) := hy2.cell 1
    have y2 : w2.cell? ⟨w.heap.size + 1, 2, none⟩ = some (.int .i64 (v)) := hy2.cell 2
    have y3 : w2.cell? ⟨w.heap.size + 1, 3, none⟩ = some (.string s) := hy2.cell 3
    have y4 : w2.cell? ⟨w.heap.size + 1, 4, none⟩ = some (.slice al l.length cl) := hy2.cell 4
    have y5 : w2.cell? ⟨w.heap.size + 1, 5, none⟩ = some (.slice af f.length cf) := hy2.cell 5
    by_cases h40 : (l.length : Int) ≤ 40
    case neg =>
     have h40' : ¬ l.length ≤ 40 := by omega
     have hv : E .bound = ekVal E K (rightF (.mk no k v s l f) (.mk i nm 3 kd sb) false) := by rw [Hres.out, hb, if_pos rfl, if_neg h40']; rfl
     have Hv := Lib.hid hv
     clear hv
     have g3 := (hE.keep0 hc02).errs.cell .bound
     simp only [Er.g] at g3
     go_wp2_with fail
     go_ret
     exact ⟨congrArg Ending.returned Hv.out, hc02⟩
    have h40' : l.length ≤ 40 := by omega
    have Hres2 := Lib.hid (show rightF (.mk no k v s l f) (.mk i nm 3 kd sb) false = rightL l (.mk i nm 3 kd sb) by rw [Hres.out, hb, if_pos rfl, if_pos h40'])
    clear hb
    go_wp2_with fail
    go_loopw [25] (fun vi wr => RightLRel w2 l (.mk i nm 3 kd sb) vi wr) (fun vi _ => l.length - (intOf vi).toNat)
    case atStart => exact ⟨0, Nat.zero_le _, rfl, Chg.refl _ _, rfl⟩
    case round =>
     obtain ⟨j, hj, rfl, hc, hq⟩ := hrel
     have Hq := Lib.hid hq
     clear hq
     have hcr := hc02.tr hc
     by_cases hlt : j < l.length
     ·have hltI : (j : Int) < (l.length : Int) := by omega
      obtain ⟨b', off, rfl, hSb, hbw, hE'⟩ := hel (by omega)
      obtain ⟨ecs, hl6, hcells, hre⟩ := hE'.get j l[j].dt (by simp [hlt])
      have hcall := Hl.out _ (List.getElem_mem hlt)
      have hat := rightL_at (n := .mk i nm 3 kd sb) (List.getElem?_eq_getElem hlt)
      have Hc1 := Lib.hid hcall
      have Hat := Lib.hid hat
      clear hcall hat
      generalize l[j] = dj at hre Hc1 Hat
      obtain ⟨b1, k1, n1, s1, l1, f1⟩ := dj
      obtain ⟨vl1, vf1, rfl, hx8, hx9⟩ := reads_dm.1 hre
      obtain ⟨al1, cl1, rfl, _, _, _⟩ := reads_data hx8
      obtain ⟨af1, cf1, rfl, _, _, _⟩ := reads_data hx9
      clear hx8 hx9
      have ef : ∀ t c, [Value.bool b1, .int .i64 k1, .int .i64 n1, .string s1, (.slice al1 l1.length cl1), (.slice af1 f1.length cf1)][t]? = some c → wr.cell? ⟨b', off + j * 6 + t, none⟩ = some c := fun t c ht => (hcr.cell (p := ⟨b', off + j * 6 + t, none⟩) hbw (fun e => e)).trans (hcells t c ht)
      have e0 : wr.cell? ⟨b', off + j * 6, none⟩ = some (.bool b1) := ef 0 _ rfl
      have e1 : wr.cell? ⟨b', off + j * 6 + 1, none⟩ = some (.int .i64 k1) := ef 1 _ rfl
      have e2 : wr.cell? ⟨b', off + j * 6 + 2, none⟩ = some (.int .i64 n1) := ef 2 _ rfl
      have e3 : wr.cell? ⟨b', off + j * 6 + 3, none⟩ = some (.string s1) := ef 3 _ rfl
      have e4 : wr.cell? ⟨b', off + j * 6 + 4, none⟩ = some (.slice al1 l1.length cl1) := ef 4 _ rfl
      have e5 : wr.cell? ⟨b', off + j * 6 + 5, none⟩ = some (.slice af1 f1.length cf1) := ef 5 _ rfl
      clear ef
      have hxr := hx2.keep hc nbE
      clear x0 x1 x2 x3 x4 y0 y1 y2 y3 y4 y5
      have hxl := hxr.lt
      have q0 : wr.cell? ⟨w.heap.size, 0, none⟩ = some (.int .i64 (i)) := hxr.cell 0
      have q1 : wr.cell? ⟨w.heap.size, 1, none⟩ = some (.string nm) := hxr.cell 1
      have q2 : wr.cell? ⟨w.heap.size, 2, none⟩ = some (.int .i64 (3)) := hxr.cell 2
      have q3 : wr.cell? ⟨w.heap.size, 3, none⟩ = some (.int .i64 (kd)) := hxr.cell 3
      have q4 : wr.cell? ⟨w.heap.size, 4, none⟩ = some (.slice az sb.length cc) := hxr.cell 4
      go_wp2_with fail
      generalize hw3 : wr.alloc _ = w3
      have hc3 : Chg NoB wr w3 := by
       rw [← hw3]
       repeat (first | exact Chg.refl _ _ | apply Chg.alloc | apply Chg.drew)
      clear hw3
      have hc03 := hcr.tr hc3
      refine (Hc1.out w3 S S' _ _ (hE.keep0 hc03) (Hr.out.chg0 hc03) (hre.chg0 hc03)).mono ?_
      rintro en w4 ⟨rfl, hc4⟩
      cases hz : rightF (.mk b1 k1 n1 s1 l1 f1) (.mk i nm 3 kd sb) true with
      | some e =>
       obtain ⟨T, u, hTu⟩ := hE.val e
       rw [hTu]
       have hv : Value.iface T u = ekVal E K (rightF (.mk no k v s l f) (.mk i nm 3 kd sb) false) := by rw [Hres2.out, Hq.out, Hat.out, hz]; exact hTu.symm
       have Hv := Lib.hid hv
       clear hv hz hTu
       go_wp2_with fail
       go_ret
       exact ⟨congrArg Ending.returned Hv.out, hc03.tr hc4⟩
      | none =>
       have hnx : rightL l (.mk i nm 3 kd sb) = rightL (l.drop (j + 1)) (.mk i nm 3 kd sb) := by rw [Hq.out, Hat.out, hz]
       have Hnx := Lib.hid hnx
       clear hnx hz
       rw [show ekVal E K none = .nilIface from rfl]
       go_wp2_with fail
       go_roundw
       case rel => exact ⟨j + 1, hlt, by go_num, (hc.tr hc3).tr hc4, Hnx.out⟩
       case measure => simp [intOf]; omega
     ·have hjl : j = l.length := by omega
      subst hjl
      have hltI : ¬ ((l.length : Int) < (l.length : Int)) := by omega
      have hv : Value.nilIface = ekVal E K (rightF (.mk no k v s l f) (.mk i nm 3 kd sb) false) := by rw [Hres2.out, Hq.out, List.drop_length]; rfl
      have Hv := Lib.hid hv
      clear hv
      go_wp2_with fail
      go_ret
      exact ⟨congrArg Ending.returned Hv.out, hcr⟩
  case rest =>
  obtain ⟨hway, hcx⟩ := hcut
  obtain ⟨w9, hw9⟩ : ∃ x, x = wc := ⟨_, rfl⟩
  subst hw9
  have Hres := Lib.hid (right_tail (l := l) (f := f) (k := k) (v := v) (s := s) (no := no) (n := .mk i nm rp kd sb) (one := one) hway)
  replace hc1 := hc1.tr hcx
  replace hx1 := hx1.keep hcx nbE
  replace hy1 := hy1.keep hcx nbE
  clear x0 x1 x2 x3 x4 y0 y1 y2 y3 y4 y5 hway hcx
  have x0 : w9.cell? ⟨w.heap.size, 0, none⟩ = some (.int .i64 (i)) := hx1.cell 0
  have x1 : w9.cell? ⟨w.heap.size, 1, none⟩ = some (.string nm) := hx1.cell 1
  have x2 : w9.cell? ⟨w.heap.size, 2, none⟩ = some (.int .i64 (rp)) := hx1.cell 2
  have x3 : w9.cell? ⟨w.heap.size, 3, none⟩ = some (.int .i64 (kd)) := hx1.cell 3
  have x4 : w9.cell? ⟨w.heap.size, 4, none⟩ = some (.slice az sb.length cc) := hx1.cell 4
  have y0 : w9.cell? ⟨w.heap.size + 1, 0, none⟩ = some (.bool no) := hy1.cell 0
  have y1 : w9.cell? ⟨w.heap.size + 1, 1, none⟩ = some (.int .i64 (k)) := hy1.cell 1
  have y2 : w9.cell? ⟨w.heap.size + 1, 2, none⟩ = some (.int .i64 (v)) := hy1.cell 2
  have y3 : w9.cell? ⟨w.heap.size + 1, 3, none⟩ = some (.string s) := hy1.cell 3
  have y4 : w9.cell? ⟨w.heap.size + 1, 4, none⟩ = some (.slice al l.length cl) := hy1.cell 4
  have y5 : w9.cell? ⟨w.heap.size + 1, 5, none⟩ = some (.slice af f.length cf) := hy1.cell 5
  by_cases hkd : kd = 0
  case neg =>
   have hkb : (kd == 0) = false := by simpa using hkd
   have hkb2 : (kd != 0) = true := by simpa using hkd
   go_wp2_with fail
   refine (bare_0100 no k v s al af l.length cl f.length cf w9).mono ?_
   rintro en w2 ⟨rfl, hc2⟩
   cases hb : bareF no k v s l.length f.length false true false false with
   | false => 
    have hc02 := hc1.tr hc2
    have hv : E .shape = ekVal E K (rightF (.mk no k v s l f) (.mk i nm rp kd sb) one) := by
     rw [Hres.out]
     first
      | (rw [hb]; rfl)
      | (unfold tailF; rw [if_pos (by simpa [Nd.kind] using hkd), hb]; rfl)
      | (unfold tailF; rw [if_neg (by simp [Nd.kind]), hb]; rfl)
      | (unfold tailF; rw [if_neg (by simp [Nd.kind]), if_neg (by rintro ⟨_, h⟩; exact hln h)]; rfl)
    have Hv := Lib.hid hv
    clear hv
    have g3 := (hE.keep0 hc02).errs.cell .shape
    simp only [Er.g] at g3
    go_wp2_with fail
    go_ret
    exact ⟨congrArg Ending.returned Hv.out, hc02⟩
   | true =>
    have hx2 := hx1.keep hc2 nbE
    have hy2 := hy1.keep hc2 nbE
    have hc02 := hc1.tr hc2
    have x0 : w2.cell? ⟨w.heap.size, 0, none⟩ = some (.int .i64 (i)) := hx2.cell 0
    have x1 : w2.cell? ⟨w.heap.size, 1, none⟩ = some (.string nm) := hx2.cell 1
    have x2 : w2.cell? ⟨w.heap.size, 2, none⟩ = some (.int .i64 (rp)) := hx2.cell 2
    have x3 : w2.cell? ⟨w.heap.size, 3, none⟩ = some (.int .i64 (kd)) := hx2.cell 3
    have x4 : w2.cell? ⟨w.heap.size, 4, none⟩ = some (.slice az sb.length cc) := hx2.cell 4
    have y0 : w2.cell? ⟨w.heap.size + 1, 0, none⟩ = some (.bool no) := hy2.cell 0
    have y1 : w2.cell? ⟨w.heap.size + 1, 1, none⟩ = some (.int .i64 (k)) := hy2.cell 1
    have y2 : w2.cell? ⟨w.heap.size + 1, 2, none⟩ = some (.int .i64 (v)) := hy2.cell 2
    have y3 : w2.cell? ⟨w.heap.size + 1, 3, none⟩ = some (.string s) := hy2.cell 3
    have y4 : w2.cell? ⟨w.heap.size + 1, 4, none⟩ = some (.slice al l.length cl) := hy2.cell 4
    have y5 : w2.cell? ⟨w.heap.size + 1, 5, none⟩ = some (.slice af f.length cf) := hy2.cell 5
    go_wp2_with fail
    refine (encOK_any kd k v s w2 ⟨by omega, hkd5⟩ hn hs).mono ?_
    rintro en w3 ⟨rfl, hc3⟩
    have hc03 := hc02.tr hc3
    cases hq : okF kd k v s with
    | false =>
     have hv : K = ekVal E K (rightF (.mk no k v s l f) (.mk i nm rp kd sb) one) := by
      rw [Hres.out]; unfold tailF; rw [if_pos (by simpa [Nd.kind] using hkd), hb, if_pos rfl, show okF (Nd.mk i nm rp kd sb).kind k v s = false from hq]; rfl
     have Hv := Lib.hid hv
     clear hv
     have g3 := (hE.keep0 hc03).kind
     go_wp2_with fail
     go_ret
     exact ⟨congrArg Ending.returned Hv.out, hc03⟩
    | true =>
     have hv : Value.nilIface = ekVal E K (rightF (.mk no k v s l f) (.mk i nm rp kd sb) one) := by
      rw [Hres.out]; unfold tailF; rw [if_pos (by simpa [Nd.kind] using hkd), hb, if_pos rfl, show okF (Nd.mk i nm rp kd sb).kind k v s = true from hq]; rfl
     have Hv := Lib.hid hv
     clear hv
     go_wp2_with fail
     go_ret
     exact ⟨congrArg Ending.returned Hv.out, hc03⟩
  subst hkd
  go_wp2_with fail
  refine (bare_0001 no k v s al af l.length cl f.length cf w9).mono ?_
  rintro en w2 ⟨rfl, hc2⟩
  cases hb : bareF no k v s l.length f.length false false false true with
  | false => 
   have hln : True := trivial
   have hc02 := hc1.tr hc2
   have hv : E .shape = ekVal E K (rightF (.mk no k v s l f) (.mk i nm rp 0 sb) one) := by
    rw [Hres.out]
    first
     | (rw [hb]; rfl)
     | (unfold tailF; rw [if_pos (by simpa [Nd.kind] using hkd), hb]; rfl)
     | (unfold tailF; rw [if_neg (by simp [Nd.kind]), hb]; rfl)
     | (unfold tailF; rw [if_neg (by simp [Nd.kind]), if_neg (by rintro ⟨_, h⟩; exact hln h)]; rfl)
   have Hv := Lib.hid hv
   clear hv
   have g3 := (hE.keep0 hc02).errs.cell .shape
   simp only [Er.g] at g3
   go_wp2_with fail
   go_ret
   exact ⟨congrArg Ending.returned Hv.out, hc02⟩
  | true =>
  by_cases hln : f.length = sb.length
  case neg =>
   have hlI : ¬ ((f.length : Int) = (sb.length : Int)) := by omega
   have hlb : ((f.length : Int) == (sb.length : Int)) = false := by simpa using hlI
   have hx2 := hx1.keep hc2 nbE
   have hy2 := hy1.keep hc2 nbE
   have hc02 := hc1.tr hc2
   have x0 : w2.cell? ⟨w.heap.size, 0, none⟩ = some (.int .i64 (i)) := hx2.cell 0
   have x1 : w2.cell? ⟨w.heap.size, 1, none⟩ = some (.string nm) := hx2.cell 1
   have x2 : w2.cell? ⟨w.heap.size, 2, none⟩ = some (.int .i64 (rp)) := hx2.cell 2
   have x3 : w2.cell? ⟨w.heap.size, 3, none⟩ = some (.int .i64 (0)) := hx2.cell 3
   have x4 : w2.cell? ⟨w.heap.size, 4, none⟩ = some (.slice az sb.length cc) := hx2.cell 4
   have y0 : w2.cell? ⟨w.heap.size + 1, 0, none⟩ = some (.bool no) := hy2.cell 0
   have y1 : w2.cell? ⟨w.heap.size + 1, 1, none⟩ = some (.int .i64 (k)) := hy2.cell 1
   have y2 : w2.cell? ⟨w.heap.size + 1, 2, none⟩ = some (.int .i64 (v)) := hy2.cell 2
   have y3 : w2.cell? ⟨w.heap.size + 1, 3, none⟩ = some (.string s) := hy2.cell 3
   have y4 : w2.cell? ⟨w.heap.size + 1, 4, none⟩ = some (.slice al l.length cl) := hy2.cell 4
   have y5 : w2.cell? ⟨w.heap.size + 1, 5, none⟩ = some (.slice af f.length cf) := hy2.cell 5
   have hc02 := hc1.tr hc2
   have hv : E .shape = ekVal E K (rightF (.mk no k v s l f) (.mk i nm rp 0 sb) one) := by
    rw [Hres.out]
    first
     | (rw [hb]; rfl)
     | (unfold tailF; rw [if_pos (by simpa [Nd.kind] using hkd), hb]; rfl)
     | (unfold tailF; rw [if_neg (by simp [Nd.kind]), hb]; rfl)
     | (unfold tailF; rw [if_neg (by simp [Nd.kind]), if_neg (by rintro ⟨_, h⟩; exact hln h)]; rfl)
   have Hv := Lib.hid hv
   clear hv
   have g3 := (hE.keep0 hc02).errs.cell .shape
   simp only [Er.g] at g3
   go_wp2_with fail
   go_ret
   exact ⟨congrArg Ending.returned Hv.out, hc02⟩
  have Hres2 := Lib.hid (show rightF (.mk no k v s l f) (.mk i nm rp 0 sb) one = rightP f sb by rw [Hres.out]; unfold tailF; rw [if_neg (by simp [Nd.kind]), if_pos ⟨hb, hln⟩]; rfl)
  have Hln := Lib.hid hln
  have hlI : (f.length : Int) = (sb.length : Int) := by omega
  clear hb hln
  have hx2 := hx1.keep hc2 nbE
  have hy2 := hy1.keep hc2 nbE
  have hc02 := hc1.tr hc2
  have x0 : w2.cell? ⟨w.heap.size, 0, none⟩ = some (.int .i64 (i)) := hx2.cell 0
  have x1 : w2.cell? ⟨w.heap.size, 1, none⟩ = some (.string nm) := hx2.cell 1
  have x2 : w2.cell? ⟨w.heap.size, 2, none⟩ = some (.int .i64 (rp)) := hx2.cell 2
  have x3 : w2.cell? ⟨w.heap.size, 3, none⟩ = some (.int .i64 (0)) := hx2.cell 3
  have x4 : w2.cell? ⟨w.heap.size, 4, none⟩ = some (.slice az sb.length cc) := hx2.cell 4
  have y0 : w2.cell? ⟨w.heap.size + 1, 0, none⟩ = some (.bool no) := hy2.cell 0
  have y1 : w2.cell? ⟨w.heap.size + 1, 1, none⟩ = some (.int .i64 (k)) := hy2.cell 1
  have y2 : w2.cell? ⟨w.heap.size + 1, 2, none⟩ = some (.int .i64 (v)) := hy2.cell 2
  have y3 : w2.cell? ⟨w.heap.size + 1, 3, none⟩ = some (.string s) := hy2.cell 3
  have y4 : w2.cell? ⟨w.heap.size + 1, 4, none⟩ = some (.slice al l.length cl) := hy2.cell 4
  have y5 : w2.cell? ⟨w.heap.size + 1, 5, none⟩ = some (.slice af f.length cf) := hy2.cell 5
  go_wp2_with fail
  go_loopw [89] (fun vi wr => RightPRel w2 f sb vi wr) (fun vi _ => f.length - (intOf vi).toNat)
  case atStart => exact ⟨0, Nat.zero_le _, rfl, Chg.refl _ _, rfl⟩
  case round =>
   obtain ⟨j, hj, rfl, hc, hq⟩ := hrel
   have Hq := Lib.hid hq
   clear hq
   have hcr := hc02.tr hc
   have hln := Hln.out
   by_cases hlt : j < f.length
   ·have hltI : (j : Int) < (sb.length : Int) := by omega
    have hlt2 : j < sb.length := by omega
    have hltF : (j : Int) < (f.length : Int) := by omega
    obtain ⟨b', off, rfl, hSb, hbw, hE'⟩ := hef (by omega)
    obtain ⟨ecs, hl6, hcells, hre⟩ := hE'.get j f[j].dt (by simp [hlt])
    obtain ⟨b2, of2, rfl, hSb2, hbw2, hE2⟩ := hes (by omega)
    obtain ⟨gcs, hl5, hcells2, hrg⟩ := hE2.get j sb[j].dt (by simp [hlt2])
    have hcall := Hf.out _ (List.getElem_mem hlt) _ (List.getElem_mem hlt2)
    have hat := rightP_at (List.getElem?_eq_getElem hlt) (List.getElem?_eq_getElem hlt2)
    have Hc1 := Lib.hid hcall
    have Hat := Lib.hid hat
    clear hcall hat hln
    generalize f[j] = dj at hre Hc1 Hat
    generalize sb[j] = nj at hrg Hc1 Hat
    obtain ⟨b1, k1, n1, s1, l1, f1⟩ := dj
    obtain ⟨i3, n3, r3, k3, s3⟩ := nj
    obtain ⟨vl1, vf1, rfl, hx8, hx9⟩ := reads_dm.1 hre
    obtain ⟨al1, cl1, rfl, _, _, _⟩ := reads_data hx8
    obtain ⟨af1, cf1, rfl, _, _, _⟩ := reads_data hx9
    obtain ⟨vs3, rfl, hx7⟩ := reads_nd.1 hrg
    obtain ⟨as3, cs3, rfl, _, _, _⟩ := reads_subs hx7
    clear hx7 hx8 hx9
    have ef : ∀ t c, [Value.bool b1, .int .i64 k1, .int .i64 n1, .string s1, (.slice al1 l1.length cl1), (.slice af1 f1.length cf1)][t]? = some c → wr.cell? ⟨b', off + j * 6 + t, none⟩ = some c := fun t c ht => (hcr.cell (p := ⟨b', off + j * 6 + t, none⟩) hbw (fun e => e)).trans (hcells t c ht)
    have e0 : wr.cell? ⟨b', off + j * 6, none⟩ = some (.bool b1) := ef 0 _ rfl
    have e1 : wr.cell? ⟨b', off + j * 6 + 1, none⟩ = some (.int .i64 k1) := ef 1 _ rfl
    have e2 : wr.cell? ⟨b', off + j * 6 + 2, none⟩ = some (.int .i64 n1) := ef 2 _ rfl
    have e3 : wr.cell? ⟨b', off + j * 6 + 3, none⟩ = some (.string s1) := ef 3 _ rfl
    have e4 : wr.cell? ⟨b', off + j * 6 + 4, none⟩ = some (.slice al1 l1.length cl1) := ef 4 _ rfl
    have e5 : wr.cell? ⟨b', off + j * 6 + 5, none⟩ = some (.slice af1 f1.length cf1) := ef 5 _ rfl
    clear ef
    have uf : ∀ t c, [Value.int .i64 i3, .string n3, .int .i64 r3, .int .i64 k3, (.slice as3 s3.length cs3)][t]? = some c → wr.cell? ⟨b2, of2 + j * 5 + t, none⟩ = some c := fun t c ht => (hcr.cell (p := ⟨b2, of2 + j * 5 + t, none⟩) hbw2 (fun e => e)).trans (hcells2 t c ht)
    have u0 : wr.cell? ⟨b2, of2 + j * 5, none⟩ = some (.int .i64 i3) := uf 0 _ rfl
    have u1 : wr.cell? ⟨b2, of2 + j * 5 + 1, none⟩ = some (.string n3) := uf 1 _ rfl
    have u2 : wr.cell? ⟨b2, of2 + j * 5 + 2, none⟩ = some (.int .i64 r3) := uf 2 _ rfl
    have u3 : wr.cell? ⟨b2, of2 + j * 5 + 3, none⟩ = some (.int .i64 k3) := uf 3 _ rfl
    have u4 : wr.cell? ⟨b2, of2 + j * 5 + 4, none⟩ = some (.slice as3 s3.length cs3) := uf 4 _ rfl
    clear uf
    have hyr := hy2.keep hc nbE
    clear x0 x1 x2 x3 x4 y0 y1 y2 y3 y4 y5
    go_wp2_with fail
    generalize hw3 : wr.alloc _ = w3
    have hc3 : Chg NoB wr w3 := by
     rw [← hw3]
     repeat (first | exact Chg.refl _ _ | apply Chg.alloc | apply Chg.drew)
    have hn3 : Blk w3 (wr.heap.size) (ndCells i3 n3 r3 k3 (.slice as3 s3.length cs3)) 28 := by
     rw [← hw3]
     repeat (first | exact Blk.newAt (by first | rfl | (simp; done) | (simp; omega)) | apply Blk.alloc | apply Blk.drew)
    clear hw3 u0 u1 u2 u3 u4
    have hyr3 := hyr.keep hc3 nbE
    have hbw3 : b' < wr.heap.size := by have := hcr.size; omega
    have hx3 : ∀ p v, p.block = b' → wr.cell? p = some v → w3.cell? p = some v := fun p v hp h => (hc3.cell (by rw [hp]; exact hbw3) nbE).trans h
    have f0 := hx3 _ _ rfl e0
    have f1' := hx3 _ _ rfl e1
    have f2 := hx3 _ _ rfl e2
    have f3 := hx3 _ _ rfl e3
    have f4 := hx3 _ _ rfl e4
    have f5 := hx3 _ _ rfl e5
    have hc03 := hcr.tr hc3
    clear e0 e1 e2 e3 e4 e5 hx3
    refine wp_region_n (fun w' => w'.cell? ⟨wr.heap.size, 0, none⟩ = some (.int .i64 i3) ∧ w'.cell? ⟨wr.heap.size, 1, none⟩ = some (.string n3) ∧ w'.cell? ⟨wr.heap.size, 2, none⟩ = some (.int .i64 r3) ∧ w'.cell? ⟨wr.heap.size, 3, none⟩ = some (.int .i64 k3) ∧ w'.cell? ⟨wr.heap.size, 4, none⟩ = some (.slice as3 s3.length cs3) ∧ w'.cell? ⟨w.heap.size + 1, 5, none⟩ = some (.slice (some ⟨b', off, none⟩) f.length cf) ∧ w'.cell? ⟨b', off + j * 6, none⟩ = some (.bool b1) ∧ w'.cell? ⟨b', off + j * 6 + 1, none⟩ = some (.int .i64 k1) ∧ w'.cell? ⟨b', off + j * 6 + 2, none⟩ = some (.int .i64 n1) ∧ w'.cell? ⟨b', off + j * 6 + 3, none⟩ = some (.string s1) ∧ w'.cell? ⟨b', off + j * 6 + 4, none⟩ = some (.slice al1 l1.length cl1) ∧ w'.cell? ⟨b', off + j * 6 + 5, none⟩ = some (.slice af1 f1.length cf1)) [] (by kernel_rfl) ?_ (fun hSh => ?_)
    ·exact ⟨hn3.cell 0, hn3.cell 1, hn3.cell 2, hn3.cell 3, hn3.cell 4, hyr3.cell 5, f0, f1', f2, f3, f4, f5⟩
    refine n_from 0 ?_
    intro htk
    iterate 6
     refine n_tB (v := ?_) htk rfl (Or.inl ⟨by rfl, ?_⟩) ?_
     rotate_left 1
     ·(intro w' hSw; (try dsimp only at hSw); go_simp; try with_reducible rfl)
     clear htk
     intro htk
     simp only [Nat.reduceAdd] at htk
     simp only [Act.put, qA, qB, qC, qD, qE, qF]
    clear htk
    refine n_step 6 rfl (by kernel_rfl) ?_
    go_wp2_with fail
    refine (Hc1.out w3.drew S S' _ _ (hE.keep0 hc03.drew) (hrg.chg0 hc03.drew) (hre.chg0 hc03.drew)).mono ?_
    rintro en w4 ⟨rfl, hc4⟩
    replace hc4 := hc4.ofDrew
    go_wp2_with fail
    refine ⟨fun _ => ?_, fun hSk => ?_⟩
    ·have hk4 : ∀ p v, w3.cell? p = some v → w4.cell? p = some v := fun p v h => (hc4.cell (lt_of_cell h) nbE).trans h
     exact ⟨hk4 _ _ (hn3.cell 0), hk4 _ _ (hn3.cell 1), hk4 _ _ (hn3.cell 2), hk4 _ _ (hn3.cell 3), hk4 _ _ (hn3.cell 4), hk4 _ _ (hyr3.cell 5), hk4 _ _ f0, hk4 _ _ f1', hk4 _ _ f2, hk4 _ _ f3, hk4 _ _ f4, hk4 _ _ f5⟩
    replace hSk := hSk (by rfl)
    refine n_tA (v := ?_) 7 rfl (Or.inl ⟨by rfl, ?_⟩) ?_
    rotate_left 1
    ·(intro w' hSw; (try dsimp only at hSw); go_simp; try with_reducible rfl)
    simp only [Act.put, qA, qB, qC, qD, qE, qF]
    refine n_done (by kernel_rfl) ?_
    cases hz : rightF (.mk b1 k1 n1 s1 l1 f1) (.mk i3 n3 r3 k3 s3) false with
    | some e =>
     obtain ⟨T, uu, hTu⟩ := hE.val e
     rw [hTu]
     have hv : Value.iface T uu = ekVal E K (rightF (.mk no k v s l f) (.mk i nm rp 0 sb) one) := by rw [Hres2.out, Hq.out, Hat.out, hz]; exact hTu.symm
     have Hv := Lib.hid hv
     clear hv hz hTu
     go_wp2_with fail
     go_ret
     exact ⟨congrArg Ending.returned Hv.out, hc03.tr hc4⟩
    | none =>
     have Hnx := Lib.hid (show rightP f sb = rightP (f.drop (j + 1)) (sb.drop (j + 1)) by rw [Hq.out, Hat.out, hz])
     clear hz
     rw [show ekVal E K none = .nilIface from rfl]
     go_wp2_with fail
     go_roundw
     case rel => exact ⟨j + 1, hlt, by go_num, (hc.tr hc3).tr hc4, Hnx.out⟩
     case measure => simp [intOf]; omega
   ·have hjl : j = f.length := by omega
    have hltI : ¬ ((j : Int) < (sb.length : Int)) := by omega
    have hv : Value.nilIface = ekVal E K (rightF (.mk no k v s l f) (.mk i nm rp 0 sb) one) := by rw [Hres2.out, Hq.out, hjl, List.drop_length]; rfl
    have Hv := Lib.hid hv
    clear hv
    go_wp2_with fail
    go_ret
    exact ⟨congrArg Ending.returned Hv.out, hcr⟩
end Go.Proofs.YtgcmfpcgmkkobaaGreatDoor
