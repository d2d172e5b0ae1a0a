/-
 shredcolref2.DatumError: it tells what data.right tells.
-/
import Derived.Test.YtgcmfpcgmkkobaaGreatDoorRight
set_option linter.unusedVariables false
set_option linter.unusedSimpArgs false
namespace Go.Proofs.YtgcmfpcgmkkobaaGreatDoor
open Go.RowKit

/-- A number; nothing has changed. -/
theorem ek_none : ekNum none = 0 := rfl
theorem right_no {k v : Int} {s : ByteArray} {l f : List Dm} {n : Nd} {one : Bool} (h : ¬ (one = false ∧ n.rep = 2)) : ekNum (rightF (.mk true k v s l f) n one) = 3 := by
 unfold rightF
 rw [if_neg (by rintro ⟨h1, h2, _⟩; exact h ⟨h1, h2⟩)]
 simp only [bareF, Bool.not_true, Bool.or_self, Bool.false_and, Bool.false_eq_true, if_false, false_and]
 split
 ·rfl
 ·split <;> rfl
theorem bare_tt {no : Bool} {k v : Int} {s : ByteArray} {l f : Nat} {a b c e : Bool} (h1 : a = true ∨ no = false) (h2 : b = true ∨ zeroV k v s = true) (h3 : c = true ∨ l = 0) (h4 : e = true ∨ f = 0) : bareF no k v s l f a b c e = true := by
 unfold bareF
 rcases h1 with rfl | rfl <;> rcases h2 with rfl | h2 <;> rcases h3 with rfl | rfl <;> rcases h4 with rfl | rfl <;> simp [*]
theorem bare_ff {no : Bool} {k v : Int} {s : ByteArray} {l f : Nat} {a b c e : Bool} (h : (a = false ∧ no = true) ∨ (b = false ∧ zeroV k v s = false) ∨ (c = false ∧ l ≠ 0) ∨ (e = false ∧ f ≠ 0)) : bareF no k v s l f a b c e = false := by
 unfold bareF
 rcases h with ⟨rfl, rfl⟩ | ⟨rfl, h⟩ | ⟨rfl, h⟩ | ⟨rfl, h⟩ <;> simp [*]
theorem zero_k {k v : Int} {s : ByteArray} (h : ¬ k = 0) : zeroV k v s = false := by simp [zeroV, h]
theorem zero_n {v : Int} {s : ByteArray} (h : ¬ v = 0) : zeroV 0 v s = false := by simp [zeroV, h]
theorem zero_s {s : ByteArray} (h : ¬ s = ⟨#[]⟩) : zeroV 0 0 s = false := by simp [zeroV, h]
theorem zero_t : zeroV 0 0 ⟨#[]⟩ = true := by simp [zeroV]
-- What a value that is there is told, case by case.
theorem tail_leaf_bad {k v : Int} {s : ByteArray} {l f : List Dm} {n : Nd} (hk : n.kind ≠ 0) (h : l.length ≠ 0 ∨ f.length ≠ 0) : ekNum (tailF false k v s l f n) = 3 := by
 unfold tailF
 rw [if_pos hk, bare_ff (by rcases h with h | h <;> simp [h])]; rfl
theorem tail_leaf_no {k v : Int} {s : ByteArray} {l f : List Dm} {n : Nd} (hk : n.kind ≠ 0) (hl : l.length = 0) (hf : f.length = 0) (h : okF n.kind k v s = false) : ekNum (tailF false k v s l f n) = 4 := by
 unfold tailF
 rw [if_pos hk, bare_tt (.inr rfl) (.inl rfl) (.inr hl) (.inr hf), if_pos rfl, h]; rfl
theorem tail_leaf_yes {k v : Int} {s : ByteArray} {l f : List Dm} {n : Nd} (hk : n.kind ≠ 0) (hl : l.length = 0) (hf : f.length = 0) (h : okF n.kind k v s = true) : ekNum (tailF false k v s l f n) = 0 := by
 unfold tailF
 rw [if_pos hk, bare_tt (.inr rfl) (.inl rfl) (.inr hl) (.inr hf), if_pos rfl, h]; rfl
theorem tail_group_bad {k v : Int} {s : ByteArray} {l f : List Dm} {n : Nd} (hk : n.kind = 0) (h : l.length ≠ 0 ∨ zeroV k v s = false ∨ f.length ≠ n.sub.length) : ekNum (tailF false k v s l f n) = 3 := by
 unfold tailF
 rw [if_neg (by simp [hk]), if_neg]
 ·rfl
 ·rintro ⟨h1, h2⟩
  rcases h with h | h | h
  ·rw [bare_ff (by simp [h])] at h1; cases h1
  ·rw [bare_ff (by simp [h])] at h1; cases h1
  ·exact h h2
theorem tail_group {k v : Int} {s : ByteArray} {l f : List Dm} {n : Nd} (hk : n.kind = 0) (hl : l.length = 0) (hz : zeroV k v s = true) (hf : f.length = n.sub.length) : tailF false k v s l f n = rightP f n.sub := by
 unfold tailF
 rw [if_neg (by simp [hk]), if_pos ⟨bare_tt (.inr rfl) (.inr hz) (.inr hl) (.inl rfl), hf⟩]

def ErrLRel (w : World) (l : List Dm) (n : Nd) (vi : Value) (wr : World) : Prop := ∃ j, j ≤ l.length ∧ vi = .int .i64 (j : Nat) ∧ Chg NoB w wr ∧ rightL l n = rightL (l.drop j) n
def ErrPRel (w : World) (f : List Dm) (sb : List Nd) (vi : Value) (wr : World) : Prop := ∃ j, j ≤ f.length ∧ vi = .int .i64 (j : Nat) ∧ Chg NoB w wr ∧ rightP f sb = rightP (f.drop j) (sb.drop j)

set_option maxHeartbeats 8000000 in
set_option maxRecDepth 100000 in
theorem datumError_any : ∀ (m : Nat) (d : Dm) (n : Nd) (one : Bool) (w : World) (S S' : Nat → Prop) (cs cs' : List Value), d.weigh ≤ m → Reads w S n.dt cs → Reads w S' d.dt cs' → d.ok → n.All Shp →
  Calls Tryz.prog 46 #[.agg cs.toArray, .agg cs'.toArray, .bool one] w (RetV (.int .i64 (ekNum (rightF d n one))) w) := by
 intro m
 induction m with
 | zero => intro d n one w S S' cs cs' hm; cases d; simp [Dm.weigh] at hm
 | succ m ih =>
  intro d n one w S S' cs cs' hm hr hr' hok hsh
  obtain ⟨no, k, v, s, l, f⟩ := d
  have hHl : ∀ d ∈ l, ∀ (w : World) (S S' : Nat → Prop) (cs cs' : List Value), Reads w S n.dt cs → Reads w S' d.dt cs' → Calls Tryz.prog 46 #[.agg cs.toArray, .agg cs'.toArray, .bool true] w (RetV (.int .i64 (ekNum (rightF d n true))) w) :=
   fun d hd w S S' cs cs' hr hr' => ih d n true w S S' cs cs' (by have := Dm.weigh_mem hd; simp only [Dm.weigh] at hm; omega) hr hr' (Dm.oks_mem hok.2.2.2.2.2.1 d hd) hsh
  obtain ⟨i, nm, rp, kd, sb⟩ := n
  have hHf : ∀ d ∈ f, ∀ n ∈ sb, ∀ (w : World) (S S' : Nat → Prop) (cs cs' : List Value), Reads w S n.dt cs → Reads w S' d.dt cs' → Calls Tryz.prog 46 #[.agg cs.toArray, .agg cs'.toArray, .bool false] w (RetV (.int .i64 (ekNum (rightF d n false))) w) :=
   fun d hd n hn w S S' cs cs' hr hr' => ih d n false w S S' cs cs' (by have := Dm.weigh_mem hd; simp only [Dm.weigh] at hm; omega) hr hr' (Dm.oks_mem hok.2.2.2.2.2.2 d hd) (alls_at hsh.2 n hn)
  have Hl := Lib.hid hHl
  have Hf := Lib.hid hHf
  clear hHl hHf ih hm
  obtain ⟨⟨hr1, hr3, hkd0, hkd5, hlf⟩, hsh2⟩ := hsh
  simp only [Nd.rep, Nd.kind] at hr1 hr3 hkd0 hkd5
  clear hlf hsh2
  obtain ⟨vl, vf, rfl, hsl, hsf⟩ := reads_dm.1 hr'
  have Hr := Lib.hid hr
  obtain ⟨vs, rfl, hss⟩ := reads_nd.1 hr
  obtain ⟨hk, hn, hs, hl, hf, hol, hof⟩ := hok
  clear hol hof hl hf hr hr'
  obtain ⟨al, cl, rfl, hll, hlc, hel⟩ := reads_data hsl
  obtain ⟨af, cf, rfl, hfl, hfc, hef⟩ := reads_data hsf
  obtain ⟨az, cc, rfl, hsl2, hsc, hes⟩ := reads_subs hss
  clear hsl hsf hss
  unfold maxLen at hlc hfc hsc
  go_enter Tryz.func46, Tryz.ntmps46
  go_upto_region 1 with fail
  generalize hw1 : World.alloc _ _ = w1
  have hc1 : Chg NoB w w1 := by
   rw [← hw1]
   repeat (first | exact Chg.refl _ _ | apply Chg.alloc | apply Chg.drew)
  have hx1 : Blk w1 (w.heap.size) (ndCells i nm rp kd (.slice az sb.length cc)) 28 := by
   rw [← hw1]
   repeat (first | exact Blk.newAt (by first | rfl | (simp; done) | (simp; omega)) | apply Blk.alloc | apply Blk.drew)
  have hy1 : Blk w1 (w.heap.size + 1) (dmCells no k v s (.slice al l.length cl) (.slice af f.length cf)) 43 := by
   rw [← hw1]
   repeat (first | exact Blk.newAt (by first | rfl | (simp; done) | (simp; omega)) | apply Blk.alloc | apply Blk.drew)
  clear hw1
  have x0 : w1.cell? ⟨w.heap.size, 0, none⟩ = some (.int .i64 (i)) := hx1.cell 0
  have x1 : w1.cell? ⟨w.heap.size, 1, none⟩ = some (.string nm) := hx1.cell 1
  have x2 : w1.cell? ⟨w.heap.size, 2, none⟩ = some (.int .i64 (rp)) := hx1.cell 2
  have x3 : w1.cell? ⟨w.heap.size, 3, none⟩ = some (.int .i64 (kd)) := hx1.cell 3
  have x4 : w1.cell? ⟨w.heap.size, 4, none⟩ = some (.slice az sb.length cc) := hx1.cell 4
  have y0 : w1.cell? ⟨w.heap.size + 1, 0, none⟩ = some (.bool no) := hy1.cell 0
  have y1 : w1.cell? ⟨w.heap.size + 1, 1, none⟩ = some (.int .i64 (k)) := hy1.cell 1
  have y2 : w1.cell? ⟨w.heap.size + 1, 2, none⟩ = some (.int .i64 (v)) := hy1.cell 2
  have y3 : w1.cell? ⟨w.heap.size + 1, 3, none⟩ = some (.string s) := hy1.cell 3
  have y4 : w1.cell? ⟨w.heap.size + 1, 4, none⟩ = some (.slice al l.length cl) := hy1.cell 4
  have y5 : w1.cell? ⟨w.heap.size + 1, 5, none⟩ = some (.slice af f.length cf) := hy1.cell 5
  go_cut [7] (fun v7 wx => v7 = .bool (!zeroV k v s) ∧ wx = w1)
  case first =>
   by_cases hz : k = 0
   case neg =>
    go_wp2_with fail
    go_meet
    exact ⟨congrArg Value.bool (by rw [zero_k hz]; rfl), rfl⟩
   subst hz
   by_cases hz : v = 0
   case neg =>
    go_wp2_with fail
    go_meet
    exact ⟨congrArg Value.bool (by rw [zero_n hz]; rfl), rfl⟩
   subst hz
   by_cases hz : s = ⟨#[]⟩
   case neg =>
    have hz2 := bytes_ne hz
    go_wp2_with fail
    go_meet
    exact ⟨congrArg Value.bool (by rw [zero_s hz]; rfl), rfl⟩
   subst hz
   go_wp2_with fail
   go_meet
   exact ⟨congrArg Value.bool (by rw [zero_t]; rfl), rfl⟩
  case rest =>
  obtain ⟨rfl, hwc⟩ := hcut
  rw [hwc]
  clear hwc
  go_upto_if 20 with fail
  go_cut [8] (fun v8 wx => v8 = .int .i64 (if one = true then 1 else rp) ∧ wx = w1)
  case first =>
   cases one with
   | true =>
    go_wp2_with fail
    go_meet
    exact ⟨rfl, rfl⟩
   | false =>
    go_wp2_with fail
    go_meet
    exact ⟨rfl, rfl⟩
  case rest =>
  obtain ⟨rfl, hwc⟩ := hcut
  rw [hwc]
  clear hwc
  have hq1 : one = true → (if one = true then 1 else rp) = 1 := fun h => if_pos h
  have hq2 : one = false → (if one = true then 1 else rp) = rp := fun h => if_neg (by rw [h]; decide)
  generalize (if one = true then 1 else rp) = rq at hq1 hq2 ⊢
  have Hq1 := Lib.hid hq1
  have Hq2 := Lib.hid hq2
  clear hq1 hq2
  by_cases hA : one = false ∧ rp = 2 ∧ no = true
  ·obtain ⟨rfl, rfl, rfl⟩ := hA
   have hrb : (rq == 2) = true := by have := Hq2.out rfl; simpa using this
   have Hres := Lib.hid (show rightF (.mk true k v s l f) (.mk i nm 2 kd sb) false = (if bareF true k v s l.length f.length true false false false then none else some (.er .shape)) from by unfold rightF; rw [if_pos ⟨rfl, rfl, rfl⟩])
   cases hz : zeroV k v s with
   | false =>
    have Hv := Lib.hid (show ekNum (rightF (.mk true k v s l f) (.mk i nm 2 kd sb) false) = 3 by rw [Hres.out, bare_ff (.inr (.inl ⟨rfl, hz⟩))]; rfl)
    rw [Bool.not_false]
    clear hz
    go_wp2_with fail
    go_ret
    exact ⟨congrArg (fun z => Ending.returned (.int .i64 z)) Hv.out.symm, hc1⟩
   | true =>
   rw [Bool.not_true]
   by_cases hl0 : l.length = 0
   case neg =>
    have hl0I : (0 : Int) < (l.length : Int) := by omega
    have Hv := Lib.hid (show ekNum (rightF (.mk true k v s l f) (.mk i nm 2 kd sb) false) = 3 by rw [Hres.out, bare_ff (.inr (.inr (.inl ⟨rfl, hl0⟩)))]; rfl)
    go_wp2_with fail
    go_ret
    exact ⟨congrArg (fun z => Ending.returned (.int .i64 z)) Hv.out.symm, hc1⟩
   by_cases hf0 : f.length = 0
   case neg =>
    have hl0I : ¬ (0 : Int) < (l.length : Int) := by omega
    have hf0I : (0 : Int) < (f.length : Int) := by omega
    have Hv := Lib.hid (show ekNum (rightF (.mk true k v s l f) (.mk i nm 2 kd sb) false) = 3 by rw [Hres.out, bare_ff (.inr (.inr (.inr ⟨rfl, hf0⟩)))]; rfl)
    go_wp2_with fail
    go_ret
    exact ⟨congrArg (fun z => Ending.returned (.int .i64 z)) Hv.out.symm, hc1⟩
   have hl0I : ¬ (0 : Int) < (l.length : Int) := by omega
   have hf0I : ¬ (0 : Int) < (f.length : Int) := by omega
   have Hv := Lib.hid (show ekNum (rightF (.mk true k v s l f) (.mk i nm 2 kd sb) false) = 0 by rw [Hres.out, bare_tt (.inl rfl) (.inr hz) (.inr hl0) (.inr hf0)]; rfl)
   go_wp2_with fail
   go_ret
   exact ⟨congrArg (fun z => Ending.returned (.int .i64 z)) Hv.out.symm, hc1⟩
  cases no with
  | true =>
   have hrb : (rq == 2) = false := by
    cases one with
    | true => have := Hq1.out rfl; rw [this]; rfl
    | false => have := Hq2.out rfl; rw [this]; simpa using (fun h => hA ⟨rfl, h, rfl⟩)
   have Hv := Lib.hid (right_no (k := k) (v := v) (s := s) (l := l) (f := f) (n := .mk i nm rp kd sb) (one := one) (fun h => hA ⟨h.1, h.2, rfl⟩))
   clear hA
   go_wp2_with fail
   go_ret
   exact ⟨congrArg (fun z => Ending.returned (.int .i64 z)) Hv.out.symm, hc1⟩
  | false =>
  clear hA
  go_upto_region 5 with fail
  go_cut [26] (fun vt wx => vt = .bool false ∧ wx = w1)
  case first =>
   by_cases h2 : rq = 2
   ·have hrb : (rq == 2) = true := by simpa using h2
    clear h2
    go_wp2_with fail
    go_meet
    exact ⟨rfl, rfl⟩
   ·have hrb : (rq == 2) = false := by simpa using h2
    clear h2
    go_wp2_with fail
    go_meet
    exact ⟨rfl, rfl⟩
  case rest =>
  obtain ⟨rfl, hwc⟩ := hcut
  rw [hwc]
  clear hwc
  by_cases h3 : rq = 3
  ·have h1 : one = false := by
    cases one with
    | true => have := Hq1.out rfl; omega
    | false => rfl
   subst h1
   have h3' : rp = 3 := by have := Hq2.out rfl; omega
   subst h3'
   have hrb : (rq == 3) = true := by simpa using h3
   clear h3
   have Hres := Lib.hid (show rightF (.mk false k v s l f) (.mk i nm 3 kd sb) false = (if bareF false k v s l.length f.length false false true false then (if l.length ≤ 40 then rightL l (.mk i nm 3 kd sb) else some (.er .bound)) else some (.er .shape)) from by
    unfold rightF
    rw [if_neg (by rintro ⟨_, h, _⟩; cases h), if_pos ⟨rfl, by simp [Nd.rep], by simp [Nd.rep]⟩])
   cases hz : zeroV k v s with
   | false =>
    have Hv := Lib.hid (show ekNum (rightF (.mk false k v s l f) (.mk i nm 3 kd sb) false) = 3 by rw [Hres.out, bare_ff (.inr (.inl ⟨rfl, hz⟩))]; rfl)
    rw [Bool.not_false]
    clear hz
    go_wp2_with fail
    go_ret
    exact ⟨congrArg (fun z => Ending.returned (.int .i64 z)) Hv.out.symm, hc1⟩
   | true =>
   rw [Bool.not_true]
   by_cases hf0 : f.length = 0
   case neg =>
    have hf0I : (0 : Int) < (f.length : Int) := by omega
    have Hv := Lib.hid (show ekNum (rightF (.mk false k v s l f) (.mk i nm 3 kd sb) false) = 3 by rw [Hres.out, bare_ff (.inr (.inr (.inr ⟨rfl, hf0⟩)))]; rfl)
    go_wp2_with fail
    go_ret
    exact ⟨congrArg (fun z => Ending.returned (.int .i64 z)) Hv.out.symm, hc1⟩
   have hf0I : ¬ (0 : Int) < (f.length : Int) := by omega
   have Hb := Lib.hid (bare_tt (no := false) (k := k) (v := v) (s := s) (l := l.length) (f := f.length) (a := false) (b := false) (c := true) (e := false) (.inr rfl) (.inr hz) (.inl rfl) (.inr hf0))
   by_cases h40 : (l.length : Int) ≤ 40
   case neg =>
    have h40' : ¬ l.length ≤ 40 := by omega
    have h40I : (40 : Int) < (l.length : Int) := by omega
    have Hv := Lib.hid (show ekNum (rightF (.mk false k v s l f) (.mk i nm 3 kd sb) false) = 2 by rw [Hres.out, Hb.out, if_pos rfl, if_neg h40']; rfl)
    go_wp2_with fail
    go_ret
    exact ⟨congrArg (fun z => Ending.returned (.int .i64 z)) Hv.out.symm, hc1⟩
   have h40I : ¬ (40 : Int) < (l.length : Int) := by omega
   have h40' : l.length ≤ 40 := by omega
   have Hres2 := Lib.hid (show rightF (.mk false k v s l f) (.mk i nm 3 kd sb) false = rightL l (.mk i nm 3 kd sb) by rw [Hres.out, Hb.out, if_pos rfl, if_pos h40'])
   clear hz
   go_wp2_with fail
   go_loopw [9] (fun vi wr => ErrLRel w1 l (.mk i nm 3 kd sb) vi wr) (fun vi _ => l.length - (intOf vi).toNat)
   case atStart => exact ⟨0, Nat.zero_le _, rfl, Chg.refl _ _, rfl⟩
   case round =>
    obtain ⟨j, hj, rfl, hc, hq⟩ := hrel
    have Hq := Lib.hid hq
    clear hq x0 x1 x2 x3 x4 y0 y1 y2 y3 y4 y5
    have hcr := hc1.tr hc
    have hxr := hx1.keep hc NoB.elim
    have hyr := hy1.keep hc NoB.elim
    have x0 : wr.cell? ⟨w.heap.size, 0, none⟩ = some (.int .i64 (i)) := hxr.cell 0
    have x1 : wr.cell? ⟨w.heap.size, 1, none⟩ = some (.string nm) := hxr.cell 1
    have x2 : wr.cell? ⟨w.heap.size, 2, none⟩ = some (.int .i64 (3)) := hxr.cell 2
    have x3 : wr.cell? ⟨w.heap.size, 3, none⟩ = some (.int .i64 (kd)) := hxr.cell 3
    have x4 : wr.cell? ⟨w.heap.size, 4, none⟩ = some (.slice az sb.length cc) := hxr.cell 4
    have y0 : wr.cell? ⟨w.heap.size + 1, 0, none⟩ = some (.bool false) := hyr.cell 0
    have y1 : wr.cell? ⟨w.heap.size + 1, 1, none⟩ = some (.int .i64 (k)) := hyr.cell 1
    have y2 : wr.cell? ⟨w.heap.size + 1, 2, none⟩ = some (.int .i64 (v)) := hyr.cell 2
    have y3 : wr.cell? ⟨w.heap.size + 1, 3, none⟩ = some (.string s) := hyr.cell 3
    have y4 : wr.cell? ⟨w.heap.size + 1, 4, none⟩ = some (.slice al l.length cl) := hyr.cell 4
    have y5 : wr.cell? ⟨w.heap.size + 1, 5, none⟩ = some (.slice af f.length cf) := hyr.cell 5
    by_cases hlt : j < l.length
    ·have hltI : (j : Int) < (l.length : Int) := by omega
     obtain ⟨b', off, rfl, hSb, hbw, hE'⟩ := hel (by omega)
     obtain ⟨ecs, hl6, hcells, hre⟩ := hE'.get j l[j].dt (by simp [hlt])
     have Hc1 := Lib.hid (Hl.out _ (List.getElem_mem hlt))
     have Hat := Lib.hid (rightL_at (n := .mk i nm 3 kd sb) (List.getElem?_eq_getElem hlt))
     generalize l[j] = dj at hre Hc1 Hat
     obtain ⟨b1, k1, n1, s1, l1, f1⟩ := dj
     obtain ⟨vl1, vf1, rfl, hx8, hx9⟩ := reads_dm.1 hre
     obtain ⟨al1, cl1, rfl, _, _, _⟩ := reads_data hx8
     obtain ⟨af1, cf1, rfl, _, _, _⟩ := reads_data hx9
     clear hx8 hx9
     have ef : ∀ t c, [Value.bool b1, .int .i64 k1, .int .i64 n1, .string s1, (.slice al1 l1.length cl1), (.slice af1 f1.length cf1)][t]? = some c → wr.cell? ⟨b', off + j * 6 + t, none⟩ = some c := fun t c ht => (hcr.cell (p := ⟨b', off + j * 6 + t, none⟩) hbw (fun e => e)).trans (hcells t c ht)
     have e0 : wr.cell? ⟨b', off + j * 6, none⟩ = some (.bool b1) := ef 0 _ rfl
     have e1 : wr.cell? ⟨b', off + j * 6 + 1, none⟩ = some (.int .i64 k1) := ef 1 _ rfl
     have e2 : wr.cell? ⟨b', off + j * 6 + 2, none⟩ = some (.int .i64 n1) := ef 2 _ rfl
     have e3 : wr.cell? ⟨b', off + j * 6 + 3, none⟩ = some (.string s1) := ef 3 _ rfl
     have e4 : wr.cell? ⟨b', off + j * 6 + 4, none⟩ = some (.slice al1 l1.length cl1) := ef 4 _ rfl
     have e5 : wr.cell? ⟨b', off + j * 6 + 5, none⟩ = some (.slice af1 f1.length cf1) := ef 5 _ rfl
     clear ef
     go_wp2_with fail
     refine wp_region_n (fun w' => w'.cell? ⟨w.heap.size, 0, none⟩ = some (.int .i64 i) ∧ w'.cell? ⟨w.heap.size, 1, none⟩ = some (.string nm) ∧ w'.cell? ⟨w.heap.size, 2, none⟩ = some (.int .i64 3) ∧ w'.cell? ⟨w.heap.size, 3, none⟩ = some (.int .i64 kd) ∧ w'.cell? ⟨w.heap.size, 4, none⟩ = some (.slice az sb.length cc) ∧ w'.cell? ⟨w.heap.size + 1, 4, none⟩ = some (.slice (some ⟨b', off, none⟩) l.length cl) ∧ w'.cell? ⟨b', off + j * 6, none⟩ = some (.bool b1) ∧ w'.cell? ⟨b', off + j * 6 + 1, none⟩ = some (.int .i64 k1) ∧ w'.cell? ⟨b', off + j * 6 + 2, none⟩ = some (.int .i64 n1) ∧ w'.cell? ⟨b', off + j * 6 + 3, none⟩ = some (.string s1) ∧ w'.cell? ⟨b', off + j * 6 + 4, none⟩ = some (.slice al1 l1.length cl1) ∧ w'.cell? ⟨b', off + j * 6 + 5, none⟩ = some (.slice af1 f1.length cf1)) [] (by kernel_rfl) ?_ (fun hSh => ?_)
     ·exact ⟨x0, x1, x2, x3, x4, y4, e0, e1, e2, e3, e4, e5⟩
     refine n_take (v := ?_) 0 rfl (Or.inl ⟨by rfl, ?_⟩) (by kernel_rfl) (fun _ _ _ h => h) (by assumption) ?_
     rotate_left 1
     ·(intro w' hSw; (try dsimp only at hSw); go_simp; try with_reducible rfl)
     simp only [Act.put, List.getElem_toArray, List.getElem_cons_zero, List.getElem_cons_succ, List.setIfInBounds_toArray, List.set_cons_zero, List.set_cons_succ]
     refine n_take (v := ?_) 1 rfl (Or.inl ⟨by rfl, ?_⟩) (by kernel_rfl) (fun _ _ _ h => h) (by assumption) ?_
     rotate_left 1
     ·(intro w' hSw; (try dsimp only at hSw); go_simp; try with_reducible rfl)
     simp only [Act.put, List.getElem_toArray, List.getElem_cons_zero, List.getElem_cons_succ, List.setIfInBounds_toArray, List.set_cons_zero, List.set_cons_succ]
     refine n_take (v := ?_) 2 rfl (Or.inl ⟨by rfl, ?_⟩) (by kernel_rfl) (fun _ _ _ h => h) (by assumption) ?_
     rotate_left 1
     ·(intro w' hSw; (try dsimp only at hSw); go_simp; try with_reducible rfl)
     simp only [Act.put, List.getElem_toArray, List.getElem_cons_zero, List.getElem_cons_succ, List.setIfInBounds_toArray, List.set_cons_zero, List.set_cons_succ]
     refine n_take (v := ?_) 3 rfl (Or.inl ⟨by rfl, ?_⟩) (by kernel_rfl) (fun _ _ _ h => h) (by assumption) ?_
     rotate_left 1
     ·(intro w' hSw; (try dsimp only at hSw); go_simp; try with_reducible rfl)
     simp only [Act.put, List.getElem_toArray, List.getElem_cons_zero, List.getElem_cons_succ, List.setIfInBounds_toArray, List.set_cons_zero, List.set_cons_succ]
     refine n_take (v := ?_) 4 rfl (Or.inl ⟨by rfl, ?_⟩) (by kernel_rfl) (fun _ _ _ h => h) (by assumption) ?_
     rotate_left 1
     ·(intro w' hSw; (try dsimp only at hSw); go_simp; try with_reducible rfl)
     simp only [Act.put, List.getElem_toArray, List.getElem_cons_zero, List.getElem_cons_succ, List.setIfInBounds_toArray, List.set_cons_zero, List.set_cons_succ]
     refine n_take (v := ?_) 5 rfl (Or.inl ⟨by rfl, ?_⟩) (by kernel_rfl) (fun _ _ _ h => h) (by assumption) ?_
     rotate_left 1
     ·(intro w' hSw; (try dsimp only at hSw); go_simp; try with_reducible rfl)
     simp only [Act.put, List.getElem_toArray, List.getElem_cons_zero, List.getElem_cons_succ, List.setIfInBounds_toArray, List.set_cons_zero, List.set_cons_succ]
     refine n_step 6 rfl (by kernel_rfl) ?_
     go_wp2_with fail
     refine (Hc1.out wr.drew S S' _ _ (Hr.out.chg0 hcr.drew) (hre.chg0 hcr.drew)).mono ?_
     rintro en w4 ⟨rfl, hc4⟩
     replace hc4 := hc4.ofDrew
     go_wp2_with fail
     refine ⟨fun _ => ?_, fun hSk => ?_⟩
     ·have hk4 : ∀ p v, wr.cell? p = some v → w4.cell? p = some v := fun p v h => (hc4.cell (lt_of_cell h) NoB.elim).trans h
      exact ⟨hk4 _ _ x0, hk4 _ _ x1, hk4 _ _ x2, hk4 _ _ x3, hk4 _ _ x4, hk4 _ _ y4, hk4 _ _ e0, hk4 _ _ e1, hk4 _ _ e2, hk4 _ _ e3, hk4 _ _ e4, hk4 _ _ e5⟩
     replace hSk := hSk (by rfl)
     refine n_take (v := ?_) 7 rfl (Or.inl ⟨by rfl, ?_⟩) (by kernel_rfl) (fun _ _ _ h => h) (by assumption) ?_
     rotate_left 1
     ·(intro w' hSw; (try dsimp only at hSw); go_simp; try with_reducible rfl)
     simp only [Act.put, List.getElem_toArray, List.getElem_cons_zero, List.getElem_cons_succ, List.setIfInBounds_toArray, List.set_cons_zero, List.set_cons_succ]
     refine n_done (by kernel_rfl) ?_
     cases hz : rightF (.mk b1 k1 n1 s1 l1 f1) (.mk i nm 3 kd sb) true with
     | some e =>
      obtain ⟨hp1, hp2⟩ := ekNum_pos e
      have Hv := Lib.hid (show ekNum (rightF _ _ _) = ekNum (some e) by rw [Hres2.out, Hq.out, Hat.out, hz])
      clear hz
      generalize ekNum (some e) = en at hp1 hp2 Hv ⊢
      go_wp2_with fail
      go_ret
      exact ⟨congrArg (fun z => Ending.returned (.int .i64 z)) Hv.out.symm, hcr.tr hc4⟩
     | none =>
      have Hnx := Lib.hid (show rightL l (.mk i nm 3 kd sb) = rightL (l.drop (j + 1)) (.mk i nm 3 kd sb) by rw [Hq.out, Hat.out, hz])
      clear hz
      rw [ek_none]
      go_wp2_with fail
      go_roundw
      case rel => exact ⟨j + 1, hlt, by go_num, hc.tr hc4, Hnx.out⟩
      case measure => simp [intOf]; omega
    ·have hjl : j = l.length := by omega
     have hltI : ¬ ((j : Int) < (l.length : Int)) := by omega
     have Hv := Lib.hid (show ekNum (rightF (.mk false k v s l f) (.mk i nm 3 kd sb) false) = 0 by rw [Hres2.out, Hq.out, hjl, List.drop_length]; rfl)
     go_wp2_with fail
     go_ret
     exact ⟨congrArg (fun z => Ending.returned (.int .i64 z)) Hv.out.symm, hcr⟩
  have hrb : (rq == 3) = false := by simpa using h3
  have hway : one = true ∨ rp = 1 ∨ (rp = 2 ∧ false = false) := by
   cases one with
   | true => exact .inl rfl
   | false =>
    have := Hq2.out rfl
    by_cases h1 : rp = 1
    ·exact .inr (.inl h1)
    ·exact .inr (.inr ⟨by omega, rfl⟩)
  have Hres := Lib.hid (right_tail (l := l) (f := f) (k := k) (v := v) (s := s) (no := false) (n := .mk i nm rp kd sb) (one := one) hway)
  clear hway h3
  by_cases hl0 : l.length = 0
  case neg =>
   have hl0I : (0 : Int) < (l.length : Int) := by omega
   have Hv := Lib.hid (show ekNum (rightF (.mk false k v s l f) (.mk i nm rp kd sb) one) = 3 by
    rw [Hres.out]
    by_cases hkd : kd = 0
    ·exact tail_group_bad hkd (.inl hl0)
    ·exact tail_leaf_bad hkd (.inl hl0))
   go_wp2_with fail
   go_ret
   exact ⟨congrArg (fun z => Ending.returned (.int .i64 z)) Hv.out.symm, hc1⟩
  have hl0I : ¬ (0 : Int) < (l.length : Int) := by omega
  by_cases hkd : kd = 0
  case neg =>
   have hkb : (kd == 0) = false := by simpa using hkd
   by_cases hf0 : f.length = 0
   case neg =>
    have hf0I : (0 : Int) < (f.length : Int) := by omega
    have Hv := Lib.hid (show ekNum (rightF (.mk false k v s l f) (.mk i nm rp kd sb) one) = 3 by rw [Hres.out]; exact tail_leaf_bad hkd (.inr hf0))
    go_wp2_with fail
    go_ret
    exact ⟨congrArg (fun z => Ending.returned (.int .i64 z)) Hv.out.symm, hc1⟩
   have hf0I : ¬ (0 : Int) < (f.length : Int) := by omega
   go_wp2_with fail
   refine (isValue_any kd k v s w1 ⟨by omega, hkd5⟩ hn hs).mono ?_
   rintro en w3 ⟨rfl, hc3⟩
   cases hq : okF kd k v s with
   | false =>
    have Hv := Lib.hid (show ekNum (rightF (.mk false k v s l f) (.mk i nm rp kd sb) one) = 4 by rw [Hres.out]; exact tail_leaf_no hkd hl0 hf0 hq)
    go_wp2_with fail
    go_ret
    exact ⟨congrArg (fun z => Ending.returned (.int .i64 z)) Hv.out.symm, hc1.tr hc3⟩
   | true =>
    have Hv := Lib.hid (show ekNum (rightF (.mk false k v s l f) (.mk i nm rp kd sb) one) = 0 by rw [Hres.out]; exact tail_leaf_yes hkd hl0 hf0 hq)
    go_wp2_with fail
    go_ret
    exact ⟨congrArg (fun z => Ending.returned (.int .i64 z)) Hv.out.symm, hc1.tr hc3⟩
  subst hkd
  cases hz : zeroV k v s with
  | false =>
   have Hv := Lib.hid (show ekNum (rightF (.mk false k v s l f) (.mk i nm rp 0 sb) one) = 3 by rw [Hres.out]; exact tail_group_bad rfl (.inr (.inl hz)))
   rw [Bool.not_false]
   clear hz
   go_wp2_with fail
   go_ret
   exact ⟨congrArg (fun z => Ending.returned (.int .i64 z)) Hv.out.symm, hc1⟩
  | true =>
  rw [Bool.not_true]
  by_cases hln : f.length = sb.length
  case neg =>
   have hlI : ¬ ((f.length : Int) = (sb.length : Int)) := by omega
   have hlb : ((f.length : Int) == (sb.length : Int)) = false := by simpa using hlI
   have Hv := Lib.hid (show ekNum (rightF (.mk false k v s l f) (.mk i nm rp 0 sb) one) = 3 by rw [Hres.out]; exact tail_group_bad rfl (.inr (.inr hln)))
   go_wp2_with fail
   go_ret
   exact ⟨congrArg (fun z => Ending.returned (.int .i64 z)) Hv.out.symm, hc1⟩
  have Hres2 := Lib.hid (show rightF (.mk false k v s l f) (.mk i nm rp 0 sb) one = rightP f sb by rw [Hres.out]; exact tail_group rfl hl0 hz hln)
  have Hln := Lib.hid hln
  have hlI : (f.length : Int) = (sb.length : Int) := by omega
  clear hln hz
  go_wp2_with fail
  clear hlI
  go_loopw [12] (fun vi wr => ErrPRel w1 f sb vi wr) (fun vi _ => f.length - (intOf vi).toNat)
  case atStart => exact ⟨0, Nat.zero_le _, rfl, Chg.refl _ _, rfl⟩
  case round =>
   obtain ⟨j, hj, rfl, hc, hq⟩ := hrel
   have Hq := Lib.hid hq
   clear hq x0 x1 x2 x3 x4 y0 y1 y2 y3 y4 y5
   have hcr := hc1.tr hc
   have hxr := hx1.keep hc NoB.elim
   have hyr := hy1.keep hc NoB.elim
   have x0 : wr.cell? ⟨w.heap.size, 0, none⟩ = some (.int .i64 (i)) := hxr.cell 0
   have x1 : wr.cell? ⟨w.heap.size, 1, none⟩ = some (.string nm) := hxr.cell 1
   have x2 : wr.cell? ⟨w.heap.size, 2, none⟩ = some (.int .i64 (rp)) := hxr.cell 2
   have x3 : wr.cell? ⟨w.heap.size, 3, none⟩ = some (.int .i64 (0)) := hxr.cell 3
   have x4 : wr.cell? ⟨w.heap.size, 4, none⟩ = some (.slice az sb.length cc) := hxr.cell 4
   have y0 : wr.cell? ⟨w.heap.size + 1, 0, none⟩ = some (.bool false) := hyr.cell 0
   have y1 : wr.cell? ⟨w.heap.size + 1, 1, none⟩ = some (.int .i64 (k)) := hyr.cell 1
   have y2 : wr.cell? ⟨w.heap.size + 1, 2, none⟩ = some (.int .i64 (v)) := hyr.cell 2
   have y3 : wr.cell? ⟨w.heap.size + 1, 3, none⟩ = some (.string s) := hyr.cell 3
   have y4 : wr.cell? ⟨w.heap.size + 1, 4, none⟩ = some (.slice al l.length cl) := hyr.cell 4
   have y5 : wr.cell? ⟨w.heap.size + 1, 5, none⟩ = some (.slice af f.length cf) := hyr.cell 5
   have hln := Hln.out
   by_cases hlt : j < f.length
   ·have hltI : (j : Int) < (f.length : Int) := by omega
    have hlt2 : j < sb.length := by omega
    have hltS : (j : Int) < (sb.length : Int) := by omega
    obtain ⟨b', off, rfl, hSb, hbw, hE'⟩ := hef (by omega)
    obtain ⟨ecs, hl6, hcells, hre⟩ := hE'.get j f[j].dt (by simp [hlt])
    obtain ⟨b2, of2, rfl, hSb2, hbw2, hE2⟩ := hes (by omega)
    obtain ⟨gcs, hl5, hcells2, hrg⟩ := hE2.get j sb[j].dt (by simp [hlt2])
    have Hc1 := Lib.hid (Hf.out _ (List.getElem_mem hlt) _ (List.getElem_mem hlt2))
    have Hat := Lib.hid (rightP_at (List.getElem?_eq_getElem hlt) (List.getElem?_eq_getElem hlt2))
    clear hln
    generalize f[j] = dj at hre Hc1 Hat
    generalize sb[j] = nj at hrg Hc1 Hat
    obtain ⟨b1, k1, n1, s1, l1, f1⟩ := dj
    obtain ⟨i3, n3, r3, k3, s3⟩ := nj
    obtain ⟨vl1, vf1, rfl, hx8, hx9⟩ := reads_dm.1 hre
    obtain ⟨al1, cl1, rfl, _, _, _⟩ := reads_data hx8
    obtain ⟨af1, cf1, rfl, _, _, _⟩ := reads_data hx9
    obtain ⟨vs3, rfl, hx7⟩ := reads_nd.1 hrg
    obtain ⟨as3, cs3, rfl, _, _, _⟩ := reads_subs hx7
    clear hx7 hx8 hx9
    have ef : ∀ t c, [Value.bool b1, .int .i64 k1, .int .i64 n1, .string s1, (.slice al1 l1.length cl1), (.slice af1 f1.length cf1)][t]? = some c → wr.cell? ⟨b', off + j * 6 + t, none⟩ = some c := fun t c ht => (hcr.cell (p := ⟨b', off + j * 6 + t, none⟩) hbw (fun e => e)).trans (hcells t c ht)
    have e0 : wr.cell? ⟨b', off + j * 6, none⟩ = some (.bool b1) := ef 0 _ rfl
    have e1 : wr.cell? ⟨b', off + j * 6 + 1, none⟩ = some (.int .i64 k1) := ef 1 _ rfl
    have e2 : wr.cell? ⟨b', off + j * 6 + 2, none⟩ = some (.int .i64 n1) := ef 2 _ rfl
    have e3 : wr.cell? ⟨b', off + j * 6 + 3, none⟩ = some (.string s1) := ef 3 _ rfl
    have e4 : wr.cell? ⟨b', off + j * 6 + 4, none⟩ = some (.slice al1 l1.length cl1) := ef 4 _ rfl
    have e5 : wr.cell? ⟨b', off + j * 6 + 5, none⟩ = some (.slice af1 f1.length cf1) := ef 5 _ rfl
    clear ef
    have uf : ∀ t c, [Value.int .i64 i3, .string n3, .int .i64 r3, .int .i64 k3, (.slice as3 s3.length cs3)][t]? = some c → wr.cell? ⟨b2, of2 + j * 5 + t, none⟩ = some c := fun t c ht => (hcr.cell (p := ⟨b2, of2 + j * 5 + t, none⟩) hbw2 (fun e => e)).trans (hcells2 t c ht)
    have u0 : wr.cell? ⟨b2, of2 + j * 5, none⟩ = some (.int .i64 i3) := uf 0 _ rfl
    have u1 : wr.cell? ⟨b2, of2 + j * 5 + 1, none⟩ = some (.string n3) := uf 1 _ rfl
    have u2 : wr.cell? ⟨b2, of2 + j * 5 + 2, none⟩ = some (.int .i64 r3) := uf 2 _ rfl
    have u3 : wr.cell? ⟨b2, of2 + j * 5 + 3, none⟩ = some (.int .i64 k3) := uf 3 _ rfl
    have u4 : wr.cell? ⟨b2, of2 + j * 5 + 4, none⟩ = some (.slice as3 s3.length cs3) := uf 4 _ rfl
    clear uf
    go_wp2_with fail
    refine wp_region_n (fun w' => w'.cell? ⟨b2, of2 + j * 5, none⟩ = some (.int .i64 i3) ∧ w'.cell? ⟨b2, of2 + j * 5 + 1, none⟩ = some (.string n3) ∧ w'.cell? ⟨b2, of2 + j * 5 + 2, none⟩ = some (.int .i64 r3) ∧ w'.cell? ⟨b2, of2 + j * 5 + 3, none⟩ = some (.int .i64 k3) ∧ w'.cell? ⟨b2, of2 + j * 5 + 4, none⟩ = some (.slice as3 s3.length cs3) ∧ w'.cell? ⟨w.heap.size, 4, none⟩ = some (.slice (some ⟨b2, of2, none⟩) sb.length cc) ∧ w'.cell? ⟨w.heap.size + 1, 5, none⟩ = some (.slice (some ⟨b', off, none⟩) f.length cf) ∧ w'.cell? ⟨b', off + j * 6, none⟩ = some (.bool b1) ∧ w'.cell? ⟨b', off + j * 6 + 1, none⟩ = some (.int .i64 k1) ∧ w'.cell? ⟨b', off + j * 6 + 2, none⟩ = some (.int .i64 n1) ∧ w'.cell? ⟨b', off + j * 6 + 3, none⟩ = some (.string s1) ∧ w'.cell? ⟨b', off + j * 6 + 4, none⟩ = some (.slice al1 l1.length cl1) ∧ w'.cell? ⟨b', off + j * 6 + 5, none⟩ = some (.slice af1 f1.length cf1)) [] (by kernel_rfl) ?_ (fun hSh => ?_)
    ·exact ⟨u0, u1, u2, u3, u4, x4, y5, e0, e1, e2, e3, e4, e5⟩
    refine n_take (v := ?_) 0 rfl (Or.inl ⟨by rfl, ?_⟩) (by kernel_rfl) (fun _ _ _ h => h) (by assumption) ?_
    rotate_left 1
    ·(intro w' hSw; (try dsimp only at hSw); go_simp; try with_reducible rfl)
    simp only [Act.put, List.getElem_toArray, List.getElem_cons_zero, List.getElem_cons_succ, List.setIfInBounds_toArray, List.set_cons_zero, List.set_cons_succ]
    refine n_take (v := ?_) 1 rfl (Or.inl ⟨by rfl, ?_⟩) (by kernel_rfl) (fun _ _ _ h => h) (by assumption) ?_
    rotate_left 1
    ·(intro w' hSw; (try dsimp only at hSw); go_simp; try with_reducible rfl)
    simp only [Act.put, List.getElem_toArray, List.getElem_cons_zero, List.getElem_cons_succ, List.setIfInBounds_toArray, List.set_cons_zero, List.set_cons_succ]
    refine n_take (v := ?_) 2 rfl (Or.inl ⟨by rfl, ?_⟩) (by kernel_rfl) (fun _ _ _ h => h) (by assumption) ?_
    rotate_left 1
    ·(intro w' hSw; (try dsimp only at hSw); go_simp; try with_reducible rfl)
    simp only [Act.put, List.getElem_toArray, List.getElem_cons_zero, List.getElem_cons_succ, List.setIfInBounds_toArray, List.set_cons_zero, List.set_cons_succ]
    refine n_take (v := ?_) 3 rfl (Or.inl ⟨by rfl, ?_⟩) (by kernel_rfl) (fun _ _ _ h => h) (by assumption) ?_
    rotate_left 1
    ·(intro w' hSw; (try dsimp only at hSw); go_simp; try with_reducible rfl)
    simp only [Act.put, List.getElem_toArray, List.getElem_cons_zero, List.getElem_cons_succ, List.setIfInBounds_toArray, List.set_cons_zero, List.set_cons_succ]
    refine n_take (v := ?_) 4 rfl (Or.inl ⟨by rfl, ?_⟩) (by kernel_rfl) (fun _ _ _ h => h) (by assumption) ?_
    rotate_left 1
    ·(intro w' hSw; (try dsimp only at hSw); go_simp; try with_reducible rfl)
    simp only [Act.put, List.getElem_toArray, List.getElem_cons_zero, List.getElem_cons_succ, List.setIfInBounds_toArray, List.set_cons_zero, List.set_cons_succ]
    refine n_take (v := ?_) 5 rfl (Or.inl ⟨by rfl, ?_⟩) (by kernel_rfl) (fun _ _ _ h => h) (by assumption) ?_
    rotate_left 1
    ·(intro w' hSw; (try dsimp only at hSw); go_simp; try with_reducible rfl)
    simp only [Act.put, List.getElem_toArray, List.getElem_cons_zero, List.getElem_cons_succ, List.setIfInBounds_toArray, List.set_cons_zero, List.set_cons_succ]
    refine n_take (v := ?_) 6 rfl (Or.inl ⟨by rfl, ?_⟩) (by kernel_rfl) (fun _ _ _ h => h) (by assumption) ?_
    rotate_left 1
    ·(intro w' hSw; (try dsimp only at hSw); go_simp; try with_reducible rfl)
    simp only [Act.put, List.getElem_toArray, List.getElem_cons_zero, List.getElem_cons_succ, List.setIfInBounds_toArray, List.set_cons_zero, List.set_cons_succ]
    refine n_take (v := ?_) 7 rfl (Or.inl ⟨by rfl, ?_⟩) (by kernel_rfl) (fun _ _ _ h => h) (by assumption) ?_
    rotate_left 1
    ·(intro w' hSw; (try dsimp only at hSw); go_simp; try with_reducible rfl)
    simp only [Act.put, List.getElem_toArray, List.getElem_cons_zero, List.getElem_cons_succ, List.setIfInBounds_toArray, List.set_cons_zero, List.set_cons_succ]
    refine n_take (v := ?_) 8 rfl (Or.inl ⟨by rfl, ?_⟩) (by kernel_rfl) (fun _ _ _ h => h) (by assumption) ?_
    rotate_left 1
    ·(intro w' hSw; (try dsimp only at hSw); go_simp; try with_reducible rfl)
    simp only [Act.put, List.getElem_toArray, List.getElem_cons_zero, List.getElem_cons_succ, List.setIfInBounds_toArray, List.set_cons_zero, List.set_cons_succ]
    refine n_take (v := ?_) 9 rfl (Or.inl ⟨by rfl, ?_⟩) (by kernel_rfl) (fun _ _ _ h => h) (by assumption) ?_
    rotate_left 1
    ·(intro w' hSw; (try dsimp only at hSw); go_simp; try with_reducible rfl)
    simp only [Act.put, List.getElem_toArray, List.getElem_cons_zero, List.getElem_cons_succ, List.setIfInBounds_toArray, List.set_cons_zero, List.set_cons_succ]
    refine n_step 10 rfl (by kernel_rfl) ?_
    go_wp2_with fail
    refine (Hc1.out wr.drew S S' _ _ (hrg.chg0 hcr.drew) (hre.chg0 hcr.drew)).mono ?_
    rintro en w4 ⟨rfl, hc4⟩
    replace hc4 := hc4.ofDrew
    go_wp2_with fail
    refine ⟨fun _ => ?_, fun hSk => ?_⟩
    ·have hk4 : ∀ p v, wr.cell? p = some v → w4.cell? p = some v := fun p v h => (hc4.cell (lt_of_cell h) NoB.elim).trans h
     exact ⟨hk4 _ _ u0, hk4 _ _ u1, hk4 _ _ u2, hk4 _ _ u3, hk4 _ _ u4, hk4 _ _ x4, hk4 _ _ y5, hk4 _ _ e0, hk4 _ _ e1, hk4 _ _ e2, hk4 _ _ e3, hk4 _ _ e4, hk4 _ _ e5⟩
    replace hSk := hSk (by rfl)
    refine n_take (v := ?_) 11 rfl (Or.inl ⟨by rfl, ?_⟩) (by kernel_rfl) (fun _ _ _ h => h) (by assumption) ?_
    rotate_left 1
    ·(intro w' hSw; (try dsimp only at hSw); go_simp; try with_reducible rfl)
    simp only [Act.put, List.getElem_toArray, List.getElem_cons_zero, List.getElem_cons_succ, List.setIfInBounds_toArray, List.set_cons_zero, List.set_cons_succ]
    refine n_done (by kernel_rfl) ?_
    cases hz : rightF (.mk b1 k1 n1 s1 l1 f1) (.mk i3 n3 r3 k3 s3) false with
    | some e =>
     obtain ⟨hp1, hp2⟩ := ekNum_pos e
     have Hv := Lib.hid (show ekNum (rightF _ _ _) = ekNum (some e) by rw [Hres2.out, Hq.out, Hat.out, hz])
     clear hz
     generalize ekNum (some e) = en at hp1 hp2 Hv ⊢
     go_wp2_with fail
     go_ret
     exact ⟨congrArg (fun z => Ending.returned (.int .i64 z)) Hv.out.symm, hcr.tr hc4⟩
    | none =>
     have Hnx := Lib.hid (show rightP f sb = rightP (f.drop (j + 1)) (sb.drop (j + 1)) by rw [Hq.out, Hat.out, hz])
     clear hz
     rw [ek_none]
     go_wp2_with fail
     go_roundw
     case rel => exact ⟨j + 1, hlt, by go_num, hc.tr hc4, Hnx.out⟩
     case measure => simp [intOf]; omega
   ·have hjl : j = f.length := by omega
    have hltI : ¬ ((j : Int) < (f.length : Int)) := by omega
    have Hv := Lib.hid (show ekNum (rightF (.mk false k v s l f) (.mk i nm rp 0 sb) one) = 0 by rw [Hres2.out, Hq.out, hjl, List.drop_length]; rfl)
    go_wp2_with fail
    go_ret
    exact ⟨congrArg (fun z => Ending.returned (.int .i64 z)) Hv.out.symm, hcr⟩
end Go.Proofs.YtgcmfpcgmkkobaaGreatDoor
