/-
  table.read: plain words: the parts of a text, the lists of texts, what comes back.; table.read.; table: needed: plain words on rows of texts, and what slices.Sort and slices.Compact leave of an own row.; table: needed, of whatever lists.
-/
import Derived.Test.YtnmhkafpgohefaaGreatDoorTabNew
import Derived.Test.YtnmhkafpgohefaaGreatDoorShort
import Derived.Test.YtnmhkafpgohefaaGreatDoorLogNodeT
import Derived.Test.YtnmhkafpgohefaaGreatDoorTreeMore
import Derived.Test.YtnmhkafpgohefaaGreatDoorPlainE
import Derived.Deep.DeepCutAuto
import Derived.Test.YtnmhkafpgohefaaGreatDoorShelf
import Derived.Sort.OwnSorted
import Derived.Sort.Grow
import Derived.Lib.OwnBridge
set_option linter.unusedVariables false
set_option maxHeartbeats 20000000
set_option maxRecDepth 100000
set_option linter.unusedSimpArgs false
namespace Go.Proofs.YtnmhkafpgohefaaGreatDoor
open Go.RowKit
def rowDt (l : List ByteArray) : Dt := .list 1 (l.map strDt)
theorem fields_sum : ∀ (f : Nat) (cur l : List UInt8), ((Lib.fieldsGoD f cur l).map List.length).sum ≤ cur.length + l.length
 | 0, cur, l => by
  unfold Lib.fieldsGoD
  by_cases h : cur = [] <;> simp [h]
 | f + 1, cur, l => by
  unfold Lib.fieldsGoD
  by_cases hl : l = []
  ·by_cases h : cur = [] <;> simp [h, hl]
  ·by_cases hs : Lib.isSpaceR (Lib.decodeL l).1 = true
   ·have h1 := fields_sum f [] (l.drop (Lib.decodeL l).2)
    rw [List.length_drop, List.length_nil] at h1
    by_cases h : cur = []
    ·simp only [if_neg hl, if_pos hs, if_pos h, List.nil_append]; omega
    ·simp only [if_neg hl, if_pos hs, if_neg h, List.map_append, List.sum_append, List.map_cons, List.map_nil, List.sum_cons, List.sum_nil]; omega
   ·have h1 := fields_sum f (cur ++ l.take (Lib.decodeL l).2) (l.drop (Lib.decodeL l).2)
    rw [List.length_append, List.length_drop, List.length_take] at h1
    simp only [if_neg hl, if_neg hs]
    omega
theorem fields_pos : ∀ (f : Nat) (cur l : List UInt8), ∀ x ∈ Lib.fieldsGoD f cur l, x ≠ []
 | 0, cur, l => by
  intro x hx
  unfold Lib.fieldsGoD at hx
  by_cases h : cur = []
  ·simp [h] at hx
  ·simp [h] at hx; rw [hx]; exact h
 | f + 1, cur, l => by
  intro x hx
  unfold Lib.fieldsGoD at hx
  by_cases hl : l = []
  ·by_cases h : cur = []
   ·simp [h, hl] at hx
   ·simp [h, hl] at hx; rw [hx]; exact h
  ·by_cases hs : Lib.isSpaceR (Lib.decodeL l).1 = true
   ·simp only [if_neg hl, if_pos hs] at hx
    rcases List.mem_append.1 hx with hx | hx
    ·by_cases h : cur = []
     ·simp [h] at hx
     ·simp [h] at hx; rw [hx]; exact h
    ·exact fields_pos f [] _ x hx
   ·simp only [if_neg hl, if_neg hs] at hx
    exact fields_pos f _ _ x hx
theorem len_le_sum : ∀ {l : List (List UInt8)}, (∀ x ∈ l, x ≠ []) → l.length ≤ (l.map List.length).sum
 | [], _ => Nat.zero_le _
 | x :: r, h => by
  have h1 := len_le_sum (l := r) (fun y hy => h y (List.mem_cons_of_mem _ hy))
  have h2 : 0 < x.length := List.length_pos_iff.2 (h x (List.mem_cons_self ..))
  simp only [List.length_cons, List.map_cons, List.sum_cons]
  omega
theorem mem_le_sum : ∀ {l : List (List UInt8)} {x : List UInt8}, x ∈ l → x.length ≤ (l.map List.length).sum
 | y :: r, x, h => by
  simp only [List.map_cons, List.sum_cons]
  rcases List.mem_cons.1 h with rfl | h
  ·omega
  ·have := mem_le_sum h; omega
def fieldsB (l : List UInt8) : List ByteArray := (Lib.fieldsD l).map fun x => (⟨x.toArray⟩ : ByteArray)
theorem fieldsB_le (l : List UInt8) : (fieldsB l).length ≤ l.length ∧ ∀ x ∈ fieldsB l, x.size ≤ l.length := by
 have h1 := fields_sum (l.length + 1) [] l
 rw [List.length_nil, Nat.zero_add] at h1
 constructor
 ·have h2 := len_le_sum (fields_pos (l.length + 1) [] l)
  unfold fieldsB Lib.fieldsD
  rw [List.length_map]
  omega
 ·intro x hx
  unfold fieldsB Lib.fieldsD at hx
  obtain ⟨y, hy, rfl⟩ := List.mem_map.1 hx
  have := mem_le_sum hy
  show y.toArray.size ≤ _
  simp
  omega
theorem white_keep {g : Nat} {w w' : World} (h : Lib.WhiteTab g w) (hc : Chg NoB w w') : Lib.WhiteTab g w' := by
 obtain ⟨T, oT, R, oR, h1, h2, h3, h4, h5⟩ := h
 exact ⟨T, oT, R, oR, (hc.cell (lt_cell h1) nbE).trans h1, (hc.cell (lt_cell h2) nbE).trans h2, (hc.cell (lt_cell h3) nbE).trans h3, (hc.cell (lt_cell h4) nbE).trans h4, fun i hi => (hc.cell (lt_cell (h5 i hi)) nbE).trans (h5 i hi)⟩
theorem fields_any (l : List UInt8) (w : World) (hl : l.length ≤ 100000) (ha : Lib.TabIs Tryz.prog w "strings.asciiSpace" .u8 Lib.asciiSpaceTab) (hW : Lib.WhiteTab 10 w) :
  Calls Tryz.prog 29 #[.string ⟨l.toArray⟩] w (fun en w' => ∃ v, en = .returned v ∧ Own w' w.heap.size 9 1 (fun _ => False) v ((fieldsB l).map strDt) ∧ Chg NoB w w') := by
 refine (Tryz.strings_Fields_any ⟨l.toArray⟩ w (by rw [siz_list]; omega) ha hW).mono ?_
 rintro en w' ⟨a, rfl, hA, hr, hb⟩
 rw [dat_list] at hr
 refine ⟨_, rfl, ⟨(fieldsB l).map Value.string, ?_, strs_chunksT _ _ _⟩, Chg.ofBelow hb⟩
 have e1 : ((fieldsB l).map strDt).length = (Lib.fieldsD l).length := by simp [fieldsB]
 have e2 : (fieldsB l).map Value.string = (Lib.fieldsD l).map fun x => Value.string ⟨x.toArray⟩ := by simp [fieldsB]
 rw [e1, e2, dat_list]
 exact hr
def RetRd (n : Nat) (w : World) (en : Ending) (w' : World) : Prop :=
 Chg NoB w w' ∧ ∃ (ok : Bool) (E : List ByteArray) (S : List (List ByteArray)) (ve vs : Value) (nx : Int), en = .returned (.tuple #[.agg #[ve, vs, .int .i64 nx], .bool ok]) ∧
  Reads w' (fun b => w.heap.size ≤ b) (.list 1 (E.map strDt)) [ve] ∧ Reads w' (fun b => w.heap.size ≤ b) (.list 1 (S.map rowDt)) [vs] ∧ (E.map ByteArray.size).sum ≤ n ∧ S.length ≤ n ∧ ∀ r ∈ S, r.length ≤ n ∧ ∀ x ∈ r, x.size ≤ n
def TdRel (n many bb : Nat) (w1 : World) (vb : Value) (wr : World) : Prop :=
 ∃ (f : List UInt8) (E : List ByteArray) (S : List (List ByteArray)) (B2 : Nat) (ve vs : Value) (nx : Int), vb = .string ⟨f.toArray⟩ ∧ Blk wr bb [ve, vs, .int .i64 nx] 51 ∧
  Own wr w1.heap.size 9 1 (fun _ => False) ve (E.map strDt) ∧ Own wr B2 37 1 (fun b => B2 ≤ b) vs (S.map rowDt) ∧ (∀ b, ve.ownBlock = some b → b < B2) ∧ w1.heap.size ≤ B2 ∧ B2 ≤ wr.heap.size ∧
  (E.length < many → S = [] ∧ vs = .slice none 0 0) ∧ (E.map ByteArray.size).sum + f.length ≤ n ∧ E.length ≤ many ∧ S.length + f.length ≤ n ∧ (∀ r ∈ S, r.length ≤ n ∧ ∀ x ∈ r, x.size ≤ n) ∧ Chg (OneB bb) w1 wr
theorem retRd_of {n B2 : Nat} {w w6 wr wE : World} {E : List ByteArray} {S : List (List ByteArray)} {ve vs : Value} (nx : Int) (ok : Bool) (h6 : w.heap.size < w6.heap.size) (hoe : Own wr w6.heap.size 9 1 (fun _ => False) ve (E.map strDt)) (hos : Own wr B2 37 1 (fun b => B2 ≤ b) vs (S.map rowDt))
  (hB1 : w6.heap.size ≤ B2) (hc : Chg NoB w wE) (hs : Chg (OneB w.heap.size) wr wE) (hn : n ≤ 1000) (hE : E.length ≤ 60) (hsum : (E.map ByteArray.size).sum ≤ n) (hS : S.length ≤ n) (hrow : ∀ r ∈ S, r.length ≤ n ∧ ∀ x ∈ r, x.size ≤ n) :
  RetRd n w (.returned (.tuple #[.agg #[ve, vs, .int .i64 nx], .bool ok])) wE := by
 refine ⟨hc, ok, E, S, ve, vs, nx, rfl, ?_, ?_, hsum, hS, hrow⟩
 ·have h1 := hoe.reads (S' := fun b => w6.heap.size ≤ b) (fun _ h => h.elim) (fun b h _ => h) (by rw [List.length_map]; unfold maxLen; omega)
  exact (h1.chg hs (fun b h e => by have e : b = w.heap.size := e; omega)).mono (fun b h => by omega)
 ·have h1 := hos.reads (S' := fun b => w6.heap.size ≤ b) (fun b h => by omega) (fun b h _ => by omega) (by rw [List.length_map]; unfold maxLen; omega)
  exact (h1.chg hs (fun b h e => by have e : b = w.heap.size := e; omega)).mono (fun b h => by omega)
theorem resRd {t : Array Value} {w : World} {b : Nat} {ev c0 c1 c2 : Value} (h2 : t[2]?.getD undef = .pointer (some ⟨b, 0, none⟩)) (h3 : t[3]?.getD undef = ev)
  (n0 : w.cell? ⟨b, 0, none⟩ = some c0) (n1 : w.cell? ⟨b, 1, none⟩ = some c1) (n2 : w.cell? ⟨b, 2, none⟩ = some c2) :
  (results Tryz.f15 t).run Tryz.prog w = .ok (.tuple #[.agg #[c0, c1, c2], ev]) w := by
 simp [results, Tryz.results15, go_sem, h2, h3, n0, n1, n2]
theorem infoStrs1 : (Tryz.prog.info? 37).map (fun i => (i.zero, i.size, i.bytes)) = some (some (.slice none 0 0), 1, 24) := by kernel_rfl
theorem readFixed_short (l : List UInt8) (w : World) (e : Value) (he : ∃ T v, e = .iface T v) (hce : w.cell? ⟨2, 0, none⟩ = some e) (hl : l.length < 4) : Calls Tryz.prog 25 #[.string ⟨l.toArray⟩, .int .i64 4] w (fun en w' => en = .returned (.tuple #[.int .u64 0, e]) ∧ Chg NoB w w') := by
 obtain ⟨T, u, rfl⟩ := he
 have hs : ((⟨l.toArray⟩ : ByteArray).size : Int) < 4 := by rw [siz_list]; omega
 go_enter Tryz.func25, Tryz.ntmps25
 go_wp2_with fail
 go_quiet (fail)
 go_wp2_with fail
 go_ret2
 exact ⟨rfl, (Chg.refl _ _).drewN _⟩
theorem rdL_any (l : List UInt8) (k : Nat) (w : World) (hk1 : 1 ≤ k) (hk : k ≤ 8) (hs : k ≤ l.length) (hb : l.length ≤ 9000000000000000000) : Calls Tryz.prog 25 #[.string ⟨l.toArray⟩, .int .i64 (k : Nat)] w (RetV (.tuple #[.int .u64 (leV (l.take k) : Nat), .nilIface]) w) := by
 have h := readFixed_any ⟨l.toArray⟩ k w hk1 hk (by rw [siz_list]; exact hs) (by rw [siz_list]; exact hb)
 rwa [dat_list] at h
theorem readsNil (w : World) (S : Nat → Prop) : Reads w S (.list 1 []) [.slice none 0 0] := ⟨none, 0, rfl, Nat.le_refl _, Nat.zero_le _, .inl ⟨rfl, fun _ => rfl⟩⟩
theorem readT_any (l : List UInt8) (w : World) (A : Nat → Addr) (hS : Sents w A) (ha : Lib.TabIs Tryz.prog w "strings.asciiSpace" .u8 Lib.asciiSpaceTab) (hW : Lib.WhiteTab 10 w) (hl : l.length ≤ 1000) :
  Calls Tryz.prog 15 #[.string ⟨l.toArray⟩] w (RetRd l.length w) := by
 have HT := Lib.hid (fun (w' : World) (hc : Chg NoB w w') => (hS.keep0 hc).cell 0 2 rfl)
 have Ha := Lib.hid ha
 have HW := Lib.hid hW
 clear ha hW
 have Hempty := Lib.hid (show ∀ w' : World, Chg NoB w w' → ∀ nx, RetRd l.length w (.returned (.tuple #[.agg #[.slice none 0 0, .slice none 0 0, .int .i64 nx], .bool false])) w' from fun w' hc nx =>
  ⟨hc, false, [], [], _, _, nx, rfl, readsNil _ _, readsNil _ _, Nat.zero_le _, Nat.zero_le _, fun r h => by cases h⟩)
 go_enter Tryz.func15, Tryz.ntmps15
 obtain ⟨Q0, hQ0⟩ : ∃ q, q = bodyPost Tryz.prog Tryz.f15 (RetRd l.length w) := ⟨_, rfl⟩
 rw [← hQ0]
 have HQ := Lib.hid hQ0
 clear hQ0
 go_upto_region 1 with fail
 generalize hw1 : World.alloc _ _ = w1
 have hc1 : Chg NoB w w1 := by
  rw [← hw1]
  repeat (first | exact Chg.refl _ _ | apply Chg.alloc | apply Chg.drew)
 have hb1 : Blk w1 (w.heap.size) ([.slice none 0 0, .slice none 0 0, .int .i64 0]) 51 := by
  rw [← hw1]
  repeat (first | exact Blk.newAt (by first | rfl | (simp; done) | (simp; omega)) | apply Blk.alloc | apply Blk.drew)
 clear hw1
 by_cases h4 : l.length < 4
 ·go_wp2_with fail
  refine (readFixed_short l w1 (sv (A 0)) ⟨_, _, rfl⟩ (HT.out w1 hc1) h4).mono ?_
  rintro en w2 ⟨rfl, hc2⟩
  have hb2 := hb1.keep hc2 nbE
  have hc02 := hc1.tr hc2
  unfold sv
  have z0 : w2.cell? ⟨w.heap.size, 0, none⟩ = some (.slice none 0 0) := hb2.cell 0
  have z1 : w2.cell? ⟨w.heap.size, 1, none⟩ = some (.slice none 0 0) := hb2.cell 1
  have z2 : w2.cell? ⟨w.heap.size, 2, none⟩ = some (.int .i64 (0)) := hb2.cell 2
  have y0 : w2.frozen? ⟨w.heap.size, 0, none⟩ = false := hb2.free 0
  have y1 : w2.frozen? ⟨w.heap.size, 1, none⟩ = false := hb2.free 1
  have y2 : w2.frozen? ⟨w.heap.size, 2, none⟩ = false := hb2.free 2
  go_wp2_with fail
  rw [HQ.out]
  have hbE := ((hb2.set 0 (.slice none 0 0)).set 1 (.slice none 0 0)).set 2 (.int .i64 (0))
  have hsE : Chg (OneB w.heap.size) w2 (((w2.setCell ⟨w.heap.size, 0, none⟩ (.slice none 0 0)).setCell ⟨w.heap.size, 1, none⟩ (.slice none 0 0)).setCell ⟨w.heap.size, 2, none⟩ (.int .i64 (0))) := (((Chg.refl (OneB w.heap.size) w2).setCell (p := ⟨w.heap.size, 0, none⟩) (.inl rfl) _).setCell (p := ⟨w.heap.size, 1, none⟩) (.inl rfl) _).setCell (p := ⟨w.heap.size, 2, none⟩) (.inl rfl) _
  have hcE := hc02.trans hsE (fun i e => .inr (Nat.le_of_eq (Eq.symm e)))
  generalize World.setCell (World.setCell (World.setCell w2 ⟨w.heap.size, 0, none⟩ (.slice none 0 0)) ⟨w.heap.size, 1, none⟩ (.slice none 0 0)) ⟨w.heap.size, 2, none⟩ (.int .i64 (0)) = wE at hbE hsE hcE ⊢
  have n0 : wE.cell? ⟨w.heap.size, 0, none⟩ = some (.slice none 0 0) := hbE.cell 0
  have n1 : wE.cell? ⟨w.heap.size, 1, none⟩ = some (.slice none 0 0) := hbE.cell 1
  have n2 : wE.cell? ⟨w.heap.size, 2, none⟩ = some (.int .i64 (0)) := hbE.cell 2
  refine bodyPost_ret (v := .tuple #[.agg #[.slice none 0 0, .slice none 0 0, .int .i64 (0)], .bool false]) (resRd rfl rfl n0 n1 n2) rfl ?_
  exact Hempty.out _ hcE _
 ·have hf := fun w' => rdL_any l 4 w' (by decide) (by decide) (by omega) (by omega)
  rw [show ((4 : Nat) : Int) = 4 from rfl] at hf
  have Hf := Lib.hid hf
  have hv32 : leV (l.take 4) < 4294967296 := Nat.lt_of_lt_of_le (leV_le (k := 4) (by rw [List.length_take]; omega)) (by decide)
  obtain ⟨z, hz⟩ : ∃ z, z = leV (l.take 4) := ⟨_, rfl⟩
  rw [← hz] at Hf hv32
  have hl4 : (4 : Int) ≤ ((⟨l.toArray⟩ : ByteArray).size : Int) := by rw [siz_list]; omega
  have hcl := crcF_lt (l.drop 4)
  clear hf hz
  go_wp2_with fail
  refine (Hf.out w1).mono ?_
  rintro en w2 ⟨rfl, hc2⟩
  have hb2 := hb1.keep hc2 nbE
  have hc02 := hc1.tr hc2
  clear hc1 hc2 hb1
  go_wp2_with fail
  rw [extL]
  obtain ⟨y, hy⟩ : ∃ y, y = crcF (l.drop 4) := ⟨_, rfl⟩
  have Hsum := Lib.hid (sumL_any (l.drop 4) w2 (by rw [List.length_drop]; omega))
  rw [← hy] at Hsum hcl
  clear hy
  refine Hsum.out.mono ?_
  rintro en w3 ⟨rfl, hc3⟩
  have hb3 := hb2.keep hc3 nbE
  have hc03 := hc02.tr hc3
  by_cases hzy : z = y
  ·subst hzy
   have hld : (l.drop 4).length ≤ l.length := by rw [List.length_drop]; omega
   obtain ⟨f0, hf0⟩ : ∃ f, f = l.drop 4 := ⟨_, rfl⟩
   rw [← hf0] at hld
   have Hf0 := Lib.hid hf0
   clear hf0 hc3 hc02 hb2 Hsum
   go_wp2_with fail
   rw [extL, ← Hf0.out]
   refine (ruL_any f0 w3 (sv (A 0)) ⟨_, _, rfl⟩ (HT.out w3 hc03) (by omega)).mono ?_
   rintro en w4 ⟨rfl, hc4⟩
   have hb4 := hb3.keep hc4 nbE
   have hc04 := hc03.tr hc4
   cases hsv : sev f0 with
   | none =>
    clear hsv
    simp only [sevV, sv]
    have z0 : w4.cell? ⟨w.heap.size, 0, none⟩ = some (.slice none 0 0) := hb4.cell 0
    have z1 : w4.cell? ⟨w.heap.size, 1, none⟩ = some (.slice none 0 0) := hb4.cell 1
    have z2 : w4.cell? ⟨w.heap.size, 2, none⟩ = some (.int .i64 (0)) := hb4.cell 2
    have y0 : w4.frozen? ⟨w.heap.size, 0, none⟩ = false := hb4.free 0
    have y1 : w4.frozen? ⟨w.heap.size, 1, none⟩ = false := hb4.free 1
    have y2 : w4.frozen? ⟨w.heap.size, 2, none⟩ = false := hb4.free 2
    go_wp2_with fail
    rw [HQ.out]
    have hbE := ((hb4.set 0 (.slice none 0 0)).set 1 (.slice none 0 0)).set 2 (.int .i64 (0))
    have hsE : Chg (OneB w.heap.size) w4 (((w4.setCell ⟨w.heap.size, 0, none⟩ (.slice none 0 0)).setCell ⟨w.heap.size, 1, none⟩ (.slice none 0 0)).setCell ⟨w.heap.size, 2, none⟩ (.int .i64 (0))) := (((Chg.refl (OneB w.heap.size) w4).setCell (p := ⟨w.heap.size, 0, none⟩) (.inl rfl) _).setCell (p := ⟨w.heap.size, 1, none⟩) (.inl rfl) _).setCell (p := ⟨w.heap.size, 2, none⟩) (.inl rfl) _
    have hcE := hc04.trans hsE (fun i e => .inr (Nat.le_of_eq (Eq.symm e)))
    generalize World.setCell (World.setCell (World.setCell w4 ⟨w.heap.size, 0, none⟩ (.slice none 0 0)) ⟨w.heap.size, 1, none⟩ (.slice none 0 0)) ⟨w.heap.size, 2, none⟩ (.int .i64 (0)) = wE at hbE hsE hcE ⊢
    have n0 : wE.cell? ⟨w.heap.size, 0, none⟩ = some (.slice none 0 0) := hbE.cell 0
    have n1 : wE.cell? ⟨w.heap.size, 1, none⟩ = some (.slice none 0 0) := hbE.cell 1
    have n2 : wE.cell? ⟨w.heap.size, 2, none⟩ = some (.int .i64 (0)) := hbE.cell 2
    refine bodyPost_ret (v := .tuple #[.agg #[.slice none 0 0, .slice none 0 0, .int .i64 (0)], .bool false]) (resRd rfl rfl n0 n1 n2) rfl ?_
    exact Hempty.out _ hcE _
   | some p =>
    obtain ⟨nx, u⟩ := p
    obtain ⟨b1, b2, b3, b4⟩ := sev_some hsv
    clear hsv
    simp only [sevV]
    have hu0 : (u : Int) ≤ (f0.length : Int) := by omega
    obtain ⟨nz, hnz⟩ : ∃ z, z = IntKind.i64.wrap (nx : Int) := ⟨_, rfl⟩
    have hnz' := hnz.symm
    clear hnz
    have z0 : w4.cell? ⟨w.heap.size, 0, none⟩ = some (.slice none 0 0) := hb4.cell 0
    have z2 : w4.cell? ⟨w.heap.size, 2, none⟩ = some (.int .i64 0) := hb4.cell 2
    have y2 : w4.frozen? ⟨w.heap.size, 2, none⟩ = false := hb4.free 2
    have hu00 : (0 : Int) ≤ (u : Int) := by omega
    have hsz0 : ((⟨f0.toArray⟩ : ByteArray).size : Int) = (f0.length : Int) := by rw [siz_list]
    go_wp2_with fail
    try go_big_unhide
    rw [HQ.out]
    refine wp_region_n (fun w' => w'.cell? ⟨w.heap.size, 0, none⟩ = some (.slice none 0 0)) [7] (by kernel_rfl) ?_ (fun hSh => ?_)
    ·exact z0
    refine n_from 0 ?_
    intro htk
    iterate 6
     refine n_tB (v := ?_) htk rfl (Or.inl ⟨by rfl, ?_⟩) ?_
     rotate_left 1
     ·(intro w' hSw; (try dsimp only at hSw); go_simp; try with_reducible rfl)
     clear htk
     intro htk
     simp only [Nat.reduceAdd] at htk
     simp only [Act.put, qA, qB, qC, qD, qE, qF]
    clear htk
    refine n_step 6 rfl (by kernel_rfl) ?_
    go_wp2_with fail
    have hb5 := (hb4.set 2 (.int .i64 nz)).drew
    have hc5 : Chg (OneB w.heap.size) w4 (w4.setCell ⟨w.heap.size, 2, none⟩ (.int .i64 nz)).drew := ((Chg.refl (OneB w.heap.size) w4).setCell (p := ⟨w.heap.size, 2, none⟩) (.inl rfl) _).drew
    generalize World.drew (World.setCell w4 ⟨w.heap.size, 2, none⟩ (.int .i64 nz)) = w5 at hb5 hc5 ⊢
    replace hb5 : Blk w5 w.heap.size [.slice none 0 0, .slice none 0 0, .int .i64 nz] 51 := hb5
    have hc05 := hc04.trans hc5 (fun i e => .inr (Nat.le_of_eq (Eq.symm e)))
    refine ⟨fun _ => hb5.cell 0, fun hSk => ?_⟩
    replace hSk := hSk (by rfl)
    refine n_step 7 rfl (by kernel_rfl) ?_
    go_wp2_with fail
    refine ⟨fun hx => absurd hx (by decide), fun _ => ?_⟩
    refine n_done (by kernel_rfl) ?_
    try go_big_unhide
    rw [← HQ.out]
    clear hSk hSh z0 z2 y2 hb3 hb4 hc03 hc04 hc5 hnz'
    have hf1l : (f0.drop u).length ≤ l.length := by rw [List.length_drop]; omega
    obtain ⟨f1, hf1⟩ : ∃ f, f = f0.drop u := ⟨_, rfl⟩
    rw [← hf1] at hf1l
    have Hf1 := Lib.hid hf1
    clear hf1
    go_wp2_with fail
    rw [extL, ← Hf1.out]
    refine (ruL_any f1 w5 (sv (A 0)) ⟨_, _, rfl⟩ (HT.out w5 hc05) (by omega)).mono ?_
    rintro en w6 ⟨rfl, hc6⟩
    have hb6 := hb5.keep hc6 nbE
    have hc06 := hc05.tr hc6
    cases hsv : sev f1 with
    | none =>
     clear hsv
     simp only [sevV, sv]
     have z0 : w6.cell? ⟨w.heap.size, 0, none⟩ = some (.slice none 0 0) := hb6.cell 0
     have z1 : w6.cell? ⟨w.heap.size, 1, none⟩ = some (.slice none 0 0) := hb6.cell 1
     have z2 : w6.cell? ⟨w.heap.size, 2, none⟩ = some (.int .i64 (nz)) := hb6.cell 2
     have y0 : w6.frozen? ⟨w.heap.size, 0, none⟩ = false := hb6.free 0
     have y1 : w6.frozen? ⟨w.heap.size, 1, none⟩ = false := hb6.free 1
     have y2 : w6.frozen? ⟨w.heap.size, 2, none⟩ = false := hb6.free 2
     go_wp2_with fail
     rw [HQ.out]
     have hbE := ((hb6.set 0 (.slice none 0 0)).set 1 (.slice none 0 0)).set 2 (.int .i64 (nz))
     have hsE : Chg (OneB w.heap.size) w6 (((w6.setCell ⟨w.heap.size, 0, none⟩ (.slice none 0 0)).setCell ⟨w.heap.size, 1, none⟩ (.slice none 0 0)).setCell ⟨w.heap.size, 2, none⟩ (.int .i64 (nz))) := (((Chg.refl (OneB w.heap.size) w6).setCell (p := ⟨w.heap.size, 0, none⟩) (.inl rfl) _).setCell (p := ⟨w.heap.size, 1, none⟩) (.inl rfl) _).setCell (p := ⟨w.heap.size, 2, none⟩) (.inl rfl) _
     have hcE := hc06.trans hsE (fun i e => .inr (Nat.le_of_eq (Eq.symm e)))
     generalize World.setCell (World.setCell (World.setCell w6 ⟨w.heap.size, 0, none⟩ (.slice none 0 0)) ⟨w.heap.size, 1, none⟩ (.slice none 0 0)) ⟨w.heap.size, 2, none⟩ (.int .i64 (nz)) = wE at hbE hsE hcE ⊢
     have n0 : wE.cell? ⟨w.heap.size, 0, none⟩ = some (.slice none 0 0) := hbE.cell 0
     have n1 : wE.cell? ⟨w.heap.size, 1, none⟩ = some (.slice none 0 0) := hbE.cell 1
     have n2 : wE.cell? ⟨w.heap.size, 2, none⟩ = some (.int .i64 (nz)) := hbE.cell 2
     refine bodyPost_ret (v := .tuple #[.agg #[.slice none 0 0, .slice none 0 0, .int .i64 (nz)], .bool false]) (resRd rfl rfl n0 n1 n2) rfl ?_
     exact Hempty.out _ hcE _
    | some p =>
     obtain ⟨many, u2⟩ := p
     obtain ⟨d1, d2, d3, d4⟩ := sev_some hsv
     clear hsv
     simp only [sevV]
     by_cases h60 : 60 < many
     ·have h60I : (60 : Int) < (many : Int) := by omega
      have z0 : w6.cell? ⟨w.heap.size, 0, none⟩ = some (.slice none 0 0) := hb6.cell 0
      have z1 : w6.cell? ⟨w.heap.size, 1, none⟩ = some (.slice none 0 0) := hb6.cell 1
      have z2 : w6.cell? ⟨w.heap.size, 2, none⟩ = some (.int .i64 (nz)) := hb6.cell 2
      have y0 : w6.frozen? ⟨w.heap.size, 0, none⟩ = false := hb6.free 0
      have y1 : w6.frozen? ⟨w.heap.size, 1, none⟩ = false := hb6.free 1
      have y2 : w6.frozen? ⟨w.heap.size, 2, none⟩ = false := hb6.free 2
      go_wp2_with fail
      rw [HQ.out]
      have hbE := ((hb6.set 0 (.slice none 0 0)).set 1 (.slice none 0 0)).set 2 (.int .i64 (nz))
      have hsE : Chg (OneB w.heap.size) w6 (((w6.setCell ⟨w.heap.size, 0, none⟩ (.slice none 0 0)).setCell ⟨w.heap.size, 1, none⟩ (.slice none 0 0)).setCell ⟨w.heap.size, 2, none⟩ (.int .i64 (nz))) := (((Chg.refl (OneB w.heap.size) w6).setCell (p := ⟨w.heap.size, 0, none⟩) (.inl rfl) _).setCell (p := ⟨w.heap.size, 1, none⟩) (.inl rfl) _).setCell (p := ⟨w.heap.size, 2, none⟩) (.inl rfl) _
      have hcE := hc06.trans hsE (fun i e => .inr (Nat.le_of_eq (Eq.symm e)))
      generalize World.setCell (World.setCell (World.setCell w6 ⟨w.heap.size, 0, none⟩ (.slice none 0 0)) ⟨w.heap.size, 1, none⟩ (.slice none 0 0)) ⟨w.heap.size, 2, none⟩ (.int .i64 (nz)) = wE at hbE hsE hcE ⊢
      have n0 : wE.cell? ⟨w.heap.size, 0, none⟩ = some (.slice none 0 0) := hbE.cell 0
      have n1 : wE.cell? ⟨w.heap.size, 1, none⟩ = some (.slice none 0 0) := hbE.cell 1
      have n2 : wE.cell? ⟨w.heap.size, 2, none⟩ = some (.int .i64 (nz)) := hbE.cell 2
      refine bodyPost_ret (v := .tuple #[.agg #[.slice none 0 0, .slice none 0 0, .int .i64 (nz)], .bool false]) (resRd rfl rfl n0 n1 n2) rfl ?_
      exact Hempty.out _ hcE _
     ·have h60I : ¬ (60 : Int) < (many : Int) := by omega
      have hu20 : (u2 : Int) ≤ (f1.length : Int) := by omega
      have hf2l : (f1.drop u2).length ≤ l.length := by rw [List.length_drop]; omega
      obtain ⟨f2, hf2⟩ : ∃ f, f = f1.drop u2 := ⟨_, rfl⟩
      rw [← hf2] at hf2l
      have Hf2 := Lib.hid hf2
      clear hf2 hb5 hc05 hc6 hf1l
      have hbl := hb6.lt
      go_wp2_with fail
      rw [extL, ← Hf2.out]
      go_loopw [0] (TdRel l.length many w.heap.size w6) (fun vs _ => strL vs)
      case atStart => exact ⟨f2, [], [], w6.heap.size, _, _, nz, rfl, hb6, Own.nil _ _ _ _ _, Own.nil _ _ _ _ _, (fun b e => by cases e), Nat.le_refl _, Nat.le_refl _, (fun _ => ⟨rfl, rfl⟩), by simpa using hf2l, Nat.zero_le _, by simpa using hf2l, (fun r h => by cases h), Chg.refl _ _⟩
      case round =>
       obtain ⟨f, E, S, B2, ve, vs, nx', rfl, hbr, hoe, hos, heB, hB1, hB2, hES, hsum, hEm, hSl, hrow, hcr⟩ := hrel
       obtain ⟨ea, ec, hef⟩ := hoe.form
       obtain ⟨sa, sc, hsf⟩ := hos.form
       have hel : (E.map strDt).length = E.length := List.length_map ..
       have hsl : (S.map rowDt).length = S.length := List.length_map ..
       rw [hel] at hef
       rw [hsl] at hsf
       subst hef hsf
       have Hel := Lib.hid hel
       have Hsl := Lib.hid hsl
       have HES := Lib.hid hES
       have Hrow := Lib.hid hrow
       have Hret := Lib.hid (fun (wE : World) (ok : Bool) (hc : Chg NoB w wE) (hs : Chg (OneB w.heap.size) wr wE) => retRd_of nx' ok hbl hoe hos hB1 hc hs hl (by omega) (by omega) (by omega) hrow)
       have HeB := Lib.hid heB
       clear hel hsl hES hrow heB
       have hc0r := hc06.trans hcr (fun i e => .inr (Nat.le_of_eq (Eq.symm e)))
       by_cases hfe : f = []
       ·subst hfe
        have z0 : wr.cell? ⟨w.heap.size, 0, none⟩ = some ((Value.slice ea E.length ec)) := hbr.cell 0
        have z1 : wr.cell? ⟨w.heap.size, 1, none⟩ = some ((Value.slice sa S.length sc)) := hbr.cell 1
        have z2 : wr.cell? ⟨w.heap.size, 2, none⟩ = some (.int .i64 (nx')) := hbr.cell 2
        have y0 : wr.frozen? ⟨w.heap.size, 0, none⟩ = false := hbr.free 0
        have y1 : wr.frozen? ⟨w.heap.size, 1, none⟩ = false := hbr.free 1
        have y2 : wr.frozen? ⟨w.heap.size, 2, none⟩ = false := hbr.free 2
        go_wp2_with fail
        rw [HQ.out]
        have hbE := ((hbr.set 0 ((Value.slice ea E.length ec))).set 1 ((Value.slice sa S.length sc))).set 2 (.int .i64 (nx'))
        have hsE : Chg (OneB w.heap.size) wr (((wr.setCell ⟨w.heap.size, 0, none⟩ ((Value.slice ea E.length ec))).setCell ⟨w.heap.size, 1, none⟩ ((Value.slice sa S.length sc))).setCell ⟨w.heap.size, 2, none⟩ (.int .i64 (nx'))) := (((Chg.refl (OneB w.heap.size) wr).setCell (p := ⟨w.heap.size, 0, none⟩) (.inl rfl) _).setCell (p := ⟨w.heap.size, 1, none⟩) (.inl rfl) _).setCell (p := ⟨w.heap.size, 2, none⟩) (.inl rfl) _
        have hcE := hc0r.trans hsE (fun i e => .inr (Nat.le_of_eq (Eq.symm e)))
        generalize World.setCell (World.setCell (World.setCell wr ⟨w.heap.size, 0, none⟩ ((Value.slice ea E.length ec))) ⟨w.heap.size, 1, none⟩ ((Value.slice sa S.length sc))) ⟨w.heap.size, 2, none⟩ (.int .i64 (nx')) = wE at hbE hsE hcE ⊢
        have n0 : wE.cell? ⟨w.heap.size, 0, none⟩ = some ((Value.slice ea E.length ec)) := hbE.cell 0
        have n1 : wE.cell? ⟨w.heap.size, 1, none⟩ = some ((Value.slice sa S.length sc)) := hbE.cell 1
        have n2 : wE.cell? ⟨w.heap.size, 2, none⟩ = some (.int .i64 (nx')) := hbE.cell 2
        refine bodyPost_ret (v := .tuple #[.agg #[.slice ea E.length ec, .slice sa S.length sc, .int .i64 nx'], .bool _]) (resRd rfl rfl n0 n1 n2) rfl ?_
        exact Hret.out _ _ hcE hsE
       ·have hne : f.isEmpty = false := by simpa using hfe
        have Hfe := Lib.hid hfe
        clear hfe
        go_wp2_with fail
        refine (rtL_any f wr (sv (A 0)) ⟨_, _, rfl⟩ (HT.out wr hc0r) (by omega)).mono ?_
        rintro en w7 ⟨rfl, hc7⟩
        have hb7 := hbr.keep hc7 nbE
        have hc07 := hc0r.tr hc7
        cases hlr : longR f with
        | none =>
         clear hlr
         simp only [longV, sv]
         have z0 : w7.cell? ⟨w.heap.size, 0, none⟩ = some ((Value.slice ea E.length ec)) := hb7.cell 0
         have z1 : w7.cell? ⟨w.heap.size, 1, none⟩ = some ((Value.slice sa S.length sc)) := hb7.cell 1
         have z2 : w7.cell? ⟨w.heap.size, 2, none⟩ = some (.int .i64 (nx')) := hb7.cell 2
         have y0 : w7.frozen? ⟨w.heap.size, 0, none⟩ = false := hb7.free 0
         have y1 : w7.frozen? ⟨w.heap.size, 1, none⟩ = false := hb7.free 1
         have y2 : w7.frozen? ⟨w.heap.size, 2, none⟩ = false := hb7.free 2
         go_wp2_with fail
         rw [HQ.out]
         have hbE := ((hb7.set 0 ((Value.slice ea E.length ec))).set 1 ((Value.slice sa S.length sc))).set 2 (.int .i64 (nx'))
         have hsE : Chg (OneB w.heap.size) w7 (((w7.setCell ⟨w.heap.size, 0, none⟩ ((Value.slice ea E.length ec))).setCell ⟨w.heap.size, 1, none⟩ ((Value.slice sa S.length sc))).setCell ⟨w.heap.size, 2, none⟩ (.int .i64 (nx'))) := (((Chg.refl (OneB w.heap.size) w7).setCell (p := ⟨w.heap.size, 0, none⟩) (.inl rfl) _).setCell (p := ⟨w.heap.size, 1, none⟩) (.inl rfl) _).setCell (p := ⟨w.heap.size, 2, none⟩) (.inl rfl) _
         have hcE := hc07.trans hsE (fun i e => .inr (Nat.le_of_eq (Eq.symm e)))
         generalize World.setCell (World.setCell (World.setCell w7 ⟨w.heap.size, 0, none⟩ ((Value.slice ea E.length ec))) ⟨w.heap.size, 1, none⟩ ((Value.slice sa S.length sc))) ⟨w.heap.size, 2, none⟩ (.int .i64 (nx')) = wE at hbE hsE hcE ⊢
         have n0 : wE.cell? ⟨w.heap.size, 0, none⟩ = some ((Value.slice ea E.length ec)) := hbE.cell 0
         have n1 : wE.cell? ⟨w.heap.size, 1, none⟩ = some ((Value.slice sa S.length sc)) := hbE.cell 1
         have n2 : wE.cell? ⟨w.heap.size, 2, none⟩ = some (.int .i64 (nx')) := hbE.cell 2
         refine bodyPost_ret (v := .tuple #[.agg #[(Value.slice ea E.length ec), (Value.slice sa S.length sc), .int .i64 (nx')], .bool false]) (resRd rfl rfl n0 n1 n2) rfl ?_
         exact Hret.out _ _ hcE ((hc7.mono (fun _ _ e => e.elim)).trans hsE (fun i e => .inl e))
        | some p =>
         obtain ⟨x, u⟩ := p
         obtain ⟨g1, g2, g3, g4⟩ := longR_some hlr
         clear hlr
         simp only [longV]
         have hu0 : (u : Int) ≤ (f.length : Int) := by omega
         have hm60 : (many : Int) ≤ 60 := by omega
         have hoe7 := hoe.keep hc7 (fun _ h => h.elim) (fun _ _ => nbE)
         have hos7 := hos.inHeap.keep hc7 (fun _ _ => nbE) (fun _ _ => nbE)
         have hcr7 := hcr.tr hc7
         have hz7 := hc7.size
         have hzr := hcr.size
         by_cases hEn : E.length < many
         ·have hEnI : (E.length : Int) < (many : Int) := by omega
          obtain ⟨rfl, hvs⟩ := HES.out hEn
          obtain ⟨rfl, -, rfl⟩ := Value.slice.inj hvs
          clear hvs
          have z0 : w7.cell? ⟨w.heap.size, 0, none⟩ = some (.slice ea E.length ec) := hb7.cell 0
          go_wp2_with (at_builtin; refine stop_here ?_)
          refine Stop.go ?_
          generalize hw8 : World.alloc _ _ = w8
          have hc8 : Chg NoB w7 w8 := by
           rw [← hw8]
           repeat (first | exact Chg.refl _ _ | apply Chg.alloc | apply Chg.drew)
          have hx8 : Blk w8 (w7.heap.size) ([.string ⟨x.toArray⟩]) 9 := by
           rw [← hw8]
           repeat (first | exact Blk.newAt (by first | rfl | (simp; done) | (simp; omega)) | apply Blk.alloc | apply Blk.drew)
          clear hw8
          have hoe8 := hoe7.keep hc8 (fun _ h => h.elim) (fun _ _ => nbE)
          have HoB := Lib.hid hoe.block
          have hz8 := hc8.size
          clear z0 hos hos7 HES hoe hoe7
          refine wpList_own rfl (.tmp 82) (.tmp 84) 37 rfl w6.heap.size 9 Tryz.underlying37 infoStr rfl (by decide) rfl hoe8 rfl [strDt ⟨x.toArray⟩] [.string ⟨x.toArray⟩] rfl (ReadsC.single rfl (reads_str _ _ _)) hx8.news (fun e => by cases e) ?_ ?_ (by omega) ?_
          ·rw [Hel.out]; simp [maxLen]; omega
          ·rw [Hel.out]; omega
          intro ao9 cap9 w9 ho9 hc9 _
          rw [Hel.out] at ho9 ⊢
          have hb9 := (hb7.keep hc8 nbE).keep hc9 (fun e => by have := (HoB.out _ e).1; omega)
          have z0 : w9.cell? ⟨w.heap.size, 0, none⟩ = some (.slice ea E.length ec) := hb9.cell 0
          have y0 : w9.frozen? ⟨w.heap.size, 0, none⟩ = false := hb9.free 0
          clear hoe8 hx8
          go_wp2_with fail
          go_roundw
          case rel =>
           have hbA := hb9.set 0 (.slice ao9 (E.length + 1) cap9)
           have hcA : Chg (OneB w.heap.size) w9 (w9.setCell ⟨w.heap.size, 0, none⟩ (.slice ao9 (E.length + 1) cap9)) := (Chg.refl (OneB w.heap.size) w9).setCell (p := ⟨w.heap.size, 0, none⟩) (.inl rfl) _
           have hxs : (⟨x.toArray⟩ : ByteArray).size = x.length := siz_list x
           have hz9 := hc9.size
           have hzA := hcA.size
           refine ⟨f.drop u, E ++ [⟨x.toArray⟩], [], (w9.setCell ⟨w.heap.size, 0, none⟩ (.slice ao9 (E.length + 1) cap9)).heap.size, _, _, nx', by rw [extL], hbA, ?_, Own.nil _ _ _ _ _, ?_, by omega, Nat.le_refl _, (fun _ => ⟨rfl, rfl⟩), ?_, ?_, ?_, (fun r h => by cases h), ?_⟩
           ·rw [List.map_append]
            exact ho9.keep hcA (fun _ h => h.elim) (fun b hb e => by have := (ho9.block b hb).1; have e : b = w.heap.size := e; omega)
           ·intro b hb
            have h1 := (ho9.block b hb).2
            omega
           ·rw [List.map_append, List.sum_append, List.length_drop]
            simp only [List.map_cons, List.map_nil, List.sum_cons, List.sum_nil]
            omega
           ·rw [List.length_append, List.length_singleton]; omega
           ·rw [List.length_drop]; simp only [List.length_nil]; omega
           ·exact ((hcr7.tr hc8).trans hc9 (fun b e => .inr (HoB.out b e).1)).trans hcA (fun b e => .inl e)
          case measure =>
           simp only [strL]
           rw [extL, siz_list, siz_list, List.length_drop]
           omega
         ·have hEnI : ¬ (E.length : Int) < (many : Int) := by omega
          have z1 : w7.cell? ⟨w.heap.size, 1, none⟩ = some (.slice sa S.length sc) := hb7.cell 1
          have z0 : w7.cell? ⟨w.heap.size, 0, none⟩ = some (.slice ea E.length ec) := hb7.cell 0
          have HF := Lib.hid (fun (w' : World) (hc : Chg NoB w w') => fields_any x w' (by omega) (tab_ascii Ha.out hc) (white_keep HW.out hc))
          go_wp2_with fail
          try go_big_unhide
          rw [HQ.out]
          refine wp_region_n (fun w' => w'.cell? ⟨w.heap.size, 1, none⟩ = some (.slice sa S.length sc)) [7] (by kernel_rfl) ?_ (fun hSh => ?_)
          ·exact z1
          refine n_from 0 ?_
          intro htk
          iterate 3
           refine n_tB (v := ?_) htk rfl (Or.inl ⟨by rfl, ?_⟩) ?_
           rotate_left 1
           ·(intro w' hSw; (try dsimp only at hSw); go_simp; try with_reducible rfl)
           clear htk
           intro htk
           simp only [Nat.reduceAdd] at htk
           simp only [Act.put, qA, qB, qC, qD, qE, qF]
          clear htk
          refine n_step 3 rfl (by kernel_rfl) ?_
          go_wp2_with fail
          refine (HF.out w7.drew hc07.drew).mono ?_
          rintro en w8 ⟨vf, rfl, hof, hc8⟩
          replace hc8 : Chg NoB w7 w8 := hc8.ofDrew
          obtain ⟨fa, fc, hff⟩ := hof.form
          have hkb := fieldsB_le x
          obtain ⟨ks, hks⟩ : ∃ z, z = fieldsB x := ⟨_, rfl⟩
          rw [← hks] at hkb hof hff
          clear hks
          have hkl : (ks.map strDt).length = ks.length := List.length_map ..
          rw [hkl] at hff
          subst hff
          have hfr := hof.reads (S' := fun b => w7.heap.size ≤ b) (fun _ h => h.elim) (fun b h _ => h) (by rw [hkl]; unfold maxLen; omega)
          have hb8 := hb7.keep hc8 nbE
          have hos8 := hos7.keep hc8 (fun _ _ => nbE) (fun _ _ => nbE)
          have hoe8 := hoe7.keep hc8 (fun _ h => h.elim) (fun _ _ => nbE)
          have HsB := Lib.hid hos.block
          have HoB := Lib.hid hoe.block
          have Hkb := Lib.hid hkb
          clear hkl hof hos7 hoe7 z0 z1 hSh hb7 hos hoe hkb
          go_wp2_with fail
          refine ⟨fun _ => hb8.cell 1, fun hSk => ?_⟩
          replace hSk := hSk (by rfl)
          refine n_step 4 rfl (by kernel_rfl) ?_
          go_wp2_with fail
          generalize hw9 : World.alloc _ _ = w9
          have hc9 : Chg NoB w8 w9 := by
           rw [← hw9]
           repeat (first | exact Chg.refl _ _ | apply Chg.alloc | apply Chg.drew)
          have hx9 : Blk w9 (w8.heap.size) ([.slice fa ks.length fc]) 37 := by
           rw [← hw9]
           repeat (first | exact Blk.newAt (by first | rfl | (simp; done) | (simp; omega)) | apply Blk.alloc | apply Blk.drew)
          clear hw9
          have hb9 := hb8.keep hc9 nbE
          have hos9 := (hos8.keep hc9 (fun _ _ => nbE) (fun _ _ => nbE)).mono (Nat.le_refl _) (S' := fun b => B2 ≤ b) (fun b h => h.1)
          have hoe9 := hoe8.keep hc9 (fun _ h => h.elim) (fun _ _ => nbE)
          have hz8 := hc8.size
          have hz9 := hc9.size
          refine ⟨fun _ => hb9.cell 1, fun hSk => ?_⟩
          replace hSk := hSk (by rfl)
          refine n_step 5 rfl (by kernel_rfl) ?_
          refine wpList_own rfl (.tmp 88) (.tmp 91) 49 rfl B2 37 Tryz.underlying49 infoStrs1 rfl (by decide) rfl hos9 rfl [rowDt ks] [.slice fa ks.length fc] rfl (ReadsC.single rfl ((hfr.chg0 hc9).mono (fun b h => ⟨by omega, fun e => by have := (HsB.out b e).2; omega⟩))) hx9.news (fun e => by cases e) ?_ ?_ (by omega) ?_
          ·rw [Hsl.out]; simp [maxLen]; omega
          ·rw [Hsl.out]; omega
          intro ao10 cap10 w10 ho10 hc10 _
          rw [Hsl.out] at ho10 ⊢
          have hb10 := hb9.keep hc10 (fun e => by have := (HsB.out _ e).1; omega)
          have hoe10 := hoe9.keep hc10 (fun _ h => h.elim) (fun b hb e => by have h1 := HeB.out b hb; have h2 := (HsB.out _ e).1; omega)
          have z1 : w10.cell? ⟨w.heap.size, 1, none⟩ = some (.slice sa S.length sc) := hb10.cell 1
          have y1 : w10.frozen? ⟨w.heap.size, 1, none⟩ = false := hb10.free 1
          clear hos8 hoe8 hos9 hoe9 hx9 hfr hb8 hb9 hSk
          go_wp2_with fail
          refine ⟨fun _ => hb10.cell 1, fun hSk => ?_⟩
          replace hSk := hSk (by rfl)
          refine n_step 6 rfl (by kernel_rfl) ?_
          go_wp2_with fail
          refine ⟨fun _ => hb10.cell 1, fun _ => ?_⟩
          refine n_step 7 rfl (by kernel_rfl) ?_
          go_wp2_with fail
          refine ⟨fun hx => absurd hx (by decide), fun _ => ?_⟩
          refine n_done (by kernel_rfl) ?_
          try go_big_unhide
          rw [← HQ.out]
          go_wp2_with fail
          go_roundw
          case rel =>
           have hbA := hb10.set 1 (.slice ao10 (S.length + 1) cap10)
           have hcA : Chg (OneB w.heap.size) w10 (w10.setCell ⟨w.heap.size, 1, none⟩ (.slice ao10 (S.length + 1) cap10)) := (Chg.refl (OneB w.heap.size) w10).setCell (p := ⟨w.heap.size, 1, none⟩) (.inl rfl) _
           have hz10 := hc10.size
           have hzA := hcA.size
           refine ⟨f.drop u, E, S ++ [ks], B2, _, _, nx', by rw [extL], hbA, ?_, ?_, HeB.out, hB1, by omega, (fun h => by omega), ?_, hEm, ?_, ?_, ?_⟩
           ·exact hoe10.keep hcA (fun _ h => h.elim) (fun b hb e => by have := (HoB.out b hb).1; have e : b = w.heap.size := e; omega)
           ·rw [List.map_append]
            exact ho10.keep hcA (fun b h e => by have e : b = w.heap.size := e; omega) (fun b hb e => by have := (ho10.block b hb).1; have e : b = w.heap.size := e; omega)
           ·rw [List.length_drop]; omega
           ·rw [List.length_drop, List.length_append, List.length_singleton]; omega
           ·intro r hr
            rcases List.mem_append.1 hr with hr | hr
            ·exact Hrow.out r hr
            ·obtain rfl := List.mem_singleton.1 hr
             exact ⟨by have := Hkb.out.1; omega, fun y hy => by have := Hkb.out.2 y hy; omega⟩
           ·exact (((hcr7.tr hc8).tr hc9).trans hc10 (fun b e => .inr (by have := (HsB.out b e).1; omega))).trans hcA (fun b e => .inl e)
          case measure =>
           simp only [strL]
           rw [extL, siz_list, siz_list, List.length_drop]
           omega
  ·have hzy' : ((z : Int) != (y : Int)) = true := by simp; omega
   clear hzy
   have z0 : w3.cell? ⟨w.heap.size, 0, none⟩ = some (.slice none 0 0) := hb3.cell 0
   have z1 : w3.cell? ⟨w.heap.size, 1, none⟩ = some (.slice none 0 0) := hb3.cell 1
   have z2 : w3.cell? ⟨w.heap.size, 2, none⟩ = some (.int .i64 (0)) := hb3.cell 2
   have y0 : w3.frozen? ⟨w.heap.size, 0, none⟩ = false := hb3.free 0
   have y1 : w3.frozen? ⟨w.heap.size, 1, none⟩ = false := hb3.free 1
   have y2 : w3.frozen? ⟨w.heap.size, 2, none⟩ = false := hb3.free 2
   go_wp2_with fail
   rw [HQ.out]
   have hbE := ((hb3.set 0 (.slice none 0 0)).set 1 (.slice none 0 0)).set 2 (.int .i64 (0))
   have hsE : Chg (OneB w.heap.size) w3 (((w3.setCell ⟨w.heap.size, 0, none⟩ (.slice none 0 0)).setCell ⟨w.heap.size, 1, none⟩ (.slice none 0 0)).setCell ⟨w.heap.size, 2, none⟩ (.int .i64 (0))) := (((Chg.refl (OneB w.heap.size) w3).setCell (p := ⟨w.heap.size, 0, none⟩) (.inl rfl) _).setCell (p := ⟨w.heap.size, 1, none⟩) (.inl rfl) _).setCell (p := ⟨w.heap.size, 2, none⟩) (.inl rfl) _
   have hcE := hc03.trans hsE (fun i e => .inr (Nat.le_of_eq (Eq.symm e)))
   generalize World.setCell (World.setCell (World.setCell w3 ⟨w.heap.size, 0, none⟩ (.slice none 0 0)) ⟨w.heap.size, 1, none⟩ (.slice none 0 0)) ⟨w.heap.size, 2, none⟩ (.int .i64 (0)) = wE at hbE hsE hcE ⊢
   have n0 : wE.cell? ⟨w.heap.size, 0, none⟩ = some (.slice none 0 0) := hbE.cell 0
   have n1 : wE.cell? ⟨w.heap.size, 1, none⟩ = some (.slice none 0 0) := hbE.cell 1
   have n2 : wE.cell? ⟨w.heap.size, 2, none⟩ = some (.int .i64 (0)) := hbE.cell 2
   refine bodyPost_ret (v := .tuple #[.agg #[.slice none 0 0, .slice none 0 0, .int .i64 (0)], .bool false]) (resRd rfl rfl n0 n1 n2) rfl ?_
   exact Hempty.out _ hcE _
open Go.RowKit Go.Sort
theorem rowsE_at {w : World} {R : Nat → Prop} {b : Nat} : ∀ (S : List (List ByteArray)) (off i : Nat) (r : List ByteArray), S[i]? = some r → ReadsE w R 1 b off (S.map rowDt) → ∃ a c, w.cell? ⟨b, off + i, none⟩ = some (.slice a r.length c) ∧ Reads w R (rowDt r) [.slice a r.length c]
 | [], off, i, r, h, _ => by cases i <;> cases h
 | s :: S, off, 0, r, h, hE => by
  obtain rfl := Option.some.inj h
  obtain ⟨⟨cs, _, hc, hr⟩, _⟩ := hE
  have hr' := hr
  obtain ⟨a, c, rfl, _⟩ := hr
  rw [List.length_map] at hc hr'
  exact ⟨a, c, hc 0 _ rfl, hr'⟩
 | s :: S, off, i + 1, r, h, hE => by
  obtain ⟨a, c, h1, h2⟩ := rowsE_at S (off + 1) i r h hE.2
  exact ⟨a, c, by rw [show off + (i + 1) = off + 1 + i from by omega]; exact h1, h2⟩
theorem row_src {w : World} {R : Nat → Prop} {r : List ByteArray} {a : Option Addr} {c : Nat} (h : Reads w R (rowDt r) [.slice a r.length c]) :
  (a = none → r.length = 0 ∧ c = 0) ∧ ∀ ad, a = some ad → ∀ j u, (r.map Value.string)[j]? = some u → w.cell? (ad.add j) = some u := by
 obtain ⟨a', c', h1, h2, h3, h4⟩ := list_cells (l := r) (f := Value.string) h
 obtain ⟨rfl, -, rfl⟩ := Value.slice.inj h1
 constructor
 ·rintro rfl
  obtain ⟨a'', c'', g1, _, _, g4⟩ := h
  rcases g4 with ⟨g5, g6⟩ | ⟨b, off, g5, _⟩
  ·have g1' := Value.slice.inj (List.cons.inj g1).1
   have hl : r.length = 0 := by
    have := congrArg List.length g5
    simpa using this
   exact ⟨hl, by rw [g1'.2.2]; exact g6 g1'.1.symm⟩
  ·have g1' := Value.slice.inj (List.cons.inj g1).1
   rw [g5] at g1'
   cases g1'.1
 ·rintro ad rfl j u hj
  have hne : r.length ≠ 0 := fun e => by
   have : r = [] := List.eq_nil_of_length_eq_zero e
   subst this
   cases hj
  obtain ⟨b, off, g1, _, _, g4⟩ := h4 hne
  obtain rfl := Option.some.inj g1
  rw [List.getElem?_map] at hj
  cases hx : r[j]? with
  | none => rw [hx] at hj; cases hj
  | some x =>
   rw [hx] at hj
   obtain rfl := Option.some.inj hj
   rw [show (⟨b, off, none⟩ : Addr).add j = ⟨b, off + j, none⟩ from by unfold Addr.add; split <;> simp_all]
   exact g4 j x hx
theorem flat_le {n : Nat} : ∀ (S : List (List ByteArray)), (∀ r ∈ S, r.length ≤ n) → S.flatten.length ≤ S.length * n
 | [], _ => by simp
 | r :: S, h => by
  have h1 := flat_le S (fun x hx => h x (List.mem_cons_of_mem _ hx))
  have h2 := h r (List.mem_cons_self ..)
  rw [List.flatten_cons, List.length_append, List.length_cons, Nat.succ_mul]
  omega
theorem flat_take {S : List (List ByteArray)} {i : Nat} {r : List ByteArray} (h : S[i]? = some r) : (S.take (i + 1)).flatten = (S.take i).flatten ++ r := by
 rw [List.take_add_one, h, List.flatten_append]
 simp
theorem mem_compactL {x : List UInt8} {zs : List (List UInt8)} (h : x ∈ Lib.compact zs) : x ∈ zs := by
 unfold Lib.compact Lib.compactUpTo at h
 obtain ⟨j, hj, rfl⟩ := List.mem_map.1 h
 have hj' := List.mem_range.1 (List.mem_filter.1 hj).1
 rw [getElem!_pos zs.toArray j (by simpa using hj')]
 simp
theorem left_ofN {w w1 : World} {g cap n nn q : Nat} {os : Array Obj} {ss : List (List UInt8)} (hown : w1.ownsRow w.heap.size 9 1 (.slice (some ⟨g, 0, none⟩) n cap) n (ss.map encStr)) (hbel : Below w.heap.size w w1) (hbg : w.heap.size ≤ g) (hlen : ss.length = n) :
  (putRow encStr (Sort.ahead (grow (putRow encStr (Sort.ahead w1 nn) g 0 (ss.mergeSort fun x y => decide (x ≤ y)).toArray) os) q) g 0 (Lib.compact (ss.mergeSort fun x y => decide (x ≤ y)) ++ List.replicate (n - (Lib.compact (ss.mergeSort fun x y => decide (x ≤ y))).length) []).toArray).ownsRow w.heap.size 9 1
    (.slice (some ⟨g, 0, none⟩) (Lib.compact (ss.mergeSort fun x y => decide (x ≤ y))).length cap) (Lib.compact (ss.mergeSort fun x y => decide (x ≤ y))).length ((Lib.compact (ss.mergeSort fun x y => decide (x ≤ y))).map encStr) ∧
   Below w.heap.size w (putRow encStr (Sort.ahead (grow (putRow encStr (Sort.ahead w1 nn) g 0 (ss.mergeSort fun x y => decide (x ≤ y)).toArray) os) q) g 0 (Lib.compact (ss.mergeSort fun x y => decide (x ≤ y)) ++ List.replicate (n - (Lib.compact (ss.mergeSort fun x y => decide (x ≤ y))).length) []).toArray) := by
 have hl2 : (ss.mergeSort fun x y => decide (x ≤ y)).length = ss.length := List.length_mergeSort ss
 have hle := Lib.compact_length_le (ss.mergeSort fun x y => decide (x ≤ y))
 subst hlen
 rcases hown.2 with ⟨h0, _⟩ | ⟨g', cap', cur, hv, hbase, hb, h1, h2, h3, h4⟩
 ·cases h0
 cases hv
 have hs := ownsRow_sorted (n := nn) (os := os) (ts := ss.mergeSort fun x y => decide (x ≤ y)) hl2 hbase hb h1 h2 h3
 have hc := Lib.ownsRow_putRow (q := q) (k := (Lib.compact (ss.mergeSort fun x y => decide (x ≤ y))).length) (ys := Lib.compact (ss.mergeSort fun x y => decide (x ≤ y)) ++ List.replicate (ss.length - (Lib.compact (ss.mergeSort fun x y => decide (x ≤ y))).length) []) hs (by simp; omega) (by omega)
 rw [List.take_left] at hc
 exact ⟨hc, Lib.below_putRow (hbel.grown (grownBy_sorted _) hbel.size (fun j hj => by cases hj; exact hbase)) hbg⟩
def NdRel (S : List (List ByteArray)) (w1 : World) (vl vi : Value) (wr : World) : Prop :=
 ∃ i : Nat, i ≤ S.length ∧ vi = .int .i64 (i : Nat) ∧ Own wr w1.heap.size 9 1 (fun _ => False) vl (((S.take i).flatten).map strDt) ∧ Chg NoB w1 wr
def RetNd (n : Nat) (w : World) (en : Ending) (w' : World) : Prop :=
 Chg NoB w w' ∧ ∃ (ks : List ByteArray) (v : Value), en = .returned v ∧ Reads w' (fun b => w.heap.size ≤ b) (.list 1 (ks.map strDt)) [v] ∧ ks.length ≤ 1000000 ∧ ∀ x ∈ ks, x.size ≤ n
open Go.RowKit Go.Sort
theorem neededA_any (S : List (List ByteArray)) (ea : Option Addr) (en ec : Nat) (vs : Value) (nx : Int) (R : Nat → Prop) (w : World) (hr : Reads w R (.list 1 (S.map rowDt)) [vs]) (hS : S.length ≤ 1000) (hrow : ∀ r ∈ S, r.length ≤ 1000 ∧ ∀ x ∈ r, x.size ≤ 1000) :
  Calls Tryz.prog 17 #[.agg #[.slice ea en ec, vs, .int .i64 nx]] w (RetNd 1000 w) := by
 obtain ⟨sa, sc, hf, -, -, hE⟩ := reads_list hr
 rw [List.length_map] at hf hE
 subst hf
 have hfl : ∀ i, ((S.take i).flatten).length ≤ 1000000 := fun i => by
  have h1 := flat_le (n := 1000) (S.take i) (fun r h => (hrow r (List.mem_of_mem_take h)).1)
  have h2 : (S.take i).length ≤ 1000 := by rw [List.length_take]; omega
  omega
 have Hfl := Lib.hid hfl
 have HE := Lib.hid hE
 have Hrow := Lib.hid hrow
 clear hfl hE hrow hr
 go_enter Tryz.func17, Tryz.ntmps17
 go_upto_region 1 with fail
 generalize hw1 : World.alloc _ _ = w1
 have hc1 : Chg NoB w w1 := by
  rw [← hw1]
  repeat (first | exact Chg.refl _ _ | apply Chg.alloc | apply Chg.drew)
 have hb1 : Blk w1 (w.heap.size) ([.slice ea en ec, .slice sa S.length sc, .int .i64 nx]) 51 := by
  rw [← hw1]
  repeat (first | exact Blk.newAt (by first | rfl | (simp; done) | (simp; omega)) | apply Blk.alloc | apply Blk.drew)
 clear hw1
 have c1 : w1.cell? ⟨w.heap.size, 1, none⟩ = some (.slice sa S.length sc) := hb1.cell 1
 have hz1 := hc1.size
 go_wp2_with fail
 go_loopw [3, 9] (NdRel S w1) (fun _ vi _ => S.length - (intOf vi).toNat)
 case atStart => exact ⟨0, Nat.zero_le _, rfl, Own.nil _ _ _ _ _, Chg.refl _ _⟩
 case round =>
  obtain ⟨i, hi, rfl, hown, hc⟩ := hrel
  obtain ⟨la, lc, hlf⟩ := hown.form
  have hll : (((S.take i).flatten).map strDt).length = ((S.take i).flatten).length := List.length_map ..
  rw [hll] at hlf
  subst hlf
  have Hll := Lib.hid hll
  have hc0 := hc1.tr hc
  have hzr := hc.size
  clear hll
  by_cases hlt : i < S.length
  ·have hltI : (i : Int) < (S.length : Int) := by omega
   obtain ⟨b, off, rfl, -, hb, hrE⟩ := HE.out (by omega)
   obtain ⟨r, hri⟩ : ∃ r, S[i]? = some r := ⟨_, List.getElem?_eq_getElem hlt⟩
   obtain ⟨a, c, hcell, hrd⟩ := rowsE_at S off i r hri hrE
   have hcr : wr.cell? ⟨b, off + i, none⟩ = some (.slice a r.length c) := (hc0.cell (p := ⟨b, off + i, none⟩) hb nbE).trans hcell
   obtain ⟨hs1, hs2⟩ := row_src (hrd.chg0 hc0)
   have Hs1 := Lib.hid hs1
   have Hs2 := Lib.hid hs2
   have Hri := Lib.hid hri
   have hL1 := Hfl.out i
   have hL2 := Hfl.out (i + 1)
   rw [flat_take hri, List.length_append] at hL2
   have hm : (r.map strDt).length = r.length := List.length_map ..
   have Hm := Lib.hid hm
   obtain ⟨L, hL⟩ : ∃ L, L = (S.take i).flatten := ⟨_, rfl⟩
   rw [← hL] at hown Hll hL1 hL2 ⊢
   have HL := Lib.hid hL
   have HoB := Lib.hid hown.block
   clear hs1 hs2 hri hcell hrd hrE hm hL c1 hb1
   go_wp2_with (at_builtin; refine stop_here ?_)
   refine Stop.go ?_
   refine wpList_own rfl (.tmp 13) (.tmp 14) 37 rfl w1.heap.size 9 Tryz.underlying37 infoStr rfl (by decide) rfl hown rfl (r.map strDt) (r.map Value.string) Hm.out (strs_chunksT _ _ _) Hs2.out Hs1.out ?_ ?_ (by omega) ?_
   ·rw [Hll.out]; simp [maxLen]; omega
   ·rw [Hll.out]; omega
   intro ao9 cap9 w9 ho9 hc9 _
   rw [Hll.out] at ho9 ⊢
   clear hcr hown
   go_wp2_with fail
   go_roundw
   case rel =>
    refine ⟨i + 1, by omega, by go_num, ?_, hc.trans hc9 (fun b e => .inr (HoB.out b e).1)⟩
    rw [flat_take Hri.out, ← HL.out, List.map_append]
    exact ho9
   case measure => simp [intOf]; omega
  ·have hltI : ¬ (i : Int) < (S.length : Int) := by omega
   obtain rfl : i = S.length := by omega
   have hL1 := Hfl.out S.length
   obtain ⟨L, hL⟩ : ∃ L, L = (S.take S.length).flatten := ⟨_, rfl⟩
   rw [← hL] at hown Hll hL1 ⊢
   have hmem : ∀ x ∈ L, x.size ≤ 1000 := fun x hx => by
    rw [hL, List.take_length] at hx
    obtain ⟨r, hr, hx⟩ := List.mem_flatten.1 hx
    exact (Hrow.out r hr).2 x hx
   have Hmem := Lib.hid hmem
   clear hL hmem HE Hrow Hfl c1 hb1
   obtain ⟨xs, how, hxs⟩ := hown
   obtain rfl := strs_newsT hxs
   rw [Hll.out] at how
   clear hxs
   by_cases h0 : L.length = 0
   ·have hL0 := List.eq_nil_of_length_eq_zero h0
    subst hL0
    have e0 : ([] : List ByteArray).length = 0 := rfl
    rw [e0]
    go_wp2_with fail
    refine (Tryz.slices_Sort_string_none la lc wr).mono ?_
    rintro en1 w2 ⟨rfl, rfl⟩
    go_wp2_with fail
    refine (Tryz.slices_Compact_string_empty la lc w2).mono ?_
    rintro en1 w3 ⟨rfl, rfl⟩
    go_wp2_with fail
    go_ret
    refine ⟨hc0, [], _, rfl, ?_, by decide, fun x h => by cases h⟩
    exact (Own.reads (S := fun _ => False) (v := .slice la 0 lc) (ds := ([] : List ByteArray).map strDt) ⟨_, how, rfl⟩ (S' := fun b => w1.heap.size ≤ b) (fun _ h => h.elim) (fun b h _ => h) (by decide)).mono (fun b h => by omega)
   ·rw [← Lib.map_encStr L] at how
    obtain ⟨ss, hss⟩ : ∃ z, z = L.map (·.data.toList) := ⟨_, rfl⟩
    rw [← hss] at how
    obtain ⟨g, cap, hform, hbg, hgl, hncap, hcm, hlen, hH⟩ := Lib.holds_of_ownsRow how (fun e => by have := (Value.slice.inj e).2.1; omega)
    obtain ⟨rfl, _, rfl⟩ := Value.slice.inj hform
    have hsort := Tryz.slices_Sort_string g 0 lc ss wr hH hgl (by omega)
    rw [hlen] at hsort
    obtain ⟨ts, hts⟩ : ∃ z, z = ss.mergeSort (fun x y => decide (x ≤ y)) := ⟨_, rfl⟩
    rw [← hts] at hsort
    have htl : ts.length = L.length := by rw [hts, List.length_mergeSort]; exact hlen
    have Hsort := Lib.hid hsort
    have How := Lib.hid how
    have Hss := Lib.hid hss
    have Hts := Lib.hid hts
    have Hlen := Lib.hid hlen
    have Htl := Lib.hid htl
    clear hform hH hsort how hss hts hlen htl
    go_wp2_with fail
    refine Hsort.out.mono ?_
    rintro en1 w2 ⟨rfl, nn, os, hw2⟩
    have hH2 : Go.Sort.Holds encStr w2 g 0 ts.toArray := by
     rw [hw2]
     exact holds_grow encStr _ os g 0 _ (by simpa [putRow, mapBlock, Sort.ahead] using hgl) (holds_putRow encStr _ g 0 _ _ (holds_ahead encStr wr nn g 0 _ (by
      obtain ⟨g2, cap2, hform2, _, _, _, _, _, hH⟩ := Lib.holds_of_ownsRow How.out (fun e => by have := (Value.slice.inj e).2.1; omega)
      obtain ⟨e1, _, e2⟩ := Value.slice.inj hform2
      cases e1
      exact hH)) (by simp; rw [Htl.out, Hlen.out]))
    have hcomp := Tryz.slices_Compact_string g 0 lc ts w2 hH2 (by rw [Htl.out]; omega) (by rw [Htl.out]; omega)
    rw [Htl.out] at hcomp
    have Hcomp := Lib.hid hcomp
    have Hw2 := Lib.hid hw2
    clear hcomp hH2 hw2
    go_wp2_with fail
    refine Hcomp.out.mono ?_
    rintro en1 w3 ⟨rfl, q, hw3⟩
    have hleft := left_ofN (nn := nn) (q := q) (os := os) How.out hc.toBelow hbg Hlen.out
    rw [← Hts.out, ← Hw2.out, ← hw3] at hleft
    have Hleft := Lib.hid hleft
    have hcle := Lib.compact_length_le ts
    rw [Htl.out] at hcle
    obtain ⟨us, hus⟩ : ∃ z, z = Lib.compact ts := ⟨_, rfl⟩
    rw [← hus] at Hleft hcle ⊢
    have Hus := Lib.hid hus
    clear hleft hw3 hus Hw2
    go_wp2_with fail
    go_ret
    obtain ⟨hrow3, hbel3⟩ := Hleft.out
    refine ⟨hc1.tr (Chg.ofBelow hbel3), us.map (fun x => (⟨x.toArray⟩ : ByteArray)), _, rfl, ?_, by rw [List.length_map]; omega, ?_⟩
    ·have e1 : (us.map (fun x => (⟨x.toArray⟩ : ByteArray))).map Value.string = us.map encStr := by simp [encStr]
     have e2 : ((us.map (fun x => (⟨x.toArray⟩ : ByteArray))).map strDt).length = us.length := by simp
     have ho : Own w3 w1.heap.size 9 1 (fun _ => False) (.slice (some ⟨g, 0, none⟩) us.length lc) ((us.map (fun x => (⟨x.toArray⟩ : ByteArray))).map strDt) := ⟨_, by rw [e1, e2]; exact hrow3, strs_chunksT _ _ _⟩
     exact (ho.reads (S' := fun b => w1.heap.size ≤ b) (fun _ h => h.elim) (fun b h _ => h) (by rw [e2]; unfold maxLen; omega)).mono (fun b h => by omega)
    ·intro x hx
     obtain ⟨y, hy, rfl⟩ := List.mem_map.1 hx
     rw [Hus.out] at hy
     have h1 := mem_compactL hy
     rw [Hts.out, List.mem_mergeSort, Hss.out] at h1
     obtain ⟨z, hz, rfl⟩ := List.mem_map.1 h1
     have e3 : (⟨z.data.toList.toArray⟩ : ByteArray) = z := by rw [Array.toArray_toList]
     exact Nat.le_trans (Nat.le_of_eq (congrArg ByteArray.size e3)) (Hmem.out z hz)
end Go.Proofs.YtnmhkafpgohefaaGreatDoor
