/-
  What a text is as a file: with its schema. Plain; and the cells of a footer.; The closed fact of shredcollaw3: a file of no records, plain.; What OpenOf and Open hand back, told of whatever frame: the footer in the box that slot 2 leads to, and slot 3.; shredcolref3.footOf: where a footer begins and how long it is.
-/
import Derived.Test.YtkchmgjmecojcaaGreatDoorRead
import Derived.Test.YtkchmgjmecojcaaGreatDoorLeavesAll
import Derived.Test.YtkchmgjmecojcaaGreatDoorSumW
import Derived.Test.YtkchmgjmecojcaaGreatDoorSumR
import Derived.Test.YtkchmgjmecojcaaGreatDoorTxtR
import Derived.Deep.QuietTactic
import Derived.BigQuiet
import Derived.Lib.Strings
set_option linter.unusedVariables false
set_option maxHeartbeats 20000000
set_option maxRecDepth 100000
set_option linter.unusedSimpArgs false
namespace Go.Proofs.YtkchmgjmecojcaaGreatDoor
open Go.RowKit
inductive OpR where
 | bad (e : Nat)
 | ok (root : Nd) (gs : List Pt) (n : Nat)
def openF (l : List UInt8) : OpR :=
 match footF l with
 | .bad e => .bad e
 | .ok n =>
  match entF (n + 1) 0 [] [] (footText l n) with
  | none => .bad 1
  | some (t, g) =>
   match readF ⟨t.toArray⟩ with
   | .ok root =>
    match partF (leavesOf root).length (l.length - 12 - n) g with
    | none => .bad 1
    | some gs => .ok root gs n
   | _ => .bad 1
def RR.isOk : RR → Bool
 | .ok _ => true
 | _ => false
theorem open_foot {l : List UInt8} {e : Nat} (h : footF l = .bad e) : openF l = .bad e := by unfold openF; rw [h]
theorem open_ent {l : List UInt8} {n : Nat} (h : footF l = .ok n) (h1 : entF (n + 1) 0 [] [] (footText l n) = none) : openF l = .bad 1 := by unfold openF; rw [h]; simp only [h1]
theorem open_read {l t g : List UInt8} {n : Nat} (h : footF l = .ok n) (h1 : entF (n + 1) 0 [] [] (footText l n) = some (t, g)) (h2 : (readF ⟨t.toArray⟩).isOk = false) : openF l = .bad 1 := by
 unfold openF; rw [h]; simp only [h1]
 cases hr : readF ⟨t.toArray⟩ with
 | ok n => rw [hr] at h2; cases h2
 | er e => rfl
 | bad e q => rfl
theorem open_part {l t g : List UInt8} {n : Nat} {root : Nd} (h : footF l = .ok n) (h1 : entF (n + 1) 0 [] [] (footText l n) = some (t, g)) (h2 : readF ⟨t.toArray⟩ = .ok root) (h3 : partF (leavesOf root).length (l.length - 12 - n) g = none) : openF l = .bad 1 := by
 unfold openF; rw [h]; simp only [h1, h2, h3]
theorem open_fine {l t g : List UInt8} {n : Nat} {root : Nd} {gs : List Pt} (h : footF l = .ok n) (h1 : entF (n + 1) 0 [] [] (footText l n) = some (t, g)) (h2 : readF ⟨t.toArray⟩ = .ok root) (h3 : partF (leavesOf root).length (l.length - 12 - n) g = some gs) : openF l = .ok root gs n := by
 unfold openF; rw [h]; simp only [h1, h2, h3]
theorem foot_code {l : List UInt8} {e : Nat} (h : footF l = .bad e) : e = 1 ∨ e = 2 ∨ e = 7 := by
 unfold footF at h
 split at h
 ·cases h; simp
 ·split at h
  ·cases h; simp
  ·split at h
   ·cases h; simp
   ·split at h
    ·cases h; simp
    ·cases h
theorem open_code {l : List UInt8} {e : Nat} (h : openF l = .bad e) : e = 1 ∨ e = 2 ∨ e = 7 := by
 unfold openF at h
 split at h
 ·rename_i hf
  cases h
  exact foot_code hf
 ·split at h
  ·cases h; simp
  ·split at h
   ·split at h
    ·cases h; simp
    ·cases h
   ·cases h; simp
theorem open_le {l : List UInt8} {root : Nd} {gs : List Pt} {n : Nat} (h : openF l = .ok root gs n) : n + 16 ≤ l.length ∧ l.length ≤ 200000 := by
 unfold openF at h
 split at h
 ·cases h
 ·rename_i hf
  split at h
  ·cases h
  ·split at h
   ·split at h
    ·cases h
    ·cases h
     exact foot_le hf
   ·cases h
theorem read_valid {s : ByteArray} {n : Nd} (h : readF s = .ok n) : n.ok ∧ validF n = none := by
 have hs : (skipW s.data.toList).length ≤ s.size := by
  have h1 := (List.dropWhile_sublist (([32, 10] : List UInt8).contains ·) (l := s.data.toList)).length_le
  rw [length_data] at h1
  exact h1
 unfold readF at h
 split at h
 ·cases h
 ·split at h
  ·cases h
  ·rename_i h8 _ l q1 hp
   split at h
   ·split at h
    ·rename_i hv
     cases h
     obtain ⟨hoks, hll⟩ := parse_ok _ _ _ _ _ (Nat.le_refl _) (by omega) hp
     exact ⟨⟨⟨by decide, by decide⟩, by decide, ⟨by decide, by decide⟩, ⟨by decide, by decide⟩, by unfold reach; omega, hoks⟩, hv⟩
    ·cases h
   ·cases h
theorem leaves_le {nd : Nd} (h : validF nd = none) : (leavesOf nd).length ≤ 40 := by
 have h1 := (schema_of_valid h).small
 have h2 := lvL_len nd.sub 0 0 []
 unfold leavesOf
 obtain ⟨i, nm, r, k, s⟩ := nd
 simp only [Nd.weigh, Nd.sub] at h1 h2 ⊢
 omega
def zeroFt : Value := .agg #[.int .i64 0, .string ⟨#[]⟩, .int .i64 0, .int .i64 0, .slice none 0 0, .slice none 0 0, .int .i64 0]
theorem store7 {w : World} {b : Nat} {c0 c1 c2 c3 c4 c5 c6 : Value} {t : TypeId} (h : Blk w b [c0, c1, c2, c3, c4, c5, c6] t) (v0 v1 v2 v3 v4 v5 v6 : Value) :
  Blk (World.setCell (World.setCell (World.setCell (World.setCell (World.setCell (World.setCell (World.setCell w ⟨b, 0, none⟩ v0) ⟨b, 1, none⟩ v1) ⟨b, 2, none⟩ v2) ⟨b, 3, none⟩ v3) ⟨b, 4, none⟩ v4) ⟨b, 5, none⟩ v5) ⟨b, 6, none⟩ v6) b [v0, v1, v2, v3, v4, v5, v6] t :=
 ((((((h.set 0 v0).set 1 v1).set 2 v2).set 3 v3).set 4 v4).set 5 v5).set 6 v6
theorem store7_chg (w : World) (b : Nat) (v0 v1 v2 v3 v4 v5 v6 : Value) :
  Chg (OneB b) w (World.setCell (World.setCell (World.setCell (World.setCell (World.setCell (World.setCell (World.setCell w ⟨b, 0, none⟩ v0) ⟨b, 1, none⟩ v1) ⟨b, 2, none⟩ v2) ⟨b, 3, none⟩ v3) ⟨b, 4, none⟩ v4) ⟨b, 5, none⟩ v5) ⟨b, 6, none⟩ v6) :=
 (((((((Chg.refl (OneB b) w).setCell (p := ⟨b, 0, none⟩) (.inl rfl) v0).setCell (p := ⟨b, 1, none⟩) (.inl rfl) v1).setCell (p := ⟨b, 2, none⟩) (.inl rfl) v2).setCell (p := ⟨b, 3, none⟩) (.inl rfl) v3).setCell (p := ⟨b, 4, none⟩) (.inl rfl) v4).setCell (p := ⟨b, 5, none⟩) (.inl rfl) v5).setCell (p := ⟨b, 6, none⟩) (.inl rfl) v6
def RetFt (bad : Nat → Ending) (good : Value) (o : OpR) (w : World) (en : Ending) (w' : World) : Prop :=
 Chg NoB w w' ∧ match o with
 | .bad e => en = bad e
 | .ok root gs n => ∃ i nm r k sv gv, en = .returned (.tuple #[.agg #[.int .i64 i, .string nm, .int .i64 r, .int .i64 k, sv, gv, .int .i64 (n : Nat)], good]) ∧
   Reads w' (fun b => w.heap.size ≤ b) root.dt [.int .i64 i, .string nm, .int .i64 r, .int .i64 k, sv] ∧ Reads w' (fun b => w.heap.size ≤ b) (.list 2 (gs.map Pt.dt)) [gv]
theorem read_short (s : ByteArray) (w : World) (E : Er → Value) (hG : Glo w.heap.size E w) (hbig : s.size ≤ 9223372036854775807) :
  Calls Tryz.prog 29 #[.string s] w (fun en w' => Chg NoB w w' ∧ match readF s with
   | .ok n => ∃ cs, en = .returned (.tuple #[.agg cs.toArray, .nilIface]) ∧ Reads w' (fun b => w.heap.size ≤ b) n.dt cs
   | _ => ∃ T v, en = .returned (.tuple #[zeroNode, .iface T v])) := by
 refine (read_any s w E hG hbig).mono ?_
 rintro en w' ⟨h1, h2⟩
 refine ⟨h1, ?_⟩
 cases hr : readF s with
 | ok n => rw [hr] at h2; exact h2
 | er e =>
  rw [hr] at h2
  obtain ⟨T, v, hv⟩ := hG.errs.form e
  exact ⟨T, v, by rw [← hv]; exact h2⟩
 | bad e q =>
  rw [hr] at h2
  obtain ⟨v, h3, p, rfl, _⟩ := h2
  exact ⟨_, _, h3⟩
theorem Glo.upTo {B B' : Nat} {E : Er → Value} {w : World} (h : Glo B E w) (hB : B ≤ B') : Glo B' E w :=
 ⟨h.errs, h.tabs.up hB, h.syn, h.ran, ⟨fun e => by have := h.below.1 e; omega, by have := h.below.2.1; omega, by have := h.below.2.2; omega⟩⟩
theorem read_any5 {s : ByteArray} {w : World} {en : Ending} {w' : World} (h : match readF s with
   | .ok n => ∃ cs, en = .returned (.tuple #[.agg cs.toArray, .nilIface]) ∧ Reads w' (fun b => w.heap.size ≤ b) n.dt cs
   | _ => ∃ T v, en = .returned (.tuple #[zeroNode, .iface T v])) :
  ∃ i nm r k a n c ev, en = .returned (.tuple #[.agg #[.int .i64 i, .string nm, .int .i64 r, .int .i64 k, .slice a n c], ev]) := by
 cases hr : readF s with
 | ok n =>
  rw [hr] at h
  obtain ⟨cs, rfl, h2⟩ := h
  obtain ⟨i, nm, r, k, sb⟩ := n
  obtain ⟨v, rfl, h3⟩ := reads_nd.1 h2
  obtain ⟨a, cap, rfl, _⟩ := reads_subs h3
  exact ⟨i, nm, r, k, a, _, cap, _, rfl⟩
 | er e =>
  rw [hr] at h
  obtain ⟨T, v, rfl⟩ := h
  exact ⟨0, ⟨#[]⟩, 0, 0, none, 0, 0, _, rfl⟩
 | bad e q =>
  rw [hr] at h
  obtain ⟨T, v, rfl⟩ := h
  exact ⟨0, ⟨#[]⟩, 0, 0, none, 0, 0, _, rfl⟩
theorem read_no {s : ByteArray} {w : World} {en : Ending} {w' : World} (hno : (readF s).isOk = false) (h : match readF s with
   | .ok n => ∃ cs, en = .returned (.tuple #[.agg cs.toArray, .nilIface]) ∧ Reads w' (fun b => w.heap.size ≤ b) n.dt cs
   | _ => ∃ T v, en = .returned (.tuple #[zeroNode, .iface T v])) :
  ∃ T v, en = .returned (.tuple #[.agg #[.int .i64 0, .string ⟨#[]⟩, .int .i64 0, .int .i64 0, .slice none 0 0], .iface T v]) := by
 cases hr : readF s with
 | ok n => rw [hr] at hno; cases hno
 | er e => rw [hr] at h; exact h
 | bad e q => rw [hr] at h; exact h
def bareText : List UInt8 := [114, 101, 113, 117, 105, 114, 101, 100, 32, 98, 111, 111, 108, 32, 97, 32, 35, 49, 59, 10]
def bareNd : Nd := .mk 0 rootName 1 0 [.mk 1 ⟨#[97]⟩ 1 1 []]
theorem bare_valid : validF bareNd = none := by kernel_rfl
theorem bare_text : textF bareNd = bareText := by
 unfold textF
 rw [if_pos bare_valid]
 have h1 : Lib.itoa 1 = [49] := by
  unfold Lib.itoa
  rw [if_neg (by decide), dec_four _ (by decide)]
  rfl
 simp only [bareNd, Nd.sub, textL, textN, headS, h1]
 rfl
theorem bare_read : readF ⟨bareText.toArray⟩ = .ok bareNd := by
 have h1 : headN 2 (skipW bareText) = .leaf (.mk 1 ⟨#[97]⟩ 1 1 []) [] := by kernel_rfl
 have hp : parseL 2 (skipW bareText) = .ok [.mk 1 ⟨#[97]⟩ 1 1 []] [] := by
  rw [parse_leaf h1, parse_stop (show headN 2 [] = .stop from if_pos (.inr ⟨rfl, by decide⟩))]
  rfl
 unfold readF
 rw [dat_list, if_neg (by decide), hp]
 simp only [show tok [] = [] from rfl, if_true]
 rw [show validF (.mk 0 rootName 1 0 [.mk 1 ⟨#[97]⟩ 1 1 []]) = none from bare_valid]
 rfl
theorem bareNd_ok : bareNd.ok := by
 refine ⟨⟨by decide, by decide⟩, by decide, ⟨by decide, by decide⟩, ⟨by decide, by decide⟩, by decide, ⟨⟨by decide, by decide⟩, by decide, ⟨by decide, by decide⟩, ⟨by decide, by decide⟩, by decide, trivial⟩, trivial⟩
theorem entry_le {n : Nat} (hn : n < 18446744073709551616) (t : List UInt8) (ht : t.length ≤ 100000) : 1 ≤ (entryL n t).length ∧ (entryL n t).length ≤ t.length + 20 := by
 have h0 := Lib.uvarint_length64 (x := n) hn
 have h1 := Lib.uvarint_length64 (x := t.length) (by omega)
 have h2 := sev_uvarint (x := n) hn []
 have h3 := (sev_some h2).2.1
 unfold entryL longL
 simp only [List.length_append]
 omega
theorem open_wrap {t : List UInt8} {root : Nd} (ht : t.length ≤ 100000) (hr : readF ⟨t.toArray⟩ = .ok root) :
  openF (wrapL [] (entryL 1 t ++ entryL 2 [])) = .ok root [] (entryL 1 t ++ entryL 2 []).length := by
 have l1 := entry_le (n := 1) (by omega) t ht
 have l2 := entry_le (n := 2) (by omega) [] (by simp)
 have hlen : (entryL 1 t ++ entryL 2 []).length = (entryL 1 t).length + (entryL 2 []).length := List.length_append
 have hw := wrap_length [] (entryL 1 t ++ entryL 2 [])
 rw [List.length_nil] at hw l2
 obtain ⟨f1, f2⟩ := foot_wrap (b := []) (f := entryL 1 t ++ entryL 2 []) (by omega)
 have he : entF ((entryL 1 t ++ entryL 2 []).length + 1) 0 [] [] (entryL 1 t ++ entryL 2 []) = some (t, []) := by
  obtain ⟨m, hm⟩ : ∃ m, (entryL 1 t ++ entryL 2 []).length = m + 2 := ⟨(entryL 1 t ++ entryL 2 []).length - 2, by omega⟩
  rw [hm]
  have e1 : entryL 1 t ++ entryL 2 [] = Lib.uvarint 1 ++ (longL t ++ entryL 2 []) := by unfold entryL; rw [List.append_assoc]
  have e2 : entryL 2 [] = Lib.uvarint 2 ++ (longL [] ++ []) := by unfold entryL; rw [List.append_nil]
  have n1 : entryL 1 t ++ entryL 2 [] ≠ [] := fun e => by have := congrArg List.length e; rw [List.length_nil] at this; omega
  have n2 : entryL 2 [] ≠ [] := fun e => by have := congrArg List.length e; rw [List.length_nil] at this; omega
  have s1 : sev (entryL 1 t ++ entryL 2 []) = some (1, (Lib.uvarint 1).length) := by rw [e1]; exact sev_uvarint (by omega) _
  have s2 : sev (entryL 2 []) = some (2, (Lib.uvarint 2).length) := by rw [e2]; exact sev_uvarint (by omega) _
  have d1 : (entryL 1 t ++ entryL 2 []).drop (Lib.uvarint 1).length = longL t ++ entryL 2 [] := drop_at e1 rfl
  have d2 : (entryL 2 []).drop (Lib.uvarint 2).length = longL [] ++ [] := drop_at e2 rfl
  have r1 : longR ((entryL 1 t ++ entryL 2 []).drop (Lib.uvarint 1).length) = some (t, (longL t).length) := by rw [d1]; exact longR_longL (by omega) _
  have r2 : longR ((entryL 2 []).drop (Lib.uvarint 2).length) = some ([], (longL []).length) := by rw [d2]; exact longR_longL (by simp) _
  rw [ent_one n1 s1 r1, ← List.drop_drop, d1, drop_at rfl rfl, ent_two n2 s2 r2, ← List.drop_drop, d2, drop_at rfl rfl, ent_end, if_pos rfl]
 refine open_fine f1 (by rw [f2]; exact he) hr ?_
 have hlast : (wrapL [] (entryL 1 t ++ entryL 2 [])).length - 12 - (entryL 1 t ++ entryL 2 []).length = 4 := by omega
 rw [hlast, part_grp (q := []) rfl (by simp)]
 rw [List.length_nil, Nat.zero_div]
 rfl
theorem bare_open : openF (wrapL [] (entryL 1 (textF bareNd) ++ entryL 2 [])) = .ok bareNd [] (entryL 1 bareText ++ entryL 2 []).length := by
 rw [bare_text]
 exact open_wrap (by decide) bare_read
theorem bare_reads {w : World} {b : Nat} {ty : TypeId} (h : Blk w b [.int .i64 1, .string ⟨#[97]⟩, .int .i64 1, .int .i64 1, .slice none 0 0] ty) : Reads w (OneB b) bareNd.dt [.int .i64 0, .string rootName, .int .i64 1, .int .i64 0, .slice (some ⟨b, 0, none⟩) 1 1] := by
 refine reads_nd.2 ⟨_, rfl, some ⟨b, 0, none⟩, 1, rfl, Nat.le_refl _, by decide, .inr ⟨b, 0, rfl, rfl, h.lt, ⟨[.int .i64 1, .string ⟨#[97]⟩, .int .i64 1, .int .i64 1, .slice none 0 0], rfl, fun j c hj => ?_, ?_⟩, trivial⟩⟩
 ·rw [Nat.zero_add, h.cell j, hj]
 ·exact reads_nd.2 ⟨_, rfl, none, 0, rfl, Nat.le_refl _, by decide, .inl ⟨rfl, fun _ => rfl⟩⟩
theorem resOpenOf {t : Array Value} {w : World} {b : Nat} {ev c0 c1 c2 c3 c4 c5 c6 : Value} (h2 : t[2]?.getD undef = .pointer (some ⟨b, 0, none⟩)) (h3 : t[3]?.getD undef = ev)
  (n0 : w.cell? ⟨b, 0, none⟩ = some c0) (n1 : w.cell? ⟨b, 1, none⟩ = some c1) (n2 : w.cell? ⟨b, 2, none⟩ = some c2) (n3 : w.cell? ⟨b, 3, none⟩ = some c3) (n4 : w.cell? ⟨b, 4, none⟩ = some c4) (n5 : w.cell? ⟨b, 5, none⟩ = some c5) (n6 : w.cell? ⟨b, 6, none⟩ = some c6) :
  (results Tryz.f13 t).run Tryz.prog w = .ok (.tuple #[.agg #[c0, c1, c2, c3, c4, c5, c6], ev]) w := by
 simp [results, Tryz.results13, go_sem, h2, h3, n0, n1, n2, n3, n4, n5, n6]
theorem resOpen {t : Array Value} {w : World} {b : Nat} {ev c0 c1 c2 c3 c4 c5 c6 : Value} (h2 : t[2]?.getD undef = .pointer (some ⟨b, 0, none⟩)) (h3 : t[3]?.getD undef = ev)
  (n0 : w.cell? ⟨b, 0, none⟩ = some c0) (n1 : w.cell? ⟨b, 1, none⟩ = some c1) (n2 : w.cell? ⟨b, 2, none⟩ = some c2) (n3 : w.cell? ⟨b, 3, none⟩ = some c3) (n4 : w.cell? ⟨b, 4, none⟩ = some c4) (n5 : w.cell? ⟨b, 5, none⟩ = some c5) (n6 : w.cell? ⟨b, 6, none⟩ = some c6) :
  (results Tryz.f9 t).run Tryz.prog w = .ok (.tuple #[.agg #[c0, c1, c2, c3, c4, c5, c6], ev]) w := by
 simp [results, Tryz.results9, go_sem, h2, h3, n0, n1, n2, n3, n4, n5, n6]
def RetFootR (l : List UInt8) (o : FtR) (w : World) (en : Ending) (w' : World) : Prop :=
 Chg NoB w w' ∧ match o with
 | .bad e => en = .returned (.tuple #[.int .i64 0, .int .i64 0, .int .i64 (e : Nat)])
 | .ok n => en = .returned (.tuple #[.int .i64 (l.length - 12 - n : Nat), .int .i64 (n : Nat), .int .i64 0])
theorem rlitL_same (l : List UInt8) (k : Nat) (w : World) (hk : k ≤ 8) (hs : k ≤ l.length) (hb : l.length ≤ 9000000000000000000) : Calls Tryz.prog 66 #[.string ⟨l.toArray⟩, .int .i64 (k : Nat)] w (fun e w' => e = .returned (.int .u64 (leV (l.take k) : Nat)) ∧ w' = w) := by
 have h := readLittle_same ⟨l.toArray⟩ k w hk (by rw [siz_list]; exact hs) (by rw [siz_list]; exact hb)
 rwa [dat_list] at h
theorem remL_same (l : List UInt8) (w : World) (hb : l.length ≤ 9000000000000000000) : Calls Tryz.prog 40 #[.string ⟨l.toArray⟩] w (fun e w' => e = .returned (.int .u32 (crcF l : Nat)) ∧ w' = w) := by
 have h := remainder_same ⟨l.toArray⟩ w (by rw [siz_list]; exact hb)
 rwa [dat_list] at h
theorem ext_pre (l : List UInt8) (b : Nat) : (⟨l.toArray⟩ : ByteArray).extract 0 b = ⟨(l.take b).toArray⟩ := by
 rw [ext_of, dat_list]; simp
theorem ext_foot2 (l : List UInt8) (n : Nat) (h : n + 16 ≤ l.length) : (⟨l.toArray⟩ : ByteArray).extract (l.length - 12 - n) (l.length - 12) = ⟨(footText l n).toArray⟩ := by
 rw [ext_of, dat_list]
 unfold footText
 rw [show l.length - 12 - (l.length - 12 - n) = n from by omega]
theorem footR_eq {l : List UInt8} {n : Nat} {a b : Int} (ha : a = (l.length - 12 - n : Nat)) (hb : b = (n : Nat)) : Ending.returned (.tuple #[.int .i64 a, .int .i64 b, .int .i64 0]) = .returned (.tuple #[.int .i64 (l.length - 12 - n : Nat), .int .i64 (n : Nat), .int .i64 0]) := by rw [ha, hb]
theorem ftxt_length {l : List UInt8} {n : Nat} (h : n + 16 ≤ l.length) : (footText l n).length = n := by
 unfold footText
 rw [List.length_take, List.length_drop]
 omega
theorem footOf_any (l : List UInt8) (w : World) (hb : l.length ≤ 9000000000000000000) : Calls Tryz.prog 34 #[.string ⟨l.toArray⟩] w (RetFootR l (footF l) w) := by
 by_cases hbig : 200000 < l.length
 ·have hbig' : (200000 : Int) < (l.length : Int) := by omega
  go_enter Tryz.func34, Tryz.ntmps34
  go_wp2_with fail
  go_ret3
  refine ⟨Chg.refl _ _, ?_⟩
  rw [foot_big hbig]
  rfl
 have hbig' : ¬ (200000 : Int) < (l.length : Int) := by omega
 by_cases h16 : l.length < 16
 ·have h16' : (l.length : Int) < 16 := by omega
  go_enter Tryz.func34, Tryz.ntmps34
  go_wp2_with fail
  go_ret3
  refine ⟨Chg.refl _ _, ?_⟩
  rw [foot_form (by omega) (.inl h16)]
  rfl
 have h16' : ¬ (l.length : Int) < 16 := by omega
 have hx1 := ext_pre l 4
 have hx2 := extL l (l.length - 4)
 by_cases hm1 : l.take 4 = magicL
 ·by_cases hm2 : l.drop (l.length - 4) = magicL
  ·have hxa : (⟨l.toArray⟩ : ByteArray).extract 0 4 = ⟨#[83, 72, 67, 49]⟩ := by rw [hx1, hm1]; rfl
   have hxb : (⟨l.toArray⟩ : ByteArray).extract (l.length - 4) l.length = ⟨#[83, 72, 67, 49]⟩ := by rw [hx2, hm2]; rfl
   have Hm1 := Lib.hid hm1
   have Hm2 := Lib.hid hm2
   clear hx1 hx2 hm1 hm2
   go_enter Tryz.func34, Tryz.ntmps34
   go_wp2_with fail
   have hA := rlitL_same (l.drop (l.length - 12)) 4 w (by decide) (by rw [List.length_drop]; omega) (by rw [List.length_drop]; omega)
   have hB := fun w => rlitL_same (l.drop (l.length - 8)) 4 w (by decide) (by rw [List.length_drop]; omega) (by rw [List.length_drop]; omega)
   rw [show ((4 : Nat) : Int) = 4 from rfl] at hA hB
   rw [← extL] at hA hB
   have hn32 : footLen l < 4294967296 := Nat.lt_of_lt_of_le (leV_le (k := 4) (by rw [List.length_take]; omega)) (by decide)
   have hz32 : footSum l < 4294967296 := Nat.lt_of_lt_of_le (leV_le (k := 4) (by rw [List.length_take]; omega)) (by decide)
   obtain ⟨n, hn⟩ : ∃ n, n = footLen l := ⟨_, rfl⟩
   obtain ⟨z, hz⟩ : ∃ z, z = footSum l := ⟨_, rfl⟩
   rw [show leV (List.take 4 (List.drop (l.length - 12) l)) = n from hn.symm] at hA
   rw [show leV (List.take 4 (List.drop (l.length - 8) l)) = z from hz.symm] at hB
   rw [← hn] at hn32
   rw [← hz] at hz32
   have HAA := Lib.hid hA
   have HBB := Lib.hid hB
   have Hn := Lib.hid hn
   have Hz := Lib.hid hz
   clear hA hB hn hz
   refine HAA.out.mono ?_
   rintro en w0 ⟨rfl, rfl⟩
   by_cases hlen : l.length - 16 < n
   ·have hlen' : (l.length : Int) - 16 < (n : Int) := by omega
    go_wp2_with fail
    go_ret3
    refine ⟨Chg.refl _ _, ?_⟩
    rw [foot_len (by omega) (by omega) Hm1.out Hm2.out (by rw [← Hn.out]; exact hlen)]
    rfl
   ·have hlen' : (n : Int) ≤ (l.length : Int) - 16 := by omega
    have hnI : (n : Int) ≤ 200000 := by omega
    have hR := fun w => remL_same (footText l n) w (by rw [ftxt_length (by omega)]; omega)
    rw [← ext_foot2 l n (by omega)] at hR
    have HRR := Lib.hid hR
    have hcl := crcF_lt (footText l n)
    have hclI : ((crcF (footText l n) : Nat) : Int) ≤ 4294967295 := by omega
    clear hR
    by_cases hsum : z = crcF (footText l n)
    ·have hsum' : ((z : Int) != (crcF (footText l n) : Nat)) = false := by simp [hsum]
     have Hsum := Lib.hid hsum
     clear hsum
     go_wp2_with fail
     go_quiet (first | (go_at_call 66; exact Calls.quiet_of_same (HBB.out _)) | (go_at_call 40; exact Calls.quiet_of_same (HRR.out _)))
     go_wp2_with fail
     go_ret3
     refine ⟨(Chg.refl _ _).drewN _, ?_⟩
     rw [foot_fine (by omega) (by omega) Hm1.out Hm2.out (by rw [← Hn.out]; omega) (by rw [← Hn.out, ← Hz.out]; exact Hsum.out), ← Hn.out]
     exact footR_eq (by omega) (by omega)
    ·have hsum' : ((z : Int) != (crcF (footText l n) : Nat)) = true := by simp; omega
     have Hsum := Lib.hid hsum
     clear hsum
     go_wp2_with fail
     go_quiet (first | (go_at_call 66; exact Calls.quiet_of_same (HBB.out _)) | (go_at_call 40; exact Calls.quiet_of_same (HRR.out _)))
     go_wp2_with fail
     go_ret3
     refine ⟨(Chg.refl _ _).drewN _, ?_⟩
     rw [foot_sum (by omega) (by omega) Hm1.out Hm2.out (by rw [← Hn.out]; omega) (by rw [← Hn.out, ← Hz.out]; exact Hsum.out)]
     rfl
  ·have hxa : (⟨l.toArray⟩ : ByteArray).extract 0 4 = ⟨#[83, 72, 67, 49]⟩ := by rw [hx1, hm1]; rfl
   have hyb : ((⟨l.toArray⟩ : ByteArray).extract (l.length - 4) l.length).toList = l.drop (l.length - 4) := by rw [hx2, Lib.toList_data, dat_list]
   have hnb : ((l.drop (l.length - 4)) == [83, 72, 67, 49]) = false := by rw [beq_eq_false_iff_ne]; exact hm2
   have Hm2 := Lib.hid hm2
   clear hx1 hx2 hm1 hm2
   go_enter Tryz.func34, Tryz.ntmps34
   go_wp2_with fail
   go_ret3
   refine ⟨Chg.refl _ _, ?_⟩
   rw [foot_form (by omega) (.inr (.inr Hm2.out))]
   rfl
 ·have hya : ((⟨l.toArray⟩ : ByteArray).extract 0 4).toList = l.take 4 := by rw [hx1, Lib.toList_data, dat_list]
  have hna : ((l.take 4) == [83, 72, 67, 49]) = false := by rw [beq_eq_false_iff_ne]; exact hm1
  have Hm1 := Lib.hid hm1
  clear hx1 hx2 hm1
  go_enter Tryz.func34, Tryz.ntmps34
  go_wp2_with fail
  go_ret3
  refine ⟨Chg.refl _ _, ?_⟩
  rw [foot_form (by omega) (.inr (.inl Hm1.out))]
  rfl
end Go.Proofs.YtkchmgjmecojcaaGreatDoor
