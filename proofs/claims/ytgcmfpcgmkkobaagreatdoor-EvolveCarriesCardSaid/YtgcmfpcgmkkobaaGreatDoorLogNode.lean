/-
 evolve's node, at one line: what the closed fact needs.
-/
import Derived.Test.YtgcmfpcgmkkobaaGreatDoorGive
import Derived.Test.YtgcmfpcgmkkobaaGreatDoorPlainE
import Derived.Test.YtgcmfpcgmkkobaaGreatDoorPackG
set_option linter.unusedVariables false
set_option linter.unusedSimpArgs false
namespace Go.Proofs.YtgcmfpcgmkkobaaGreatDoor
open Go.RowKit

def lineB : ByteArray := ⟨#[114, 101, 113, 117, 105, 114, 101, 100, 32, 105, 110, 116, 32, 97, 59]⟩
def wsL : List ByteArray := [⟨#[114, 101, 113, 117, 105, 114, 101, 100]⟩, ⟨#[105, 110, 116]⟩, ⟨#[97, 59]⟩]
theorem count_line : Lib.countB lineB ⟨#[32]⟩ = 2 := by kernel_rfl
theorem split_line : Lib.splitB ⟨#[32]⟩ 0 2 lineB = wsL := by kernel_rfl
theorem itoa_one : Lib.itoa 1 = [49] := by
 unfold Lib.itoa
 rw [if_neg (by decide), dec_four _ (by decide)]
 rfl
theorem hash_one : hashW 1 = ⟨#[35, 49]⟩ := by
 unfold hashW
 rw [itoa_one]
 rfl
theorem num_line : numGo 1 wsL = ([⟨#[114, 101, 113, 117, 105, 114, 101, 100]⟩, ⟨#[105, 110, 116]⟩, ⟨#[97]⟩, ⟨#[35, 49, 59]⟩], 2, 3) := by
 have s1 : numStep 0 1 ⟨#[114, 101, 113, 117, 105, 114, 101, 100]⟩ = ([⟨#[114, 101, 113, 117, 105, 114, 101, 100]⟩], 1) := by
  unfold numStep
  rw [if_neg (by decide +kernel), if_neg (fun h => absurd h.2 (by decide))]
 have s2 : numStep 1 1 ⟨#[105, 110, 116]⟩ = ([⟨#[105, 110, 116]⟩], 1) := by
  unfold numStep
  rw [if_neg (by decide +kernel), if_neg (fun h => absurd h.1 (by decide +kernel))]
 have s3 : numStep 2 1 ⟨#[97, 59]⟩ = ([⟨#[97]⟩, ⟨#[35, 49, 59]⟩], 2) := by
  unfold numStep
  rw [if_pos (by decide +kernel), hash_one]
  have h1 : cutS ⟨#[97, 59]⟩ = ⟨#[97]⟩ := by kernel_rfl
  rw [h1]
  rfl
 unfold numGo wsL
 simp only [List.foldl_cons, List.foldl_nil, s1, s2, s3, Nat.zero_add, Nat.reduceAdd, List.nil_append, List.cons_append]
theorem join_line : (⟨(joinW [⟨#[114, 101, 113, 117, 105, 114, 101, 100]⟩, ⟨#[105, 110, 116]⟩, ⟨#[97]⟩, ⟨#[35, 49, 59]⟩]).toArray⟩ : ByteArray) = leafText := by kernel_rfl
/-- The words of the text of that schema. -/
def wsT : List ByteArray := [⟨#[114, 101, 113, 117, 105, 114, 101, 100]⟩, ⟨#[105, 110, 116]⟩, ⟨#[97]⟩, ⟨#[35, 49, 59]⟩]
def textB : ByteArray := ⟨#[114, 101, 113, 117, 105, 114, 101, 100, 32, 105, 110, 116, 32, 97, 32, 35, 49, 59, 10]⟩
theorem fields_text : (Lib.fields textB.data.toList).map (fun l => (⟨l.toArray⟩ : ByteArray)) = wsT := by kernel_rfl
theorem plain_text : plGo wsT = [⟨#[114, 101, 113, 117, 105, 114, 101, 100]⟩, ⟨#[105, 110, 116]⟩, ⟨#[97, 59]⟩] := by kernel_rfl
theorem plain_join : (⟨(joinW (plGo wsT)).toArray⟩ : ByteArray) = lineB := by kernel_rfl
theorem plain_no : ∀ j (h : j < wsT.length), hashP wsT[j] = true → semiB wsT[j] = true → 1 ≤ (plGo (wsT.take j)).length := by
 intro j h h1 h2
 have h5 : j < 4 := h
 have h6 : j = 0 ∨ j = 1 ∨ j = 2 ∨ j = 3 := by omega
 rcases h6 with rfl | rfl | rfl | rfl
 ·exact absurd h1 (show ¬ hashP ⟨#[114, 101, 113, 117, 105, 114, 101, 100]⟩ = true from by decide +kernel)
 ·exact absurd h1 (show ¬ hashP ⟨#[105, 110, 116]⟩ = true from by decide +kernel)
 ·exact absurd h1 (show ¬ hashP ⟨#[97]⟩ = true from by decide +kernel)
 ·decide +kernel
theorem ascii_at : Tryz.prog.globalNamed "strings.asciiSpace" = some 12 := by kernel_rfl
theorem tab_ascii {w w' : World} (h : Lib.TabIs Tryz.prog w "strings.asciiSpace" .u8 Lib.asciiSpaceTab) (hc : Chg NoB w w') : Lib.TabIs Tryz.prog w' "strings.asciiSpace" .u8 Lib.asciiSpaceTab := by
 unfold Lib.TabIs World.var? at h ⊢
 rw [ascii_at] at h ⊢
 simp only [Option.bind_some] at h ⊢
 cases hb : w.heap[12]? with
 | none => rw [hb] at h; simp at h
 | some o =>
  rw [hc.block _ (lt_of_block hb) NoB.elim]
  exact h
def leafN : Nd := .mk 1 ⟨#[97]⟩ 1 2 []
/-- What node leaves. -/
def RetLN (gb : Nat) (g0 g1 g2 g3 g4 : Value) (w : World) (en : Ending) (w' : World) : Prop :=
 (∃ (sa : Option Addr) (sc : Nat), (sc ≤ maxLen ∧ (sa = none → sc = 0)) ∧ en = .returned (.tuple #[.agg #[.int .i64 1, .string ⟨#[97]⟩, .int .i64 1, .int .i64 2, .slice sa 0 sc], .bool true])) ∧ Blk w' gb [g0, g1, g2, g3, g4, .int .i64 2] 63 ∧ Chg (OneB gb) w w'

set_option maxHeartbeats 2000000 in
set_option maxRecDepth 100000 in
theorem logNode_first (gb : Nat) (g0 g1 g2 g3 g4 : Value) (m : Int) (w : World) (E : Er → Value) (hG : Glo w.heap.size E w) (hg : Blk w gb [g0, g1, g2, g3, g4, .int .i64 1] 63) (hm : w.cell? ⟨11, 0, none⟩ = some (.int .i64 m)) (hgm : 11 ≠ gb)
  (htab : Lib.TabIs Tryz.prog w "strings.asciiSpace" .u8 Lib.asciiSpaceTab) :
  Calls Tryz.prog 90 #[.pointer (some ⟨gb, 0, none⟩), .string lineB] w (RetLN gb g0 g1 g2 g3 g4 w) := by
 have he := enters_of Tryz.func121 (P := Tryz.prog) (by kernel_rfl) rfl
 unfold lineB
 go_enter Tryz.func90, Tryz.ntmps90
 go_wp2_with fail
 generalize hw1 : World.alloc _ _ = w1
 have hc1 : Chg NoB w w1 := by
  rw [← hw1]
  repeat (first | exact Chg.refl _ _ | apply Chg.alloc | apply Chg.drew)
 have hx1 : Blk w1 (w.heap.size) ([.pointer (some ⟨gb, 0, none⟩)]) 61 := by
  rw [← hw1]
  repeat (first | exact Blk.newAt (by first | rfl | (simp; done) | (simp; omega)) | apply Blk.alloc | apply Blk.drew)
 have hr1 : Blk w1 (w.heap.size + 1) (ndCells 0 ⟨#[]⟩ 0 0 (.slice none 0 0)) 28 := by
  rw [← hw1]
  repeat (first | exact Blk.newAt (by first | rfl | (simp; done) | (simp; omega)) | apply Blk.alloc | apply Blk.drew)
 clear hw1
 have hnum : ∀ w', Chg NoB w w' → Calls Tryz.prog 117 #[.string lineB, .int .i64 1] w' (fun en w'' => en = .returned (.tuple #[.string leafText, .int .i64 2]) ∧ Chg NoB w' w'') := fun w' hc => by
  have hG' := (hG.keep0 hc).up hc.size
  refine (numbered_any lineB wsL 1 m w' (by decide) ((hc.cell (lt_of_cell hm) NoB.elim).trans hm) (by rw [count_line]; exact split_line.symm) (by rw [count_line]; rfl) (by decide) (by decide +kernel) (by decide) (by decide) hG'.tabs).mono ?_
  rintro en w'' ⟨out, nx, h1, rfl, h2⟩
  rw [num_line] at h1
  obtain ⟨rfl, h3⟩ := Prod.mk.inj h1
  obtain ⟨rfl, _⟩ := Prod.mk.inj h3
  rw [join_line]
  exact ⟨rfl, h2⟩
 have Hnum := Lib.hid hnum
 clear hnum
 refine (Hnum.out w1 hc1).mono ?_
 rintro en w2 ⟨rfl, hc2⟩
 unfold leafText
 go_wp2_with fail
 have hc02 := hc1.tr hc2
 have h1 := read_any leafText w2 E ((hG.keep0 hc02).up hc02.size) (by decide)
 rw [leaf_read] at h1
 refine h1.mono ?_
 rintro en w3 ⟨hc3, cs, rfl, hrd⟩
 have hrd' : Reads w3 (fun b => w2.heap.size ≤ b) (Nd.dt (.mk 0 rootName 1 0 [.mk 1 ⟨#[97]⟩ 1 2 []])) cs := hrd
 obtain ⟨v, rfl, hs⟩ := reads_nd.1 hrd'
 obtain ⟨sa, cap, rfl, _, _, hel⟩ := reads_subs hs
 obtain ⟨eb, off, rfl, _, hebw, hE⟩ := hel (by decide)
 obtain ⟨ecs, hl5, hcells, hre⟩ := hE.get 0 (Nd.dt (.mk 1 ⟨#[97]⟩ 1 2 [])) rfl
 obtain ⟨sv1, rfl, hs1⟩ := reads_nd.1 hre
 have hsa : ∀ a c, sv1 = .slice a 0 c → c ≤ maxLen ∧ (a = none → c = 0) := by
  rintro a c rfl
  obtain ⟨a', c', h1, _, h3, h4⟩ := (show Reads w3 _ (.list 5 []) [.slice a 0 c] from hs1)
  simp only [List.cons.injEq, and_true, Value.slice.injEq] at h1
  obtain ⟨rfl, -, rfl⟩ := h1
  refine ⟨h3, fun ha => ?_⟩
  rcases h4 with ⟨_, h4⟩ | ⟨b, off, h4, _⟩
  ·exact h4 ha
  ·rw [ha] at h4; cases h4
 obtain ⟨sa1, cap1, rfl, _, _, _⟩ := reads_subs hs1
 replace hsa := hsa _ _ rfl
 have hc03 := hc02.tr hc3
 clear h1 hel hE hs hs1 hre
 go_wp2_with fail
 generalize hw4 : World.alloc w3 _ = w4
 have hc4 : Chg NoB w3 w4 := by
  rw [← hw4]
  repeat (first | exact Chg.refl _ _ | apply Chg.alloc | apply Chg.drew)
 have hb4 : Blk w4 w3.heap.size (ndCells 0 rootName 1 0 (.slice (some ⟨eb, off, none⟩) 1 cap)) 28 := by rw [← hw4]; exact Blk.newAt rfl
 clear hw4
 have hc04 := hc03.tr hc4
 have hG4 := hG.keep0 hc04
 have h2 := text_any leafNd w4 (fun b => w2.heap.size ≤ b ∧ b < w3.heap.size) _ E hG4.errs (hG4.tabs.up hc04.size) leafNd_ok (hrd.lt.chg0 hc4) (fun b hb => by have := hc4.size; omega) good_of
 rw [leaf_text, leaf_valid] at h2
 refine h2.mono ?_
 rintro en w5 ⟨rfl, hc5⟩
 rw [show errVal E none = .nilIface from rfl]
 have hc05 := hc04.tr hc5
 have hb5 := hb4.keep hc5 NoB.elim
 have htab5 := tab_ascii htab hc05
 clear h2
 go_wp2_with fail
 have h3 := plain_any textB wsT w5 (by decide) (fun j b hb => by
  have h9 : ∀ x ∈ textB.data.toList, x.toNat < 128 := by decide +kernel
  exact h9 b (List.mem_of_getElem? hb)) htab5 fields_text (by decide) (by decide +kernel) plain_no (by decide +kernel)
 rw [plain_join] at h3
 unfold textB at h3
 refine h3.mono ?_
 rintro en w6 ⟨rfl, hc6⟩
 unfold lineB
 have hc06 := hc05.tr hc6
 have hb6 := hb5.keep hc6 NoB.elim
 clear h3
 have x0 : w6.cell? ⟨w3.heap.size, 0, none⟩ = some (.int .i64 (0)) := hb6.cell 0
 have x1 : w6.cell? ⟨w3.heap.size, 1, none⟩ = some (.string rootName) := hb6.cell 1
 have x2 : w6.cell? ⟨w3.heap.size, 2, none⟩ = some (.int .i64 (1)) := hb6.cell 2
 have x3 : w6.cell? ⟨w3.heap.size, 3, none⟩ = some (.int .i64 (0)) := hb6.cell 3
 have x4 : w6.cell? ⟨w3.heap.size, 4, none⟩ = some (.slice (some ⟨eb, off, none⟩) 1 cap) := hb6.cell 4
 have lx6 := hb6.lt
 have hc36 : Chg NoB w3 w6 := (hc4.tr hc5).tr hc6
 have e0 : w6.cell? ⟨eb, off, none⟩ = some (.int .i64 1) := (hc36.cell (p := ⟨eb, off, none⟩) hebw NoB.elim).trans (by simpa using hcells 0 _ rfl)
 have e1 : w6.cell? ⟨eb, off + 1, none⟩ = some (.string ⟨#[97]⟩) := (hc36.cell (p := ⟨eb, off + 1, none⟩) hebw NoB.elim).trans (by simpa using hcells 1 _ rfl)
 have e2 : w6.cell? ⟨eb, off + 2, none⟩ = some (.int .i64 1) := (hc36.cell (p := ⟨eb, off + 2, none⟩) hebw NoB.elim).trans (by simpa using hcells 2 _ rfl)
 have e3 : w6.cell? ⟨eb, off + 3, none⟩ = some (.int .i64 2) := (hc36.cell (p := ⟨eb, off + 3, none⟩) hebw NoB.elim).trans (by simpa using hcells 3 _ rfl)
 have e4 : w6.cell? ⟨eb, off + 4, none⟩ = some (.slice sa1 0 cap1) := (hc36.cell (p := ⟨eb, off + 4, none⟩) hebw NoB.elim).trans (by simpa using hcells 4 _ rfl)
 have hgl := hg.lt
 have hx6 := (hx1.keep (((((hc2.tr hc3).tr hc4).tr hc5).tr hc6)) NoB.elim)
 have q0 : w6.cell? ⟨w.heap.size, 0, none⟩ = some (.pointer (some ⟨gb, 0, none⟩)) := hx6.cell 0
 have lq := hx6.lt
 clear hcells hrd hrd' hl5
 go_wp2_with fail
 generalize hw7 : (w6.alloc _).alloc _ = w7
 have hc67 : Chg NoB w6 w7 := by
  rw [← hw7]
  repeat (first | exact Chg.refl _ _ | apply Chg.alloc | apply Chg.drew)
 have hn7 : Blk w7 w6.heap.size (ndCells 1 ⟨#[97]⟩ 1 2 (.slice sa1 0 cap1)) 28 := by rw [← hw7]; exact (Blk.newAt rfl).alloc _
 clear hw7 x0 x1 x2 x3 x4 e0 e1 e2 e3 e4 q0
 have hc07 := hc06.tr hc67
 have hz6 := hc06.size
 have hg7 := hg.keep hc07 NoB.elim
 have hx7 := hx6.keep hc67 NoB.elim
 have hr7 := hr1.keep (((((hc2.tr hc3).tr hc4).tr hc5).tr hc6).tr hc67) NoB.elim
 have hr1l := hr1.lt
 have hz16 : w1.heap.size ≤ w6.heap.size := ((((hc2.tr hc3).tr hc4).tr hc5).tr hc6).size
 refine (give_leaf w6.heap.size gb w.heap.size (w6.heap.size + 1) sa1 cap1 1 1 1 2 ⟨#[97]⟩ g0 g1 g2 g3 g4 w7 hn7 hg7 hx7 (by omega) (by omega)).mono ?_
 rintro en w8 ⟨rfl, hn8, hc78⟩
 rw [show (1 : Int) + (1 - 1) = 1 from rfl] at hn8
 have hg8 := hg7.keep hc78 (fun e => by have e : gb = w6.heap.size := e; omega)
 have hx8 := hx7.keep hc78 (fun e => by have e : w.heap.size = w6.heap.size := e; omega)
 have hr8 := hr7.keep hc78 (fun e => by have e : w.heap.size + 1 = w6.heap.size := e; omega)
 have hc08 : Chg NoB w w8 := hc07.trans' hc78 (fun y e => by have e : y = w6.heap.size := e; omega)
 have q0 : w8.cell? ⟨w.heap.size, 0, none⟩ = some (.pointer (some ⟨gb, 0, none⟩)) := hx8.cell 0
 have d5 : w8.cell? ⟨gb, 5, none⟩ = some (.int .i64 1) := hg8.cell 5
 clear hn7 hg7 hx7 hr7 hx6 hr1 hx1 hb6 hb5 hb4
 go_wp2_with fail
 refine (Hnum.out w8 hc08).mono ?_
 rintro en w9 ⟨rfl, hc9⟩
 unfold leafText
 have hn9 := hn8.keep hc9 NoB.elim
 have hg9 := hg8.keep hc9 NoB.elim
 have hx9 := hx8.keep hc9 NoB.elim
 have hr9 := hr8.keep hc9 NoB.elim
 have hc09 := hc08.tr hc9
 clear q0 d5 hn8 hg8 hx8 hr8
 have q0 : w9.cell? ⟨w.heap.size, 0, none⟩ = some (.pointer (some ⟨gb, 0, none⟩)) := hx9.cell 0
 have d5 : w9.cell? ⟨gb, 5, none⟩ = some (.int .i64 1) := hg9.cell 5
 have d5f : w9.frozen? ⟨gb, 5, none⟩ = false := hg9.free 5
 have hgn : gb ≠ w6.heap.size := by omega
 have hgr : gb ≠ w.heap.size + 1 := by omega
 have x0 : w9.cell? ⟨w6.heap.size, 0, none⟩ = some (.int .i64 (1)) := hn9.cell 0
 have x1 : w9.cell? ⟨w6.heap.size, 1, none⟩ = some (.string ⟨#[97]⟩) := hn9.cell 1
 have x2 : w9.cell? ⟨w6.heap.size, 2, none⟩ = some (.int .i64 (1)) := hn9.cell 2
 have x3 : w9.cell? ⟨w6.heap.size, 3, none⟩ = some (.int .i64 (2)) := hn9.cell 3
 have x4 : w9.cell? ⟨w6.heap.size, 4, none⟩ = some (.slice sa1 0 cap1) := hn9.cell 4
 have y0 : w9.cell? ⟨w.heap.size + 1, 0, none⟩ = some (.int .i64 (0)) := hr9.cell 0
 have y1 : w9.cell? ⟨w.heap.size + 1, 1, none⟩ = some (.string ⟨#[]⟩) := hr9.cell 1
 have y2 : w9.cell? ⟨w.heap.size + 1, 2, none⟩ = some (.int .i64 (0)) := hr9.cell 2
 have y3 : w9.cell? ⟨w.heap.size + 1, 3, none⟩ = some (.int .i64 (0)) := hr9.cell 3
 have y4 : w9.cell? ⟨w.heap.size + 1, 4, none⟩ = some (.slice none 0 0) := hr9.cell 4
 have z0 : w9.frozen? ⟨w.heap.size + 1, 0, none⟩ = false := hr9.free 0
 have z1 : w9.frozen? ⟨w.heap.size + 1, 1, none⟩ = false := hr9.free 1
 have z2 : w9.frozen? ⟨w.heap.size + 1, 2, none⟩ = false := hr9.free 2
 have z3 : w9.frozen? ⟨w.heap.size + 1, 3, none⟩ = false := hr9.free 3
 have z4 : w9.frozen? ⟨w.heap.size + 1, 4, none⟩ = false := hr9.free 4
 have hn9l := hn9.lt
 have hr9l := hr9.lt
 go_wp2_with fail
 have hr10 := hr9.other (p := ⟨gb, 5, none⟩) (fun e => hgr e.symm) (.int .i64 2)
 have hg10 := hg9.set 5 (.int .i64 2)
 have hc10 : Chg (OneB gb) w (w9.setCell ⟨gb, 5, none⟩ (.int .i64 2)) := (hc09.mono (D := OneB gb) (fun _ _ e => NoB.elim e)).setCell (p := ⟨gb, 5, none⟩) (.inl rfl) _
 have hr11 := store5 hr10 (.int .i64 1) (.string ⟨#[97]⟩) (.int .i64 1) (.int .i64 2) (.slice sa1 0 cap1)
 have hg11 := store5_other (b := w.heap.size + 1) hg10 hgr (.int .i64 1) (.string ⟨#[97]⟩) (.int .i64 1) (.int .i64 2) (.slice sa1 0 cap1)
 have hc11 := hc10.trans (store5_chg (w9.setCell ⟨gb, 5, none⟩ (.int .i64 2)) (w.heap.size + 1) (.int .i64 1) (.string ⟨#[97]⟩) (.int .i64 1) (.int .i64 2) (.slice sa1 0 cap1)) (fun y e => .inr (by have e : y = w.heap.size + 1 := e; omega))
 generalize World.setCell (World.setCell (World.setCell (World.setCell (World.setCell (w9.setCell ⟨gb, 5, none⟩ (.int .i64 2)) ⟨w.heap.size + 1, 0, none⟩ (.int .i64 1)) ⟨w.heap.size + 1, 1, none⟩ (.string ⟨#[97]⟩)) ⟨w.heap.size + 1, 2, none⟩ (.int .i64 1)) ⟨w.heap.size + 1, 3, none⟩ (.int .i64 2)) ⟨w.heap.size + 1, 4, none⟩ (.slice sa1 0 cap1) = w11 at hr11 hg11 hc11 ⊢
 have n0 : w11.cell? ⟨w.heap.size + 1, 0, none⟩ = some (.int .i64 (1)) := hr11.cell 0
 have n1 : w11.cell? ⟨w.heap.size + 1, 1, none⟩ = some (.string ⟨#[97]⟩) := hr11.cell 1
 have n2 : w11.cell? ⟨w.heap.size + 1, 2, none⟩ = some (.int .i64 (1)) := hr11.cell 2
 have n3 : w11.cell? ⟨w.heap.size + 1, 3, none⟩ = some (.int .i64 (2)) := hr11.cell 3
 have n4 : w11.cell? ⟨w.heap.size + 1, 4, none⟩ = some (.slice sa1 0 cap1) := hr11.cell 4
 refine bodyPost_ret (v := .tuple #[.agg #[.int .i64 1, .string ⟨#[97]⟩, .int .i64 1, .int .i64 2, .slice sa1 0 cap1], .bool true]) (by simp [results, Tryz.results90, go_sem, n0, n1, n2, n3, n4]) rfl ?_
 exact ⟨⟨sa1, cap1, hsa, rfl⟩, hg11, hc11⟩
end Go.Proofs.YtgcmfpcgmkkobaaGreatDoor
