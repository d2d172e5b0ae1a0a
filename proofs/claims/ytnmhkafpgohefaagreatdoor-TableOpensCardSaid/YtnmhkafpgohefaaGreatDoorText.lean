/-
  schema.Text: what is written of a right schema.
-/
import Derived.Test.YtnmhkafpgohefaaGreatDoorValid
import Derived.Test.YtnmhkafpgohefaaGreatDoorTreeMore
import Derived.Lib.ItoaNum
import Derived.Lib.LaidTab
set_option linter.unusedVariables false
set_option maxHeartbeats 20000000
set_option maxRecDepth 100000
set_option linter.unusedSimpArgs false
namespace Go.Proofs.YtnmhkafpgohefaaGreatDoor
open Go.RowKit
def repT : List ByteArray := [⟨#[]⟩, ⟨#[114, 101, 113, 117, 105, 114, 101, 100]⟩, ⟨#[111, 112, 116, 105, 111, 110, 97, 108]⟩, ⟨#[114, 101, 112, 101, 97, 116, 101, 100]⟩]
def kindT : List ByteArray := [⟨#[103, 114, 111, 117, 112]⟩, ⟨#[98, 111, 111, 108]⟩, ⟨#[105, 110, 116]⟩, ⟨#[108, 111, 110, 103]⟩, ⟨#[98, 121, 116, 101, 115]⟩, ⟨#[100, 111, 117, 98, 108, 101]⟩]
def repS (r : Int) : List UInt8 := (repT.getD r.toNat ⟨#[]⟩).data.toList
def kindS (k : Int) : List UInt8 := (kindT.getD k.toNat ⟨#[]⟩).data.toList
def headS (i : Int) (nm : ByteArray) (r k : Int) (ind : List UInt8) : List UInt8 := ind ++ repS r ++ [32] ++ kindS k ++ [32] ++ nm.data.toList ++ [32, 35] ++ Lib.itoa i
mutual
def textN : Nd → List UInt8 → List UInt8
 | .mk i nm r k s, ind => headS i nm r k ind ++ (if k = 0 then [32, 123, 10] ++ textL s (ind ++ [32, 32]) ++ (ind ++ [125, 10]) else [59, 10])
def textL : List Nd → List UInt8 → List UInt8
 | [], _ => []
 | n :: ns, ind => textN n ind ++ textL ns ind
end
theorem textL_append : ∀ (l m : List Nd) (ind : List UInt8), textL (l ++ m) ind = textL l ind ++ textL m ind
 | [], m, ind => rfl
 | n :: ns, m, ind => by simp only [List.cons_append, textL, textL_append ns m ind, List.append_assoc]
mutual
def Nd.fine : Nd → Prop
 | .mk _ _ r k s => 1 ≤ r ∧ r ≤ 3 ∧ 0 ≤ k ∧ k ≤ 5 ∧ Nd.fines s
def Nd.fines : List Nd → Prop
 | [] => True
 | n :: ns => n.fine ∧ Nd.fines ns
end
theorem Nd.fines_mem : ∀ {l : List Nd}, Nd.fines l → ∀ n ∈ l, n.fine
 | [], _, n, h => by cases h
 | x :: xs, h, n, hn => by
  rcases List.mem_cons.1 hn with rfl | hn
  ·exact h.1
  ·exact Nd.fines_mem h.2 n hn
structure Tabs (B : Nat) (w : World) : Prop where
 below : 11 < B ∧ 12 < B ∧ 18 < B
 reps : ∀ i s, repT[i]? = some s → w.cell? ⟨11, i, none⟩ = some (.string s)
 kinds : ∀ i s, kindT[i]? = some s → w.cell? ⟨12, i, none⟩ = some (.string s)
 pow : Lib.TabIs Tryz.prog w "internal/strconv.uint64pow10" .u64 Lib.pow10Tab
theorem pow_at : Tryz.prog.globalNamed "internal/strconv.uint64pow10" = some 18 := by kernel_rfl
theorem Tabs.keep {B : Nat} {C : Nat → Prop} {w w' : World} (h : Tabs B w) (hc : Chg C w w') (hC : ∀ b, b < B → ¬ C b) : Tabs B w' := by
 refine ⟨h.below, fun i s hi => ?_, fun i s hi => ?_, ?_⟩
 ·have h1 := h.reps i s hi
  exact (hc.cell (lt_of_cell h1) (hC _ h.below.1)).trans h1
 ·have h1 := h.kinds i s hi
  exact (hc.cell (lt_of_cell h1) (hC _ h.below.2.1)).trans h1
 ·have h1 := h.pow
  unfold Lib.TabIs World.var? at h1 ⊢
  rw [pow_at] at h1 ⊢
  simp only [Option.bind_some] at h1 ⊢
  cases hb : w.heap[18]? with
  | none => rw [hb] at h1; simp at h1
  | some o =>
   rw [hc.block _ (lt_of_block hb) (hC _ h.below.2.2)]
   exact h1
theorem Tabs.keep0 {B : Nat} {w w' : World} (h : Tabs B w) (hc : Chg NoB w w') : Tabs B w' := h.keep hc (fun _ _ => nbE)
theorem Tabs.rows {B b : Nat} {w0 w w' : World} (h : Tabs B w) (hc : Chg (RowsOf w0 5 B b) w w') : Tabs B w' := h.keep hc (fun k hk h2 => by have := h2.1; omega)
def writer (b q : Nat) : Value := .func (.func 153) #[] #[.pointer (some ⟨b, 0, none⟩), .pointer (some ⟨q, 0, none⟩)]
def RetB (B b : Nat) (bs : List Value) (w : World) (en : Ending) (w' : World) : Prop := en = .returned (.tuple #[]) ∧ IsB B b bs w' ∧ Chg (RowsOf w 5 B b) w w'
theorem chg_grow {C : Nat → Prop} {w w' : World} (h : ∃ k os, w' = Go.Sort.grow (w.drewN k) os) : Chg C w w' := by
 obtain ⟨k, os, rfl⟩ := h
 refine ⟨rfl, rfl, rfl, ?_, fun i hi _ => ?_⟩
 ·show w.heap.size ≤ (w.heap ++ os).size
  simp
 ·show (w.heap ++ os)[i]? = w.heap[i]?
  rw [Array.getElem?_append_left hi]
theorem bsize1 (a : UInt8) : (⟨#[a]⟩ : ByteArray).size = 1 := rfl
theorem bsize2 (a b : UInt8) : (⟨#[a, b]⟩ : ByteArray).size = 2 := rfl
theorem bsize3 (a b c : UInt8) : (⟨#[a, b, c]⟩ : ByteArray).size = 3 := rfl
theorem length_data (s : ByteArray) : s.data.toList.length = s.size := Array.length_toList
theorem getD_some {α : Type} {l : List α} {i : Nat} {d x : α} (h : l[i]? = some x) : l.getD i d = x := by simp [List.getD, h]
def TextRel (w : World) (B b q : Nat) (cells : List Value) (s : List Nd) (ind : List UInt8) (bs : List UInt8) (vi : Value) (wr : World) : Prop :=
 ∃ j, j ≤ s.length ∧ vi = .int .i64 (j : Nat) ∧ IsB B b (Lib.byteCells (bs ++ textL (s.take j) ind)) wr ∧ Chg (RowsOf w 5 B b) w wr ∧ Blk wr w.heap.size cells 56 ∧ Blk wr q [writer b q] 246 ∧ Tabs B wr
theorem text1_any : ∀ (m : Nat) (nd : Nd) (w : World) (B b q : Nat) (S : Nat → Prop) (cs : List Value) (ind : ByteArray) (bs : List UInt8), nd.weigh ≤ m → Nd.fines nd.sub → nd.ok → Reads w S nd.dt cs →
  (∀ b, S b → b < B) → B ≤ w.heap.size → IsB B b (Lib.byteCells bs) w → q ≠ b → Blk w q [writer b q] 246 → Tabs B w → bs.length + (textL nd.sub ind.data.toList).length ≤ 140737488355328 →
  Calls Tryz.prog 153 #[.agg cs.toArray, .string ind, .pointer (some ⟨b, 0, none⟩), .pointer (some ⟨q, 0, none⟩)] w (RetB B b (Lib.byteCells (bs ++ textL nd.sub ind.data.toList)) w) := by
 have he := enters_of Tryz.func153 (P := Tryz.prog) (by kernel_rfl) rfl
 intro m
 induction m with
 | zero => intro nd w B b q S cs ind bs hm; cases nd; simp [Nd.weigh] at hm
 | succ m ih =>
  intro nd w B b q S cs ind bs hm hfine hok hr hSB hBw hb hqb hq hT hlenB
  obtain ⟨i, n, r, k, s⟩ := nd
  obtain ⟨sv, rfl, hs⟩ := reads_nd.1 hr
  obtain ⟨sa, cap, rfl, hlen, hcap, hel⟩ := reads_subs hs
  obtain ⟨hi, hn, hrr, hk, hsl, hoks⟩ := hok
  have Hih := Lib.hid ih
  clear ih
  unfold reach at hsl
  replace hlenB : bs.length + (textL s ind.data.toList).length ≤ 140737488355328 := hlenB
  show Calls _ _ _ _ (RetB B b (Lib.byteCells (bs ++ textL s ind.data.toList)) w)
  go_enter Tryz.func153, Tryz.ntmps153
  go_wp2_with fail
  generalize hw1 : w.alloc _ = w1
  have hc1 : Chg NoB w w1 := by
   rw [← hw1]
   repeat (first | exact Chg.refl _ _ | apply Chg.alloc | apply Chg.drew)
  have hb1 : Blk w1 (w.heap.size) (ndCells i n r k (.slice sa s.length cap)) 56 := by
   rw [← hw1]
   repeat (first | exact Blk.newAt (by first | rfl | (simp; done) | (simp; omega)) | apply Blk.alloc | apply Blk.drew)
  clear hw1
  go_loopw [11] (fun vi wr => TextRel w B b q (ndCells i n r k (.slice sa s.length cap)) s ind.data.toList bs vi wr) (fun vi _ => s.length - (intOf vi).toNat)
  case atStart =>
   refine ⟨0, Nat.zero_le _, rfl, ?_, hc1.mono (fun _ _ e => nbE e), hb1, hq.keep hc1 nbE, hT.keep0 hc1⟩
   simp only [List.take_zero, textL, List.append_nil]
   exact hb.keep0 hc1
  case round =>
   obtain ⟨j, hj, rfl, hbj, hcj, hnj, hqj, hTj⟩ := hrel
   have hszj := hnj.lt
   have c4 : wr.cell? ⟨w.heap.size, 4, none⟩ = some (.slice sa s.length cap) := hnj.cell 4
   by_cases hlt : j < s.length
   ·obtain ⟨b', off, rfl, hSb, hbw, hE⟩ := hel (by omega)
    obtain ⟨ecs, hl5, hcells, hre⟩ := hE.get j s[j].dt (by simp [hlt])
    have hmem : s[j] ∈ s := List.getElem_mem hlt
    have hwj := Nd.weigh_mem hmem
    have hokj := Nd.oks_mem hoks _ hmem
    have hfj := Nd.fines_mem hfine _ hmem
    have htake1 : s.take (j + 1) = s.take j ++ [s[j]] := List.take_succ_eq_append_getElem hlt
    have hsum : textL s ind.data.toList = textL (s.take j) ind.data.toList ++ textN s[j] ind.data.toList ++ textL (s.drop (j + 1)) ind.data.toList := by
     conv => lhs; rw [← List.take_append_drop (j + 1) s, textL_append, htake1, textL_append]
     simp [textL]
    generalize s[j] = nj at hre hwj hokj hfj htake1 hsum
    have Htake1 := Lib.hid htake1
    have Hsum := Lib.hid hsum
    have hsl2 := congrArg List.length hsum
    simp only [List.length_append] at hsl2
    clear htake1 hsum
    obtain ⟨i1, n1, r1, k1, s1⟩ := nj
    obtain ⟨v1, rfl, hs1⟩ := reads_nd.1 hre
    obtain ⟨sa1, cap1, rfl, _, _, _⟩ := reads_subs hs1
    obtain ⟨f1, f2, f3, f4, hf1⟩ := hfj
    obtain ⟨rn, rfl⟩ := Int.eq_ofNat_of_zero_le (show 0 ≤ r1 by omega)
    obtain ⟨kn, rfl⟩ := Int.eq_ofNat_of_zero_le f3
    have hrn : rn < 4 := by omega
    have hkn : kn < 6 := by omega
    obtain ⟨rs, hrs⟩ : ∃ rs, repT[rn]? = some rs := ⟨_, List.getElem?_eq_getElem (show rn < repT.length from hrn)⟩
    obtain ⟨ks, hks⟩ : ∃ ks, kindT[kn]? = some ks := ⟨_, List.getElem?_eq_getElem (show kn < kindT.length from hkn)⟩
    have hrS : repS (rn : Int) = rs.data.toList := by unfold repS; rw [Int.toNat_natCast, getD_some hrs]
    have hkS : kindS (kn : Int) = ks.data.toList := by unfold kindS; rw [Int.toNat_natCast, getD_some hks]
    have hhead : headS i1 n1 rn kn ind.data.toList = ind.data.toList ++ rs.data.toList ++ [32] ++ ks.data.toList ++ [32] ++ n1.data.toList ++ [32, 35] ++ Lib.itoa i1 := by unfold headS; rw [hrS, hkS]
    have hhl := congrArg List.length hhead
    simp only [List.length_append, length_data, List.length_cons, List.length_nil] at hhl
    have hNl : (headS i1 n1 rn kn ind.data.toList).length ≤ (textN (.mk i1 n1 rn kn s1) ind.data.toList).length := by simp [textN]
    have hbound : bs.length + (textL (s.take j) ind.data.toList).length + (ind.size + rs.size + ks.size + n1.size + 4 + (Lib.itoa i1).length) ≤ 140737488355328 := by omega
    have Hhead := Lib.hid hhead
    have hheadL : bs.length + (textL (s.take j) ind.data.toList).length + (headS i1 n1 rn kn ind.data.toList).length ≤ 140737488355328 := by omega
    have hNb : bs.length + (textL (s.take j) ind.data.toList).length + (textN (.mk i1 n1 rn kn s1) ind.data.toList).length ≤ 140737488355328 := by omega
    clear hrS hkS hhead hhl hNl hsl2
    have hcw : ∀ {x : Nat}, S x → ¬ RowsOf w 5 B b x := fun hx hy => by have := hSB _ hx; have := hy.1; omega
    have hf : ∀ t c, [Value.int .i64 i1, .string n1, .int .i64 (rn : Int), .int .i64 (kn : Int), .slice sa1 s1.length cap1][t]? = some c → wr.cell? ⟨b', off + j * 5 + t, none⟩ = some c := fun t c ht => (hcj.cell (p := ⟨b', off + j * 5 + t, none⟩) hbw (hcw hSb)).trans (hcells t c ht)
    have e0 : wr.cell? ⟨b', off + j * 5, none⟩ = some (.int .i64 i1) := hf 0 _ rfl
    have e1 : wr.cell? ⟨b', off + j * 5 + 1, none⟩ = some (.string n1) := hf 1 _ rfl
    have e2 : wr.cell? ⟨b', off + j * 5 + 2, none⟩ = some (.int .i64 (rn : Int)) := hf 2 _ rfl
    have e3 : wr.cell? ⟨b', off + j * 5 + 3, none⟩ = some (.int .i64 (kn : Int)) := hf 3 _ rfl
    have e4 : wr.cell? ⟨b', off + j * 5 + 4, none⟩ = some (.slice sa1 s1.length cap1) := hf 4 _ rfl
    clear hf
    go_wp2_with fail
    generalize hw2 : wr.alloc _ = w2
    have hc2 : Chg NoB wr w2 := by
     rw [← hw2]
     repeat (first | exact Chg.refl _ _ | apply Chg.alloc | apply Chg.drew)
    have hb2 : Blk w2 (wr.heap.size) (ndCells i1 n1 rn kn (.slice sa1 s1.length cap1)) 56 := by
     rw [← hw2]
     repeat (first | exact Blk.newAt (by first | rfl | (simp; done) | (simp; omega)) | apply Blk.alloc | apply Blk.drew)
    clear hw2
    have hT2 := hTj.keep0 hc2
    have t1 := hT2.reps rn rs hrs
    have t2 := hT2.kinds kn ks hks
    have d0 : w2.cell? ⟨wr.heap.size, 0, none⟩ = some (.int .i64 (i1)) := hb2.cell 0
    have d1 : w2.cell? ⟨wr.heap.size, 1, none⟩ = some (.string n1) := hb2.cell 1
    have d2 : w2.cell? ⟨wr.heap.size, 2, none⟩ = some (.int .i64 (rn)) := hb2.cell 2
    have d3 : w2.cell? ⟨wr.heap.size, 3, none⟩ = some (.int .i64 (kn)) := hb2.cell 3
    have d4 : w2.cell? ⟨wr.heap.size, 4, none⟩ = some (.slice sa1 s1.length cap1) := hb2.cell 4
    refine wp_region_n (fun w' => w'.cell? ⟨wr.heap.size, 0, none⟩ = some (.int .i64 i1) ∧ w'.cell? ⟨wr.heap.size, 1, none⟩ = some (.string n1) ∧ w'.cell? ⟨wr.heap.size, 2, none⟩ = some (.int .i64 (rn : Int)) ∧ w'.cell? ⟨wr.heap.size, 3, none⟩ = some (.int .i64 (kn : Int)) ∧ w'.cell? ⟨11, rn, none⟩ = some (.string rs) ∧ w'.cell? ⟨12, kn, none⟩ = some (.string ks)) [] (by kernel_rfl) ?_ (fun hSh => ?_)
    ·exact ⟨d0, d1, d2, d3, t1, t2⟩
    have hrn4 : (rn : Int) < 4 := by omega
    have hkn6 : (kn : Int) < 6 := by omega
    refine n_from 0 ?_
    intro htk
    iterate 3
     refine n_tB (v := ?_) htk rfl (Or.inl ⟨by rfl, ?_⟩) ?_
     rotate_left 1
     ·(intro w' hSw; (try dsimp only at hSw); go_simp; try with_reducible rfl)
     clear htk
     intro htk
     simp only [Nat.reduceAdd] at htk
     simp only [Act.put, qA, qB, qC, qD, qE, qF]
    clear htk
    refine n_tA (v := ?_) 3 rfl (Or.inl ⟨by rfl, ?_⟩) ?_
    rotate_left 1
    ·(intro w' hSw; (try dsimp only at hSw); go_simp; (try simp only [if_pos hrn4]); try with_reducible rfl)
    simp only [Act.put, qA, qB, qC, qD, qE, qF]
    refine n_tA (v := ?_) 4 rfl (Or.inl ⟨by rfl, ?_⟩) ?_
    rotate_left 1
    ·(intro w' hSw; (try dsimp only at hSw); go_simp; try with_reducible rfl)
    simp only [Act.put, qA, qB, qC, qD, qE, qF]
    refine n_tA (v := ?_) 5 rfl (Or.inl ⟨by rfl, ?_⟩) ?_
    rotate_left 1
    ·(intro w' hSw; (try dsimp only at hSw); go_simp; rw [if_neg (by (try simp only [ByteArray.size_append, bsize1, bsize2]); omega)])
    simp only [Act.put, qA, qB, qC, qD, qE, qF]
    refine n_tA (v := ?_) 6 rfl (Or.inl ⟨by rfl, ?_⟩) ?_
    rotate_left 1
    ·(intro w' hSw; (try dsimp only at hSw); go_simp; rw [if_neg (by (try simp only [ByteArray.size_append, bsize1, bsize2]); omega)])
    simp only [Act.put, qA, qB, qC, qD, qE, qF]
    refine n_tA (v := ?_) 7 rfl (Or.inl ⟨by rfl, ?_⟩) ?_
    rotate_left 1
    ·(intro w' hSw; (try dsimp only at hSw); go_simp; try with_reducible rfl)
    simp only [Act.put, qA, qB, qC, qD, qE, qF]
    refine n_tA (v := ?_) 8 rfl (Or.inl ⟨by rfl, ?_⟩) ?_
    rotate_left 1
    ·(intro w' hSw; (try dsimp only at hSw); go_simp; try with_reducible rfl)
    simp only [Act.put, qA, qB, qC, qD, qE, qF]
    refine n_tA (v := ?_) 9 rfl (Or.inl ⟨by rfl, ?_⟩) ?_
    rotate_left 1
    ·(intro w' hSw; (try dsimp only at hSw); go_simp; (try simp only [if_pos hkn6]); try with_reducible rfl)
    simp only [Act.put, qA, qB, qC, qD, qE, qF]
    refine n_tA (v := ?_) 10 rfl (Or.inl ⟨by rfl, ?_⟩) ?_
    rotate_left 1
    ·(intro w' hSw; (try dsimp only at hSw); go_simp; try with_reducible rfl)
    simp only [Act.put, qA, qB, qC, qD, qE, qF]
    refine n_tA (v := ?_) 11 rfl (Or.inl ⟨by rfl, ?_⟩) ?_
    rotate_left 1
    ·(intro w' hSw; (try dsimp only at hSw); go_simp; rw [if_neg (by (try simp only [ByteArray.size_append, bsize1, bsize2]); omega)])
    simp only [Act.put, qA, qB, qC, qD, qE, qF]
    refine n_tA (v := ?_) 12 rfl (Or.inl ⟨by rfl, ?_⟩) ?_
    rotate_left 1
    ·(intro w' hSw; (try dsimp only at hSw); go_simp; rw [if_neg (by (try simp only [ByteArray.size_append, bsize1, bsize2]); omega)])
    simp only [Act.put, qA, qB, qC, qD, qE, qF]
    refine n_tA (v := ?_) 13 rfl (Or.inl ⟨by rfl, ?_⟩) ?_
    rotate_left 1
    ·(intro w' hSw; (try dsimp only at hSw); go_simp; try with_reducible rfl)
    simp only [Act.put, qA, qB, qC, qD, qE, qF]
    refine n_tA (v := ?_) 14 rfl (Or.inl ⟨by rfl, ?_⟩) ?_
    rotate_left 1
    ·(intro w' hSw; (try dsimp only at hSw); go_simp; try with_reducible rfl)
    simp only [Act.put, qA, qB, qC, qD, qE, qF]
    refine n_tA (v := ?_) 15 rfl (Or.inl ⟨by rfl, ?_⟩) ?_
    rotate_left 1
    ·(intro w' hSw; (try dsimp only at hSw); go_simp; rw [if_neg (by (try simp only [ByteArray.size_append, bsize1, bsize2]); omega)])
    simp only [Act.put, qA, qB, qC, qD, qE, qF]
    refine n_tA (v := ?_) 16 rfl (Or.inl ⟨by rfl, ?_⟩) ?_
    rotate_left 1
    ·(intro w' hSw; (try dsimp only at hSw); go_simp; rw [if_neg (by (try simp only [ByteArray.size_append, bsize1, bsize2]); omega)])
    simp only [Act.put, qA, qB, qC, qD, qE, qF]
    refine n_tA (v := ?_) 17 rfl (Or.inl ⟨by rfl, ?_⟩) ?_
    rotate_left 1
    ·(intro w' hSw; (try dsimp only at hSw); go_simp; try with_reducible rfl)
    simp only [Act.put, qA, qB, qC, qD, qE, qF]
    refine n_tA (v := ?_) 18 rfl (Or.inl ⟨by rfl, ?_⟩) ?_
    rotate_left 1
    ·(intro w' hSw; (try dsimp only at hSw); go_simp; try with_reducible rfl)
    simp only [Act.put, qA, qB, qC, qD, qE, qF]
    refine n_step 19 rfl (by kernel_rfl) ?_
    go_wp2_with fail
    refine (Tryz.strconv_Itoa i1 hokj.1.1 hokj.1.2 _ (hT2.keep0 (Chg.refl _ _).drew).pow).mono ?_
    rintro en w3 ⟨rfl, hg3⟩
    have hc3 : Chg NoB w2 w3 := (chg_grow (C := NoB) hg3).ofDrew
    clear hg3
    go_wp2_with fail
    have hn3 := hb2.keep hc3 nbE
    have hT3 := hT2.keep0 hc3
    refine ⟨fun _ => ⟨hn3.cell 0, hn3.cell 1, hn3.cell 2, hn3.cell 3, hT3.reps rn rs hrs, hT3.kinds kn ks hks⟩, fun hSk => ?_⟩
    replace hSk := hSk (by rfl)
    have hsI : (⟨(Lib.itoa i1).toArray⟩ : ByteArray).size = (Lib.itoa i1).length := by simp [ByteArray.size]
    refine n_tA (v := ?_) 20 rfl (Or.inl ⟨by rfl, ?_⟩) ?_
    rotate_left 1
    ·(intro w' hSw; (try dsimp only at hSw); go_simp; rw [if_neg (by (try simp only [ByteArray.size_append, bsize1, bsize2]); omega)])
    simp only [Act.put, qA, qB, qC, qD, qE, qF]
    refine n_step 21 rfl (by kernel_rfl) ?_
    go_wp2_with fail
    generalize hstr : ind ++ rs ++ _ ++ ks ++ _ ++ n1 ++ _ ++ _ = str
    have hstrS : str.data.toList = headS i1 n1 rn kn ind.data.toList := by
     rw [Hhead.out, ← hstr]
     simp only [ByteArray.data_append, Array.toList_append]
    clear hstr
    have hstrL : str.size = (headS i1 n1 rn kn ind.data.toList).length := by rw [← hstrS, length_data]
    have hb3 := (hbj.keep0 hc2).keep0 hc3
    refine (writeString_any B b _ str w3 hb3 ?_ ?_).mono ?_
    ·simp only [Lib.byteCells, List.length_map, List.length_append]
     rw [hstrL]
     omega
    ·have := hcj.size; have := hc2.size; have := hc3.size; omega
    rintro en w4 ⟨rfl, hb4, hc4⟩
    go_wp2_with fail
    have hblt : b < w.heap.size := IsB.lt hb
    have hn4 := hn3.rows hc4 (by omega) (by decide)
    have hT4 := hT3.rows hc4
    have hnj4 := ((hnj.keep hc2 nbE).keep hc3 nbE).rows hc4 (by omega) (by decide)
    have hqj4 := ((hqj.keep hc2 nbE).keep hc3 nbE).rows hc4 hqb (by decide)
    have hcj4 : Chg (RowsOf w 5 B b) w w4 := hcj.rows (hc2.rows0 (hc3.rows0 hc4))
    have hsz4 := hcj4.size
    refine ⟨fun _ => ⟨hn4.cell 0, hn4.cell 1, hn4.cell 2, hn4.cell 3, hT4.reps rn rs hrs, hT4.kinds kn ks hks⟩, fun hSk => ?_⟩
    replace hSk := hSk (by rfl)
    refine n_done (by kernel_rfl) ?_
    have hbs4 : Lib.byteCells (bs ++ textL (s.take j) ind.data.toList) ++ Lib.strCells str = Lib.byteCells (bs ++ textL (s.take j) ind.data.toList ++ headS i1 n1 rn kn ind.data.toList) := by
     simp only [Lib.byteCells, Lib.strCells, hstrS, List.map_append]
    rw [hbs4] at hb4
    clear hbs4 hSh hSk
    have u0 : w4.cell? ⟨wr.heap.size, 0, none⟩ = some (.int .i64 (i1)) := hn4.cell 0
    have u1 : w4.cell? ⟨wr.heap.size, 1, none⟩ = some (.string n1) := hn4.cell 1
    have u2 : w4.cell? ⟨wr.heap.size, 2, none⟩ = some (.int .i64 (rn)) := hn4.cell 2
    have u3 : w4.cell? ⟨wr.heap.size, 3, none⟩ = some (.int .i64 (kn)) := hn4.cell 3
    have u4 : w4.cell? ⟨wr.heap.size, 4, none⟩ = some (.slice sa1 s1.length cap1) := hn4.cell 4
    by_cases hk0 : kn = 0
    ·subst hk0
     have hN : textN (.mk i1 n1 rn ((0 : Nat) : Int) s1) ind.data.toList = headS i1 n1 rn ((0 : Nat) : Int) ind.data.toList ++ [32, 123, 10] ++ textL s1 (ind.data.toList ++ [32, 32]) ++ (ind.data.toList ++ [125, 10]) := by
      simp [textN]
     have hNl := congrArg List.length hN
     simp only [List.length_append, List.length_cons, List.length_nil, length_data] at hNl
     have HN := Lib.hid hN
     clear hN
     go_wp2_with fail
     refine (writeString_any B b _ ⟨#[32, 123, 10]⟩ w4 hb4 ?_ (by omega)).mono ?_
     ·simp only [Lib.byteCells, List.length_map, List.length_append]
      rw [bsize3]
      omega
     rintro en w5 ⟨rfl, hb5, hc5⟩
     have hn5 := hn4.rows hc5 (by omega) (by decide)
     have hT5 := hT4.rows hc5
     have hnj5 := hnj4.rows hc5 (by omega) (by decide)
     have hqj5 := hqj4.rows hc5 hqb (by decide)
     have hcj5 := hcj4.rows hc5
     have hsz5 := hcj5.size
     have hbs5 : Lib.byteCells (bs ++ textL (s.take j) ind.data.toList ++ headS i1 n1 rn ((0 : Nat) : Int) ind.data.toList) ++ Lib.strCells ⟨#[32, 123, 10]⟩ = Lib.byteCells (bs ++ textL (s.take j) ind.data.toList ++ headS i1 n1 rn ((0 : Nat) : Int) ind.data.toList ++ [32, 123, 10]) := by
      simp only [Lib.byteCells, Lib.strCells, List.map_append]
     rw [hbs5] at hb5
     have q0 : w5.cell? ⟨q, 0, none⟩ = some (writer b q) := hqj5.cell 0
     unfold writer at q0
     have y0 : w5.cell? ⟨wr.heap.size, 0, none⟩ = some (.int .i64 (i1)) := hn5.cell 0
     have y1 : w5.cell? ⟨wr.heap.size, 1, none⟩ = some (.string n1) := hn5.cell 1
     have y2 : w5.cell? ⟨wr.heap.size, 2, none⟩ = some (.int .i64 (rn)) := hn5.cell 2
     have y3 : w5.cell? ⟨wr.heap.size, 3, none⟩ = some (.int .i64 (((0 : Nat) : Int))) := hn5.cell 3
     have y4 : w5.cell? ⟨wr.heap.size, 4, none⟩ = some (.slice sa1 s1.length cap1) := hn5.cell 4
     go_wp2_with fail
     have hind2 : (ind ++ (⟨#[32, 32]⟩ : ByteArray)).data.toList = ind.data.toList ++ [32, 32] := by simp only [ByteArray.data_append, Array.toList_append]
     refine (Hih.out (.mk i1 n1 rn ((0 : Nat) : Int) s1) w5 B b q S _ (ind ++ (⟨#[32, 32]⟩ : ByteArray)) (bs ++ textL (s.take j) ind.data.toList ++ headS i1 n1 rn ((0 : Nat) : Int) ind.data.toList ++ [32, 123, 10]) ?_ hf1 hokj (hre.chg hcj5 (fun _ hb => hcw hb)) hSB (by omega) hb5 hqb hqj5 hT5 ?_).mono ?_
     ·simp only [Nd.weigh] at hm hwj ⊢; omega
     ·simp only [Nd.sub, hind2, List.length_append, List.length_cons, List.length_nil]
      omega
     rintro en w6 ⟨rfl, hb6, hc6⟩
     rw [hind2] at hb6
     simp only [Nd.sub] at hb6
     have hn6 := hn5.rows hc6 (by omega) (by decide)
     have hT6 := hT5.rows hc6
     have hnj6 := hnj5.rows hc6 (by omega) (by decide)
     have hqj6 := hqj5.rows hc6 hqb (by decide)
     have hcj6 := hcj5.rows hc6
     have hsz6 := hcj6.size
     go_wp2_with fail
     refine (writeString_any B b _ (ind ++ (⟨#[125, 10]⟩ : ByteArray)) w6 hb6 ?_ (by omega)).mono ?_
     ·simp only [Lib.byteCells, List.length_map, List.length_append, List.length_cons, List.length_nil]
      rw [ByteArray.size_append, bsize2]
      omega
     rintro en w7 ⟨rfl, hb7, hc7⟩
     go_wp2_with fail
     go_roundw
     case rel =>
      refine ⟨j + 1, hlt, by go_num, ?_, hcj6.rows hc7, hnj6.rows hc7 (by omega) (by decide), hqj6.rows hc7 hqb (by decide), hT6.rows hc7⟩
      rw [Htake1.out, textL_append]
      simp only [textL, List.append_nil, HN.out]
      simpa only [Lib.byteCells, Lib.strCells, List.map_append, List.append_assoc, ByteArray.data_append, Array.toList_append] using hb7
     case measure => simp [intOf]; omega
    ·have hkne : ((kn : Int) != 0) = true := by simpa using hk0
     have hN : textN (.mk i1 n1 rn kn s1) ind.data.toList = headS i1 n1 rn kn ind.data.toList ++ [59, 10] := by
      have : (kn : Int) ≠ 0 := by simpa using hk0
      simp only [textN, if_neg this]
     have hNl := congrArg List.length hN
     simp only [List.length_append, List.length_cons, List.length_nil] at hNl
     have HN := Lib.hid hN
     clear hN
     go_wp2_with fail
     refine (writeString_any B b _ ⟨#[59, 10]⟩ w4 hb4 ?_ (by omega)).mono ?_
     ·simp only [Lib.byteCells, List.length_map, List.length_append]
      rw [bsize2]
      omega
     rintro en w5 ⟨rfl, hb5, hc5⟩
     go_wp2_with fail
     go_roundw
     case rel =>
      refine ⟨j + 1, hlt, by go_num, ?_, hcj4.rows hc5, hnj4.rows hc5 (by omega) (by decide), hqj4.rows hc5 hqb (by decide), hT4.rows hc5⟩
      rw [Htake1.out, textL_append]
      simp only [textL, List.append_nil, HN.out]
      simpa only [Lib.byteCells, Lib.strCells, List.map_append, List.append_assoc] using hb5
     case measure => simp [intOf]; omega
   ·have hjs : s.take j = s := List.take_of_length_le (by omega)
    rw [hjs] at hbj
    go_wp2_with fail
    go_end0
    exact ⟨rfl, hbj, hcj⟩
end Go.Proofs.YtnmhkafpgohefaaGreatDoor
