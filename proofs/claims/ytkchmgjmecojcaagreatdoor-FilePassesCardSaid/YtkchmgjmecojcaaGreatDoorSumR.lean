/-
  A copy of a slice of ints (shredcollaw2.ints), and slices.Clone at []int.; file.numbers: numbers, one behind the other.; shredcolref1.Remainder: the sum of bytes, bit by bit.; file.entries: entries 1 and 2 of a footer.
-/
import Derived.Test.YtkchmgjmecojcaaGreatDoorSumC
import Derived.Lib.SliceRun
import Derived.Test.YtkchmgjmecojcaaGreatDoorTxtR
import Derived.Test.YtkchmgjmecojcaaGreatDoorRegion
set_option linter.unusedVariables false
set_option maxHeartbeats 20000000
set_option maxRecDepth 100000
set_option linter.unusedSimpArgs false
namespace Go.Proofs.YtkchmgjmecojcaaGreatDoor
open Go.RowKit
theorem infoInt1 : (Tryz.prog.info? 3).map (fun i => (i.zero, i.size, i.bytes)) = some (some (.int .i64 0), 1, 8) := by kernel_rfl
def intDt (x : Int) : Dt := .lit (.int .i64 x)
theorem news_of {w : World} {S : Nat → Prop} {k : Nat} {ds : List Dt} {v : Value} (h : Reads w S (.list k ds) [v]) :
  ∃ a c news, v = .slice a ds.length c ∧ ds.length ≤ c ∧ c ≤ maxLen ∧ ReadsC w S k ds news ∧ (∀ ad, a = some ad → ∀ j u, news[j]? = some u → w.cell? (ad.add j) = some u) ∧ (a = none → ds.length = 0 ∧ c = 0) := by
 obtain ⟨a, c, h0, h1, h2, h3⟩ := h
 have e : v = .slice a ds.length c := by simpa using h0
 subst e
 rcases h3 with ⟨rfl, h3⟩ | ⟨b, off, rfl, hS, hb, hE⟩
 ·exact ⟨a, c, [], rfl, h1, h2, rfl, fun _ _ j u hu => by simp at hu, fun e => ⟨rfl, h3 e⟩⟩
 ·obtain ⟨xs, hx, hc⟩ := hE.toC
  refine ⟨_, c, xs, rfl, h1, h2, hx, fun ad had j u hu => ?_, fun e => by cases e⟩
  obtain rfl := Option.some.inj had
  rw [show (⟨b, off, none⟩ : Addr).add j = ⟨b, off + j, none⟩ from by unfold Addr.add; split <;> simp_all]
  exact hc j u hu
theorem ints_news {w : World} {S : Nat → Prop} : ∀ {l : List Int} {xs : List Value}, ReadsC w S 1 (l.map intDt) xs → xs = l.map (Value.int .i64)
 | [], xs, h => h
 | x :: l, xs, h => by
  obtain ⟨c, r, rfl, _, h2, h3⟩ := h
  obtain ⟨rfl, _⟩ := (h2 : c = [.int .i64 x] ∧ _)
  rw [ints_news h3]; rfl
theorem ints_chunks (w : World) (S : Nat → Prop) : ∀ l : List Int, ReadsC w S 1 (l.map intDt) (l.map (Value.int .i64))
 | [] => rfl
 | x :: l => ⟨[.int .i64 x], _, rfl, rfl, ⟨rfl, rfl⟩, ints_chunks w S l⟩
theorem lt_of_at {w : World} {p : Addr} {v : Value} (h : w.cell? p = some v) : p.block < w.heap.size := by
 unfold World.cell? at h
 cases hb : w.heap[p.block]? with
 | none => rw [hb] at h; simp at h
 | some o => exact lt_of_block hb
theorem clone_any (l : List Int) (v : Value) (w : World) (S : Nat → Prop) (h : Reads w S (.list 1 (l.map intDt)) [v]) (hl : l.length * 8 ≤ 140737488355328) :
  Calls Tryz.prog 53 #[v] w fun e w' => ∃ v', e = .returned v' ∧ Own w' w.heap.size 3 1 (fun _ => False) v' (l.map intDt) ∧ Chg NoB w w' := by
 obtain ⟨a, c, news, rfl, hc1, hc2, hn, hcell, hnone⟩ := news_of h
 obtain rfl := ints_news hn
 have hlen : (l.map intDt).length = l.length := List.length_map ..
 have hq : ∀ (w : World) (a : Option Addr) (n c n' c' : Nat), (binOp .eql 65 (.slice a n c) (.slice none n' c')).run Tryz.prog w = .ok (.bool a.isNone) w := fun w a n c n' c' => Lib.run_eql_slice_nil w _ _ a n c n' c' Tryz.underlying65
 cases a with
 | none =>
  obtain ⟨h0, rfl⟩ := hnone rfl
  obtain rfl : l = [] := List.eq_nil_of_length_eq_zero (by omega)
  go_enter Tryz.func53, Tryz.ntmps53
  go_wp2_with fail
  go_ret
  exact ⟨_, rfl, Own.nil _ _ _ _ _, Chg.refl _ _⟩
 | some ad =>
  go_enter Tryz.func53, Tryz.ntmps53
  go_wp2_with (at_builtin; refine stop_here ?_)
  refine Stop.go ?_
  generalize hwA : w.alloc _ = wA
  have hcA : Chg NoB w wA := by
   rw [← hwA]
   repeat (first | exact Chg.refl _ _ | apply Chg.alloc | apply Chg.drew)
  have hoA : Own wA w.heap.size 3 1 (fun _ => False) (.slice (some ⟨w.heap.size, 0, none⟩) 0 0) [] := ⟨[], hwA ▸ World.ownsRow_made w #[] 0 (Nat.le_refl _) (Nat.zero_le _) rfl, rfl⟩
  clear hwA
  replace hcell : ∀ ad1, some ad = some ad1 → ∀ (j : Nat) (u : Value), (l.map (Value.int .i64))[j]? = some u → wA.cell? (ad1.add j) = some u := fun ad1 h1 j u hu => by
   have h2 := hcell ad1 h1 j u hu
   rw [← h2]
   exact hcA.cell (lt_of_at h2) nbE
  refine wpList_own rfl (.tmp 5) (.tmp 6) 65 rfl w.heap.size 3 Tryz.underlying65 infoInt1 rfl (by decide) rfl hoA rfl (l.map intDt) _ rfl (ints_chunks _ _ l) hcell (fun e => by cases e) ?_ ?_ hcA.size ?_
  ·simp [maxLen]; omega
  ·simp; omega
  intro ao2 cap2 wB hoB hcB hatB
  go_wp2_with fail
  go_ret
  simp only [List.length_nil, Nat.zero_add, List.nil_append, hlen] at hoB
  exact ⟨_, rfl, hoB, hcA.trans hcB (fun b e => .inr (Nat.le_of_eq (Option.some.inj e)))⟩
def natDt (n : Nat) : Dt := intDt (n : Int)
def RetNums (o : Option (List Nat)) (w : World) (en : Ending) (w' : World) : Prop :=
 Chg NoB w w' ∧ match o with
 | none => en = .returned (.tuple #[.slice none 0 0, .bool false])
 | some q => ∃ a c, en = .returned (.tuple #[.slice a q.length c, .bool true]) ∧ Reads w' (fun b => w.heap.size ≤ b) (.list 1 (q.map natDt)) [.slice a q.length c]
def NmRel (s0 : List UInt8) (w : World) (vs vl : Value) (wr : World) : Prop := ∃ (l : List UInt8) (m : Nat) (acc : List Nat), vs = .string ⟨l.toArray⟩ ∧ l.length < m ∧ l.length + acc.length ≤ s0.length ∧
 numsF (s0.length + 1) s0 = (numsF m l).map (acc ++ ·) ∧ Own wr w.heap.size 3 1 (fun _ => False) vl (acc.map natDt) ∧ Chg NoB w wr
theorem numbers_any (s : List UInt8) (w : World) (e : Value) (he : ∃ T v, e = .iface T v) (hce : w.cell? ⟨1, 0, none⟩ = some e) (hs : s.length ≤ 1000000000) :
  Calls Tryz.prog 64 #[.string ⟨s.toArray⟩] w (RetNums (numsF (s.length + 1) s) w) := by
 have hlt : (1 : Nat) < w.heap.size := lt_cell hce
 go_enter Tryz.func64, Tryz.ntmps64
 go_wp2_with fail
 go_loopw [0, 4] (NmRel s w) (fun vs _ _ => strL vs)
 case atStart => exact ⟨s, s.length + 1, [], rfl, by omega, by simp, by simp, Own.nil _ _ _ _ _, Chg.refl _ _⟩
 case round =>
  obtain ⟨l, m, acc, rfl, hm, hla, hres, hown, hc⟩ := hrel
  have Hres := Lib.hid hres
  clear hres
  obtain ⟨m, rfl⟩ : ∃ k, m = k + 1 := ⟨m - 1, by omega⟩
  by_cases hl : l = []
  ·subst hl
   obtain ⟨ao, cap, hform⟩ := hown.form
   subst hform
   go_wp2_with fail
   go_ret2
   refine ⟨hc, ?_⟩
   rw [Hres.out, nums_end]
   have hR := hown.reads (S' := fun b => w.heap.size ≤ b) (fun _ h => h.elim) (fun b hb _ => hb) (by simp [maxLen]; omega)
   simp only [Option.map_some, List.append_nil]
   rw [List.length_map] at hR ⊢
   exact ⟨ao, cap, rfl, hR⟩
  ·have hne : l.isEmpty = false := by simpa using hl
   have hceR := (hc.cell hlt nbE).trans hce
   obtain ⟨T, v, rfl⟩ := he
   have Hl := Lib.hid hl
   clear hl
   go_wp2_with fail
   refine (ruL_any l wr _ ⟨T, v, rfl⟩ hceR (by omega)).mono ?_
   rintro en w1 ⟨rfl, hc1⟩
   cases hsv : sev l with
   | none =>
    have H := Lib.hid hsv
    clear hsv
    simp only [sevV]
    go_wp2_with fail
    go_ret2
    refine ⟨hc.tr hc1, ?_⟩
    rw [Hres.out, nums_bad Hl.out H.out]
    rfl
   | some p =>
    obtain ⟨n, u⟩ := p
    obtain ⟨b1, b2, b3, b4⟩ := sev_some hsv
    have H := Lib.hid hsv
    clear hsv
    simp only [sevV]
    by_cases hn : 200000 < n
    ·have hn' : (200000 : Int) < (n : Int) := by omega
     go_wp2_with fail
     go_ret2
     refine ⟨hc.tr hc1, ?_⟩
     rw [Hres.out, nums_big Hl.out H.out hn]
     rfl
    ·have hn' : (n : Int) ≤ 200000 := by omega
     have hn0 : (0 : Int) ≤ (n : Int) := by omega
     have hu0 : (u : Int) ≤ (l.length : Int) := by omega
     go_wp2_with fail
     refine wp_region_n (fun w' => True) [] (by kernel_rfl) ?_ (fun hSh => ?_)
     ·trivial
     refine n_from 0 ?_
     intro htk
     iterate 3
      refine n_tB (v := ?_) htk rfl (Or.inl ⟨by rfl, ?_⟩) ?_
      rotate_left 1
      ·(intro w' hSw; (try dsimp only at hSw); go_simp; try with_reducible rfl)
      clear htk
      intro htk
      simp only [Nat.reduceAdd] at htk
      simp only [Act.put, qA, qB, qC, qD, qE, qF]
     clear htk
     refine n_from 5 ?_
     intro htk
     iterate 3
      refine n_tB (v := ?_) htk rfl (Or.inl ⟨by rfl, ?_⟩) ?_
      rotate_left 1
      ·(intro w' hSw; (try dsimp only at hSw); go_simp; try with_reducible rfl)
      clear htk
      intro htk
      simp only [Nat.reduceAdd] at htk
      simp only [Act.put, qA, qB, qC, qD, qE, qF]
     clear htk
     refine n_step 3 rfl (by kernel_rfl) ?_
     go_wp2_with fail
     refine ⟨fun _ => trivial, fun hSk => ?_⟩
     replace hSk := hSk (by rfl)
     refine n_step 4 rfl (by kernel_rfl) ?_
     generalize hw2 : World.drew (World.alloc _ _) = w2
     have hc2 : Chg NoB w1 w2 := by
      rw [← hw2]
      repeat (first | exact Chg.refl _ _ | apply Chg.alloc | apply Chg.drew)
     have hb2 : Blk w2 (w1.heap.size) ([.int .i64 (n : Nat)]) 3 := by
      rw [← hw2]
      repeat (first | exact Blk.newAt (by first | rfl | (simp; done) | (simp; omega)) | apply Blk.alloc | apply Blk.drew)
     clear hw2
     have ho2 := (hown.keep hc1 (fun _ h => h.elim) (fun _ _ => nbE)).keep hc2 (fun _ h => h.elim) (fun _ _ => nbE)
     refine wpList_own rfl (.tmp 22) (.tmp 25) 65 rfl w.heap.size 3 Tryz.underlying65 infoInt1 rfl (by decide) rfl ho2 rfl [natDt n] [.int .i64 (n : Nat)] rfl (ReadsC.single rfl ⟨rfl, rfl⟩) hb2.news (fun e => by cases e) ?_ ?_ ?_ ?_
     ·rw [List.length_map]; simp [maxLen]; omega
     ·rw [List.length_map]; omega
     ·have h1 := hc.size; have h2 := hc1.size; have h3 := hc2.size; omega
     intro ao2 cap2 w3 ho3 hc3 _
     rw [List.length_map] at ho3 ⊢
     go_wp2_with fail
     refine ⟨fun _ => trivial, fun hSk => ?_⟩
     replace hSk := hSk (by rfl)
     refine n_tA (v := ?_) 8 rfl (Or.inl ⟨by rfl, ?_⟩) ?_
     rotate_left 1
     ·(intro w' hSw; (try dsimp only at hSw); go_simp; try with_reducible rfl)
     simp only [Act.put, qA, qB, qC, qD, qE, qF]
     refine n_tA (v := ?_) 9 rfl (Or.inl ⟨by rfl, ?_⟩) ?_
     rotate_left 1
     ·(intro w' hSw; (try dsimp only at hSw); go_simp; try with_reducible rfl)
     simp only [Act.put, qA, qB, qC, qD, qE, qF]
     refine n_done (by kernel_rfl) ?_
     go_wp2_with fail
     go_roundw
     case rel =>
      refine ⟨l.drop u, m, acc ++ [n], by rw [extL], by rw [List.length_drop]; omega, by rw [List.length_drop, List.length_append, List.length_singleton]; omega, ?_, ?_, ?_⟩
      ·rw [Hres.out, nums_more Hl.out H.out (by omega), Option.map_map]
       congr 1
       funext r
       simp
      ·rw [List.map_append]
       exact ho3
      ·exact ((hc.tr hc1).tr hc2).trans hc3 (fun b hb => .inr (hown.block b hb).1)
     case measure =>
      simp only [strL]
      rw [extL, siz_list, siz_list, List.length_drop]
      omega
def ReRel (l : List UInt8) (vc vi : Value) : Prop := ∃ i : Nat, i ≤ l.length ∧ vi = .int .i64 (i : Nat) ∧ vc = .int .u32 (crcRun 4294967295 (l.take i) : Nat)
def BiRel (c : Nat) (vc vk : Value) : Prop := ∃ k : Nat, k ≤ 8 ∧ vk = .int .i64 (k : Nat) ∧ vc = .int .u32 (crcSteps k c : Nat)
theorem crcStep_one {c : Nat} (h : c % 2 = 1) : crcStep c = (c / 2) ^^^ 3988292384 := by unfold crcStep; rw [if_pos h]
theorem crcStep_zero {c : Nat} (h : c % 2 ≠ 1) : crcStep c = c / 2 := by unfold crcStep; rw [if_neg h, Nat.xor_zero]
theorem remainder_same (s : ByteArray) (w : World) (hb : s.size ≤ 9000000000000000000) : Calls Tryz.prog 40 #[.string s] w (fun e w' => e = .returned (.int .u32 (crcF s.data.toList : Nat)) ∧ w' = w) := by
 have hl := size_list s
 go_enter Tryz.func40, Tryz.ntmps40
 go_wp2_with fail
 go_loop [3, 4] (ReRel s.data.toList) (fun _ vi => s.size - (intOf vi).toNat)
 case atStart => exact ⟨0, by omega, rfl, rfl⟩
 case round =>
  obtain ⟨i, hi, rfl, rfl⟩ := hrel
  rw [hl] at hi
  have Hl := Lib.hid hl
  clear hl
  obtain ⟨c, hc⟩ : ∃ c, c = crcRun 4294967295 (s.data.toList.take i) := ⟨_, rfl⟩
  have hclt : c < 4294967296 := by rw [hc]; exact crcRun_lt _ (by decide)
  rw [← hc]
  have Hc := Lib.hid hc
  clear hc
  by_cases hlt : i < s.size
  ·have hlt' : (i : Int) < (s.size : Int) := by omega
   have hbs := s[i].toNat_lt
   have hbI : (s[i].toNat : Int) ≤ 255 := by omega
   have hx := u32_xor_nat c s[i].toNat hclt (by omega)
   have hxl : c ^^^ s[i].toNat < 4294967296 := Nat.xor_lt_two_pow (n := 32) hclt (by omega)
   have hstep : crcRun 4294967295 (s.data.toList.take (i + 1)) = crcSteps 8 (c ^^^ s[i].toNat) := by
    rw [List.take_succ_eq_append_getElem (by rw [Hl.out]; exact hlt), crcRun_snoc, ← Hc.out]
    rfl
   have Hst := Lib.hid hstep
   clear hstep
   go_wp2_with fail
   obtain ⟨c1, hc1⟩ : ∃ c1, c1 = c ^^^ s[i].toNat := ⟨_, rfl⟩
   rw [← hc1] at hxl ⊢
   have Hc1 := Lib.hid hc1
   clear hc1 hx
   go_loop [3, 5] (BiRel c1) (fun _ vk => 8 - (intOf vk).toNat)
   case atStart => exact ⟨0, by omega, rfl, rfl⟩
   case round =>
    obtain ⟨k, hk, rfl, rfl⟩ := hrel
    obtain ⟨x, hx⟩ : ∃ x, x = crcSteps k c1 := ⟨_, rfl⟩
    have hxlt : x < 4294967296 := by rw [hx]; exact crcSteps_lt k hxl
    have hsn : crcSteps (k + 1) c1 = crcStep x := by rw [hx]; rfl
    rw [← hx]
    have Hx := Lib.hid hx
    have Hsn := Lib.hid hsn
    clear hx hsn
    by_cases hk8 : k < 8
    ·have hk8' : (k : Int) < 8 := by omega
     by_cases hodd : x % 2 = 1
     ·have ho : ((x : Int) % 2 == 1) = true := by simp; omega
      have hxx := u32_xor_nat (x / 2) 3988292384 (by omega) (by decide)
      have Hodd := Lib.hid hodd
      clear hodd
      go_wp2_with fail
      go_round
      case rel =>
       refine ⟨k + 1, by omega, by go_num, ?_⟩
       rw [Hsn.out, crcStep_one Hodd.out]
       exact congrArg (Value.int .u32) hxx
      case measure => simp [intOf]; omega
     ·have ho : ((x : Int) % 2 == 1) = false := by simp; omega
      have Hodd := Lib.hid hodd
      clear hodd
      go_wp2_with fail
      go_round
      case rel => exact ⟨k + 1, by omega, by go_num, by rw [Hsn.out, crcStep_zero Hodd.out]; rfl⟩
      case measure => simp [intOf]; omega
    ·have hk8' : ¬ (k : Int) < 8 := by omega
     obtain rfl : k = 8 := by omega
     go_wp2_with fail
     go_round
     case rel => exact ⟨i + 1, by rw [Hl.out]; omega, by go_num, by rw [Hst.out, Hx.out, Hc1.out]⟩
     case measure => simp [intOf]; omega
  ·have hlt' : ¬ (i : Int) < (s.size : Int) := by omega
   have hx := u32_xor_nat c 4294967295 hclt (by decide)
   go_wp2_with fail
   go_ret
   refine ⟨?_, rfl⟩
   have hf : crcF s.data.toList = c ^^^ 4294967295 := by
    unfold crcF
    rw [Hc.out, List.take_of_length_le (by rw [Hl.out]; omega)]
   rw [hf]
   exact congrArg (fun z => Ending.returned (Value.int .u32 z)) hx
theorem remainder_any (s : ByteArray) (w : World) (hb : s.size ≤ 9000000000000000000) : Calls Tryz.prog 40 #[.string s] w (RetV (.int .u32 (crcF s.data.toList : Nat)) w) :=
 (remainder_same s w hb).mono fun _ _ ⟨h1, h2⟩ => ⟨h1, h2 ▸ Chg.refl _ _⟩
def RetEnt (o : Option (List UInt8 × List UInt8)) (w : World) (en : Ending) (w' : World) : Prop :=
 Chg NoB w w' ∧ match o with
 | none => ∃ t g : List UInt8, t.length ≤ 200000 ∧ en = .returned (.tuple #[.string ⟨t.toArray⟩, .string ⟨g.toArray⟩, .bool false])
 | some (t, g) => t.length ≤ 200000 ∧ g.length ≤ 200000 ∧ en = .returned (.tuple #[.string ⟨t.toArray⟩, .string ⟨g.toArray⟩, .bool true])
def EnRel (s0 : List UInt8) (w : World) (vs vt vg vn : Value) (wr : World) : Prop := ∃ (l t g : List UInt8) (m seen : Nat), vs = .string ⟨l.toArray⟩ ∧ vt = .string ⟨t.toArray⟩ ∧ vg = .string ⟨g.toArray⟩ ∧ vn = .int .i64 (seen : Nat) ∧ l.length < m ∧ l.length ≤ s0.length ∧
 seen ≤ 2 ∧ t.length ≤ 200000 ∧ g.length ≤ 200000 ∧ entF (s0.length + 1) 0 [] [] s0 = entF m seen t g l ∧ Chg NoB w wr
theorem entries_any (s : List UInt8) (w : World) (e : Value) (he : ∃ T v, e = .iface T v) (hce : w.cell? ⟨1, 0, none⟩ = some e) (hs : s.length ≤ 1000000000) :
  Calls Tryz.prog 28 #[.string ⟨s.toArray⟩] w (RetEnt (entF (s.length + 1) 0 [] [] s) w) := by
 have hlt : (1 : Nat) < w.heap.size := lt_cell hce
 go_enter Tryz.func28, Tryz.ntmps28
 go_wp2_with fail
 go_loopw [0, 2, 3, 5] (EnRel s w) (fun vs _ _ _ _ => strL vs)
 case atStart => exact ⟨s, [], [], s.length + 1, 0, rfl, rfl, rfl, rfl, by omega, Nat.le_refl _, by omega, Nat.zero_le _, Nat.zero_le _, rfl, Chg.refl _ _⟩
 case round =>
  obtain ⟨l, t, g, m, seen, rfl, rfl, rfl, rfl, hm, hla, hseen, ht, hg, hres, hc⟩ := hrel
  have Hres := Lib.hid hres
  clear hres
  obtain ⟨m, rfl⟩ : ∃ k, m = k + 1 := ⟨m - 1, by omega⟩
  by_cases hl : l = []
  ·subst hl
   have hent := ent_end (m := m) (seen := seen) (t := t) (g := g)
   by_cases h2 : seen = 2
   ·subst h2
    have Hent := Lib.hid hent
    clear hent
    go_wp2_with fail
    go_ret3
    refine ⟨hc, ?_⟩
    rw [Hres.out, Hent.out, if_pos trivial]
    exact ⟨ht, hg, rfl⟩
   ·have h2' : ((seen : Int) == 2) = false := by simp; omega
    have Hent := Lib.hid hent
    have H2 := Lib.hid h2
    clear hent h2
    go_wp2_with fail
    go_ret3
    refine ⟨hc, ?_⟩
    rw [Hres.out, Hent.out, if_neg H2.out]
    exact ⟨t, g, ht, rfl⟩
  ·have hne : l.isEmpty = false := by simpa using hl
   have hceR := (hc.cell hlt nbE).trans hce
   obtain ⟨T, v, rfl⟩ := he
   have Hl := Lib.hid hl
   clear hl
   go_wp2_with fail
   refine (ruL_any l wr _ ⟨T, v, rfl⟩ hceR (by omega)).mono ?_
   rintro en w1 ⟨rfl, hc1⟩
   have hc01 := hc.tr hc1
   have hce1 := (hc01.cell hlt nbE).trans hce
   cases hsv : sev l with
   | none =>
    have H := Lib.hid hsv
    clear hsv
    simp only [sevV]
    go_wp2_with fail
    go_ret3
    refine ⟨hc01, ?_⟩
    rw [Hres.out, ent_num Hl.out H.out]
    exact ⟨[], [], Nat.zero_le _, rfl⟩
   | some p =>
    obtain ⟨n, u⟩ := p
    obtain ⟨b1, b2, b3, b4⟩ := sev_some hsv
    have H := Lib.hid hsv
    clear hsv
    simp only [sevV]
    by_cases hn : n = 0
    ·have H0 := Lib.hid (show sev l = some (0, u) from by rw [H.out, hn])
     have hn' : (n : Int) < 1 := by omega
     clear hn
     go_wp2_with fail
     go_ret3
     refine ⟨hc01, ?_⟩
     rw [Hres.out, ent_zero Hl.out H0.out]
     exact ⟨[], [], Nat.zero_le _, rfl⟩
    ·have hn' : ¬ (n : Int) < 1 := by omega
     have hu0 : (u : Int) ≤ (l.length : Int) := by omega
     go_wp2_with fail
     rw [extL]
     refine (rtL_any (l.drop u) w1 _ ⟨T, v, rfl⟩ hce1 (by rw [List.length_drop]; omega)).mono ?_
     rintro en w2 ⟨rfl, hc2⟩
     have hc02 := hc01.tr hc2
     cases hlr : longR (l.drop u) with
     | none =>
      have HL := Lib.hid hlr
      clear hlr
      simp only [longV]
      go_wp2_with fail
      go_ret3
      refine ⟨hc02, ?_⟩
      rw [Hres.out, ent_long Hl.out H.out HL.out]
      exact ⟨[], [], Nat.zero_le _, rfl⟩
     | some p =>
      obtain ⟨x, k⟩ := p
      obtain ⟨d1, d2, d3, d4⟩ := longR_some hlr
      rw [List.length_drop] at d2
      have HL := Lib.hid hlr
      clear hlr
      simp only [longV]
      have hk0 : (u : Int) + (k : Int) ≤ (l.length : Int) := by omega
      by_cases h2 : 2 < n
      ·have h2' : (2 : Int) < (n : Int) := by omega
       go_wp2_with fail
       go_roundw
       case rel =>
        exact ⟨l.drop (u + k), t, g, m, seen, by rw [extL], rfl, rfl, rfl, by rw [List.length_drop]; omega, by rw [List.length_drop]; omega, hseen, ht, hg, by rw [Hres.out, ent_more Hl.out H.out HL.out h2], hc02⟩
       case measure =>
        simp only [strL]
        rw [extL, siz_list, siz_list, List.length_drop]
        omega
      ·have h2' : (n : Int) ≤ 2 := by omega
       by_cases hns : n = seen + 1
       ·have hcase : (n = 1 ∧ seen = 0) ∨ (n = 2 ∧ seen = 1) := by omega
        rcases hcase with ⟨hn1, hs0⟩ | ⟨hn1, hs0⟩
        ·subst hn1 hs0
         clear b1 hns hn hn' h2 h2' hseen
         go_wp2_with fail
         go_roundw
         case rel =>
          exact ⟨l.drop (u + k), x, g, m, 1, by rw [extL], rfl, rfl, rfl, by rw [List.length_drop]; omega, by rw [List.length_drop]; omega, by omega, d3, hg, by rw [Hres.out, ent_one Hl.out H.out HL.out], hc02⟩
         case measure =>
          simp only [strL]
          rw [extL, siz_list, siz_list, List.length_drop]
          omega
        ·subst hn1 hs0
         clear b1 hns hn hn' h2 h2' hseen
         go_wp2_with fail
         go_roundw
         case rel =>
          exact ⟨l.drop (u + k), t, x, m, 2, by rw [extL], rfl, rfl, rfl, by rw [List.length_drop]; omega, by rw [List.length_drop]; omega, by omega, ht, d3, by rw [Hres.out, ent_two Hl.out H.out HL.out], hc02⟩
         case measure =>
          simp only [strL]
          rw [extL, siz_list, siz_list, List.length_drop]
          omega
       ·have hns' : ((n : Int) != (seen : Int) + 1) = true := by simp; omega
        have Hns := Lib.hid hns
        clear hns
        go_wp2_with fail
        go_ret3
        refine ⟨hc02, ?_⟩
        rw [Hres.out, ent_order Hl.out H.out HL.out (by omega) Hns.out]
        exact ⟨[], [], Nat.zero_le _, rfl⟩
end Go.Proofs.YtkchmgjmecojcaaGreatDoor
