/-
  shredcolref2.nodesText, SchemaText: the text of some nodes, as the document has it.
-/
import Derived.Test.YtfbbfhhhfbibjaaGreatDoorDec
import Derived.Test.YtfbbfhhhfbibjaaGreatDoorQuiet
namespace Go.Proofs.YtfbbfhhhfbibjaaGreatDoor
open Go.RowKit

def NtRel (w : World) (l : List Nd) (ind : List UInt8) (vo vi : Value) (wr : World) : Prop :=
  ∃ (j : Nat) (out : ByteArray), j ≤ l.length ∧ vi = .int .i64 (j : Nat) ∧ vo = .string out ∧ out.data.toList = textL (l.take j) ind ∧ Chg NoB w wr

set_option maxHeartbeats 1000000 in
set_option maxRecDepth 100000 in
theorem nodesText_any : ∀ (m : Nat) (s : List Nd) (w : World) (S : Nat → Prop) (v : Value) (ind : ByteArray), Nd.weighs s ≤ m → Nd.fines s → Nd.oks s → Reads w S (.list 5 (Nd.dts s)) [v] →
    (textL s ind.data.toList).length ≤ 140737488355328 →
    Calls Tryz.prog 49 #[v, .string ind] w (RetV (.string ⟨(textL s ind.data.toList).toArray⟩) w) := by
  have he := enters_of Tryz.func49 (P := Tryz.prog) (by kernel_rfl) rfl
  intro m
  induction m with
  | zero =>
    intro s w S v ind hm hfine hoks hr hlenB
    have hs : s = [] := by
      cases s with
      | nil => rfl
      | cons a b => simp only [Nd.weighs] at hm; cases a; simp only [Nd.weigh] at hm; omega
    subst hs
    obtain ⟨sa, cap, rfl, _, _, _⟩ := reads_subs hr
    go_enter Tryz.func49, Tryz.ntmps49
    go_wp2_with fail
    go_loopw [5, 6] (fun vo vi wr => vo = .string ⟨#[]⟩ ∧ vi = .int .i64 0 ∧ Chg NoB w wr) (fun _ _ _ => 0)
    case atStart => exact ⟨rfl, rfl, Chg.refl _ _⟩
    case round =>
      obtain ⟨rfl, rfl, hcj⟩ := hrel
      go_wp2_with fail
      go_ret
      exact ⟨rfl, hcj⟩
  | succ m ih =>
    intro s w S v ind hm hfine hoks hr hlenB
    obtain ⟨sa, cap, rfl, hlen, hcap, hel⟩ := reads_subs hr
    have Hih := Lib.hid ih
    clear ih
    have hsl : s.length ≤ 9223372036854775807 := by unfold maxLen at hcap; omega
    go_enter Tryz.func49, Tryz.ntmps49
    go_wp2_with fail
    go_loopw [5, 6] (fun vo vi wr => NtRel w s ind.data.toList vo vi wr) (fun _ vi _ => s.length - (intOf vi).toNat)
    case atStart => exact ⟨0, ⟨#[]⟩, Nat.zero_le _, rfl, rfl, rfl, Chg.refl _ _⟩
    case round =>
      obtain ⟨j, out, hj, rfl, rfl, hout, hcj⟩ := hrel
      have hszj := hcj.size
      by_cases hlt : j < s.length
      · obtain ⟨b', off, rfl, hSb, hbw, hE⟩ := hel (by omega)
        obtain ⟨ecs, hl5, hcells, hre⟩ := hE.get j s[j].dt (by simp [hlt])
        have hmem : s[j] ∈ s := List.getElem_mem hlt
        have hwj := Nd.weigh_mem hmem
        have hokj := Nd.oks_mem hoks _ hmem
        have hfj := Nd.fines_mem hfine _ hmem
        have htake1 : s.take (j + 1) = s.take j ++ [s[j]] := List.take_succ_eq_append_getElem hlt
        have hsum : textL s ind.data.toList = textL (s.take j) ind.data.toList ++ textN s[j] ind.data.toList ++ textL (s.drop (j + 1)) ind.data.toList := by
          conv => lhs; rw [← List.take_append_drop (j + 1) s, textL_append, htake1, textL_append]
          simp [textL]
        generalize s[j] = nj at hre hwj hokj hfj htake1 hsum
        have Htake1 := Lib.hid htake1
        have Hsum := Lib.hid hsum
        have hsl2 := congrArg List.length hsum
        simp only [List.length_append] at hsl2
        clear htake1 hsum hmem hE
        obtain ⟨i1, n1, r1, k1, s1⟩ := nj
        obtain ⟨v1, rfl, hs1⟩ := reads_nd.1 hre
        obtain ⟨sa1, cap1, rfl, _, _, _⟩ := reads_subs hs1
        obtain ⟨f1, f2, f3, f4, hf1⟩ := hfj
        obtain ⟨rn, rfl⟩ := Int.eq_ofNat_of_zero_le (show 0 ≤ r1 by omega)
        obtain ⟨kn, rfl⟩ := Int.eq_ofNat_of_zero_le f3
        have hrn : rn < 4 := by omega
        have hkn : kn < 6 := by omega
        obtain ⟨rs, hrs⟩ : ∃ rs, repT[rn]? = some rs := ⟨_, List.getElem?_eq_getElem (show rn < repT.length from hrn)⟩
        obtain ⟨ks, hks⟩ : ∃ ks, kindT[kn]? = some ks := ⟨_, List.getElem?_eq_getElem (show kn < kindT.length from hkn)⟩
        have hrS : repS (rn : Int) = rs.data.toList := by unfold repS; rw [Int.toNat_natCast, getD_some hrs]
        have hkS : kindS (kn : Int) = ks.data.toList := by unfold kindS; rw [Int.toNat_natCast, getD_some hks]
        have hhead : headS i1 n1 rn kn ind.data.toList = ind.data.toList ++ rs.data.toList ++ [32] ++ ks.data.toList ++ [32] ++ n1.data.toList ++ [32, 35] ++ Lib.itoa i1 := by unfold headS; rw [hrS, hkS]
        have hhl := congrArg List.length hhead
        simp only [List.length_append, length_data, List.length_cons, List.length_nil] at hhl
        have hNl : (headS i1 n1 rn kn ind.data.toList).length ≤ (textN (.mk i1 n1 rn kn s1) ind.data.toList).length := by simp [textN]
        have hol : out.size = (textL (s.take j) ind.data.toList).length := by rw [← hout, length_data]
        have hbound : out.size + (ind.size + rs.size + ks.size + n1.size + 4 + (Lib.itoa i1).length) ≤ 140737488355328 := by omega
        have Hhead := Lib.hid hhead
        have hNb : out.size + (textN (.mk i1 n1 rn kn s1) ind.data.toList).length ≤ 140737488355328 := by omega
        clear hrS hkS hhead hNl hsl2
        have hf : ∀ t c, [Value.int .i64 i1, .string n1, .int .i64 (rn : Int), .int .i64 (kn : Int), .slice sa1 s1.length cap1][t]? = some c → wr.cell? ⟨b', off + j * 5 + t, none⟩ = some c := fun t c ht => (hcj.cell (p := ⟨b', off + j * 5 + t, none⟩) hbw NoB.elim).trans (hcells t c ht)
        have e0 : wr.cell? ⟨b', off + j * 5, none⟩ = some (.int .i64 i1) := hf 0 _ rfl
        have e1 : wr.cell? ⟨b', off + j * 5 + 1, none⟩ = some (.string n1) := hf 1 _ rfl
        have e2 : wr.cell? ⟨b', off + j * 5 + 2, none⟩ = some (.int .i64 (rn : Int)) := hf 2 _ rfl
        have e3 : wr.cell? ⟨b', off + j * 5 + 3, none⟩ = some (.int .i64 (kn : Int)) := hf 3 _ rfl
        have e4 : wr.cell? ⟨b', off + j * 5 + 4, none⟩ = some (.slice sa1 s1.length cap1) := hf 4 _ rfl
        clear hf hcells
        go_wp2_with fail
        generalize hw2 : wr.alloc _ = w2
        have hc2 : Chg NoB wr w2 := by
          rw [← hw2]
          repeat (first | exact Chg.refl _ _ | apply Chg.alloc | apply Chg.drew)
        have hb2 : Blk w2 (wr.heap.size) (ndCells i1 n1 rn kn (.slice sa1 s1.length cap1)) 24 := by
          rw [← hw2]
          repeat (first | exact Blk.newAt (by first | rfl | (simp; done) | (simp; omega)) | apply Blk.alloc | apply Blk.drew)
        clear hw2 e0 e1 e2 e3 e4
        have hsI : (⟨(Lib.itoa i1).toArray⟩ : ByteArray).size = (Lib.itoa i1).length := by simp [ByteArray.size]
        refine wp_region_quiet (C := fun w' => Chg NoB w2 w' ∧ w'.cell? ⟨wr.heap.size, 0, none⟩ = some (.int .i64 i1) ∧ w'.cell? ⟨wr.heap.size, 1, none⟩ = some (.string n1) ∧ w'.cell? ⟨wr.heap.size, 2, none⟩ = some (.int .i64 (rn : Int)) ∧ w'.cell? ⟨wr.heap.size, 3, none⟩ = some (.int .i64 (kn : Int))) (by kernel_rfl) (by kernel_rfl) ?_ ?_
        · exact ⟨(Chg.refl _ _).drew, hb2.cell 0, hb2.cell 1, hb2.cell 2, hb2.cell 3⟩
        have hCk : ∀ w' w'', (Chg NoB w2 w' ∧ w'.cell? ⟨wr.heap.size, 0, none⟩ = some (.int .i64 i1) ∧ w'.cell? ⟨wr.heap.size, 1, none⟩ = some (.string n1) ∧ w'.cell? ⟨wr.heap.size, 2, none⟩ = some (.int .i64 (rn : Int)) ∧ w'.cell? ⟨wr.heap.size, 3, none⟩ = some (.int .i64 (kn : Int))) → Chg NoB w' w'' →
            (Chg NoB w2 w'' ∧ w''.cell? ⟨wr.heap.size, 0, none⟩ = some (.int .i64 i1) ∧ w''.cell? ⟨wr.heap.size, 1, none⟩ = some (.string n1) ∧ w''.cell? ⟨wr.heap.size, 2, none⟩ = some (.int .i64 (rn : Int)) ∧ w''.cell? ⟨wr.heap.size, 3, none⟩ = some (.int .i64 (kn : Int))) := fun w' w'' h hc => by
          have hk := (hb2.keep h.1 NoB.elim).keep hc NoB.elim
          exact ⟨h.1.tr hc, hk.cell 0, hk.cell 1, hk.cell 2, hk.cell 3⟩
        have HCk := Lib.hid hCk
        clear hCk
        refine q_take ?_ (by rfl) ?_ ?_
        rotate_left 1
        · (intro w' hSw; (try dsimp only at hSw); go_simp; try with_reducible rfl)
        simp only [Act.put, List.setIfInBounds_toArray, List.set_cons_zero, List.set_cons_succ]
        refine q_take ?_ (by rfl) ?_ ?_
        rotate_left 1
        · (intro w' hSw; (try dsimp only at hSw); go_simp; try with_reducible rfl)
        simp only [Act.put, List.setIfInBounds_toArray, List.set_cons_zero, List.set_cons_succ]
        refine q_take ?_ (by rfl) ?_ ?_
        rotate_left 1
        · (intro w' hSw; (try dsimp only at hSw); go_simp; rw [if_neg (by (try simp only [ByteArray.size_append, bsize1, bsize2, bsize3]); omega)])
        simp only [Act.put, List.setIfInBounds_toArray, List.set_cons_zero, List.set_cons_succ]
        refine q_take ?_ (by rfl) ?_ ?_
        rotate_left 1
        · (intro w' hSw; (try dsimp only at hSw); go_simp; try with_reducible rfl)
        simp only [Act.put, List.setIfInBounds_toArray, List.set_cons_zero, List.set_cons_succ]
        refine q_take ?_ (by rfl) ?_ ?_
        rotate_left 1
        · (intro w' hSw; (try dsimp only at hSw); go_simp; try with_reducible rfl)
        simp only [Act.put, List.setIfInBounds_toArray, List.set_cons_zero, List.set_cons_succ]
        refine q_call (.string rs) _ _ (by rfl) (fun w' hSw => by (try dsimp only at hSw); go_simp; exact ⟨rfl, rfl⟩) ?_ ?_
        · exact fun w' hC => (repWord_any rn rs w' (by omega) hrs).mono fun e w'' h => ⟨h.1, HCk.out _ _ hC h.2⟩
        simp only [Act.put, List.setIfInBounds_toArray, List.set_cons_zero, List.set_cons_succ]
        refine q_take ?_ (by rfl) ?_ ?_
        rotate_left 1
        · (intro w' hSw; (try dsimp only at hSw); go_simp; rw [if_neg (by (try simp only [ByteArray.size_append, bsize1, bsize2, bsize3]); omega)])
        simp only [Act.put, List.setIfInBounds_toArray, List.set_cons_zero, List.set_cons_succ]
        refine q_take ?_ (by rfl) ?_ ?_
        rotate_left 1
        · (intro w' hSw; (try dsimp only at hSw); go_simp; rw [if_neg (by (try simp only [ByteArray.size_append, bsize1, bsize2, bsize3]); omega)])
        simp only [Act.put, List.setIfInBounds_toArray, List.set_cons_zero, List.set_cons_succ]
        refine q_take ?_ (by rfl) ?_ ?_
        rotate_left 1
        · (intro w' hSw; (try dsimp only at hSw); go_simp; try with_reducible rfl)
        simp only [Act.put, List.setIfInBounds_toArray, List.set_cons_zero, List.set_cons_succ]
        refine q_take ?_ (by rfl) ?_ ?_
        rotate_left 1
        · (intro w' hSw; (try dsimp only at hSw); go_simp; try with_reducible rfl)
        simp only [Act.put, List.setIfInBounds_toArray, List.set_cons_zero, List.set_cons_succ]
        refine q_call (.string ks) _ _ (by rfl) (fun w' hSw => by (try dsimp only at hSw); go_simp; exact ⟨rfl, rfl⟩) ?_ ?_
        · exact fun w' hC => (kindWord_any kn ks w' hks).mono fun e w'' h => ⟨h.1, HCk.out _ _ hC h.2⟩
        simp only [Act.put, List.setIfInBounds_toArray, List.set_cons_zero, List.set_cons_succ]
        refine q_take ?_ (by rfl) ?_ ?_
        rotate_left 1
        · (intro w' hSw; (try dsimp only at hSw); go_simp; rw [if_neg (by (try simp only [ByteArray.size_append, bsize1, bsize2, bsize3]); omega)])
        simp only [Act.put, List.setIfInBounds_toArray, List.set_cons_zero, List.set_cons_succ]
        refine q_take ?_ (by rfl) ?_ ?_
        rotate_left 1
        · (intro w' hSw; (try dsimp only at hSw); go_simp; rw [if_neg (by (try simp only [ByteArray.size_append, bsize1, bsize2, bsize3]); omega)])
        simp only [Act.put, List.setIfInBounds_toArray, List.set_cons_zero, List.set_cons_succ]
        refine q_take ?_ (by rfl) ?_ ?_
        rotate_left 1
        · (intro w' hSw; (try dsimp only at hSw); go_simp; try with_reducible rfl)
        simp only [Act.put, List.setIfInBounds_toArray, List.set_cons_zero, List.set_cons_succ]
        refine q_take ?_ (by rfl) ?_ ?_
        rotate_left 1
        · (intro w' hSw; (try dsimp only at hSw); go_simp; try with_reducible rfl)
        simp only [Act.put, List.setIfInBounds_toArray, List.set_cons_zero, List.set_cons_succ]
        refine q_take ?_ (by rfl) ?_ ?_
        rotate_left 1
        · (intro w' hSw; (try dsimp only at hSw); go_simp; rw [if_neg (by (try simp only [ByteArray.size_append, bsize1, bsize2, bsize3]); omega)])
        simp only [Act.put, List.setIfInBounds_toArray, List.set_cons_zero, List.set_cons_succ]
        refine q_take ?_ (by rfl) ?_ ?_
        rotate_left 1
        · (intro w' hSw; (try dsimp only at hSw); go_simp; rw [if_neg (by (try simp only [ByteArray.size_append, bsize1, bsize2, bsize3]); omega)])
        simp only [Act.put, List.setIfInBounds_toArray, List.set_cons_zero, List.set_cons_succ]
        refine q_take ?_ (by rfl) ?_ ?_
        rotate_left 1
        · (intro w' hSw; (try dsimp only at hSw); go_simp; try with_reducible rfl)
        simp only [Act.put, List.setIfInBounds_toArray, List.set_cons_zero, List.set_cons_succ]
        refine q_take ?_ (by rfl) ?_ ?_
        rotate_left 1
        · (intro w' hSw; (try dsimp only at hSw); go_simp; try with_reducible rfl)
        simp only [Act.put, List.setIfInBounds_toArray, List.set_cons_zero, List.set_cons_succ]
        refine q_call (.string ⟨(Lib.itoa i1).toArray⟩) _ _ (by rfl) (fun w' hSw => by (try dsimp only at hSw); go_simp; exact ⟨rfl, rfl⟩) ?_ ?_
        · exact fun w' hC => (decimal_any i1 w' hokj.1).mono fun e w'' h => ⟨h.1, HCk.out _ _ hC h.2⟩
        simp only [Act.put, List.setIfInBounds_toArray, List.set_cons_zero, List.set_cons_succ]
        refine q_take ?_ (by rfl) ?_ ?_
        rotate_left 1
        · (intro w' hSw; (try dsimp only at hSw); go_simp; rw [if_neg (by (try simp only [ByteArray.size_append, bsize1, bsize2, bsize3]); omega)])
        simp only [Act.put, List.setIfInBounds_toArray, List.set_cons_zero, List.set_cons_succ]
        refine q_take ?_ (by rfl) ?_ ?_
        rotate_left 1
        · (intro w' hSw; (try dsimp only at hSw); go_simp; try with_reducible rfl)
        simp only [Act.put, List.setIfInBounds_toArray, List.set_cons_zero, List.set_cons_succ]
        refine q_done ?_
        rintro w3 ⟨hc3, c0, c1, c2, c3⟩
        have hb3 := hb2.keep hc3 NoB.elim
        have c4 : w3.cell? ⟨wr.heap.size, 4, none⟩ = some (.slice sa1 s1.length cap1) := hb3.cell 4
        have hcj3 := (hcj.tr hc2).tr hc3
        generalize hstr : out ++ ind ++ rs ++ _ ++ ks ++ _ ++ n1 ++ _ ++ _ = str
        have hstrS : str.data.toList = textL (s.take j) ind.data.toList ++ headS i1 n1 rn kn ind.data.toList := by
          rw [Hhead.out, ← hout, ← hstr]
          simp only [ByteArray.data_append, Array.toList_append, List.append_assoc]
        clear hstr
        have hstrL : str.size = out.size + (headS i1 n1 rn kn ind.data.toList).length := by rw [← length_data, hstrS, List.length_append, hol]
        have HstrS := Lib.hid hstrS
        clear hstrS
        by_cases hk0 : kn = 0
        · subst hk0
          have hN : textN (.mk i1 n1 rn ((0 : Nat) : Int) s1) ind.data.toList = headS i1 n1 rn ((0 : Nat) : Int) ind.data.toList ++ [32, 123, 10] ++ textL s1 (ind.data.toList ++ [32, 32]) ++ (ind.data.toList ++ [125, 10]) := by
            simp [textN]
          have hNl := congrArg List.length hN
          simp only [List.length_append, List.length_cons, List.length_nil, length_data] at hNl
          have HN := Lib.hid hN
          clear hN
          have hb43 : str.size + 3 ≤ 140737488355328 := by omega
          have hb47 : ind.size + 2 ≤ 140737488355328 := by omega
          have hb49 : str.size + 3 + (textL s1 (ind.data.toList ++ [32, 32])).length + ind.size + 2 ≤ 140737488355328 := by omega
          have z43 : (⟨#[32, 123, 10]⟩ : ByteArray).size = 3 := rfl
          have z47 : (⟨#[32, 32]⟩ : ByteArray).size = 2 := rfl
          have z52 : (⟨#[125, 10]⟩ : ByteArray).size = 2 := rfl
          go_wp2_with fail
          have hind2 : (ind ++ (⟨#[32, 32]⟩ : ByteArray)).data.toList = ind.data.toList ++ [32, 32] := by simp only [ByteArray.data_append, Array.toList_append]
          refine (Hih.out s1 w3 S _ (ind ++ (⟨#[32, 32]⟩ : ByteArray)) ?_ hf1 hokj.2.2.2.2.2 (hs1.chg0 hcj3) ?_).mono ?_
          · simp only [Nd.weigh] at hm hwj ⊢; omega
          · rw [hind2]
            omega
          rintro en w4 ⟨rfl, hc4⟩
          rw [hind2]
          have hcj4 := hcj3.tr hc4
          have hs1l : (⟨(textL s1 (ind.data.toList ++ [32, 32])).toArray⟩ : ByteArray).size = (textL s1 (ind.data.toList ++ [32, 32])).length := by simp [ByteArray.size]
          generalize hmid : (⟨(textL s1 (ind.data.toList ++ [32, 32])).toArray⟩ : ByteArray) = mid at hs1l
          have z49 : (str ++ (⟨#[32, 123, 10]⟩ : ByteArray) ++ mid).size = str.size + 3 + mid.size := by rw [ByteArray.size_append, ByteArray.size_append, z43]
          have z51 : (str ++ (⟨#[32, 123, 10]⟩ : ByteArray) ++ mid ++ ind).size = str.size + 3 + mid.size + ind.size := by rw [ByteArray.size_append, z49]
          have z43' : (str ++ (⟨#[32, 123, 10]⟩ : ByteArray)).size = str.size + 3 := by rw [ByteArray.size_append, z43]
          go_wp2_with fail
          go_roundw
          case rel =>
            refine ⟨j + 1, _, hlt, by go_num, rfl, ?_, hcj4⟩
            rw [Htake1.out, textL_append]
            simp only [textL, List.append_nil, HN.out]
            rw [← hmid]
            simp only [ByteArray.data_append, Array.toList_append, HstrS.out, List.append_assoc]
          case measure => simp [intOf]; omega
        · have hkne : ((kn : Int) != 0) = true := by simpa using hk0
          have hN : textN (.mk i1 n1 rn kn s1) ind.data.toList = headS i1 n1 rn kn ind.data.toList ++ [59, 10] := by
            have : (kn : Int) ≠ 0 := by simpa using hk0
            simp only [textN, if_neg this]
          have hNl := congrArg List.length hN
          simp only [List.length_append, List.length_cons, List.length_nil] at hNl
          have HN := Lib.hid hN
          clear hN
          have hb54 : str.size + 2 ≤ 140737488355328 := by omega
          have z54 : (⟨#[59, 10]⟩ : ByteArray).size = 2 := rfl
          go_wp2_with fail
          go_roundw
          case rel =>
            refine ⟨j + 1, _, hlt, by go_num, rfl, ?_, hcj3⟩
            rw [Htake1.out, textL_append]
            simp only [textL, List.append_nil, HN.out]
            simp only [ByteArray.data_append, Array.toList_append, HstrS.out, List.append_assoc]
          case measure => simp [intOf]; omega
      · have hjs : s.take j = s := List.take_of_length_le (by omega)
        rw [hjs] at hout
        go_wp2_with fail
        go_ret
        refine ⟨?_, hcj⟩
        rw [← hout]
        rfl
end Go.Proofs.YtfbbfhhhfbibjaaGreatDoor
