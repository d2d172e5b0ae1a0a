/-
 EvolveAgain: the walk, by the contracts.
-/
import Derived.Test.YtgcmfpcgmkkobaaGreatDoorFirstT
import Derived.Test.YtgcmfpcgmkkobaaGreatDoorShort
import Derived.Test.YtgcmfpcgmkkobaaGreatDoorPackD
set_option linter.unusedVariables false
set_option linter.unusedSimpArgs false
namespace Go.Proofs.YtgcmfpcgmkkobaaGreatDoor
open Go.RowKit

theorem bytes_A (name : ByteArray) : (⟨#[97, 100, 100, 32, 48, 32, 114, 101, 113, 117, 105, 114, 101, 100, 32, 105, 110, 116, 32]⟩ : ByteArray) ++ name ++ ⟨#[59]⟩ = lineA name := by
 unfold lineA mkB
 apply ByteArray.ext
 apply Array.ext'
 simp
theorem bytes_B (name : ByteArray) : (⟨#[97, 100, 100, 32, 48, 32, 111, 112, 116, 105, 111, 110, 97, 108, 32, 98, 121, 116, 101, 115, 32]⟩ : ByteArray) ++ name ++ ⟨#[59]⟩ = lineB name := by
 unfold lineB mkB
 apply ByteArray.ext
 apply Array.ext'
 simp
theorem bytes_D (n : Int) : (⟨#[100, 114, 111, 112, 32]⟩ : ByteArray) ++ (⟨(Lib.itoa n).toArray⟩ : ByteArray) = lineD n := by
 unfold lineD mkB
 apply ByteArray.ext
 apply Array.ext'
 simp
theorem size_A (name : ByteArray) : (lineA name).size = name.size + 20 := by
 unfold lineA
 rw [mkB_sz]
 simp only [List.length_append, List.length_cons, List.length_nil, length_data]
 omega
theorem size_B (name : ByteArray) : (lineB name).size = name.size + 22 := by
 unfold lineB
 rw [mkB_sz]
 simp only [List.length_append, List.length_cons, List.length_nil, length_data]
 omega
theorem size_D (n : Int) (h0 : 0 ≤ n) (h1 : n ≤ 1000) : (lineD n).size ≤ 40 := by
 have h2 := Lib.itoa_length_le n (by omega) (by omega)
 unfold lineD
 rw [mkB_sz]
 simp only [List.length_append, List.length_cons, List.length_nil]
 omega
/-- The last node's cells. -/
theorem TrL.lastCells {w : World} {B : Nat} {s : List Nd} {i : Int} {nm : ByteArray} {r k : Int} {sub : List Nd} {v : Value} {F : List Nat} (h : TrL w B (s ++ [.mk i nm r k sub]) v F) :
  ∃ g cap u, v = .slice (some ⟨g, 0, none⟩) (s.length + 1) cap ∧ s.length + 1 ≤ cap ∧ cap ≤ maxLen ∧ (B ≤ g ∧ g < w.heap.size) ∧ (∃ a c, u = .slice a sub.length c) ∧ w.cell? ⟨g, s.length * 5, none⟩ = some (.int .i64 i) ∧ w.cell? ⟨g, s.length * 5 + 1, none⟩ = some (.string nm) ∧
   w.cell? ⟨g, s.length * 5 + 2, none⟩ = some (.int .i64 r) ∧ w.cell? ⟨g, s.length * 5 + 3, none⟩ = some (.int .i64 k) ∧ w.cell? ⟨g, s.length * 5 + 4, none⟩ = some u := by
 have hl : (s ++ [Nd.mk i nm r k sub]).length = s.length + 1 := by simp
 rcases h with ⟨h0, _⟩ | ⟨g, cap, cur, F', rfl, e2, e3, e4, e5, e6, e7, rfl⟩
 ·simp at h0
 obtain ⟨x1, x2, G1, G2, rfl, g1, g2, g3, rfl⟩ := trC_split.1 e7
 obtain ⟨c0, q, H1, H2, rfl, k1, k2, rfl⟩ := trC_cons.1 g3
 obtain ⟨u, rfl, hu⟩ := trN.1 k1
 obtain ⟨a, c, rfl, _, _⟩ := hu.form
 obtain ⟨f0, f1, f2, f3, f4⟩ := five_at e5 g1
 rw [hl] at e2 ⊢
 exact ⟨g, cap, _, rfl, e2, e3, ⟨e4, e5.lt⟩, ⟨a, c, rfl⟩, f0, f1, f2, f3, f4⟩
theorem Own.strs {w : World} {B : Nat} {v : Value} {l : List ByteArray} (h : Own w B 9 1 (fun _ => False) v (l.map strDt)) (hl : l.length ≤ maxLen) : Reads w (fun b => b < w.heap.size) (.list 1 (l.map fun x => .lit (.string x))) [v] :=
 h.reads (fun _ e => e.elim) (fun b _ hb => hb) (by rw [List.length_map]; exact hl)

set_option maxHeartbeats 4000000 in
set_option maxRecDepth 100000 in
theorem again_any (es : List ByteArray) (name : ByteArray) (v : Value) (w : World) (S : Nat → Prop) (E : Er → Value) (N K : Value) (m : Int) (hG : EvG w.heap.size E N K m w) (hr : Reads w S (.list 1 (es.map strDt)) [v]) (hsz : ∀ s ∈ es, s.size ≤ reach) (hl : es.length * 16 ≤ reach) :
  Calls Tryz.prog 3 #[v, .string name] w (RetV (.bool true) w) := by
 obtain ⟨a, c, rfl, hlc, hcm, hcell⟩ := list_cells (f := fun s => Value.string s) hr
 have hl2 := hl
 unfold reach at hl2
 have Hr := Lib.hid hr
 clear hcell hr
 go_enter Tryz.func3, Tryz.ntmps3
 go_wp2_with fail
 refine (first_any w E N K m hG).mono ?_
 rintro en w1 ⟨rfl, hc1⟩
 go_wp2_with fail
 refine (short_any es _ w1 S (Hr.out.chg0 hc1) hsz hl).mono ?_
 rintro en w2 ⟨rfl, hc2⟩
 have hc02 := hc1.tr hc2
 cases hsb : shortB es with
 | false =>
  clear hsb
  go_wp2_with fail
  go_ret
  exact ⟨rfl, hc02⟩
 | true =>
  have hsb2 : es.length ≤ 80 ∧ lineSum es ≤ 4000 := by
   unfold shortB at hsb
   simpa using hsb
  have Hsb := Lib.hid hsb2
  clear hsb hsb2
  by_cases hn20 : name.size ≤ 20
  ·by_cases h57 : es.length ≤ 57
   ·have hn20I : ¬ (20 : Int) < (name.size : Int) := by omega
    have h57I : ¬ (57 : Int) < (es.length : Int) := by omega
    go_wp2_with fail
    refine (texts_any es _ w2 S (Hr.out.chg0 hc02) (by omega)).mono ?_
    rintro en w3 ⟨v3, rfl, ho3, hc3⟩
    obtain ⟨a3, c3, rfl⟩ := ho3.form
    have hlm : (es.map strDt).length = es.length := List.length_map ..
    rw [hlm] at ho3 ⊢
    have hc03 := hc02.tr hc3
    have hz3 := hc3.size
    have bA := bytes_A name
    have sA := size_A name
    go_wp2_with (at_builtin; refine stop_here ?_)
    refine Stop.go ?_
    generalize hw4 : World.alloc w3 _ = w4
    have hc4 : Chg NoB w3 w4 := by
     rw [← hw4]
     repeat (first | exact Chg.refl _ _ | apply Chg.alloc | apply Chg.drew)
    have hb4 : Blk w4 (w3.heap.size) ([.string (lineA name)]) 9 := by
     rw [← hw4]
     repeat (first | exact Blk.newAt (by first | rfl | (simp; done) | (simp; omega)) | apply Blk.alloc | apply Blk.drew)
    clear hw4
    have ho4 := ho3.keep hc4 (fun _ e => e.elim) (fun _ _ => NoB.elim)
    refine wpList_own rfl (.tmp 35) (.tmp 39) 22 rfl w2.heap.size 9 Tryz.underlying22 infoStr rfl (by decide) rfl ho4 rfl [strDt (lineA name)] [.string (lineA name)] rfl (ReadsC.single rfl (reads_str _ _ _)) hb4.news (fun e => by cases e) ?_ ?_ (Nat.le_trans hz3 hc4.size) ?_
    ·rw [hlm]; simp [maxLen]; omega
    ·rw [hlm]; omega
    intro a5 c5 w5 ho5 hc5 hat5
    rw [hlm] at ho5 ⊢
    have hc35 : Chg NoB w3 w5 → Chg NoB w w5 := fun h => hc03.tr h
    have hc25 : Chg NoB w2 w5 := (hc3.tr hc4).trans hc5 (fun y e => .inr (ho4.block y e).1)
    have hc05 := hc02.tr hc25
    clear hat5 hc5 hb4 hc35 ho3 ho4
    have ho5' : Own w5 w2.heap.size 9 1 (fun _ => False) (.slice a5 (es.length + 1) c5) ((es ++ [lineA name]).map strDt) := by rw [List.map_append]; exact ho5
    clear ho5
    have hlen5 : (es ++ [lineA name]).length = es.length + 1 := by simp
    have hr5 := ho5'.strs (by rw [hlen5]; unfold maxLen; omega)
    have hsum5 : ((es ++ [lineA name]).map ByteArray.size).sum ≤ 5000 := by
     have h1 := Hsb.out.2
     unfold lineSum at h1
     rw [List.map_append, List.sum_append, List.map_cons, List.map_nil, List.sum_cons, List.sum_nil, sA]
     omega
    have hrep := replay_any (es ++ [lineA name]) _ w5 _ E N K m ((hG.keep0 hc05).up hc05.size) hr5 (by omega)
    have Hlaw := Lib.hid (fun (n : List Nd) (next : Int) (h : replayF (es ++ [lineA name]) = .ok n next) (hn : 2 ≤ n.length) => again_law h57 Hsb.out.2 hn20 h hn)
    go_wp2_with fail
    refine hrep.mono ?_
    clear hrep
    rintro en w6 ⟨hc6, hm6⟩
    have hc06 := hc05.tr hc6
    cases hrf : replayF (es ++ [lineA name]) with
    | bad i e =>
     rw [hrf] at hm6
     obtain ⟨fv, rfl, p, rfl, _⟩ := hm6
     clear hrf
     unfold zeroNode
     go_wp2_with fail
     go_ret
     exact ⟨rfl, hc06.alloc _⟩
    | many =>
     rw [hrf] at hm6
     obtain rfl := hm6
     obtain ⟨Tb, ub, hEb⟩ := hG.glo.errs.form .bound
     rw [hEb]
     clear hrf hEb
     unfold zeroNode
     go_wp2_with fail
     go_ret
     exact ⟨rfl, hc06.alloc _⟩
    | ok n next =>
     rw [hrf] at hm6
     obtain ⟨v6, F6, rfl, ht6, _⟩ := hm6
     obtain ⟨a6, c6, rfl, _, _⟩ := ht6.form
     by_cases hn2 : 2 ≤ n.length
     ·have hn2I : ¬ (n.length : Int) < 2 := by omega
      obtain ⟨hname, l, hl0, rfl, hnx2, hnx1000, hrep2⟩ := Hlaw.out n next hrf hn2
      have Hrep2 := Lib.hid hrep2
      clear hrf hrep2
      have hll : (l ++ [Nd.mk (next - 1) name 1 2 []]).length = l.length + 1 := by simp
      obtain ⟨g6, cap6, u6, hv6, hlc6, hcm6, ⟨hgB6, hg6⟩, ⟨ua, uc, rfl⟩, q0, q1, q2, q3, q4⟩ := ht6.lastCells
      rw [hll] at hn2 hn2I ht6 hv6 ⊢
      obtain ⟨rfl, -, rfl⟩ := Value.slice.inj hv6
      have hlI : ¬ (l.length : Int) + 1 < 2 := by omega
      clear hn2I hv6
      go_wp2_with fail
      generalize hw7 : World.alloc w6 _ = w7
      have hc67 : Chg NoB w6 w7 := by
       rw [← hw7]
       repeat (first | exact Chg.refl _ _ | apply Chg.alloc | apply Chg.drew)
      have hx7 : Blk w7 (w6.heap.size) ([.int .i64 0, .string rootName, .int .i64 1, .int .i64 0, .slice (some ⟨g6, 0, none⟩) (l.length + 1) c6]) 28 := by
       rw [← hw7]
       repeat (first | exact Blk.newAt (by first | rfl | (simp; done) | (simp; omega)) | apply Blk.alloc | apply Blk.drew)
      clear hw7
      refine (decimal_any (next - 1) w7 ⟨by omega, by omega⟩).mono ?_
      rintro en w8 ⟨rfl, hc8⟩
      have bD := bytes_D (next - 1)
      have bB := bytes_B name
      have sB := size_B name
      have sD := size_D (next - 1) (by omega) (by omega)
      have hov : ¬ 9223372036854775807 < 5 + (Lib.itoa (next - 1)).length := by
       have := Lib.itoa_length_le (next - 1) (by omega) (by omega)
       omega
      have hc68 := hc67.tr hc8
      have hc58 := hc6.tr hc68
      have hx8 := hx7.keep hc8 NoB.elim
      have hlx8 := hx8.lt
      go_wp2_with (at_builtin; refine stop_here ?_)
      refine Stop.go ?_
      generalize hw9 : World.alloc w8 _ = w9
      have hc9 : Chg NoB w8 w9 := by
       rw [← hw9]
       repeat (first | exact Chg.refl _ _ | apply Chg.alloc | apply Chg.drew)
      have hb9 : Blk w9 (w8.heap.size) ([.string (lineD (next - 1)), .string (lineB name)]) 9 := by
       rw [← hw9]
       repeat (first | exact Blk.newAt (by first | rfl | (simp; done) | (simp; omega)) | apply Blk.alloc | apply Blk.drew)
      clear hw9
      have hc59 := hc58.tr hc9
      have ho9 := ho5'.keep hc59 (fun _ e => e.elim) (fun _ _ => NoB.elim)
      have hlm5 : ((es ++ [lineA name]).map strDt).length = es.length + 1 := by rw [List.length_map, hlen5]
      refine wpList_own rfl (.tmp 55) (.tmp 63) 22 rfl w2.heap.size 9 Tryz.underlying22 infoStr rfl (by decide) rfl ho9 rfl [strDt (lineD (next - 1)), strDt (lineB name)] [.string (lineD (next - 1)), .string (lineB name)] rfl (strs_chunksT _ _ [lineD (next - 1), lineB name]) hb9.news (fun e => by cases e) ?_ ?_ (Nat.le_trans hc25.size hc59.size) ?_
      ·rw [hlm5]; simp [maxLen]; omega
      ·rw [hlm5]; omega
      intro a10 c10 w10 ho10 hc10 hat10
      rw [hlm5] at ho10 ⊢
      have hc2T : Chg NoB w2 w10 := (hc25.tr hc59).trans hc10 (fun y e => .inr (ho9.block y e).1)
      have hn10 : ∀ y, (Value.slice a5 (es.length + 1) c5).ownBlock = some y → y < w5.heap.size := fun y e => (ho5'.block y e).2
      have hcT := hc02.tr hc2T
      have hlists : (es ++ [lineA name]).map strDt ++ [strDt (lineD (next - 1)), strDt (lineB name)] = (es ++ [lineA name, lineD (next - 1), lineB name]).map strDt := by simp
      rw [hlists] at ho10
      have hlenT : (es ++ [lineA name, lineD (next - 1), lineB name]).length = es.length + 3 := by simp
      have hrT := ho10.strs (by rw [hlenT]; unfold maxLen; omega)
      have hsumT : ((es ++ [lineA name, lineD (next - 1), lineB name]).map ByteArray.size).sum ≤ 10000 := by
       have h1 := Hsb.out.2
       unfold lineSum at h1
       rw [List.map_append, List.sum_append]
       simp only [List.map_cons, List.map_nil, List.sum_cons, List.sum_nil]
       omega
      have hrepT := replay_any (es ++ [lineA name, lineD (next - 1), lineB name]) _ w10 _ E N K m ((hG.keep0 hcT).up hcT.size) hrT hsumT
      rw [Hrep2.out] at hrepT
      have hz56 := hc6.size
      have hz58 := hc58.size
      have hno : ∀ y, w5.heap.size ≤ y → ¬ (Value.slice a5 (es.length + 1) c5).ownBlock = some y := fun y hy e => by have := hn10 y e; omega
      have hK : ∀ {j : Nat} {u : Value}, w6.cell? ⟨g6, j, none⟩ = some u → w10.cell? ⟨g6, j, none⟩ = some u := fun {j u} h => by
       have h1 := ((hc68.tr hc9).cell (p := ⟨g6, j, none⟩) hg6 NoB.elim).trans h
       exact (hc10.cell (p := ⟨g6, j, none⟩) (lt_of_cell h1) (hno g6 hgB6)).trans h1
      have r0 := hK q0
      have r1 := hK q1
      have r2 := hK q2
      have r3 := hK q3
      have r4 := hK q4
      have hx10 := (hx8.keep hc9 NoB.elim).keep hc10 (hno _ hz56)
      have hL7 : (l.length : Int) + 1 ≤ 9223372036854775807 := by unfold maxLen at hcm6; omega
      clear hK q0 q1 q2 q3 q4 hc10 hat10 hno hlists ho9 hb9 hov bD bB bA hx7 hx8 hrT
      go_wp2_with fail
      refine hrepT.mono ?_
      clear hrepT
      rintro en w11 ⟨hc11, v11, F11, rfl, ht11, _⟩
      obtain ⟨g, cap, u, hv11, hlc11, hcm11, ⟨_, hg11⟩, ⟨ub, uc2, rfl⟩, s0, s1, s2, s3, s4⟩ := ht11.lastCells
      subst hv11
      have hk11 : ∀ {p : Addr} {u : Value}, w10.cell? p = some u → w11.cell? p = some u := fun {p u} h => (hc11.cell (lt_of_cell h) NoB.elim).trans h
      have t0 := hk11 r0
      have t1 := hk11 r1
      have t2 := hk11 r2
      have t3 := hk11 r3
      have t4 := hk11 r4
      have hx11 := hx10.keep hc11 NoB.elim
      have x4 : w11.cell? ⟨w6.heap.size, 4, none⟩ = some (.slice (some ⟨g6, 0, none⟩) (l.length + 1) c6) := hx11.cell 4
      have hx11l := hx11.lt
      have hg6l := lt_of_cell t0
      have hcE := hcT.tr hc11
      clear hk11 r0 r1 r2 r3 r4 hx10 ht11 ht6
      go_wp2_with fail
      go_ret
      exact ⟨rfl, ((hcE.alloc _).alloc _).alloc _⟩
     ·have hn2I : (n.length : Int) < 2 := by omega
      clear hrf
      go_wp2_with fail
      go_ret
      exact ⟨rfl, hc06.alloc _⟩
   ·have hn20I : ¬ (20 : Int) < (name.size : Int) := by omega
    have h57I : (57 : Int) < (es.length : Int) := by omega
    go_wp2_with fail
    go_ret
    exact ⟨rfl, hc02⟩
  ·have hn20I : (20 : Int) < (name.size : Int) := by omega
   go_wp2_with fail
   go_ret
   exact ⟨rfl, hc02⟩
end Go.Proofs.YtgcmfpcgmkkobaaGreatDoor
