/-
 shredcollaw4's short and texts: of lines that are handed in.
-/
import Derived.Test.YtgcmfpcgmkkobaaGreatDoorNumbered
import Derived.Test.YtgcmfpcgmkkobaaGreatDoorPackB
set_option linter.unusedVariables false
set_option linter.unusedSimpArgs false
namespace Go.Proofs.YtgcmfpcgmkkobaaGreatDoor
open Go.RowKit

def lineSum (l : List ByteArray) : Nat := (l.map ByteArray.size).sum
def shortB (l : List ByteArray) : Bool := decide (l.length ≤ 80) && decide (lineSum l ≤ 4000)
theorem lineSum_le {l : List ByteArray} (h : ∀ s ∈ l, s.size ≤ reach) : lineSum l ≤ l.length * reach := by
 induction l with
 | nil => exact Nat.zero_le _
 | cons x xs ih =>
  have h1 := ih (fun s hs => h s (List.mem_cons_of_mem _ hs))
  have h2 := h x (List.mem_cons_self ..)
  simp only [lineSum, List.map_cons, List.sum_cons, List.length_cons] at h1 ⊢
  rw [Nat.succ_mul]; omega
def ShortRel (l : List ByteArray) (vn vi : Value) : Prop := ∃ (j : Nat) (n : Int), j ≤ l.length ∧ vi = .int .i64 (j : Nat) ∧ vn = .int .i64 n ∧ (l.length ≤ 80 → n = (lineSum (l.take j) : Nat))

set_option maxHeartbeats 1000000 in
theorem short_any (l : List ByteArray) (v : Value) (w : World) (S : Nat → Prop) (h : Reads w S (.list 1 (l.map strDt)) [v]) (hsz : ∀ s ∈ l, s.size ≤ reach) (hl : l.length * 16 ≤ reach) :
  Calls Tryz.prog 9 #[v] w (RetV (.bool (shortB l)) w) := by
 obtain ⟨a, c, rfl, hlc, hcm, hcell⟩ := list_cells (f := fun s => Value.string s) h
 unfold maxLen at hcm
 have hsb : shortB l = (decide (l.length ≤ 80) && decide (lineSum l ≤ 4000)) := rfl
 have Hsb := Lib.hid hsb
 clear hsb
 unfold reach at hl
 by_cases h80 : l.length ≤ 80
 ·have h80I : (l.length : Int) ≤ 80 := by omega
  go_enter Tryz.func9, Tryz.ntmps9
  go_wp2_with fail
  go_loop [3, 4] (fun vn vi => ShortRel l vn vi) (fun _ vi => l.length - (intOf vi).toNat)
  case atStart => exact ⟨0, 0, Nat.zero_le _, rfl, rfl, fun _ => rfl⟩
  case round =>
   obtain ⟨j, n, hj, rfl, rfl, hn⟩ := hrel
   obtain rfl := hn h80
   by_cases hlt : j < l.length
   ·obtain ⟨b, off, rfl, hSb, hbw, hE⟩ := hcell (by omega)
    have e1 := hE j l[j] (List.getElem?_eq_getElem hlt)
    have hx := hsz l[j] (List.getElem_mem hlt)
    have htake : l.take (j + 1) = l.take j ++ [l[j]] := List.take_succ_eq_append_getElem hlt
    have hsum : lineSum (l.take (j + 1)) = lineSum (l.take j) + l[j].size := by unfold lineSum; rw [htake, List.map_append, List.sum_append]; simp only [List.map_cons, List.map_nil, List.sum_cons, List.sum_nil, Nat.add_zero]
    have hle : lineSum (l.take j) ≤ 80 * reach := Nat.le_trans (lineSum_le (fun s hs => hsz s (List.mem_of_mem_take hs))) (Nat.mul_le_mul_right _ (by rw [List.length_take]; omega))
    have Hsum := Lib.hid hsum
    clear hsum htake hE hn
    generalize l[j] = ej at e1 hx Hsum
    generalize lineSum (l.take j) = q at Hsum hle ⊢
    unfold reach at hx hle
    have hltI : (j : Int) < (l.length : Int) := by omega
    go_wp2_with fail
    go_round
    case rel => exact ⟨j + 1, _, hlt, by go_num, rfl, fun _ => by rw [Hsum.out]; omega⟩
    case measure => simp [intOf]; omega
   ·have hltI : ¬ (j : Int) < (l.length : Int) := by omega
    have hjs : l.take j = l := List.take_of_length_le (by omega)
    rw [hjs]
    generalize lineSum l = q at Hsb
    go_wp2_with fail
    go_ret
    refine ⟨?_, Chg.refl _ _⟩
    rw [Hsb.out]
    first | (simp [h80]; done) | (simp [h80]; omega)
 ·have h80I : ¬ (l.length : Int) ≤ 80 := by omega
  have hf : shortB l = false := by rw [Hsb.out, decide_eq_false h80, Bool.false_and]
  rw [hf]
  clear Hsb hf
  go_enter Tryz.func9, Tryz.ntmps9
  go_wp2_with fail
  go_loop [3, 4] (fun vn vi => ∃ (j : Nat) (n : Int), j ≤ l.length ∧ vi = .int .i64 (j : Nat) ∧ vn = .int .i64 n) (fun _ vi => l.length - (intOf vi).toNat)
  case atStart => exact ⟨0, 0, Nat.zero_le _, rfl, rfl⟩
  case round =>
   obtain ⟨j, n, hj, rfl, rfl⟩ := hrel
   by_cases hlt : j < l.length
   ·obtain ⟨b, off, rfl, hSb, hbw, hE⟩ := hcell (by omega)
    have e1 := hE j l[j] (List.getElem?_eq_getElem hlt)
    clear hE
    generalize l[j] = ej at e1
    have hltI : (j : Int) < (l.length : Int) := by omega
    go_wp2_with fail
    go_round
    case rel => exact ⟨j + 1, _, hlt, by go_num, rfl⟩
    case measure => simp [intOf]; omega
   ·have hltI : ¬ (j : Int) < (l.length : Int) := by omega
    go_wp2_with fail
    go_ret
    exact ⟨rfl, Chg.refl _ _⟩

theorem strs_chunksT (w : World) (S : Nat → Prop) : ∀ l : List ByteArray, ReadsC w S 1 (l.map strDt) (l.map Value.string)
 | [] => rfl
 | x :: l => ⟨[.string x], _, rfl, rfl, ⟨rfl, rfl⟩, strs_chunksT w S l⟩
theorem strs_newsT {w : World} {S : Nat → Prop} : ∀ {l : List ByteArray} {xs : List Value}, ReadsC w S 1 (l.map strDt) xs → xs = l.map Value.string
 | [], xs, h => h
 | x :: l, xs, h => by
  obtain ⟨c, r, rfl, _, h2, h3⟩ := h
  obtain ⟨rfl, _⟩ := (h2 : c = [.string x] ∧ _)
  rw [strs_newsT h3]; rfl
set_option maxHeartbeats 400000 in
theorem texts_any (l : List ByteArray) (v : Value) (w : World) (S : Nat → Prop) (h : Reads w S (.list 1 (l.map strDt)) [v]) (hl : l.length * 16 ≤ 140737488355328) :
  Calls Tryz.prog 10 #[v] w fun e w' => ∃ v', e = .returned v' ∧ Own w' w.heap.size 9 1 (fun _ => False) v' (l.map strDt) ∧ Chg NoB w w' := by
 obtain ⟨a, c, news, rfl, hc1, hc2, hn, hcell, hnone⟩ := news_of h
 obtain rfl := strs_newsT hn
 have hlen : (l.map strDt).length = l.length := List.length_map ..
 go_enter Tryz.func10, Tryz.ntmps10
 go_wp2_with (at_builtin; refine stop_here ?_)
 refine Stop.go ?_
 refine wpList_own rfl (.tmp 4) (.tmp 5) 22 rfl w.heap.size 9 Tryz.underlying22 infoStr rfl (by decide) rfl (Own.nil w w.heap.size 9 1 (fun _ => False)) rfl (l.map strDt) _ rfl (strs_chunksT _ _ l) hcell hnone ?_ ?_ (Nat.le_refl _) ?_
 ·simp [maxLen]; omega
 ·simp; omega
 intro ao2 cap2 wB hoB hcB hatB
 simp only [List.length_nil, Nat.zero_add, List.nil_append] at hoB hcB hatB ⊢
 go_wp2_with fail
 go_ret
 rw [hlen] at hoB
 exact ⟨_, rfl, hoB, hcB.mono (fun _ _ e => by cases e)⟩
end Go.Proofs.YtgcmfpcgmkkobaaGreatDoor
