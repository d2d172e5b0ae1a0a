/-
  shredcolref2.IsName, and the places of a schema's nodes as they lie in memory.
-/
import Derived.Test.YtfbbfhhhfbibjaaGreatDoorNames
import Derived.Test.YtfbbfhhhfbibjaaGreatDoorFlat
namespace Go.Proofs.YtfbbfhhhfbibjaaGreatDoor
open Go.RowKit

/-- Letters alone, so far. -/
def NameRel (s : ByteArray) (vi : Value) : Prop := ∃ j : Nat, j ≤ s.size ∧ vi = .int .i64 (j : Nat) ∧ (s.data.toList.take j).all lower = true

theorem notName {s : ByteArray} {j : Nat} {c : UInt8} {l : List UInt8} (h : s.data.toList.drop j = c :: l) (hc : lower c = false) : isNameB s = false := by
  unfold isNameB
  have h1 : s.data.toList.all lower = false := by
    rw [← List.take_append_drop j s.data.toList, h, List.all_append, List.all_cons, hc]
    simp
  rw [h1, Bool.and_false]

set_option maxHeartbeats 1000000 in
theorem isName2_any (s : ByteArray) (w : World) (hs : s.size ≤ 9223372036854775807) :
    Calls Tryz.prog 33 #[.string s] w fun e w' => e = .returned (.bool (isNameB s)) ∧ w' = w := by
  go_enter Tryz.func33, Tryz.ntmps33
  go_wp2_with fail
  go_loop [3] (fun vi => NameRel s vi) (fun vi => s.size - (intOf vi).toNat)
  case atStart => exact ⟨0, Nat.zero_le _, rfl, rfl⟩
  case round =>
    obtain ⟨j, hj, rfl, hall⟩ := hrel
    have Hall := Lib.hid hall
    clear hall
    have hsz : s.data.toList.length = s.size := Array.length_toList
    by_cases hlt : j < s.size
    · have hlt2 : j < s.data.toList.length := by omega
      have htake : s.data.toList.take (j + 1) = s.data.toList.take j ++ [s[j]'hlt] := by
        rw [List.take_succ_eq_append_getElem hlt2]
        rfl
      have hdrop : s.data.toList.drop j = (s[j]'hlt) :: s.data.toList.drop (j + 1) := List.drop_eq_getElem_cons hlt2
      have Htake := Lib.hid htake
      have Hdrop := Lib.hid hdrop
      clear htake hdrop
      by_cases h1 : (s[j]'hlt).toNat < 97
      · have h1' : (((s[j]'hlt).toNat : Nat) : Int) < 97 := by omega
        have hl : lower (s[j]'hlt) = false := by simp only [lower, decide_eq_false_iff_not]; omega
        have Hl := Lib.hid hl
        clear hl
        go_wp2_with fail
        go_ret
        rw [notName Hdrop.out Hl.out]
        exact ⟨rfl, rfl⟩
      · have h1' : ¬ (((s[j]'hlt).toNat : Nat) : Int) < 97 := by omega
        by_cases h2 : 122 < (s[j]'hlt).toNat
        · have h2' : (122 : Int) < (((s[j]'hlt).toNat : Nat) : Int) := by omega
          have hl : lower (s[j]'hlt) = false := by simp only [lower, decide_eq_false_iff_not]; omega
          have Hl := Lib.hid hl
          clear hl
          go_wp2_with fail
          go_ret
          rw [notName Hdrop.out Hl.out]
          exact ⟨rfl, rfl⟩
        · have h2' : ¬ (122 : Int) < (((s[j]'hlt).toNat : Nat) : Int) := by omega
          have hl : lower (s[j]'hlt) = true := by simp only [lower, decide_eq_true_eq]; omega
          have Hl := Lib.hid hl
          clear hl
          go_wp2_with fail
          refine ⟨⟨j + 1, hlt, by go_num, ?_⟩, by simp [intOf]; omega⟩
          rw [Htake.out, List.all_append, Hall.out]
          simp [Hl.out]
    · have hjs : j = s.size := by omega
      subst hjs
      have hfin : isNameB s = (decide (s.size ≠ 0) && decide (s.size ≤ 12)) := by
        have h3 := Hall.out
        rw [List.take_of_length_le (by omega)] at h3
        unfold isNameB
        rw [h3, Bool.and_true]
      have Hfin := Lib.hid hfin
      clear hfin
      by_cases h1 : s.size = 0
      · go_wp2_with fail
        go_ret
        rw [Hfin.out]
        exact ⟨by simp [h1], rfl⟩
      · by_cases h2 : s.size ≤ 12
        · go_wp2_with fail
          go_ret
          rw [Hfin.out]
          refine ⟨?_, rfl⟩
          have h3 : (s.size : Int) ≤ 12 := by omega
          simp [h1, h2, h3]
        · go_wp2_with fail
          go_ret
          rw [Hfin.out]
          refine ⟨?_, rfl⟩
          have h3 : ¬ (s.size : Int) ≤ 12 := by omega
          simp [h1, h2, h3]

/-- A place's cells, from offset o on. -/
structure PlAt (w : World) (b o : Nat) (p : Pl) : Prop where
  id : w.cell? ⟨b, o, none⟩ = some (.int .i64 p.n.id)
  name : w.cell? ⟨b, o + 1, none⟩ = some (.string p.n.name)
  rep : w.cell? ⟨b, o + 2, none⟩ = some (.int .i64 p.n.rep)
  kind : w.cell? ⟨b, o + 3, none⟩ = some (.int .i64 p.n.kind)
  sub : ∃ sa cap, w.cell? ⟨b, o + 4, none⟩ = some (.slice sa p.n.sub.length cap)
  deep : w.cell? ⟨b, o + 5, none⟩ = some (.int .i64 p.deep)
  around : w.cell? ⟨b, o + 6, none⟩ = some (.int .i64 p.around)
theorem PlAt.keep0 {w w' : World} {b o : Nat} {p : Pl} (h : PlAt w b o p) (hb : b < w.heap.size) (hc : Chg NoB w w') : PlAt w' b o p := by
  obtain ⟨sa, cap, hs⟩ := h.sub
  exact ⟨(hc.cell (p := ⟨b, o, none⟩) hb NoB.elim).trans h.id, (hc.cell (p := ⟨b, o + 1, none⟩) hb NoB.elim).trans h.name, (hc.cell (p := ⟨b, o + 2, none⟩) hb NoB.elim).trans h.rep,
    (hc.cell (p := ⟨b, o + 3, none⟩) hb NoB.elim).trans h.kind, ⟨sa, cap, (hc.cell (p := ⟨b, o + 4, none⟩) hb NoB.elim).trans hs⟩, (hc.cell (p := ⟨b, o + 5, none⟩) hb NoB.elim).trans h.deep, (hc.cell (p := ⟨b, o + 6, none⟩) hb NoB.elim).trans h.around⟩
theorem pl_cells {w : World} {S : Nat → Prop} {l : List Pl} {a : Option Addr} {n c : Nat} (h : Reads w S (.list 7 (l.map Pl.dt)) [.slice a n c]) :
    n = l.length ∧ l.length ≤ c ∧ c ≤ maxLen ∧ (l.length ≠ 0 → ∃ b off, a = some ⟨b, off, none⟩ ∧ b < w.heap.size ∧ ∀ j p, l[j]? = some p → PlAt w b (off + j * 7) p) := by
  obtain ⟨a', c', h1, h2, h3, h4⟩ := reads_list h
  simp only [List.length_map] at h1 h2 h4
  obtain ⟨rfl, rfl, rfl⟩ := Value.slice.inj h1
  refine ⟨rfl, h2, h3, fun hne => ?_⟩
  obtain ⟨b, off, ha, hb, hlt, hE⟩ := h4 hne
  refine ⟨b, off, ha, hlt, fun j p hj => ?_⟩
  obtain ⟨cs, h5, h6, h7⟩ := hE.get j p.dt (by simp [hj])
  obtain ⟨⟨i1, n1, r1, k1, s1⟩, d1, a1⟩ := p
  obtain ⟨c, r', rfl, hnd, hrest⟩ := h7
  obtain ⟨v1, rfl, hs1⟩ := reads_nd.1 hnd
  obtain ⟨sa1, cap1, rfl, _, _, _⟩ := reads_subs hs1
  obtain ⟨c2, r2, rfl, ⟨rfl, _⟩, c3, r3, rfl, ⟨rfl, _⟩, rfl⟩ := hrest
  exact ⟨h6 0 _ rfl, h6 1 _ rfl, h6 2 _ rfl, h6 3 _ rfl, ⟨sa1, cap1, h6 4 _ rfl⟩, h6 5 _ rfl, h6 6 _ rfl⟩
end Go.Proofs.YtfbbfhhhfbibjaaGreatDoor
