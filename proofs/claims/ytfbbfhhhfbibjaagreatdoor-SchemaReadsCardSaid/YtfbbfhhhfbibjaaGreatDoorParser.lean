/-
  shredcolref2's parser: word, fail, take; index and NumberOf.
-/
import Derived.Test.YtfbbfhhhfbibjaaGreatDoorWords
import Derived.Test.YtfbbfhhhfbibjaaGreatDoorParLaw
import Derived.Test.YtfbbfhhhfbibjaaGreatDoorPackA
set_option linter.unusedVariables false
set_option linter.unusedSimpArgs false
namespace Go.Proofs.YtfbbfhhhfbibjaaGreatDoor
open Go.RowKit

/-- Where the parser stands: its cells, its words. -/
structure Prs (b T : Nat) (wv : Value) (W : List (List UInt8 × Int)) (s : PSt) (w : World) : Prop where
  blk : ∃ k : Nat, Blk w b [wv, .int .i64 (k : Nat), .int .i64 s.code, .int .i64 s.at'] 103 ∧ W.drop k = wordsL T s.rest
  rd : ∃ wb off cap, wv = .slice (some ⟨wb, off, none⟩) W.length cap ∧ wb ≠ b ∧ wb < b ∧ ∀ (j : Nat) (x : List UInt8 × Int), W[j]? = some x → w.cell? ⟨wb, off + j * 2, none⟩ = some (.string ⟨x.1.toArray⟩) ∧ w.cell? ⟨wb, off + j * 2 + 1, none⟩ = some (.int .i64 x.2)
  len : W.length ≤ 8001
theorem Prs.lt {b T : Nat} {wv : Value} {W : List (List UInt8 × Int)} {s : PSt} {w : World} (h : Prs b T wv W s w) : b < w.heap.size := by
  obtain ⟨k, h1, _⟩ := h.blk
  exact h1.lt
theorem Prs.keep {b T : Nat} {wv : Value} {W : List (List UInt8 × Int)} {s : PSt} {w w' : World} {C : Nat → Prop} (h : Prs b T wv W s w) (hc : Chg C w w') (hn : ∀ x, x ≤ b → ¬ C x) : Prs b T wv W s w' := by
  have hlt := h.lt
  obtain ⟨k, h1, h2⟩ := h.blk
  obtain ⟨wb, off, cap, h3, h4, h5, h6⟩ := h.rd
  refine ⟨⟨k, h1.keep hc (hn _ (Nat.le_refl _)), h2⟩, ⟨wb, off, cap, h3, h4, h5, fun j x hx => ?_⟩, h.len⟩
  obtain ⟨e1, e2⟩ := h6 j x hx
  exact ⟨(hc.cell (p := ⟨wb, off + j * 2, none⟩) (by show wb < _; omega) (hn wb (by omega))).trans e1, (hc.cell (p := ⟨wb, off + j * 2 + 1, none⟩) (by show wb < _; omega) (hn wb (by omega))).trans e2⟩
theorem Prs.keep0 {b T : Nat} {wv : Value} {W : List (List UInt8 × Int)} {s : PSt} {w w' : World} (h : Prs b T wv W s w) (hc : Chg NoB w w') : Prs b T wv W s w' := h.keep hc (fun _ _ => NoB.elim)
/-- What is behind a step of the parser's own. -/
theorem Prs.next {b T : Nat} {wv : Value} {W : List (List UInt8 × Int)} {s s' : PSt} {w w' : World} (h : Prs b T wv W s w) (hc : Chg (OneB b) w w') {k : Nat} (h1 : Blk w' b [wv, .int .i64 (k : Nat), .int .i64 s'.code, .int .i64 s'.at'] 103) (h2 : W.drop k = wordsL T s'.rest) : Prs b T wv W s' w' := by
  have hlt := h.lt
  obtain ⟨wb, off, cap, h3, h4, h5, h6⟩ := h.rd
  refine ⟨⟨k, h1, h2⟩, ⟨wb, off, cap, h3, h4, h5, fun j x hx => ?_⟩, h.len⟩
  obtain ⟨e1, e2⟩ := h6 j x hx
  exact ⟨(hc.cell (p := ⟨wb, off + j * 2, none⟩) (by show wb < _; omega) h4).trans e1, (hc.cell (p := ⟨wb, off + j * 2 + 1, none⟩) (by show wb < _; omega) h4).trans e2⟩

/-- The cells that a look at the word reads. -/
theorem Prs.look {b T : Nat} {wv : Value} {W : List (List UInt8 × Int)} {s : PSt} {w : World} (h : Prs b T wv W s w) : ∃ (k wb off cap : Nat), k < W.length ∧ wv = .slice (some ⟨wb, off, none⟩) W.length cap ∧ wb ≠ b ∧ wb < b ∧
    Blk w b [wv, .int .i64 (k : Nat), .int .i64 s.code, .int .i64 s.at'] 103 ∧ w.cell? ⟨wb, off + k * 2, none⟩ = some (.string ⟨(tok s.rest).toArray⟩) ∧ w.cell? ⟨wb, off + k * 2 + 1, none⟩ = some (.int .i64 ((T : Int) - (s.rest.length : Int))) ∧
    (s.rest ≠ [] → W.drop (k + 1) = wordsL T (nxt s.rest)) ∧ W.drop k = wordsL T s.rest := by
  obtain ⟨k, h1, h2⟩ := h.blk
  obtain ⟨wb, off, cap, h3, h4, h5, h6⟩ := h.rd
  obtain ⟨g1, g2⟩ := words_drop h2
  obtain ⟨e1, e2⟩ := h6 k _ g1
  exact ⟨k, wb, off, cap, (List.getElem?_eq_some_iff.1 g1).1, h3, h4, h5, h1, e1, e2, g2, h2⟩

set_option maxHeartbeats 400000 in
theorem word_any {b T : Nat} {wv : Value} {W : List (List UInt8 × Int)} {s : PSt} {w : World} (h : Prs b T wv W s w) :
    Calls Tryz.prog 56 #[.pointer (some ⟨b, 0, none⟩)] w (RetV (.string ⟨(tok s.rest).toArray⟩) w) := by
  have hW := h.len
  obtain ⟨k, wb, off, cap, hk, rfl, hwb, hlt, hb, e1, -, -, -⟩ := h.look
  have hki : (k : Int) < (W.length : Int) := by omega
  have c0 : w.cell? ⟨b, 0, none⟩ = some (.slice (some ⟨wb, off, none⟩) W.length cap) := hb.cell 0
  have c1 : w.cell? ⟨b, 1, none⟩ = some (.int .i64 (k : Nat)) := hb.cell 1
  go_enter Tryz.func56, Tryz.ntmps56
  go_wp2_with fail
  refine wp_region_quiet (C := fun w' => Chg NoB w w' ∧ w'.cell? ⟨b, 0, none⟩ = some (.slice (some ⟨wb, off, none⟩) W.length cap) ∧ w'.cell? ⟨b, 1, none⟩ = some (.int .i64 (k : Nat)) ∧ w'.cell? ⟨wb, off + k * 2, none⟩ = some (.string ⟨(tok s.rest).toArray⟩)) (by kernel_rfl) (by kernel_rfl) ?_ ?_
  · exact ⟨(Chg.refl _ _).drew, c0, c1, e1⟩
  refine q_take ?_ (by rfl) ?_ ?_
  rotate_left 1
  · (intro w' hSw; (try dsimp only at hSw); go_simp; try with_reducible rfl)
  simp only [Act.put, List.getElem_toArray, List.getElem_cons_zero, List.getElem_cons_succ, List.setIfInBounds_toArray, List.set_cons_zero, List.set_cons_succ]
  refine q_take ?_ (by rfl) ?_ ?_
  rotate_left 1
  · (intro w' hSw; (try dsimp only at hSw); go_simp; try with_reducible rfl)
  simp only [Act.put, List.getElem_toArray, List.getElem_cons_zero, List.getElem_cons_succ, List.setIfInBounds_toArray, List.set_cons_zero, List.set_cons_succ]
  refine q_take ?_ (by rfl) ?_ ?_
  rotate_left 1
  · (intro w' hSw; (try dsimp only at hSw); go_simp; try with_reducible rfl)
  simp only [Act.put, List.getElem_toArray, List.getElem_cons_zero, List.getElem_cons_succ, List.setIfInBounds_toArray, List.set_cons_zero, List.set_cons_succ]
  refine q_take ?_ (by rfl) ?_ ?_
  rotate_left 1
  · (intro w' hSw; (try dsimp only at hSw); go_simp; try with_reducible rfl)
  simp only [Act.put, List.getElem_toArray, List.getElem_cons_zero, List.getElem_cons_succ, List.setIfInBounds_toArray, List.set_cons_zero, List.set_cons_succ]
  refine q_take ?_ (by rfl) ?_ ?_
  rotate_left 1
  · (intro w' hSw; (try dsimp only at hSw); go_simp; try with_reducible rfl)
  simp only [Act.put, List.getElem_toArray, List.getElem_cons_zero, List.getElem_cons_succ, List.setIfInBounds_toArray, List.set_cons_zero, List.set_cons_succ]
  refine q_take ?_ (by rfl) ?_ ?_
  rotate_left 1
  · (intro w' hSw; (try dsimp only at hSw); go_simp; try with_reducible rfl)
  simp only [Act.put, List.getElem_toArray, List.getElem_cons_zero, List.getElem_cons_succ, List.setIfInBounds_toArray, List.set_cons_zero, List.set_cons_succ]
  refine q_take ?_ (by rfl) ?_ ?_
  rotate_left 1
  · (intro w' hSw; (try dsimp only at hSw); go_simp; try with_reducible rfl)
  simp only [Act.put, List.getElem_toArray, List.getElem_cons_zero, List.getElem_cons_succ, List.setIfInBounds_toArray, List.set_cons_zero, List.set_cons_succ]
  refine q_take ?_ (by rfl) ?_ ?_
  rotate_left 1
  · (intro w' hSw; (try dsimp only at hSw); go_simp; try with_reducible rfl)
  simp only [Act.put, List.getElem_toArray, List.getElem_cons_zero, List.getElem_cons_succ, List.setIfInBounds_toArray, List.set_cons_zero, List.set_cons_succ]
  refine q_take ?_ (by rfl) ?_ ?_
  rotate_left 1
  · (intro w' hSw; (try dsimp only at hSw); go_simp; try with_reducible rfl)
  simp only [Act.put, List.getElem_toArray, List.getElem_cons_zero, List.getElem_cons_succ, List.setIfInBounds_toArray, List.set_cons_zero, List.set_cons_succ]
  refine q_take ?_ (by rfl) ?_ ?_
  rotate_left 1
  · (intro w' hSw; (try dsimp only at hSw); go_simp; try with_reducible rfl)
  simp only [Act.put, List.getElem_toArray, List.getElem_cons_zero, List.getElem_cons_succ, List.setIfInBounds_toArray, List.set_cons_zero, List.set_cons_succ]
  refine q_take ?_ (by rfl) ?_ ?_
  rotate_left 1
  · (intro w' hSw; (try dsimp only at hSw); go_simp; try with_reducible rfl)
  simp only [Act.put, List.getElem_toArray, List.getElem_cons_zero, List.getElem_cons_succ, List.setIfInBounds_toArray, List.set_cons_zero, List.set_cons_succ]
  refine q_take ?_ (by rfl) ?_ ?_
  rotate_left 1
  · (intro w' hSw; (try dsimp only at hSw); go_simp; try with_reducible rfl)
  simp only [Act.put, List.getElem_toArray, List.getElem_cons_zero, List.getElem_cons_succ, List.setIfInBounds_toArray, List.set_cons_zero, List.set_cons_succ]
  refine q_done ?_
  rintro w3 ⟨hc3, _, _, _⟩
  go_wp2_with fail
  go_ret
  exact ⟨rfl, hc3⟩

set_option maxHeartbeats 1000000 in
theorem fail_any {b T : Nat} {wv : Value} {W : List (List UInt8 × Int)} {s : PSt} {w : World} (c : Int) (h : Prs b T wv W s w) :
    Calls Tryz.prog 57 #[.pointer (some ⟨b, 0, none⟩), .int .i64 c] w (RetNil (fun w' => Prs b T wv W (s.fail T c) w' ∧ Chg (OneB b) w w')) := by
  have hW := h.len
  obtain ⟨k, wb, off, cap, hk, rfl, hwb, hlt, hb, -, e2, -, hdr⟩ := h.look
  have hki : (k : Int) < (W.length : Int) := by omega
  have c0 : w.cell? ⟨b, 0, none⟩ = some (.slice (some ⟨wb, off, none⟩) W.length cap) := hb.cell 0
  have c1 : w.cell? ⟨b, 1, none⟩ = some (.int .i64 (k : Nat)) := hb.cell 1
  have c2 : w.cell? ⟨b, 2, none⟩ = some (.int .i64 s.code) := hb.cell 2
  by_cases h0 : s.code = 0
  · have hf : s.fail T c = ⟨s.rest, c, (T : Int) - (s.rest.length : Int)⟩ := by unfold PSt.fail; rw [if_pos h0]
    have Hf := Lib.hid hf
    clear hf
    go_enter Tryz.func57, Tryz.ntmps57
    go_wp2_with fail
    refine wp_region_n (fun w' => w'.cell? ⟨b, 0, none⟩ = some (.slice (some ⟨wb, off, none⟩) W.length cap) ∧ w'.cell? ⟨b, 1, none⟩ = some (.int .i64 (k : Nat)) ∧ w'.cell? ⟨wb, off + k * 2 + 1, none⟩ = some (.int .i64 ((T : Int) - (s.rest.length : Int)))) [14, 15, 16] (by kernel_rfl) ?_ (fun hSh => ?_)
    · exact ⟨c0, c1, e2⟩
    refine n_take (v := ?_) 0 rfl (Or.inl ⟨by rfl, ?_⟩) (by kernel_rfl) (fun _ _ _ h => h) (by assumption) ?_
    rotate_left 1
    · (intro w' hSw; (try dsimp only at hSw); go_simp; try with_reducible rfl)
    simp only [Act.put, List.getElem_toArray, List.getElem_cons_zero, List.getElem_cons_succ, List.setIfInBounds_toArray, List.set_cons_zero, List.set_cons_succ]
    refine n_take (v := ?_) 1 rfl (Or.inl ⟨by rfl, ?_⟩) (by kernel_rfl) (fun _ _ _ h => h) (by assumption) ?_
    rotate_left 1
    · (intro w' hSw; (try dsimp only at hSw); go_simp; try with_reducible rfl)
    simp only [Act.put, List.getElem_toArray, List.getElem_cons_zero, List.getElem_cons_succ, List.setIfInBounds_toArray, List.set_cons_zero, List.set_cons_succ]
    refine n_take (v := ?_) 2 rfl (Or.inl ⟨by rfl, ?_⟩) (by kernel_rfl) (fun _ _ _ h => h) (by assumption) ?_
    rotate_left 1
    · (intro w' hSw; (try dsimp only at hSw); go_simp; try with_reducible rfl)
    simp only [Act.put, List.getElem_toArray, List.getElem_cons_zero, List.getElem_cons_succ, List.setIfInBounds_toArray, List.set_cons_zero, List.set_cons_succ]
    refine n_take (v := ?_) 3 rfl (Or.inl ⟨by rfl, ?_⟩) (by kernel_rfl) (fun _ _ _ h => h) (by assumption) ?_
    rotate_left 1
    · (intro w' hSw; (try dsimp only at hSw); go_simp; try with_reducible rfl)
    simp only [Act.put, List.getElem_toArray, List.getElem_cons_zero, List.getElem_cons_succ, List.setIfInBounds_toArray, List.set_cons_zero, List.set_cons_succ]
    refine n_take (v := ?_) 4 rfl (Or.inl ⟨by rfl, ?_⟩) (by kernel_rfl) (fun _ _ _ h => h) (by assumption) ?_
    rotate_left 1
    · (intro w' hSw; (try dsimp only at hSw); go_simp; try with_reducible rfl)
    simp only [Act.put, List.getElem_toArray, List.getElem_cons_zero, List.getElem_cons_succ, List.setIfInBounds_toArray, List.set_cons_zero, List.set_cons_succ]
    refine n_take (v := ?_) 5 rfl (Or.inl ⟨by rfl, ?_⟩) (by kernel_rfl) (fun _ _ _ h => h) (by assumption) ?_
    rotate_left 1
    · (intro w' hSw; (try dsimp only at hSw); go_simp; try with_reducible rfl)
    simp only [Act.put, List.getElem_toArray, List.getElem_cons_zero, List.getElem_cons_succ, List.setIfInBounds_toArray, List.set_cons_zero, List.set_cons_succ]
    refine n_take (v := ?_) 6 rfl (Or.inl ⟨by rfl, ?_⟩) (by kernel_rfl) (fun _ _ _ h => h) (by assumption) ?_
    rotate_left 1
    · (intro w' hSw; (try dsimp only at hSw); go_simp; try with_reducible rfl)
    simp only [Act.put, List.getElem_toArray, List.getElem_cons_zero, List.getElem_cons_succ, List.setIfInBounds_toArray, List.set_cons_zero, List.set_cons_succ]
    refine n_take (v := ?_) 7 rfl (Or.inl ⟨by rfl, ?_⟩) (by kernel_rfl) (fun _ _ _ h => h) (by assumption) ?_
    rotate_left 1
    · (intro w' hSw; (try dsimp only at hSw); go_simp; try with_reducible rfl)
    simp only [Act.put, List.getElem_toArray, List.getElem_cons_zero, List.getElem_cons_succ, List.setIfInBounds_toArray, List.set_cons_zero, List.set_cons_succ]
    refine n_take (v := ?_) 8 rfl (Or.inl ⟨by rfl, ?_⟩) (by kernel_rfl) (fun _ _ _ h => h) (by assumption) ?_
    rotate_left 1
    · (intro w' hSw; (try dsimp only at hSw); go_simp; try with_reducible rfl)
    simp only [Act.put, List.getElem_toArray, List.getElem_cons_zero, List.getElem_cons_succ, List.setIfInBounds_toArray, List.set_cons_zero, List.set_cons_succ]
    refine n_take (v := ?_) 9 rfl (Or.inl ⟨by rfl, ?_⟩) (by kernel_rfl) (fun _ _ _ h => h) (by assumption) ?_
    rotate_left 1
    · (intro w' hSw; (try dsimp only at hSw); go_simp; try with_reducible rfl)
    simp only [Act.put, List.getElem_toArray, List.getElem_cons_zero, List.getElem_cons_succ, List.setIfInBounds_toArray, List.set_cons_zero, List.set_cons_succ]
    refine n_take (v := ?_) 10 rfl (Or.inl ⟨by rfl, ?_⟩) (by kernel_rfl) (fun _ _ _ h => h) (by assumption) ?_
    rotate_left 1
    · (intro w' hSw; (try dsimp only at hSw); go_simp; try with_reducible rfl)
    simp only [Act.put, List.getElem_toArray, List.getElem_cons_zero, List.getElem_cons_succ, List.setIfInBounds_toArray, List.set_cons_zero, List.set_cons_succ]
    refine n_take (v := ?_) 11 rfl (Or.inl ⟨by rfl, ?_⟩) (by kernel_rfl) (fun _ _ _ h => h) (by assumption) ?_
    rotate_left 1
    · (intro w' hSw; (try dsimp only at hSw); go_simp; try with_reducible rfl)
    simp only [Act.put, List.getElem_toArray, List.getElem_cons_zero, List.getElem_cons_succ, List.setIfInBounds_toArray, List.set_cons_zero, List.set_cons_succ]
    refine n_take (v := ?_) 12 rfl (Or.inl ⟨by rfl, ?_⟩) (by kernel_rfl) (fun _ _ _ h => h) (by assumption) ?_
    rotate_left 1
    · (intro w' hSw; (try dsimp only at hSw); go_simp; try with_reducible rfl)
    simp only [Act.put, List.getElem_toArray, List.getElem_cons_zero, List.getElem_cons_succ, List.setIfInBounds_toArray, List.set_cons_zero, List.set_cons_succ]
    refine n_take (v := ?_) 13 rfl (Or.inl ⟨by rfl, ?_⟩) (by kernel_rfl) (fun _ _ _ h => h) (by assumption) ?_
    rotate_left 1
    · (intro w' hSw; (try dsimp only at hSw); go_simp; try with_reducible rfl)
    simp only [Act.put, List.getElem_toArray, List.getElem_cons_zero, List.getElem_cons_succ, List.setIfInBounds_toArray, List.set_cons_zero, List.set_cons_succ]
    refine n_step 14 rfl (by kernel_rfl) ?_
    go_wp2_with fail
    refine ⟨fun hx => absurd hx (by decide), fun _ => ?_⟩
    refine n_step 15 rfl (by kernel_rfl) ?_
    go_wp2_with fail
    refine ⟨fun hx => absurd hx (by decide), fun _ => ?_⟩
    have f2 : w.frozen? ⟨b, 2, none⟩ = false := hb.free 2
    have f3 : w.frozen? ⟨b, 3, none⟩ = false := hb.free 3
    have d3 : w.cell? ⟨b, 3, none⟩ = some (.int .i64 s.at') := hb.cell 3
    refine n_step 16 rfl (by kernel_rfl) ?_
    go_wp2_with fail
    refine ⟨fun hx => absurd hx (by decide), fun _ => ?_⟩
    refine n_done (by kernel_rfl) ?_
    go_wp2_with fail
    refine bodyPost_ret (v := .tuple #[]) (by simp [results, Tryz.results57, go_sem]) rfl ?_
    rw [Hf.out]
    have hb9 := (hb.set 2 (.int .i64 c)).set 3 (.int .i64 ((T : Int) - (s.rest.length : Int)))
    have hc9 : Chg (OneB b) w _ := (((Chg.refl (OneB b) w).setCell (p := ⟨b, 2, none⟩) (.inl rfl) (.int .i64 c)).setCell (p := ⟨b, 3, none⟩) (.inl rfl) (.int .i64 ((T : Int) - (s.rest.length : Int)))).drew
    exact ⟨rfl, h.next hc9 (k := k) hb9.drew hdr, hc9⟩
  · have hf : s.fail T c = s := by unfold PSt.fail; rw [if_neg h0]
    have Hf := Lib.hid hf
    clear hf
    go_enter Tryz.func57, Tryz.ntmps57
    go_wp2_with fail
    refine bodyPost_ret (v := .tuple #[]) (by simp [results, Tryz.results57, go_sem]) rfl ?_
    rw [Hf.out]
    exact ⟨rfl, h, Chg.refl _ _⟩
theorem fail_code {T : Nat} {c : Int} {s : PSt} (hc : c ≠ 0) : (s.fail T c).code ≠ 0 := by
  unfold PSt.fail
  split
  · exact hc
  · assumption
theorem take_fail {T : Nat} {ok : Bool} {s : PSt} (h : ok = false ∨ s.rest = []) : s.take T ok = s.fail T 1 := by
  unfold PSt.take PSt.fail
  split
  · rw [if_neg]
    rintro ⟨a, b⟩
    rcases h with h | h
    · rw [h] at a; cases a
    · exact b h
  · rfl
def RetTake (b T : Nat) (wv : Value) (W : List (List UInt8 × Int)) (s : PSt) (ok : Bool) (w : World) (en : Ending) (w' : World) : Prop :=
  en = .returned (.string ⟨(tok s.rest).toArray⟩) ∧ Prs b T wv W (s.take T ok) w' ∧ Chg (OneB b) w w'
theorem Prs.code {b T : Nat} {wv : Value} {W : List (List UInt8 × Int)} {s : PSt} {w : World} (h : Prs b T wv W s w) : w.cell? ⟨b, 2, none⟩ = some (.int .i64 s.code) := by
  obtain ⟨k, h1, _⟩ := h.blk
  exact h1.cell 2

set_option maxHeartbeats 1000000 in
theorem take_any {b T : Nat} {wv : Value} {W : List (List UInt8 × Int)} {s : PSt} {w : World} (ok : Bool) (h : Prs b T wv W s w) :
    Calls Tryz.prog 84 #[.pointer (some ⟨b, 0, none⟩), .bool ok] w (RetTake b T wv W s ok w) := by
  by_cases hok : ok = true ∧ s.rest ≠ []
  · obtain ⟨rfl, hne⟩ := hok
    have hE : (tok s.rest).isEmpty = false := by simpa using fun e => hne (tok_nil.1 e)
    have Hne := Lib.hid hne
    clear hne
    go_enter Tryz.func84, Tryz.ntmps84
    go_wp2_with fail
    refine (word_any h).mono ?_
    rintro en w1 ⟨rfl, hc1⟩
    have h1 := h.keep0 hc1
    have hW := h.len
    obtain ⟨k, wb, off, cap, hk, rfl, hwb, hlt, hb, -, -, hnx, -⟩ := h1.look
    have Hnx := Lib.hid hnx
    clear hnx
    have c1 : w1.cell? ⟨b, 1, none⟩ = some (.int .i64 (k : Nat)) := hb.cell 1
    have f1 : w1.frozen? ⟨b, 1, none⟩ = false := hb.free 1
    have c2 : w1.cell? ⟨b, 2, none⟩ = some (.int .i64 s.code) := hb.cell 2
    have hc1' : Chg (OneB b) w w1 := hc1.mono (fun _ _ e => NoB.elim e)
    by_cases h0 : s.code = 0
    · have ht := take_yes (T := T) h0 rfl Hne.out
      have Ht := Lib.hid ht
      clear ht
      go_wp2_with fail
      go_ret
      have hb9 := hb.set 1 (.int .i64 ((k + 1 : Nat) : Int))
      have hc9 := hc1'.setCell (p := ⟨b, 1, none⟩) (.inl rfl) (.int .i64 ((k + 1 : Nat) : Int))
      refine ⟨rfl, ?_, hc9⟩
      rw [Ht.out]
      rw [h0] at hb9
      exact h.next hc9 (k := k + 1) hb9 (Hnx.out Hne.out)
    · have ht := take_stick (T := T) (ok := true) h0
      have Ht := Lib.hid ht
      clear ht
      go_wp2_with fail
      go_ret
      refine ⟨rfl, ?_, hc1'⟩
      rw [Ht.out]
      exact h1
  · have hor : ok = false ∨ s.rest = [] := by
      cases ok
      · exact .inl rfl
      · by_cases e : s.rest = []
        · exact .inr e
        · exact absurd ⟨rfl, e⟩ hok
    have ht := take_fail (T := T) hor
    have Ht := Lib.hid ht
    have hfc := fail_code (T := T) (c := 1) (s := s) (by decide)
    clear hok ht
    have hend : ∀ w1, Chg NoB w w1 → Calls Tryz.prog 57 #[.pointer (some ⟨b, 0, none⟩), .int .i64 1] w1 (RetNil (fun w' => Prs b T wv W (s.fail T 1) w' ∧ Chg (OneB b) w w' ∧ w'.cell? ⟨b, 2, none⟩ = some (.int .i64 (s.fail T 1).code))) := fun w1 hc1 =>
      (fail_any 1 (h.keep0 hc1)).mono fun en w' hq => ⟨hq.1, hq.2.1, (hc1.mono (fun _ _ e => NoB.elim e)).trans hq.2.2 (fun _ e => .inl e), hq.2.1.code⟩
    cases ok with
    | false =>
      clear hor
      go_enter Tryz.func84, Tryz.ntmps84
      go_wp2_with fail
      refine (word_any h).mono ?_
      rintro en w1 ⟨rfl, hc1⟩
      go_wp2_with fail
      refine (hend w1 hc1).mono ?_
      rintro en w2 ⟨rfl, h2, hc2, c2⟩
      go_wp2_with fail
      go_ret
      refine ⟨rfl, ?_, hc2⟩
      rw [Ht.out]
      exact h2
    | true =>
      have hE : (tok s.rest).isEmpty = true := by
        rcases hor with e | e
        · cases e
        · rw [e]; rfl
      clear hor
      go_enter Tryz.func84, Tryz.ntmps84
      go_wp2_with fail
      refine (word_any h).mono ?_
      rintro en w1 ⟨rfl, hc1⟩
      go_wp2_with fail
      refine (hend w1 hc1).mono ?_
      rintro en w2 ⟨rfl, h2, hc2, c2⟩
      go_wp2_with fail
      go_ret
      refine ⟨rfl, ?_, hc2⟩
      rw [Ht.out]
      exact h2

theorem str_ne {a b : ByteArray} (h : ¬ a = b) : (a.toList == b.toList) = false := by
  rw [beq_eq_false_iff_ne]
  intro e
  apply h
  rw [Lib.toList_data, Lib.toList_data] at e
  obtain ⟨x⟩ := a
  obtain ⟨y⟩ := b
  have e2 : x = y := Array.toList_inj.1 e
  rw [e2]
theorem idxFrom_drop (zs : List ByteArray) (x : ByteArray) (j : Nat) (hj : j < zs.length) : Lib.idxFromS (zs.drop j) x j = if zs[j] = x then (j : Int) else Lib.idxFromS (zs.drop (j + 1)) x (j + 1) := by
  rw [List.drop_eq_getElem_cons hj]
  rfl
def IxRel (zs : List ByteArray) (x : ByteArray) (w : World) (vj : Value) (wr : World) : Prop := ∃ j : Nat, j ≤ zs.length ∧ vj = .int .i64 (j : Nat) ∧ wr = w ∧ Lib.idxOfS zs x = Lib.idxFromS (zs.drop j) x j
set_option maxHeartbeats 400000 in
theorem index_any (zs : List ByteArray) (x : ByteArray) (b off cap : Nat) (w : World) (hl : zs.length ≤ 100) (hc : ∀ (j : Nat) (z : ByteArray), zs[j]? = some z → w.cell? ⟨b, off + j, none⟩ = some (.string z)) :
    Calls Tryz.prog 83 #[.slice (some ⟨b, off, none⟩) zs.length cap, .string x] w (fun e w' => e = .returned (.int .i64 (Lib.idxOfS zs x)) ∧ w' = w) := by
  go_enter Tryz.func83, Tryz.ntmps83
  have Hc := Lib.hid hc
  clear hc
  go_wp2_with fail
  go_loopw [5] (fun vj wr => IxRel zs x w vj wr) (fun vj _ => zs.length - (intOf vj).toNat)
  case atStart => exact ⟨0, Nat.zero_le _, rfl, rfl, rfl⟩
  case round =>
    obtain ⟨j, hj, rfl, rfl, heq⟩ := hrel
    by_cases hlt : j < zs.length
    · have hci := Hc.out j zs[j] (by simp [hlt])
      have hj2 := idxFrom_drop zs x j hlt
      have hltI : (j : Int) < (zs.length : Int) := by omega
      by_cases he : zs[j] = x
      · rw [if_pos he] at hj2
        have Heq := Lib.hid (heq.trans hj2)
        rw [he] at hci
        clear heq hj2 he
        go_wp2_with fail
        go_ret
        rw [Heq.out]
        exact ⟨rfl, rfl⟩
      · rw [if_neg he] at hj2
        have Heq := Lib.hid (heq.trans hj2)
        have he' : (zs[j].toList == x.toList) = false := str_ne he
        generalize zs[j] = z at *
        clear heq hj2 he
        go_wp2_with fail
        refine ⟨⟨j + 1, hlt, by go_num, rfl, Heq.out⟩, by simp [intOf]; omega⟩
    · have hje : j = zs.length := by omega
      have hres : Lib.idxOfS zs x = -1 := by rw [heq, List.drop_eq_nil_of_le (by omega)]; rfl
      have Hres := Lib.hid hres
      have hltI : ¬ (j : Int) < (zs.length : Int) := by omega
      clear heq hres hje
      go_wp2_with fail
      go_ret
      rw [Hres.out]
      exact ⟨rfl, rfl⟩
theorem dval_lt : ∀ (l : List UInt8) (acc : Nat), l.all digitB = true → ∃ m : Nat, dval l (acc : Int) = (m : Int) ∧ m < (acc + 1) * 10 ^ l.length
  | [], acc, _ => ⟨acc, rfl, by simp⟩
  | c :: r, acc, h => by
    simp only [List.all_cons, Bool.and_eq_true] at h
    have hc : 48 ≤ c.toNat ∧ c.toNat ≤ 57 := by simpa [digitB] using h.1
    obtain ⟨m, h1, h2⟩ := dval_lt r (acc * 10 + (c.toNat - 48)) h.2
    refine ⟨m, ?_, ?_⟩
    · simp only [dval]
      rw [← h1]
      congr 1
      omega
    · refine Nat.lt_of_lt_of_le h2 ?_
      rw [List.length_cons, Nat.pow_succ, Nat.mul_comm (10 ^ r.length) 10, ← Nat.mul_assoc]
      exact Nat.mul_le_mul_right _ (by omega)
def NuRel (ds : List UInt8) (w : World) (vn vi : Value) (wr : World) : Prop := ∃ (i : Nat) (m : Nat), i ≤ ds.length ∧ i ≤ 4 ∧ vi = .int .i64 (i : Nat) ∧ vn = .int .i64 (m : Nat) ∧ wr = w ∧ dval (ds.take i) 0 = (m : Int) ∧ m ≤ 9999
set_option maxHeartbeats 1000000 in
theorem numberOf_any (ds : List UInt8) (w : World) (hl : ds.length ≤ 8000) (ha : ds.all digitB = true) :
    Calls Tryz.prog 85 #[.string ⟨ds.toArray⟩, .int .i64 4] w (fun e w' => e = .returned (.int .i64 (numberF ds)) ∧ w' = w) := by
  have hsz : (⟨ds.toArray⟩ : ByteArray).size = ds.length := rfl
  go_enter Tryz.func85, Tryz.ntmps85
  have Ha := Lib.hid ha
  clear ha
  go_wp2_with fail
  go_loopw [5, 6] (fun vn vi wr => NuRel ds w vn vi wr) (fun _ vi _ => ds.length - (intOf vi).toNat)
  case atStart => exact ⟨0, 0, Nat.zero_le _, by decide, rfl, rfl, rfl, rfl, by decide⟩
  case round =>
    obtain ⟨i, m, hi, hi4, rfl, rfl, rfl, hd, hm⟩ := hrel
    by_cases hlt : i < ds.length
    · have hltI : (i : Int) < (ds.length : Int) := by omega
      have hget : (⟨ds.toArray⟩ : ByteArray)[i]'hlt = ds[i]'hlt := rfl
      have hdig : digitB (ds[i]'hlt) = true := List.all_eq_true.1 Ha.out _ (List.getElem_mem hlt)
      have hD := isDigit_any (ds[i]'hlt) wr
      rw [hdig] at hD
      have hc : 48 ≤ (ds[i]'hlt).toNat ∧ (ds[i]'hlt).toNat ≤ 57 := by simpa [digitB] using hdig
      by_cases h4 : i < 4
      · have h4I : ¬ (4 : Int) ≤ (i : Int) := by omega
        have hd2 : dval (ds.take (i + 1)) 0 = (m : Int) * 10 + ((((ds[i]'hlt).toNat : Nat) : Int) - 48) := by
          rw [List.take_succ_eq_append_getElem hlt, dval_snoc, hd]
        have hm2 : m * 10 + ((ds[i]'hlt).toNat - 48) ≤ 9999 := by
          obtain ⟨m', e1, e2⟩ := dval_lt (ds.take (i + 1)) 0 (List.all_eq_true.2 fun x hx => List.all_eq_true.1 Ha.out x (List.mem_of_mem_take hx))
          have e3 : dval (ds.take (i + 1)) 0 = (m' : Int) := e1
          rw [hd2] at e3
          have e4 : (ds.take (i + 1)).length ≤ 4 := by rw [List.length_take]; omega
          have e5 : 10 ^ (ds.take (i + 1)).length ≤ 10 ^ 4 := Nat.pow_le_pow_right (by decide) e4
          omega
        have Hd2 := Lib.hid hd2
        clear hd hd2 hdig hget
        generalize hx : ds[i]'hlt = x at *
        have hx2 : (⟨ds.toArray⟩ : ByteArray)[i]'hlt = x := hx
        have hx48 : (48 : Int) ≤ (x.toNat : Int) := by omega
        have hx57 : (x.toNat : Int) ≤ 57 := by omega
        clear hx
        go_wp2_with fail
        refine hD.mono ?_
        rintro en w0 ⟨rfl, h0⟩
        obtain rfl := h0.symm
        clear h0
        go_wp2_with fail
        refine ⟨⟨i + 1, m * 10 + (x.toNat - 48), hlt, h4, by go_num, ?_, rfl, ?_, hm2⟩, by simp [intOf]; omega⟩
        · congr 1; omega
        · rw [Hd2.out]; omega
      · have h4I : (4 : Int) ≤ (i : Int) := by omega
        have hres : numberF ds = -1 := by unfold numberF; rw [if_pos (by omega)]
        have Hres := Lib.hid hres
        clear hd hdig hget hres
        generalize hx : ds[i]'hlt = x at *
        have hx2 : (⟨ds.toArray⟩ : ByteArray)[i]'hlt = x := hx
        clear hx
        go_wp2_with fail
        refine hD.mono ?_
        rintro en w0 ⟨rfl, h0⟩
        obtain rfl := h0.symm
        clear h0
        go_wp2_with fail
        go_ret
        rw [Hres.out]
        exact ⟨rfl, rfl⟩
    · have hltI : ¬ (i : Int) < (ds.length : Int) := by omega
      have hd2 : dval ds 0 = (m : Int) := by rw [← hd, List.take_of_length_le (by omega)]
      have hlen4 : ¬ 4 < ds.length := by omega
      clear hd
      rcases ds with _ | ⟨d, r⟩
      · have hres : numberF [] = -1 := rfl
        have Hres := Lib.hid hres
        clear hres hd2
        go_wp2_with fail
        go_ret
        rw [Hres.out]
        exact ⟨rfl, rfl⟩
      · have hpos : 0 < (⟨(d :: r).toArray⟩ : ByteArray).size := Nat.succ_pos _
        by_cases h1 : 1 < (d :: r).length
        · by_cases h48 : d.toNat = 48
          · have hres : numberF (d :: r) = -1 := by
              unfold numberF
              rw [if_neg hlen4, if_pos (.inr ⟨h1, by rw [List.head?_cons, show d = 48 from UInt8.toNat_inj.1 h48]⟩)]
            have Hres := Lib.hid hres
            have h1I : (1 : Int) < ((r.length : Nat) : Int) + 1 := by simp only [List.length_cons] at h1; omega
            have h48' : ((((⟨(d :: r).toArray⟩ : ByteArray)[0]'hpos).toNat : Int) == 48) = true := by show ((d.toNat : Int) == 48) = true; simp [h48]
            clear hres hd2 h48
            go_wp2_with fail
            go_ret
            rw [Hres.out]
            exact ⟨rfl, rfl⟩
          · have hres : numberF (d :: r) = (m : Int) := by
              unfold numberF
              rw [if_neg hlen4, if_neg (by
                rintro (e | ⟨_, e⟩)
                · cases e
                · rw [List.head?_cons] at e
                  have := Option.some.inj e
                  subst this
                  exact h48 rfl), hd2]
            have Hres := Lib.hid hres
            have h1I : (1 : Int) < ((r.length : Nat) : Int) + 1 := by simp only [List.length_cons] at h1; omega
            have h48' : ((((⟨(d :: r).toArray⟩ : ByteArray)[0]'hpos).toNat : Int) == 48) = false := by show ((d.toNat : Int) == 48) = false; simp; omega
            clear hres hd2 h48
            go_wp2_with fail
            go_ret
            rw [Hres.out]
            exact ⟨rfl, rfl⟩
        · have hres : numberF (d :: r) = (m : Int) := by
            unfold numberF
            rw [if_neg hlen4, if_neg (by
              rintro (e | ⟨e, _⟩)
              · cases e
              · exact h1 e), hd2]
          have Hres := Lib.hid hres
          have h1I : ¬ (1 : Int) < ((r.length : Nat) : Int) + 1 := by simp only [List.length_cons] at h1; omega
          clear hres hd2
          go_wp2_with fail
          go_ret
          rw [Hres.out]
          exact ⟨rfl, rfl⟩
end Go.Proofs.YtfbbfhhhfbibjaaGreatDoor
