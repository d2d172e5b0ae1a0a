/-
  What the reader's nodes call: the tables' index, a number, a fault.
-/
import Derived.Test.YtfbbfhhhfbibjaaGreatDoorParse
namespace Go.Proofs.YtfbbfhhhfbibjaaGreatDoor
open Go.RowKit

/-- What the package's variables hold, below block B. -/
structure Glo (B : Nat) (E : Er → Value) (w : World) : Prop where
  errs : Errs w E
  tabs : Tabs B w
  syn : ∃ T p, w.cell? ⟨12, 0, none⟩ = some (.iface T p)
  ran : ∃ T p, w.cell? ⟨13, 0, none⟩ = some (.iface T p)
  below : (∀ e : Er, e.g < B) ∧ 12 < B ∧ 13 < B
theorem Glo.keep {B : Nat} {E : Er → Value} {C : Nat → Prop} {w w' : World} (h : Glo B E w) (hc : Chg C w w') (hC : ∀ b, b < B → ¬ C b) : Glo B E w' := by
  refine ⟨⟨fun e => ?_, h.errs.form⟩, h.tabs.keep hc hC, ?_, ?_, h.below⟩
  · have h1 := h.errs.cell e
    exact (hc.cell (lt_of_cell h1) (hC _ (h.below.1 e))).trans h1
  · obtain ⟨T, p, h1⟩ := h.syn
    exact ⟨T, p, (hc.cell (lt_of_cell h1) (hC _ h.below.2.1)).trans h1⟩
  · obtain ⟨T, p, h1⟩ := h.ran
    exact ⟨T, p, (hc.cell (lt_of_cell h1) (hC _ h.below.2.2)).trans h1⟩
theorem Glo.keep0 {B : Nat} {E : Er → Value} {w w' : World} (h : Glo B E w) (hc : Chg NoB w w') : Glo B E w' := h.keep hc (fun _ _ => NoB.elim)
theorem Glo.one {B r : Nat} {E : Er → Value} {w w' : World} (h : Glo B E w) (hc : Chg (OneB r) w w') (hr : B ≤ r) : Glo B E w' := h.keep hc (fun b hb e => by have e : b = r := e; omega)

theorem idxR_any {B : Nat} (w : World) (x : List UInt8) (c : Nat) (h : Tabs B w) :
    Calls Tryz.prog 72 #[.slice (some ⟨0, 0, none⟩) 4 c, .string ⟨x.toArray⟩] w fun e w' => e = .returned (.int .i64 (idxT repT x)) ∧ w' = w :=
  Tryz.slices_Index_string 0 0 4 c repT ⟨x.toArray⟩ w (Nat.le_refl 4) (by decide) (fun j hj => by
    rw [Nat.zero_add]
    exact h.reps j _ (by rw [List.getElem?_eq_getElem hj]; simp [List.getD, hj]))
theorem idxK_any {B : Nat} (w : World) (x : List UInt8) (c : Nat) (h : Tabs B w) :
    Calls Tryz.prog 72 #[.slice (some ⟨1, 0, none⟩) 6 c, .string ⟨x.toArray⟩] w fun e w' => e = .returned (.int .i64 (idxT kindT x)) ∧ w' = w :=
  Tryz.slices_Index_string 1 0 6 c kindT ⟨x.toArray⟩ w (Nat.le_refl 6) (by decide) (fun j hj => by
    rw [Nat.zero_add]
    exact h.kinds j _ (by rw [List.getElem?_eq_getElem hj]; simp [List.getD, hj]))

/-- A number and an error (or none). -/
def RetNum (r : Option Int) (w : World) (en : Ending) (w' : World) : Prop :=
  ∃ v err, en = .returned (.tuple #[.int .i64 v, err]) ∧ Chg NoB w w' ∧ (∀ x, r = some x → v = x ∧ err = .nilIface) ∧ (r = none → ∃ T p, err = .iface T p)
theorem chg_bytes {e : TypeId} {w : World} {t : ByteArray} : Chg NoB w (Lib.bytesWorld w e t) := Chg.ofBelow (Lib.bytesWorld_below w e t)
theorem atoi_any {B : Nat} {E : Er → Value} (w : World) (s : ByteArray) (h : Glo B E w) (hs : s.size ≤ 281474976710656) :
    Calls Tryz.prog 79 #[.string s] w (RetNum (numOk s.data.toList) w) := by
  unfold numOk
  rcases ha : Lib.atoiAll s.data.toList with v | _ | _
  · refine (Tryz.strconv_Atoi_ok s (by omega) v ha w).mono ?_
    rintro e w' ⟨rfl, hw⟩
    refine ⟨v, .nilIface, rfl, ?_, fun x hx => ⟨Option.some.inj hx, rfl⟩, fun hx => by cases hx⟩
    rcases hw with rfl | ⟨t, rfl⟩
    · exact Chg.refl _ _
    · exact chg_bytes
  · obtain ⟨T, p, h1⟩ := h.syn
    refine (Any.strconv_Atoi_syntax Tryz.laysC172 s hs ha _ w h1 (.inr ⟨T, p, rfl⟩)).mono ?_
    rintro e w' ⟨N, rfl, _, _, hb⟩
    exact ⟨_, _, rfl, Chg.ofBelow hb, by simp, by simp⟩
  · obtain ⟨T, p, h1⟩ := h.ran
    refine (Tryz.strconv_Atoi_range s hs ha _ w h1 (.inr ⟨T, p, rfl⟩)).mono ?_
    rintro e w' ⟨N, rfl, _, _, hb⟩
    exact ⟨_, _, rfl, Chg.ofBelow hb, by simp, by simp⟩

/-- An error that tells a place. -/
def FaultAt (w : World) (ev : Value) (a : Nat) (v : Value) : Prop := ∃ p, v = .iface 112 (.pointer (some ⟨p, 0, none⟩)) ∧ Blk w p [.int .i64 (a : Int), ev] 116
theorem fault_any (r : Nat) (cs0 wd : Value) (a : Nat) (ev : Value) (w : World) (hb : Blk w r [cs0, .int .i64 (a : Int), wd] 94) (hev : ∃ T p, ev = .iface T p) :
    Calls Tryz.prog 52 #[.pointer (some ⟨r, 0, none⟩), ev] w fun en w' => ∃ v, en = .returned v ∧ FaultAt w' ev a v ∧ Chg NoB w w' := by
  obtain ⟨T, p, rfl⟩ := hev
  have c1 : w.cell? ⟨r, 1, none⟩ = some (.int .i64 (a : Int)) := hb.cell 1
  go_enter Tryz.func52, Tryz.ntmps52
  go_wp2_with fail
  go_ret
  exact ⟨_, rfl, ⟨w.heap.size, rfl, Blk.new w [.int .i64 (a : Int), .iface T p] 116⟩, (Chg.refl _ _).alloc _⟩
end Go.Proofs.YtfbbfhhhfbibjaaGreatDoor
