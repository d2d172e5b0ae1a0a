/-
  schema.Leaves.
-/
import Derived.Test.YtfbbfhhhfbibjaaDoorProj
namespace Go.Proofs.YtfbbfhhhfbibjaaDoor
open Go.RowKit

def RetLv (E : Er → Value) (nd : Nd) (w : World) (en : Ending) (w' : World) : Prop :=
  Chg NoB w w' ∧ match validF nd with
    | some e => en = .returned (.tuple #[.slice none 0 0, E e])
    | none => ∃ a c, en = .returned (.tuple #[.slice a (leavesOf nd).length c, .nilIface]) ∧ Reads w' (fun b => w.heap.size ≤ b) (.list 5 ((leavesOf nd).map Lf.dt)) [.slice a (leavesOf nd).length c]

def zeroLf : Lf := ⟨0, 0, 0, 0, []⟩

set_option maxHeartbeats 1000000 in
theorem leavesAll_any (nd : Nd) (w : World) (S : Nat → Prop) (cs : List Value) (E : Er → Value) (hE : Errs w E) (hok : nd.ok) (hr : Reads w S nd.dt cs) (hSB : ∀ b, S b → b < w.heap.size) :
    Calls Tryd.prog 13 #[.agg cs.toArray] w (RetLv E nd w) := by
  have hr' := hr
  obtain ⟨i, nm, r, k, sb⟩ := nd
  obtain ⟨sv, rfl, hs⟩ := reads_nd.1 hr'
  obtain ⟨sa, cap, rfl, _, _, _⟩ := reads_subs hs
  go_enter Tryd.func13, Tryd.ntmps13
  go_wp2_with fail
  generalize hw1 : w.alloc _ = w1
  have hc1 : Chg NoB w w1 := by
    rw [← hw1]
    repeat (first | exact Chg.refl _ _ | apply Chg.alloc | apply Chg.drew)
  have hb0 : Blk w1 (w.heap.size) (ndCells i nm r k (.slice sa sb.length cap)) 24 := by
    rw [← hw1]
    repeat (first | exact Blk.newAt (by first | rfl | (simp; done) | (simp; omega)) | apply Blk.alloc | apply Blk.drew)
  clear hw1
  have hsz1 := hc1.size
  refine (valid_any (.mk i nm r k sb) w1 S _ E (hE.keep0 hc1) hok (hr.chg0 hc1) (fun b hb => by have := hSB b hb; omega)).mono ?_
  rintro en w2 ⟨rfl, hc2⟩
  replace hb0 := hb0.keep hc2 NoB.elim
  replace hc2 := hc1.tr hc2
  have x0 : w2.cell? ⟨w.heap.size, 0, none⟩ = some (.int .i64 (i)) := hb0.cell 0
  have x1 : w2.cell? ⟨w.heap.size, 1, none⟩ = some (.string nm) := hb0.cell 1
  have x2 : w2.cell? ⟨w.heap.size, 2, none⟩ = some (.int .i64 (r)) := hb0.cell 2
  have x3 : w2.cell? ⟨w.heap.size, 3, none⟩ = some (.int .i64 (k)) := hb0.cell 3
  have x4 : w2.cell? ⟨w.heap.size, 4, none⟩ = some (.slice sa sb.length cap) := hb0.cell 4
  have l0 := hb0.lt
  cases hv : validF (.mk i nm r k sb) with
  | some e =>
    obtain ⟨T1, v, hEv⟩ := hE.form e
    rw [show errVal E (some e) = .iface T1 v from hEv]
    have HEv := Lib.hid hEv
    have Hv := Lib.hid hv
    clear hv hEv
    go_wp2_with fail
    refine bodyPost_ret (v := .tuple #[.slice none 0 0, .iface T1 v]) (by simp [results, Tryd.results13, go_sem]) rfl ?_
    unfold RetLv
    rw [Hv.out]
    exact ⟨hc2, congrArg (fun x => Ending.returned (.tuple #[.slice none 0 0, x])) HEv.out.symm⟩
  | none =>
    rw [show errVal E none = .nilIface from rfl]
    have hh := (schema_of_valid hv).high
    have hw := (schema_of_valid hv).small
    have Hv := Lib.hid hv
    clear hv
    go_wp2_with fail
    have hz : Reads w2 (fun _ => False) zeroLf.dt [.int .i64 0, .int .i64 0, .int .i64 0, .int .i64 0, .slice none 0 0] := reads_lf.2 ⟨_, rfl, none, 0, rfl, Nat.le_refl _, Nat.zero_le _, .inl ⟨rfl, fun _ => rfl⟩⟩
    refine (leaves_any _ (.mk i nm r k sb) w2 S _ _ _ zeroLf (Nat.le_refl _) (hr.chg0 hc2) hok hz (by omega) (by decide) (by simp only [zeroLf]; omega) (by decide) (by simp only [zeroLf]; omega) (by simp only [zeroLf, List.length_nil]; omega)).mono ?_
    rintro en w3 ⟨a, c, rfl, hrd, hc3⟩
    rw [List.length_map] at hrd ⊢
    have hc03 := hc2.tr hc3
    go_wp2_with fail
    refine bodyPost_ret (v := .tuple #[.slice a (lvL zeroLf.mr zeroLf.md zeroLf.path (Nd.mk i nm r k sb).sub).length c, .nilIface]) (by simp [results, Tryd.results13, go_sem]) rfl ?_
    unfold RetLv
    rw [Hv.out]
    refine ⟨hc03, a, c, rfl, hrd.mono (fun b hb => ?_)⟩
    have := hc2.size
    rcases hb with hb | hb
    · exact hb.elim
    · omega
end Go.Proofs.YtfbbfhhhfbibjaaDoor
