/-
  How long a right schema's text is. Plain.; schema.Leaves.
-/
import Derived.Test.YtkchmgjmecojcaaGreatDoorPlain
import Derived.Test.YtkchmgjmecojcaaGreatDoorProj
set_option linter.unusedVariables false
set_option maxHeartbeats 20000000
set_option maxRecDepth 100000
set_option linter.unusedSimpArgs false
namespace Go.Proofs.YtkchmgjmecojcaaGreatDoor
open Go.RowKit
theorem rep_len : ∀ p : Fin 4, (repS (p.val : Int)).length ≤ 8 := by decide +kernel
theorem kind_len : ∀ p : Fin 6, (kindS (p.val : Int)).length ≤ 6 := by decide +kernel
theorem head_len {n : Nd} (h : Right n) (ind : List UInt8) : (headS n.id n.name n.rep n.kind ind).length ≤ ind.length + 36 := by
 obtain ⟨b1, b2, b3, b4, b5, b6, b7, b8, b9⟩ := h
 obtain ⟨rn, hrn⟩ := Int.eq_ofNat_of_zero_le (show 0 ≤ n.rep by omega)
 obtain ⟨kn, hkn⟩ := Int.eq_ofNat_of_zero_le b3
 have h1 := rep_len ⟨rn, by omega⟩
 have h2 := kind_len ⟨kn, by omega⟩
 have h3 := (num_all b8 b9).2.2
 have h4 : n.name.size ≤ 12 := by
  unfold isNameB at b7
  rw [Bool.and_eq_true, Bool.and_eq_true] at b7
  exact of_decide_eq_true b7.1.2
 simp only at h1 h2
 unfold headS
 rw [hrn, hkn]
 simp only [List.length_append, List.length_cons, List.length_nil, length_data]
 omega
mutual
theorem text_len : ∀ (n : Nd) (ind : List UInt8) (M : Nat), n.All Right → ind.length + 2 * n.high ≤ M → (textN n ind).length ≤ n.weigh * (2 * M + 60)
 | .mk i nm r k s, ind, M, hA, hM => by
  have h1 := head_len hA.1 ind
  simp only [Nd.id, Nd.name, Nd.rep, Nd.kind] at h1
  simp only [Nd.high] at hM
  have h2 := texts_len s (ind ++ [32, 32]) M hA.2 (by simp only [List.length_append, List.length_cons, List.length_nil]; omega)
  simp only [textN, Nd.weigh, Nat.add_mul, Nat.one_mul]
  rw [List.length_append]
  split
  ·simp only [List.length_append, List.length_cons, List.length_nil]
   omega
  ·simp only [List.length_cons, List.length_nil]
   omega
theorem texts_len : ∀ (l : List Nd) (ind : List UInt8) (M : Nat), Nd.Alls Right l → ind.length + 2 * Nd.highs l ≤ M → (textL l ind).length ≤ Nd.weighs l * (2 * M + 60)
 | [], ind, M, hA, hM => by simp [textL]
 | n :: ns, ind, M, hA, hM => by
  simp only [Nd.highs] at hM
  have h1 := text_len n ind M hA.1 (by omega)
  have h2 := texts_len ns ind M hA.2 (by omega)
  simp only [textL, Nd.weighs, List.length_append, Nat.add_mul]
  omega
end
mutual
theorem fine_of : ∀ (n : Nd), n.All Right → n.fine
 | .mk i nm r k s, h => ⟨h.1.1, h.1.2.1, h.1.2.2.1, h.1.2.2.2.1, fines_of s h.2⟩
theorem fines_of : ∀ (l : List Nd), Nd.Alls Right l → Nd.fines l
 | [], h => trivial
 | n :: ns, h => ⟨fine_of n h.1, fines_of ns h.2⟩
end
theorem good_of {nd : Nd} (hv : validF nd = none) : Nd.fines nd.sub ∧ (textL nd.sub []).length ≤ 140737488355328 := by
 have hS := schema_of_valid hv
 have h1 := hS.high
 have h2 := hS.small
 refine ⟨fines_of _ hS.right, ?_⟩
 have h3 := texts_len nd.sub [] 12 hS.right (by
  obtain ⟨i, nm, r, k, s⟩ := nd
  simp only [Nd.high, Nd.sub] at h1 ⊢
  simp only [List.length_nil]
  omega)
 have h4 : Nd.weighs nd.sub ≤ 40 := by
  obtain ⟨i, nm, r, k, s⟩ := nd
  simp only [Nd.weigh, Nd.sub] at h2 ⊢
  omega
 have h5 : Nd.weighs nd.sub * (2 * 12 + 60) ≤ 40 * (2 * 12 + 60) := Nat.mul_le_mul_right _ h4
 omega
def RetLv (E : Er → Value) (nd : Nd) (w : World) (en : Ending) (w' : World) : Prop :=
 Chg NoB w w' ∧ match validF nd with
  | some e => en = .returned (.tuple #[.slice none 0 0, E e])
  | none => ∃ a c, en = .returned (.tuple #[.slice a (leavesOf nd).length c, .nilIface]) ∧ Reads w' (fun b => w.heap.size ≤ b) (.list 5 ((leavesOf nd).map Lf.dt)) [.slice a (leavesOf nd).length c]
def zeroLf : Lf := ⟨0, 0, 0, 0, []⟩
theorem leavesAll_any (nd : Nd) (w : World) (S : Nat → Prop) (cs : List Value) (E : Er → Value) (hE : Errs w E) (hok : nd.ok) (hr : Reads w S nd.dt cs) (hSB : ∀ b, S b → b < w.heap.size) :
  Calls Tryz.prog 18 #[.agg cs.toArray] w (RetLv E nd w) := by
 have hr' := hr
 obtain ⟨i, nm, r, k, sb⟩ := nd
 obtain ⟨sv, rfl, hs⟩ := reads_nd.1 hr'
 obtain ⟨sa, cap, rfl, _, _, _⟩ := reads_subs hs
 go_enter Tryz.func18, Tryz.ntmps18
 go_wp2_with fail
 generalize hw1 : w.alloc _ = w1
 have hc1 : Chg NoB w w1 := by
  rw [← hw1]
  repeat (first | exact Chg.refl _ _ | apply Chg.alloc | apply Chg.drew)
 have hb0 : Blk w1 (w.heap.size) (ndCells i nm r k (.slice sa sb.length cap)) 33 := by
  rw [← hw1]
  repeat (first | exact Blk.newAt (by first | rfl | (simp; done) | (simp; omega)) | apply Blk.alloc | apply Blk.drew)
 clear hw1
 have hsz1 := hc1.size
 refine (valid_any (.mk i nm r k sb) w1 S _ E (hE.keep0 hc1) hok (hr.chg0 hc1) (fun b hb => by have := hSB b hb; omega)).mono ?_
 rintro en w2 ⟨rfl, hc2⟩
 replace hb0 := hb0.keep hc2 nbE
 replace hc2 := hc1.tr hc2
 have x0 : w2.cell? ⟨w.heap.size, 0, none⟩ = some (.int .i64 (i)) := hb0.cell 0
 have x1 : w2.cell? ⟨w.heap.size, 1, none⟩ = some (.string nm) := hb0.cell 1
 have x2 : w2.cell? ⟨w.heap.size, 2, none⟩ = some (.int .i64 (r)) := hb0.cell 2
 have x3 : w2.cell? ⟨w.heap.size, 3, none⟩ = some (.int .i64 (k)) := hb0.cell 3
 have x4 : w2.cell? ⟨w.heap.size, 4, none⟩ = some (.slice sa sb.length cap) := hb0.cell 4
 have l0 := hb0.lt
 cases hv : validF (.mk i nm r k sb) with
 | some e =>
  obtain ⟨T1, v, hEv⟩ := hE.form e
  rw [show errVal E (some e) = .iface T1 v from hEv]
  have HEv := Lib.hid hEv
  have Hv := Lib.hid hv
  clear hv hEv
  go_wp2_with fail
  refine bodyPost_ret (v := .tuple #[.slice none 0 0, .iface T1 v]) (by simp [results, Tryz.results18, go_sem]) rfl ?_
  unfold RetLv
  rw [Hv.out]
  exact ⟨hc2, congrArg (fun x => Ending.returned (.tuple #[.slice none 0 0, x])) HEv.out.symm⟩
 | none =>
  rw [show errVal E none = .nilIface from rfl]
  have hh := (schema_of_valid hv).high
  have hw := (schema_of_valid hv).small
  have Hv := Lib.hid hv
  clear hv
  go_wp2_with fail
  have hz : Reads w2 (fun _ => False) zeroLf.dt [.int .i64 0, .int .i64 0, .int .i64 0, .int .i64 0, .slice none 0 0] := reads_lf.2 ⟨_, rfl, none, 0, rfl, Nat.le_refl _, Nat.zero_le _, .inl ⟨rfl, fun _ => rfl⟩⟩
  refine (leaves_any _ (.mk i nm r k sb) w2 S _ _ _ zeroLf (Nat.le_refl _) (hr.chg0 hc2) hok hz (by omega) (by decide) (by simp only [zeroLf]; omega) (by decide) (by simp only [zeroLf]; omega) (by simp only [zeroLf, List.length_nil]; omega)).mono ?_
  rintro en w3 ⟨a, c, rfl, hrd, hc3⟩
  rw [List.length_map] at hrd ⊢
  have hc03 := hc2.tr hc3
  go_wp2_with fail
  refine bodyPost_ret (v := .tuple #[.slice a (lvL zeroLf.mr zeroLf.md zeroLf.path (Nd.mk i nm r k sb).sub).length c, .nilIface]) (by simp [results, Tryz.results18, go_sem]) rfl ?_
  unfold RetLv
  rw [Hv.out]
  refine ⟨hc03, a, c, rfl, hrd.mono (fun b hb => ?_)⟩
  have := hc2.size
  rcases hb with hb | hb
  ·exact hb.elim
  ·omega
end Go.Proofs.YtkchmgjmecojcaaGreatDoor
