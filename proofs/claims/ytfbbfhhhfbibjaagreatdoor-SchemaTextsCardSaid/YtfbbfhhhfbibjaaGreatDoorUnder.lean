/-
  schema.Under: the leaves' IDs in the node with an ID.
-/
import Derived.Test.YtfbbfhhhfbibjaaGreatDoorWalkN
import Derived.Test.YtfbbfhhhfbibjaaGreatDoorFind
import Derived.Test.YtfbbfhhhfbibjaaGreatDoorLeaves
namespace Go.Proofs.YtfbbfhhhfbibjaaGreatDoor
open Go.RowKit

def underG (n : Nd) (_ : Int) (l : List Int) : Bool × List Int := (true, if n.kind = 0 then l else l ++ [n.id])
def GoU (k : Nat) (l : List Int) : Prop := l.length + k ≤ 1099511627776

set_option maxHeartbeats 1000000 in
theorem sees_under (B c : Nat) (hB : B ≤ c) : SeesN 62 #[.pointer (some ⟨c, 0, none⟩)] 3 B c (BoxL B c) underG Low GoU where
  enters := enters_of Tryz.func62 (by kernel_rfl) rfl
  lt := fun s w h => h.elim fun _ h => h.1.lt
  keep := fun s w w' h hc => by
    obtain ⟨v, h1, h2, h3⟩ := h
    exact ⟨v, h1.keep hc NoB.elim, h2.keep hc (fun _ e => e.elim) (fun _ _ => NoB.elim), h3⟩
  deep := fun n d h => h.deep
  down := fun n d s h _ => h.down
  go := fun n d s k _ hG _ => by
    simp only [underG, GoU] at hG ⊢
    split
    · omega
    · simp only [List.length_append, List.length_cons, List.length_nil]; omega
  call := by
    intro n d s w S cs kq hO hG hok hr hSB hBw hSt
    obtain ⟨v, hbk, hown, hvc⟩ := hSt
    unfold GoU at hG
    obtain ⟨i, nm, r, k, sb⟩ := n
    obtain ⟨sv, rfl, hs⟩ := reads_nd.1 hr
    obtain ⟨sa, cap, rfl, hlen', hcap, hel⟩ := reads_subs hs
    have hcl := hbk.lt
    obtain ⟨ao, c0, rfl⟩ := hown.form1
    have cq : w.cell? ⟨c, 0, none⟩ = some (.slice ao s.length c0) := hbk.cell 0
    have fq : w.frozen? ⟨c, 0, none⟩ = false := hbk.free 0
    by_cases hk : k = 0
    · subst hk
      have hfin : underG (.mk i nm r 0 sb) d s = (true, s) := by simp [underG, Nd.kind]
      rw [hfin]
      clear hfin
      go_enter Tryz.func62, Tryz.ntmps62
      go_wp2_with fail
      go_ret
      exact ⟨rfl, ⟨_, hbk.alloc _, hown.keep ((Chg.refl NoB w).alloc _) (fun _ e => e.elim) (fun _ _ => NoB.elim), hvc⟩, (Chg.refl _ _).alloc _⟩
    · have hfin : underG (.mk i nm r k sb) d s = (true, s ++ [i]) := by simp [underG, Nd.kind, Nd.id, hk]
      rw [hfin]
      have hk' : (k != 0) = true := by simpa using hk
      clear hfin hk
      go_enter Tryz.func62, Tryz.ntmps62
      go_wp2_with (at_builtin; refine stop_here ?_)
      refine Stop.go ?_
      generalize hw5 : (w.alloc _).alloc _ = w5
      have hc05 : Chg NoB w w5 := by
        rw [← hw5]
        repeat (first | exact Chg.refl _ _ | apply Chg.alloc | apply Chg.drew)
      have hb5 : Blk w5 (w.heap.size + 1) ([.int .i64 i]) 3 := by
        rw [← hw5]
        repeat (first | exact Blk.newAt (by first | rfl | (simp; done) | (simp; omega)) | apply Blk.alloc | apply Blk.drew)
      clear hw5
      have ho5 := hown.keep hc05 (fun _ hb => hb.elim) (fun _ _ => NoB.elim)
      refine wpList_own rfl (.tmp 9) (.tmp 12) 51 rfl B 3 Tryz.underlying51 infoInt rfl (by decide) rfl ho5 rfl [intDt i] [.int .i64 i] rfl (ReadsC.single rfl ⟨rfl, rfl⟩) hb5.news (fun e => by cases e) ?_ ?_ ?_ ?_
      · rw [List.length_map]; simp [maxLen]; omega
      · rw [List.length_map]; omega
      · have := hc05.size; omega
      intro ao2 cap2 w6 ho6 hc6 hat6
      rw [List.length_map] at ho6 hat6 ⊢
      have hb6 : Blk w6 c [.slice ao s.length c0] 51 := (hbk.keep hc05 NoB.elim).keep hc6 (fun e => hvc e)
      have fq6 : w6.frozen? ⟨c, 0, none⟩ = false := hb6.free 0
      have cq6 : w6.cell? ⟨c, 0, none⟩ = some (.slice ao s.length c0) := hb6.cell 0
      have hne6 : (Value.slice ao2 (s.length + 1) cap2).ownBlock ≠ some c := fun e => by
        rcases hat6 with h | h
        · exact hvc (h ▸ e)
        · have h9 := Option.some.inj (h.symm.trans e)
          have := hc05.size
          omega
      have hc06 : Chg (RowsOf w 3 B c) w w6 := (hc05.mono (fun _ _ e => NoB.elim e)).trans hc6 (fun b hb => .inl (hown.rowsOf hb))
      go_wp2_with fail
      go_ret
      refine ⟨rfl, ⟨_, hb6.set 0 (.slice ao2 (s.length + 1) cap2), ?_, by exact hne6⟩, hc06.setCell (p := ⟨c, 0, none⟩) (.inl ⟨hB, .inl rfl⟩) _⟩
      have ho7 := ho6.keep ((Chg.refl (OneB c) w6).setCell (p := ⟨c, 0, none⟩) (.inl rfl) (.slice ao2 (s.length + 1) cap2)) (fun _ hb => hb.elim) (fun b hb e => hne6 (by rw [← show b = c from e]; exact hb))
      show Own _ B 3 1 (fun _ => False) _ ((s ++ [i]).map intDt)
      rw [List.map_append]
      exact ho7

def underW (n : Nd) : List Int := (walkF underG n 0 []).2
mutual
theorem under_true : ∀ (n : Nd) (d : Int) (s : List Int), (walkF underG n d s).1 = true
  | .mk i nm r k sb, d, s => by
    simp only [walkF, underG]
    exact under_trues sb _ _
theorem under_trues : ∀ (l : List Nd) (d : Int) (s : List Int), (walkFs underG l d s).1 = true
  | [], d, s => rfl
  | n :: ns, d, s => by
    simp only [walkFs]
    have := under_true n d s
    rcases hw : walkF underG n d s with ⟨b, s'⟩
    rw [hw] at this
    simp only at this
    subst this
    exact under_trues ns d s'
end
mutual
theorem under_len : ∀ (n : Nd) (d : Int) (s : List Int), (walkF underG n d s).2.length ≤ s.length + n.weigh
  | .mk i nm r k sb, d, s => by
    simp only [walkF, underG, Nd.weigh]
    have h1 := under_lens sb (d + 1) (if (Nd.mk i nm r k sb).kind = 0 then s else s ++ [(Nd.mk i nm r k sb).id])
    split at h1
    · rename_i h; rw [if_pos h]; omega
    · rename_i h; rw [if_neg h]; simp only [List.length_append, List.length_cons, List.length_nil] at h1; omega
theorem under_lens : ∀ (l : List Nd) (d : Int) (s : List Int), (walkFs underG l d s).2.length ≤ s.length + Nd.weighs l
  | [], d, s => by simp [walkFs, Nd.weighs]
  | n :: ns, d, s => by
    simp only [walkFs, Nd.weighs]
    have h0 := under_len n d s
    have h1 := under_true n d s
    rcases hw : walkF underG n d s with ⟨b, s'⟩
    rw [hw] at h0 h1
    simp only at h0 h1
    subst h1
    have := under_lens ns d s'
    simp only
    omega
end
theorem underW_len (n : Nd) : (underW n).length ≤ n.weigh := by
  have := under_len n 0 []
  simpa [underW] using this
def RetUn (E : Er → Value) (N : Value) (r : PJ) (w : World) (en : Ending) (w' : World) : Prop :=
  Chg NoB w w' ∧ match r with
    | .ok n => ∃ a c, en = .returned (.tuple #[.slice a (underW n).length c, .nilIface]) ∧ Reads w' (fun b => w.heap.size ≤ b) (.list 1 ((underW n).map intDt)) [.slice a (underW n).length c]
    | .er e => en = .returned (.tuple #[.slice none 0 0, E e])
    | .non => en = .returned (.tuple #[.slice none 0 0, N])

set_option maxHeartbeats 1000000 in
theorem under_any (nd : Nd) (id : Int) (w : World) (S : Nat → Prop) (cs : List Value) (E : Er → Value) (N : Value) (hE : Errs w E) (hN : Non w N) (hok : nd.ok) (hr : Reads w S nd.dt cs) (hSB : ∀ b, S b → b < w.heap.size)
    (hsm : ∀ n, findR nd id = .ok n → n.ok ∧ n.high ≤ 1000 ∧ n.weigh ≤ 1000) :
    Calls Tryz.prog 25 #[.agg cs.toArray, .int .i64 id] w (RetUn E N (findR nd id) w) := by
  have hr' := hr
  have hNf := hN.form
  have hEf := hE.form
  obtain ⟨i, nm, r, k, sb⟩ := nd
  obtain ⟨sv, rfl, hs⟩ := reads_nd.1 hr'
  obtain ⟨sa, cap, rfl, _, _, _⟩ := reads_subs hs
  have Hsm := Lib.hid hsm
  clear hsm
  go_enter Tryz.func25, Tryz.ntmps25
  go_wp2_with fail
  generalize hw1 : w.alloc _ = w1
  have hc1 : Chg NoB w w1 := by
    rw [← hw1]
    repeat (first | exact Chg.refl _ _ | apply Chg.alloc | apply Chg.drew)
  clear hw1
  have hsz1 := hc1.size
  refine (find_any (.mk i nm r k sb) id w1 S _ E N (hE.keep0 hc1) (hN.keep0 hc1) hok (hr.chg0 hc1) (fun b hb => by have := hSB b hb; omega)).mono ?_
  rintro en w2 ⟨hc2, hm2⟩
  replace hc2 := hc1.tr hc2
  cases hf : findR (.mk i nm r k sb) id with
  | er e =>
    rw [hf] at hm2
    have hm2 : en = .returned (.tuple #[zeroNode, E e]) := hm2
    subst hm2
    obtain ⟨T1, v1, hEv⟩ := hEf e
    rw [hEv]
    have HEv := Lib.hid hEv
    have Hf := Lib.hid hf
    clear hEv hf
    unfold zeroNode
    go_wp2_with fail
    generalize hw3 : w2.alloc _ = w3
    have hc3 : Chg NoB w2 w3 := by
      rw [← hw3]
      repeat (first | exact Chg.refl _ _ | apply Chg.alloc | apply Chg.drew)
    clear hw3
    refine bodyPost_ret (v := .tuple #[.slice none 0 0, .iface T1 v1]) (by simp [results, Tryz.results25, go_sem]) rfl ?_
    rw [Hf.out]
    exact ⟨hc2.tr hc3, congrArg (fun x => Ending.returned (.tuple #[.slice none 0 0, x])) HEv.out.symm⟩
  | non =>
    rw [hf] at hm2
    have hm2 : en = .returned (.tuple #[zeroNode, N]) := hm2
    subst hm2
    obtain ⟨NT, Nv, rfl⟩ := hNf
    have Hf := Lib.hid hf
    clear hf
    unfold zeroNode
    go_wp2_with fail
    generalize hw3 : w2.alloc _ = w3
    have hc3 : Chg NoB w2 w3 := by
      rw [← hw3]
      repeat (first | exact Chg.refl _ _ | apply Chg.alloc | apply Chg.drew)
    clear hw3
    refine bodyPost_ret (v := .tuple #[.slice none 0 0, .iface NT Nv]) (by simp [results, Tryz.results25, go_sem]) rfl ?_
    rw [Hf.out]
    exact ⟨hc2.tr hc3, rfl⟩
  | ok n =>
    rw [hf] at hm2
    obtain ⟨cs2, rfl, hr2⟩ := hm2
    obtain ⟨hokn, hhn, hwn⟩ := Hsm.out n hf
    have Hf := Lib.hid hf
    clear hf
    obtain ⟨i2, nm2, r2, k2, s2⟩ := n
    obtain ⟨v2, rfl, hs2⟩ := reads_nd.1 hr2
    obtain ⟨sa2, cap2, rfl, _, _, _⟩ := reads_subs hs2
    go_wp2_with fail
    generalize hw3 : World.alloc _ _ = w3
    have hc3 : Chg NoB w2 w3 := by
      rw [← hw3]
      repeat (first | exact Chg.refl _ _ | apply Chg.alloc | apply Chg.drew)
    have hb3 : Blk w3 (w2.heap.size + 1) ([.slice none 0 0]) 51 := by
      rw [← hw3]
      repeat (first | exact Blk.newAt (by first | rfl | (simp; done) | (simp; omega)) | apply Blk.alloc | apply Blk.drew)
    clear hw3
    have hsz2 := hc2.size
    have hsz3 := hc3.size
    refine (walk_anyN (sees_under w2.heap.size (w2.heap.size + 1) (by omega)) (by decide) _ (.mk i2 nm2 r2 k2 s2) w3 _ _ 0 [] 0 (Nat.le_refl _) ⟨by omega, by omega⟩ (by unfold GoU; simp only [List.length_nil]; omega) hokn (hr2.lt.chg0 hc3) (fun b hb => hb.2) hsz3 ⟨_, hb3, Own.nil _ _ _ _ _, fun e => by cases e⟩).mono ?_
    rintro en w4 ⟨rfl, ⟨v4, hb4, ho4, _⟩, hc4⟩
    rw [under_true]
    have hUW : (walkF underG (.mk i2 nm2 r2 k2 s2) 0 []).2 = underW (.mk i2 nm2 r2 k2 s2) := rfl
    rw [hUW] at ho4
    have hlu := underW_len (.mk i2 nm2 r2 k2 s2)
    replace hc4 : Chg NoB w w4 := by
      refine ((hc2.tr hc3).mono (fun _ _ e => NoB.elim e)).trans hc4 ?_
      intro b hb
      exact .inr (by have := hb.1; omega)
    obtain ⟨a4, c4, rfl⟩ := Own.form1 (l := underW (.mk i2 nm2 r2 k2 s2)) ho4
    have q4 : w4.cell? ⟨w2.heap.size + 1, 0, none⟩ = some (.slice a4 (underW (.mk i2 nm2 r2 k2 s2)).length c4) := hb4.cell 0
    have l4 := hb4.lt
    generalize hu : underW (.mk i2 nm2 r2 k2 s2) = u at *
    have Hu := Lib.hid hu
    clear hu hUW
    go_wp2_with fail
    refine bodyPost_ret (v := .tuple #[.slice a4 u.length c4, .nilIface]) (by simp [results, Tryz.results25, go_sem]) rfl ?_
    rw [Hf.out]
    show Chg NoB w w4 ∧ ∃ a c, _ ∧ _
    rw [Hu.out]
    exact ⟨hc4, a4, c4, rfl, ho4.reads (fun _ h => h.elim) (fun b hb _ => by omega) (by rw [List.length_map]; unfold maxLen; omega)⟩
end Go.Proofs.YtfbbfhhhfbibjaaGreatDoor
