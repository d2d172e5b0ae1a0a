/-
  The copy of a node (shredcolref2.OwnNode): for every node that lies in memory she hands back a new one that reads the same; nothing that was there has changed.; Two nodes that read the same: shredcolref2.SameNode answers true; nothing has changed.; schema.walk: through a node and all below it, in order, as long as the function that is handed on says true. What that function keeps is a state of its
-/
import Derived.Test.YtnmhkafpgohefaaGreatDoorProg
import Derived.Test.YtnmhkafpgohefaaGreatDoorNode
import Derived.Test.YtnmhkafpgohefaaGreatDoorRegion
import Derived.Handy
set_option linter.unusedVariables false
set_option maxHeartbeats 20000000
set_option maxRecDepth 100000
set_option linter.unusedSimpArgs false
namespace Go.Proofs.YtnmhkafpgohefaaGreatDoor
open Go.RowKit
theorem infoNode : (Tryz.prog.info? 56).map (fun i => (i.zero, i.size, i.bytes)) = some (some (.agg #[.int .i64 0, .string ⟨#[]⟩, .int .i64 0, .int .i64 0, .slice none 0 0]), 5, 64) := by kernel_rfl
def RetV (v : Value) (w : World) (e : Ending) (w' : World) : Prop := e = .returned v ∧ Chg NoB w w'
section
variable {σ : Type} (f : Nd → Int → σ → Bool × σ)
mutual
def walkF : Nd → Int → σ → Bool × σ
 | .mk i n r k s, d, st => match f (.mk i n r k s) d st with
  | (false, st') => (false, st')
  | (true, st') => walkFs s (d + 1) st'
def walkFs : List Nd → Int → σ → Bool × σ
 | [], _, st => (true, st)
 | n :: ns, d, st => match walkF n d st with
  | (false, st') => (false, st')
  | (true, st') => walkFs ns d st'
end
end
def RetSt {σ : Type} (St : σ → World → Prop) (r : Bool × σ) (e B c : Nat) (w : World) (en : Ending) (w' : World) : Prop :=
 en = .returned (.bool r.1) ∧ St r.2 w' ∧ Chg (RowsOf w e B c) w w'
structure Sees {σ : Type} (g : Nat) (caps : Array Value) (e B c : Nat) (St : σ → World → Prop) (f : Nd → Int → σ → Bool × σ) (Ok : Nd → Int → Prop) (Go : σ → Prop) : Prop where
 enters : ∀ args w, (callFunc g args).run Tryz.prog w = .ok (.enter g args) w
 lt : ∀ s w, St s w → c < w.heap.size
 keep : ∀ s w w', St s w → Chg NoB w w' → St s w'
 deep : ∀ n d, Ok n d → -4611686018427387904 ≤ d ∧ d ≤ 4611686018427387904
 down : ∀ n d s, Ok n d → (f n d s).1 = true → ∀ x ∈ n.sub, Ok x (d + 1)
 go : ∀ n d s, Ok n d → Go s → (f n d s).1 = true → Go (f n d s).2
 call : ∀ (n : Nd) (d : Int) (s : σ) (w : World) (S : Nat → Prop) (cs : List Value), Ok n d → Go s → n.ok → Reads w S n.dt cs → (∀ b, S b → b < B) → B ≤ w.heap.size → St s w →
  Calls Tryz.prog g (#[.agg cs.toArray, .int .i64 d] ++ caps) w (RetSt St (f n d s) e B c w)
mutual
theorem walkF_go {σ : Type} {g : Nat} {caps : Array Value} {e B c : Nat} {St : σ → World → Prop} {f : Nd → Int → σ → Bool × σ} {Ok : Nd → Int → Prop} {Go : σ → Prop} (H : Sees g caps e B c St f Ok Go) :
  ∀ (n : Nd) (d : Int) (s : σ), Ok n d → Go s → (walkF f n d s).1 = true → Go (walkF f n d s).2
 | .mk i nm r k sb, d, s, hO, hG => by
  simp only [walkF]
  have h1 := H.go (.mk i nm r k sb) d s hO hG
  have h2 := H.down (.mk i nm r k sb) d s hO
  revert h1 h2
  rcases f (.mk i nm r k sb) d s with ⟨b, s'⟩
  intro h1 h2
  cases b
  ·intro h; cases h
  ·exact walkFs_go H sb (d + 1) s' (h2 rfl) (h1 rfl)
theorem walkFs_go {σ : Type} {g : Nat} {caps : Array Value} {e B c : Nat} {St : σ → World → Prop} {f : Nd → Int → σ → Bool × σ} {Ok : Nd → Int → Prop} {Go : σ → Prop} (H : Sees g caps e B c St f Ok Go) :
  ∀ (l : List Nd) (d : Int) (s : σ), (∀ x ∈ l, Ok x d) → Go s → (walkFs f l d s).1 = true → Go (walkFs f l d s).2
 | [], d, s, hO, hG => fun _ => hG
 | n :: ns, d, s, hO, hG => by
  simp only [walkFs]
  have h1 := walkF_go H n d s (hO n (List.mem_cons_self ..)) hG
  revert h1
  rcases walkF f n d s with ⟨b, s'⟩
  intro h1
  cases b
  ·intro h; cases h
  ·exact walkFs_go H ns d s' (fun x hx => hO x (List.mem_cons_of_mem _ hx)) (h1 rfl)
end
def WalkRel {σ : Type} (St : σ → World → Prop) (f : Nd → Int → σ → Bool × σ) (e B c : Nat) (w : World) (cells : List Value) (s : List Nd) (d : Int) (st1 : σ) (Go : σ → Prop) (vi : Value) (wr : World) : Prop :=
 ∃ j st', Go st' ∧ j ≤ s.length ∧ vi = .int .i64 (j : Nat) ∧ walkFs f (s.take j) d st1 = (true, st') ∧ St st' wr ∧ Chg (RowsOf w e B c) w wr ∧ Blk wr w.heap.size cells 56
theorem walkFs_snoc {σ : Type} (f : Nd → Int → σ → Bool × σ) (n : Nd) (d : Int) : ∀ (l : List Nd) (s s' : σ), walkFs f l d s = (true, s') → walkFs f (l ++ [n]) d s = walkF f n d s'
 | [], s, s', h => by
  simp only [walkFs, Prod.mk.injEq, true_and] at h
  subst h
  simp only [List.nil_append, walkFs]
  rcases walkF f n d s with ⟨b, t⟩
  cases b <;> rfl
 | x :: xs, s, s', h => by
  simp only [walkFs, List.cons_append] at h ⊢
  rcases hx : walkF f x d s with ⟨b, t⟩
  rw [hx] at h
  cases b
  ·simp at h
  ·simp only at h ⊢
   exact walkFs_snoc f n d xs t s' h
theorem walkFs_stop {σ : Type} (f : Nd → Int → σ → Bool × σ) (d : Int) : ∀ (l m : List Nd) (s s' : σ), walkFs f l d s = (false, s') → walkFs f (l ++ m) d s = (false, s')
 | [], m, s, s', h => by simp [walkFs] at h
 | x :: xs, m, s, s', h => by
  simp only [walkFs, List.cons_append] at h ⊢
  rcases hx : walkF f x d s with ⟨b, t⟩
  rw [hx] at h
  cases b
  ·exact h
  ·exact walkFs_stop f d xs m t s' h
theorem walk_any {σ : Type} {g : Nat} {caps : Array Value} {e B c : Nat} {St : σ → World → Prop} {f : Nd → Int → σ → Bool × σ} {Ok : Nd → Int → Prop} {Go : σ → Prop} (H : Sees g caps e B c St f Ok Go) (hne : e ≠ 56) :
  ∀ (m : Nat) (nd : Nd) (w : World) (S : Nat → Prop) (cs : List Value) (d : Int) (s : σ), nd.weigh ≤ m → Ok nd d → Go s → nd.ok → Reads w S nd.dt cs → (∀ b, S b → b < B) → B ≤ w.heap.size → St s w →
  Calls Tryz.prog 58 #[.agg cs.toArray, .int .i64 d, .func (.func g) #[] caps] w (RetSt St (walkF f nd d s) e B c w) := by
 have he := H.enters
 intro m
 induction m with
 | zero => intro nd w S cs d s hm; cases nd; simp [Nd.weigh] at hm
 | succ m ih =>
  intro nd w S cs d st hm hO hG hok hr hSB hBw hSt
  obtain ⟨i, n, r, k, s⟩ := nd
  obtain ⟨sv, rfl, hs⟩ := reads_nd.1 hr
  obtain ⟨sa, cap, rfl, hlen, hcap, hel⟩ := reads_subs hs
  obtain ⟨hd0, hd1⟩ := H.deep _ _ hO
  have hok' := hok
  obtain ⟨hi, hn, hrr, hk, hsl, hoks⟩ := hok'
  have Hih := Lib.hid ih
  clear ih
  unfold reach at hsl
  go_enter Tryz.func58, Tryz.ntmps58
  go_wp2_with fail
  generalize hw1 : w.alloc _ = w1
  have hc1 : Chg NoB w w1 := by
   rw [← hw1]
   repeat (first | exact Chg.refl _ _ | apply Chg.alloc | apply Chg.drew)
  have hb1 : Blk w1 (w.heap.size) (ndCells i n r k (.slice sa s.length cap)) 56 := by
   rw [← hw1]
   repeat (first | exact Blk.newAt (by first | rfl | (simp; done) | (simp; omega)) | apply Blk.alloc | apply Blk.drew)
  clear hw1
  have hsz1 := hb1.lt
  refine (H.call (.mk i n r k s) d st w1 S _ hO hG hok (hr.chg0 hc1) hSB (by omega) (H.keep _ _ _ hSt hc1)).mono ?_
  rintro en w2 ⟨rfl, hSt2, hc2⟩
  have hb2 := hb1.rows hc2 (by have := H.lt _ _ hSt; omega) (fun e => hne e.symm)
  replace hc2 := hc1.rows0 hc2
  rcases hf : f (.mk i n r k s) d st with ⟨b, st1⟩
  have Hf := Lib.hid hf
  rw [hf] at hSt2
  have hdown := H.down (.mk i n r k s) d st hO
  have hgo := H.go (.mk i n r k s) d st hO hG
  rw [hf] at hdown hgo
  clear hf
  cases b
  ·go_wp2_with fail
   go_ret
   simp only [walkF, Hf.out]
   exact ⟨rfl, hSt2, hc2⟩
  ·replace hdown := hdown rfl
   replace hgo := hgo rfl
   have c4 : w2.cell? ⟨w.heap.size, 4, none⟩ = some (.slice sa s.length cap) := hb2.cell 4
   have Hdown := Lib.hid hdown
   clear hdown
   go_wp2_with fail
   go_loopw [17] (fun vi wr => WalkRel St f e B c w (ndCells i n r k (.slice sa s.length cap)) s (d + 1) st1 Go vi wr) (fun vi _ => s.length - (intOf vi).toNat)
   case atStart => exact ⟨0, st1, hgo, Nat.zero_le _, rfl, rfl, hSt2, hc2, hb2⟩
   case round =>
    obtain ⟨j, st', hGj, hj, rfl, hpre, hStj, hcj, hbj⟩ := hrel
    have Hpre := Lib.hid hpre
    clear hpre
    have hszj := hbj.lt
    by_cases hlt : j < s.length
    ·obtain ⟨b, off, rfl, hSb, hbw, hE⟩ := hel (by omega)
     obtain ⟨ecs, hl5, hcells, hre⟩ := hE.get j s[j].dt (by simp [hlt])
     have hmem : s[j] ∈ s := List.getElem_mem hlt
     have hwj := Nd.weigh_mem hmem
     have hokj := Nd.oks_mem hoks _ hmem
     have hOj := Hdown.out _ hmem
     have htake : s = s.take j ++ s[j] :: s.drop (j + 1) := by rw [List.getElem_cons_drop, List.take_append_drop]
     have htake1 : s.take (j + 1) = s.take j ++ [s[j]] := List.take_succ_eq_append_getElem hlt
     generalize s[j] = nj at hre hwj hokj htake htake1 hOj
     have Htake := Lib.hid htake
     have Htake1 := Lib.hid htake1
     clear htake htake1
     obtain ⟨i1, n1, r1, k1, s1⟩ := nj
     obtain ⟨v1, rfl, hs1⟩ := reads_nd.1 hre
     obtain ⟨sa1, cap1, rfl, _, _, _⟩ := reads_subs hs1
     have hcw : ∀ {x : Nat}, S x → ¬ RowsOf w e B c x := fun hx hy => by have := hSB _ hx; have := hy.1; omega
     have hf : ∀ t c, [Value.int .i64 i1, .string n1, .int .i64 r1, .int .i64 k1, .slice sa1 s1.length cap1][t]? = some c → wr.cell? ⟨b, off + j * 5 + t, none⟩ = some c := fun t c ht => (hcj.cell (p := ⟨b, off + j * 5 + t, none⟩) hbw (hcw hSb)).trans (hcells t c ht)
     have e0 : wr.cell? ⟨b, off + j * 5, none⟩ = some (.int .i64 i1) := hf 0 _ rfl
     have e1 : wr.cell? ⟨b, off + j * 5 + 1, none⟩ = some (.string n1) := hf 1 _ rfl
     have e2 : wr.cell? ⟨b, off + j * 5 + 2, none⟩ = some (.int .i64 r1) := hf 2 _ rfl
     have e3 : wr.cell? ⟨b, off + j * 5 + 3, none⟩ = some (.int .i64 k1) := hf 3 _ rfl
     have e4 : wr.cell? ⟨b, off + j * 5 + 4, none⟩ = some (.slice sa1 s1.length cap1) := hf 4 _ rfl
     clear hf
     go_wp2_with fail
     generalize hw3 : wr.alloc _ = w3
     have hc3 : Chg NoB wr w3 := by
      rw [← hw3]
      repeat (first | exact Chg.refl _ _ | apply Chg.alloc | apply Chg.drew)
     clear hw3
     refine (Hih.out (.mk i1 n1 r1 k1 s1) w3 S _ (d + 1) st' ?_ hOj hGj hokj ((hre.chg hcj (fun _ hb => hcw hb)).chg0 hc3) hSB (by have := hc3.size; omega) (H.keep _ _ _ hStj hc3)).mono ?_
     ·simp only [Nd.weigh] at hm hwj ⊢; omega
     rintro en w4 ⟨rfl, hSt4, hc4⟩
     have hb4 := (hbj.keep hc3 nbE).rows hc4 (by have := H.lt _ _ hSt; omega) (fun e => hne e.symm)
     replace hc4 := hcj.rows (hc3.rows0 hc4)
     have hgw := walkF_go H (.mk i1 n1 r1 k1 s1) (d + 1) st' hOj hGj
     rcases hw : walkF f (.mk i1 n1 r1 k1 s1) (d + 1) st' with ⟨b2, st2⟩
     have Hw := Lib.hid hw
     rw [hw] at hSt4 hgw
     have Hgw := Lib.hid hgw
     clear hw hc3 hgw
     cases b2
     ·go_wp2_with fail
      go_ret
      have h1 := walkFs_snoc f (.mk i1 n1 r1 k1 s1) (d + 1) _ _ _ Hpre.out
      rw [Hw.out] at h1
      have h2 := walkFs_stop f (d + 1) _ (s.drop (j + 1)) _ _ h1
      rw [List.append_assoc, List.singleton_append, ← Htake.out] at h2
      simp only [walkF, Hf.out, h2]
      exact ⟨rfl, hSt4, hc4⟩
     ·go_wp2_with fail
      go_roundw
      case rel =>
       refine ⟨j + 1, st2, Hgw.out (by first | rfl | trivial), hlt, by go_num, ?_, hSt4, hc4, hb4⟩
       rw [Htake1.out, walkFs_snoc f _ _ _ _ _ Hpre.out, Hw.out]
      case measure => simp [intOf]; omega
    ·have hjs : s.take j = s := List.take_of_length_le (by omega)
     have Hjs := Lib.hid hjs
     clear hjs
     go_wp2_with fail
     go_ret
     have h1 := Hpre.out
     rw [Hjs.out] at h1
     simp only [walkF, Hf.out, h1]
     exact ⟨rfl, hStj, hcj⟩
end Go.Proofs.YtnmhkafpgohefaaGreatDoor
