/-
 A name: one to twelve small letters (schema.isName).
 schema.walk: through a node and all below it, in order, as long as the function that is handed on says true. What that function keeps is a state of its own.
 schema.all: do all nodes below a node satisfy something?
 A copy of a slice of ints (shredcollaw2.ints), and slices.Clone at []int.
 schema.leaves: the leaves in a node, with their levels and ways.
-/
import Derived.Test.YtgcmfpcgmkkobaaGreatDoorShelf
import Derived.Test.YtgcmfpcgmkkobaaGreatDoorPackA
import Derived.Shelf.Strings.SlTrimAscii
import Derived.Shelf.Abstract
import Derived.Lib.SliceRun
set_option linter.unusedVariables false
set_option linter.unusedSimpArgs false
namespace Go.Proofs.YtgcmfpcgmkkobaaGreatDoor
open Go.RowKit

def letters : List UInt8 := [97, 98, 99, 100, 101, 102, 103, 104, 105, 106, 107, 108, 109, 110, 111, 112, 113, 114, 115, 116, 117, 118, 119, 120, 121, 122]
def lower (b : UInt8) : Bool := decide (97 ≤ b.toNat ∧ b.toNat ≤ 122)
theorem letters_contains (b : UInt8) : letters.contains b = lower b := by
 have key : ∀ n : Fin 256, letters.contains (UInt8.ofNat n.val) = lower (UInt8.ofNat n.val) := by decide +kernel
 have := key ⟨b.toNat, b.toNat_lt⟩
 simpa using this

theorem dropWhile_nil {p : UInt8 → Bool} : ∀ {l : List UInt8}, l.dropWhile p = [] ↔ l.all p = true
 | [] => by simp
 | x :: xs => by
  simp only [List.dropWhile_cons, List.all_cons]
  cases hp : p x
  ·simp
  ·simp only [if_true, Bool.true_and]; exact dropWhile_nil
theorem dropWhile_head {p : UInt8 → Bool} : ∀ {l : List UInt8} {x : UInt8} {xs : List UInt8}, l.dropWhile p = x :: xs → p x = false
 | [], x, xs, h => by simp at h
 | y :: ys, x, xs, h => by
  simp only [List.dropWhile_cons] at h
  cases hp : p y
  ·rw [hp] at h; simp only [Bool.false_eq_true, if_false] at h; injection h with h1 _; rw [← h1]; exact hp
  ·rw [hp] at h; simp only [if_true] at h; exact dropWhile_head h
theorem trimS_nil (l cs : List UInt8) : Lib.trimS l cs = [] ↔ l.all (cs.contains ·) = true := by
 unfold Lib.trimS Lib.trimLeftS Lib.trimRightS
 rw [dropWhile_nil]
 constructor
 ·intro h
  cases hr : l.reverse.dropWhile (cs.contains ·) with
  | nil =>
   have := dropWhile_nil.1 hr
   simpa using this
  | cons x xs =>
   have h1 := dropWhile_head hr
   rw [hr] at h
   simp only [List.reverse_cons, List.all_append, List.all_cons, List.all_nil, Bool.and_true, Bool.and_eq_true] at h
   rw [h1] at h
   cases h.2
 ·intro h
  have : l.reverse.dropWhile (cs.contains ·) = [] := dropWhile_nil.2 (by simpa using h)
  rw [this]; rfl

def isNameB (s : ByteArray) : Bool := decide (s.size ≠ 0) && decide (s.size ≤ 12) && s.data.toList.all lower

def abc : ByteArray := ⟨#[97, 98, 99, 100, 101, 102, 103, 104, 105, 106, 107, 108, 109, 110, 111, 112, 113, 114, 115, 116, 117, 118, 119, 120, 121, 122]⟩
theorem abc_size : abc.size < 4294967281 := by decide
theorem abc_ascii : abc.data.toList.all (fun b => decide (b.toNat < 128)) = true := by decide +kernel
theorem trim_letters (s : ByteArray) (w : World) (hs : s.size ≤ 9223372036854775807) :
  Calls Tryz.prog 95 #[.string s, .string abc] w fun e w' => e = .returned (.string ⟨(Lib.trimS s.data.toList letters).toArray⟩) ∧ Below w.heap.size w w' :=
 Any.strings_Trim_laid Tryz.lays160 (by kernel_rfl) s abc w hs abc_size (ascii_of_all abc_ascii)

theorem empty_of_size {s : ByteArray} (h : s.size = 0) : s = ⟨#[]⟩ := by
 cases s with
 | mk d =>
  congr
  exact Array.eq_empty_of_size_eq_zero h

theorem toList_isEmpty {s : ByteArray} (h : s.size ≠ 0) : s.toList.isEmpty = false := by
 rw [Lib.toList_data]
 cases hl : s.data.toList with
 | nil => exact absurd (by rw [ByteArray.size, ← Array.length_toList, hl]; rfl) h
 | cons x xs => rfl

set_option maxHeartbeats 400000 in
theorem isName_any (s : ByteArray) (w : World) (hs : s.size ≤ 9223372036854775807) :
  Calls Tryz.prog 67 #[.string s] w (RetV (.bool (isNameB s)) w) := by
 by_cases h0 : s.size = 0
 ·have := empty_of_size h0
  subst this
  have h1 : isNameB ⟨#[]⟩ = false := by rfl
  go_enter Tryz.func67, Tryz.ntmps67
  go_wp2_with fail
  go_ret
  rw [h1]
  exact ⟨rfl, Chg.refl _ _⟩
 have hne : s.toList.isEmpty = false := toList_isEmpty h0
 by_cases h1 : s.size ≤ 12
 ·have h1' : (s.size : Int) ≤ 12 := by omega
  go_enter Tryz.func67, Tryz.ntmps67
  go_wp2_with fail
  refine (trim_letters s w hs).mono ?_
  rintro e w1 ⟨rfl, hc⟩
  have hc1 := Chg.ofBelow hc
  clear hc
  have key : isNameB s = (Lib.trimS s.data.toList letters).isEmpty := by
   have h2 := trimS_nil s.data.toList letters
   simp only [letters_contains] at h2
   unfold isNameB
   rw [decide_eq_true h0, decide_eq_true h1, Bool.true_and, Bool.true_and, Bool.eq_iff_iff, ← h2]
   exact List.isEmpty_iff.symm
  have Key := Lib.hid key
  clear key
  generalize Lib.trimS s.data.toList letters = t at Key ⊢
  cases t with
  | nil =>
   go_wp2_with fail
   go_ret
   rw [Key.out]
   exact ⟨rfl, hc1⟩
  | cons x xs =>
   have hx : (⟨(x :: xs).toArray⟩ : ByteArray).toList.isEmpty = false := toList_isEmpty (by simp [ByteArray.size])
   go_wp2_with fail
   go_ret
   rw [Key.out]
   exact ⟨rfl, hc1⟩
 ·have h1' : ¬ (s.size : Int) ≤ 12 := by omega
  have h2 : isNameB s = false := by simp [isNameB, h1]
  go_enter Tryz.func67, Tryz.ntmps67
  go_wp2_with fail
  go_ret
  exact ⟨rfl, Chg.refl _ _⟩
end Go.Proofs.YtgcmfpcgmkkobaaGreatDoor
namespace Go.Proofs.YtgcmfpcgmkkobaaGreatDoor
open Go.RowKit

section
variable {σ : Type} (f : Nd → Int → σ → Bool × σ)
mutual
def walkF : Nd → Int → σ → Bool × σ
 | .mk i n r k s, d, st => match f (.mk i n r k s) d st with
  | (false, st') => (false, st')
  | (true, st') => walkFs s (d + 1) st'
def walkFs : List Nd → Int → σ → Bool × σ
 | [], _, st => (true, st)
 | n :: ns, d, st => match walkF n d st with
  | (false, st') => (false, st')
  | (true, st') => walkFs ns d st'
end
end

/-- A bool is handed back, the state goes on; of what was there only the state's own memory has changed. -/
def RetSt {σ : Type} (St : σ → World → Prop) (r : Bool × σ) (e B c : Nat) (w : World) (en : Ending) (w' : World) : Prop :=
 en = .returned (.bool r.1) ∧ St r.2 w' ∧ Chg (RowsOf w e B c) w w'

/-- WHAT A FUNCTION VALUE THAT IS HANDED TO walk MUST DO: function g with what it has captured; its state lies in block c and in rows of type e's elements, from block B on. -/
structure Sees {σ : Type} (g : Nat) (caps : Array Value) (e B c : Nat) (St : σ → World → Prop) (f : Nd → Int → σ → Bool × σ) (Ok : Nd → Int → Prop) (Go : σ → Prop) : Prop where
 enters : ∀ args w, (callFunc g args).run Tryz.prog w = .ok (.enter g args) w
 lt : ∀ s w, St s w → c < w.heap.size
 keep : ∀ s w w', St s w → Chg NoB w w' → St s w'
 deep : ∀ n d, Ok n d → -4611686018427387904 ≤ d ∧ d ≤ 4611686018427387904
 down : ∀ n d s, Ok n d → (f n d s).1 = true → ∀ x ∈ n.sub, Ok x (d + 1)
 go : ∀ n d s, Ok n d → Go s → (f n d s).1 = true → Go (f n d s).2
 call : ∀ (n : Nd) (d : Int) (s : σ) (w : World) (S : Nat → Prop) (cs : List Value), Ok n d → Go s → n.ok → Reads w S n.dt cs → (∀ b, S b → b < B) → B ≤ w.heap.size → St s w →
  Calls Tryz.prog g (#[.agg cs.toArray, .int .i64 d] ++ caps) w (RetSt St (f n d s) e B c w)

mutual
theorem walkF_go {σ : Type} {g : Nat} {caps : Array Value} {e B c : Nat} {St : σ → World → Prop} {f : Nd → Int → σ → Bool × σ} {Ok : Nd → Int → Prop} {Go : σ → Prop} (H : Sees g caps e B c St f Ok Go) :
  ∀ (n : Nd) (d : Int) (s : σ), Ok n d → Go s → (walkF f n d s).1 = true → Go (walkF f n d s).2
 | .mk i nm r k sb, d, s, hO, hG => by
  simp only [walkF]
  have h1 := H.go (.mk i nm r k sb) d s hO hG
  have h2 := H.down (.mk i nm r k sb) d s hO
  revert h1 h2
  rcases f (.mk i nm r k sb) d s with ⟨b, s'⟩
  intro h1 h2
  cases b
  ·intro h; cases h
  ·exact walkFs_go H sb (d + 1) s' (h2 rfl) (h1 rfl)
theorem walkFs_go {σ : Type} {g : Nat} {caps : Array Value} {e B c : Nat} {St : σ → World → Prop} {f : Nd → Int → σ → Bool × σ} {Ok : Nd → Int → Prop} {Go : σ → Prop} (H : Sees g caps e B c St f Ok Go) :
  ∀ (l : List Nd) (d : Int) (s : σ), (∀ x ∈ l, Ok x d) → Go s → (walkFs f l d s).1 = true → Go (walkFs f l d s).2
 | [], d, s, hO, hG => fun _ => hG
 | n :: ns, d, s, hO, hG => by
  simp only [walkFs]
  have h1 := walkF_go H n d s (hO n (List.mem_cons_self ..)) hG
  revert h1
  rcases walkF f n d s with ⟨b, s'⟩
  intro h1
  cases b
  ·intro h; cases h
  ·exact walkFs_go H ns d s' (fun x hx => hO x (List.mem_cons_of_mem _ hx)) (h1 rfl)
end

/-- What holds at the head of each round. -/
def WalkRel {σ : Type} (St : σ → World → Prop) (f : Nd → Int → σ → Bool × σ) (e B c : Nat) (w : World) (cells : List Value) (s : List Nd) (d : Int) (st1 : σ) (Go : σ → Prop) (vi : Value) (wr : World) : Prop :=
 ∃ j st', Go st' ∧ j ≤ s.length ∧ vi = .int .i64 (j : Nat) ∧ walkFs f (s.take j) d st1 = (true, st') ∧ St st' wr ∧ Chg (RowsOf w e B c) w wr ∧ Blk wr w.heap.size cells 28

theorem walkFs_snoc {σ : Type} (f : Nd → Int → σ → Bool × σ) (n : Nd) (d : Int) : ∀ (l : List Nd) (s s' : σ), walkFs f l d s = (true, s') → walkFs f (l ++ [n]) d s = walkF f n d s'
 | [], s, s', h => by
  simp only [walkFs, Prod.mk.injEq, true_and] at h
  subst h
  simp only [List.nil_append, walkFs]
  rcases walkF f n d s with ⟨b, t⟩
  cases b <;> rfl
 | x :: xs, s, s', h => by
  simp only [walkFs, List.cons_append] at h ⊢
  rcases hx : walkF f x d s with ⟨b, t⟩
  rw [hx] at h
  cases b
  ·simp at h
  ·simp only at h ⊢
   exact walkFs_snoc f n d xs t s' h
theorem walkFs_stop {σ : Type} (f : Nd → Int → σ → Bool × σ) (d : Int) : ∀ (l m : List Nd) (s s' : σ), walkFs f l d s = (false, s') → walkFs f (l ++ m) d s = (false, s')
 | [], m, s, s', h => by simp [walkFs] at h
 | x :: xs, m, s, s', h => by
  simp only [walkFs, List.cons_append] at h ⊢
  rcases hx : walkF f x d s with ⟨b, t⟩
  rw [hx] at h
  cases b
  ·exact h
  ·exact walkFs_stop f d xs m t s' h

set_option maxHeartbeats 1000000 in
theorem walk_any {σ : Type} {g : Nat} {caps : Array Value} {e B c : Nat} {St : σ → World → Prop} {f : Nd → Int → σ → Bool × σ} {Ok : Nd → Int → Prop} {Go : σ → Prop} (H : Sees g caps e B c St f Ok Go) (hne : e ≠ 28) :
  ∀ (m : Nat) (nd : Nd) (w : World) (S : Nat → Prop) (cs : List Value) (d : Int) (s : σ), nd.weigh ≤ m → Ok nd d → Go s → nd.ok → Reads w S nd.dt cs → (∀ b, S b → b < B) → B ≤ w.heap.size → St s w →
  Calls Tryz.prog 61 #[.agg cs.toArray, .int .i64 d, .func (.func g) #[] caps] w (RetSt St (walkF f nd d s) e B c w) := by
 have he := H.enters
 intro m
 induction m with
 | zero => intro nd w S cs d s hm; cases nd; simp [Nd.weigh] at hm
 | succ m ih =>
  intro nd w S cs d st hm hO hG hok hr hSB hBw hSt
  obtain ⟨i, n, r, k, s⟩ := nd
  obtain ⟨sv, rfl, hs⟩ := reads_nd.1 hr
  obtain ⟨sa, cap, rfl, hlen, hcap, hel⟩ := reads_subs hs
  obtain ⟨hd0, hd1⟩ := H.deep _ _ hO
  have hok' := hok
  obtain ⟨hi, hn, hrr, hk, hsl, hoks⟩ := hok'
  have Hih := Lib.hid ih
  clear ih
  unfold reach at hsl
  go_enter Tryz.func61, Tryz.ntmps61
  go_wp2_with fail
  generalize hw1 : w.alloc _ = w1
  have hc1 : Chg NoB w w1 := by
   rw [← hw1]
   repeat (first | exact Chg.refl _ _ | apply Chg.alloc | apply Chg.drew)
  have hb1 : Blk w1 (w.heap.size) (ndCells i n r k (.slice sa s.length cap)) 28 := by
   rw [← hw1]
   repeat (first | exact Blk.newAt (by first | rfl | (simp; done) | (simp; omega)) | apply Blk.alloc | apply Blk.drew)
  clear hw1
  have hsz1 := hb1.lt
  refine (H.call (.mk i n r k s) d st w1 S _ hO hG hok (hr.chg0 hc1) hSB (by omega) (H.keep _ _ _ hSt hc1)).mono ?_
  rintro en w2 ⟨rfl, hSt2, hc2⟩
  have hb2 := hb1.rows hc2 (by have := H.lt _ _ hSt; omega) (fun e => hne e.symm)
  replace hc2 := hc1.rows0 hc2
  rcases hf : f (.mk i n r k s) d st with ⟨b, st1⟩
  have Hf := Lib.hid hf
  rw [hf] at hSt2
  have hdown := H.down (.mk i n r k s) d st hO
  have hgo := H.go (.mk i n r k s) d st hO hG
  rw [hf] at hdown hgo
  clear hf
  cases b
  ·go_wp2_with fail
   go_ret
   simp only [walkF, Hf.out]
   exact ⟨rfl, hSt2, hc2⟩
  ·replace hdown := hdown rfl
   replace hgo := hgo rfl
   have c4 : w2.cell? ⟨w.heap.size, 4, none⟩ = some (.slice sa s.length cap) := hb2.cell 4
   have Hdown := Lib.hid hdown
   clear hdown
   go_wp2_with fail
   go_loopw [17] (fun vi wr => WalkRel St f e B c w (ndCells i n r k (.slice sa s.length cap)) s (d + 1) st1 Go vi wr) (fun vi _ => s.length - (intOf vi).toNat)
   case atStart => exact ⟨0, st1, hgo, Nat.zero_le _, rfl, rfl, hSt2, hc2, hb2⟩
   case round =>
    obtain ⟨j, st', hGj, hj, rfl, hpre, hStj, hcj, hbj⟩ := hrel
    have Hpre := Lib.hid hpre
    clear hpre
    have hszj := hbj.lt
    by_cases hlt : j < s.length
    ·obtain ⟨b, off, rfl, hSb, hbw, hE⟩ := hel (by omega)
     obtain ⟨ecs, hl5, hcells, hre⟩ := hE.get j s[j].dt (by simp [hlt])
     have hmem : s[j] ∈ s := List.getElem_mem hlt
     have hwj := Nd.weigh_mem hmem
     have hokj := Nd.oks_mem hoks _ hmem
     have hOj := Hdown.out _ hmem
     have htake : s = s.take j ++ s[j] :: s.drop (j + 1) := by rw [List.getElem_cons_drop, List.take_append_drop]
     have htake1 : s.take (j + 1) = s.take j ++ [s[j]] := List.take_succ_eq_append_getElem hlt
     generalize s[j] = nj at hre hwj hokj htake htake1 hOj
     have Htake := Lib.hid htake
     have Htake1 := Lib.hid htake1
     clear htake htake1
     obtain ⟨i1, n1, r1, k1, s1⟩ := nj
     obtain ⟨v1, rfl, hs1⟩ := reads_nd.1 hre
     obtain ⟨sa1, cap1, rfl, _, _, _⟩ := reads_subs hs1
     have hcw : ∀ {x : Nat}, S x → ¬ RowsOf w e B c x := fun hx hy => by have := hSB _ hx; have := hy.1; omega
     have hf : ∀ t c, [Value.int .i64 i1, .string n1, .int .i64 r1, .int .i64 k1, .slice sa1 s1.length cap1][t]? = some c → wr.cell? ⟨b, off + j * 5 + t, none⟩ = some c := fun t c ht => (hcj.cell (p := ⟨b, off + j * 5 + t, none⟩) hbw (hcw hSb)).trans (hcells t c ht)
     have e0 : wr.cell? ⟨b, off + j * 5, none⟩ = some (.int .i64 i1) := hf 0 _ rfl
     have e1 : wr.cell? ⟨b, off + j * 5 + 1, none⟩ = some (.string n1) := hf 1 _ rfl
     have e2 : wr.cell? ⟨b, off + j * 5 + 2, none⟩ = some (.int .i64 r1) := hf 2 _ rfl
     have e3 : wr.cell? ⟨b, off + j * 5 + 3, none⟩ = some (.int .i64 k1) := hf 3 _ rfl
     have e4 : wr.cell? ⟨b, off + j * 5 + 4, none⟩ = some (.slice sa1 s1.length cap1) := hf 4 _ rfl
     clear hf
     go_wp2_with fail
     generalize hw3 : wr.alloc _ = w3
     have hc3 : Chg NoB wr w3 := by
      rw [← hw3]
      repeat (first | exact Chg.refl _ _ | apply Chg.alloc | apply Chg.drew)
     clear hw3
     refine (Hih.out (.mk i1 n1 r1 k1 s1) w3 S _ (d + 1) st' ?_ hOj hGj hokj ((hre.chg hcj (fun _ hb => hcw hb)).chg0 hc3) hSB (by have := hc3.size; omega) (H.keep _ _ _ hStj hc3)).mono ?_
     ·simp only [Nd.weigh] at hm hwj ⊢; omega
     rintro en w4 ⟨rfl, hSt4, hc4⟩
     have hb4 := (hbj.keep hc3 NoB.elim).rows hc4 (by have := H.lt _ _ hSt; omega) (fun e => hne e.symm)
     replace hc4 := hcj.rows (hc3.rows0 hc4)
     have hgw := walkF_go H (.mk i1 n1 r1 k1 s1) (d + 1) st' hOj hGj
     rcases hw : walkF f (.mk i1 n1 r1 k1 s1) (d + 1) st' with ⟨b2, st2⟩
     have Hw := Lib.hid hw
     rw [hw] at hSt4 hgw
     have Hgw := Lib.hid hgw
     clear hw hc3 hgw
     cases b2
     ·go_wp2_with fail
      go_ret
      have h1 := walkFs_snoc f (.mk i1 n1 r1 k1 s1) (d + 1) _ _ _ Hpre.out
      rw [Hw.out] at h1
      have h2 := walkFs_stop f (d + 1) _ (s.drop (j + 1)) _ _ h1
      rw [List.append_assoc, List.singleton_append, ← Htake.out] at h2
      simp only [walkF, Hf.out, h2]
      exact ⟨rfl, hSt4, hc4⟩
     ·go_wp2_with fail
      go_roundw
      case rel =>
       refine ⟨j + 1, st2, Hgw.out (by first | rfl | trivial), hlt, by go_num, ?_, hSt4, hc4, hb4⟩
       rw [Htake1.out, walkFs_snoc f _ _ _ _ _ Hpre.out, Hw.out]
      case measure => simp [intOf]; omega
    ·have hjs : s.take j = s := List.take_of_length_le (by omega)
     have Hjs := Lib.hid hjs
     clear hjs
     go_wp2_with fail
     go_ret
     have h1 := Hpre.out
     rw [Hjs.out] at h1
     simp only [walkF, Hf.out, h1]
     exact ⟨rfl, hStj, hcj⟩
end Go.Proofs.YtgcmfpcgmkkobaaGreatDoor
namespace Go.Proofs.YtgcmfpcgmkkobaaGreatDoor
open Go.RowKit

mutual
/-- How many levels a tree has. -/
def Nd.high : Nd → Nat
 | .mk _ _ _ _ s => 1 + Nd.highs s
def Nd.highs : List Nd → Nat
 | [] => 0
 | n :: ns => max n.high (Nd.highs ns)
end
theorem Nd.high_mem : ∀ {l : List Nd} {n : Nd}, n ∈ l → n.high ≤ Nd.highs l
 | [], n, h => by cases h
 | x :: xs, n, h => by
  rcases List.mem_cons.1 h with rfl | h
  ·simp only [Nd.highs]; omega
  ·have := Nd.high_mem h
   simp only [Nd.highs]; omega

def Low (n : Nd) (d : Int) : Prop := 0 ≤ d ∧ d + n.high ≤ 4611686018427387904
theorem Low.deep {n : Nd} {d : Int} (h : Low n d) : -4611686018427387904 ≤ d ∧ d ≤ 4611686018427387904 := by
 obtain ⟨h1, h2⟩ := h; omega
theorem Low.down {n : Nd} {d : Int} (h : Low n d) : ∀ x ∈ n.sub, Low x (d + 1) := by
 intro x hx
 obtain ⟨h1, h2⟩ := h
 obtain ⟨i, nm, r, k, s⟩ := n
 have := Nd.high_mem (show x ∈ s from hx)
 simp only [Nd.high] at h2
 exact ⟨by omega, by omega⟩

/-- WHAT A FUNCTION VALUE THAT IS HANDED TO all MUST DO. -/
structure Oks {σ : Type} (g : Nat) (caps : Array Value) (e B c : Nat) (St : σ → World → Prop) (f : Nd → σ → Bool × σ) (Go : σ → Prop) : Prop where
 enters : ∀ args w, (callFunc g args).run Tryz.prog w = .ok (.enter g args) w
 lt : ∀ s w, St s w → c < w.heap.size
 keep : ∀ s w w', St s w → Chg NoB w w' → St s w'
 go : ∀ n s, Go s → (f n s).1 = true → Go (f n s).2
 call : ∀ (n : Nd) (s : σ) (w : World) (S : Nat → Prop) (cs : List Value), Go s → n.ok → Reads w S n.dt cs → (∀ b, S b → b < B) → B ≤ w.heap.size → St s w →
  Calls Tryz.prog g (#[.agg cs.toArray] ++ caps) w (RetSt St (f n s) e B c w)

def allF {σ : Type} (f : Nd → σ → Bool × σ) : Nd → Int → σ → Bool × σ := fun n d s => if d = 0 then (true, s) else f n s

theorem sees_all {σ : Type} {g : Nat} {caps : Array Value} {e B c : Nat} {St : σ → World → Prop} {f : Nd → σ → Bool × σ} {Go : σ → Prop} (H : Oks g caps e B c St f Go) (hne : e ≠ 35) (q : Nat) (hq : q ≠ c) :
  Sees 100 #[.pointer (some ⟨q, 0, none⟩)] e B c (fun s w => St s w ∧ Blk w q [.func (.func g) #[] caps] 35) (allF f) Low Go where
 enters := enters_of Tryz.func100 (by kernel_rfl) rfl
 lt := fun s w h => H.lt s w h.1
 keep := fun s w w' h hc => ⟨H.keep s w w' h.1 hc, h.2.keep hc NoB.elim⟩
 deep := fun n d h => h.deep
 down := fun n d s h _ => h.down
 go := fun n d s _ hG => by
  simp only [allF]
  split
  ·exact fun _ => hG
  ·exact H.go n s hG
 call := by
  intro n d s w S cs hO hG hok hr hSB hBw ⟨hSt, hq0⟩
  have he := H.enters
  obtain ⟨i, nm, r, k, sb⟩ := n
  obtain ⟨sv, rfl, hs⟩ := reads_nd.1 hr
  obtain ⟨sa, cap, rfl, hlen, hcap, hel⟩ := reads_subs hs
  have hql : q < w.heap.size := hq0.lt
  have cq : w.cell? ⟨q, 0, none⟩ = some (.func (.func g) #[] caps) := hq0.cell 0
  by_cases hd : d = 0
  ·subst hd
   go_enter Tryz.func100, Tryz.ntmps100
   go_wp2_with fail
   go_ret
   exact ⟨rfl, ⟨H.keep _ _ _ hSt ((Chg.refl _ _).alloc _), hq0.alloc _⟩, (Chg.refl _ _).alloc _⟩
  ·have hb : (d == 0) = false := by simpa using hd
   have Hd := Lib.hid hd
   clear hd
   go_enter Tryz.func100, Tryz.ntmps100
   go_wp2_with fail
   generalize hw1 : w.alloc _ = w1
   have hc1 : Chg NoB w w1 := by
    rw [← hw1]
    repeat (first | exact Chg.refl _ _ | apply Chg.alloc | apply Chg.drew)
   clear hw1
   refine (H.call (.mk i nm r k sb) s w1 S _ hG hok (hr.chg0 hc1) hSB (by have := hc1.size; omega) (H.keep _ _ _ hSt hc1)).mono ?_
   rintro en w2 ⟨rfl, hSt2, hc2⟩
   have hq2 := (hq0.keep hc1 NoB.elim).rows hc2 hq (fun e => hne e.symm)
   replace hc2 := hc1.rows0 hc2
   rcases hf : f (.mk i nm r k sb) s with ⟨b, st1⟩
   rw [hf] at hSt2
   have hfin : allF f (.mk i nm r k sb) d s = (b, st1) := by simp only [allF]; rw [if_neg Hd.out, hf]
   have Hfin := Lib.hid hfin
   clear hf hfin
   go_wp2_with fail
   go_ret
   rw [Hfin.out]
   exact ⟨rfl, ⟨hSt2, hq2⟩, hc2⟩

set_option maxHeartbeats 400000 in
theorem all_any {σ : Type} {g : Nat} {caps : Array Value} {e B c : Nat} {St : σ → World → Prop} {f : Nd → σ → Bool × σ} {Go : σ → Prop} (H : Oks g caps e B c St f Go) (hne : e ≠ 35) (hn2 : e ≠ 28)
  (nd : Nd) (w : World) (S : Nat → Prop) (cs : List Value) (s : σ) (hh : nd.high ≤ 4611686018427387904) (hG : Go s) (hok : nd.ok) (hr : Reads w S nd.dt cs) (hSB : ∀ b, S b → b < B) (hBw : B ≤ w.heap.size) (hSt : St s w) :
  Calls Tryz.prog 64 #[.agg cs.toArray, .func (.func g) #[] caps] w (RetSt St (walkF (allF f) nd 0 s) e B c w) := by
 obtain ⟨i, nm, r, k, sb⟩ := nd
 obtain ⟨sv, rfl, hs⟩ := reads_nd.1 hr
 obtain ⟨sa, cap, rfl, hlen, hcap, hel⟩ := reads_subs hs
 have hlt := H.lt _ _ hSt
 go_enter Tryz.func64, Tryz.ntmps64
 go_wp2_with fail
 generalize hw1 : (w.alloc _).alloc _ = w1
 have hc1 : Chg NoB w w1 := by
  rw [← hw1]
  repeat (first | exact Chg.refl _ _ | apply Chg.alloc | apply Chg.drew)
 have hb1 : Blk w1 (w.heap.size + 1) ([.func (.func g) #[] caps]) 35 := by
  rw [← hw1]
  repeat (first | exact Blk.newAt (by first | rfl | (simp; done) | (simp; omega)) | apply Blk.alloc | apply Blk.drew)
 clear hw1
 refine (walk_any (sees_all H hne (w.heap.size + 1) (by omega)) hn2 _ (.mk i nm r k sb) w1 S _ 0 s (Nat.le_refl _) ⟨by omega, by omega⟩ hG hok (hr.chg0 hc1) hSB (by have := hc1.size; omega) ⟨H.keep _ _ _ hSt hc1, hb1⟩).mono ?_
 rintro en w2 ⟨rfl, hSt2, hc2⟩
 go_wp2_with fail
 go_ret
 exact ⟨rfl, hSt2.1, hc1.rows0 hc2⟩
end Go.Proofs.YtgcmfpcgmkkobaaGreatDoor
namespace Go.Proofs.YtgcmfpcgmkkobaaGreatDoor
open Go.RowKit

theorem infoInt1 : (Tryz.prog.info? 3).map (fun i => (i.zero, i.size, i.bytes)) = some (some (.int .i64 0), 1, 8) := by kernel_rfl
def intDt (x : Int) : Dt := .lit (.int .i64 x)

/-- A slice's elements, as the law on append wants them. -/
theorem news_of {w : World} {S : Nat → Prop} {k : Nat} {ds : List Dt} {v : Value} (h : Reads w S (.list k ds) [v]) :
  ∃ a c news, v = .slice a ds.length c ∧ ds.length ≤ c ∧ c ≤ maxLen ∧ ReadsC w S k ds news ∧ (∀ ad, a = some ad → ∀ j u, news[j]? = some u → w.cell? (ad.add j) = some u) ∧ (a = none → ds.length = 0 ∧ c = 0) := by
 obtain ⟨a, c, h0, h1, h2, h3⟩ := h
 have e : v = .slice a ds.length c := by simpa using h0
 subst e
 rcases h3 with ⟨rfl, h3⟩ | ⟨b, off, rfl, hS, hb, hE⟩
 ·exact ⟨a, c, [], rfl, h1, h2, rfl, fun _ _ j u hu => by simp at hu, fun e => ⟨rfl, h3 e⟩⟩
 ·obtain ⟨xs, hx, hc⟩ := hE.toC
  refine ⟨_, c, xs, rfl, h1, h2, hx, fun ad had j u hu => ?_, fun e => by cases e⟩
  obtain rfl := Option.some.inj had
  rw [show (⟨b, off, none⟩ : Addr).add j = ⟨b, off + j, none⟩ from by unfold Addr.add; split <;> simp_all]
  exact hc j u hu

theorem ints_news {w : World} {S : Nat → Prop} : ∀ {l : List Int} {xs : List Value}, ReadsC w S 1 (l.map intDt) xs → xs = l.map (Value.int .i64)
 | [], xs, h => h
 | x :: l, xs, h => by
  obtain ⟨c, r, rfl, _, h2, h3⟩ := h
  obtain ⟨rfl, _⟩ := (h2 : c = [.int .i64 x] ∧ _)
  rw [ints_news h3]; rfl
theorem ints_chunks (w : World) (S : Nat → Prop) : ∀ l : List Int, ReadsC w S 1 (l.map intDt) (l.map (Value.int .i64))
 | [] => rfl
 | x :: l => ⟨[.int .i64 x], _, rfl, rfl, ⟨rfl, rfl⟩, ints_chunks w S l⟩

theorem lt_of_at {w : World} {p : Addr} {v : Value} (h : w.cell? p = some v) : p.block < w.heap.size := by
 unfold World.cell? at h
 cases hb : w.heap[p.block]? with
 | none => rw [hb] at h; simp at h
 | some o => exact lt_of_block hb
end Go.Proofs.YtgcmfpcgmkkobaaGreatDoor
namespace Go.Proofs.YtgcmfpcgmkkobaaGreatDoor
open Go.RowKit

/-- A leaf with its levels. -/
structure Lf where
 id : Int
 kind : Int
 mr : Int
 md : Int
 path : List Int
mutual
def lvN (mr md : Int) (p : List Int) : Nd → List Lf
 | .mk i _ r k s => if k = 0 then lvL (if r = 3 then mr + 1 else mr) (if r = 1 then md else md + 1) (p ++ [i]) s
  else [⟨i, k, if r = 3 then mr + 1 else mr, if r = 1 then md else md + 1, p ++ [i]⟩]
def lvL (mr md : Int) (p : List Int) : List Nd → List Lf
 | [] => []
 | n :: ns => lvN mr md p n ++ lvL mr md p ns
end
theorem lvL_append (mr md : Int) (p : List Int) : ∀ (a b : List Nd), lvL mr md p (a ++ b) = lvL mr md p a ++ lvL mr md p b
 | [], b => rfl
 | x :: xs, b => by simp only [List.cons_append, lvL, lvL_append mr md p xs b, List.append_assoc]
theorem lvL_one (mr md : Int) (p : List Int) (n : Nd) : lvL mr md p [n] = lvN mr md p n := by simp [lvL]
mutual
theorem lvN_len : ∀ (n : Nd) (mr md : Int) (p : List Int), (lvN mr md p n).length ≤ n.weigh
 | .mk i n r k s, mr, md, p => by
  simp only [lvN, Nd.weigh]
  split
  ·have := lvL_len s (if r = 3 then mr + 1 else mr) (if r = 1 then md else md + 1) (p ++ [i])
   omega
  ·simp
theorem lvL_len : ∀ (l : List Nd) (mr md : Int) (p : List Int), (lvL mr md p l).length ≤ Nd.weighs l
 | [], mr, md, p => Nat.le_refl _
 | n :: ns, mr, md, p => by
  have h1 := lvN_len n mr md p
  have h2 := lvL_len ns mr md p
  simp only [lvL, Nd.weighs, List.length_append]
  omega
end
theorem weighs_app : ∀ (a b : List Nd), Nd.weighs (a ++ b) = Nd.weighs a + Nd.weighs b
 | [], b => by simp [Nd.weighs]
 | x :: xs, b => by simp only [List.cons_append, Nd.weighs, weighs_app xs b]; omega

def Lf.dt (l : Lf) : Dt := .agg [.lit (.int .i64 l.id), .lit (.int .i64 l.kind), .lit (.int .i64 l.mr), .lit (.int .i64 l.md), .list 1 (l.path.map intDt)]
theorem reads_lf {w : World} {S : Nat → Prop} {l : Lf} {cs : List Value} :
  Reads w S l.dt cs ↔ ∃ v, cs = [.int .i64 l.id, .int .i64 l.kind, .int .i64 l.mr, .int .i64 l.md, v] ∧ Reads w S (.list 1 (l.path.map intDt)) [v] := by
 simp only [Lf.dt, Reads, ReadsF]
 constructor
 ·rintro ⟨c0, r0, rfl, ⟨rfl, _⟩, c1, r1, rfl, ⟨rfl, _⟩, c2, r2, rfl, ⟨rfl, _⟩, c3, r3, rfl, ⟨rfl, _⟩, c4, r4, rfl, ⟨a, cap, rfl, h⟩, rfl⟩
  exact ⟨_, rfl, a, cap, rfl, h⟩
 ·rintro ⟨v, rfl, a, cap, h0, h⟩
  exact ⟨[_], _, rfl, ⟨rfl, rfl⟩, [_], _, rfl, ⟨rfl, rfl⟩, [_], _, rfl, ⟨rfl, rfl⟩, [_], _, rfl, ⟨rfl, rfl⟩, [v], [], rfl, ⟨a, cap, h0, h⟩, rfl⟩
section
open Region
variable {P : Program} {ops : Array Oper} {Q : Exit → Act → World → Prop} {md : Region.Mode} {S : World → Prop} {ns : List Nat}
/-- Three may come up: all are walked. -/
theorem n_fork3 (i j k : Nat) {oi oj ok : Oper} {fuel : Nat} {listed : Array Bool} {a : Act} {w : World} (hi : ops[i]? = some oi) (hj : ops[j]? = some oj) (hk : ops[k]? = some ok) (hr : Region.ready md ops listed = [i, j, k])
  (h1 : wpList P ops (Exit.then (fun a' w' => (ns.contains i = false → S w') ∧ ((ns.contains i = false → S w') → wpAnyN P md ops Q S ns fuel (listed.setIfInBounds i true) a' w')) Q) [oi] a w)
  (h2 : wpList P ops (Exit.then (fun a' w' => (ns.contains j = false → S w') ∧ ((ns.contains j = false → S w') → wpAnyN P md ops Q S ns fuel (listed.setIfInBounds j true) a' w')) Q) [oj] a w)
  (h3 : wpList P ops (Exit.then (fun a' w' => (ns.contains k = false → S w') ∧ ((ns.contains k = false → S w') → wpAnyN P md ops Q S ns fuel (listed.setIfInBounds k true) a' w')) Q) [ok] a w) : wpAnyN P md ops Q S ns (fuel + 1) listed a w := by
 refine ⟨fun h0 => absurd (hr ▸ h0) (by simp), fun x hx => ?_⟩
 rw [hr] at hx
 simp only [List.mem_cons, List.not_mem_nil, or_false] at hx
 rcases hx with rfl | rfl | rfl
 ·exact n_walk _ hi h1
 ·exact n_walk _ hj h2
 ·exact n_walk _ hk h3
end

theorem Own.form1 {w : World} {B e k : Nat} {S : Nat → Prop} {v : Value} {l : List Int} (h : Own w B e k S v (l.map intDt)) : ∃ a c, v = .slice a l.length c := by
 obtain ⟨a, c, e⟩ := h.form
 exact ⟨a, c, by rw [e, List.length_map]⟩

theorem blk_set5 {w : World} {b : Nat} {c0 c1 c2 c3 c4 : Value} {t : TypeId} (h : Blk w b [c0, c1, c2, c3, c4] t) (v0 v1 v2 v3 v4 : Value) :
  Blk (((((w.setCell ⟨b, 0, none⟩ v0).setCell ⟨b, 1, none⟩ v1).setCell ⟨b, 2, none⟩ v2).setCell ⟨b, 3, none⟩ v3).setCell ⟨b, 4, none⟩ v4) b [v0, v1, v2, v3, v4] t :=
 ((((h.set 0 v0).set 1 v1).set 2 v2).set 3 v3).set 4 v4
theorem chg_set5 {C : Nat → Prop} {a w : World} (h : Chg C a w) (b : Nat) (hb : C b ∨ a.heap.size ≤ b) (v0 v1 v2 v3 v4 : Value) :
  Chg C a (((((w.setCell ⟨b, 0, none⟩ v0).setCell ⟨b, 1, none⟩ v1).setCell ⟨b, 2, none⟩ v2).setCell ⟨b, 3, none⟩ v3).setCell ⟨b, 4, none⟩ v4) :=
 ((((h.setCell (p := ⟨b, 0, none⟩) hb v0).setCell (p := ⟨b, 1, none⟩) hb v1).setCell (p := ⟨b, 2, none⟩) hb v2).setCell (p := ⟨b, 3, none⟩) hb v3).setCell (p := ⟨b, 4, none⟩) hb v4
end Go.Proofs.YtgcmfpcgmkkobaaGreatDoor
