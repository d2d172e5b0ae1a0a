/-
 Plain words about memory, over any program: what a call may have changed ('Chg'), what cells read as ('Reads'), a slice that the call itself builds ('Own'). No condition; nothing of one program stands here.
 A node of a schema as plain data, and as it reads in memory.
 A region that draws its order, walked once in an order of one's choice: what only reads is taken as early as may be, under one condition S on the world; what writes comes one by one; S is asked anew behind a write only where a read may still be to come.
 The copy of a node (shredcolref2.OwnNode): for every node that lies in memory she hands back a new one that reads the same; nothing that was there has changed.
 Two nodes that read the same: shredcolref2.SameNode answers true; nothing has changed.
 All nodes of a tree as they come, at most so many (shredcolref2.flat, Flat), and what is said of a schema (shredcollaw2.tame).
 schema.Copy: a node of its own, all the way down.
 strings.Builder: what WriteString does to a builder of the call's own, with all that it leaves as it was (the shelf's contract, walked over this translation, whose copyCheck bears a stop).
 A node that is handed in, opened: its reading as plain data.
-/
import Derived.WalkKit
import Derived.WalkSpells
import Derived.WalkLawsBesides
import Derived.Lib.Hide
import Derived.Deep.AppendLies
import Derived.OrdersHeld
import Derived.RegionTactic
import Derived.StillTail
import Derived.NoCompiler
import Derived.Test.YtgcmfpcgmkkobaaGreatDoorProg
import Derived.Handy
import Derived.Lib.Builder
import Derived.Lib.AppendStr
import Derived.Lib.UnsafeStr
import Derived.Lib.MakeNoZero
import Derived.Laws.Externs
import Derived.Lib.OthersKept
import Derived.OpenShut
import Derived.ProofKit
set_option linter.unusedVariables false
set_option linter.unusedSimpArgs false
namespace Go.Proofs.YtgcmfpcgmkkobaaGreatDoor
open Go.RowKit

/-- w' comes of w by new blocks and by writes to blocks in C alone. -/
structure Chg (C : Nat → Prop) (w w' : World) : Prop where
 os : w'.os = w.os
 tape : w'.tape = w.tape
 output : w'.output = w.output
 size : w.heap.size ≤ w'.heap.size
 block : ∀ k, k < w.heap.size → ¬ C k → w'.heap[k]? = w.heap[k]?

def NoB : Nat → Prop := fun _ => False
theorem NoB.elim {b : Nat} {p : Prop} (h : NoB b) : p := False.elim h
/-- The walk stands still here. -/
def Stop (p : Prop) : Prop := p
theorem stop_here {p : Prop} (h : Stop p) : p := h
theorem Stop.go {p : Prop} (h : p) : Stop p := h
/-- One block. -/
def OneB (b : Nat) : Nat → Prop := fun k => k = b

theorem Chg.refl (C : Nat → Prop) (w : World) : Chg C w w := ⟨rfl, rfl, rfl, Nat.le_refl _, fun _ _ _ => rfl⟩
theorem Chg.trans {C D : Nat → Prop} {a b c : World} (h : Chg C a b) (k : Chg D b c) (hd : ∀ i, D i → C i ∨ a.heap.size ≤ i) : Chg C a c :=
 ⟨k.os.trans h.os, k.tape.trans h.tape, k.output.trans h.output, Nat.le_trans h.size k.size, fun i hi hn =>
  (k.block i (Nat.lt_of_lt_of_le hi h.size) (fun e => by rcases hd i e with x | x; exact hn x; omega)).trans (h.block i hi hn)⟩
theorem Chg.tr {C : Nat → Prop} {a b c : World} (h : Chg C a b) (k : Chg NoB b c) : Chg C a c := h.trans k (fun _ h => h.elim)
theorem Chg.mono {C D : Nat → Prop} {a b : World} (h : Chg C a b) (hd : ∀ i, i < a.heap.size → C i → D i) : Chg D a b :=
 ⟨h.os, h.tape, h.output, h.size, fun i hi hn => h.block i hi (fun e => hn (hd i hi e))⟩
theorem Chg.toBelow {w w' : World} (h : Chg NoB w w') : Below w.heap.size w w' := ⟨h.os, h.tape, h.output, h.size, fun k hk => h.block k hk (fun e => e)⟩
theorem Chg.ofBelow {w w' : World} (h : Below w.heap.size w w') : Chg NoB w w' := ⟨h.os, h.tape, h.output, h.size, fun k hk _ => h.block k hk⟩
theorem Chg.alloc {C : Nat → Prop} {a w : World} (h : Chg C a w) (o : Obj) : Chg C a (w.alloc o) :=
 ⟨h.os, h.tape, h.output, by simpa using Nat.le_succ_of_le h.size, fun k hk hn => (Below.heap_alloc _ _ _ (Nat.lt_of_lt_of_le hk h.size)).trans (h.block k hk hn)⟩
theorem Chg.drew {C : Nat → Prop} {a w : World} (h : Chg C a w) : Chg C a w.drew := ⟨h.os, h.tape, h.output, h.size, h.block⟩
theorem Chg.drewN {C : Nat → Prop} {a w : World} (h : Chg C a w) (n : Nat) : Chg C a (w.drewN n) := ⟨h.os, h.tape, h.output, h.size, h.block⟩
theorem Chg.ofDrew {C : Nat → Prop} {w w' : World} (h : Chg C w.drew w') : Chg C w w' := ⟨h.os, h.tape, h.output, h.size, h.block⟩
theorem Chg.setCell {C : Nat → Prop} {a w : World} (h : Chg C a w) {p : Addr} (hp : C p.block ∨ a.heap.size ≤ p.block) (u : Value) : Chg C a (w.setCell p u) :=
 ⟨h.os, h.tape, h.output, by simpa using h.size, fun k hk hn => (Below.heap_setCell _ _ _ _ (fun e => by subst e; rcases hp with x | x; exact hn x; omega)).trans (h.block k hk hn)⟩
theorem Chg.grown {C : Nat → Prop} {a w w' : World} {row : Option Nat} (h : Chg C a w) (hg : w.grownBy w' row) (hr : ∀ k, row = some k → C k ∨ a.heap.size ≤ k) : Chg C a w' :=
 ⟨hg.os.trans h.os, hg.tape.trans h.tape, hg.output.trans h.output, Nat.le_trans h.size hg.size, fun k hk hn =>
  (hg.block k (Nat.lt_of_lt_of_le hk h.size) (fun e => by rcases hr k e.symm with x | x; exact hn x; omega)).trans (h.block k hk hn)⟩
theorem Chg.at {C : Nat → Prop} {w w' : World} (h : Chg C w w') {k : Nat} {o : Obj} (hk : w.heap[k]? = some o) (hn : ¬ C k) : w'.heap[k]? = some o :=
 (h.block k (lt_of_block hk) hn).trans hk
theorem Chg.cell {C : Nat → Prop} {w w' : World} (h : Chg C w w') {p : Addr} (hp : p.block < w.heap.size) (hn : ¬ C p.block) : w'.cell? p = w.cell? p := World.cell?_of_block (h.block p.block hp hn)
theorem Chg.frozen {C : Nat → Prop} {w w' : World} (h : Chg C w w') {p : Addr} (hp : p.block < w.heap.size) (hn : ¬ C p.block) : w'.frozen? p = w.frozen? p := World.frozen?_of_block (h.block p.block hp hn)

/-- From block B on: block b, and the rows whose elements are of type e. -/
def RowsOf (w : World) (e B b : Nat) : Nat → Prop := fun k => B ≤ k ∧ (k = b ∨ ∃ c fz, w.heap[k]? = some (.cells c e fz))
theorem Chg.rows {e B b : Nat} {a c d : World} (h : Chg (RowsOf a e B b) a c) (k : Chg (RowsOf c e B b) c d) : Chg (RowsOf a e B b) a d :=
 ⟨k.os.trans h.os, k.tape.trans h.tape, k.output.trans h.output, Nat.le_trans h.size k.size, fun i hi hn =>
  (k.block i (Nat.lt_of_lt_of_le hi h.size) (fun ⟨h1, h2⟩ => hn ⟨h1, h2.imp id (fun ⟨x, y, hx⟩ => ⟨x, y, (h.block i hi hn).symm.trans hx⟩)⟩)).trans (h.block i hi hn)⟩
theorem Chg.rows0 {e B b : Nat} {a c d : World} (h : Chg NoB a c) (k : Chg (RowsOf c e B b) c d) : Chg (RowsOf a e B b) a d := (h.mono (fun _ _ x => NoB.elim x)).rows k

/-- A block is known whole, and is not frozen. -/
def Blk (w : World) (b : Nat) (cs : List Value) (t : TypeId) : Prop := w.heap[b]? = some (.cells cs.toArray t (0, 0))
theorem Blk.lt {w : World} {b : Nat} {cs : List Value} {t : TypeId} (h : Blk w b cs t) : b < w.heap.size := lt_of_block h
theorem Blk.cell {w : World} {b : Nat} {cs : List Value} {t : TypeId} (h : Blk w b cs t) (i : Nat) : w.cell? ⟨b, i, none⟩ = cs[i]? := by
 unfold Blk at h; simp [World.cell?, h]
theorem Blk.free {w : World} {b : Nat} {cs : List Value} {t : TypeId} (h : Blk w b cs t) (i : Nat) : w.frozen? ⟨b, i, none⟩ = false := by
 unfold Blk at h; simp only [World.frozen?, h]; simp
theorem Blk.new (w : World) (cs : List Value) (t : TypeId) : Blk (w.alloc (.cells cs.toArray t)) w.heap.size cs t := heap_alloc_new w _
theorem Blk.newAt {w : World} {b : Nat} {cs : List Value} {t : TypeId} (h : b = w.heap.size) : Blk (w.alloc (.cells cs.toArray t)) b cs t := h ▸ Blk.new w cs t
theorem Blk.alloc {w : World} {b : Nat} {cs : List Value} {t : TypeId} (h : Blk w b cs t) (o : Obj) : Blk (w.alloc o) b cs t := (Below.heap_alloc w o b h.lt).trans h
theorem Blk.drew {w : World} {b : Nat} {cs : List Value} {t : TypeId} (h : Blk w b cs t) : Blk w.drew b cs t := h
theorem Blk.keep {C : Nat → Prop} {w w' : World} {b : Nat} {cs : List Value} {t : TypeId} (h : Blk w b cs t) (hc : Chg C w w') (hn : ¬ C b) : Blk w' b cs t := hc.at h hn
theorem Blk.rows {w w' : World} {e B b k : Nat} {cs : List Value} {t : TypeId} (h : Blk w k cs t) (hc : Chg (RowsOf w e B b) w w') (hk : k ≠ b) (ht : t ≠ e) : Blk w' k cs t :=
 hc.at h (fun ⟨_, h2⟩ => by
  rcases h2 with h2 | ⟨c, fz, h2⟩
  ·exact hk h2
  ·have h3 := h.symm.trans h2
   simp only [Option.some.injEq, Obj.cells.injEq] at h3
   exact ht h3.2.1)
theorem Blk.grown {w w' : World} {row : Option Nat} {b : Nat} {cs : List Value} {t : TypeId} (h : Blk w b cs t) (hg : w.grownBy w' row) (hn : some b ≠ row) : Blk w' b cs t := (hg.block b h.lt hn).trans h
theorem Blk.other {w : World} {b : Nat} {cs : List Value} {t : TypeId} (h : Blk w b cs t) {p : Addr} (hp : b ≠ p.block) (v : Value) : Blk (w.setCell p v) b cs t := (Below.heap_setCell w p v b hp).trans h
theorem Blk.set {w : World} {b : Nat} {cs : List Value} {t : TypeId} (h : Blk w b cs t) (i : Nat) (v : Value) : Blk (w.setCell ⟨b, i, none⟩ v) b (cs.set i v) t := by
 unfold Blk at h ⊢
 simp only [World.setCell, Array.getElem?_modify, if_true, h, Option.map_some]
 simp

/-- The cells of a block, as the law on append wants them. -/
theorem Blk.news {w : World} {b : Nat} {cs : List Value} {t : TypeId} (h : Blk w b cs t) : ∀ ad, some (⟨b, 0, none⟩ : Addr) = some ad → ∀ j u, cs[j]? = some u → w.cell? (ad.add j) = some u := by
 intro ad had j u hu
 obtain rfl := Option.some.inj had
 rw [show (⟨b, 0, none⟩ : Addr).add j = ⟨b, j, none⟩ from by unfold Addr.add; split <;> simp_all, h.cell j, hu]

/-- WHAT IS READ: one cell as it is; parts one behind the other; a slice whose elements take k cells each. -/
inductive Dt where
 | lit (v : Value)
 | agg (l : List Dt)
 | list (k : Nat) (l : List Dt)

mutual
/-- The cells cs read as the datum, in w; the blocks that the reading goes through lie in S. -/
def Reads (w : World) (S : Nat → Prop) : Dt → List Value → Prop
 | .lit v, cs => cs = [v] ∧ v.oneCell' = true
 | .agg l, cs => ReadsF w S l cs
 | .list k l, cs => ∃ a cap, cs = [.slice a l.length cap] ∧ l.length ≤ cap ∧ cap ≤ maxLen ∧ ((l = [] ∧ (a = none → cap = 0)) ∨ ∃ b off, a = some ⟨b, off, none⟩ ∧ S b ∧ b < w.heap.size ∧ ReadsE w S k b off l)
def ReadsF (w : World) (S : Nat → Prop) : List Dt → List Value → Prop
 | [], cs => cs = []
 | d :: ds, cs => ∃ c r, cs = c ++ r ∧ Reads w S d c ∧ ReadsF w S ds r
def ReadsE (w : World) (S : Nat → Prop) (k b : Nat) : Nat → List Dt → Prop
 | _, [] => True
 | off, d :: ds => (∃ cs, cs.length = k ∧ (∀ j c, cs[j]? = some c → w.cell? ⟨b, off + j, none⟩ = some c) ∧ Reads w S d cs) ∧ ReadsE w S k b (off + k) ds
end

mutual
theorem Reads.keep {w w' : World} {S S' : Nat → Prop} (hS : ∀ b, S b → S' b) (hz : w.heap.size ≤ w'.heap.size) (hb : ∀ b, b < w.heap.size → S b → w'.heap[b]? = w.heap[b]?) : ∀ (d : Dt) (cs : List Value), Reads w S d cs → Reads w' S' d cs
 | .lit v, cs, h => h
 | .agg l, cs, h => ReadsF.keep hS hz hb l cs h
 | .list k l, cs, h => by
  obtain ⟨a, cap, h1, h2, h3, h4⟩ := h
  refine ⟨a, cap, h1, h2, h3, ?_⟩
  rcases h4 with h4 | ⟨b, off, h5, h6, hlt, h7⟩
  ·exact .inl h4
  ·exact .inr ⟨b, off, h5, hS b h6, Nat.lt_of_lt_of_le hlt hz, ReadsE.keep hS hz hb (hb b hlt h6) off l h7⟩
theorem ReadsF.keep {w w' : World} {S S' : Nat → Prop} (hS : ∀ b, S b → S' b) (hz : w.heap.size ≤ w'.heap.size) (hb : ∀ b, b < w.heap.size → S b → w'.heap[b]? = w.heap[b]?) : ∀ (l : List Dt) (cs : List Value), ReadsF w S l cs → ReadsF w' S' l cs
 | [], cs, h => h
 | d :: ds, cs, h => by
  obtain ⟨c, r, h1, h2, h3⟩ := h
  exact ⟨c, r, h1, Reads.keep hS hz hb d c h2, ReadsF.keep hS hz hb ds r h3⟩
theorem ReadsE.keep {w w' : World} {S S' : Nat → Prop} (hS : ∀ b, S b → S' b) (hz : w.heap.size ≤ w'.heap.size) (hb : ∀ b, b < w.heap.size → S b → w'.heap[b]? = w.heap[b]?) {k b : Nat} (hk : w'.heap[b]? = w.heap[b]?) : ∀ (off : Nat) (l : List Dt), ReadsE w S k b off l → ReadsE w' S' k b off l
 | _, [], _ => True.intro
 | off, d :: ds, h => by
  obtain ⟨⟨cs, h1, h2, h3⟩, h4⟩ := h
  exact ⟨⟨cs, h1, fun j c hj => (World.cell?_of_block (a := ⟨b, off + j, none⟩) hk).trans (h2 j c hj), Reads.keep hS hz hb d cs h3⟩, ReadsE.keep hS hz hb hk (off + k) ds h4⟩
end

theorem Reads.chg {C S : Nat → Prop} {w w' : World} {d : Dt} {cs : List Value} (h : Reads w S d cs) (hc : Chg C w w') (hn : ∀ b, S b → ¬ C b) : Reads w' S d cs :=
 Reads.keep (fun _ x => x) hc.size (fun b hlt hb => hc.block b hlt (hn b hb)) d cs h
theorem Reads.chg0 {S : Nat → Prop} {w w' : World} {d : Dt} {cs : List Value} (h : Reads w S d cs) (hc : Chg NoB w w') : Reads w' S d cs := h.chg hc (fun _ _ e => e)
theorem Reads.mono {S S' : Nat → Prop} {w : World} {d : Dt} {cs : List Value} (h : Reads w S d cs) (hS : ∀ b, S b → S' b) : Reads w S' d cs :=
 Reads.keep hS (Nat.le_refl _) (fun _ _ _ => rfl) d cs h

mutual
/-- The blocks of a reading lie in the heap as it is. -/
theorem Reads.lt {w : World} {S : Nat → Prop} : ∀ (d : Dt) (cs : List Value), Reads w S d cs → Reads w (fun b => S b ∧ b < w.heap.size) d cs
 | .lit v, cs, h => h
 | .agg l, cs, h => ReadsF.lt l cs h
 | .list k l, cs, h => by
  obtain ⟨a, cap, h1, h2, h3, h4⟩ := h
  refine ⟨a, cap, h1, h2, h3, ?_⟩
  rcases h4 with h4 | ⟨b, off, h5, h6, hlt, h7⟩
  ·exact .inl h4
  ·exact .inr ⟨b, off, h5, ⟨h6, hlt⟩, hlt, ReadsE.lt off l h7⟩
theorem ReadsF.lt {w : World} {S : Nat → Prop} : ∀ (l : List Dt) (cs : List Value), ReadsF w S l cs → ReadsF w (fun b => S b ∧ b < w.heap.size) l cs
 | [], cs, h => h
 | d :: ds, cs, h => by
  obtain ⟨c, r, h1, h2, h3⟩ := h
  exact ⟨c, r, h1, Reads.lt d c h2, ReadsF.lt ds r h3⟩
theorem ReadsE.lt {w : World} {S : Nat → Prop} {k b : Nat} : ∀ (off : Nat) (l : List Dt), ReadsE w S k b off l → ReadsE w (fun b => S b ∧ b < w.heap.size) k b off l
 | _, [], _ => True.intro
 | off, d :: ds, h => by
  obtain ⟨⟨cs, h1, h2, h3⟩, h4⟩ := h
  exact ⟨⟨cs, h1, h2, Reads.lt d cs h3⟩, ReadsE.lt (off + k) ds h4⟩
end

mutual
theorem Reads.one {w : World} {S : Nat → Prop} : ∀ (d : Dt) (cs : List Value), Reads w S d cs → ∀ u ∈ cs, u.oneCell' = true
 | .lit v, cs, h, u, hu => by
  obtain ⟨rfl, h⟩ := h
  simp only [List.mem_cons, List.not_mem_nil, or_false] at hu
  exact hu ▸ h
 | .agg l, cs, h, u, hu => ReadsF.one l cs h u hu
 | .list k l, cs, h, u, hu => by
  obtain ⟨a, cap, rfl, _⟩ := h
  simp only [List.mem_cons, List.not_mem_nil, or_false] at hu
  subst hu
  rfl
theorem ReadsF.one {w : World} {S : Nat → Prop} : ∀ (l : List Dt) (cs : List Value), ReadsF w S l cs → ∀ u ∈ cs, u.oneCell' = true
 | [], cs, h, u, hu => by
  have h : cs = [] := h
  subst h
  cases hu
 | d :: ds, cs, h, u, hu => by
  obtain ⟨c, r, rfl, h2, h3⟩ := h
  rcases List.mem_append.1 hu with hu | hu
  ·exact Reads.one d c h2 u hu
  ·exact ReadsF.one ds r h3 u hu
end

/-- One element of a slice. -/
theorem ReadsE.get {w : World} {S : Nat → Prop} {k b : Nat} : ∀ {off : Nat} {l : List Dt}, ReadsE w S k b off l → ∀ (i : Nat) (d : Dt), l[i]? = some d →
  ∃ cs, cs.length = k ∧ (∀ j c, cs[j]? = some c → w.cell? ⟨b, off + i * k + j, none⟩ = some c) ∧ Reads w S d cs
 | _, [], _, i, d, hi => by simp at hi
 | off, x :: ds, h, 0, d, hi => by
  obtain ⟨⟨cs, h1, h2, h3⟩, _⟩ := h
  simp only [List.getElem?_cons_zero, Option.some.injEq] at hi
  subst hi
  exact ⟨cs, h1, fun j c hj => by simpa using h2 j c hj, h3⟩
 | off, x :: ds, h, i + 1, d, hi => by
  obtain ⟨cs, h1, h2, h3⟩ := ReadsE.get h.2 i d (by simpa using hi)
  exact ⟨cs, h1, fun j c hj => by rw [← h2 j c hj]; congr 2; rw [Nat.succ_mul]; omega, h3⟩

/-- A list's chunks of k cells each. -/
def ReadsC (w : World) (S : Nat → Prop) (k : Nat) : List Dt → List Value → Prop
 | [], xs => xs = []
 | d :: ds, xs => ∃ c r, xs = c ++ r ∧ c.length = k ∧ Reads w S d c ∧ ReadsC w S k ds r

theorem ReadsC.keep {w w' : World} {S S' : Nat → Prop} (hS : ∀ b, S b → S' b) (hz : w.heap.size ≤ w'.heap.size) (hb : ∀ b, b < w.heap.size → S b → w'.heap[b]? = w.heap[b]?) {k : Nat} : ∀ (l : List Dt) (xs : List Value), ReadsC w S k l xs → ReadsC w' S' k l xs
 | [], xs, h => h
 | d :: ds, xs, h => by
  obtain ⟨c, r, h1, h2, h3, h4⟩ := h
  exact ⟨c, r, h1, h2, Reads.keep hS hz hb d c h3, ReadsC.keep hS hz hb ds r h4⟩
theorem ReadsC.lt {w : World} {S : Nat → Prop} {k : Nat} : ∀ (l : List Dt) (xs : List Value), ReadsC w S k l xs → ReadsC w (fun b => S b ∧ b < w.heap.size) k l xs
 | [], xs, h => h
 | d :: ds, xs, h => by
  obtain ⟨c, r, h1, h2, h3, h4⟩ := h
  exact ⟨c, r, h1, h2, Reads.lt d c h3, ReadsC.lt ds r h4⟩
theorem ReadsC.snoc {w : World} {S : Nat → Prop} {k : Nat} {d : Dt} {c : List Value} (hc : c.length = k) (hd : Reads w S d c) : ∀ (l : List Dt) (xs : List Value), ReadsC w S k l xs → ReadsC w S k (l ++ [d]) (xs ++ c)
 | [], xs, h => by
  have h : xs = [] := h
  subst h
  exact ⟨c, [], by simp, hc, hd, rfl⟩
 | x :: ds, xs, h => by
  obtain ⟨c1, r, rfl, h2, h3, h4⟩ := h
  exact ⟨c1, r ++ c, by simp, h2, h3, ReadsC.snoc hc hd ds r h4⟩
theorem ReadsC.append {w : World} {S : Nat → Prop} {k : Nat} : ∀ (l m : List Dt) (xs ys : List Value), ReadsC w S k l xs → ReadsC w S k m ys → ReadsC w S k (l ++ m) (xs ++ ys)
 | [], m, xs, ys, h, hm => by
  have h : xs = [] := h
  subst h
  exact hm
 | x :: ds, m, xs, ys, h, hm => by
  obtain ⟨c1, r, rfl, h2, h3, h4⟩ := h
  exact ⟨c1, r ++ ys, by simp, h2, h3, ReadsC.append ds m r ys h4 hm⟩
theorem ReadsC.length {w : World} {S : Nat → Prop} {k : Nat} : ∀ {l : List Dt} {xs : List Value}, ReadsC w S k l xs → xs.length = l.length * k
 | [], xs, h => by
  have h : xs = [] := h
  simp [h]
 | x :: ds, xs, h => by
  obtain ⟨c1, r, rfl, h2, h3, h4⟩ := h
  have := ReadsC.length h4
  simp [h2, this, Nat.succ_mul, Nat.add_comm]

theorem ReadsC.one {w : World} {S : Nat → Prop} {k : Nat} : ∀ (l : List Dt) (xs : List Value), ReadsC w S k l xs → ∀ u ∈ xs, u.oneCell' = true
 | [], xs, h, u, hu => by
  have h : xs = [] := h
  subst h
  cases hu
 | d :: ds, xs, h, u, hu => by
  obtain ⟨c, r, rfl, _, h3, h4⟩ := h
  rcases List.mem_append.1 hu with hu | hu
  ·exact Reads.one d c h3 u hu
  ·exact ReadsC.one ds r h4 u hu
theorem ReadsC.single {w : World} {S : Nat → Prop} {k : Nat} {d : Dt} {c : List Value} (hc : c.length = k) (hd : Reads w S d c) : ReadsC w S k [d] c := ⟨c, [], by simp, hc, hd, rfl⟩

/-- Chunks that lie in a block are a slice's elements. -/
theorem ReadsC.toE {w : World} {S : Nat → Prop} {k b : Nat} : ∀ (l : List Dt) (xs : List Value) (off : Nat), ReadsC w S k l xs → (∀ j c, xs[j]? = some c → w.cell? ⟨b, off + j, none⟩ = some c) → ReadsE w S k b off l
 | [], _, _, _, _ => True.intro
 | d :: ds, xs, off, h, hc => by
  obtain ⟨c, r, rfl, h2, h3, h4⟩ := h
  refine ⟨⟨c, h2, fun j x hj => hc j x ?_, h3⟩, ReadsC.toE ds r (off + k) h4 fun j x hj => ?_⟩
  ·rw [List.getElem?_append_left (List.getElem?_eq_some_iff.1 hj).1]; exact hj
  ·have := hc (k + j) x (by rw [List.getElem?_append_right (by omega), h2]; simpa using hj)
   rw [← Nat.add_assoc] at this
   exact this
/-- The other way: a slice's elements as chunks. -/
theorem ReadsE.toC {w : World} {S : Nat → Prop} {k b : Nat} : ∀ (l : List Dt) (off : Nat), ReadsE w S k b off l → ∃ xs, ReadsC w S k l xs ∧ ∀ j c, xs[j]? = some c → w.cell? ⟨b, off + j, none⟩ = some c
 | [], _, _ => ⟨[], rfl, fun j c h => by simp at h⟩
 | d :: ds, off, h => by
  obtain ⟨⟨cs, h1, h2, h3⟩, h4⟩ := h
  obtain ⟨xs, h5, h6⟩ := ReadsE.toC ds (off + k) h4
  refine ⟨cs ++ xs, ⟨cs, xs, rfl, h1, h3, h5⟩, fun j c hj => ?_⟩
  by_cases hlt : j < cs.length
  ·rw [List.getElem?_append_left hlt] at hj; exact h2 j c hj
  ·rw [List.getElem?_append_right (by omega)] at hj
   have := h6 (j - cs.length) c hj
   rw [← this]; congr 2; omega

/-- The blocks of what a slice under construction holds: not its own. -/
def OwnS (S : Nat → Prop) (w : World) (v : Value) : Nat → Prop := fun b => S b ∧ b < w.heap.size ∧ v.ownBlock ≠ some b

/-- A SLICE THAT THE CALL BUILDS: v holds ds, k cells each, in a row of its own from block B on; what the elements read through lies in S, and not in that row. -/
def Own (w : World) (B e k : Nat) (S : Nat → Prop) (v : Value) (ds : List Dt) : Prop := ∃ xs, w.ownsRow B e k v ds.length xs ∧ ReadsC w (OwnS S w v) k ds xs

theorem Own.nil (w : World) (B e k : Nat) (S : Nat → Prop) : Own w B e k S (.slice none 0 0) [] := ⟨[], World.ownsRow_nil _ _ _ _, rfl⟩
theorem Own.form {w : World} {B e k : Nat} {S : Nat → Prop} {v : Value} {ds : List Dt} (h : Own w B e k S v ds) : ∃ a c, v = .slice a ds.length c := by
 obtain ⟨xs, h1, _⟩ := h
 rcases h1.2 with ⟨rfl, h0⟩ | ⟨g, cap, cur, rfl, _⟩
 ·exact ⟨none, 0, by rw [h0]⟩
 ·exact ⟨_, _, rfl⟩
theorem Own.block {w : World} {B e k : Nat} {S : Nat → Prop} {v : Value} {ds : List Dt} (h : Own w B e k S v ds) : ∀ b, v.ownBlock = some b → B ≤ b ∧ b < w.heap.size := by
 obtain ⟨xs, h1, _⟩ := h
 exact h1.lt
theorem Own.keep {C : Nat → Prop} {w w' : World} {B e k : Nat} {S : Nat → Prop} {v : Value} {ds : List Dt} (h : Own w B e k S v ds) (hc : Chg C w w') (hn : ∀ b, S b → ¬ C b) (ho : ∀ b, v.ownBlock = some b → ¬ C b) : Own w' B e k S v ds := by
 obtain ⟨xs, h1, h2⟩ := h
 refine ⟨xs, ⟨h1.1, ?_⟩, ReadsC.keep (fun b hb => ⟨hb.1, Nat.lt_of_lt_of_le hb.2.1 hc.size, hb.2.2⟩) hc.size (fun b hlt hb => hc.block b hlt (hn b hb.1)) ds xs h2⟩
 rcases h1.2 with h0 | ⟨g, cap, cur, rfl, hb, hg, r⟩
 ·exact .inl h0
 ·exact .inr ⟨g, cap, cur, rfl, hb, hc.at hg (ho g rfl), r⟩
theorem Own.setCell {w : World} {B e k : Nat} {S : Nat → Prop} {v : Value} {ds : List Dt} (h : Own w B e k S v ds) {p : Addr} (hS : ∀ b, S b → b ≠ p.block) (hB : p.block < B) (u : Value) : Own (w.setCell p u) B e k S v ds :=
 h.keep ((Chg.refl (OneB p.block) w).setCell (.inl rfl) u) (fun b hb e => hS b hb e) (fun b hb e => by have := (h.block b hb).1; have e : b = p.block := e; omega)
theorem Own.mono {w : World} {B B' e k : Nat} {S S' : Nat → Prop} {v : Value} {ds : List Dt} (h : Own w B e k S v ds) (hB : B' ≤ B) (hS : ∀ b, S b → S' b) : Own w B' e k S' v ds := by
 obtain ⟨xs, h1, h2⟩ := h
 refine ⟨xs, ⟨h1.1, ?_⟩, ReadsC.keep (fun b hb => ⟨hS b hb.1, hb.2.1, hb.2.2⟩) (Nat.le_refl _) (fun _ _ _ => rfl) ds xs h2⟩
 rcases h1.2 with h0 | ⟨g, cap, cur, rfl, hb, r⟩
 ·exact .inl h0
 ·exact .inr ⟨g, cap, cur, rfl, Nat.le_trans hB hb, r⟩
/-- More elements: what the law on append leaves. -/
theorem Own.more {w w' : World} {B e k : Nat} {S : Nat → Prop} {v v' : Value} {ds ds2 : List Dt} {xs c : List Value} (hr : ReadsC w (OwnS S w v) k ds xs)
  (hd : ReadsC w (fun b => S b ∧ v.ownBlock ≠ some b) k ds2 c) (h' : w'.ownsRow B e k v' (ds.length + ds2.length) (xs ++ c)) (hg : w.grownBy w' v.ownBlock)
  (hv : v'.ownBlock = v.ownBlock ∨ v'.ownBlock = some w.heap.size) : Own w' B e k S v' (ds ++ ds2) := by
 have keepS : ∀ b, OwnS S w v b → OwnS S w' v' b := fun b hb => ⟨hb.1, Nat.lt_of_lt_of_le hb.2.1 hg.size, fun hx => by
  rcases hv with y | y
  ·exact hb.2.2 (y.symm.trans hx)
  ·have := hb.2.1
   rw [y] at hx
   have := Option.some.inj hx
   omega⟩
 have keepH : ∀ b, b < w.heap.size → OwnS S w v b → w'.heap[b]? = w.heap[b]? := fun b hlt hb => hg.block b hlt (fun e => hb.2.2 e.symm)
 exact ⟨xs ++ c, by simpa using h', ReadsC.append ds ds2 xs c (ReadsC.keep keepS hg.size keepH ds xs hr)
  (ReadsC.keep keepS hg.size keepH ds2 c (ReadsC.keep (fun b hb => ⟨hb.1.1, hb.2, hb.1.2⟩) (Nat.le_refl _) (fun _ _ _ => rfl) ds2 c (ReadsC.lt ds2 c hd)))⟩
/-- What has been built reads as a slice. -/
theorem Own.reads {w : World} {B e k : Nat} {S S' : Nat → Prop} {v : Value} {ds : List Dt} (h : Own w B e k S v ds) (hS : ∀ b, S b → S' b) (hB : ∀ b, B ≤ b → b < w.heap.size → S' b) (hm : ds.length ≤ maxLen) : Reads w S' (.list k ds) [v] := by
 obtain ⟨xs, h1, h2⟩ := h
 have hlt := h1.lt
 rcases h1.2 with ⟨rfl, h0⟩ | ⟨g, cap, cur, rfl, hb, hg, hn, hc, hsz, htk⟩
 ·have : ds = [] := List.eq_nil_of_length_eq_zero h0
  subst this
  exact ⟨none, 0, rfl, Nat.le_refl _, Nat.zero_le _, .inl ⟨rfl, fun _ => rfl⟩⟩
 ·refine ⟨_, cap, rfl, hn, hc, .inr ⟨g, 0, rfl, hB g hb (hlt g rfl).2, (hlt g rfl).2, ?_⟩⟩
  have h3 := ReadsC.keep (S' := S') (fun b hb => hS b hb.1) (Nat.le_refl _) (fun _ _ _ => rfl) ds xs h2
  refine ReadsC.toE ds xs 0 h3 fun j c hj => ?_
  have := h1.cells (g := g) rfl j c hj
  rwa [show (⟨g, 0, none⟩ : Addr).add j = ⟨g, 0 + j, none⟩ from by unfold Addr.add; split <;> simp_all] at this

section
variable {P : Program} {w : World} {o : Oper} {a : Act} {Q : Exit → Act → World → Prop}
/-- append(s, x...), s a slice that the call builds: at the operation. -/
theorem wp_own {K : Act → World → Prop} (s x : Operand) (t : TypeId) (ho : o.op = .call { callee := .builtin .append, args := #[s, x], argTypes := #[t, t] })
  (B e : Nat) {k bytes : Nat} {z : Value} (ht : P.underlying t = some (.slice e)) (hinfo : (P.info? e).map (fun i => (i.zero, i.size, i.bytes)) = some (some z, k, bytes)) (hzs : z.cells.size = k) (hk : 0 < k)
  {S : Nat → Prop} {v : Value} {ds : List Dt} (hs : a.eval s = v) (hown : Own w B e k S v ds)
  {ao : Option Addr} {m c : Nat} (hx : a.eval x = .slice ao m c) (ds2 : List Dt) (news : List Value) (hm : ds2.length = m) (hnews : ReadsC w (fun b => S b ∧ v.ownBlock ≠ some b) k ds2 news)
  (hc : ∀ ad, ao = some ad → ∀ j u, news[j]? = some u → w.cell? (ad.add j) = some u) (hnone : ao = none → m = 0 ∧ c = 0)
  (h63 : ds.length + m ≤ maxLen) (hbytes : (ds.length + m) * bytes ≤ 140737488355328) (hB : B ≤ w.heap.size)
  (h : ∀ ao' cap w', Own w' B e k S (.slice ao' (ds.length + m) cap) (ds ++ ds2) → Chg (fun b => v.ownBlock = some b) w w' →
   ((Value.slice ao' (ds.length + m) cap).ownBlock = v.ownBlock ∨ (Value.slice ao' (ds.length + m) cap).ownBlock = some w.heap.size) → K (a.put o.dst (.slice ao' (ds.length + m) cap)) w') : o.wp P a w K Q := by
 subst hm
 obtain ⟨i, hi, hz, hsz, hby⟩ := info_parts hinfo
 obtain ⟨xs, h1, h2⟩ := hown
 have key : ∃ v' w', (Builtin.append_ #[t, t] o.type #[v, .slice ao ds2.length c]).run P w = .ok v' w' ∧ w'.ownsRow B e k v' (ds.length + ds2.length) (xs ++ news) ∧ w.grownBy w' v.ownBlock ∧ (v'.ownBlock = v.ownBlock ∨ v'.ownBlock = some w.heap.size) := by
  cases ao with
  | some ad =>
   obtain ⟨v', w', r1, r2, r3, _, r5⟩ := run_append_own_at (P := P) w B t o.type e i z k bytes ht hi hz hsz hby hzs hk v ds.length xs h1 ad ds2.length c news hnews.length (hc ad rfl) (ReadsC.one ds2 news hnews) h63 hbytes hB
   exact ⟨v', w', r1, r2, r3, r5⟩
  | none =>
   obtain ⟨hm0, rfl⟩ := hnone rfl
   have hd : ds2 = [] := List.eq_nil_of_length_eq_zero hm0
   subst hd
   have hn : news = [] := hnews
   subst hn
   exact ⟨v, w, run_append_owned_none (P := P) w B t o.type e i k ht hi v ds.length xs h1, by simpa using h1, World.grownBy.refl _ _, .inl rfl⟩
 obtain ⟨v', w', hr, g1, g2, g3⟩ := key
 have hO := Own.more h2 hnews g1 g2 g3
 obtain ⟨ao', cap, rfl⟩ := hO.form
 rw [List.length_append] at hO g3 hr
 unfold Oper.wp execOp
 simp only [ho, resolve, invoke, builtin, Sem.run_bind, Sem.run_pure, Result.andThen_ok, List.map_toArray, List.map_cons, List.map_nil, hs, hx, hr]
 exact h ao' cap w' hO ((Chg.refl _ w).grown g2 (fun j hj => .inl hj)) g3
/-- At the list of a plain region's operations. -/
theorem wpList_own {ops : Array Oper} {rest : List Oper} (hgd : o.guard = none) (s x : Operand) (t : TypeId) (ho : o.op = .call { callee := .builtin .append, args := #[s, x], argTypes := #[t, t] })
  (B e : Nat) {k bytes : Nat} {z : Value} (ht : P.underlying t = some (.slice e)) (hinfo : (P.info? e).map (fun i => (i.zero, i.size, i.bytes)) = some (some z, k, bytes)) (hzs : z.cells.size = k) (hk : 0 < k)
  {S : Nat → Prop} {v : Value} {ds : List Dt} (hs : a.eval s = v) (hown : Own w B e k S v ds)
  {ao : Option Addr} {m c : Nat} (hx : a.eval x = .slice ao m c) (ds2 : List Dt) (news : List Value) (hm : ds2.length = m) (hnews : ReadsC w (fun b => S b ∧ v.ownBlock ≠ some b) k ds2 news)
  (hc : ∀ ad, ao = some ad → ∀ j u, news[j]? = some u → w.cell? (ad.add j) = some u) (hnone : ao = none → m = 0 ∧ c = 0)
  (h63 : ds.length + m ≤ maxLen) (hbytes : (ds.length + m) * bytes ≤ 140737488355328) (hB : B ≤ w.heap.size)
  (h : ∀ ao' cap w', Own w' B e k S (.slice ao' (ds.length + m) cap) (ds ++ ds2) → Chg (fun b => v.ownBlock = some b) w w' →
   ((Value.slice ao' (ds.length + m) cap).ownBlock = v.ownBlock ∨ (Value.slice ao' (ds.length + m) cap).ownBlock = some w.heap.size) → wpList P ops Q rest (a.put o.dst (.slice ao' (ds.length + m) cap)) w') : wpList P ops Q (o :: rest) a w :=
 wpList_plain hgd fun _ hK => wp_own s x t ho B e ht hinfo hzs hk hs hown hx ds2 news hm hnews hc hnone h63 hbytes hB fun ao' cap w' h1 h2 h3 => hK _ _ (h ao' cap w' h1 h2 h3)
/-- At a step of a region that draws its order. -/
theorem step_own {ops : Array Oper} {K : Act → World → Prop} {E : Prop} (hgd : o.guard = none) (s x : Operand) (t : TypeId) (ho : o.op = .call { callee := .builtin .append, args := #[s, x], argTypes := #[t, t] })
  (B e : Nat) {k bytes : Nat} {z : Value} (ht : P.underlying t = some (.slice e)) (hinfo : (P.info? e).map (fun i => (i.zero, i.size, i.bytes)) = some (some z, k, bytes)) (hzs : z.cells.size = k) (hk : 0 < k)
  {S : Nat → Prop} {v : Value} {ds : List Dt} (hs : a.eval s = v) (hown : Own w B e k S v ds)
  {ao : Option Addr} {m c : Nat} (hx : a.eval x = .slice ao m c) (ds2 : List Dt) (news : List Value) (hm : ds2.length = m) (hnews : ReadsC w (fun b => S b ∧ v.ownBlock ≠ some b) k ds2 news)
  (hc : ∀ ad, ao = some ad → ∀ j u, news[j]? = some u → w.cell? (ad.add j) = some u) (hnone : ao = none → m = 0 ∧ c = 0)
  (h63 : ds.length + m ≤ maxLen) (hbytes : (ds.length + m) * bytes ≤ 140737488355328) (hB : B ≤ w.heap.size)
  (h : ∀ ao' cap w', Own w' B e k S (.slice ao' (ds.length + m) cap) (ds ++ ds2) → Chg (fun b => v.ownBlock = some b) w w' →
   ((Value.slice ao' (ds.length + m) cap).ownBlock = v.ownBlock ∨ (Value.slice ao' (ds.length + m) cap).ownBlock = some w.heap.size) → K (a.put o.dst (.slice ao' (ds.length + m) cap)) w') :
  if Region.wanted o (yielded ops a.tmps) = true then Oper.wp P o a w K Q else E := by
 rw [if_pos (by simp [Region.wanted, hgd])]
 exact wp_own s x t ho B e ht hinfo hzs hk hs hown hx ds2 news hm hnews hc hnone h63 hbytes hB h
end
end Go.Proofs.YtgcmfpcgmkkobaaGreatDoor
namespace Go.Proofs.YtgcmfpcgmkkobaaGreatDoor
open Go.RowKit

/-- A node: ID, name, rep, kind, what is in it. -/
inductive Nd where
 | mk (id : Int) (name : ByteArray) (rep kind : Int) (sub : List Nd)

def Nd.id : Nd → Int | .mk i _ _ _ _ => i
def Nd.name : Nd → ByteArray | .mk _ n _ _ _ => n
def Nd.rep : Nd → Int | .mk _ _ r _ _ => r
def Nd.kind : Nd → Int | .mk _ _ _ k _ => k
def Nd.sub : Nd → List Nd | .mk _ _ _ _ s => s

mutual
def Nd.dt : Nd → Dt
 | .mk i n r k s => .agg [.lit (.int .i64 i), .lit (.string n), .lit (.int .i64 r), .lit (.int .i64 k), .list 5 (Nd.dts s)]
def Nd.dts : List Nd → List Dt
 | [] => []
 | n :: ns => n.dt :: Nd.dts ns
end
theorem Nd.dts_eq : ∀ l : List Nd, Nd.dts l = l.map Nd.dt
 | [] => rfl
 | n :: ns => by simp [Nd.dts, Nd.dts_eq ns]

theorem Nd.dts_append (a b : List Nd) : Nd.dts (a ++ b) = Nd.dts a ++ Nd.dts b := by simp [Nd.dts_eq]
/-- A number that fits 64 bits. -/
def I64 (n : Int) : Prop := -9223372036854775808 ≤ n ∧ n ≤ 9223372036854775807
/-- The form's own reach: what may lie in one piece. -/
def reach : Nat := 140737488351232

mutual
def Nd.ok : Nd → Prop
 | .mk i n r k s => I64 i ∧ n.size ≤ reach ∧ I64 r ∧ I64 k ∧ s.length * 64 ≤ reach ∧ Nd.oks s
def Nd.oks : List Nd → Prop
 | [] => True
 | n :: ns => n.ok ∧ Nd.oks ns
end
theorem Nd.oks_mem : ∀ {l : List Nd}, Nd.oks l → ∀ n ∈ l, n.ok
 | [], _, n, h => by cases h
 | x :: xs, h, n, hn => by
  rcases List.mem_cons.1 hn with rfl | hn
  ·exact h.1
  ·exact Nd.oks_mem h.2 n hn

mutual
def Nd.weigh : Nd → Nat
 | .mk _ _ _ _ s => 1 + Nd.weighs s
def Nd.weighs : List Nd → Nat
 | [] => 0
 | n :: ns => n.weigh + Nd.weighs ns
end
theorem Nd.weigh_mem : ∀ {l : List Nd} {n : Nd}, n ∈ l → n.weigh ≤ Nd.weighs l
 | [], n, h => by cases h
 | x :: xs, n, h => by
  rcases List.mem_cons.1 h with rfl | h
  ·simp [Nd.weighs]
  ·have := Nd.weigh_mem h
   simp [Nd.weighs]; omega

/-- A node's cells, with the value of its slice. -/
def ndCells (i : Int) (n : ByteArray) (r k : Int) (s : Value) : List Value := [.int .i64 i, .string n, .int .i64 r, .int .i64 k, s]

theorem reads_nd {w : World} {S : Nat → Prop} {i : Int} {n : ByteArray} {r k : Int} {s : List Nd} {cs : List Value} :
  Reads w S (Nd.dt (.mk i n r k s)) cs ↔ ∃ v, cs = [.int .i64 i, .string n, .int .i64 r, .int .i64 k, v] ∧ Reads w S (.list 5 (Nd.dts s)) [v] := by
 simp only [Nd.dt, Reads, ReadsF]
 constructor
 ·rintro ⟨c0, r0, rfl, ⟨rfl, _⟩, c1, r1, rfl, ⟨rfl, _⟩, c2, r2, rfl, ⟨rfl, _⟩, c3, r3, rfl, ⟨rfl, _⟩, c4, r4, rfl, ⟨a, cap, rfl, h⟩, rfl⟩
  exact ⟨_, rfl, a, cap, rfl, h⟩
 ·rintro ⟨v, rfl, a, cap, h0, h⟩
  exact ⟨[_], _, rfl, ⟨rfl, rfl⟩, [_], _, rfl, ⟨rfl, rfl⟩, [_], _, rfl, ⟨rfl, rfl⟩, [_], _, rfl, ⟨rfl, rfl⟩, [v], [], rfl, ⟨a, cap, h0, h⟩, rfl⟩

theorem Nd.width {w : World} {S : Nat → Prop} {n : Nd} {cs : List Value} (h : Reads w S n.dt cs) : cs.length = 5 := by
 cases n
 obtain ⟨v, rfl, _⟩ := reads_nd.1 h
 rfl

theorem reads_list {w : World} {S : Nat → Prop} {k : Nat} {l : List Dt} {v : Value} (h : Reads w S (.list k l) [v]) :
  ∃ a cap, v = .slice a l.length cap ∧ l.length ≤ cap ∧ cap ≤ maxLen ∧ (l.length ≠ 0 → ∃ b off, a = some ⟨b, off, none⟩ ∧ S b ∧ b < w.heap.size ∧ ReadsE w S k b off l) := by
 obtain ⟨a, cap, h0, h1, h2, h3⟩ := h
 refine ⟨a, cap, by simpa using h0, h1, h2, fun hne => ?_⟩
 rcases h3 with ⟨rfl, _⟩ | h3
 ·exact absurd rfl hne
 ·exact h3
theorem reads_subs {w : World} {S : Nat → Prop} {s : List Nd} {v : Value} (h : Reads w S (.list 5 (Nd.dts s)) [v]) :
  ∃ a cap, v = .slice a s.length cap ∧ s.length ≤ cap ∧ cap ≤ maxLen ∧ (s.length ≠ 0 → ∃ b off, a = some ⟨b, off, none⟩ ∧ S b ∧ b < w.heap.size ∧ ReadsE w S 5 b off (s.map Nd.dt)) := by
 obtain ⟨a, cap, h1, h2, h3, h4⟩ := reads_list h
 simp only [Nd.dts_eq, List.length_map] at h1 h2 h4
 exact ⟨a, cap, h1, h2, h3, h4⟩
end Go.Proofs.YtgcmfpcgmkkobaaGreatDoor
namespace Go.Proofs.YtgcmfpcgmkkobaaGreatDoor
section
variable {P : Program} {ops : Array Oper} {Q : Exit → Act → World → Prop} {md : Region.Mode} {S : World → Prop} {ns : List Nat}

/-- Whatever order is picked from here on; behind each operation that is not in 'ns' S holds. -/
def wpAnyN (P : Program) (md : Region.Mode) (ops : Array Oper) (Q : Exit → Act → World → Prop) (S : World → Prop) (ns : List Nat) : Nat → Array Bool → Act → World → Prop
 | 0, listed, a, w => Region.ready md ops listed = [] ∧ Q .normal a w
 | fuel + 1, listed, a, w =>
  (Region.ready md ops listed = [] → Q .normal a w) ∧
  ∀ i ∈ Region.ready md ops listed, wpOp P ops Q i (fun a' w' => (ns.contains i = false → S w') ∧ wpAnyN P md ops Q S ns fuel (listed.setIfInBounds i true) a' w') a w

theorem wpAny_of_N : ∀ (fuel : Nat) (listed : Array Bool) (a : Act) (w : World), wpAnyN P md ops Q S ns fuel listed a w → wpAny P md ops Q fuel listed a w
 | 0, _, _, _, h => h
 | fuel + 1, _, _, _, h => ⟨h.1, fun i hi => wpOp_mono (fun a' w' h' => wpAny_of_N fuel _ a' w' h'.2) (h.2 i hi)⟩

/-- Every operation of 'ns' waits for number i. -/
def allWait (md : Region.Mode) (ops : Array Oper) (ns : List Nat) (i : Nat) : Bool := ns.all fun j => Region.waitsFor md ops j i

theorem ready_not {i j : Nat} {listed : Array Bool} (hr : i ∈ Region.ready md ops listed) (hj : j ∈ Region.ready md ops listed) : Region.waitsFor md ops j i = false := by
 cases h : Region.waitsFor md ops j i with
 | false => rfl
 | true =>
  obtain ⟨oj, hoj, e, he, hb, hon⟩ := Region.waitsFor_spec h
  obtain ⟨_, oj', hoj', hall⟩ := mem_ready.1 hj
  have : oj' = oj := Option.some.inj (hoj'.symm.trans hoj)
  subst this
  have h1 := hall e he hb
  rw [hon, getD_both (mem_ready.1 hr).1] at h1
  cases h1

theorem wpAnyN_first {i : Nat} {oi : Oper} {v : Value} {S' : World → Prop} (hi : ops[i]? = some oi) (hsel : ∀ (j : Nat) (o : Oper) cs b, ops[j]? = some o → o.op ≠ .select cs b)
  (hQ : ∀ c a w, Q (.panic c) (a.put oi.dst v) w → Q (.panic c) a w) (hns : allWait md ops ns i = true) (hSS : ∀ w, S w → S' w) :
  ∀ (fuel : Nat) (listed : Array Bool) (a : Act) (w : World),
   (∀ j oj, ops[j]? = some oj → j ≠ i → listed.getD j true = false → (∀ e ∈ oj.after, Region.binds md e = true → e.on ≠ i) → oi.apart ops oj = true) →
   i ∈ Region.ready md ops listed → YieldsIf P ops S' oi v a → S w →
   wpAnyN P md ops Q S ns fuel (listed.setIfInBounds i true) (a.put oi.dst v) w → wpAnyN P md ops Q S ns (fuel + 1) listed a w := by
 intro fuel
 induction fuel with
 | zero =>
  intro listed a w _ hr hy hS H
  refine ⟨fun h => (by rw [h] at hr; cases hr), fun j hj => ?_⟩
  by_cases hji : j = i
  ·subst hji; exact hy.wpOp hi (hSS w hS) ⟨fun _ => hS, H⟩
  ·have := ready_mono hj hji
   rw [H.1] at this
   cases this
 | succ fuel ih =>
  intro listed a w hfree hr hy hS H
  refine ⟨fun h => (by rw [h] at hr; cases hr), fun j hj => ?_⟩
  by_cases hji : j = i
  ·subst hji; exact hy.wpOp hi (hSS w hS) ⟨fun _ => hS, H⟩
  ·have h1 := H.2 j (ready_mono hj hji)
   obtain ⟨hjun, oj, hoj, hall⟩ := mem_ready.1 hj
   have hnot : ∀ e ∈ oj.after, Region.binds md e = true → e.on ≠ i := fun e he hb heq => by
    have h1 := hall e he hb
    have h0 := (mem_ready.1 hr).1
    rw [heq, getD_both h0] at h1
    cases h1
   have hnj : ns.contains j = false := by
    cases hc : ns.contains j with
    | false => rfl
    | true =>
     have h3 := List.all_eq_true.1 hns j (by simpa using hc)
     rw [ready_not hr hj] at h3
     cases h3
   have h2 := wpOp_putIf hoj (hfree j oj hoj hji hjun hnot) (fun cs b => hsel i oi cs b hi) (fun cs b => hsel j oj cs b hoj) hQ hy h1
   have hfree' : ∀ k ok, ops[k]? = some ok → k ≠ i → (listed.setIfInBounds j true).getD k true = false →
     (∀ e ∈ ok.after, Region.binds md e = true → e.on ≠ i) → oi.apart ops ok = true := fun k ok hk hki hun hno => by
    refine hfree k ok hk hki ?_ hno
    by_cases hjk : j = k
    ·subst hjk; exact hjun
    ·rw [getD_set_ne true hjk] at hun; exact hun
   refine wpOp_mono (fun a' w' h3 => ⟨fun _ => h3.2.1 hnj, ih (listed.setIfInBounds j true) a' w' hfree' (ready_mono hr (Ne.symm hji)) h3.1 (h3.2.1 hnj) ?_⟩) h2
   rw [Array.setIfInBounds_comm _ _ hji]
   exact h3.2.2

/-- Begin. -/
theorem wp_region_n {id : Nat} {a : Act} {w : World} (S : World → Prop) (ns : List Nat) (hm : P.follows .mixedOrders = true) (hS : S w.drew)
  (h : S w.drew → wpAnyN P .any ops Q S ns ops.size (Array.replicate ops.size false) a w.drew) : (Code.region id ops true).wp P Q a w :=
 wp_region_any hm (wpAny_of_N _ _ _ _ (h hS))

/-- Take number i first: it only reads; what it reads is given by S. -/
theorem n_take (i : Nat) {oi : Oper} {v : Value} {fuel : Nat} {listed : Array Bool} {a : Act} {w : World} (hi : ops[i]? = some oi) (hy : YieldsIf P ops S oi v a)
  (hc : (Region.noSelect ops && Region.free md ops listed i && (Region.ready md ops listed).contains i && allWait md ops ns i) = true)
  (hQ : ∀ c a w, Q (.panic c) (a.put oi.dst v) w → Q (.panic c) a w) (hS : S w)
  (h : wpAnyN P md ops Q S ns fuel (listed.setIfInBounds i true) (a.put oi.dst v) w) : wpAnyN P md ops Q S ns (fuel + 1) listed a w := by
 simp only [Bool.and_eq_true] at hc
 exact wpAnyN_first hi (Region.noSelect_spec hc.1.1.1) hQ hc.2 (fun _ h => h) fuel listed a w (Region.free_spec hi hc.1.1.2) (by simpa using hc.1.2) hy hS h

/-- Number i alone may come up: it is walked as any operation; S is to be shown behind it if it is none of 'ns'. -/
theorem n_step (i : Nat) {oi : Oper} {fuel : Nat} {listed : Array Bool} {a : Act} {w : World} (hi : ops[i]? = some oi) (hr : Region.ready md ops listed = [i])
  (h : wpList P ops (Exit.then (fun a' w' => (ns.contains i = false → S w') ∧ ((ns.contains i = false → S w') → wpAnyN P md ops Q S ns fuel (listed.setIfInBounds i true) a' w')) Q) [oi] a w) : wpAnyN P md ops Q S ns (fuel + 1) listed a w := by
 refine ⟨fun h0 => absurd (hr ▸ h0) (by simp), fun j hj => ?_⟩
 rw [hr] at hj
 have hji : j = i := by simpa using hj
 subst hji
 unfold wpOp
 simp only [hi]
 unfold wpList wpList at h
 split
 ·rename_i hw
  rw [if_pos hw] at h
  rcases h with h | ⟨h1, a0, w0, h2⟩
  ·refine .inl ?_
   unfold Oper.wp at h ⊢
   generalize (execOp a.eval oi).run P w = r at h ⊢
   cases r with
   | ok n w' =>
    cases n <;> simp only [Oper.upon] at h ⊢ <;> first
     | exact ⟨h.1, h.2 h.1⟩
     | exact Calls.mono h (fun e w'' he => by
       cases e
       ·exact ⟨he.1, he.2 he.1⟩
       ·exact he
       ·obtain ⟨a0, w0, h2⟩ := he; exact ⟨a0, w0, h2⟩)
     | exact Rows.mono h (fun _ _ he => ⟨he.1, he.2 he.1⟩)
     | exact h
   | halt x w' => cases x <;> simp only [Oper.upon] at h ⊢ <;> exact h
  ·exact .inr ⟨h1, a0, w0, h2⟩
 ·rename_i hw
  rw [if_neg hw] at h
  exact ⟨h.1, h.2 h.1⟩

theorem n_walk (i : Nat) {oi : Oper} {fuel : Nat} {listed : Array Bool} {a : Act} {w : World} (hi : ops[i]? = some oi)
  (h : wpList P ops (Exit.then (fun a' w' => (ns.contains i = false → S w') ∧ ((ns.contains i = false → S w') → wpAnyN P md ops Q S ns fuel (listed.setIfInBounds i true) a' w')) Q) [oi] a w) :
  wpOp P ops Q i (fun a' w' => (ns.contains i = false → S w') ∧ wpAnyN P md ops Q S ns fuel (listed.setIfInBounds i true) a' w') a w := by
 unfold wpOp
 simp only [hi]
 unfold wpList wpList at h
 split
 ·rename_i hw
  rw [if_pos hw] at h
  rcases h with h | ⟨h1, a0, w0, h2⟩
  ·refine .inl ?_
   unfold Oper.wp at h ⊢
   generalize (execOp a.eval oi).run P w = r at h ⊢
   cases r with
   | ok n w' =>
    cases n <;> simp only [Oper.upon] at h ⊢ <;> first
     | exact ⟨h.1, h.2 h.1⟩
     | exact Calls.mono h (fun e w'' he => by
       cases e
       ·exact ⟨he.1, he.2 he.1⟩
       ·exact he
       ·obtain ⟨a0, w0, h2⟩ := he; exact ⟨a0, w0, h2⟩)
     | exact Rows.mono h (fun _ _ he => ⟨he.1, he.2 he.1⟩)
     | exact h
   | halt x w' => cases x <;> simp only [Oper.upon] at h ⊢ <;> exact h
  ·exact .inr ⟨h1, a0, w0, h2⟩
 ·rename_i hw
  rw [if_neg hw] at h
  exact ⟨h.1, h.2 h.1⟩
/-- Two may come up: both are walked. -/
theorem n_fork (i j : Nat) {oi oj : Oper} {fuel : Nat} {listed : Array Bool} {a : Act} {w : World} (hi : ops[i]? = some oi) (hj : ops[j]? = some oj) (hr : Region.ready md ops listed = [i, j])
  (h1 : wpList P ops (Exit.then (fun a' w' => (ns.contains i = false → S w') ∧ ((ns.contains i = false → S w') → wpAnyN P md ops Q S ns fuel (listed.setIfInBounds i true) a' w')) Q) [oi] a w)
  (h2 : wpList P ops (Exit.then (fun a' w' => (ns.contains j = false → S w') ∧ ((ns.contains j = false → S w') → wpAnyN P md ops Q S ns fuel (listed.setIfInBounds j true) a' w')) Q) [oj] a w) : wpAnyN P md ops Q S ns (fuel + 1) listed a w := by
 refine ⟨fun h0 => absurd (hr ▸ h0) (by simp), fun k hk => ?_⟩
 rw [hr] at hk
 simp only [List.mem_cons, List.not_mem_nil, or_false] at hk
 rcases hk with rfl | rfl
 ·exact n_walk _ hi h1
 ·exact n_walk _ hj h2
/-- One proof for two roads that meet. -/
structure Road (K : Prop) : Prop where
 goes : K
theorem n_share {K G : Prop} (h : Road K → G) (k : K) : G := h ⟨k⟩
theorem n_listed {fuel : Nat} {listed listed' : Array Bool} {a : Act} {w : World} (h : listed = listed') (k : wpAnyN P md ops Q S ns fuel listed a w) : wpAnyN P md ops Q S ns fuel listed' a w := h ▸ k

/-- All have come up. -/
theorem n_done {fuel : Nat} {listed : Array Bool} {a : Act} {w : World} (hr : Region.ready md ops listed = []) (h : Q .normal a w) : wpAnyN P md ops Q S ns fuel listed a w := by
 cases fuel with
 | zero => exact ⟨hr, h⟩
 | succ f => exact ⟨fun _ => h, fun i hi => by rw [hr] at hi; cases hi⟩
end
end Go.Proofs.YtgcmfpcgmkkobaaGreatDoor
namespace Go.Proofs.YtgcmfpcgmkkobaaGreatDoor
open Go.RowKit

theorem infoNode : (Tryz.prog.info? 28).map (fun i => (i.zero, i.size, i.bytes)) = some (some (.agg #[.int .i64 0, .string ⟨#[]⟩, .int .i64 0, .int .i64 0, .slice none 0 0]), 5, 64) := by kernel_rfl

/-- A struct result: new memory; nothing else has changed. -/
def RetNew (d : Dt) (w : World) (e : Ending) (w' : World) : Prop :=
 ∃ cs, e = .returned (.agg cs.toArray) ∧ Reads w' (fun b => w.heap.size ≤ b) d cs ∧ Chg NoB w w'

/-- What holds at the head of each round. -/
def OwnRel (w : World) (i : Int) (n : ByteArray) (r k : Int) (s : List Nd) (sv : Value) (vi : Value) (wr : World) : Prop :=
 ∃ j v, j ≤ s.length ∧ vi = .int .i64 (j : Nat) ∧ Chg NoB w wr ∧ Blk wr w.heap.size (ndCells i n r k sv) 28 ∧
  Blk wr (w.heap.size + 1) (ndCells 0 ⟨#[]⟩ 0 0 (.slice none 0 0)) 28 ∧ Blk wr (w.heap.size + 1 + 1) (ndCells i n r k v) 28 ∧
  Own wr (w.heap.size + 3) 28 5 (fun b => w.heap.size + 3 ≤ b) v (Nd.dts (s.take j))

set_option maxHeartbeats 1000000 in
theorem ownNode_any : ∀ (m : Nat) (nd : Nd) (w : World) (S : Nat → Prop) (cs : List Value), nd.weigh ≤ m → Reads w S nd.dt cs → nd.ok →
  Calls Tryz.prog 16 #[.agg cs.toArray] w (RetNew nd.dt w) := by
 intro m
 induction m with
 | zero => intro nd w S cs hm; cases nd; simp [Nd.weigh] at hm
 | succ m ih =>
  intro nd w S cs hm hr hok
  obtain ⟨i, n, r, k, s⟩ := nd
  obtain ⟨sv, rfl, hs⟩ := reads_nd.1 hr
  obtain ⟨a, cap, rfl, hlen, hcap, hel⟩ := reads_list hs
  obtain ⟨hi, hn, hrr, hk, hsl, hoks⟩ := hok
  simp only [Nd.dts_eq, List.length_map] at hlen hel ⊢
  go_enter Tryz.func16, Tryz.ntmps16
  go_wp2_with fail
  go_loopw [4] (fun vi wr => OwnRel w i n r k s (.slice a s.length cap) vi wr) (fun vi _ => s.length - (intOf vi).toNat)
  case atStart =>
   refine ⟨0, _, Nat.zero_le _, rfl, ?_, ?_, ?_, ?_, by simpa [Nd.dts] using Own.nil _ _ _ _ _⟩
   ·exact (((Chg.refl _ _).alloc _).alloc _).alloc _
   ·exact ((Blk.newAt rfl).alloc _).alloc _
   ·exact (Blk.newAt (by simp)).alloc _
   ·exact Blk.newAt (by simp)
  case round =>
   obtain ⟨j, v, hj, rfl, hc, hb0, hb1, hb2, ho⟩ := hrel
   have c4 : wr.cell? ⟨w.heap.size, 4, none⟩ = some (.slice a s.length cap) := hb0.cell 4
   have hsz : w.heap.size + 3 ≤ wr.heap.size := hb2.lt
   unfold reach at hsl
   by_cases hlt : j < s.length
   ·obtain ⟨b, off, rfl, hSb, hbw, hE⟩ := hel (by omega)
    obtain ⟨ecs, hl5, hcells, hre⟩ := hE.get j s[j].dt (by simp [hlt])
    have hmem : s[j] ∈ s := List.getElem_mem hlt
    have hw1 := Nd.weigh_mem hmem
    have hok1 := Nd.oks_mem hoks _ hmem
    have htake : s.take (j + 1) = s.take j ++ [s[j]] := List.take_succ_eq_append_getElem hlt
    have Htake := Lib.hid htake
    clear htake
    generalize s[j] = nj at hre hw1 hok1 Htake
    obtain ⟨i1, n1, r1, k1, s1⟩ := nj
    obtain ⟨v1, rfl, hs1⟩ := reads_nd.1 hre
    have hf : ∀ t c, [Value.int .i64 i1, .string n1, .int .i64 r1, .int .i64 k1, v1][t]? = some c → wr.cell? ⟨b, off + j * 5 + t, none⟩ = some c := fun t c ht => (hc.cell (p := ⟨b, off + j * 5 + t, none⟩) hbw (fun e => e)).trans (hcells t c ht)
    have e0 : wr.cell? ⟨b, off + j * 5, none⟩ = some (.int .i64 i1) := hf 0 _ rfl
    have e1 : wr.cell? ⟨b, off + j * 5 + 1, none⟩ = some (.string n1) := hf 1 _ rfl
    have e2 : wr.cell? ⟨b, off + j * 5 + 2, none⟩ = some (.int .i64 r1) := hf 2 _ rfl
    have e3 : wr.cell? ⟨b, off + j * 5 + 3, none⟩ = some (.int .i64 k1) := hf 3 _ rfl
    have e4 : wr.cell? ⟨b, off + j * 5 + 4, none⟩ = some v1 := hf 4 _ rfl
    have o4 : wr.cell? ⟨w.heap.size + 1 + 1, 4, none⟩ = some v := hb2.cell 4
    clear hf hcells
    go_wp2_with fail
    refine wp_region_n (fun w' => w'.cell? ⟨w.heap.size, 4, none⟩ = some (.slice (some ⟨b, off, none⟩) s.length cap) ∧ w'.cell? ⟨w.heap.size + 1 + 1, 4, none⟩ = some v ∧ w'.cell? ⟨b, off + j * 5, none⟩ = some (.int .i64 i1) ∧ w'.cell? ⟨b, off + j * 5 + 1, none⟩ = some (.string n1) ∧ w'.cell? ⟨b, off + j * 5 + 2, none⟩ = some (.int .i64 r1) ∧ w'.cell? ⟨b, off + j * 5 + 3, none⟩ = some (.int .i64 k1) ∧ w'.cell? ⟨b, off + j * 5 + 4, none⟩ = some v1) [11] (by kernel_rfl) ?_ (fun hSh => ?_)
    ·exact ⟨c4, o4, e0, e1, e2, e3, e4⟩
    refine n_take (v := ?_) 0 rfl (Or.inl ⟨by rfl, ?_⟩) (by kernel_rfl) (fun _ _ _ h => h) (by assumption) ?_
    rotate_left 1
    ·(intro w' hSw; (try dsimp only at hSw); go_simp; try with_reducible rfl)
    simp only [Act.put, List.getElem_toArray, List.getElem_cons_zero, List.getElem_cons_succ, List.setIfInBounds_toArray, List.set_cons_zero, List.set_cons_succ]
    refine n_take (v := ?_) 1 rfl (Or.inl ⟨by rfl, ?_⟩) (by kernel_rfl) (fun _ _ _ h => h) (by assumption) ?_
    rotate_left 1
    ·(intro w' hSw; (try dsimp only at hSw); go_simp; try with_reducible rfl)
    simp only [Act.put, List.getElem_toArray, List.getElem_cons_zero, List.getElem_cons_succ, List.setIfInBounds_toArray, List.set_cons_zero, List.set_cons_succ]
    refine n_take (v := ?_) 2 rfl (Or.inl ⟨by rfl, ?_⟩) (by kernel_rfl) (fun _ _ _ h => h) (by assumption) ?_
    rotate_left 1
    ·(intro w' hSw; (try dsimp only at hSw); go_simp; try with_reducible rfl)
    simp only [Act.put, List.getElem_toArray, List.getElem_cons_zero, List.getElem_cons_succ, List.setIfInBounds_toArray, List.set_cons_zero, List.set_cons_succ]
    refine n_take (v := ?_) 3 rfl (Or.inl ⟨by rfl, ?_⟩) (by kernel_rfl) (fun _ _ _ h => h) (by assumption) ?_
    rotate_left 1
    ·(intro w' hSw; (try dsimp only at hSw); go_simp; try with_reducible rfl)
    simp only [Act.put, List.getElem_toArray, List.getElem_cons_zero, List.getElem_cons_succ, List.setIfInBounds_toArray, List.set_cons_zero, List.set_cons_succ]
    refine n_take (v := ?_) 4 rfl (Or.inl ⟨by rfl, ?_⟩) (by kernel_rfl) (fun _ _ _ h => h) (by assumption) ?_
    rotate_left 1
    ·(intro w' hSw; (try dsimp only at hSw); go_simp; try with_reducible rfl)
    simp only [Act.put, List.getElem_toArray, List.getElem_cons_zero, List.getElem_cons_succ, List.setIfInBounds_toArray, List.set_cons_zero, List.set_cons_succ]
    refine n_take (v := ?_) 5 rfl (Or.inl ⟨by rfl, ?_⟩) (by kernel_rfl) (fun _ _ _ h => h) (by assumption) ?_
    rotate_left 1
    ·(intro w' hSw; (try dsimp only at hSw); go_simp; try with_reducible rfl)
    simp only [Act.put, List.getElem_toArray, List.getElem_cons_zero, List.getElem_cons_succ, List.setIfInBounds_toArray, List.set_cons_zero, List.set_cons_succ]
    refine n_take (v := ?_) 6 rfl (Or.inl ⟨by rfl, ?_⟩) (by kernel_rfl) (fun _ _ _ h => h) (by assumption) ?_
    rotate_left 1
    ·(intro w' hSw; (try dsimp only at hSw); go_simp; try with_reducible rfl)
    simp only [Act.put, List.getElem_toArray, List.getElem_cons_zero, List.getElem_cons_succ, List.setIfInBounds_toArray, List.set_cons_zero, List.set_cons_succ]
    refine n_step 7 rfl (by kernel_rfl) ?_
    go_wp2_with fail
    refine (ih (.mk i1 n1 r1 k1 s1) wr.drew S _ ?_ ?_ hok1).mono ?_
    ·simp only [Nd.weigh] at hm hw1 ⊢; omega
    ·exact hre.chg0 hc.drew
    rintro e w1 ⟨ecs, rfl, hr1, hc1⟩
    obtain ⟨v2, rfl, hs2⟩ := reads_nd.1 hr1
    obtain ⟨a2, cap2, rfl, hlen2, hcap2, hel2⟩ := reads_list hs2
    go_wp2_with fail
    refine ⟨fun _ => ?_, fun hSk => ?_⟩
    ·(repeat' refine And.intro ?_ ?_) <;> exact (hc1.cell (by first | assumption | (simp; done) | (simp; omega) | omega) (fun e => e)).trans (by assumption)
    replace hSk := hSk (by rfl)
    refine n_step 8 rfl (by kernel_rfl) ?_
    go_wp2_with fail
    have hc2 := hc1.ofDrew.alloc (.cells #[.int .i64 i1, .string n1, .int .i64 r1, .int .i64 k1, .slice a2 (Nd.dts s1).length cap2] 28)
    have hbn := Blk.new w1 [.int .i64 i1, .string n1, .int .i64 r1, .int .i64 k1, .slice a2 (Nd.dts s1).length cap2] 28
    generalize hW2 : w1.alloc _ = w2 at hc2 hbn
    have hr2 := hr1.chg0 (w' := w2) (hW2 ▸ (Chg.refl _ _).alloc _)
    have ho2 := ho.keep hc2 (fun _ _ e => NoB.elim e) (fun _ _ e => NoB.elim e)
    have hob := ho.block
    refine ⟨fun _ => ?_, fun hSk => ?_⟩
    ·(repeat' refine And.intro ?_ ?_) <;> exact (hc2.cell (by first | assumption | (simp; done) | (simp; omega) | omega) (fun e => e)).trans (by assumption)
    replace hSk := hSk (by rfl)
    refine n_step 9 rfl (by kernel_rfl) ?_
    refine wpList_own rfl (.tmp 22) (.tmp 29) 26 rfl (w.heap.size + 3) 28 Tryz.underlying26 infoNode rfl (by decide) rfl ho2 rfl [Nd.dt (.mk i1 n1 r1 k1 s1)] _ rfl (ReadsC.single rfl (hr2.mono ?_)) hbn.news (fun e => by cases e) ?_ ?_ ?_ ?_
    ·intro b hb
     have hb : wr.heap.size ≤ b := hb
     exact ⟨by omega, fun e => by have := (hob b e).2; omega⟩
    ·simp [Nd.dts_eq, maxLen]; omega
    ·simp [Nd.dts_eq]; omega
    ·have := hc2.size; omega
    intro ao3 cap3 w3 ho3 hc3 hat
    have hfar : ∀ {x : Nat}, x < w.heap.size + 3 → ¬ (v.ownBlock = some x) := fun hx e => by have := (hob _ e).1; omega
    have hc13 : Chg NoB w w3 := (hc.trans hc2 (fun _ e => NoB.elim e)).trans hc3 (fun b e => .inr (by have := (hob b e).1; omega))
    have hb0 := (hb0.keep hc2 NoB.elim).keep hc3 (hfar (by omega))
    have hb1 := (hb1.keep hc2 NoB.elim).keep hc3 (hfar (by omega))
    have hb2 := (hb2.keep hc2 NoB.elim).keep hc3 (hfar (by omega))
    go_wp2_with fail
    have hc23 : Chg (fun b => v.ownBlock = some b) wr w3 := (hc2.mono (fun _ _ e => NoB.elim e)).trans hc3 (fun _ e => .inl e)
    refine ⟨fun _ => ?_, fun hSk => ?_⟩
    ·(repeat' refine And.intro ?_ ?_) <;> exact (hc23.cell (by first | assumption | (simp; done) | (simp; omega) | omega) (hfar (by dsimp only; omega))).trans (by assumption)
    replace hSk := hSk (by rfl)
    refine n_take (v := ?_) 10 rfl (Or.inl ⟨by rfl, ?_⟩) (by kernel_rfl) (fun _ _ _ h => h) (by assumption) ?_
    rotate_left 1
    ·(intro w' hSw; (try dsimp only at hSw); go_simp; try with_reducible rfl)
    simp only [Act.put, List.getElem_toArray, List.getElem_cons_zero, List.getElem_cons_succ, List.setIfInBounds_toArray, List.set_cons_zero, List.set_cons_succ]
    refine n_step 11 rfl (by kernel_rfl) ?_
    have o5 : w3.cell? ⟨w.heap.size + 1 + 1, 4, none⟩ = some v := hb2.cell 4
    have f5 : w3.frozen? ⟨w.heap.size + 1 + 1, 4, none⟩ = false := hb2.free 4
    clear hc2 hbn hc23
    go_wp2_with fail
    refine ⟨fun hx => absurd hx (by decide), fun _ => ?_⟩
    refine n_done (by kernel_rfl) ?_
    go_wp2_with fail
    go_roundw
    case rel =>
     refine ⟨j + 1, _, hlt, by go_num, hc13.setCell (.inr (by dsimp only; omega)) _, hb0.other (by dsimp only; omega) _, hb1.other (by dsimp only; omega) _, hb2.set 4 _, ?_⟩
     rw [Htake.out, Nd.dts_append]
     exact ho3.setCell (fun b hb => by have hb : w.heap.size + 3 ≤ b := hb; dsimp only; omega) (by dsimp only; omega) _
    case measure => simp [intOf]; omega
   ·have hjl : j = s.length := by omega
    subst hjl
    rw [List.take_length] at ho
    obtain ⟨ao, cap', hv⟩ := ho.form
    subst hv
    have c20 : wr.cell? ⟨w.heap.size + 1 + 1, 0, none⟩ = some (.int .i64 (i)) := hb2.cell 0
    have c21 : wr.cell? ⟨w.heap.size + 1 + 1, 1, none⟩ = some (.string n) := hb2.cell 1
    have c22 : wr.cell? ⟨w.heap.size + 1 + 1, 2, none⟩ = some (.int .i64 (r)) := hb2.cell 2
    have c23 : wr.cell? ⟨w.heap.size + 1 + 1, 3, none⟩ = some (.int .i64 (k)) := hb2.cell 3
    have c24 : wr.cell? ⟨w.heap.size + 1 + 1, 4, none⟩ = some (.slice ao (Nd.dts s).length cap') := hb2.cell 4
    have c10 : wr.cell? ⟨w.heap.size + 1, 0, none⟩ = some (.int .i64 (0)) := hb1.cell 0
    have c11 : wr.cell? ⟨w.heap.size + 1, 1, none⟩ = some (.string ⟨#[]⟩) := hb1.cell 1
    have c12 : wr.cell? ⟨w.heap.size + 1, 2, none⟩ = some (.int .i64 (0)) := hb1.cell 2
    have c13 : wr.cell? ⟨w.heap.size + 1, 3, none⟩ = some (.int .i64 (0)) := hb1.cell 3
    have c14 : wr.cell? ⟨w.heap.size + 1, 4, none⟩ = some (.slice none 0 0) := hb1.cell 4
    have f10 : wr.frozen? ⟨w.heap.size + 1, 0, none⟩ = false := hb1.free 0
    have f11 : wr.frozen? ⟨w.heap.size + 1, 1, none⟩ = false := hb1.free 1
    have f12 : wr.frozen? ⟨w.heap.size + 1, 2, none⟩ = false := hb1.free 2
    have f13 : wr.frozen? ⟨w.heap.size + 1, 3, none⟩ = false := hb1.free 3
    have f14 : wr.frozen? ⟨w.heap.size + 1, 4, none⟩ = false := hb1.free 4
    go_wp2_with fail
    have hbf : Blk _ (w.heap.size + 1) (ndCells i n r k (.slice ao (Nd.dts s).length cap')) 28 := ((((hb1.set 0 (.int .i64 i)).set 1 (.string n)).set 2 (.int .i64 r)).set 3 (.int .i64 k)).set 4 (.slice ao (Nd.dts s).length cap')
    have hcf := ((((hc.setCell (p := ⟨w.heap.size + 1, 0, none⟩) (.inr (by dsimp only; omega)) (.int .i64 i)).setCell (p := ⟨w.heap.size + 1, 1, none⟩) (.inr (by dsimp only; omega)) (.string n)).setCell (p := ⟨w.heap.size + 1, 2, none⟩) (.inr (by dsimp only; omega)) (.int .i64 r)).setCell (p := ⟨w.heap.size + 1, 3, none⟩) (.inr (by dsimp only; omega)) (.int .i64 k)).setCell (p := ⟨w.heap.size + 1, 4, none⟩) (.inr (by dsimp only; omega)) (.slice ao (Nd.dts s).length cap')
    have hof := ho.keep ((((((Chg.refl (OneB (w.heap.size + 1)) wr).setCell (p := ⟨w.heap.size + 1, 0, none⟩) (.inl rfl) (.int .i64 i)).setCell (p := ⟨w.heap.size + 1, 1, none⟩) (.inl rfl) (.string n)).setCell (p := ⟨w.heap.size + 1, 2, none⟩) (.inl rfl) (.int .i64 r)).setCell (p := ⟨w.heap.size + 1, 3, none⟩) (.inl rfl) (.int .i64 k)).setCell (p := ⟨w.heap.size + 1, 4, none⟩) (.inl rfl) (.slice ao (Nd.dts s).length cap'))
     (fun b hb e => by have hb : w.heap.size + 3 ≤ b := hb; have e : b = w.heap.size + 1 := e; omega) (fun b hb e => by have := (ho.block b hb).1; have e : b = w.heap.size + 1 := e; omega)
    generalize hWf : World.setCell _ _ (Value.slice ao (Nd.dts s).length cap') = wf at hbf hcf hof ⊢
    have g0 : wf.cell? ⟨w.heap.size + 1, 0, none⟩ = some (.int .i64 (i)) := hbf.cell 0
    have g1 : wf.cell? ⟨w.heap.size + 1, 1, none⟩ = some (.string n) := hbf.cell 1
    have g2 : wf.cell? ⟨w.heap.size + 1, 2, none⟩ = some (.int .i64 (r)) := hbf.cell 2
    have g3 : wf.cell? ⟨w.heap.size + 1, 3, none⟩ = some (.int .i64 (k)) := hbf.cell 3
    have g4 : wf.cell? ⟨w.heap.size + 1, 4, none⟩ = some (.slice ao (Nd.dts s).length cap') := hbf.cell 4
    refine bodyPost_ret (v := .agg #[.int .i64 i, .string n, .int .i64 r, .int .i64 k, .slice ao (Nd.dts s).length cap']) (by simp [results, Tryz.results16, go_sem, g0, g1, g2, g3, g4]) rfl ⟨_, rfl, ?_, hcf⟩
    refine reads_nd.2 ⟨_, rfl, hof.reads (fun b hb => ?_) (fun b hb _ => ?_) ?_⟩
    ·have hb : w.heap.size + 3 ≤ b := hb
     omega
    ·omega
    ·simp [Nd.dts_eq]; omega
end Go.Proofs.YtgcmfpcgmkkobaaGreatDoor
namespace Go.Proofs.YtgcmfpcgmkkobaaGreatDoor
open Go.RowKit

/-- One value is handed back; nothing that was there has changed. -/
def RetV (v : Value) (w : World) (e : Ending) (w' : World) : Prop := e = .returned v ∧ Chg NoB w w'

def SameRel (w : World) (i : Int) (n : ByteArray) (r k : Int) (len : Nat) (v1 v2 : Value) (vi : Value) (wr : World) : Prop :=
 ∃ j, j ≤ len ∧ vi = .int .i64 (j : Nat) ∧ Chg NoB w wr ∧ Blk wr w.heap.size (ndCells i n r k v1) 28 ∧ Blk wr (w.heap.size + 1) (ndCells i n r k v2) 28

set_option maxHeartbeats 1000000 in
theorem sameNode_yes : ∀ (m : Nat) (nd : Nd) (w : World) (S S' : Nat → Prop) (cs cs' : List Value), nd.weigh ≤ m → Reads w S nd.dt cs → Reads w S' nd.dt cs' → nd.ok →
  Calls Tryz.prog 45 #[.agg cs.toArray, .agg cs'.toArray] w (RetV (.bool true) w) := by
 intro m
 induction m with
 | zero => intro nd w S S' cs cs' hm; cases nd; simp [Nd.weigh] at hm
 | succ m ih =>
  intro nd w S S' cs cs' hm hr hr' hok
  obtain ⟨i, n, r, k, s⟩ := nd
  obtain ⟨sv, rfl, hs⟩ := reads_nd.1 hr
  obtain ⟨a, cap, rfl, hlen, hcap, hel⟩ := reads_list hs
  obtain ⟨sv', rfl, hs'⟩ := reads_nd.1 hr'
  obtain ⟨a', cap', rfl, hlen', hcap', hel'⟩ := reads_list hs'
  obtain ⟨hi, hn, hrr, hk, hsl, hoks⟩ := hok
  simp only [Nd.dts_eq, List.length_map] at hlen hel hlen' hel' ⊢
  unfold reach at hsl
  go_enter Tryz.func45, Tryz.ntmps45
  go_wp2_with fail
  go_loopw [5] (fun vi wr => SameRel w i n r k s.length (.slice a s.length cap) (.slice a' s.length cap') vi wr) (fun vi _ => s.length - (intOf vi).toNat)
  case atStart =>
   exact ⟨0, Nat.zero_le _, rfl, ((Chg.refl _ _).alloc _).alloc _, (Blk.newAt rfl).alloc _, Blk.newAt (by simp)⟩
  case round =>
   obtain ⟨j, hj, rfl, hc, hb0, hb1⟩ := hrel
   have c4 : wr.cell? ⟨w.heap.size, 4, none⟩ = some (.slice a s.length cap) := hb0.cell 4
   have d4 : wr.cell? ⟨w.heap.size + 1, 4, none⟩ = some (.slice a' s.length cap') := hb1.cell 4
   have hsz : w.heap.size + 2 ≤ wr.heap.size := hb1.lt
   by_cases hlt : j < s.length
   ·obtain ⟨b, off, rfl, hSb, hbw, hE⟩ := hel (by omega)
    obtain ⟨b', off', rfl, hSb', hbw', hE'⟩ := hel' (by omega)
    obtain ⟨ecs, hl5, hcells, hre⟩ := hE.get j s[j].dt (by simp [hlt])
    obtain ⟨ecs', hl5', hcells', hre'⟩ := hE'.get j s[j].dt (by simp [hlt])
    have hmem : s[j] ∈ s := List.getElem_mem hlt
    have hw1 := Nd.weigh_mem hmem
    have hok1 := Nd.oks_mem hoks _ hmem
    generalize s[j] = nj at hre hre' hw1 hok1
    obtain ⟨i1, n1, r1, k1, s1⟩ := nj
    obtain ⟨v1, rfl, hs1⟩ := reads_nd.1 hre
    obtain ⟨v1', rfl, hs1'⟩ := reads_nd.1 hre'
    have ef : ∀ t c, [Value.int .i64 i1, .string n1, .int .i64 r1, .int .i64 k1, v1][t]? = some c → wr.cell? ⟨b, off + j * 5 + t, none⟩ = some c := fun t c ht => (hc.cell (p := ⟨b, off + j * 5 + t, none⟩) hbw (fun e => e)).trans (hcells t c ht)
    have e0 : wr.cell? ⟨b, off + j * 5, none⟩ = some (.int .i64 i1) := ef 0 _ rfl
    have e1 : wr.cell? ⟨b, off + j * 5 + 1, none⟩ = some (.string n1) := ef 1 _ rfl
    have e2 : wr.cell? ⟨b, off + j * 5 + 2, none⟩ = some (.int .i64 r1) := ef 2 _ rfl
    have e3 : wr.cell? ⟨b, off + j * 5 + 3, none⟩ = some (.int .i64 k1) := ef 3 _ rfl
    have e4 : wr.cell? ⟨b, off + j * 5 + 4, none⟩ = some v1 := ef 4 _ rfl
    clear ef
    have gf : ∀ t c, [Value.int .i64 i1, .string n1, .int .i64 r1, .int .i64 k1, v1'][t]? = some c → wr.cell? ⟨b', off' + j * 5 + t, none⟩ = some c := fun t c ht => (hc.cell (p := ⟨b', off' + j * 5 + t, none⟩) hbw' (fun e => e)).trans (hcells' t c ht)
    have g0 : wr.cell? ⟨b', off' + j * 5, none⟩ = some (.int .i64 i1) := gf 0 _ rfl
    have g1 : wr.cell? ⟨b', off' + j * 5 + 1, none⟩ = some (.string n1) := gf 1 _ rfl
    have g2 : wr.cell? ⟨b', off' + j * 5 + 2, none⟩ = some (.int .i64 r1) := gf 2 _ rfl
    have g3 : wr.cell? ⟨b', off' + j * 5 + 3, none⟩ = some (.int .i64 k1) := gf 3 _ rfl
    have g4 : wr.cell? ⟨b', off' + j * 5 + 4, none⟩ = some v1' := gf 4 _ rfl
    clear gf
    go_wp2_with fail
    refine wp_region_n (fun w' => w'.cell? ⟨w.heap.size, 4, none⟩ = some (.slice (some ⟨b, off, none⟩) s.length cap) ∧ w'.cell? ⟨w.heap.size + 1, 4, none⟩ = some (.slice (some ⟨b', off', none⟩) s.length cap') ∧ w'.cell? ⟨b, off + j * 5, none⟩ = some (.int .i64 i1) ∧ w'.cell? ⟨b, off + j * 5 + 1, none⟩ = some (.string n1) ∧ w'.cell? ⟨b, off + j * 5 + 2, none⟩ = some (.int .i64 r1) ∧ w'.cell? ⟨b, off + j * 5 + 3, none⟩ = some (.int .i64 k1) ∧ w'.cell? ⟨b, off + j * 5 + 4, none⟩ = some v1 ∧ w'.cell? ⟨b', off' + j * 5, none⟩ = some (.int .i64 i1) ∧ w'.cell? ⟨b', off' + j * 5 + 1, none⟩ = some (.string n1) ∧ w'.cell? ⟨b', off' + j * 5 + 2, none⟩ = some (.int .i64 r1) ∧ w'.cell? ⟨b', off' + j * 5 + 3, none⟩ = some (.int .i64 k1) ∧ w'.cell? ⟨b', off' + j * 5 + 4, none⟩ = some v1') [11] (by kernel_rfl) ?_ (fun hSh => ?_)
    ·exact ⟨c4, d4, e0, e1, e2, e3, e4, g0, g1, g2, g3, g4⟩
    refine n_take (v := ?_) 0 rfl (Or.inl ⟨by rfl, ?_⟩) (by kernel_rfl) (fun _ _ _ h => h) (by assumption) ?_
    rotate_left 1
    ·(intro w' hSw; (try dsimp only at hSw); go_simp; try with_reducible rfl)
    simp only [Act.put, List.getElem_toArray, List.getElem_cons_zero, List.getElem_cons_succ, List.setIfInBounds_toArray, List.set_cons_zero, List.set_cons_succ]
    refine n_take (v := ?_) 1 rfl (Or.inl ⟨by rfl, ?_⟩) (by kernel_rfl) (fun _ _ _ h => h) (by assumption) ?_
    rotate_left 1
    ·(intro w' hSw; (try dsimp only at hSw); go_simp; try with_reducible rfl)
    simp only [Act.put, List.getElem_toArray, List.getElem_cons_zero, List.getElem_cons_succ, List.setIfInBounds_toArray, List.set_cons_zero, List.set_cons_succ]
    refine n_take (v := ?_) 2 rfl (Or.inl ⟨by rfl, ?_⟩) (by kernel_rfl) (fun _ _ _ h => h) (by assumption) ?_
    rotate_left 1
    ·(intro w' hSw; (try dsimp only at hSw); go_simp; try with_reducible rfl)
    simp only [Act.put, List.getElem_toArray, List.getElem_cons_zero, List.getElem_cons_succ, List.setIfInBounds_toArray, List.set_cons_zero, List.set_cons_succ]
    refine n_take (v := ?_) 3 rfl (Or.inl ⟨by rfl, ?_⟩) (by kernel_rfl) (fun _ _ _ h => h) (by assumption) ?_
    rotate_left 1
    ·(intro w' hSw; (try dsimp only at hSw); go_simp; try with_reducible rfl)
    simp only [Act.put, List.getElem_toArray, List.getElem_cons_zero, List.getElem_cons_succ, List.setIfInBounds_toArray, List.set_cons_zero, List.set_cons_succ]
    refine n_take (v := ?_) 4 rfl (Or.inl ⟨by rfl, ?_⟩) (by kernel_rfl) (fun _ _ _ h => h) (by assumption) ?_
    rotate_left 1
    ·(intro w' hSw; (try dsimp only at hSw); go_simp; try with_reducible rfl)
    simp only [Act.put, List.getElem_toArray, List.getElem_cons_zero, List.getElem_cons_succ, List.setIfInBounds_toArray, List.set_cons_zero, List.set_cons_succ]
    refine n_take (v := ?_) 5 rfl (Or.inl ⟨by rfl, ?_⟩) (by kernel_rfl) (fun _ _ _ h => h) (by assumption) ?_
    rotate_left 1
    ·(intro w' hSw; (try dsimp only at hSw); go_simp; try with_reducible rfl)
    simp only [Act.put, List.getElem_toArray, List.getElem_cons_zero, List.getElem_cons_succ, List.setIfInBounds_toArray, List.set_cons_zero, List.set_cons_succ]
    refine n_take (v := ?_) 6 rfl (Or.inl ⟨by rfl, ?_⟩) (by kernel_rfl) (fun _ _ _ h => h) (by assumption) ?_
    rotate_left 1
    ·(intro w' hSw; (try dsimp only at hSw); go_simp; try with_reducible rfl)
    simp only [Act.put, List.getElem_toArray, List.getElem_cons_zero, List.getElem_cons_succ, List.setIfInBounds_toArray, List.set_cons_zero, List.set_cons_succ]
    refine n_take (v := ?_) 7 rfl (Or.inl ⟨by rfl, ?_⟩) (by kernel_rfl) (fun _ _ _ h => h) (by assumption) ?_
    rotate_left 1
    ·(intro w' hSw; (try dsimp only at hSw); go_simp; try with_reducible rfl)
    simp only [Act.put, List.getElem_toArray, List.getElem_cons_zero, List.getElem_cons_succ, List.setIfInBounds_toArray, List.set_cons_zero, List.set_cons_succ]
    refine n_take (v := ?_) 8 rfl (Or.inl ⟨by rfl, ?_⟩) (by kernel_rfl) (fun _ _ _ h => h) (by assumption) ?_
    rotate_left 1
    ·(intro w' hSw; (try dsimp only at hSw); go_simp; try with_reducible rfl)
    simp only [Act.put, List.getElem_toArray, List.getElem_cons_zero, List.getElem_cons_succ, List.setIfInBounds_toArray, List.set_cons_zero, List.set_cons_succ]
    refine n_take (v := ?_) 9 rfl (Or.inl ⟨by rfl, ?_⟩) (by kernel_rfl) (fun _ _ _ h => h) (by assumption) ?_
    rotate_left 1
    ·(intro w' hSw; (try dsimp only at hSw); go_simp; try with_reducible rfl)
    simp only [Act.put, List.getElem_toArray, List.getElem_cons_zero, List.getElem_cons_succ, List.setIfInBounds_toArray, List.set_cons_zero, List.set_cons_succ]
    refine n_step 10 rfl (by kernel_rfl) ?_
    go_wp2_with fail
    refine (ih (.mk i1 n1 r1 k1 s1) wr.drew S S' _ _ ?_ (hre.chg0 hc.drew) (hre'.chg0 hc.drew) hok1).mono ?_
    ·simp only [Nd.weigh] at hm hw1 ⊢; omega
    rintro e w1 ⟨rfl, hc1⟩
    replace hc1 := hc1.ofDrew
    go_wp2_with fail
    refine ⟨fun _ => ?_, fun hSk => ?_⟩
    ·(repeat' refine And.intro ?_ ?_) <;> exact (hc1.cell (by first | assumption | (simp; done) | (simp; omega) | omega) NoB.elim).trans (by assumption)
    replace hSk := hSk (by rfl)
    refine n_step 11 rfl (by kernel_rfl) ?_
    go_wp2_with fail
    refine ⟨fun hx => absurd hx (by decide), fun _ => ?_⟩
    refine n_done (by kernel_rfl) ?_
    go_wp2_with fail
    go_roundw
    case rel => exact ⟨j + 1, hlt, by go_num, hc.tr hc1, hb0.keep hc1 NoB.elim, hb1.keep hc1 NoB.elim⟩
    case measure => simp [intOf]; omega
   ·go_wp2_with fail
    go_ret
    exact ⟨rfl, hc⟩
end Go.Proofs.YtgcmfpcgmkkobaaGreatDoor
namespace Go.Proofs.YtgcmfpcgmkkobaaGreatDoor
open Go.RowKit

structure Pl where
 n : Nd
 deep : Int
 around : Int
def Pl.dt (p : Pl) : Dt := .agg [p.n.dt, .lit (.int .i64 p.deep), .lit (.int .i64 p.around)]

mutual
def flatN (l : List Pl) : Nd → Int → Int → List Pl
 | .mk i n r k s, d, a => if 2000 < l.length ∨ 100 < d then l else flatL (l ++ [⟨.mk i n r k s, d, a⟩]) s (d + 1) l.length
def flatL (l : List Pl) : List Nd → Int → Int → List Pl
 | [], _, _ => l
 | n :: ns, d, a => flatL (flatN l n d a) ns d a
end
mutual
theorem flatN_le : ∀ (n : Nd) (l : List Pl) (d a : Int), l.length ≤ 2001 → (flatN l n d a).length ≤ 2001
 | .mk i n r k s, l, d, a, h => by
  simp only [flatN]
  split
  ·exact h
  ·exact flatL_le s _ _ _ (by simp; omega)
theorem flatL_le : ∀ (s : List Nd) (l : List Pl) (d a : Int), l.length ≤ 2001 → (flatL l s d a).length ≤ 2001
 | [], l, d, a, h => by simpa [flatL] using h
 | n :: ns, l, d, a, h => by
  simp only [flatL]
  exact flatL_le ns _ _ _ (flatN_le n l d a h)
end
theorem flatL_snoc : ∀ (s : List Nd) (l : List Pl) (n : Nd) (d a : Int), flatL l (s ++ [n]) d a = flatN (flatL l s d a) n d a
 | [], l, n, d, a => by simp [flatL]
 | x :: xs, l, n, d, a => by simp only [List.cons_append, flatL]; exact flatL_snoc xs _ n d a

/-- A slice that was handed in, built on: the new value, what it holds, what has changed. -/
def RetOwn (B e k : Nat) (A : Nat → Prop) (v : Value) (ds : List Dt) (w : World) (en : Ending) (w' : World) : Prop :=
 ∃ ao cap, en = .returned (.slice ao ds.length cap) ∧ Own w' B e k A (.slice ao ds.length cap) ds ∧ Chg (fun b => v.ownBlock = some b) w w' ∧
  ∀ b, (Value.slice ao ds.length cap).ownBlock = some b → v.ownBlock = some b ∨ w.heap.size ≤ b

theorem infoPlace : (Tryz.prog.info? 72).map (fun i => (i.zero, i.size, i.bytes)) = some (some (.agg #[.int .i64 0, .string ⟨#[]⟩, .int .i64 0, .int .i64 0, .slice none 0 0, .int .i64 0, .int .i64 0]), 7, 80) := by kernel_rfl

theorem reads_pl {w : World} {S : Nat → Prop} {n : Nd} {cs : List Value} (h : Reads w S n.dt cs) (d a : Int) : Reads w S (Pl.dt ⟨n, d, a⟩) (cs ++ [.int .i64 d, .int .i64 a]) := by
 exact ⟨cs, _, rfl, h, [_], _, rfl, ⟨rfl, rfl⟩, [_], _, rfl, ⟨rfl, rfl⟩, rfl⟩

/-- What holds at the head of each round. -/
def FlatRel (w : World) (B : Nat) (A : Nat → Prop) (v0 : Value) (l : List Pl) (i : Int) (n : ByteArray) (r k : Int) (s : List Nd) (sv : Value) (d at0 : Int) (vl vi : Value) (wr : World) : Prop :=
 ∃ j ao cap, j ≤ s.length ∧ vi = .int .i64 (j : Nat) ∧ vl = .slice ao (flatL l (s.take j) d at0).length cap ∧
  Own wr B 72 7 A (.slice ao (flatL l (s.take j) d at0).length cap) ((flatL l (s.take j) d at0).map Pl.dt) ∧ Chg (fun b => v0.ownBlock = some b) w wr ∧
  Blk wr w.heap.size (ndCells i n r k sv) 28 ∧ ∀ b, (Value.slice ao (flatL l (s.take j) d at0).length cap).ownBlock = some b → v0.ownBlock = some b ∨ w.heap.size + 1 ≤ b

set_option maxHeartbeats 1000000 in
theorem flat_any : ∀ (m : Nat) (nd : Nd) (w : World) (B : Nat) (A : Nat → Prop) (v : Value) (ps : List Pl) (cs : List Value) (d a : Int), nd.weigh ≤ m → Own w B 72 7 A v (ps.map Pl.dt) →
  (∀ b, A b → b < B) → B ≤ w.heap.size → Reads w A nd.dt cs → nd.ok → 0 ≤ d → d ≤ 101 → -1 ≤ a → a ≤ 2001 → ps.length ≤ 2001 →
  Calls Tryz.prog 72 #[v, .agg cs.toArray, .int .i64 d, .int .i64 a] w (RetOwn B 72 7 A v ((flatN ps nd d a).map Pl.dt) w) := by
 intro m
 induction m with
 | zero => intro nd w B A v ps cs d a hm; cases nd; simp [Nd.weigh] at hm
 | succ m ih =>
  intro nd w B A v ps cs d a hm ho hAB hBw hr hok hd0 hd1 ha0 ha1 hps
  obtain ⟨i, n, r, k, s⟩ := nd
  obtain ⟨sv, rfl, hs⟩ := reads_nd.1 hr
  obtain ⟨sa, cap, rfl, hlen, hcap, hel⟩ := reads_subs hs
  obtain ⟨hi, hn, hrr, hk, hsl, hoks⟩ := hok
  obtain ⟨ao, c0, rfl⟩ := ho.form
  simp only [List.length_map] at ho ⊢
  unfold reach at hsl
  by_cases h1 : 2000 < ps.length
  ·go_enter Tryz.func72, Tryz.ntmps72
   go_wp2_with fail
   go_ret
   simp only [flatN, h1, true_or, if_true]
   exact ⟨ao, c0, by simp, by simpa using ho.keep ((Chg.refl NoB _).alloc _) (fun _ _ e => NoB.elim e) (fun _ _ e => NoB.elim e), (Chg.refl _ _).alloc _, fun b hb => .inl (by simpa using hb)⟩
  by_cases h2 : 100 < d
  ·go_enter Tryz.func72, Tryz.ntmps72
   go_wp2_with fail
   go_ret
   simp only [flatN, h2, or_true, if_true]
   exact ⟨ao, c0, by simp, by simpa using ho.keep ((Chg.refl NoB _).alloc _) (fun _ _ e => NoB.elim e) (fun _ _ e => NoB.elim e), (Chg.refl _ _).alloc _, fun b hb => .inl (by simpa using hb)⟩
  go_enter Tryz.func72, Tryz.ntmps72
  go_wp2_with (at_builtin; refine stop_here ?_)
  refine Stop.go ?_
  generalize hw1 : (w.alloc _).alloc _ = w1
  have hc0 : Chg NoB w w1 := by
   rw [← hw1]
   repeat (first | exact Chg.refl _ _ | apply Chg.alloc | apply Chg.drew)
  have hb0 : Blk w1 (w.heap.size) (ndCells i n r k (.slice sa s.length cap)) 28 := by
   rw [← hw1]
   repeat (first | exact Blk.newAt (by first | rfl | (simp; done) | (simp; omega)) | apply Blk.alloc | apply Blk.drew)
  have hbn : Blk w1 (w.heap.size + 1) ([.int .i64 i, .string n, .int .i64 r, .int .i64 k, .slice sa s.length cap, .int .i64 d, .int .i64 a]) 72 := by
   rw [← hw1]
   repeat (first | exact Blk.newAt (by first | rfl | (simp; done) | (simp; omega)) | apply Blk.alloc | apply Blk.drew)
  clear hw1
  have hoB := ho.block
  have hAo : ∀ b, A b → (Value.slice ao ps.length c0).ownBlock ≠ some b := fun b hb e => by have := (hoB b e).1; have := hAB b hb; omega
  have ho1 := ho.keep hc0 (fun _ _ e => NoB.elim e) (fun _ _ e => NoB.elim e)
  refine wpList_own rfl (.tmp 21) (.tmp 26) 69 rfl B 72 Tryz.underlying69 infoPlace rfl (by decide) rfl ho1 rfl [Pl.dt ⟨.mk i n r k s, d, a⟩] _ rfl (ReadsC.single rfl (reads_pl ((hr.chg0 hc0).mono (fun b hb => ⟨hb, hAo b hb⟩)) d a)) hbn.news (fun e => by cases e) ?_ ?_ ?_ ?_
  ·simp [maxLen]; omega
  ·simp; omega
  ·have := hc0.size; omega
  intro ao2 cap2 w2 ho2 hc2 hat2
  simp only [List.length_map] at ho2 hat2 ⊢
  have hb0 := hb0.keep hc2 (fun e => by have := (hoB _ e).2; omega)
  have hc02 : Chg (fun b => (Value.slice ao ps.length c0).ownBlock = some b) w w2 := (hc0.mono (fun _ _ e => NoB.elim e)).trans hc2 (fun _ e => .inl e)
  have hnew : ∀ b, (Value.slice ao2 (ps.length + 1) cap2).ownBlock = some b → (Value.slice ao ps.length c0).ownBlock = some b ∨ w.heap.size + 1 ≤ b := fun b hb => by
   rcases hat2 with e | e
   ·exact .inl (e ▸ hb)
   ·have h9 := Option.some.inj (e.symm.trans hb)
    have := hbn.lt
    exact .inr (by omega)
  go_wp2_with fail
  go_loopw [0, 10] (fun vl vi wr => FlatRel w B A (.slice ao ps.length c0) (ps ++ [⟨.mk i n r k s, d, a⟩]) i n r k s (.slice sa s.length cap) (d + 1) ps.length vl vi wr) (fun _ vi _ => s.length - (intOf vi).toNat)
  case atStart =>
   refine ⟨0, ao2, cap2, Nat.zero_le _, rfl, ?_, ?_, hc02, hb0, ?_⟩
   ·simp [flatL]
   ·simpa [flatL] using ho2
   ·simpa [flatL] using hnew
  case round =>
   obtain ⟨j, aj, cj, hj, rfl, rfl, hoj, hcj, hb0j, hnj⟩ := hrel
   have c4 : wr.cell? ⟨w.heap.size, 4, none⟩ = some (.slice sa s.length cap) := hb0j.cell 4
   have hsz : w.heap.size + 1 ≤ wr.heap.size := hb0j.lt
   by_cases hlt : j < s.length
   ·obtain ⟨b, off, rfl, hSb, hbw, hE⟩ := hel (by omega)
    obtain ⟨ecs, hl5, hcells, hre⟩ := hE.get j s[j].dt (by simp [hlt])
    have hmem : s[j] ∈ s := List.getElem_mem hlt
    have hwj := Nd.weigh_mem hmem
    have hokj := Nd.oks_mem hoks _ hmem
    have htake : s.take (j + 1) = s.take j ++ [s[j]] := List.take_succ_eq_append_getElem hlt
    generalize s[j] = nj at hre hwj hokj htake
    have hfl := flatL_snoc (s.take j) (ps ++ [⟨.mk i n r k s, d, a⟩]) nj (d + 1) ps.length
    rw [← htake] at hfl
    have Hfl := Lib.hid hfl
    clear htake hfl
    have hle := flatL_le (s.take j) (ps ++ [⟨.mk i n r k s, d, a⟩]) (d + 1) ps.length (by simp; omega)
    generalize flatL (ps ++ [⟨.mk i n r k s, d, a⟩]) (s.take j) (d + 1) ps.length = lj at hoj hnj Hfl hle ⊢
    obtain ⟨i1, n1, r1, k1, s1⟩ := nj
    obtain ⟨v1, rfl, hs1⟩ := reads_nd.1 hre
    have hcb : ∀ {x : Nat}, A x → ¬ ((Value.slice ao ps.length c0).ownBlock = some x) := fun hx e => hAo _ hx e
    have hf : ∀ t c, [Value.int .i64 i1, .string n1, .int .i64 r1, .int .i64 k1, v1][t]? = some c → wr.cell? ⟨b, off + j * 5 + t, none⟩ = some c := fun t c ht => (hcj.cell (p := ⟨b, off + j * 5 + t, none⟩) hbw (hcb hSb)).trans (hcells t c ht)
    have e0 : wr.cell? ⟨b, off + j * 5, none⟩ = some (.int .i64 i1) := hf 0 _ rfl
    have e1 : wr.cell? ⟨b, off + j * 5 + 1, none⟩ = some (.string n1) := hf 1 _ rfl
    have e2 : wr.cell? ⟨b, off + j * 5 + 2, none⟩ = some (.int .i64 r1) := hf 2 _ rfl
    have e3 : wr.cell? ⟨b, off + j * 5 + 3, none⟩ = some (.int .i64 k1) := hf 3 _ rfl
    have e4 : wr.cell? ⟨b, off + j * 5 + 4, none⟩ = some v1 := hf 4 _ rfl
    clear hf
    go_wp2_with fail
    refine (ih (.mk i1 n1 r1 k1 s1) wr B A _ lj _ (d + 1) ps.length ?_ hoj hAB (by omega) (hre.chg hcj (fun _ hb => hcb hb)) hokj (by omega) (by omega) (by omega) (by omega) hle).mono ?_
    ·simp only [Nd.weigh] at hm hwj ⊢; omega
    rintro e w3 ⟨ao3, cap3, rfl, ho3, hc3, hn3⟩
    have hc03 := hcj.trans hc3 (fun b hb => (hnj b hb).imp id (fun h => by omega))
    have hb0j := hb0j.keep hc3 (fun e => by rcases hnj _ e with h | h; have := (hoB _ h).2; omega; omega)
    simp only [List.length_map] at ho3 hn3 ⊢
    go_wp2_with fail
    go_roundw
    case rel =>
     refine ⟨j + 1, ao3, cap3, hlt, by go_num, ?_, ?_, hc03, hb0j, ?_⟩
     ·rw [Hfl.out]
     ·rw [Hfl.out]; exact ho3
     ·rw [Hfl.out]
      intro b hb
      rcases hn3 b hb with h | h
      ·exact hnj b h
      ·exact .inr (by omega)
    case measure => simp [intOf]; omega
   ·have hjs : s.take j = s := List.take_of_length_le (by omega)
    rw [hjs] at hoj hnj ⊢
    have hfin : flatN ps (.mk i n r k s) d a = flatL (ps ++ [⟨.mk i n r k s, d, a⟩]) s (d + 1) ps.length := by simp only [flatN]; rw [if_neg (by omega)]
    have Hfin := Lib.hid hfin
    clear hfin hjs
    generalize flatL (ps ++ [⟨.mk i n r k s, d, a⟩]) s (d + 1) ps.length = lj at hoj hnj Hfin ⊢
    go_wp2_with fail
    go_ret
    rw [Hfin.out]
    exact ⟨aj, cj, by simp, by simpa using hoj, hcj, fun b hb => (hnj b (by simpa using hb)).imp id (fun h => by omega)⟩

/-- A slice of new memory that reads as ds (what its elements lead to may lie in S); nothing that was there has changed. -/
def RetList (k : Nat) (S : Nat → Prop) (ds : List Dt) (w : World) (e : Ending) (w' : World) : Prop :=
 ∃ ao cap, e = .returned (.slice ao ds.length cap) ∧ Reads w' (fun b => S b ∨ w.heap.size ≤ b) (.list k ds) [.slice ao ds.length cap] ∧ Chg NoB w w'

def flatOf (n : Nd) : List Pl := flatN [] n 1 (-1)

set_option maxHeartbeats 400000 in
theorem Flat_any (nd : Nd) (w : World) (S : Nat → Prop) (cs : List Value) (hr : Reads w S nd.dt cs) (hok : nd.ok) :
  Calls Tryz.prog 32 #[.agg cs.toArray] w (RetList 7 S ((flatOf nd).map Pl.dt) w) := by
 obtain ⟨i, n, r, k, s⟩ := nd
 obtain ⟨sv, rfl, hs⟩ := reads_nd.1 hr
 obtain ⟨sa, cap, rfl, hlen, hcap, hel⟩ := reads_subs hs
 have hrA := Reads.lt _ _ hr
 go_enter Tryz.func32, Tryz.ntmps32
 go_wp2_with fail
 generalize hw1 : w.alloc _ = w1
 have hc1 : Chg NoB w w1 := by
  rw [← hw1]
  repeat (first | exact Chg.refl _ _ | apply Chg.alloc | apply Chg.drew)
 have hw1s : w1.heap.size = w.heap.size + 1 := by rw [← hw1]; simp
 clear hw1
 refine (flat_any _ (.mk i n r k s) w1 w.heap.size (fun b => S b ∧ b < w.heap.size) _ [] _ 1 (-1) (Nat.le_refl _) (Own.nil _ _ _ _ _) (fun b hb => hb.2) (by omega) (hrA.chg0 hc1) hok (by omega) (by omega) (by omega) (by omega) (by simp)).mono ?_
 rintro e w2 ⟨ao, c2, rfl, ho, hc, hn⟩
 have hc2 : Chg NoB w w2 := hc1.trans hc (fun b hb => by cases hb)
 have hle := flatN_le (.mk i n r k s) [] 1 (-1) (by simp)
 have hf : flatN [] (.mk i n r k s) 1 (-1) = flatOf (.mk i n r k s) := rfl
 rw [hf] at ho hle ⊢
 clear hf hn hc
 go_wp2_with fail
 go_ret
 refine ⟨ao, c2, by simp, ho.reads (fun b hb => .inl hb.1) (fun b hb _ => .inr hb) (by simp [maxLen]; omega), hc2⟩

mutual
theorem flatN_ok : ∀ (n : Nd) (l : List Pl) (d a : Int), (∀ p ∈ l, p.n.ok) → n.ok → ∀ p ∈ flatN l n d a, p.n.ok
 | .mk i n r k s, l, d, a, h, hn => by
  simp only [flatN]
  split
  ·exact h
  ·refine flatL_ok s _ _ _ (fun p hp => ?_) hn.2.2.2.2.2
   rcases List.mem_append.1 hp with hp | hp
   ·exact h p hp
   ·simp only [List.mem_cons, List.not_mem_nil, or_false] at hp; subst hp; exact hn
theorem flatL_ok : ∀ (s : List Nd) (l : List Pl) (d a : Int), (∀ p ∈ l, p.n.ok) → Nd.oks s → ∀ p ∈ flatL l s d a, p.n.ok
 | [], l, d, a, h, _ => by simpa [flatL] using h
 | n :: ns, l, d, a, h, hs => by
  simp only [flatL]
  exact flatL_ok ns _ _ _ (flatN_ok n l d a h hs.1) hs.2
end

/-- How many bytes the names of the first k have. -/
def nameSum (l : List Pl) : Nat := (l.map fun p => p.n.name.size).sum
theorem nameSum_snoc (l : List Pl) (p : Pl) : nameSum (l ++ [p]) = nameSum l + p.n.name.size := by simp [nameSum]
theorem nameSum_le (l : List Pl) (h : ∀ p ∈ l, p.n.ok) : nameSum l ≤ l.length * reach := by
 induction l with
 | nil => simp [nameSum]
 | cons p ps ih =>
  have h1 := ih (fun q hq => h q (List.mem_cons_of_mem _ hq))
  have h2 : p.n.name.size ≤ reach := by
   have := h p (List.mem_cons_self ..)
   obtain ⟨⟨i, n, r, k, s⟩, d, a⟩ := p
   exact this.2.1
  have h3 : nameSum (p :: ps) = p.n.name.size + nameSum ps := by simp [nameSum]
  rw [h3, List.length_cons, Nat.succ_mul]
  omega
def tameB (n : Nd) : Bool := decide ((flatOf n).length ≤ 200) && decide (nameSum (flatOf n) ≤ 4000)

def TameRel (l : List Pl) (vn vi : Value) : Prop := ∃ j, j ≤ l.length ∧ vi = .int .i64 (j : Nat) ∧ vn = .int .i64 (nameSum (l.take j) : Nat)

end Go.Proofs.YtgcmfpcgmkkobaaGreatDoor
namespace Go.Proofs.YtgcmfpcgmkkobaaGreatDoor
open Go.RowKit

/-- What holds at the head of each round. -/
def CopyRel (w : World) (i : Int) (n : ByteArray) (r k : Int) (s : List Nd) (sv : Value) (vl vi : Value) (wr : World) : Prop :=
 ∃ j ao cap, j ≤ s.length ∧ vi = .int .i64 (j : Nat) ∧ vl = .slice ao j cap ∧ Chg NoB w wr ∧ Blk wr w.heap.size (ndCells i n r k sv) 28 ∧
  Blk wr (w.heap.size + 1) (ndCells 0 ⟨#[]⟩ 0 0 (.slice none 0 0)) 28 ∧ Own wr (w.heap.size + 2) 28 5 (fun b => w.heap.size + 2 ≤ b) vl ((s.take j).map Nd.dt)

end Go.Proofs.YtgcmfpcgmkkobaaGreatDoor
namespace Go.Proofs.YtgcmfpcgmkkobaaGreatDoor
open Go.RowKit

theorem bd_size : (Tryz.prog.info? 135).map (·.size) = some 2 := by kernel_rfl
theorem bd_lies : liesAt Tryz.prog Tryz.prog.depth 135 (2 / Tryz.prog.cellsOf 135) 0 135 1 = true := by kernel_rfl
theorem infoByte : (Tryz.prog.info? 5).map (fun i => (i.zero, i.size, i.bytes)) = some (some (.int .u8 0), 1, 1) := by kernel_rfl

abbrev IsB (B b : Nat) (bs : List Value) (w : World) : Prop := Lib.IsBuilder 135 5 B b bs w
abbrev BAt (B b : Nat) (p : Value) (bs : List Value) (w : World) : Prop := Lib.BuilderAt 135 5 B b p bs w

set_option maxHeartbeats 1000000 in
set_option maxRecDepth 100000 in
theorem copyCheck_used (b : Nat) (w : World) (h0 : w.cell? ⟨b, 0, none⟩ = some (.pointer (some ⟨b, 0, none⟩))) :
  Calls Tryz.prog 122 #[.pointer (some ⟨b, 0, none⟩)] w fun e w' => e = .returned (.tuple #[]) ∧ w' = w := by
 obtain ⟨j, hj, _⟩ := Option.map_eq_some_iff.1 bd_size
 go_enter Tryz.func122, Tryz.ntmps122
 go_wp2_with fail
 rw [Lib.run_neq_ptr_same w _ Tryz.underlying132 hj]
 go_wp2_with fail
 go_end0
 exact ⟨rfl, rfl⟩

set_option maxHeartbeats 1000000 in
set_option maxRecDepth 100000 in
theorem copyCheck_fresh (b : Nat) (w : World) (h0 : w.cell? ⟨b, 0, none⟩ = some (.pointer none)) (hsh : w.shape? b = some (135, 2)) (hfz : w.frozen? ⟨b, 0, none⟩ = false) :
  Calls Tryz.prog 122 #[.pointer (some ⟨b, 0, none⟩)] w fun e w' => e = .returned (.tuple #[]) ∧ w' = w.setCell ⟨b, 0, none⟩ (.pointer (some ⟨b, 0, none⟩)) := by
 obtain ⟨j, hj, hjs⟩ := Option.map_eq_some_iff.1 bd_size
 go_enter Tryz.func122, Tryz.ntmps122
 go_wp2_with fail
 rw [Lib.run_to_unsafe w ⟨b, 0, none⟩ Tryz.underlying132 Tryz.underlying150 hj (by rw [hjs]; decide) hsh (Nat.zero_lt_succ 1)]
 simp only [Result.andThen]
 rw [Oper.upon_value]
 go_wp2_with fail
 rw [run_callFunc_extern Tryz.func149 (by kernel_rfl) (by kernel_rfl) (by kernel_rfl) (e := Extern.AbiNoEscape.same) (by kernel_rfl)]
 rw [Lib.run_noEscape]
 simp only [Result.andThen]
 rw [Oper.upon_value]
 go_wp2_with fail
 rw [Lib.run_from_unsafe w ⟨b, 0, none⟩ Tryz.underlying150 Tryz.underlying132 hj hsh bd_lies]
 simp only [Result.andThen]
 rw [Oper.upon_value]
 go_wp2_with fail
 go_end0
 exact ⟨rfl, rfl⟩

/-- Behind it the builder is used; its bytes are as they were. -/
theorem copyCheck_any (B b : Nat) (bs : List Value) (w : World) (h : IsB B b bs w) :
  Calls Tryz.prog 122 #[.pointer (some ⟨b, 0, none⟩)] w fun e w' => e = .returned (.tuple #[]) ∧ BAt B b (.pointer (some ⟨b, 0, none⟩)) bs w' ∧ Chg (RowsOf w 5 B b) w w' := by
 rcases h with h | h
 ·refine (copyCheck_fresh b w h.cell0 h.shape h.frozen0).mono ?_
  rintro e w' ⟨rfl, rfl⟩
  exact ⟨rfl, h.used _, (Chg.refl _ w).setCell (p := ⟨b, 0, none⟩) (.inl ⟨h.1, .inl rfl⟩) _⟩
 ·refine (copyCheck_used b w h.cell0).mono ?_
  rintro e w' ⟨rfl, rfl⟩
  exact ⟨rfl, h, Chg.refl _ _⟩

set_option maxHeartbeats 2000000 in
set_option maxRecDepth 100000 in
theorem writeString_any (B b : Nat) (bs : List Value) (s : ByteArray) (w : World) (h : IsB B b bs w) (hlen : bs.length + s.size ≤ 140737488355328) (hBw : B ≤ w.heap.size) :
  Calls Tryz.prog 92 #[.pointer (some ⟨b, 0, none⟩), .string s] w fun e w' => e = .returned (.tuple #[.int .i64 s.size, .nilIface]) ∧ IsB B b (bs ++ Lib.strCells s) w' ∧ Chg (RowsOf w 5 B b) w w' := by
 obtain ⟨i0, hi, hz0, hz1, hz2⟩ := info_parts infoByte
 go_enter Tryz.func92, Tryz.ntmps92
 go_wp2_with fail
 refine (copyCheck_any B b bs w h).mono ?_
 rintro e w1 ⟨rfl, h1, hc1⟩
 obtain ⟨hB, v, hbk, hown, hne⟩ := h1
 have c0 : w1.cell? ⟨b, 0, none⟩ = some (.pointer (some ⟨b, 0, none⟩)) := by rw [Lib.cell_of_heap hbk]; rfl
 have c1 : w1.cell? ⟨b, 1, none⟩ = some v := by rw [Lib.cell_of_heap hbk]; rfl
 go_wp2_with (at_builtin; refine Lib.wpList_append_own_string _ rfl _ _ 133 9 rfl B 5 i0 Tryz.underlying133 Tryz.underlying9 hi hz0 hz1 hz2 _ _ _ rfl hown s rfl ?c3 ?c4 ?c5 ?_)
 case c3 => unfold maxLen; omega
 case c4 => omega
 case c5 => have := hc1.size; omega
 intro v' w2 hown' hgrow _
 have hlt : b < w1.heap.size := lt_of_block hbk
 have hb2 : w2.heap[b]? = some (.cells #[.pointer (some ⟨b, 0, none⟩), v] 135 (0, 0)) := by
  rw [hgrow.block b hlt (fun e => hne e.symm)]
  exact hbk
 have d0 : w2.cell? ⟨b, 0, none⟩ = some (.pointer (some ⟨b, 0, none⟩)) := by rw [Lib.cell_of_heap hb2]; rfl
 have d1 : w2.cell? ⟨b, 1, none⟩ = some v := by rw [Lib.cell_of_heap hb2]; rfl
 have f1 : w2.frozen? ⟨b, 1, none⟩ = false := Lib.frozen_of_heap hb2 1
 obtain ⟨ao, n', cap, rfl⟩ : ∃ ao n' cap, v' = .slice ao n' cap := by
  rcases hown'.2 with ⟨hv, _⟩ | ⟨g, cap, cur, hv, _⟩
  ·exact ⟨_, _, _, hv⟩
  ·exact ⟨_, _, _, hv⟩
 have hrow : ∀ g, v.ownBlock = some g → RowsOf w1 5 B b g := fun g hg => by
  rcases hown.2 with ⟨rfl, _⟩ | ⟨g', cap, cur, rfl, hb', hg', _⟩
  ·cases hg
  ·obtain rfl := Option.some.inj hg
   exact ⟨hb', .inr ⟨_, _, hg'⟩⟩
 go_wp2_with fail
 go_ret2
 refine ⟨rfl, .inr ?_, ?_⟩
 ·exact Lib.BuilderAt.put (T := 135) (e := 5) hB hb2 (bs' := bs ++ Lib.strCells s) (by simpa [Lib.strCells_length] using hown') (by decide)
 ·exact hc1.rows (((Chg.refl _ w1).grown hgrow (fun k hk => .inl (hrow k hk))).setCell (p := ⟨b, 1, none⟩) (.inl ⟨hB, .inl rfl⟩) _)

theorem IsB.keep {B b : Nat} {bs : List Value} {C : Nat → Prop} {w w' : World} (h : IsB B b bs w) (hc : Chg C w w') (hb : ¬ C b) (hrow : ∀ k c fz, B ≤ k → w.heap[k]? = some (.cells c 5 fz) → ¬ C k) : IsB B b bs w' := by
 have key : ∀ p, BAt B b p bs w → BAt B b p bs w' := by
  rintro p ⟨hB, v, hbk, hown, hne⟩
  refine ⟨hB, v, hc.at hbk hb, ⟨hown.1, ?_⟩, hne⟩
  rcases hown.2 with h0 | ⟨g, cap, cur, rfl, hg, hh, r⟩
  ·exact .inl h0
  ·exact .inr ⟨g, cap, cur, rfl, hg, hc.at hh (hrow g _ _ hg hh), r⟩
 exact h.imp (key _) (key _)
theorem IsB.keep0 {B b : Nat} {bs : List Value} {w w' : World} (h : IsB B b bs w) (hc : Chg NoB w w') : IsB B b bs w' := h.keep hc NoB.elim (fun _ _ _ _ _ => NoB.elim)
theorem IsB.lt {B b : Nat} {bs : List Value} {w : World} (h : IsB B b bs w) : b < w.heap.size := h.elim Lib.BuilderAt.lt Lib.BuilderAt.lt
theorem IsB.from {B b : Nat} {bs : List Value} {w : World} (h : IsB B b bs w) : B ≤ b := h.elim (·.1) (·.1)
end Go.Proofs.YtgcmfpcgmkkobaaGreatDoor
namespace Go.Proofs.YtgcmfpcgmkkobaaGreatDoor
open Go.RowKit

theorem readsE_of {w : World} {S : Nat → Prop} {k b : Nat} : ∀ (l : List Dt) (off : Nat),
  (∀ (i : Nat) (d : Dt), l[i]? = some d → ∃ cs, cs.length = k ∧ (∀ (j : Nat) (c : Value), cs[j]? = some c → w.cell? ⟨b, off + i * k + j, none⟩ = some c) ∧ Reads w S d cs) → ReadsE w S k b off l
 | [], off, h => trivial
 | d :: ds, off, h => by
  refine ⟨?_, readsE_of ds (off + k) fun i d' hd => ?_⟩
  ·obtain ⟨cs, h1, h2, h3⟩ := h 0 d rfl
   exact ⟨cs, h1, fun j c hj => by simpa using h2 j c hj, h3⟩
  ·obtain ⟨cs, h1, h2, h3⟩ := h (i + 1) d' (by simpa using hd)
   refine ⟨cs, h1, fun j c hj => ?_, h3⟩
   rw [← h2 j c hj]
   congr 2
   rw [Nat.succ_mul]; omega
theorem choose_list {α : Type} {P : Nat → α → Prop} : ∀ n : Nat, (∀ i, i < n → ∃ y, P i y) → ∃ l : List α, l.length = n ∧ ∀ i y, l[i]? = some y → P i y
 | 0, _ => ⟨[], rfl, fun i y h => by simp at h⟩
 | n + 1, h => by
  obtain ⟨l, h1, h2⟩ := choose_list n (fun i hi => h i (by omega))
  obtain ⟨y, hy⟩ := h n (by omega)
  refine ⟨l ++ [y], by simp [h1], fun i z hz => ?_⟩
  by_cases hi : i < n
  ·rw [List.getElem?_append_left (by omega)] at hz; exact h2 i z hz
  ·rw [List.getElem?_append_right (by omega), h1] at hz
   have : i = n := by
    have := (List.getElem?_eq_some_iff.1 hz).1
    simp at this; omega
   subst this
   simp at hz
   exact hz ▸ hy
theorem cells_of {w : World} {base k : Nat} {a : Addr} {cs : List Value} (h : w.cells? base a k = some cs) : cs.length = k ∧ ∀ j c, cs[j]? = some c → w.cell? (a.add j) = some c := by
 unfold World.cells? at h
 split at h
 ·refine ⟨by simpa using mapM_some_length h, fun j c hj => ?_⟩
  have hl : cs.length = k := by simpa using mapM_some_length h
  have hjk : j < k := by have := (List.getElem?_eq_some_iff.1 hj).1; omega
  rw [mapM_some_get h j j (by simp [hjk]), hj]
 ·cases h
theorem length_data' (s : ByteArray) : s.data.toList.length = s.size := Array.length_toList
theorem lt_of_cell' {w : World} {p : Addr} {v : Value} (h : w.cell? p = some v) : p.block < w.heap.size := by
 unfold World.cell? at h
 cases hb : w.heap[p.block]? with
 | none => rw [hb] at h; simp at h
 | some o => exact lt_of_block hb
theorem oks_of : ∀ {l : List Nd}, (∀ n ∈ l, n.ok) → Nd.oks l
 | [], _ => trivial
 | x :: xs, h => ⟨h x (List.mem_cons_self ..), oks_of fun n hn => h n (List.mem_cons_of_mem _ hn)⟩
theorem weights_mem {H : Type} {P : Program} {e : TypeId} {d : DataW H} : ∀ {l : List (DataW H)}, d ∈ l → (DataW.weightsAll P e l).all (· ≤ reachBytes) = true → (d.weights P e).all (· ≤ reachBytes) = true
 | x :: xs, hd, h => by
  simp only [DataW.weightsAll, List.all_append, Bool.and_eq_true] at h
  rcases List.mem_cons.1 hd with rfl | hd
  ·exact h.1
  ·exact weights_mem hd h.2
theorem add_none (b off j : Nat) : (⟨b, off, none⟩ : Addr).add j = ⟨b, off + j, none⟩ := by unfold Addr.add; split <;> simp_all
theorem five_of {α : Type} (l : List α) (h : l.length = 5) : ∃ a b c d e, l = [a, b, c, d, e] := by
 rcases l with _ | ⟨a, _ | ⟨b, _ | ⟨c, _ | ⟨d, _ | ⟨e, _ | ⟨f, g⟩⟩⟩⟩⟩⟩ <;> simp at h
 exact ⟨a, b, c, d, e, rfl⟩
theorem nodeCells : Tryz.prog.cellsOf 28 = 5 := by kernel_rfl
theorem nodeBytes : Tryz.prog.bytesOf 28 = 64 := by kernel_rfl
theorem intCells : Tryz.prog.cellsOf 3 = 1 := by kernel_rfl
theorem stringCells : Tryz.prog.cellsOf 9 = 1 := by kernel_rfl
theorem nodesCells : Tryz.prog.cellsOf 26 = 1 := by kernel_rfl

section
variable {H : Type} {enc : TypeId × Value → H} {W : World}
theorem open_nd : ∀ (fuel : Nat) (cs : List Value) (x : DataW H × List MemPlace), DataW.trod enc Tryz.prog W 0 (fun _ => true) true fuel 28 cs = some x →
  (x.1.weights Tryz.prog 28).all (· ≤ reachBytes) = true → ∃ nd : Nd, Reads W (fun b => b < W.heap.size) nd.dt cs ∧ nd.ok := by
 intro fuel
 induction fuel using Nat.strongRecOn with
 | _ fuel ih =>
  intro cs x h hw
  obtain ⟨xs, n, rfl, rfl, hl, hxl, hf⟩ := DataW.trod_struct Tryz.underlying28 h
  rw [nodeCells] at hl
  obtain ⟨v0, v1, v2, v3, v4, rfl⟩ := five_of cs hl
  obtain ⟨y0, y1, y2, y3, y4, rfl⟩ := five_of xs hxl
  have f0 := hf 0 _ rfl
  have f1 := hf 1 _ rfl
  have f2 := hf 2 _ rfl
  have f3 := hf 3 _ rfl
  have f4 := hf 4 _ rfl
  simp only [List.getElem_toArray, List.getElem_cons_zero, List.getElem_cons_succ, intCells, stringCells, nodesCells, List.drop_zero, List.drop_succ_cons, List.take_succ_cons, List.take_zero, List.getElem?_cons_zero, List.getElem?_cons_succ] at f0 f1 f2 f3 f4
  obtain ⟨i, e0, rfl, w0⟩ := DataW.trod_int Tryz.underlying3 f0
  obtain ⟨nm, e1, rfl, w1⟩ := DataW.trod_string Tryz.underlying9 f1
  obtain ⟨r, e2, rfl, w2⟩ := DataW.trod_int Tryz.underlying3 f2
  obtain ⟨k, e3, rfl, w3⟩ := DataW.trod_int Tryz.underlying3 f3
  simp only [List.cons.injEq, and_true] at e0 e1 e2 e3
  subst e0 e1 e2 e3
  have b0 := bounds_i64 w0
  have b2 := bounds_i64 w2
  have b3 := bounds_i64 w3
  dsimp only at hw
  simp only [List.map_cons, List.map_nil, DataW.weights, Tryz.underlying28, List.toList_toArray, DataW.weightsEach, List.nil_append, List.append_nil, List.cons_append, List.all_cons, Bool.and_eq_true, decide_eq_true_eq] at hw
  obtain ⟨hwn, hw4⟩ := hw
  rw [length_data'] at hwn
  rcases DataW.trod_slice Tryz.underlying26 f4 with ⟨e4, rfl⟩ | ⟨a, len, cap, elems, rest, n2, rfl, e4, rfl, hb, hlc, hm, hlen, hel, hsp, _⟩
  ·simp only [List.cons.injEq, and_true] at e4
   subst e4
   exact ⟨.mk i nm r k [], reads_nd.2 ⟨_, rfl, none, 0, rfl, Nat.le_refl _, Nat.zero_le _, .inl ⟨rfl, fun _ => rfl⟩⟩, ⟨by omega, by omega⟩, hwn, ⟨by omega, by omega⟩, ⟨by omega, by omega⟩, by simp [reach], trivial⟩
  ·simp only [List.cons.injEq, and_true] at e4
   subst e4
   simp only [DataW.weights, Tryz.underlying26, nodeBytes, List.length_map, List.all_cons, List.all_append, Bool.and_eq_true, decide_eq_true_eq] at hw4
   obtain ⟨hwl, hwe, hwr⟩ := hw4
   have hall : ∀ j, j < len → ∃ nd : Nd, ∃ cs', cs'.length = 5 ∧ (∀ t c, cs'[t]? = some c → W.cell? ((a.add (j * 5)).add t) = some c) ∧ Reads W (fun b => b < W.heap.size) nd.dt cs' ∧ nd.ok := by
    intro j hj
    have h1 := hel j hj
    rw [nodeCells] at h1
    rw [List.getElem?_eq_getElem (by omega), Option.bind_eq_some_iff] at h1
    obtain ⟨cs', h2, h3⟩ := h1
    obtain ⟨h4, h5⟩ := cells_of h2
    obtain ⟨nd, h6, h7⟩ := ih n2 (by omega) cs' _ h3 (weights_mem (List.mem_map_of_mem (List.getElem_mem (by omega))) hwe)
    exact ⟨nd, cs', h4, h5, h6, h7⟩
   obtain ⟨l, hll, hl2⟩ := choose_list len hall
   have hoks : Nd.oks l := oks_of fun nd hnd => by
    obtain ⟨j, hj⟩ := List.getElem?_of_mem hnd
    obtain ⟨_, _, _, _, h⟩ := hl2 j nd hj
    exact h
   refine ⟨.mk i nm r k l, reads_nd.2 ⟨_, rfl, some a, cap, by rw [Nd.dts_eq, List.length_map, hll], by rw [Nd.dts_eq, List.length_map, hll]; exact hlc, hm, ?_⟩, ⟨by omega, by omega⟩, hwn, ⟨by omega, by omega⟩, ⟨by omega, by omega⟩, ?_, hoks⟩
   ·by_cases h0 : len = 0
    ·have : l = [] := List.eq_nil_of_length_eq_zero (by omega)
     subst this
     exact .inl ⟨rfl, fun e => by cases e⟩
    ·obtain ⟨nd0, cs0, hc1, hc2, _⟩ := hall 0 (by omega)
     have hcell := hc2 0 (cs0[0]) (List.getElem?_eq_getElem (by omega))
     obtain ⟨b, off, spot⟩ := a
     have hspot : spot = none := by simpa [Addr.add] using World.cell?_spot hcell
     subst hspot
     refine .inr ⟨b, off, rfl, ?_, ?_, ?_⟩
     ·have := lt_of_cell' hcell; simpa [Addr.add] using this
     ·have := lt_of_cell' hcell; simpa [Addr.add] using this
     ·rw [Nd.dts_eq]
      refine readsE_of _ _ fun j d hd => ?_
      rw [List.getElem?_map] at hd
      obtain ⟨nd, h1, rfl⟩ := Option.map_eq_some_iff.1 hd
      obtain ⟨cs', h2, h3, h4, _⟩ := hl2 j nd h1
      exact ⟨cs', h2, fun t c ht => by have := h3 t c ht; rwa [add_none, add_none] at this, h4⟩
   ·have : len ≤ elems.length + rest.length := by omega
    have := Nat.mul_le_mul_right 64 this
    unfold reach
    unfold reachBytes at hwl
    omega
end
end Go.Proofs.YtgcmfpcgmkkobaaGreatDoor
