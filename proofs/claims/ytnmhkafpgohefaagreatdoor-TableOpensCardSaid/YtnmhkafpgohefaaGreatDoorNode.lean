/-
  Plain words about memory, over any program: what a call may have changed ('Chg'), what cells read as ('Reads'), a slice that the call itself builds ('Own'). No condition; nothing of one program stands here.; A node of a schema as plain data, and as it reads in memory.
-/
import Derived.WalkKit
import Derived.WalkSpells
import Derived.WalkLawsBesides
import Derived.Lib.Hide
import Derived.Deep.AppendLies
set_option linter.unusedVariables false
set_option linter.unusedSimpArgs false
namespace Go.Proofs.YtnmhkafpgohefaaGreatDoor
open Go.RowKit
structure Chg (C : Nat → Prop) (w w' : World) : Prop where
 os : w'.os = w.os
 tape : w'.tape = w.tape
 output : w'.output = w.output
 size : w.heap.size ≤ w'.heap.size
 block : ∀ k, k < w.heap.size → ¬ C k → w'.heap[k]? = w.heap[k]?
def NoB : Nat → Prop := fun _ => False
theorem nbE {b : Nat} {p : Prop} (h : NoB b) : p := False.elim h
theorem NoB.elim {b : Nat} {p : Prop} (h : NoB b) : p := False.elim h
def Stop (p : Prop) : Prop := p
theorem stop_here {p : Prop} (h : Stop p) : p := h
theorem Stop.go {p : Prop} (h : p) : Stop p := h
def OneB (b : Nat) : Nat → Prop := fun k => k = b
theorem Chg.refl (C : Nat → Prop) (w : World) : Chg C w w := ⟨rfl, rfl, rfl, Nat.le_refl _, fun _ _ _ => rfl⟩
theorem Chg.trans {C D : Nat → Prop} {a b c : World} (h : Chg C a b) (k : Chg D b c) (hd : ∀ i, D i → C i ∨ a.heap.size ≤ i) : Chg C a c :=
 ⟨k.os.trans h.os, k.tape.trans h.tape, k.output.trans h.output, Nat.le_trans h.size k.size, fun i hi hn =>
  (k.block i (Nat.lt_of_lt_of_le hi h.size) (fun e => by rcases hd i e with x | x; exact hn x; omega)).trans (h.block i hi hn)⟩
theorem Chg.tr {C : Nat → Prop} {a b c : World} (h : Chg C a b) (k : Chg NoB b c) : Chg C a c := h.trans k (fun _ h => h.elim)
theorem Chg.mono {C D : Nat → Prop} {a b : World} (h : Chg C a b) (hd : ∀ i, i < a.heap.size → C i → D i) : Chg D a b :=
 ⟨h.os, h.tape, h.output, h.size, fun i hi hn => h.block i hi (fun e => hn (hd i hi e))⟩
theorem Chg.toBelow {w w' : World} (h : Chg NoB w w') : Below w.heap.size w w' := ⟨h.os, h.tape, h.output, h.size, fun k hk => h.block k hk (fun e => e)⟩
theorem Chg.ofBelow {w w' : World} (h : Below w.heap.size w w') : Chg NoB w w' := ⟨h.os, h.tape, h.output, h.size, fun k hk _ => h.block k hk⟩
theorem Chg.alloc {C : Nat → Prop} {a w : World} (h : Chg C a w) (o : Obj) : Chg C a (w.alloc o) :=
 ⟨h.os, h.tape, h.output, by simpa using Nat.le_succ_of_le h.size, fun k hk hn => (Below.heap_alloc _ _ _ (Nat.lt_of_lt_of_le hk h.size)).trans (h.block k hk hn)⟩
theorem Chg.drew {C : Nat → Prop} {a w : World} (h : Chg C a w) : Chg C a w.drew := ⟨h.os, h.tape, h.output, h.size, h.block⟩
theorem Chg.drewN {C : Nat → Prop} {a w : World} (h : Chg C a w) (n : Nat) : Chg C a (w.drewN n) := ⟨h.os, h.tape, h.output, h.size, h.block⟩
theorem Chg.ofDrew {C : Nat → Prop} {w w' : World} (h : Chg C w.drew w') : Chg C w w' := ⟨h.os, h.tape, h.output, h.size, h.block⟩
theorem Chg.setCell {C : Nat → Prop} {a w : World} (h : Chg C a w) {p : Addr} (hp : C p.block ∨ a.heap.size ≤ p.block) (u : Value) : Chg C a (w.setCell p u) :=
 ⟨h.os, h.tape, h.output, by simpa using h.size, fun k hk hn => (Below.heap_setCell _ _ _ _ (fun e => by subst e; rcases hp with x | x; exact hn x; omega)).trans (h.block k hk hn)⟩
theorem Chg.grown {C : Nat → Prop} {a w w' : World} {row : Option Nat} (h : Chg C a w) (hg : w.grownBy w' row) (hr : ∀ k, row = some k → C k ∨ a.heap.size ≤ k) : Chg C a w' :=
 ⟨hg.os.trans h.os, hg.tape.trans h.tape, hg.output.trans h.output, Nat.le_trans h.size hg.size, fun k hk hn =>
  (hg.block k (Nat.lt_of_lt_of_le hk h.size) (fun e => by rcases hr k e.symm with x | x; exact hn x; omega)).trans (h.block k hk hn)⟩
theorem Chg.at {C : Nat → Prop} {w w' : World} (h : Chg C w w') {k : Nat} {o : Obj} (hk : w.heap[k]? = some o) (hn : ¬ C k) : w'.heap[k]? = some o :=
 (h.block k (lt_of_block hk) hn).trans hk
theorem Chg.cell {C : Nat → Prop} {w w' : World} (h : Chg C w w') {p : Addr} (hp : p.block < w.heap.size) (hn : ¬ C p.block) : w'.cell? p = w.cell? p := World.cell?_of_block (h.block p.block hp hn)
theorem Chg.frozen {C : Nat → Prop} {w w' : World} (h : Chg C w w') {p : Addr} (hp : p.block < w.heap.size) (hn : ¬ C p.block) : w'.frozen? p = w.frozen? p := World.frozen?_of_block (h.block p.block hp hn)
def RowsOf (w : World) (e B b : Nat) : Nat → Prop := fun k => B ≤ k ∧ (k = b ∨ ∃ c fz, w.heap[k]? = some (.cells c e fz))
theorem Chg.rows {e B b : Nat} {a c d : World} (h : Chg (RowsOf a e B b) a c) (k : Chg (RowsOf c e B b) c d) : Chg (RowsOf a e B b) a d :=
 ⟨k.os.trans h.os, k.tape.trans h.tape, k.output.trans h.output, Nat.le_trans h.size k.size, fun i hi hn =>
  (k.block i (Nat.lt_of_lt_of_le hi h.size) (fun ⟨h1, h2⟩ => hn ⟨h1, h2.imp id (fun ⟨x, y, hx⟩ => ⟨x, y, (h.block i hi hn).symm.trans hx⟩)⟩)).trans (h.block i hi hn)⟩
theorem Chg.rows0 {e B b : Nat} {a c d : World} (h : Chg NoB a c) (k : Chg (RowsOf c e B b) c d) : Chg (RowsOf a e B b) a d := (h.mono (fun _ _ x => NoB.elim x)).rows k
def Blk (w : World) (b : Nat) (cs : List Value) (t : TypeId) : Prop := w.heap[b]? = some (.cells cs.toArray t (0, 0))
theorem Blk.lt {w : World} {b : Nat} {cs : List Value} {t : TypeId} (h : Blk w b cs t) : b < w.heap.size := lt_of_block h
theorem Blk.cell {w : World} {b : Nat} {cs : List Value} {t : TypeId} (h : Blk w b cs t) (i : Nat) : w.cell? ⟨b, i, none⟩ = cs[i]? := by
 unfold Blk at h; simp [World.cell?, h]
theorem Blk.free {w : World} {b : Nat} {cs : List Value} {t : TypeId} (h : Blk w b cs t) (i : Nat) : w.frozen? ⟨b, i, none⟩ = false := by
 unfold Blk at h; simp only [World.frozen?, h]; simp
theorem Blk.new (w : World) (cs : List Value) (t : TypeId) : Blk (w.alloc (.cells cs.toArray t)) w.heap.size cs t := heap_alloc_new w _
theorem Blk.newAt {w : World} {b : Nat} {cs : List Value} {t : TypeId} (h : b = w.heap.size) : Blk (w.alloc (.cells cs.toArray t)) b cs t := h ▸ Blk.new w cs t
theorem Blk.alloc {w : World} {b : Nat} {cs : List Value} {t : TypeId} (h : Blk w b cs t) (o : Obj) : Blk (w.alloc o) b cs t := (Below.heap_alloc w o b h.lt).trans h
theorem Blk.drew {w : World} {b : Nat} {cs : List Value} {t : TypeId} (h : Blk w b cs t) : Blk w.drew b cs t := h
theorem Blk.keep {C : Nat → Prop} {w w' : World} {b : Nat} {cs : List Value} {t : TypeId} (h : Blk w b cs t) (hc : Chg C w w') (hn : ¬ C b) : Blk w' b cs t := hc.at h hn
theorem Blk.rows {w w' : World} {e B b k : Nat} {cs : List Value} {t : TypeId} (h : Blk w k cs t) (hc : Chg (RowsOf w e B b) w w') (hk : k ≠ b) (ht : t ≠ e) : Blk w' k cs t :=
 hc.at h (fun ⟨_, h2⟩ => by
  rcases h2 with h2 | ⟨c, fz, h2⟩
  ·exact hk h2
  ·have h3 := h.symm.trans h2
   simp only [Option.some.injEq, Obj.cells.injEq] at h3
   exact ht h3.2.1)
theorem Blk.grown {w w' : World} {row : Option Nat} {b : Nat} {cs : List Value} {t : TypeId} (h : Blk w b cs t) (hg : w.grownBy w' row) (hn : some b ≠ row) : Blk w' b cs t := (hg.block b h.lt hn).trans h
theorem Blk.other {w : World} {b : Nat} {cs : List Value} {t : TypeId} (h : Blk w b cs t) {p : Addr} (hp : b ≠ p.block) (v : Value) : Blk (w.setCell p v) b cs t := (Below.heap_setCell w p v b hp).trans h
theorem Blk.set {w : World} {b : Nat} {cs : List Value} {t : TypeId} (h : Blk w b cs t) (i : Nat) (v : Value) : Blk (w.setCell ⟨b, i, none⟩ v) b (cs.set i v) t := by
 unfold Blk at h ⊢
 simp only [World.setCell, Array.getElem?_modify, if_true, h, Option.map_some]
 simp
theorem Blk.news {w : World} {b : Nat} {cs : List Value} {t : TypeId} (h : Blk w b cs t) : ∀ ad, some (⟨b, 0, none⟩ : Addr) = some ad → ∀ j u, cs[j]? = some u → w.cell? (ad.add j) = some u := by
 intro ad had j u hu
 obtain rfl := Option.some.inj had
 rw [show (⟨b, 0, none⟩ : Addr).add j = ⟨b, j, none⟩ from by unfold Addr.add; split <;> simp_all, h.cell j, hu]
inductive Dt where
 | lit (v : Value)
 | agg (l : List Dt)
 | list (k : Nat) (l : List Dt)
mutual
def Reads (w : World) (S : Nat → Prop) : Dt → List Value → Prop
 | .lit v, cs => cs = [v] ∧ v.oneCell' = true
 | .agg l, cs => ReadsF w S l cs
 | .list k l, cs => ∃ a cap, cs = [.slice a l.length cap] ∧ l.length ≤ cap ∧ cap ≤ maxLen ∧ ((l = [] ∧ (a = none → cap = 0)) ∨ ∃ b off, a = some ⟨b, off, none⟩ ∧ S b ∧ b < w.heap.size ∧ ReadsE w S k b off l)
def ReadsF (w : World) (S : Nat → Prop) : List Dt → List Value → Prop
 | [], cs => cs = []
 | d :: ds, cs => ∃ c r, cs = c ++ r ∧ Reads w S d c ∧ ReadsF w S ds r
def ReadsE (w : World) (S : Nat → Prop) (k b : Nat) : Nat → List Dt → Prop
 | _, [] => True
 | off, d :: ds => (∃ cs, cs.length = k ∧ (∀ j c, cs[j]? = some c → w.cell? ⟨b, off + j, none⟩ = some c) ∧ Reads w S d cs) ∧ ReadsE w S k b (off + k) ds
end
mutual
theorem Reads.keep {w w' : World} {S S' : Nat → Prop} (hS : ∀ b, S b → S' b) (hz : w.heap.size ≤ w'.heap.size) (hb : ∀ b, b < w.heap.size → S b → w'.heap[b]? = w.heap[b]?) : ∀ (d : Dt) (cs : List Value), Reads w S d cs → Reads w' S' d cs
 | .lit v, cs, h => h
 | .agg l, cs, h => ReadsF.keep hS hz hb l cs h
 | .list k l, cs, h => by
  obtain ⟨a, cap, h1, h2, h3, h4⟩ := h
  refine ⟨a, cap, h1, h2, h3, ?_⟩
  rcases h4 with h4 | ⟨b, off, h5, h6, hlt, h7⟩
  ·exact .inl h4
  ·exact .inr ⟨b, off, h5, hS b h6, Nat.lt_of_lt_of_le hlt hz, ReadsE.keep hS hz hb (hb b hlt h6) off l h7⟩
theorem ReadsF.keep {w w' : World} {S S' : Nat → Prop} (hS : ∀ b, S b → S' b) (hz : w.heap.size ≤ w'.heap.size) (hb : ∀ b, b < w.heap.size → S b → w'.heap[b]? = w.heap[b]?) : ∀ (l : List Dt) (cs : List Value), ReadsF w S l cs → ReadsF w' S' l cs
 | [], cs, h => h
 | d :: ds, cs, h => by
  obtain ⟨c, r, h1, h2, h3⟩ := h
  exact ⟨c, r, h1, Reads.keep hS hz hb d c h2, ReadsF.keep hS hz hb ds r h3⟩
theorem ReadsE.keep {w w' : World} {S S' : Nat → Prop} (hS : ∀ b, S b → S' b) (hz : w.heap.size ≤ w'.heap.size) (hb : ∀ b, b < w.heap.size → S b → w'.heap[b]? = w.heap[b]?) {k b : Nat} (hk : w'.heap[b]? = w.heap[b]?) : ∀ (off : Nat) (l : List Dt), ReadsE w S k b off l → ReadsE w' S' k b off l
 | _, [], _ => True.intro
 | off, d :: ds, h => by
  obtain ⟨⟨cs, h1, h2, h3⟩, h4⟩ := h
  exact ⟨⟨cs, h1, fun j c hj => (World.cell?_of_block (a := ⟨b, off + j, none⟩) hk).trans (h2 j c hj), Reads.keep hS hz hb d cs h3⟩, ReadsE.keep hS hz hb hk (off + k) ds h4⟩
end
theorem Reads.chg {C S : Nat → Prop} {w w' : World} {d : Dt} {cs : List Value} (h : Reads w S d cs) (hc : Chg C w w') (hn : ∀ b, S b → ¬ C b) : Reads w' S d cs :=
 Reads.keep (fun _ x => x) hc.size (fun b hlt hb => hc.block b hlt (hn b hb)) d cs h
theorem Reads.chg0 {S : Nat → Prop} {w w' : World} {d : Dt} {cs : List Value} (h : Reads w S d cs) (hc : Chg NoB w w') : Reads w' S d cs := h.chg hc (fun _ _ e => e)
theorem Reads.mono {S S' : Nat → Prop} {w : World} {d : Dt} {cs : List Value} (h : Reads w S d cs) (hS : ∀ b, S b → S' b) : Reads w S' d cs :=
 Reads.keep hS (Nat.le_refl _) (fun _ _ _ => rfl) d cs h
mutual
theorem Reads.lt {w : World} {S : Nat → Prop} : ∀ (d : Dt) (cs : List Value), Reads w S d cs → Reads w (fun b => S b ∧ b < w.heap.size) d cs
 | .lit v, cs, h => h
 | .agg l, cs, h => ReadsF.lt l cs h
 | .list k l, cs, h => by
  obtain ⟨a, cap, h1, h2, h3, h4⟩ := h
  refine ⟨a, cap, h1, h2, h3, ?_⟩
  rcases h4 with h4 | ⟨b, off, h5, h6, hlt, h7⟩
  ·exact .inl h4
  ·exact .inr ⟨b, off, h5, ⟨h6, hlt⟩, hlt, ReadsE.lt off l h7⟩
theorem ReadsF.lt {w : World} {S : Nat → Prop} : ∀ (l : List Dt) (cs : List Value), ReadsF w S l cs → ReadsF w (fun b => S b ∧ b < w.heap.size) l cs
 | [], cs, h => h
 | d :: ds, cs, h => by
  obtain ⟨c, r, h1, h2, h3⟩ := h
  exact ⟨c, r, h1, Reads.lt d c h2, ReadsF.lt ds r h3⟩
theorem ReadsE.lt {w : World} {S : Nat → Prop} {k b : Nat} : ∀ (off : Nat) (l : List Dt), ReadsE w S k b off l → ReadsE w (fun b => S b ∧ b < w.heap.size) k b off l
 | _, [], _ => True.intro
 | off, d :: ds, h => by
  obtain ⟨⟨cs, h1, h2, h3⟩, h4⟩ := h
  exact ⟨⟨cs, h1, h2, Reads.lt d cs h3⟩, ReadsE.lt (off + k) ds h4⟩
end
mutual
theorem Reads.one {w : World} {S : Nat → Prop} : ∀ (d : Dt) (cs : List Value), Reads w S d cs → ∀ u ∈ cs, u.oneCell' = true
 | .lit v, cs, h, u, hu => by
  obtain ⟨rfl, h⟩ := h
  simp only [List.mem_cons, List.not_mem_nil, or_false] at hu
  exact hu ▸ h
 | .agg l, cs, h, u, hu => ReadsF.one l cs h u hu
 | .list k l, cs, h, u, hu => by
  obtain ⟨a, cap, rfl, _⟩ := h
  simp only [List.mem_cons, List.not_mem_nil, or_false] at hu
  subst hu
  rfl
theorem ReadsF.one {w : World} {S : Nat → Prop} : ∀ (l : List Dt) (cs : List Value), ReadsF w S l cs → ∀ u ∈ cs, u.oneCell' = true
 | [], cs, h, u, hu => by
  have h : cs = [] := h
  subst h
  cases hu
 | d :: ds, cs, h, u, hu => by
  obtain ⟨c, r, rfl, h2, h3⟩ := h
  rcases List.mem_append.1 hu with hu | hu
  ·exact Reads.one d c h2 u hu
  ·exact ReadsF.one ds r h3 u hu
end
theorem ReadsE.get {w : World} {S : Nat → Prop} {k b : Nat} : ∀ {off : Nat} {l : List Dt}, ReadsE w S k b off l → ∀ (i : Nat) (d : Dt), l[i]? = some d →
  ∃ cs, cs.length = k ∧ (∀ j c, cs[j]? = some c → w.cell? ⟨b, off + i * k + j, none⟩ = some c) ∧ Reads w S d cs
 | _, [], _, i, d, hi => by simp at hi
 | off, x :: ds, h, 0, d, hi => by
  obtain ⟨⟨cs, h1, h2, h3⟩, _⟩ := h
  simp only [List.getElem?_cons_zero, Option.some.injEq] at hi
  subst hi
  exact ⟨cs, h1, fun j c hj => by simpa using h2 j c hj, h3⟩
 | off, x :: ds, h, i + 1, d, hi => by
  obtain ⟨cs, h1, h2, h3⟩ := ReadsE.get h.2 i d (by simpa using hi)
  exact ⟨cs, h1, fun j c hj => by rw [← h2 j c hj]; congr 2; rw [Nat.succ_mul]; omega, h3⟩
def ReadsC (w : World) (S : Nat → Prop) (k : Nat) : List Dt → List Value → Prop
 | [], xs => xs = []
 | d :: ds, xs => ∃ c r, xs = c ++ r ∧ c.length = k ∧ Reads w S d c ∧ ReadsC w S k ds r
theorem ReadsC.keep {w w' : World} {S S' : Nat → Prop} (hS : ∀ b, S b → S' b) (hz : w.heap.size ≤ w'.heap.size) (hb : ∀ b, b < w.heap.size → S b → w'.heap[b]? = w.heap[b]?) {k : Nat} : ∀ (l : List Dt) (xs : List Value), ReadsC w S k l xs → ReadsC w' S' k l xs
 | [], xs, h => h
 | d :: ds, xs, h => by
  obtain ⟨c, r, h1, h2, h3, h4⟩ := h
  exact ⟨c, r, h1, h2, Reads.keep hS hz hb d c h3, ReadsC.keep hS hz hb ds r h4⟩
theorem ReadsC.lt {w : World} {S : Nat → Prop} {k : Nat} : ∀ (l : List Dt) (xs : List Value), ReadsC w S k l xs → ReadsC w (fun b => S b ∧ b < w.heap.size) k l xs
 | [], xs, h => h
 | d :: ds, xs, h => by
  obtain ⟨c, r, h1, h2, h3, h4⟩ := h
  exact ⟨c, r, h1, h2, Reads.lt d c h3, ReadsC.lt ds r h4⟩
theorem ReadsC.append {w : World} {S : Nat → Prop} {k : Nat} : ∀ (l m : List Dt) (xs ys : List Value), ReadsC w S k l xs → ReadsC w S k m ys → ReadsC w S k (l ++ m) (xs ++ ys)
 | [], m, xs, ys, h, hm => by
  have h : xs = [] := h
  subst h
  exact hm
 | x :: ds, m, xs, ys, h, hm => by
  obtain ⟨c1, r, rfl, h2, h3, h4⟩ := h
  exact ⟨c1, r ++ ys, by simp, h2, h3, ReadsC.append ds m r ys h4 hm⟩
theorem ReadsC.length {w : World} {S : Nat → Prop} {k : Nat} : ∀ {l : List Dt} {xs : List Value}, ReadsC w S k l xs → xs.length = l.length * k
 | [], xs, h => by
  have h : xs = [] := h
  simp [h]
 | x :: ds, xs, h => by
  obtain ⟨c1, r, rfl, h2, h3, h4⟩ := h
  have := ReadsC.length h4
  simp [h2, this, Nat.succ_mul, Nat.add_comm]
theorem ReadsC.one {w : World} {S : Nat → Prop} {k : Nat} : ∀ (l : List Dt) (xs : List Value), ReadsC w S k l xs → ∀ u ∈ xs, u.oneCell' = true
 | [], xs, h, u, hu => by
  have h : xs = [] := h
  subst h
  cases hu
 | d :: ds, xs, h, u, hu => by
  obtain ⟨c, r, rfl, _, h3, h4⟩ := h
  rcases List.mem_append.1 hu with hu | hu
  ·exact Reads.one d c h3 u hu
  ·exact ReadsC.one ds r h4 u hu
theorem ReadsC.single {w : World} {S : Nat → Prop} {k : Nat} {d : Dt} {c : List Value} (hc : c.length = k) (hd : Reads w S d c) : ReadsC w S k [d] c := ⟨c, [], by simp, hc, hd, rfl⟩
theorem ReadsC.toE {w : World} {S : Nat → Prop} {k b : Nat} : ∀ (l : List Dt) (xs : List Value) (off : Nat), ReadsC w S k l xs → (∀ j c, xs[j]? = some c → w.cell? ⟨b, off + j, none⟩ = some c) → ReadsE w S k b off l
 | [], _, _, _, _ => True.intro
 | d :: ds, xs, off, h, hc => by
  obtain ⟨c, r, rfl, h2, h3, h4⟩ := h
  refine ⟨⟨c, h2, fun j x hj => hc j x ?_, h3⟩, ReadsC.toE ds r (off + k) h4 fun j x hj => ?_⟩
  ·rw [List.getElem?_append_left (List.getElem?_eq_some_iff.1 hj).1]; exact hj
  ·have := hc (k + j) x (by rw [List.getElem?_append_right (by omega), h2]; simpa using hj)
   rw [← Nat.add_assoc] at this
   exact this
def OwnS (S : Nat → Prop) (w : World) (v : Value) : Nat → Prop := fun b => S b ∧ b < w.heap.size ∧ v.ownBlock ≠ some b
def Own (w : World) (B e k : Nat) (S : Nat → Prop) (v : Value) (ds : List Dt) : Prop := ∃ xs, w.ownsRow B e k v ds.length xs ∧ ReadsC w (OwnS S w v) k ds xs
theorem Own.nil (w : World) (B e k : Nat) (S : Nat → Prop) : Own w B e k S (.slice none 0 0) [] := ⟨[], World.ownsRow_nil _ _ _ _, rfl⟩
theorem Own.form {w : World} {B e k : Nat} {S : Nat → Prop} {v : Value} {ds : List Dt} (h : Own w B e k S v ds) : ∃ a c, v = .slice a ds.length c := by
 obtain ⟨xs, h1, _⟩ := h
 rcases h1.2 with ⟨rfl, h0⟩ | ⟨g, cap, cur, rfl, _⟩
 ·exact ⟨none, 0, by rw [h0]⟩
 ·exact ⟨_, _, rfl⟩
theorem Own.block {w : World} {B e k : Nat} {S : Nat → Prop} {v : Value} {ds : List Dt} (h : Own w B e k S v ds) : ∀ b, v.ownBlock = some b → B ≤ b ∧ b < w.heap.size := by
 obtain ⟨xs, h1, _⟩ := h
 exact h1.lt
theorem Own.keep {C : Nat → Prop} {w w' : World} {B e k : Nat} {S : Nat → Prop} {v : Value} {ds : List Dt} (h : Own w B e k S v ds) (hc : Chg C w w') (hn : ∀ b, S b → ¬ C b) (ho : ∀ b, v.ownBlock = some b → ¬ C b) : Own w' B e k S v ds := by
 obtain ⟨xs, h1, h2⟩ := h
 refine ⟨xs, ⟨h1.1, ?_⟩, ReadsC.keep (fun b hb => ⟨hb.1, Nat.lt_of_lt_of_le hb.2.1 hc.size, hb.2.2⟩) hc.size (fun b hlt hb => hc.block b hlt (hn b hb.1)) ds xs h2⟩
 rcases h1.2 with h0 | ⟨g, cap, cur, rfl, hb, hg, r⟩
 ·exact .inl h0
 ·exact .inr ⟨g, cap, cur, rfl, hb, hc.at hg (ho g rfl), r⟩
theorem Own.setCell {w : World} {B e k : Nat} {S : Nat → Prop} {v : Value} {ds : List Dt} (h : Own w B e k S v ds) {p : Addr} (hS : ∀ b, S b → b ≠ p.block) (hB : p.block < B) (u : Value) : Own (w.setCell p u) B e k S v ds :=
 h.keep ((Chg.refl (OneB p.block) w).setCell (.inl rfl) u) (fun b hb e => hS b hb e) (fun b hb e => by have := (h.block b hb).1; have e : b = p.block := e; omega)
theorem Own.mono {w : World} {B B' e k : Nat} {S S' : Nat → Prop} {v : Value} {ds : List Dt} (h : Own w B e k S v ds) (hB : B' ≤ B) (hS : ∀ b, S b → S' b) : Own w B' e k S' v ds := by
 obtain ⟨xs, h1, h2⟩ := h
 refine ⟨xs, ⟨h1.1, ?_⟩, ReadsC.keep (fun b hb => ⟨hS b hb.1, hb.2.1, hb.2.2⟩) (Nat.le_refl _) (fun _ _ _ => rfl) ds xs h2⟩
 rcases h1.2 with h0 | ⟨g, cap, cur, rfl, hb, r⟩
 ·exact .inl h0
 ·exact .inr ⟨g, cap, cur, rfl, Nat.le_trans hB hb, r⟩
theorem Own.more {w w' : World} {B e k : Nat} {S : Nat → Prop} {v v' : Value} {ds ds2 : List Dt} {xs c : List Value} (hr : ReadsC w (OwnS S w v) k ds xs)
  (hd : ReadsC w (fun b => S b ∧ v.ownBlock ≠ some b) k ds2 c) (h' : w'.ownsRow B e k v' (ds.length + ds2.length) (xs ++ c)) (hg : w.grownBy w' v.ownBlock)
  (hv : v'.ownBlock = v.ownBlock ∨ v'.ownBlock = some w.heap.size) : Own w' B e k S v' (ds ++ ds2) := by
 have keepS : ∀ b, OwnS S w v b → OwnS S w' v' b := fun b hb => ⟨hb.1, Nat.lt_of_lt_of_le hb.2.1 hg.size, fun hx => by
  rcases hv with y | y
  ·exact hb.2.2 (y.symm.trans hx)
  ·have := hb.2.1
   rw [y] at hx
   have := Option.some.inj hx
   omega⟩
 have keepH : ∀ b, b < w.heap.size → OwnS S w v b → w'.heap[b]? = w.heap[b]? := fun b hlt hb => hg.block b hlt (fun e => hb.2.2 e.symm)
 exact ⟨xs ++ c, by simpa using h', ReadsC.append ds ds2 xs c (ReadsC.keep keepS hg.size keepH ds xs hr)
  (ReadsC.keep keepS hg.size keepH ds2 c (ReadsC.keep (fun b hb => ⟨hb.1.1, hb.2, hb.1.2⟩) (Nat.le_refl _) (fun _ _ _ => rfl) ds2 c (ReadsC.lt ds2 c hd)))⟩
theorem Own.reads {w : World} {B e k : Nat} {S S' : Nat → Prop} {v : Value} {ds : List Dt} (h : Own w B e k S v ds) (hS : ∀ b, S b → S' b) (hB : ∀ b, B ≤ b → b < w.heap.size → S' b) (hm : ds.length ≤ maxLen) : Reads w S' (.list k ds) [v] := by
 obtain ⟨xs, h1, h2⟩ := h
 have hlt := h1.lt
 rcases h1.2 with ⟨rfl, h0⟩ | ⟨g, cap, cur, rfl, hb, hg, hn, hc, hsz, htk⟩
 ·have : ds = [] := List.eq_nil_of_length_eq_zero h0
  subst this
  exact ⟨none, 0, rfl, Nat.le_refl _, Nat.zero_le _, .inl ⟨rfl, fun _ => rfl⟩⟩
 ·refine ⟨_, cap, rfl, hn, hc, .inr ⟨g, 0, rfl, hB g hb (hlt g rfl).2, (hlt g rfl).2, ?_⟩⟩
  have h3 := ReadsC.keep (S' := S') (fun b hb => hS b hb.1) (Nat.le_refl _) (fun _ _ _ => rfl) ds xs h2
  refine ReadsC.toE ds xs 0 h3 fun j c hj => ?_
  have := h1.cells (g := g) rfl j c hj
  rwa [show (⟨g, 0, none⟩ : Addr).add j = ⟨g, 0 + j, none⟩ from by unfold Addr.add; split <;> simp_all] at this
section
variable {P : Program} {w : World} {o : Oper} {a : Act} {Q : Exit → Act → World → Prop}
theorem wp_own {K : Act → World → Prop} (s x : Operand) (t : TypeId) (ho : o.op = .call { callee := .builtin .append, args := #[s, x], argTypes := #[t, t] })
  (B e : Nat) {k bytes : Nat} {z : Value} (ht : P.underlying t = some (.slice e)) (hinfo : (P.info? e).map (fun i => (i.zero, i.size, i.bytes)) = some (some z, k, bytes)) (hzs : z.cells.size = k) (hk : 0 < k)
  {S : Nat → Prop} {v : Value} {ds : List Dt} (hs : a.eval s = v) (hown : Own w B e k S v ds)
  {ao : Option Addr} {m c : Nat} (hx : a.eval x = .slice ao m c) (ds2 : List Dt) (news : List Value) (hm : ds2.length = m) (hnews : ReadsC w (fun b => S b ∧ v.ownBlock ≠ some b) k ds2 news)
  (hc : ∀ ad, ao = some ad → ∀ j u, news[j]? = some u → w.cell? (ad.add j) = some u) (hnone : ao = none → m = 0 ∧ c = 0)
  (h63 : ds.length + m ≤ maxLen) (hbytes : (ds.length + m) * bytes ≤ 140737488355328) (hB : B ≤ w.heap.size)
  (h : ∀ ao' cap w', Own w' B e k S (.slice ao' (ds.length + m) cap) (ds ++ ds2) → Chg (fun b => v.ownBlock = some b) w w' →
   ((Value.slice ao' (ds.length + m) cap).ownBlock = v.ownBlock ∨ (Value.slice ao' (ds.length + m) cap).ownBlock = some w.heap.size) → K (a.put o.dst (.slice ao' (ds.length + m) cap)) w') : o.wp P a w K Q := by
 subst hm
 obtain ⟨i, hi, hz, hsz, hby⟩ := info_parts hinfo
 obtain ⟨xs, h1, h2⟩ := hown
 have key : ∃ v' w', (Builtin.append_ #[t, t] o.type #[v, .slice ao ds2.length c]).run P w = .ok v' w' ∧ w'.ownsRow B e k v' (ds.length + ds2.length) (xs ++ news) ∧ w.grownBy w' v.ownBlock ∧ (v'.ownBlock = v.ownBlock ∨ v'.ownBlock = some w.heap.size) := by
  cases ao with
  | some ad =>
   obtain ⟨v', w', r1, r2, r3, _, r5⟩ := run_append_own_at (P := P) w B t o.type e i z k bytes ht hi hz hsz hby hzs hk v ds.length xs h1 ad ds2.length c news hnews.length (hc ad rfl) (ReadsC.one ds2 news hnews) h63 hbytes hB
   exact ⟨v', w', r1, r2, r3, r5⟩
  | none =>
   obtain ⟨hm0, rfl⟩ := hnone rfl
   have hd : ds2 = [] := List.eq_nil_of_length_eq_zero hm0
   subst hd
   have hn : news = [] := hnews
   subst hn
   exact ⟨v, w, run_append_owned_none (P := P) w B t o.type e i k ht hi v ds.length xs h1, by simpa using h1, World.grownBy.refl _ _, .inl rfl⟩
 obtain ⟨v', w', hr, g1, g2, g3⟩ := key
 have hO := Own.more h2 hnews g1 g2 g3
 obtain ⟨ao', cap, rfl⟩ := hO.form
 rw [List.length_append] at hO g3 hr
 unfold Oper.wp execOp
 simp only [ho, resolve, invoke, builtin, Sem.run_bind, Sem.run_pure, Result.andThen_ok, List.map_toArray, List.map_cons, List.map_nil, hs, hx, hr]
 exact h ao' cap w' hO ((Chg.refl _ w).grown g2 (fun j hj => .inl hj)) g3
theorem wpList_own {ops : Array Oper} {rest : List Oper} (hgd : o.guard = none) (s x : Operand) (t : TypeId) (ho : o.op = .call { callee := .builtin .append, args := #[s, x], argTypes := #[t, t] })
  (B e : Nat) {k bytes : Nat} {z : Value} (ht : P.underlying t = some (.slice e)) (hinfo : (P.info? e).map (fun i => (i.zero, i.size, i.bytes)) = some (some z, k, bytes)) (hzs : z.cells.size = k) (hk : 0 < k)
  {S : Nat → Prop} {v : Value} {ds : List Dt} (hs : a.eval s = v) (hown : Own w B e k S v ds)
  {ao : Option Addr} {m c : Nat} (hx : a.eval x = .slice ao m c) (ds2 : List Dt) (news : List Value) (hm : ds2.length = m) (hnews : ReadsC w (fun b => S b ∧ v.ownBlock ≠ some b) k ds2 news)
  (hc : ∀ ad, ao = some ad → ∀ j u, news[j]? = some u → w.cell? (ad.add j) = some u) (hnone : ao = none → m = 0 ∧ c = 0)
  (h63 : ds.length + m ≤ maxLen) (hbytes : (ds.length + m) * bytes ≤ 140737488355328) (hB : B ≤ w.heap.size)
  (h : ∀ ao' cap w', Own w' B e k S (.slice ao' (ds.length + m) cap) (ds ++ ds2) → Chg (fun b => v.ownBlock = some b) w w' →
   ((Value.slice ao' (ds.length + m) cap).ownBlock = v.ownBlock ∨ (Value.slice ao' (ds.length + m) cap).ownBlock = some w.heap.size) → wpList P ops Q rest (a.put o.dst (.slice ao' (ds.length + m) cap)) w') : wpList P ops Q (o :: rest) a w :=
 wpList_plain hgd fun _ hK => wp_own s x t ho B e ht hinfo hzs hk hs hown hx ds2 news hm hnews hc hnone h63 hbytes hB fun ao' cap w' h1 h2 h3 => hK _ _ (h ao' cap w' h1 h2 h3)
end
inductive Nd where
 | mk (id : Int) (name : ByteArray) (rep kind : Int) (sub : List Nd)
def Nd.id : Nd → Int | .mk i _ _ _ _ => i
def Nd.name : Nd → ByteArray | .mk _ n _ _ _ => n
def Nd.rep : Nd → Int | .mk _ _ r _ _ => r
def Nd.kind : Nd → Int | .mk _ _ _ k _ => k
def Nd.sub : Nd → List Nd | .mk _ _ _ _ s => s
mutual
def Nd.dt : Nd → Dt
 | .mk i n r k s => .agg [.lit (.int .i64 i), .lit (.string n), .lit (.int .i64 r), .lit (.int .i64 k), .list 5 (Nd.dts s)]
def Nd.dts : List Nd → List Dt
 | [] => []
 | n :: ns => n.dt :: Nd.dts ns
end
theorem Nd.dts_eq : ∀ l : List Nd, Nd.dts l = l.map Nd.dt
 | [] => rfl
 | n :: ns => by simp [Nd.dts, Nd.dts_eq ns]
def I64 (n : Int) : Prop := -9223372036854775808 ≤ n ∧ n ≤ 9223372036854775807
def reach : Nat := 140737488351232
mutual
def Nd.ok : Nd → Prop
 | .mk i n r k s => I64 i ∧ n.size ≤ reach ∧ I64 r ∧ I64 k ∧ s.length * 64 ≤ reach ∧ Nd.oks s
def Nd.oks : List Nd → Prop
 | [] => True
 | n :: ns => n.ok ∧ Nd.oks ns
end
theorem Nd.oks_mem : ∀ {l : List Nd}, Nd.oks l → ∀ n ∈ l, n.ok
 | [], _, n, h => by cases h
 | x :: xs, h, n, hn => by
  rcases List.mem_cons.1 hn with rfl | hn
  ·exact h.1
  ·exact Nd.oks_mem h.2 n hn
mutual
def Nd.weigh : Nd → Nat
 | .mk _ _ _ _ s => 1 + Nd.weighs s
def Nd.weighs : List Nd → Nat
 | [] => 0
 | n :: ns => n.weigh + Nd.weighs ns
end
theorem Nd.weigh_mem : ∀ {l : List Nd} {n : Nd}, n ∈ l → n.weigh ≤ Nd.weighs l
 | [], n, h => by cases h
 | x :: xs, n, h => by
  rcases List.mem_cons.1 h with rfl | h
  ·simp [Nd.weighs]
  ·have := Nd.weigh_mem h
   simp [Nd.weighs]; omega
def ndCells (i : Int) (n : ByteArray) (r k : Int) (s : Value) : List Value := [.int .i64 i, .string n, .int .i64 r, .int .i64 k, s]
theorem reads_nd {w : World} {S : Nat → Prop} {i : Int} {n : ByteArray} {r k : Int} {s : List Nd} {cs : List Value} :
  Reads w S (Nd.dt (.mk i n r k s)) cs ↔ ∃ v, cs = [.int .i64 i, .string n, .int .i64 r, .int .i64 k, v] ∧ Reads w S (.list 5 (Nd.dts s)) [v] := by
 simp only [Nd.dt, Reads, ReadsF]
 constructor
 ·rintro ⟨c0, r0, rfl, ⟨rfl, _⟩, c1, r1, rfl, ⟨rfl, _⟩, c2, r2, rfl, ⟨rfl, _⟩, c3, r3, rfl, ⟨rfl, _⟩, c4, r4, rfl, ⟨a, cap, rfl, h⟩, rfl⟩
  exact ⟨_, rfl, a, cap, rfl, h⟩
 ·rintro ⟨v, rfl, a, cap, h0, h⟩
  exact ⟨[_], _, rfl, ⟨rfl, rfl⟩, [_], _, rfl, ⟨rfl, rfl⟩, [_], _, rfl, ⟨rfl, rfl⟩, [_], _, rfl, ⟨rfl, rfl⟩, [v], [], rfl, ⟨a, cap, h0, h⟩, rfl⟩
theorem reads_list {w : World} {S : Nat → Prop} {k : Nat} {l : List Dt} {v : Value} (h : Reads w S (.list k l) [v]) :
  ∃ a cap, v = .slice a l.length cap ∧ l.length ≤ cap ∧ cap ≤ maxLen ∧ (l.length ≠ 0 → ∃ b off, a = some ⟨b, off, none⟩ ∧ S b ∧ b < w.heap.size ∧ ReadsE w S k b off l) := by
 obtain ⟨a, cap, h0, h1, h2, h3⟩ := h
 refine ⟨a, cap, by simpa using h0, h1, h2, fun hne => ?_⟩
 rcases h3 with ⟨rfl, _⟩ | h3
 ·exact absurd rfl hne
 ·exact h3
theorem reads_subs {w : World} {S : Nat → Prop} {s : List Nd} {v : Value} (h : Reads w S (.list 5 (Nd.dts s)) [v]) :
  ∃ a cap, v = .slice a s.length cap ∧ s.length ≤ cap ∧ cap ≤ maxLen ∧ (s.length ≠ 0 → ∃ b off, a = some ⟨b, off, none⟩ ∧ S b ∧ b < w.heap.size ∧ ReadsE w S 5 b off (s.map Nd.dt)) := by
 obtain ⟨a, cap, h1, h2, h3, h4⟩ := reads_list h
 simp only [Nd.dts_eq, List.length_map] at h1 h2 h4
 exact ⟨a, cap, h1, h2, h3, h4⟩
end Go.Proofs.YtnmhkafpgohefaaGreatDoor
