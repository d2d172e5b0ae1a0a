/-
 append of one node to a list that lies in a row of its own.
-/
import Derived.Test.YtgcmfpcgmkkobaaGreatDoorTree
import Derived.Maps.AppendAt
set_option linter.unusedVariables false
set_option linter.unusedSimpArgs false
namespace Go.Proofs.YtgcmfpcgmkkobaaGreatDoor
open Go.RowKit

theorem TrN.cells1 {w : World} {B : Nat} {n : Nd} {cs : List Value} {F : List Nat} (h : TrN w B n cs F) : ∀ u ∈ cs, u.oneCell' = true :=
 Reads.one n.dt cs (TrN.reads (S := fun _ => True) n cs F h (fun _ _ => trivial))
theorem TrC.cells1 {w : World} {B : Nat} : ∀ {l : List Nd} {xs : List Value} {F : List Nat}, TrC w B l xs F → xs.length = l.length * 5 → ∀ u ∈ xs, u.oneCell' = true
 | [], xs, F, _, hl => by
  obtain rfl := List.eq_nil_of_length_eq_zero hl
  exact fun u hu => (List.not_mem_nil hu).elim
 | n :: ns, xs, F, h, hl => by
  obtain ⟨c, r, F1, F2, rfl, h2, h3, rfl⟩ := trC_cons.1 h
  rw [List.length_append, h2.five, List.length_cons] at hl
  intro u hu
  rcases List.mem_append.1 hu with hu | hu
  ·exact h2.cells1 u hu
  ·exact TrC.cells1 h3 (by omega) u hu
/-- The row of a list, as the law on append has it. -/
theorem TrL.owns {w : World} {B : Nat} {l : List Nd} {v : Value} {F : List Nat} (h : TrL w B l v F) : ∃ xs G, w.ownsRow B 28 5 v l.length xs ∧ xs.length = l.length * 5 ∧ TrC w B l xs G ∧ (F = G ∧ v = .slice none 0 0 ∨ ∃ b, v.ownBlock = some b ∧ F = b :: G) := by
 rcases h with ⟨rfl, rfl, rfl⟩ | ⟨b, cap, cur, F', rfl, e2, e3, e4, e5, e6, e7, rfl⟩
 ·exact ⟨[], [], World.ownsRow_nil _ _ _ _, rfl, trC_nil.2 rfl, .inl ⟨rfl, rfl⟩⟩
 ·obtain ⟨x1, x2, rfl, h2, h3⟩ := e7.junk
  refine ⟨x1, F', ⟨h2, .inr ⟨b, cap, (x1 ++ x2).toArray, rfl, e4, e5, e2, e3, by simpa using e6, ?_⟩⟩, h2, h3, .inr ⟨b, rfl, rfl⟩⟩
  rw [List.toList_toArray, ← h2, List.take_left]
/-- .. and back: one node more. -/
theorem TrL.ofOwns {w : World} {B : Nat} {l : List Nd} {v : Value} {xs : List Value} {G : List Nat} (h : w.ownsRow B 28 5 v l.length xs) (hl : 0 < l.length) (hx : xs.length = l.length * 5) (hc : TrC w B l xs G) : ∃ g, v.ownBlock = some g ∧ TrL w B l v (g :: G) := by
 rcases h.2 with ⟨_, h0⟩ | ⟨g, cap, cur, rfl, hg, hh, hn, hcm, hcs, htk⟩
 ·omega
 ·refine ⟨g, rfl, .inr ⟨g, cap, cur.toList, G, rfl, hn, hcm, hg, ?_, by simpa using hcs, ?_, rfl⟩⟩
  ·unfold Blk; rw [hh]
  ·have := hc.more (cur.toList.drop (l.length * 5))
   rw [← htk, List.take_append_drop] at this
   exact this
section
variable {P : Program}
theorem TrL.push {w : World} {B : Nat} {l : List Nd} {v : Value} {F : List Nat} (h : TrL w B l v F) (hn : F.Nodup) {nd : Nd} {cs : List Value} {Fx : List Nat} (hx : TrN w B nd cs Fx) (hxn : Fx.Nodup) (hd : ∀ y ∈ Fx, y ∉ F)
  (t ty : TypeId) {z : Value} {bytes : Nat} (ht : P.underlying t = some (.slice 28)) (hinfo : (P.info? 28).map (fun i => (i.zero, i.size, i.bytes)) = some (some z, 5, bytes)) (hzs : z.cells.size = 5)
  {xb c : Nat} {T : TypeId} (hb : Blk w xb cs T) (h63 : l.length + 1 ≤ maxLen) (hbytes : (l.length + 1) * bytes ≤ 140737488355328) (hB : B ≤ w.heap.size) :
  ∃ ao cap w' F', (Builtin.append_ #[t, t] ty #[v, .slice (some ⟨xb, 0, none⟩) 1 c]).run P w = .ok (.slice ao (l.length + 1) cap) w' ∧ TrL w' B (l ++ [nd]) (.slice ao (l.length + 1) cap) F' ∧ F'.Nodup ∧ (∀ y ∈ F', y ∈ F ∨ y ∈ Fx ∨ y = w.heap.size) ∧
   Chg (fun b => v.ownBlock = some b) w w' ∧ ((Value.slice ao (l.length + 1) cap).ownBlock = v.ownBlock ∨ (Value.slice ao (l.length + 1) cap).ownBlock = some w.heap.size) := by
 obtain ⟨i, hi, hz, hsz, hby⟩ := info_parts hinfo
 obtain ⟨xs, G, h1, h2, h3, h4⟩ := h.owns
 obtain ⟨v', w', r1, r2, r3, _, r5⟩ := run_append_own_at (P := P) w B t ty 28 i z 5 bytes ht hi hz hsz hby hzs (by decide) v l.length xs h1 ⟨xb, 0, none⟩ 1 c cs (by rw [hx.five]) (fun j u hj => by rw [Addr.add_lit, Nat.zero_add, hb.cell]; exact hj) hx.cells1 h63 hbytes hB
 have hlt := h.lt
 have hltx := TrN.lt nd cs Fx hx
 have hGF : ∀ y ∈ G, y ∈ F := fun y hy => by
  rcases h4 with ⟨rfl, _⟩ | ⟨b, _, rfl⟩
  ·exact hy
  ·exact List.mem_cons_of_mem _ hy
 have hown : ∀ b, v.ownBlock = some b → b ∈ F ∧ b ∉ G := fun b hvb => by
  rcases h4 with ⟨rfl, rfl⟩ | ⟨b', hb', rfl⟩
  ·cases hvb
  ·obtain rfl := Option.some.inj (hb'.symm.trans hvb)
   exact ⟨List.mem_cons_self .., (List.nodup_cons.1 hn).1⟩
 have hGn : G.Nodup := by
  rcases h4 with ⟨rfl, _⟩ | ⟨b', _, rfl⟩
  ·exact hn
  ·exact (List.nodup_cons.1 hn).2
 have hkeep : ∀ y, y < w.heap.size → v.ownBlock ≠ some y → w'.heap[y]? = w.heap[y]? := fun y hy hne => r3.block y hy (fun e => hne e.symm)
 have hG' := TrC.keep l xs G h3 (fun y hy => hkeep y (hlt y (hGF y hy)).2 (fun e => (hown y e).2 hy))
 have hX' := TrN.keep nd cs Fx hx (fun y hy => hkeep y (hltx y hy).2 (fun e => hd y hy (hown y e).1))
 have hC' := trC_split.2 ⟨xs, cs, G, Fx, rfl, h2, hG', trC_cons.2 ⟨cs, [], Fx, [], by simp, hX', trC_nil.2 rfl, by simp⟩, rfl⟩
 have hlen : (l ++ [nd]).length = l.length + 1 := by simp
 rw [← hlen] at r2
 obtain ⟨g, hg, hT⟩ := TrL.ofOwns r2 (by rw [hlen]; omega) (by rw [List.length_append, h2, hx.five, hlen]; omega) hC'
 obtain ⟨ao, cap, rfl, _, _⟩ := hT.form
 rw [hlen] at hT r5 hg r1
 refine ⟨ao, cap, w', g :: (G ++ Fx), r1, hT, ?_, ?_, (Chg.refl _ w).grown r3 (fun j hj => .inl hj), r5⟩
 ·rw [List.nodup_cons, List.nodup_append, List.mem_append, not_or]
  have hgn : g ∉ G ∧ g ∉ Fx := by
   rcases r5 with e | e
   ·have e2 := e.symm.trans hg
    exact ⟨(hown g e2).2, fun h9 => hd g h9 (hown g e2).1⟩
   ·have e2 : w.heap.size = g := Option.some.inj (e.symm.trans hg)
    exact ⟨fun h9 => by have := (hlt g (hGF g h9)).2; omega, fun h9 => by have := (hltx g h9).2; omega⟩
  exact ⟨hgn, hGn, hxn, fun x hx y hy e => hd y hy (e ▸ hGF x hx)⟩
 ·intro y hy
  rcases List.mem_cons.1 hy with rfl | hy
  ·rcases r5 with e | e
   ·exact .inl (hown y (e.symm.trans hg)).1
   ·exact .inr (.inr (Option.some.inj (e.symm.trans hg)).symm)
  ·rcases List.mem_append.1 hy with hy | hy
   ·exact .inl (hGF y hy)
   ·exact .inr (.inl hy)

/-- v is a list of nodes that lies in rows of its own, from block B on, within S. -/
def OwnT (w : World) (B : Nat) (S : Nat → Prop) (v : Value) (l : List Nd) : Prop := ∃ F, TrL w B l v F ∧ F.Nodup ∧ ∀ x ∈ F, S x
theorem OwnT.nil (w : World) (B : Nat) (S : Nat → Prop) : OwnT w B S (.slice none 0 0) [] := ⟨[], .inl ⟨rfl, rfl, rfl⟩, List.nodup_nil, fun x hx => (List.not_mem_nil hx).elim⟩
theorem OwnT.form {w : World} {B : Nat} {S : Nat → Prop} {v : Value} {l : List Nd} (h : OwnT w B S v l) : ∃ a c, v = .slice a l.length c ∧ l.length ≤ c ∧ c ≤ maxLen := by
 obtain ⟨F, h1, _⟩ := h
 exact h1.form
theorem OwnT.keep {C : Nat → Prop} {w w' : World} {B : Nat} {S : Nat → Prop} {v : Value} {l : List Nd} (h : OwnT w B S v l) (hc : Chg C w w') (hn : ∀ b, B ≤ b → S b → ¬ C b) : OwnT w' B S v l := by
 obtain ⟨F, h1, h2, h3⟩ := h
 exact ⟨F, h1.keep (fun x hx => hc.block x (h1.lt x hx).2 (hn x (h1.lt x hx).1 (h3 x hx))), h2, h3⟩
theorem OwnT.inHeap {w : World} {B : Nat} {S : Nat → Prop} {v : Value} {l : List Nd} (h : OwnT w B S v l) : OwnT w B (fun b => S b ∧ b < w.heap.size) v l := by
 obtain ⟨F, h1, h2, h3⟩ := h
 exact ⟨F, h1, h2, fun x hx => ⟨h3 x hx, (h1.lt x hx).2⟩⟩
theorem OwnT.mono {w : World} {B B' : Nat} {S S' : Nat → Prop} {v : Value} {l : List Nd} (h : OwnT w B S v l) (hB : B' ≤ B) (hS : ∀ b, S b → S' b) : OwnT w B' S' v l := by
 obtain ⟨F, h1, h2, h3⟩ := h
 exact ⟨F, h1.mono hB, h2, fun x hx => hS x (h3 x hx)⟩
theorem OwnT.block {w : World} {B : Nat} {S : Nat → Prop} {v : Value} {l : List Nd} (h : OwnT w B S v l) : ∀ b, v.ownBlock = some b → B ≤ b ∧ b < w.heap.size ∧ S b := by
 obtain ⟨F, h1, h2, h3⟩ := h
 intro b hb
 obtain ⟨xs, G, _, _, _, h4⟩ := h1.owns
 rcases h4 with ⟨_, rfl⟩ | ⟨b', hb', rfl⟩
 ·cases hb
 ·obtain rfl := Option.some.inj (hb'.symm.trans hb)
  have := h1.lt b' (List.mem_cons_self ..)
  exact ⟨this.1, this.2, h3 b' (List.mem_cons_self ..)⟩
theorem OwnT.reads {w : World} {B : Nat} {S S' : Nat → Prop} {v : Value} {l : List Nd} (h : OwnT w B S v l) (hS : ∀ b, B ≤ b → S b → S' b) : Reads w S' (.list 5 (Nd.dts l)) [v] := by
 obtain ⟨F, h1, h2, h3⟩ := h
 exact h1.reads (fun x hx => hS x (h1.lt x hx).1 (h3 x hx))
theorem wpList_ownT {w : World} {ops : Array Oper} {rest : List Oper} {o : Oper} {a : Act} {Q : Exit → Act → World → Prop} (hgd : o.guard = none) (s x : Operand) (t : TypeId) (ho : o.op = .call { callee := .builtin .append, args := #[s, x], argTypes := #[t, t] })
  (B : Nat) {bytes : Nat} {z : Value} (ht : P.underlying t = some (.slice 28)) (hinfo : (P.info? 28).map (fun i => (i.zero, i.size, i.bytes)) = some (some z, 5, bytes)) (hzs : z.cells.size = 5)
  {S : Nat → Prop} {v : Value} {l : List Nd} (hs : a.eval s = v) (hown : OwnT w B S v l) {nd : Nd} {cs : List Value} (hx : ∃ Fx, TrN w B nd cs Fx ∧ Fx.Nodup ∧ ∀ y ∈ Fx, ¬ S y)
  {xb c : Nat} {T : TypeId} (hxv : a.eval x = .slice (some ⟨xb, 0, none⟩) 1 c) (hb : Blk w xb cs T) (h63 : l.length + 1 ≤ maxLen) (hbytes : (l.length + 1) * bytes ≤ 140737488355328) (hB : B ≤ w.heap.size)
  (h : ∀ ao cap w', OwnT w' B (fun _ => True) (.slice ao (l.length + 1) cap) (l ++ [nd]) → Chg (fun b => v.ownBlock = some b) w w' → wpList P ops Q rest (a.put o.dst (.slice ao (l.length + 1) cap)) w') : wpList P ops Q (o :: rest) a w := by
 obtain ⟨F, h1, h2, h3⟩ := hown
 obtain ⟨Fx, g1, g2, g3⟩ := hx
 obtain ⟨ao, cap, w', F', k1, k2, k3, _, k5, _⟩ := h1.push h2 g1 g2 (fun y hy h9 => g3 y hy (h3 y h9)) t o.type ht hinfo hzs hb h63 hbytes hB (c := c)
 refine wpList_plain hgd fun _ hK => ?_
 unfold Oper.wp execOp
 simp only [ho, resolve, invoke, builtin, Sem.run_bind, Sem.run_pure, Result.andThen_ok, List.map_toArray, List.map_cons, List.map_nil, hs, hxv, k1]
 exact hK _ _ (h ao cap w' ⟨F', k2, k3, fun _ _ => trivial⟩ k5)
end
end Go.Proofs.YtgcmfpcgmkkobaaGreatDoor
