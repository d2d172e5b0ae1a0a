/-
  A node that is handed in, opened: its reading as plain data.; append of one node to a list that lies in a row of its own.; All nodes of a tree as they come, at most so many (shredcolref2.flat, Flat), and what is said of a schema (shredcollaw2.tame).; A drawn region: a step that looks into no memory may be taken first, whatever else is to come.; shredcolref2.IsName, and the places of a schema's nod
-/
import Derived.Test.YtgcmfpcgmkkobaaGreatDoorProg
import Derived.Test.YtgcmfpcgmkkobaaGreatDoorWalk
import Derived.OpenShut
import Derived.ProofKit
import Derived.Test.YtgcmfpcgmkkobaaGreatDoorTree
import Derived.Maps.AppendAt
import Derived.Test.YtgcmfpcgmkkobaaGreatDoorRegion
set_option linter.unusedVariables false
set_option maxHeartbeats 20000000
set_option maxRecDepth 100000
set_option linter.unusedSimpArgs false
namespace Go.Proofs.YtgcmfpcgmkkobaaGreatDoor
open Go.RowKit
theorem readsE_of {w : World} {S : Nat → Prop} {k b : Nat} : ∀ (l : List Dt) (off : Nat),
  (∀ (i : Nat) (d : Dt), l[i]? = some d → ∃ cs, cs.length = k ∧ (∀ (j : Nat) (c : Value), cs[j]? = some c → w.cell? ⟨b, off + i * k + j, none⟩ = some c) ∧ Reads w S d cs) → ReadsE w S k b off l
 | [], off, h => trivial
 | d :: ds, off, h => by
  refine ⟨?_, readsE_of ds (off + k) fun i d' hd => ?_⟩
  ·obtain ⟨cs, h1, h2, h3⟩ := h 0 d rfl
   exact ⟨cs, h1, fun j c hj => by simpa using h2 j c hj, h3⟩
  ·obtain ⟨cs, h1, h2, h3⟩ := h (i + 1) d' (by simpa using hd)
   refine ⟨cs, h1, fun j c hj => ?_, h3⟩
   rw [← h2 j c hj]
   congr 2
   rw [Nat.succ_mul]; omega
theorem choose_list {α : Type} {P : Nat → α → Prop} : ∀ n : Nat, (∀ i, i < n → ∃ y, P i y) → ∃ l : List α, l.length = n ∧ ∀ i y, l[i]? = some y → P i y
 | 0, _ => ⟨[], rfl, fun i y h => by simp at h⟩
 | n + 1, h => by
  obtain ⟨l, h1, h2⟩ := choose_list n (fun i hi => h i (by omega))
  obtain ⟨y, hy⟩ := h n (by omega)
  refine ⟨l ++ [y], by simp [h1], fun i z hz => ?_⟩
  by_cases hi : i < n
  ·rw [List.getElem?_append_left (by omega)] at hz; exact h2 i z hz
  ·rw [List.getElem?_append_right (by omega), h1] at hz
   have : i = n := by
    have := (List.getElem?_eq_some_iff.1 hz).1
    simp at this; omega
   subst this
   simp at hz
   exact hz ▸ hy
theorem cells_of {w : World} {base k : Nat} {a : Addr} {cs : List Value} (h : w.cells? base a k = some cs) : cs.length = k ∧ ∀ j c, cs[j]? = some c → w.cell? (a.add j) = some c := by
 unfold World.cells? at h
 split at h
 ·refine ⟨by simpa using mapM_some_length h, fun j c hj => ?_⟩
  have hl : cs.length = k := by simpa using mapM_some_length h
  have hjk : j < k := by have := (List.getElem?_eq_some_iff.1 hj).1; omega
  rw [mapM_some_get h j j (by simp [hjk]), hj]
 ·cases h
theorem length_data' (s : ByteArray) : s.data.toList.length = s.size := Array.length_toList
theorem lt_of_cell' {w : World} {p : Addr} {v : Value} (h : w.cell? p = some v) : p.block < w.heap.size := by
 unfold World.cell? at h
 cases hb : w.heap[p.block]? with
 | none => rw [hb] at h; simp at h
 | some o => exact lt_of_block hb
theorem weights_mem {H : Type} {P : Program} {e : TypeId} {d : DataW H} : ∀ {l : List (DataW H)}, d ∈ l → (DataW.weightsAll P e l).all (· ≤ reachBytes) = true → (d.weights P e).all (· ≤ reachBytes) = true
 | x :: xs, hd, h => by
  simp only [DataW.weightsAll, List.all_append, Bool.and_eq_true] at h
  rcases List.mem_cons.1 hd with rfl | hd
  ·exact h.1
  ·exact weights_mem hd h.2
theorem add_none (b off j : Nat) : (⟨b, off, none⟩ : Addr).add j = ⟨b, off + j, none⟩ := by unfold Addr.add; split <;> simp_all
theorem stringCells : Tryz.prog.cellsOf 9 = 1 := by kernel_rfl
section
variable {H : Type} {enc : TypeId × Value → H} {W : World}
end
theorem TrN.cells1 {w : World} {B : Nat} {n : Nd} {cs : List Value} {F : List Nat} (h : TrN w B n cs F) : ∀ u ∈ cs, u.oneCell' = true :=
 Reads.one n.dt cs (TrN.reads (S := fun _ => True) n cs F h (fun _ _ => trivial))
theorem TrL.owns {w : World} {B : Nat} {l : List Nd} {v : Value} {F : List Nat} (h : TrL w B l v F) : ∃ xs G, w.ownsRow B 28 5 v l.length xs ∧ xs.length = l.length * 5 ∧ TrC w B l xs G ∧ (F = G ∧ v = .slice none 0 0 ∨ ∃ b, v.ownBlock = some b ∧ F = b :: G) := by
 rcases h with ⟨rfl, rfl, rfl⟩ | ⟨b, cap, cur, F', rfl, e2, e3, e4, e5, e6, e7, rfl⟩
 ·exact ⟨[], [], World.ownsRow_nil _ _ _ _, rfl, trC_nil.2 rfl, .inl ⟨rfl, rfl⟩⟩
 ·obtain ⟨x1, x2, rfl, h2, h3⟩ := e7.junk
  refine ⟨x1, F', ⟨h2, .inr ⟨b, cap, (x1 ++ x2).toArray, rfl, e4, e5, e2, e3, by simpa using e6, ?_⟩⟩, h2, h3, .inr ⟨b, rfl, rfl⟩⟩
  rw [List.toList_toArray, ← h2, List.take_left]
theorem TrL.ofOwns {w : World} {B : Nat} {l : List Nd} {v : Value} {xs : List Value} {G : List Nat} (h : w.ownsRow B 28 5 v l.length xs) (hl : 0 < l.length) (hx : xs.length = l.length * 5) (hc : TrC w B l xs G) : ∃ g, v.ownBlock = some g ∧ TrL w B l v (g :: G) := by
 rcases h.2 with ⟨_, h0⟩ | ⟨g, cap, cur, rfl, hg, hh, hn, hcm, hcs, htk⟩
 ·omega
 ·refine ⟨g, rfl, .inr ⟨g, cap, cur.toList, G, rfl, hn, hcm, hg, ?_, by simpa using hcs, ?_, rfl⟩⟩
  ·unfold Blk; rw [hh]
  ·have := hc.more (cur.toList.drop (l.length * 5))
   rw [← htk, List.take_append_drop] at this
   exact this
section
variable {P : Program}
theorem TrL.push {w : World} {B : Nat} {l : List Nd} {v : Value} {F : List Nat} (h : TrL w B l v F) (hn : F.Nodup) {nd : Nd} {cs : List Value} {Fx : List Nat} (hx : TrN w B nd cs Fx) (hxn : Fx.Nodup) (hd : ∀ y ∈ Fx, y ∉ F)
  (t ty : TypeId) {z : Value} {bytes : Nat} (ht : P.underlying t = some (.slice 28)) (hinfo : (P.info? 28).map (fun i => (i.zero, i.size, i.bytes)) = some (some z, 5, bytes)) (hzs : z.cells.size = 5)
  {xb c : Nat} {T : TypeId} (hb : Blk w xb cs T) (h63 : l.length + 1 ≤ maxLen) (hbytes : (l.length + 1) * bytes ≤ 140737488355328) (hB : B ≤ w.heap.size) :
  ∃ ao cap w' F', (Builtin.append_ #[t, t] ty #[v, .slice (some ⟨xb, 0, none⟩) 1 c]).run P w = .ok (.slice ao (l.length + 1) cap) w' ∧ TrL w' B (l ++ [nd]) (.slice ao (l.length + 1) cap) F' ∧ F'.Nodup ∧ (∀ y ∈ F', y ∈ F ∨ y ∈ Fx ∨ y = w.heap.size) ∧
   Chg (fun b => v.ownBlock = some b) w w' ∧ ((Value.slice ao (l.length + 1) cap).ownBlock = v.ownBlock ∨ (Value.slice ao (l.length + 1) cap).ownBlock = some w.heap.size) := by
 obtain ⟨i, hi, hz, hsz, hby⟩ := info_parts hinfo
 obtain ⟨xs, G, h1, h2, h3, h4⟩ := h.owns
 obtain ⟨v', w', r1, r2, r3, _, r5⟩ := run_append_own_at (P := P) w B t ty 28 i z 5 bytes ht hi hz hsz hby hzs (by decide) v l.length xs h1 ⟨xb, 0, none⟩ 1 c cs (by rw [hx.five]) (fun j u hj => by rw [Addr.add_lit, Nat.zero_add, hb.cell]; exact hj) hx.cells1 h63 hbytes hB
 have hlt := h.lt
 have hltx := TrN.lt nd cs Fx hx
 have hGF : ∀ y ∈ G, y ∈ F := fun y hy => by
  rcases h4 with ⟨rfl, _⟩ | ⟨b, _, rfl⟩
  ·exact hy
  ·exact List.mem_cons_of_mem _ hy
 have hown : ∀ b, v.ownBlock = some b → b ∈ F ∧ b ∉ G := fun b hvb => by
  rcases h4 with ⟨rfl, rfl⟩ | ⟨b', hb', rfl⟩
  ·cases hvb
  ·obtain rfl := Option.some.inj (hb'.symm.trans hvb)
   exact ⟨List.mem_cons_self .., (List.nodup_cons.1 hn).1⟩
 have hGn : G.Nodup := by
  rcases h4 with ⟨rfl, _⟩ | ⟨b', _, rfl⟩
  ·exact hn
  ·exact (List.nodup_cons.1 hn).2
 have hkeep : ∀ y, y < w.heap.size → v.ownBlock ≠ some y → w'.heap[y]? = w.heap[y]? := fun y hy hne => r3.block y hy (fun e => hne e.symm)
 have hG' := TrC.keep l xs G h3 (fun y hy => hkeep y (hlt y (hGF y hy)).2 (fun e => (hown y e).2 hy))
 have hX' := TrN.keep nd cs Fx hx (fun y hy => hkeep y (hltx y hy).2 (fun e => hd y hy (hown y e).1))
 have hC' := trC_split.2 ⟨xs, cs, G, Fx, rfl, h2, hG', trC_cons.2 ⟨cs, [], Fx, [], by simp, hX', trC_nil.2 rfl, by simp⟩, rfl⟩
 have hlen : (l ++ [nd]).length = l.length + 1 := by simp
 rw [← hlen] at r2
 obtain ⟨g, hg, hT⟩ := TrL.ofOwns r2 (by rw [hlen]; omega) (by rw [List.length_append, h2, hx.five, hlen]; omega) hC'
 obtain ⟨ao, cap, rfl, _, _⟩ := hT.form
 rw [hlen] at hT r5 hg r1
 refine ⟨ao, cap, w', g :: (G ++ Fx), r1, hT, ?_, ?_, (Chg.refl _ w).grown r3 (fun j hj => .inl hj), r5⟩
 ·rw [List.nodup_cons, List.nodup_append, List.mem_append, not_or]
  have hgn : g ∉ G ∧ g ∉ Fx := by
   rcases r5 with e | e
   ·have e2 := e.symm.trans hg
    exact ⟨(hown g e2).2, fun h9 => hd g h9 (hown g e2).1⟩
   ·have e2 : w.heap.size = g := Option.some.inj (e.symm.trans hg)
    exact ⟨fun h9 => by have := (hlt g (hGF g h9)).2; omega, fun h9 => by have := (hltx g h9).2; omega⟩
  exact ⟨hgn, hGn, hxn, fun x hx y hy e => hd y hy (e ▸ hGF x hx)⟩
 ·intro y hy
  rcases List.mem_cons.1 hy with rfl | hy
  ·rcases r5 with e | e
   ·exact .inl (hown y (e.symm.trans hg)).1
   ·exact .inr (.inr (Option.some.inj (e.symm.trans hg)).symm)
  ·rcases List.mem_append.1 hy with hy | hy
   ·exact .inl (hGF y hy)
   ·exact .inr (.inl hy)
def OwnT (w : World) (B : Nat) (S : Nat → Prop) (v : Value) (l : List Nd) : Prop := ∃ F, TrL w B l v F ∧ F.Nodup ∧ ∀ x ∈ F, S x
theorem OwnT.nil (w : World) (B : Nat) (S : Nat → Prop) : OwnT w B S (.slice none 0 0) [] := ⟨[], .inl ⟨rfl, rfl, rfl⟩, List.nodup_nil, fun x hx => (List.not_mem_nil hx).elim⟩
theorem OwnT.form {w : World} {B : Nat} {S : Nat → Prop} {v : Value} {l : List Nd} (h : OwnT w B S v l) : ∃ a c, v = .slice a l.length c ∧ l.length ≤ c ∧ c ≤ maxLen := by
 obtain ⟨F, h1, _⟩ := h
 exact h1.form
theorem OwnT.keep {C : Nat → Prop} {w w' : World} {B : Nat} {S : Nat → Prop} {v : Value} {l : List Nd} (h : OwnT w B S v l) (hc : Chg C w w') (hn : ∀ b, B ≤ b → S b → ¬ C b) : OwnT w' B S v l := by
 obtain ⟨F, h1, h2, h3⟩ := h
 exact ⟨F, h1.keep (fun x hx => hc.block x (h1.lt x hx).2 (hn x (h1.lt x hx).1 (h3 x hx))), h2, h3⟩
theorem OwnT.inHeap {w : World} {B : Nat} {S : Nat → Prop} {v : Value} {l : List Nd} (h : OwnT w B S v l) : OwnT w B (fun b => S b ∧ b < w.heap.size) v l := by
 obtain ⟨F, h1, h2, h3⟩ := h
 exact ⟨F, h1, h2, fun x hx => ⟨h3 x hx, (h1.lt x hx).2⟩⟩
theorem OwnT.mono {w : World} {B B' : Nat} {S S' : Nat → Prop} {v : Value} {l : List Nd} (h : OwnT w B S v l) (hB : B' ≤ B) (hS : ∀ b, S b → S' b) : OwnT w B' S' v l := by
 obtain ⟨F, h1, h2, h3⟩ := h
 exact ⟨F, h1.mono hB, h2, fun x hx => hS x (h3 x hx)⟩
theorem OwnT.block {w : World} {B : Nat} {S : Nat → Prop} {v : Value} {l : List Nd} (h : OwnT w B S v l) : ∀ b, v.ownBlock = some b → B ≤ b ∧ b < w.heap.size ∧ S b := by
 obtain ⟨F, h1, h2, h3⟩ := h
 intro b hb
 obtain ⟨xs, G, _, _, _, h4⟩ := h1.owns
 rcases h4 with ⟨_, rfl⟩ | ⟨b', hb', rfl⟩
 ·cases hb
 ·obtain rfl := Option.some.inj (hb'.symm.trans hb)
  have := h1.lt b' (List.mem_cons_self ..)
  exact ⟨this.1, this.2, h3 b' (List.mem_cons_self ..)⟩
theorem OwnT.reads {w : World} {B : Nat} {S S' : Nat → Prop} {v : Value} {l : List Nd} (h : OwnT w B S v l) (hS : ∀ b, B ≤ b → S b → S' b) : Reads w S' (.list 5 (Nd.dts l)) [v] := by
 obtain ⟨F, h1, h2, h3⟩ := h
 exact h1.reads (fun x hx => hS x (h1.lt x hx).1 (h3 x hx))
theorem wpList_ownT {w : World} {ops : Array Oper} {rest : List Oper} {o : Oper} {a : Act} {Q : Exit → Act → World → Prop} (hgd : o.guard = none) (s x : Operand) (t : TypeId) (ho : o.op = .call { callee := .builtin .append, args := #[s, x], argTypes := #[t, t] })
  (B : Nat) {bytes : Nat} {z : Value} (ht : P.underlying t = some (.slice 28)) (hinfo : (P.info? 28).map (fun i => (i.zero, i.size, i.bytes)) = some (some z, 5, bytes)) (hzs : z.cells.size = 5)
  {S : Nat → Prop} {v : Value} {l : List Nd} (hs : a.eval s = v) (hown : OwnT w B S v l) {nd : Nd} {cs : List Value} (hx : ∃ Fx, TrN w B nd cs Fx ∧ Fx.Nodup ∧ ∀ y ∈ Fx, ¬ S y)
  {xb c : Nat} {T : TypeId} (hxv : a.eval x = .slice (some ⟨xb, 0, none⟩) 1 c) (hb : Blk w xb cs T) (h63 : l.length + 1 ≤ maxLen) (hbytes : (l.length + 1) * bytes ≤ 140737488355328) (hB : B ≤ w.heap.size)
  (h : ∀ ao cap w', OwnT w' B (fun _ => True) (.slice ao (l.length + 1) cap) (l ++ [nd]) → Chg (fun b => v.ownBlock = some b) w w' → wpList P ops Q rest (a.put o.dst (.slice ao (l.length + 1) cap)) w') : wpList P ops Q (o :: rest) a w := by
 obtain ⟨F, h1, h2, h3⟩ := hown
 obtain ⟨Fx, g1, g2, g3⟩ := hx
 obtain ⟨ao, cap, w', F', k1, k2, k3, _, k5, _⟩ := h1.push h2 g1 g2 (fun y hy h9 => g3 y hy (h3 y h9)) t o.type ht hinfo hzs hb h63 hbytes hB (c := c)
 refine wpList_plain hgd fun _ hK => ?_
 unfold Oper.wp execOp
 simp only [ho, resolve, invoke, builtin, Sem.run_bind, Sem.run_pure, Result.andThen_ok, List.map_toArray, List.map_cons, List.map_nil, hs, hxv, k1]
 exact hK _ _ (h ao cap w' ⟨F', k2, k3, fun _ _ => trivial⟩ k5)
end
structure Pl where
 n : Nd
 deep : Int
 around : Int
def Pl.dt (p : Pl) : Dt := .agg [p.n.dt, .lit (.int .i64 p.deep), .lit (.int .i64 p.around)]
mutual
def flatN (l : List Pl) : Nd → Int → Int → List Pl
 | .mk i n r k s, d, a => if 2000 < l.length ∨ 100 < d then l else flatL (l ++ [⟨.mk i n r k s, d, a⟩]) s (d + 1) l.length
def flatL (l : List Pl) : List Nd → Int → Int → List Pl
 | [], _, _ => l
 | n :: ns, d, a => flatL (flatN l n d a) ns d a
end
mutual
theorem flatN_le : ∀ (n : Nd) (l : List Pl) (d a : Int), l.length ≤ 2001 → (flatN l n d a).length ≤ 2001
 | .mk i n r k s, l, d, a, h => by
  simp only [flatN]
  split
  ·exact h
  ·exact flatL_le s _ _ _ (by simp; omega)
theorem flatL_le : ∀ (s : List Nd) (l : List Pl) (d a : Int), l.length ≤ 2001 → (flatL l s d a).length ≤ 2001
 | [], l, d, a, h => by simpa [flatL] using h
 | n :: ns, l, d, a, h => by
  simp only [flatL]
  exact flatL_le ns _ _ _ (flatN_le n l d a h)
end
theorem flatL_snoc : ∀ (s : List Nd) (l : List Pl) (n : Nd) (d a : Int), flatL l (s ++ [n]) d a = flatN (flatL l s d a) n d a
 | [], l, n, d, a => by simp [flatL]
 | x :: xs, l, n, d, a => by simp only [List.cons_append, flatL]; exact flatL_snoc xs _ n d a
def RetOwn (B e k : Nat) (A : Nat → Prop) (v : Value) (ds : List Dt) (w : World) (en : Ending) (w' : World) : Prop :=
 ∃ ao cap, en = .returned (.slice ao ds.length cap) ∧ Own w' B e k A (.slice ao ds.length cap) ds ∧ Chg (fun b => v.ownBlock = some b) w w' ∧
  ∀ b, (Value.slice ao ds.length cap).ownBlock = some b → v.ownBlock = some b ∨ w.heap.size ≤ b
theorem infoPlace : (Tryz.prog.info? 72).map (fun i => (i.zero, i.size, i.bytes)) = some (some (.agg #[.int .i64 0, .string ⟨#[]⟩, .int .i64 0, .int .i64 0, .slice none 0 0, .int .i64 0, .int .i64 0]), 7, 80) := by kernel_rfl
theorem reads_pl {w : World} {S : Nat → Prop} {n : Nd} {cs : List Value} (h : Reads w S n.dt cs) (d a : Int) : Reads w S (Pl.dt ⟨n, d, a⟩) (cs ++ [.int .i64 d, .int .i64 a]) := by
 exact ⟨cs, _, rfl, h, [_], _, rfl, ⟨rfl, rfl⟩, [_], _, rfl, ⟨rfl, rfl⟩, rfl⟩
def FlatRel (w : World) (B : Nat) (A : Nat → Prop) (v0 : Value) (l : List Pl) (i : Int) (n : ByteArray) (r k : Int) (s : List Nd) (sv : Value) (d at0 : Int) (vl vi : Value) (wr : World) : Prop :=
 ∃ j ao cap, j ≤ s.length ∧ vi = .int .i64 (j : Nat) ∧ vl = .slice ao (flatL l (s.take j) d at0).length cap ∧
  Own wr B 72 7 A (.slice ao (flatL l (s.take j) d at0).length cap) ((flatL l (s.take j) d at0).map Pl.dt) ∧ Chg (fun b => v0.ownBlock = some b) w wr ∧
  Blk wr w.heap.size (ndCells i n r k sv) 28 ∧ ∀ b, (Value.slice ao (flatL l (s.take j) d at0).length cap).ownBlock = some b → v0.ownBlock = some b ∨ w.heap.size + 1 ≤ b
theorem flat_any : ∀ (m : Nat) (nd : Nd) (w : World) (B : Nat) (A : Nat → Prop) (v : Value) (ps : List Pl) (cs : List Value) (d a : Int), nd.weigh ≤ m → Own w B 72 7 A v (ps.map Pl.dt) →
  (∀ b, A b → b < B) → B ≤ w.heap.size → Reads w A nd.dt cs → nd.ok → 0 ≤ d → d ≤ 101 → -1 ≤ a → a ≤ 2001 → ps.length ≤ 2001 →
  Calls Tryz.prog 72 #[v, .agg cs.toArray, .int .i64 d, .int .i64 a] w (RetOwn B 72 7 A v ((flatN ps nd d a).map Pl.dt) w) := by
 intro m
 induction m with
 | zero => intro nd w B A v ps cs d a hm; cases nd; simp [Nd.weigh] at hm
 | succ m ih =>
  intro nd w B A v ps cs d a hm ho hAB hBw hr hok hd0 hd1 ha0 ha1 hps
  obtain ⟨i, n, r, k, s⟩ := nd
  obtain ⟨sv, rfl, hs⟩ := reads_nd.1 hr
  obtain ⟨sa, cap, rfl, hlen, hcap, hel⟩ := reads_subs hs
  obtain ⟨hi, hn, hrr, hk, hsl, hoks⟩ := hok
  obtain ⟨ao, c0, rfl⟩ := ho.form
  simp only [List.length_map] at ho ⊢
  unfold reach at hsl
  by_cases h1 : 2000 < ps.length
  ·go_enter Tryz.func72, Tryz.ntmps72
   go_wp2_with fail
   go_ret
   simp only [flatN, h1, true_or, if_true]
   exact ⟨ao, c0, by simp, by simpa using ho.keep ((Chg.refl NoB _).alloc _) (fun _ _ e => nbE e) (fun _ _ e => nbE e), (Chg.refl _ _).alloc _, fun b hb => .inl (by simpa using hb)⟩
  by_cases h2 : 100 < d
  ·go_enter Tryz.func72, Tryz.ntmps72
   go_wp2_with fail
   go_ret
   simp only [flatN, h2, or_true, if_true]
   exact ⟨ao, c0, by simp, by simpa using ho.keep ((Chg.refl NoB _).alloc _) (fun _ _ e => nbE e) (fun _ _ e => nbE e), (Chg.refl _ _).alloc _, fun b hb => .inl (by simpa using hb)⟩
  go_enter Tryz.func72, Tryz.ntmps72
  go_wp2_with (at_builtin; refine stop_here ?_)
  refine Stop.go ?_
  generalize hw1 : (w.alloc _).alloc _ = w1
  have hc0 : Chg NoB w w1 := by
   rw [← hw1]
   repeat (first | exact Chg.refl _ _ | apply Chg.alloc | apply Chg.drew)
  have hb0 : Blk w1 (w.heap.size) (ndCells i n r k (.slice sa s.length cap)) 28 := by
   rw [← hw1]
   repeat (first | exact Blk.newAt (by first | rfl | (simp; done) | (simp; omega)) | apply Blk.alloc | apply Blk.drew)
  have hbn : Blk w1 (w.heap.size + 1) ([.int .i64 i, .string n, .int .i64 r, .int .i64 k, .slice sa s.length cap, .int .i64 d, .int .i64 a]) 72 := by
   rw [← hw1]
   repeat (first | exact Blk.newAt (by first | rfl | (simp; done) | (simp; omega)) | apply Blk.alloc | apply Blk.drew)
  clear hw1
  have hoB := ho.block
  have hAo : ∀ b, A b → (Value.slice ao ps.length c0).ownBlock ≠ some b := fun b hb e => by have := (hoB b e).1; have := hAB b hb; omega
  have ho1 := ho.keep hc0 (fun _ _ e => nbE e) (fun _ _ e => nbE e)
  refine wpList_own rfl (.tmp 21) (.tmp 26) 69 rfl B 72 Tryz.underlying69 infoPlace rfl (by decide) rfl ho1 rfl [Pl.dt ⟨.mk i n r k s, d, a⟩] _ rfl (ReadsC.single rfl (reads_pl ((hr.chg0 hc0).mono (fun b hb => ⟨hb, hAo b hb⟩)) d a)) hbn.news (fun e => by cases e) ?_ ?_ ?_ ?_
  ·simp [maxLen]; omega
  ·simp; omega
  ·have := hc0.size; omega
  intro ao2 cap2 w2 ho2 hc2 hat2
  simp only [List.length_map] at ho2 hat2 ⊢
  have hb0 := hb0.keep hc2 (fun e => by have := (hoB _ e).2; omega)
  have hc02 : Chg (fun b => (Value.slice ao ps.length c0).ownBlock = some b) w w2 := (hc0.mono (fun _ _ e => nbE e)).trans hc2 (fun _ e => .inl e)
  have hnew : ∀ b, (Value.slice ao2 (ps.length + 1) cap2).ownBlock = some b → (Value.slice ao ps.length c0).ownBlock = some b ∨ w.heap.size + 1 ≤ b := fun b hb => by
   rcases hat2 with e | e
   ·exact .inl (e ▸ hb)
   ·have h9 := Option.some.inj (e.symm.trans hb)
    have := hbn.lt
    exact .inr (by omega)
  go_wp2_with fail
  go_loopw [0, 10] (fun vl vi wr => FlatRel w B A (.slice ao ps.length c0) (ps ++ [⟨.mk i n r k s, d, a⟩]) i n r k s (.slice sa s.length cap) (d + 1) ps.length vl vi wr) (fun _ vi _ => s.length - (intOf vi).toNat)
  case atStart =>
   refine ⟨0, ao2, cap2, Nat.zero_le _, rfl, ?_, ?_, hc02, hb0, ?_⟩
   ·simp [flatL]
   ·simpa [flatL] using ho2
   ·simpa [flatL] using hnew
  case round =>
   obtain ⟨j, aj, cj, hj, rfl, rfl, hoj, hcj, hb0j, hnj⟩ := hrel
   have c4 : wr.cell? ⟨w.heap.size, 4, none⟩ = some (.slice sa s.length cap) := hb0j.cell 4
   have hsz : w.heap.size + 1 ≤ wr.heap.size := hb0j.lt
   by_cases hlt : j < s.length
   ·obtain ⟨b, off, rfl, hSb, hbw, hE⟩ := hel (by omega)
    obtain ⟨ecs, hl5, hcells, hre⟩ := hE.get j s[j].dt (by simp [hlt])
    have hmem : s[j] ∈ s := List.getElem_mem hlt
    have hwj := Nd.weigh_mem hmem
    have hokj := Nd.oks_mem hoks _ hmem
    have htake : s.take (j + 1) = s.take j ++ [s[j]] := List.take_succ_eq_append_getElem hlt
    generalize s[j] = nj at hre hwj hokj htake
    have hfl := flatL_snoc (s.take j) (ps ++ [⟨.mk i n r k s, d, a⟩]) nj (d + 1) ps.length
    rw [← htake] at hfl
    have Hfl := Lib.hid hfl
    clear htake hfl
    have hle := flatL_le (s.take j) (ps ++ [⟨.mk i n r k s, d, a⟩]) (d + 1) ps.length (by simp; omega)
    generalize flatL (ps ++ [⟨.mk i n r k s, d, a⟩]) (s.take j) (d + 1) ps.length = lj at hoj hnj Hfl hle ⊢
    obtain ⟨i1, n1, r1, k1, s1⟩ := nj
    obtain ⟨v1, rfl, hs1⟩ := reads_nd.1 hre
    have hcb : ∀ {x : Nat}, A x → ¬ ((Value.slice ao ps.length c0).ownBlock = some x) := fun hx e => hAo _ hx e
    have hf : ∀ t c, [Value.int .i64 i1, .string n1, .int .i64 r1, .int .i64 k1, v1][t]? = some c → wr.cell? ⟨b, off + j * 5 + t, none⟩ = some c := fun t c ht => (hcj.cell (p := ⟨b, off + j * 5 + t, none⟩) hbw (hcb hSb)).trans (hcells t c ht)
    have e0 : wr.cell? ⟨b, off + j * 5, none⟩ = some (.int .i64 i1) := hf 0 _ rfl
    have e1 : wr.cell? ⟨b, off + j * 5 + 1, none⟩ = some (.string n1) := hf 1 _ rfl
    have e2 : wr.cell? ⟨b, off + j * 5 + 2, none⟩ = some (.int .i64 r1) := hf 2 _ rfl
    have e3 : wr.cell? ⟨b, off + j * 5 + 3, none⟩ = some (.int .i64 k1) := hf 3 _ rfl
    have e4 : wr.cell? ⟨b, off + j * 5 + 4, none⟩ = some v1 := hf 4 _ rfl
    clear hf
    go_wp2_with fail
    refine (ih (.mk i1 n1 r1 k1 s1) wr B A _ lj _ (d + 1) ps.length ?_ hoj hAB (by omega) (hre.chg hcj (fun _ hb => hcb hb)) hokj (by omega) (by omega) (by omega) (by omega) hle).mono ?_
    ·simp only [Nd.weigh] at hm hwj ⊢; omega
    rintro e w3 ⟨ao3, cap3, rfl, ho3, hc3, hn3⟩
    have hc03 := hcj.trans hc3 (fun b hb => (hnj b hb).imp id (fun h => by omega))
    have hb0j := hb0j.keep hc3 (fun e => by rcases hnj _ e with h | h; have := (hoB _ h).2; omega; omega)
    simp only [List.length_map] at ho3 hn3 ⊢
    go_wp2_with fail
    go_roundw
    case rel =>
     refine ⟨j + 1, ao3, cap3, hlt, by go_num, ?_, ?_, hc03, hb0j, ?_⟩
     ·rw [Hfl.out]
     ·rw [Hfl.out]; exact ho3
     ·rw [Hfl.out]
      intro b hb
      rcases hn3 b hb with h | h
      ·exact hnj b h
      ·exact .inr (by omega)
    case measure => simp [intOf]; omega
   ·have hjs : s.take j = s := List.take_of_length_le (by omega)
    rw [hjs] at hoj hnj ⊢
    have hfin : flatN ps (.mk i n r k s) d a = flatL (ps ++ [⟨.mk i n r k s, d, a⟩]) s (d + 1) ps.length := by simp only [flatN]; rw [if_neg (by omega)]
    have Hfin := Lib.hid hfin
    clear hfin hjs
    generalize flatL (ps ++ [⟨.mk i n r k s, d, a⟩]) s (d + 1) ps.length = lj at hoj hnj Hfin ⊢
    go_wp2_with fail
    go_ret
    rw [Hfin.out]
    exact ⟨aj, cj, by simp, by simpa using hoj, hcj, fun b hb => (hnj b (by simpa using hb)).imp id (fun h => by omega)⟩
def RetList (k : Nat) (S : Nat → Prop) (ds : List Dt) (w : World) (e : Ending) (w' : World) : Prop :=
 ∃ ao cap, e = .returned (.slice ao ds.length cap) ∧ Reads w' (fun b => S b ∨ w.heap.size ≤ b) (.list k ds) [.slice ao ds.length cap] ∧ Chg NoB w w'
def flatOf (n : Nd) : List Pl := flatN [] n 1 (-1)
theorem Flat_any (nd : Nd) (w : World) (S : Nat → Prop) (cs : List Value) (hr : Reads w S nd.dt cs) (hok : nd.ok) :
  Calls Tryz.prog 32 #[.agg cs.toArray] w (RetList 7 S ((flatOf nd).map Pl.dt) w) := by
 obtain ⟨i, n, r, k, s⟩ := nd
 obtain ⟨sv, rfl, hs⟩ := reads_nd.1 hr
 obtain ⟨sa, cap, rfl, hlen, hcap, hel⟩ := reads_subs hs
 have hrA := Reads.lt _ _ hr
 go_enter Tryz.func32, Tryz.ntmps32
 go_wp2_with fail
 generalize hw1 : w.alloc _ = w1
 have hc1 : Chg NoB w w1 := by
  rw [← hw1]
  repeat (first | exact Chg.refl _ _ | apply Chg.alloc | apply Chg.drew)
 have hw1s : w1.heap.size = w.heap.size + 1 := by rw [← hw1]; simp
 clear hw1
 refine (flat_any _ (.mk i n r k s) w1 w.heap.size (fun b => S b ∧ b < w.heap.size) _ [] _ 1 (-1) (Nat.le_refl _) (Own.nil _ _ _ _ _) (fun b hb => hb.2) (by omega) (hrA.chg0 hc1) hok (by omega) (by omega) (by omega) (by omega) (by simp)).mono ?_
 rintro e w2 ⟨ao, c2, rfl, ho, hc, hn⟩
 have hc2 : Chg NoB w w2 := hc1.trans hc (fun b hb => by cases hb)
 have hle := flatN_le (.mk i n r k s) [] 1 (-1) (by simp)
 have hf : flatN [] (.mk i n r k s) 1 (-1) = flatOf (.mk i n r k s) := rfl
 rw [hf] at ho hle ⊢
 clear hf hn hc
 go_wp2_with fail
 go_ret
 refine ⟨ao, c2, by simp, ho.reads (fun b hb => .inl hb.1) (fun b hb _ => .inr hb) (by simp [maxLen]; omega), hc2⟩
mutual
theorem flatN_ok : ∀ (n : Nd) (l : List Pl) (d a : Int), (∀ p ∈ l, p.n.ok) → n.ok → ∀ p ∈ flatN l n d a, p.n.ok
 | .mk i n r k s, l, d, a, h, hn => by
  simp only [flatN]
  split
  ·exact h
  ·refine flatL_ok s _ _ _ (fun p hp => ?_) hn.2.2.2.2.2
   rcases List.mem_append.1 hp with hp | hp
   ·exact h p hp
   ·simp only [List.mem_cons, List.not_mem_nil, or_false] at hp; subst hp; exact hn
theorem flatL_ok : ∀ (s : List Nd) (l : List Pl) (d a : Int), (∀ p ∈ l, p.n.ok) → Nd.oks s → ∀ p ∈ flatL l s d a, p.n.ok
 | [], l, d, a, h, _ => by simpa [flatL] using h
 | n :: ns, l, d, a, h, hs => by
  simp only [flatL]
  exact flatL_ok ns _ _ _ (flatN_ok n l d a h hs.1) hs.2
end
section
variable {P : Program} {ops : Array Oper} {Q : Exit → Act → World → Prop} {md : Region.Mode} {S : World → Prop} {ns : List Nat}
theorem wpAnyN_pure {i : Nat} {oi : Oper} {v : Value} (hi : ops[i]? = some oi) (hsel : ∀ (j : Nat) (o : Oper) cs b, ops[j]? = some o → o.op ≠ .select cs b)
  (hQ : ∀ c a w, Q (.panic c) (a.put oi.dst v) w → Q (.panic c) a w) (hin : ns.contains i = true) :
  ∀ (fuel : Nat) (listed : Array Bool) (a : Act) (w : World),
   (∀ j oj, ops[j]? = some oj → j ≠ i → listed.getD j true = false → (∀ e ∈ oj.after, Region.binds md e = true → e.on ≠ i) → oi.apart ops oj = true) →
   i ∈ Region.ready md ops listed → YieldsIf P ops (fun _ => True) oi v a →
   wpAnyN P md ops Q S ns fuel (listed.setIfInBounds i true) (a.put oi.dst v) w → wpAnyN P md ops Q S ns (fuel + 1) listed a w := by
 have hno : ns.contains i = false → ∀ {p : Prop}, p := fun h => by rw [hin] at h; cases h
 intro fuel
 induction fuel with
 | zero =>
  intro listed a w _ hr hy H
  refine ⟨fun h => (by rw [h] at hr; cases hr), fun j hj => ?_⟩
  by_cases hji : j = i
  ·subst hji; exact hy.wpOp hi trivial ⟨fun h => hno h, H⟩
  ·have := ready_mono hj hji
   rw [H.1] at this
   cases this
 | succ fuel ih =>
  intro listed a w hfree hr hy H
  refine ⟨fun h => (by rw [h] at hr; cases hr), fun j hj => ?_⟩
  by_cases hji : j = i
  ·subst hji; exact hy.wpOp hi trivial ⟨fun h => hno h, H⟩
  ·have h1 := H.2 j (ready_mono hj hji)
   obtain ⟨hjun, oj, hoj, hall⟩ := mem_ready.1 hj
   have hnot : ∀ e ∈ oj.after, Region.binds md e = true → e.on ≠ i := fun e he hb heq => by
    have h1 := hall e he hb
    have h0 := (mem_ready.1 hr).1
    rw [heq, getD_both h0] at h1
    cases h1
   have h2 := wpOp_putIf hoj (hfree j oj hoj hji hjun hnot) (fun cs b => hsel i oi cs b hi) (fun cs b => hsel j oj cs b hoj) hQ hy h1
   have hfree' : ∀ k ok, ops[k]? = some ok → k ≠ i → (listed.setIfInBounds j true).getD k true = false →
     (∀ e ∈ ok.after, Region.binds md e = true → e.on ≠ i) → oi.apart ops ok = true := fun k ok hk hki hun hno => by
    refine hfree k ok hk hki ?_ hno
    by_cases hjk : j = k
    ·subst hjk; exact hjun
    ·rw [getD_set_ne true hjk] at hun; exact hun
   refine wpOp_mono (fun a' w' h3 => ⟨h3.2.1, ih (listed.setIfInBounds j true) a' w' hfree' (ready_mono hr (Ne.symm hji)) h3.1 ?_⟩) h2
   rw [Array.setIfInBounds_comm _ _ hji]
   exact h3.2.2
theorem n_pure (i : Nat) {oi : Oper} {v : Value} {fuel : Nat} {listed : Array Bool} {a : Act} {w : World} (hi : ops[i]? = some oi) (hy : YieldsIf P ops (fun _ => True) oi v a)
  (hc : (Region.noSelect ops && Region.free md ops listed i && (Region.ready md ops listed).contains i && ns.contains i) = true)
  (hQ : ∀ c a w, Q (.panic c) (a.put oi.dst v) w → Q (.panic c) a w)
  (h : wpAnyN P md ops Q S ns fuel (listed.setIfInBounds i true) (a.put oi.dst v) w) : wpAnyN P md ops Q S ns (fuel + 1) listed a w := by
 simp only [Bool.and_eq_true] at hc
 exact wpAnyN_pure hi (Region.noSelect_spec hc.1.1.1) hQ hc.2 fuel listed a w (Region.free_spec hi hc.1.1.2) (by simpa using hc.1.2) hy h
end
def NameRel (s : ByteArray) (vi : Value) : Prop := ∃ j : Nat, j ≤ s.size ∧ vi = .int .i64 (j : Nat) ∧ (s.data.toList.take j).all lower = true
theorem notName {s : ByteArray} {j : Nat} {c : UInt8} {l : List UInt8} (h : s.data.toList.drop j = c :: l) (hc : lower c = false) : isNameB s = false := by
 unfold isNameB
 have h1 : s.data.toList.all lower = false := by
  rw [← List.take_append_drop j s.data.toList, h, List.all_append, List.all_cons, hc]
  simp
 rw [h1, Bool.and_false]
theorem isName2_any (s : ByteArray) (w : World) (hs : s.size ≤ 9223372036854775807) :
  Calls Tryz.prog 33 #[.string s] w fun e w' => e = .returned (.bool (isNameB s)) ∧ w' = w := by
 go_enter Tryz.func33, Tryz.ntmps33
 go_wp2_with fail
 go_loop [3] (fun vi => NameRel s vi) (fun vi => s.size - (intOf vi).toNat)
 case atStart => exact ⟨0, Nat.zero_le _, rfl, rfl⟩
 case round =>
  obtain ⟨j, hj, rfl, hall⟩ := hrel
  have Hall := Lib.hid hall
  clear hall
  have hsz : s.data.toList.length = s.size := Array.length_toList
  by_cases hlt : j < s.size
  ·have hlt2 : j < s.data.toList.length := by omega
   have htake : s.data.toList.take (j + 1) = s.data.toList.take j ++ [s[j]'hlt] := by
    rw [List.take_succ_eq_append_getElem hlt2]
    rfl
   have hdrop : s.data.toList.drop j = (s[j]'hlt) :: s.data.toList.drop (j + 1) := List.drop_eq_getElem_cons hlt2
   have Htake := Lib.hid htake
   have Hdrop := Lib.hid hdrop
   clear htake hdrop
   by_cases h1 : (s[j]'hlt).toNat < 97
   ·have h1' : (((s[j]'hlt).toNat : Nat) : Int) < 97 := by omega
    have hl : lower (s[j]'hlt) = false := by simp only [lower, decide_eq_false_iff_not]; omega
    have Hl := Lib.hid hl
    clear hl
    go_wp2_with fail
    go_ret
    rw [notName Hdrop.out Hl.out]
    exact ⟨rfl, rfl⟩
   ·have h1' : ¬ (((s[j]'hlt).toNat : Nat) : Int) < 97 := by omega
    by_cases h2 : 122 < (s[j]'hlt).toNat
    ·have h2' : (122 : Int) < (((s[j]'hlt).toNat : Nat) : Int) := by omega
     have hl : lower (s[j]'hlt) = false := by simp only [lower, decide_eq_false_iff_not]; omega
     have Hl := Lib.hid hl
     clear hl
     go_wp2_with fail
     go_ret
     rw [notName Hdrop.out Hl.out]
     exact ⟨rfl, rfl⟩
    ·have h2' : ¬ (122 : Int) < (((s[j]'hlt).toNat : Nat) : Int) := by omega
     have hl : lower (s[j]'hlt) = true := by simp only [lower, decide_eq_true_eq]; omega
     have Hl := Lib.hid hl
     clear hl
     go_wp2_with fail
     refine ⟨⟨j + 1, hlt, by go_num, ?_⟩, by simp [intOf]; omega⟩
     rw [Htake.out, List.all_append, Hall.out]
     simp [Hl.out]
  ·have hjs : j = s.size := by omega
   subst hjs
   have hfin : isNameB s = (decide (s.size ≠ 0) && decide (s.size ≤ 12)) := by
    have h3 := Hall.out
    rw [List.take_of_length_le (by omega)] at h3
    unfold isNameB
    rw [h3, Bool.and_true]
   have Hfin := Lib.hid hfin
   clear hfin
   by_cases h1 : s.size = 0
   ·go_wp2_with fail
    go_ret
    rw [Hfin.out]
    exact ⟨by simp [h1], rfl⟩
   ·by_cases h2 : s.size ≤ 12
    ·go_wp2_with fail
     go_ret
     rw [Hfin.out]
     refine ⟨?_, rfl⟩
     have h3 : (s.size : Int) ≤ 12 := by omega
     simp [h1, h2, h3]
    ·go_wp2_with fail
     go_ret
     rw [Hfin.out]
     refine ⟨?_, rfl⟩
     have h3 : ¬ (s.size : Int) ≤ 12 := by omega
     simp [h1, h2, h3]
structure PlAt (w : World) (b o : Nat) (p : Pl) : Prop where
 id : w.cell? ⟨b, o, none⟩ = some (.int .i64 p.n.id)
 name : w.cell? ⟨b, o + 1, none⟩ = some (.string p.n.name)
 rep : w.cell? ⟨b, o + 2, none⟩ = some (.int .i64 p.n.rep)
 kind : w.cell? ⟨b, o + 3, none⟩ = some (.int .i64 p.n.kind)
 sub : ∃ sa cap, w.cell? ⟨b, o + 4, none⟩ = some (.slice sa p.n.sub.length cap)
 deep : w.cell? ⟨b, o + 5, none⟩ = some (.int .i64 p.deep)
 around : w.cell? ⟨b, o + 6, none⟩ = some (.int .i64 p.around)
theorem PlAt.keep0 {w w' : World} {b o : Nat} {p : Pl} (h : PlAt w b o p) (hb : b < w.heap.size) (hc : Chg NoB w w') : PlAt w' b o p := by
 obtain ⟨sa, cap, hs⟩ := h.sub
 exact ⟨(hc.cell (p := ⟨b, o, none⟩) hb nbE).trans h.id, (hc.cell (p := ⟨b, o + 1, none⟩) hb nbE).trans h.name, (hc.cell (p := ⟨b, o + 2, none⟩) hb nbE).trans h.rep,
  (hc.cell (p := ⟨b, o + 3, none⟩) hb nbE).trans h.kind, ⟨sa, cap, (hc.cell (p := ⟨b, o + 4, none⟩) hb nbE).trans hs⟩, (hc.cell (p := ⟨b, o + 5, none⟩) hb nbE).trans h.deep, (hc.cell (p := ⟨b, o + 6, none⟩) hb nbE).trans h.around⟩
theorem pl_cells {w : World} {S : Nat → Prop} {l : List Pl} {a : Option Addr} {n c : Nat} (h : Reads w S (.list 7 (l.map Pl.dt)) [.slice a n c]) :
  n = l.length ∧ l.length ≤ c ∧ c ≤ maxLen ∧ (l.length ≠ 0 → ∃ b off, a = some ⟨b, off, none⟩ ∧ b < w.heap.size ∧ ∀ j p, l[j]? = some p → PlAt w b (off + j * 7) p) := by
 obtain ⟨a', c', h1, h2, h3, h4⟩ := reads_list h
 simp only [List.length_map] at h1 h2 h4
 obtain ⟨rfl, rfl, rfl⟩ := Value.slice.inj h1
 refine ⟨rfl, h2, h3, fun hne => ?_⟩
 obtain ⟨b, off, ha, hb, hlt, hE⟩ := h4 hne
 refine ⟨b, off, ha, hlt, fun j p hj => ?_⟩
 obtain ⟨cs, h5, h6, h7⟩ := hE.get j p.dt (by simp [hj])
 obtain ⟨⟨i1, n1, r1, k1, s1⟩, d1, a1⟩ := p
 obtain ⟨c, r', rfl, hnd, hrest⟩ := h7
 obtain ⟨v1, rfl, hs1⟩ := reads_nd.1 hnd
 obtain ⟨sa1, cap1, rfl, _, _, _⟩ := reads_subs hs1
 obtain ⟨c2, r2, rfl, ⟨rfl, _⟩, c3, r3, rfl, ⟨rfl, _⟩, rfl⟩ := hrest
 exact ⟨h6 0 _ rfl, h6 1 _ rfl, h6 2 _ rfl, h6 3 _ rfl, ⟨sa1, cap1, h6 4 _ rfl⟩, h6 5 _ rfl, h6 6 _ rfl⟩
end Go.Proofs.YtgcmfpcgmkkobaaGreatDoor
