/-
  append of one node to a list that lies in a row of its own.; Texts behind their length are read: wire.ReadText, shredcolref1.ReadLong.; What a text is as a file: its footer's text, entries, groups. Plain functions on bytes; no condition; no program stands here.; Numbers of so many bytes, the lowest first: shredcolref1.Little, ReadLittle; wire.Fixed, ReadFixed.
-/
import Derived.Test.YtkchmgjmecojcaaGreatDoorTree
import Derived.Maps.AppendAt
import Derived.Test.YtkchmgjmecojcaaGreatDoorOwnIn
import Derived.Laws.MakeOwn
import Derived.Deep.DeepCutAuto
set_option linter.unusedVariables false
set_option maxHeartbeats 20000000
set_option maxRecDepth 100000
set_option linter.unusedSimpArgs false
namespace Go.Proofs.YtkchmgjmecojcaaGreatDoor
open Go.RowKit
theorem TrN.cells1 {w : World} {B : Nat} {n : Nd} {cs : List Value} {F : List Nat} (h : TrN w B n cs F) : ∀ u ∈ cs, u.oneCell' = true :=
 Reads.one n.dt cs (TrN.reads (S := fun _ => True) n cs F h (fun _ _ => trivial))
theorem TrC.cells1 {w : World} {B : Nat} : ∀ {l : List Nd} {xs : List Value} {F : List Nat}, TrC w B l xs F → xs.length = l.length * 5 → ∀ u ∈ xs, u.oneCell' = true
 | [], xs, F, _, hl => by
  obtain rfl := List.eq_nil_of_length_eq_zero hl
  exact fun u hu => (List.not_mem_nil hu).elim
 | n :: ns, xs, F, h, hl => by
  obtain ⟨c, r, F1, F2, rfl, h2, h3, rfl⟩ := trC_cons.1 h
  rw [List.length_append, h2.five, List.length_cons] at hl
  intro u hu
  rcases List.mem_append.1 hu with hu | hu
  ·exact h2.cells1 u hu
  ·exact TrC.cells1 h3 (by omega) u hu
theorem TrL.owns {w : World} {B : Nat} {l : List Nd} {v : Value} {F : List Nat} (h : TrL w B l v F) : ∃ xs G, w.ownsRow B 33 5 v l.length xs ∧ xs.length = l.length * 5 ∧ TrC w B l xs G ∧ (F = G ∧ v = .slice none 0 0 ∨ ∃ b, v.ownBlock = some b ∧ F = b :: G) := by
 rcases h with ⟨rfl, rfl, rfl⟩ | ⟨b, cap, cur, F', rfl, e2, e3, e4, e5, e6, e7, rfl⟩
 ·exact ⟨[], [], World.ownsRow_nil _ _ _ _, rfl, trC_nil.2 rfl, .inl ⟨rfl, rfl⟩⟩
 ·obtain ⟨x1, x2, rfl, h2, h3⟩ := e7.junk
  refine ⟨x1, F', ⟨h2, .inr ⟨b, cap, (x1 ++ x2).toArray, rfl, e4, e5, e2, e3, by simpa using e6, ?_⟩⟩, h2, h3, .inr ⟨b, rfl, rfl⟩⟩
  rw [List.toList_toArray, ← h2, List.take_left]
theorem TrL.ofOwns {w : World} {B : Nat} {l : List Nd} {v : Value} {xs : List Value} {G : List Nat} (h : w.ownsRow B 33 5 v l.length xs) (hl : 0 < l.length) (hx : xs.length = l.length * 5) (hc : TrC w B l xs G) : ∃ g, v.ownBlock = some g ∧ TrL w B l v (g :: G) := by
 rcases h.2 with ⟨_, h0⟩ | ⟨g, cap, cur, rfl, hg, hh, hn, hcm, hcs, htk⟩
 ·omega
 ·refine ⟨g, rfl, .inr ⟨g, cap, cur.toList, G, rfl, hn, hcm, hg, ?_, by simpa using hcs, ?_, rfl⟩⟩
  ·unfold Blk; rw [hh]
  ·have := hc.more (cur.toList.drop (l.length * 5))
   rw [← htk, List.take_append_drop] at this
   exact this
section
variable {P : Program}
theorem TrL.push {w : World} {B : Nat} {l : List Nd} {v : Value} {F : List Nat} (h : TrL w B l v F) (hn : F.Nodup) {nd : Nd} {cs : List Value} {Fx : List Nat} (hx : TrN w B nd cs Fx) (hxn : Fx.Nodup) (hd : ∀ y ∈ Fx, y ∉ F)
  (t ty : TypeId) {z : Value} {bytes : Nat} (ht : P.underlying t = some (.slice 33)) (hinfo : (P.info? 33).map (fun i => (i.zero, i.size, i.bytes)) = some (some z, 5, bytes)) (hzs : z.cells.size = 5)
  {xb c : Nat} {T : TypeId} (hb : Blk w xb cs T) (h63 : l.length + 1 ≤ maxLen) (hbytes : (l.length + 1) * bytes ≤ 140737488355328) (hB : B ≤ w.heap.size) :
  ∃ ao cap w' F', (Builtin.append_ #[t, t] ty #[v, .slice (some ⟨xb, 0, none⟩) 1 c]).run P w = .ok (.slice ao (l.length + 1) cap) w' ∧ TrL w' B (l ++ [nd]) (.slice ao (l.length + 1) cap) F' ∧ F'.Nodup ∧ (∀ y ∈ F', y ∈ F ∨ y ∈ Fx ∨ y = w.heap.size) ∧
   Chg (fun b => v.ownBlock = some b) w w' ∧ ((Value.slice ao (l.length + 1) cap).ownBlock = v.ownBlock ∨ (Value.slice ao (l.length + 1) cap).ownBlock = some w.heap.size) := by
 obtain ⟨i, hi, hz, hsz, hby⟩ := info_parts hinfo
 obtain ⟨xs, G, h1, h2, h3, h4⟩ := h.owns
 obtain ⟨v', w', r1, r2, r3, _, r5⟩ := run_append_own_at (P := P) w B t ty 33 i z 5 bytes ht hi hz hsz hby hzs (by decide) v l.length xs h1 ⟨xb, 0, none⟩ 1 c cs (by rw [hx.five]) (fun j u hj => by rw [Addr.add_lit, Nat.zero_add, hb.cell]; exact hj) hx.cells1 h63 hbytes hB
 have hlt := h.lt
 have hltx := TrN.lt nd cs Fx hx
 have hGF : ∀ y ∈ G, y ∈ F := fun y hy => by
  rcases h4 with ⟨rfl, _⟩ | ⟨b, _, rfl⟩
  ·exact hy
  ·exact List.mem_cons_of_mem _ hy
 have hown : ∀ b, v.ownBlock = some b → b ∈ F ∧ b ∉ G := fun b hvb => by
  rcases h4 with ⟨rfl, rfl⟩ | ⟨b', hb', rfl⟩
  ·cases hvb
  ·obtain rfl := Option.some.inj (hb'.symm.trans hvb)
   exact ⟨List.mem_cons_self .., (List.nodup_cons.1 hn).1⟩
 have hGn : G.Nodup := by
  rcases h4 with ⟨rfl, _⟩ | ⟨b', _, rfl⟩
  ·exact hn
  ·exact (List.nodup_cons.1 hn).2
 have hkeep : ∀ y, y < w.heap.size → v.ownBlock ≠ some y → w'.heap[y]? = w.heap[y]? := fun y hy hne => r3.block y hy (fun e => hne e.symm)
 have hG' := TrC.keep l xs G h3 (fun y hy => hkeep y (hlt y (hGF y hy)).2 (fun e => (hown y e).2 hy))
 have hX' := TrN.keep nd cs Fx hx (fun y hy => hkeep y (hltx y hy).2 (fun e => hd y hy (hown y e).1))
 have hC' := trC_split.2 ⟨xs, cs, G, Fx, rfl, h2, hG', trC_cons.2 ⟨cs, [], Fx, [], by simp, hX', trC_nil.2 rfl, by simp⟩, rfl⟩
 have hlen : (l ++ [nd]).length = l.length + 1 := by simp
 rw [← hlen] at r2
 obtain ⟨g, hg, hT⟩ := TrL.ofOwns r2 (by rw [hlen]; omega) (by rw [List.length_append, h2, hx.five, hlen]; omega) hC'
 obtain ⟨ao, cap, rfl, _, _⟩ := hT.form
 rw [hlen] at hT r5 hg r1
 refine ⟨ao, cap, w', g :: (G ++ Fx), r1, hT, ?_, ?_, (Chg.refl _ w).grown r3 (fun j hj => .inl hj), r5⟩
 ·rw [List.nodup_cons, List.nodup_append, List.mem_append, not_or]
  have hgn : g ∉ G ∧ g ∉ Fx := by
   rcases r5 with e | e
   ·have e2 := e.symm.trans hg
    exact ⟨(hown g e2).2, fun h9 => hd g h9 (hown g e2).1⟩
   ·have e2 : w.heap.size = g := Option.some.inj (e.symm.trans hg)
    exact ⟨fun h9 => by have := (hlt g (hGF g h9)).2; omega, fun h9 => by have := (hltx g h9).2; omega⟩
  exact ⟨hgn, hGn, hxn, fun x hx y hy e => hd y hy (e ▸ hGF x hx)⟩
 ·intro y hy
  rcases List.mem_cons.1 hy with rfl | hy
  ·rcases r5 with e | e
   ·exact .inl (hown y (e.symm.trans hg)).1
   ·exact .inr (.inr (Option.some.inj (e.symm.trans hg)).symm)
  ·rcases List.mem_append.1 hy with hy | hy
   ·exact .inl (hGF y hy)
   ·exact .inr (.inl hy)
def OwnT (w : World) (B : Nat) (S : Nat → Prop) (v : Value) (l : List Nd) : Prop := ∃ F, TrL w B l v F ∧ F.Nodup ∧ ∀ x ∈ F, S x
theorem OwnT.nil (w : World) (B : Nat) (S : Nat → Prop) : OwnT w B S (.slice none 0 0) [] := ⟨[], .inl ⟨rfl, rfl, rfl⟩, List.nodup_nil, fun x hx => (List.not_mem_nil hx).elim⟩
theorem OwnT.form {w : World} {B : Nat} {S : Nat → Prop} {v : Value} {l : List Nd} (h : OwnT w B S v l) : ∃ a c, v = .slice a l.length c ∧ l.length ≤ c ∧ c ≤ maxLen := by
 obtain ⟨F, h1, _⟩ := h
 exact h1.form
theorem OwnT.keep {C : Nat → Prop} {w w' : World} {B : Nat} {S : Nat → Prop} {v : Value} {l : List Nd} (h : OwnT w B S v l) (hc : Chg C w w') (hn : ∀ b, B ≤ b → S b → ¬ C b) : OwnT w' B S v l := by
 obtain ⟨F, h1, h2, h3⟩ := h
 exact ⟨F, h1.keep (fun x hx => hc.block x (h1.lt x hx).2 (hn x (h1.lt x hx).1 (h3 x hx))), h2, h3⟩
theorem OwnT.inHeap {w : World} {B : Nat} {S : Nat → Prop} {v : Value} {l : List Nd} (h : OwnT w B S v l) : OwnT w B (fun b => S b ∧ b < w.heap.size) v l := by
 obtain ⟨F, h1, h2, h3⟩ := h
 exact ⟨F, h1, h2, fun x hx => ⟨h3 x hx, (h1.lt x hx).2⟩⟩
theorem OwnT.mono {w : World} {B B' : Nat} {S S' : Nat → Prop} {v : Value} {l : List Nd} (h : OwnT w B S v l) (hB : B' ≤ B) (hS : ∀ b, S b → S' b) : OwnT w B' S' v l := by
 obtain ⟨F, h1, h2, h3⟩ := h
 exact ⟨F, h1.mono hB, h2, fun x hx => hS x (h3 x hx)⟩
theorem OwnT.block {w : World} {B : Nat} {S : Nat → Prop} {v : Value} {l : List Nd} (h : OwnT w B S v l) : ∀ b, v.ownBlock = some b → B ≤ b ∧ b < w.heap.size ∧ S b := by
 obtain ⟨F, h1, h2, h3⟩ := h
 intro b hb
 obtain ⟨xs, G, _, _, _, h4⟩ := h1.owns
 rcases h4 with ⟨_, rfl⟩ | ⟨b', hb', rfl⟩
 ·cases hb
 ·obtain rfl := Option.some.inj (hb'.symm.trans hb)
  have := h1.lt b' (List.mem_cons_self ..)
  exact ⟨this.1, this.2, h3 b' (List.mem_cons_self ..)⟩
theorem OwnT.reads {w : World} {B : Nat} {S S' : Nat → Prop} {v : Value} {l : List Nd} (h : OwnT w B S v l) (hS : ∀ b, B ≤ b → S b → S' b) : Reads w S' (.list 5 (Nd.dts l)) [v] := by
 obtain ⟨F, h1, h2, h3⟩ := h
 exact h1.reads (fun x hx => hS x (h1.lt x hx).1 (h3 x hx))
theorem wpList_ownT {w : World} {ops : Array Oper} {rest : List Oper} {o : Oper} {a : Act} {Q : Exit → Act → World → Prop} (hgd : o.guard = none) (s x : Operand) (t : TypeId) (ho : o.op = .call { callee := .builtin .append, args := #[s, x], argTypes := #[t, t] })
  (B : Nat) {bytes : Nat} {z : Value} (ht : P.underlying t = some (.slice 33)) (hinfo : (P.info? 33).map (fun i => (i.zero, i.size, i.bytes)) = some (some z, 5, bytes)) (hzs : z.cells.size = 5)
  {S : Nat → Prop} {v : Value} {l : List Nd} (hs : a.eval s = v) (hown : OwnT w B S v l) {nd : Nd} {cs : List Value} (hx : ∃ Fx, TrN w B nd cs Fx ∧ Fx.Nodup ∧ ∀ y ∈ Fx, ¬ S y)
  {xb c : Nat} {T : TypeId} (hxv : a.eval x = .slice (some ⟨xb, 0, none⟩) 1 c) (hb : Blk w xb cs T) (h63 : l.length + 1 ≤ maxLen) (hbytes : (l.length + 1) * bytes ≤ 140737488355328) (hB : B ≤ w.heap.size)
  (h : ∀ ao cap w', OwnT w' B (fun _ => True) (.slice ao (l.length + 1) cap) (l ++ [nd]) → Chg (fun b => v.ownBlock = some b) w w' → wpList P ops Q rest (a.put o.dst (.slice ao (l.length + 1) cap)) w') : wpList P ops Q (o :: rest) a w := by
 obtain ⟨F, h1, h2, h3⟩ := hown
 obtain ⟨Fx, g1, g2, g3⟩ := hx
 obtain ⟨ao, cap, w', F', k1, k2, k3, _, k5, _⟩ := h1.push h2 g1 g2 (fun y hy h9 => g3 y hy (h3 y h9)) t o.type ht hinfo hzs hb h63 hbytes hB (c := c)
 refine wpList_plain hgd fun _ hK => ?_
 unfold Oper.wp execOp
 simp only [ho, resolve, invoke, builtin, Sem.run_bind, Sem.run_pure, Result.andThen_ok, List.map_toArray, List.map_cons, List.map_nil, hs, hxv, k1]
 exact hK _ _ (h ao cap w' ⟨F', k2, k3, fun _ _ => trivial⟩ k5)
end
def longU : Option (List UInt8 × Nat) → Value
 | none => .tuple #[.string ⟨#[]⟩, .int .i64 0]
 | some (x, k) => .tuple #[.string ⟨x.toArray⟩, .int .i64 k]
def longV (e : Value) : Option (List UInt8 × Nat) → Value
 | none => .tuple #[.string ⟨#[]⟩, .int .i64 0, e]
 | some (x, k) => .tuple #[.string ⟨x.toArray⟩, .int .i64 k, .nilIface]
theorem longU_none {o : Option (List UInt8 × Nat)} (h : o = none) : Ending.returned (.tuple #[.string ⟨#[]⟩, .int .i64 0]) = .returned (longU o) := by subst h; rfl
theorem longU_some {o : Option (List UInt8 × Nat)} {s : ByteArray} {b : Int} {x : List UInt8} {k : Nat} (h : o = some (x, k)) (ha : s = ⟨x.toArray⟩) (hb : b = k) : Ending.returned (.tuple #[.string s, .int .i64 b]) = .returned (longU o) := by subst h ha hb; rfl
theorem longV_none {e : Value} {o : Option (List UInt8 × Nat)} (h : o = none) : Ending.returned (.tuple #[.string ⟨#[]⟩, .int .i64 0, e]) = .returned (longV e o) := by subst h; rfl
theorem longV_some {e : Value} {o : Option (List UInt8 × Nat)} {s : ByteArray} {b : Int} {x : List UInt8} {k : Nat} (h : o = some (x, k)) (ha : s = ⟨x.toArray⟩) (hb : b = k) : Ending.returned (.tuple #[.string s, .int .i64 b, .nilIface]) = .returned (longV e o) := by subst h ha hb; rfl
theorem ext_of (s : ByteArray) (a b : Nat) : s.extract a b = ⟨((s.data.toList.drop a).take (b - a)).toArray⟩ := by
 apply ByteArray.ext
 apply Array.toList_inj.1
 rw [ByteArray.data_extract, Array.toList_extract, List.extract_eq_take_drop]
theorem lt_cell {w : World} {p : Addr} {v : Value} (h : w.cell? p = some v) : p.block < w.heap.size := by
 unfold World.cell? at h
 cases hb : w.heap[p.block]? with
 | none => rw [hb] at h; simp at h
 | some o => exact lt_of_block hb
theorem size_list (s : ByteArray) : s.data.toList.length = s.size := Array.length_toList
theorem readLong_any (s : ByteArray) (w : World) (hs : s.size ≤ 9000000000000000000) : Calls Tryz.prog 36 #[.string s] w (RetV (longU (longR s.data.toList)) w) := by
 have hsz := size_list s
 have Hsz := Lib.hid hsz
 clear hsz
 go_enter Tryz.func36, Tryz.ntmps36
 go_wp2_with fail
 refine (readSeven_any s w hs).mono ?_
 rintro en w1 ⟨rfl, hc1⟩
 cases hsv : sev s.data.toList with
 | none =>
  have H := Lib.hid hsv
  clear hsv
  simp only [sevU]
  go_wp2_with fail
  go_ret2
  exact ⟨longU_none (longR_none H.out), hc1⟩
 | some p =>
  obtain ⟨n, u⟩ := p
  obtain ⟨b1, b2, b3, b4⟩ := sev_some hsv
  rw [Hsz.out] at b3
  have H := Lib.hid hsv
  clear hsv
  have hu : ((u : Int) == 0) = false := by simp; omega
  simp only [sevU]
  by_cases hn : 200000 < n
  ·have hn' : (200000 : Int) < (n : Int) := by omega
   go_wp2_with fail
   go_ret2
   exact ⟨longU_none (longR_bad H.out (.inl hn)), hc1⟩
  ·have hn' : (n : Int) ≤ 200000 := by omega
   by_cases hl : s.size < u + n
   ·have hl' : (s.size : Int) - (u : Int) < (n : Int) := by omega
    go_wp2_with fail
    go_ret2
    exact ⟨longU_none (longR_bad H.out (.inr (by rw [Hsz.out]; exact hl))), hc1⟩
   ·have hl' : (n : Int) ≤ (s.size : Int) - (u : Int) := by omega
    go_wp2_with fail
    go_ret2
    refine ⟨longU_some (x := (s.data.toList.drop u).take n) (k := u + n) (longR_ok H.out (by omega) (by rw [Hsz.out]; omega)) ?_ rfl, hc1⟩
    show s.extract _ _ = _
    rw [ext_of]
    congr 3
    omega
theorem readText_any (s : ByteArray) (w : World) (e : Value) (he : ∃ T v, e = .iface T v) (hce : w.cell? ⟨1, 0, none⟩ = some e) (hs : s.size ≤ 9000000000000000000) :
  Calls Tryz.prog 60 #[.string s] w (RetV (longV e (longR s.data.toList)) w) := by
 have hsz := size_list s
 have Hsz := Lib.hid hsz
 clear hsz
 have hlt : (1 : Nat) < w.heap.size := lt_cell hce
 obtain ⟨T, v, rfl⟩ := he
 go_enter Tryz.func60, Tryz.ntmps60
 go_wp2_with fail
 refine (readUvarint_any s w _ ⟨T, v, rfl⟩ hce hs).mono ?_
 rintro en w1 ⟨rfl, hc1⟩
 have hce1 := (hc1.cell hlt nbE).trans hce
 cases hsv : sev s.data.toList with
 | none =>
  have H := Lib.hid hsv
  clear hsv
  simp only [sevV]
  go_wp2_with fail
  go_ret3
  exact ⟨longV_none (longR_none H.out), hc1⟩
 | some p =>
  obtain ⟨n, u⟩ := p
  obtain ⟨b1, b2, b3, b4⟩ := sev_some hsv
  rw [Hsz.out] at b3
  have H := Lib.hid hsv
  clear hsv
  simp only [sevV]
  by_cases hn : 200000 < n
  ·have hn' : (200000 : Int) < (n : Int) := by omega
   go_wp2_with fail
   go_quiet (fail)
   go_wp2_with fail
   go_ret3
   exact ⟨longV_none (longR_bad H.out (.inl hn)), hc1.drewN _⟩
  ·have hn' : (n : Int) ≤ 200000 := by omega
   by_cases hl : s.size < u + n
   ·have hl' : (s.size : Int) < (u : Int) + (n : Int) := by omega
    go_wp2_with fail
    go_quiet (fail)
    go_wp2_with fail
    go_ret3
    exact ⟨longV_none (longR_bad H.out (.inr (by rw [Hsz.out]; exact hl))), hc1.drewN _⟩
   ·have hl' : (u : Int) + (n : Int) ≤ (s.size : Int) := by omega
    go_wp2_with fail
    go_ret3
    refine ⟨longV_some (x := (s.data.toList.drop u).take n) (k := u + n) (longR_ok H.out (by omega) (by rw [Hsz.out]; omega)) ?_ rfl, hc1⟩
    show s.extract _ _ = _
    rw [ext_of]
    congr 3
    omega
theorem dat_list (l : List UInt8) : (⟨l.toArray⟩ : ByteArray).data.toList = l := by simp
theorem siz_list (l : List UInt8) : (⟨l.toArray⟩ : ByteArray).size = l.length := by simp [ByteArray.size]
theorem ruL_any (l : List UInt8) (w : World) (e : Value) (he : ∃ T v, e = .iface T v) (hce : w.cell? ⟨1, 0, none⟩ = some e) (hs : l.length ≤ 9000000000000000000) :
  Calls Tryz.prog 59 #[.string ⟨l.toArray⟩] w (RetV (sevV e (sev l)) w) := by
 have h := readUvarint_any ⟨l.toArray⟩ w e he hce (by rw [siz_list]; exact hs)
 rwa [dat_list] at h
theorem rtL_any (l : List UInt8) (w : World) (e : Value) (he : ∃ T v, e = .iface T v) (hce : w.cell? ⟨1, 0, none⟩ = some e) (hs : l.length ≤ 9000000000000000000) :
  Calls Tryz.prog 60 #[.string ⟨l.toArray⟩] w (RetV (longV e (longR l)) w) := by
 have h := readText_any ⟨l.toArray⟩ w e he hce (by rw [siz_list]; exact hs)
 rwa [dat_list] at h
theorem rsL_any (l : List UInt8) (w : World) (hs : l.length ≤ 9000000000000000000) :
  Calls Tryz.prog 35 #[.string ⟨l.toArray⟩] w (RetV (sevU (sev l)) w) := by
 have h := readSeven_any ⟨l.toArray⟩ w (by rw [siz_list]; exact hs)
 rwa [dat_list] at h
theorem rlL_any (l : List UInt8) (w : World) (hs : l.length ≤ 9000000000000000000) :
  Calls Tryz.prog 36 #[.string ⟨l.toArray⟩] w (RetV (longU (longR l)) w) := by
 have h := readLong_any ⟨l.toArray⟩ w (by rw [siz_list]; exact hs)
 rwa [dat_list] at h
theorem extL (l : List UInt8) (a : Nat) : (⟨l.toArray⟩ : ByteArray).extract a l.length = ⟨(l.drop a).toArray⟩ := by
 rw [ext_of, dat_list, List.take_of_length_le (by rw [List.length_drop]; exact Nat.le_refl _)]
def strL : Value → Nat
 | .string s => s.size
 | _ => 0
def magicL : List UInt8 := [83, 72, 67, 49]
inductive FtR where
 | bad (e : Nat)
 | ok (n : Nat)
def footLen (l : List UInt8) : Nat := leV ((l.drop (l.length - 12)).take 4)
def footSum (l : List UInt8) : Nat := leV ((l.drop (l.length - 8)).take 4)
def footText (l : List UInt8) (n : Nat) : List UInt8 := (l.drop (l.length - 12 - n)).take n
def footF (l : List UInt8) : FtR :=
 if 200000 < l.length then .bad 2
 else if l.length < 16 ∨ l.take 4 ≠ magicL ∨ l.drop (l.length - 4) ≠ magicL then .bad 1
 else if l.length - 16 < footLen l then .bad 1
 else if footSum l ≠ crcF (footText l (footLen l)) then .bad 7
 else .ok (footLen l)
theorem foot_big {l : List UInt8} (h : 200000 < l.length) : footF l = .bad 2 := if_pos h
theorem foot_form {l : List UInt8} (h : l.length ≤ 200000) (h1 : l.length < 16 ∨ l.take 4 ≠ magicL ∨ l.drop (l.length - 4) ≠ magicL) : footF l = .bad 1 := by
 unfold footF; rw [if_neg (by omega), if_pos h1]
theorem foot_len {l : List UInt8} (h : l.length ≤ 200000) (h1 : 16 ≤ l.length) (h2 : l.take 4 = magicL) (h3 : l.drop (l.length - 4) = magicL) (h4 : l.length - 16 < footLen l) : footF l = .bad 1 := by
 unfold footF; rw [if_neg (by omega), if_neg (by rintro (a | a | a); omega; exact a h2; exact a h3), if_pos h4]
theorem foot_sum {l : List UInt8} (h : l.length ≤ 200000) (h1 : 16 ≤ l.length) (h2 : l.take 4 = magicL) (h3 : l.drop (l.length - 4) = magicL) (h4 : footLen l ≤ l.length - 16) (h5 : footSum l ≠ crcF (footText l (footLen l))) : footF l = .bad 7 := by
 unfold footF; rw [if_neg (by omega), if_neg (by rintro (a | a | a); omega; exact a h2; exact a h3), if_neg (by omega), if_pos h5]
theorem foot_fine {l : List UInt8} (h : l.length ≤ 200000) (h1 : 16 ≤ l.length) (h2 : l.take 4 = magicL) (h3 : l.drop (l.length - 4) = magicL) (h4 : footLen l ≤ l.length - 16) (h5 : footSum l = crcF (footText l (footLen l))) : footF l = .ok (footLen l) := by
 unfold footF; rw [if_neg (by omega), if_neg (by rintro (a | a | a); omega; exact a h2; exact a h3), if_neg (by omega), if_neg (fun e => e h5)]
theorem foot_le {l : List UInt8} {n : Nat} (h : footF l = .ok n) : n + 16 ≤ l.length ∧ l.length ≤ 200000 := by
 unfold footF at h
 split at h
 ·cases h
 ·split at h
  ·cases h
  ·rename_i h1
   split at h
   ·cases h
   ·split at h
    ·cases h
    ·cases h
     have : ¬ l.length < 16 := fun e => h1 (.inl e)
     omega
def entF : Nat → Nat → List UInt8 → List UInt8 → List UInt8 → Option (List UInt8 × List UInt8)
 | 0, _, _, _, _ => none
 | m + 1, seen, t, g, l =>
  if l = [] then (if seen = 2 then some (t, g) else none) else
  match sev l with
  | none => none
  | some (n, u) =>
   if n = 0 then none else
   match longR (l.drop u) with
   | none => none
   | some (x, k) =>
    if 2 < n then entF m seen t g (l.drop (u + k))
    else if n ≠ seen + 1 then none
    else if n = 1 then entF m (seen + 1) x g (l.drop (u + k))
    else entF m (seen + 1) t x (l.drop (u + k))
theorem ent_end {m seen : Nat} {t g : List UInt8} : entF (m + 1) seen t g [] = if seen = 2 then some (t, g) else none := by simp [entF]
theorem ent_num {m seen : Nat} {t g l : List UInt8} (h : l ≠ []) (h1 : sev l = none) : entF (m + 1) seen t g l = none := by
 unfold entF; rw [if_neg h, h1]
theorem ent_zero {m seen u : Nat} {t g l : List UInt8} (h : l ≠ []) (h1 : sev l = some (0, u)) : entF (m + 1) seen t g l = none := by
 unfold entF; rw [if_neg h, h1]; rfl
theorem ent_long {m seen n u : Nat} {t g l : List UInt8} (h : l ≠ []) (h1 : sev l = some (n, u)) (h2 : longR (l.drop u) = none) : entF (m + 1) seen t g l = none := by
 unfold entF; rw [if_neg h, h1]; simp only [h2]; split <;> rfl
theorem ent_more {m seen n u k : Nat} {t g l x : List UInt8} (h : l ≠ []) (h1 : sev l = some (n, u)) (h2 : longR (l.drop u) = some (x, k)) (hn : 2 < n) : entF (m + 1) seen t g l = entF m seen t g (l.drop (u + k)) := by
 conv => lhs; unfold entF
 rw [if_neg h, h1]; simp only [h2]; rw [if_neg (by omega), if_pos hn]
theorem ent_order {m seen n u k : Nat} {t g l x : List UInt8} (h : l ≠ []) (h1 : sev l = some (n, u)) (h2 : longR (l.drop u) = some (x, k)) (hn : n ≤ 2) (hs : n ≠ seen + 1) : entF (m + 1) seen t g l = none := by
 unfold entF
 rw [if_neg h, h1]; simp only [h2]; split
 ·rfl
 ·simp [show ¬ 2 < n by omega]
theorem ent_one {m u k : Nat} {t g l x : List UInt8} (h : l ≠ []) (h1 : sev l = some (1, u)) (h2 : longR (l.drop u) = some (x, k)) : entF (m + 1) 0 t g l = entF m 1 x g (l.drop (u + k)) := by
 conv => lhs; unfold entF
 rw [if_neg h, h1]; simp only [h2]; rw [if_neg (by omega), if_neg (by omega), if_neg (by omega), if_pos trivial]
theorem ent_two {m u k : Nat} {t g l x : List UInt8} (h : l ≠ []) (h1 : sev l = some (2, u)) (h2 : longR (l.drop u) = some (x, k)) : entF (m + 1) 1 t g l = entF m 2 t x (l.drop (u + k)) := by
 conv => lhs; unfold entF
 rw [if_neg h, h1]; simp only [h2]; rw [if_neg (by omega), if_neg (by omega), if_neg (by omega), if_neg (by omega)]
def numsF : Nat → List UInt8 → Option (List Nat)
 | 0, _ => none
 | m + 1, l =>
  if l = [] then some [] else
  match sev l with
  | none => none
  | some (n, u) => if 200000 < n then none else (numsF m (l.drop u)).map (n :: ·)
theorem nums_end {m : Nat} : numsF (m + 1) [] = some [] := rfl
theorem nums_bad {m : Nat} {l : List UInt8} (h : l ≠ []) (h1 : sev l = none) : numsF (m + 1) l = none := by
 unfold numsF; rw [if_neg h, h1]
theorem nums_big {m n u : Nat} {l : List UInt8} (h : l ≠ []) (h1 : sev l = some (n, u)) (h2 : 200000 < n) : numsF (m + 1) l = none := by
 unfold numsF; rw [if_neg h, h1]; exact if_pos h2
theorem nums_more {m n u : Nat} {l : List UInt8} (h : l ≠ []) (h1 : sev l = some (n, u)) (h2 : n ≤ 200000) : numsF (m + 1) l = (numsF m (l.drop u)).map (n :: ·) := by
 conv => lhs; unfold numsF
 rw [if_neg h, h1]; exact if_neg (by omega)
theorem nums_le : ∀ (m : Nat) (l : List UInt8) (r : List Nat), numsF m l = some r → r.length ≤ l.length ∧ ∀ x ∈ r, x ≤ 200000
 | 0, _, _, h => by cases h
 | m + 1, l, r, h => by
  unfold numsF at h
  split at h
  ·cases h; simp
  ·split at h
   ·cases h
   ·rename_i n u hs
    have hu := sev_some hs
    split at h
    ·cases h
    ·rename_i hn
     obtain ⟨r', hr, rfl⟩ := Option.map_eq_some_iff.1 h
     have := nums_le m _ _ hr
     rw [List.length_drop] at this
     refine ⟨by simp only [List.length_cons]; omega, fun x hx => ?_⟩
     rcases List.mem_cons.1 hx with rfl | hx
     ·omega
     ·exact this.2 x hx
structure Pt where
 n : Nat
 l : List (Nat × Nat)
def spotAt (q : List Nat) (a : Nat) : Nat → Nat
 | 0 => a
 | i + 1 => spotAt q a i + q.getD (2 + 2 * i) 0
def spotOk (q : List Nat) (a : Nat) : Nat → Bool
 | 0 => true
 | i + 1 => spotOk q a i && decide (q.getD (1 + 2 * i) 0 = spotAt q a i)
def spotsOf (q : List Nat) (k : Nat) : List (Nat × Nat) := (List.range k).map fun i => (q.getD (1 + 2 * i) 0, q.getD (2 + 2 * i) 0)
def grpF (k : Nat) : Nat → Nat → List Nat → Option (List Pt × Nat)
 | 0, a, _ => some ([], a)
 | m + 1, a, q =>
  if spotOk q a k = true ∧ q.getD 0 0 ≠ 0 then (grpF k m (spotAt q a k) (q.drop (1 + 2 * k))).map fun r => (⟨q.getD 0 0, spotsOf q k⟩ :: r.1, r.2)
  else none
theorem grp_bad {k m a : Nat} {q : List Nat} (h : spotOk q a k = false ∨ q.getD 0 0 = 0) : grpF k (m + 1) a q = none := by
 unfold grpF
 refine if_neg (fun e => ?_)
 rcases h with h | h
 ·rw [h] at e; cases e.1
 ·exact e.2 h
theorem grp_more {k m a : Nat} {q : List Nat} (h : spotOk q a k = true) (h2 : q.getD 0 0 ≠ 0) : grpF k (m + 1) a q = (grpF k m (spotAt q a k) (q.drop (1 + 2 * k))).map fun r => (⟨q.getD 0 0, spotsOf q k⟩ :: r.1, r.2) := by
 conv => lhs; unfold grpF
 exact if_pos ⟨h, h2⟩
theorem spotAt_le (q : List Nat) (a : Nat) : ∀ i, a ≤ spotAt q a i
 | 0 => Nat.le_refl _
 | i + 1 => Nat.le_trans (spotAt_le q a i) (Nat.le_add_right _ _)
theorem spotOk_false {q : List Nat} {a i : Nat} (h : spotOk q a i = false) : ∀ k, i ≤ k → spotOk q a k = false := by
 intro k hk
 induction k with
 | zero =>
  have : i = 0 := by omega
  subst this; exact h
 | succ k ih =>
  by_cases e : i = k + 1
  ·subst e; exact h
  ·simp [spotOk, ih (by omega)]
theorem spotOk_miss {q : List Nat} {a i k : Nat} (hi : i < k) (h : q.getD (1 + 2 * i) 0 ≠ spotAt q a i) : spotOk q a k = false :=
 spotOk_false (i := i + 1) (by simp [spotOk]; intro _; exact h) k hi
theorem spotAt_bd {q : List Nat} {b : Nat} (hq : ∀ x ∈ q, x ≤ b) (a : Nat) : ∀ i, spotAt q a i ≤ a + i * b
 | 0 => by simp [spotAt]
 | i + 1 => by
  have h1 := spotAt_bd hq a i
  have h2 : q.getD (2 + 2 * i) 0 ≤ b := by
   rw [List.getD_eq_getElem?_getD]
   by_cases h : 2 + 2 * i < q.length
   ·rw [List.getElem?_eq_getElem h]; exact hq _ (List.getElem_mem h)
   ·rw [List.getElem?_eq_none (by omega)]; exact Nat.zero_le _
  have e : (i + 1) * b = i * b + b := Nat.succ_mul i b
  simp only [spotAt]
  rw [e]
  omega
theorem grp_le {k : Nat} : ∀ (m a : Nat) (q : List Nat) (r : List Pt) (b : Nat), grpF k m a q = some (r, b) → a ≤ b
 | 0, a, _, _, _, h => by cases h; exact Nat.le_refl _
 | m + 1, a, q, r, b, h => by
  unfold grpF at h
  split at h
  ·obtain ⟨⟨r', b'⟩, hr, he⟩ := Option.map_eq_some_iff.1 h
   simp only [Prod.mk.injEq] at he
   obtain ⟨_, rfl⟩ := he
   exact Nat.le_trans (spotAt_le q a k) (grp_le m _ _ _ _ hr)
  ·cases h
def partF (k last : Nat) (g : List UInt8) : Option (List Pt) :=
 match numsF (g.length + 1) g with
 | none => none
 | some q =>
  if q.length % (1 + 2 * k) ≠ 0 then none else
  match grpF k (q.length / (1 + 2 * k)) 4 q with
  | none => none
  | some (r, b) => if b = last then some r else none
theorem part_nums {k last : Nat} {g : List UInt8} (h : numsF (g.length + 1) g = none) : partF k last g = none := by unfold partF; rw [h]
theorem part_size {k last : Nat} {g : List UInt8} {q : List Nat} (h : numsF (g.length + 1) g = some q) (h2 : q.length % (1 + 2 * k) ≠ 0) : partF k last g = none := by unfold partF; rw [h]; exact if_pos h2
theorem part_grp {k last : Nat} {g : List UInt8} {q : List Nat} (h : numsF (g.length + 1) g = some q) (h2 : q.length % (1 + 2 * k) = 0) : partF k last g = match grpF k (q.length / (1 + 2 * k)) 4 q with
  | none => none
  | some (r, b) => if b = last then some r else none := by unfold partF; rw [h]; exact if_neg (fun e => e h2)
def wrapL (body foot : List UInt8) : List UInt8 := magicL ++ body ++ foot ++ leL 4 foot.length ++ leL 4 (crcF foot) ++ magicL
def entryL (n : Nat) (s : List UInt8) : List UInt8 := Lib.uvarint n ++ longL s
theorem wrap_length (b f : List UInt8) : (wrapL b f).length = b.length + f.length + 16 := by
 simp [wrapL, leL_length, magicL] <;> omega
theorem drop_at {l a b : List UInt8} {n : Nat} (h : l = a ++ b) (hn : a.length = n) : l.drop n = b := by subst h hn; exact List.drop_left
theorem take_at {l a b : List UInt8} {n : Nat} (h : l = a ++ b) (hn : a.length = n) : l.take n = a := by subst h hn; exact List.take_left
theorem foot_wrap {b f : List UInt8} (h : (wrapL b f).length ≤ 200000) : footF (wrapL b f) = .ok f.length ∧ footText (wrapL b f) f.length = f := by
 have hl := wrap_length b f
 have hf : f.length < 256 ^ 4 := Nat.lt_of_le_of_lt (by omega) (by decide : 200000 < 256 ^ 4)
 have e1 : leV (leL 4 f.length) = f.length := leV_leL 4 _ hf
 have e2 : leV (leL 4 (crcF f)) = crcF f := leV_leL 4 _ (crcF_lt f)
 have d1 : (wrapL b f).drop ((wrapL b f).length - 12) = leL 4 f.length ++ (leL 4 (crcF f) ++ magicL) := by
  refine drop_at (a := magicL ++ b ++ f) (by simp [wrapL]) ?_
  rw [hl]; simp [magicL] <;> omega
 have d2 : (wrapL b f).drop ((wrapL b f).length - 8) = leL 4 (crcF f) ++ magicL := by
  refine drop_at (a := magicL ++ b ++ f ++ leL 4 f.length) (by simp [wrapL]) ?_
  rw [hl]; simp [magicL, leL_length] <;> omega
 have d3 : (wrapL b f).drop ((wrapL b f).length - 4) = magicL := by
  refine drop_at (a := magicL ++ b ++ f ++ leL 4 f.length ++ leL 4 (crcF f)) (by simp [wrapL]) ?_
  rw [hl]; simp [magicL, leL_length] <;> omega
 have d4 : (wrapL b f).take 4 = magicL := take_at (b := b ++ f ++ leL 4 f.length ++ leL 4 (crcF f) ++ magicL) (by simp [wrapL]) rfl
 have d5 : (wrapL b f).drop ((wrapL b f).length - 12 - f.length) = f ++ (leL 4 f.length ++ (leL 4 (crcF f) ++ magicL)) := by
  refine drop_at (a := magicL ++ b) (by simp [wrapL]) ?_
  rw [hl]; simp [magicL] <;> omega
 have f1 : footLen (wrapL b f) = f.length := by
  unfold footLen; rw [d1, take_at rfl (leL_length 4 _), e1]
 have f2 : footSum (wrapL b f) = crcF f := by
  unfold footSum; rw [d2, take_at rfl (leL_length 4 _), e2]
 have f3 : footText (wrapL b f) f.length = f := by
  unfold footText; rw [d5, take_at rfl rfl]
 refine ⟨?_, f3⟩
 have := foot_fine h (by omega) d4 d3 (by rw [f1]; omega) (by rw [f1, f2, f3])
 rw [this, f1]
theorem leL_snoc : ∀ (k n : Nat), leL (k + 1) n = leL k n ++ [(n / 256 ^ k % 256).toUInt8]
 | 0, n => by simp [leL]
 | k + 1, n => by
  have h := leL_snoc k (n / 256)
  have e : n / 256 ^ (k + 1) = n / 256 / 256 ^ k := by rw [Nat.div_div_eq_div_mul, Nat.pow_succ, Nat.mul_comm]
  rw [leL, h, e]
  rfl
def LeRel (k n : Nat) (w : World) (vn vo vi : Value) (wr : World) : Prop := ∃ (i m : Nat), i ≤ k ∧ vi = .int .i64 (i : Nat) ∧ vn = .int .u64 (m : Nat) ∧ m = n / 256 ^ i ∧ vo = .string ⟨(leL i n).toArray⟩ ∧ Chg NoB w wr
theorem little_any (k n : Nat) (w : World) (hn : n < 18446744073709551616) (hk : k ≤ 1000) : Calls Tryz.prog 39 #[.int .u64 (n : Nat), .int .i64 (k : Nat)] w (RetV (.string ⟨(leL k n).toArray⟩) w) := by
 go_enter Tryz.func39, Tryz.ntmps39
 go_wp2_with fail
 go_loopw [0, 5, 6] (LeRel k n w) (fun _ _ vi _ => k - (intOf vi).toNat)
 case atStart => exact ⟨0, n, by omega, rfl, rfl, by simp, rfl, Chg.refl _ _⟩
 case round =>
  obtain ⟨i, m, hi, rfl, rfl, hm, rfl, hc⟩ := hrel
  have hml : m < 18446744073709551616 := by rw [hm]; exact Nat.lt_of_le_of_lt (Nat.div_le_self _ _) hn
  have hll : (leL i n).length ≤ 1000 := by rw [leL_length]; omega
  have Hm := Lib.hid hm
  clear hm
  by_cases hlt : i < k
  ·have hlt' : (i : Int) < (k : Int) := by omega
   go_wp2_with fail
   refine (byteS_any _ wr (by omega) (by omega)).mono ?_
   rintro en w1 ⟨rfl, hc1⟩
   go_wp2_with fail
   go_roundw
   case rel =>
    refine ⟨i + 1, m / 256, by omega, by go_num, by go_num, ?_, ?_, hc.tr hc1⟩
    ·rw [Hm.out, Nat.div_div_eq_div_mul, Nat.pow_succ]
    ·rw [leL_snoc, ← Hm.out, ← bcat]
   case measure => simp [intOf]; omega
  ·have hlt' : ¬ (i : Int) < (k : Int) := by omega
   obtain rfl : i = k := by omega
   go_wp2_with fail
   go_ret
   exact ⟨rfl, hc⟩
def RlRel (l : List UInt8) (vn vi : Value) : Prop := ∃ j : Nat, j ≤ l.length ∧ vi = .int .i64 ((j : Int) - 1) ∧ vn = .int .u64 (leV (l.drop j) : Nat)
theorem leV_le {l : List UInt8} {k : Nat} (h : l.length ≤ k) : leV l < 256 ^ k := Nat.lt_of_lt_of_le (leV_lt l) (Nat.pow_le_pow_right (by decide) h)
theorem readLittle_same (s : ByteArray) (k : Nat) (w : World) (hk : k ≤ 8) (hs : k ≤ s.size) (hb : s.size ≤ 9000000000000000000) : Calls Tryz.prog 66 #[.string s, .int .i64 (k : Nat)] w (fun e w' => e = .returned (.int .u64 (leV (s.data.toList.take k) : Nat)) ∧ w' = w) := by
 have hl : (s.data.toList.take k).length = k := by rw [List.length_take, size_list]; omega
 go_enter Tryz.func66, Tryz.ntmps66
 go_wp2_with fail
 go_loop [5, 6] (RlRel (s.data.toList.take k)) (fun _ vi => (intOf vi + 1).toNat)
 case atStart => exact ⟨k, by rw [hl]; exact Nat.le_refl _, rfl, by rw [List.drop_of_length_le (by rw [hl]; exact Nat.le_refl _)]; rfl⟩
 case round =>
  obtain ⟨j, hj, rfl, rfl⟩ := hrel
  rw [hl] at hj
  have Hl := Lib.hid hl
  clear hl
  cases j with
  | zero =>
   go_wp2_with fail
   go_ret
   exact ⟨rfl, rfl⟩
  | succ q =>
   rw [show (((q + 1 : Nat) : Int) - 1) = (q : Int) from by omega]
   have hq : q < s.size := by omega
   have hbd := leV_le (l := (s.data.toList.take k).drop (q + 1)) (k := 7) (by rw [List.length_drop, Hl.out]; omega)
   rw [show (256 : Nat) ^ 7 = 72057594037927936 from by decide] at hbd
   have hstep : (s.data.toList.take k).drop q = s[q] :: (s.data.toList.take k).drop (q + 1) := by
    have h1 : q < (s.data.toList.take k).length := by rw [Hl.out]; omega
    rw [List.drop_eq_getElem_cons h1, List.getElem_take]
    rfl
   have Hst := Lib.hid hstep
   have hbs := s[q].toNat_lt
   have hbI : (s[q].toNat : Int) ≤ 255 := by omega
   obtain ⟨x, hx⟩ : ∃ x, x = leV ((s.data.toList.take k).drop (q + 1)) := ⟨_, rfl⟩
   rw [← hx] at hbd ⊢
   have Hx := Lib.hid hx
   clear hx hstep
   go_wp2_with fail
   go_round
   case rel =>
    refine ⟨q, by rw [Hl.out]; omega, rfl, ?_⟩
    rw [Hst.out, leV, ← Hx.out]
    congr 1
    omega
   case measure => simp [intOf]
theorem made_bytes (n : Nat) : madeCells #[.int .u8 0] n = (List.replicate n (Value.int .u8 0)).toArray := by
 apply Array.ext_getElem?
 intro i
 by_cases h : i < n
 ·simp [madeCells, h, Nat.mod_one]
 ·simp [madeCells, h]
theorem pow_256 (k : Nat) : (2 : Nat) ^ (8 * k) = 256 ^ k := by rw [Nat.pow_mul]
theorem fx_byte (n i : Nat) : Value.int .u8 ((n : Int) / 2 ^ (8 * i) % 256) = Value.int .u8 (((n / 256 ^ i % 256).toUInt8).toNat : Nat) := by
 have h1 : ((n : Int) / 2 ^ (8 * i) % 256) = ((n / 2 ^ (8 * i) % 256 : Nat) : Int) := by simp
 have h2 : ((n / 256 ^ i % 256).toUInt8).toNat = n / 256 ^ i % 256 := by simp
 rw [h1, h2, pow_256]
theorem fx_set (k n i : Nat) (h : i < k) (v : Value) (hv : v = .int .u8 (((n / 256 ^ i % 256).toUInt8).toNat : Nat)) :
  (Lib.byteCells (leL i n) ++ List.replicate (k - i) (Value.int .u8 0)).set i v = Lib.byteCells (leL (i + 1) n) ++ List.replicate (k - (i + 1)) (.int .u8 0) := by
 have hl : (Lib.byteCells (leL i n)).length = i := by rw [Lib.byteCells_length, leL_length]
 rw [show k - i = (k - (i + 1)) + 1 from by omega, List.replicate_succ, List.set_append_right _ _ (by omega), hl, Nat.sub_self, List.set_cons_zero, leL_snoc, Lib.byteCells_append, hv, List.append_assoc]
 rfl
def FxRel (k n b : Nat) (w : World) (vi : Value) (wr : World) : Prop := ∃ i : Nat, i ≤ k ∧ vi = .int .i64 (i : Nat) ∧ Blk wr b (Lib.byteCells (leL i n) ++ List.replicate (k - i) (.int .u8 0)) 5 ∧ Chg NoB w wr
theorem fixed_any (k n : Nat) (w : World) (hk1 : 1 ≤ k) (hk : k ≤ 8) (hn : n < 256 ^ k) : Calls Tryz.prog 31 #[.int .u64 (n : Nat), .int .i64 (k : Nat)] w (RetV (.tuple #[.string ⟨(leL k n).toArray⟩, .nilIface]) w) := by
 obtain ⟨i0, hi, hz0, hz1, hz2⟩ := info_parts infoByte
 have hmk := run_make (P := Tryz.prog) w 58 5 i0 (.int .u8 0) Tryz.underlying58 hi hz0 .i64 .i64 (k : Int) (k : Int) (by omega) (by omega) (by rw [hz2]; omega) (by omega)
 rw [hz1, Int.toNat_natCast, Nat.mul_one, show (Value.int .u8 0).cells = #[.int .u8 0] from rfl, made_bytes] at hmk
 have hk1' : (1 : Int) ≤ (k : Int) := by omega
 have hk' : (k : Int) ≤ 8 := by omega
 have hka : decide ((k : Int) < 1) = false := by simp; omega
 have hkb : decide ((8 : Int) < (k : Int)) = false := by simp; omega
 have hsh : decide ((0 : Int) < (n : Int) / 2 ^ (8 * k)) = false := by
  have e : ((n : Int) / 2 ^ (8 * k)) = ((n / 2 ^ (8 * k) : Nat) : Int) := by simp
  rw [e, pow_256, Nat.div_eq_of_lt hn]
  rfl
 have hn64 : n < 18446744073709551616 := Nat.lt_of_lt_of_le hn (Nat.le_trans (Nat.pow_le_pow_right (by decide) hk) (by decide))
 go_enter Tryz.func31, Tryz.ntmps31
 go_upto_region 1 with fail
 go_cut [24] (fun v wx => v = .bool false ∧ wx = w)
 case first =>
  by_cases h8 : k < 8
  ·have h8' : decide ((k : Int) < 8) = true := by simp; omega
   go_wp2_with fail
   go_meet
   exact ⟨rfl, rfl⟩
  ·have h8' : decide ((k : Int) < 8) = false := by simp; omega
   go_wp2_with fail
   go_meet
   exact ⟨rfl, rfl⟩
 case rest =>
 obtain ⟨rfl, rfl⟩ := hcut
 clear hsh hka hkb
 go_wp2_with fail
 rw [← List.toArray_replicate]
 generalize hw1 : World.alloc _ _ = w1
 have hc1 : Chg NoB wc w1 := by
  rw [← hw1]
  repeat (first | exact Chg.refl _ _ | apply Chg.alloc | apply Chg.drew)
 have hb1 : Blk w1 (wc.heap.size) ((List.replicate k (.int .u8 0))) 5 := by
  rw [← hw1]
  repeat (first | exact Blk.newAt (by first | rfl | (simp; done) | (simp; omega)) | apply Blk.alloc | apply Blk.drew)
 clear hw1 hmk
 go_loopw [30] (FxRel k n wc.heap.size wc) (fun vi _ => k - (intOf vi).toNat)
 case atStart => exact ⟨0, by omega, rfl, by simpa [leL, Lib.byteCells] using hb1, hc1⟩
 case round =>
  obtain ⟨i, hi, rfl, hb, hc⟩ := hrel
  have hlen : (Lib.byteCells (leL i n) ++ List.replicate (k - i) (Value.int .u8 0)).length = k := by
   rw [List.length_append, Lib.byteCells_length, leL_length, List.length_replicate]; omega
  have Hlen := Lib.hid hlen
  clear hlen
  by_cases hlt : i < k
  ·have hlt' : (i : Int) < (k : Int) := by omega
   have c0 : wr.cell? ⟨wc.heap.size, i, none⟩ = some ((Lib.byteCells (leL i n) ++ List.replicate (k - i) (Value.int .u8 0))[i]'(by rw [Hlen.out]; exact hlt)) := (hb.cell i).trans (List.getElem?_eq_getElem _)
   have f0 : wr.frozen? ⟨wc.heap.size, i, none⟩ = false := hb.free i
   generalize (Lib.byteCells (leL i n) ++ List.replicate (k - i) (Value.int .u8 0))[i]'(by rw [Hlen.out]; exact hlt) = old at c0
   go_wp2_with fail
   go_roundw
   case rel =>
    refine ⟨i + 1, by omega, by go_num, ?_, hc.setCell (p := ⟨wc.heap.size, i, none⟩) (.inr (Nat.le_refl _)) _⟩
    have h2 := hb.set i (Value.int .u8 ((n : Int) / 2 ^ (8 * i) % 256))
    rw [fx_set k n i hlt _ (fx_byte n i)] at h2
    exact h2
   case measure => simp [intOf]; omega
  ·have hlt' : ¬ (i : Int) < (k : Int) := by omega
   obtain rfl : i = k := by omega
   rw [Nat.sub_self, List.replicate_zero, List.append_nil] at hb
   have hcv : (convert 58 9 (.slice (some ⟨wc.heap.size, 0, none⟩) i i)).run Tryz.prog wr = .ok (.string ⟨(leL i n).toArray⟩) wr := by
    have h3 := run_convert_bytes_back (P := Tryz.prog) wr 58 9 5 ⟨wc.heap.size, 0, none⟩ i (leL i n) Tryz.underlying58 Tryz.underlying5 Tryz.underlying9 (fun j hj => by
     rw [show (⟨wc.heap.size, 0, none⟩ : Addr).add j = ⟨wc.heap.size, j, none⟩ from by unfold Addr.add; split <;> simp_all, hb.cell j]
     simp [Lib.byteCells, List.getElem?_eq_getElem hj])
    rw [leL_length] at h3
    exact h3
   go_wp2_with fail
   go_ret2
   exact ⟨rfl, hc⟩
theorem fx_or {i acc c : Nat} (hi : i ≤ 7) (ha : acc < 256 ^ i) (hc : c < 256) : bits .or .u64 (acc : Int) (IntKind.u64.wrap ((c : Int) * 2 ^ (8 * i))) = ((acc + c * 256 ^ i : Nat) : Int) := by
 rw [← pow_256] at ha ⊢
 have h3 : 2 ^ (8 * i) ≤ 2 ^ 56 := Nat.pow_le_pow_right (by decide) (by omega)
 have h4 : c * 2 ^ (8 * i) ≤ 255 * 2 ^ (8 * i) := Nat.mul_le_mul_right _ (by omega)
 have e : ((c : Int) * 2 ^ (8 * i)) = ((c * 2 ^ (8 * i) : Nat) : Int) := by simp
 have e56 : (2 : Nat) ^ 56 = 72057594037927936 := by decide
 rw [e56] at h3
 have ew : IntKind.u64.wrap ((c : Int) * 2 ^ (8 * i)) = ((c * 2 ^ (8 * i) : Nat) : Int) := by
  rw [e]; exact IntWalk.u64_in _ (by omega)
 have ha' : (acc : Int) < 2 ^ (8 * i) := by exact_mod_cast ha
 have hm : ((c * 2 ^ (8 * i) : Nat) : Int) % 2 ^ (8 * i) = 0 := by
  have : (c * 2 ^ (8 * i)) % 2 ^ (8 * i) = 0 := Nat.mul_mod_left _ _
  exact_mod_cast this
 have h64 : (2 : Int) ^ 64 = 18446744073709551616 := by decide
 rw [ew, bits_join_low .u64 64 (by decide) wraps_u64 (8 * i) acc _ (by omega) ha' (by rw [h64]; omega) (by omega) hm (by rw [h64]; omega)]
 omega
def RfRel (l : List UInt8) (vn vi : Value) : Prop := ∃ i : Nat, i ≤ l.length ∧ vi = .int .i64 (i : Nat) ∧ vn = .int .u64 (leV (l.take i) : Nat)
theorem readFixed_any (s : ByteArray) (k : Nat) (w : World) (hk1 : 1 ≤ k) (hk : k ≤ 8) (hs : k ≤ s.size) (hb : s.size ≤ 9000000000000000000) : Calls Tryz.prog 58 #[.string s, .int .i64 (k : Nat)] w (RetV (.tuple #[.int .u64 (leV (s.data.toList.take k) : Nat), .nilIface]) w) := by
 have hl : (s.data.toList.take k).length = k := by rw [List.length_take, size_list]; omega
 have hka : decide ((k : Int) < 1) = false := by simp; omega
 have hkb : decide ((8 : Int) < (k : Int)) = false := by simp; omega
 have hkc : ¬ (s.size : Int) < (k : Int) := by omega
 have hk8 : (k : Int) ≤ 8 := by omega
 go_enter Tryz.func58, Tryz.ntmps58
 go_wp2_with fail
 go_loop [6, 21] (RfRel (s.data.toList.take k)) (fun _ vi => k - (intOf vi).toNat)
 case atStart => exact ⟨0, by omega, rfl, by simp [leV]⟩
 case round =>
  obtain ⟨i, hi, rfl, rfl⟩ := hrel
  rw [hl] at hi
  have Hl := Lib.hid hl
  clear hl
  by_cases hlt : i < k
  ·have hlt' : (i : Int) < (k : Int) := by omega
   have hq : i < s.size := by omega
   have hbs := s[i].toNat_lt
   have hbI : (s[i].toNat : Int) ≤ 255 := by omega
   have hx1 := leV_le (l := (s.data.toList.take k).take i) (k := i) (by rw [List.length_take]; omega)
   have hstep : (s.data.toList.take k).take (i + 1) = (s.data.toList.take k).take i ++ [s[i]] := by
    rw [List.take_succ_eq_append_getElem (by rw [Hl.out]; exact hlt), List.getElem_take]
    rfl
   have hlen : ((s.data.toList.take k).take i).length = i := by rw [List.length_take, Hl.out]; omega
   have Hst := Lib.hid hstep
   have Hlen := Lib.hid hlen
   obtain ⟨x, hx⟩ : ∃ x, x = leV ((s.data.toList.take k).take i) := ⟨_, rfl⟩
   rw [← hx] at hx1 ⊢
   have Hx := Lib.hid hx
   have Hx1 := Lib.hid hx1
   clear hx hx1 hstep hlen
   go_wp2_with fail
   go_round
   case rel =>
    refine ⟨i + 1, by rw [Hl.out]; omega, by go_num, ?_⟩
    rw [Hst.out, leV_snoc, ← Hx.out, Hlen.out]
    exact congrArg (Value.int .u64) (fx_or (by omega) Hx1.out (by omega))
   case measure => simp [intOf]; omega
  ·have hlt' : ¬ (i : Int) < (k : Int) := by omega
   obtain rfl : i = k := by omega
   go_wp2_with fail
   go_ret2
   refine ⟨?_, Chg.refl _ _⟩
   rw [List.take_of_length_le (by rw [Hl.out]; exact Nat.le_refl _)]
   rfl
end Go.Proofs.YtkchmgjmecojcaaGreatDoor
