/-
  All nodes of a tree as they come, at most so many (shredcolref2.flat, Flat), and what is said of a schema (shredcollaw2.tame).; wire.table, Sum: the sum of bytes by a table.
-/
import Derived.Test.YtkchmgjmecojcaaGreatDoorWalk
import Derived.Test.YtkchmgjmecojcaaGreatDoorTxtR
import Derived.Deep.WholeRow
set_option linter.unusedVariables false
set_option maxHeartbeats 20000000
set_option maxRecDepth 100000
set_option linter.unusedSimpArgs false
namespace Go.Proofs.YtkchmgjmecojcaaGreatDoor
open Go.RowKit
structure Pl where
 n : Nd
 deep : Int
 around : Int
def Pl.dt (p : Pl) : Dt := .agg [p.n.dt, .lit (.int .i64 p.deep), .lit (.int .i64 p.around)]
mutual
def flatN (l : List Pl) : Nd → Int → Int → List Pl
 | .mk i n r k s, d, a => if 2000 < l.length ∨ 100 < d then l else flatL (l ++ [⟨.mk i n r k s, d, a⟩]) s (d + 1) l.length
def flatL (l : List Pl) : List Nd → Int → Int → List Pl
 | [], _, _ => l
 | n :: ns, d, a => flatL (flatN l n d a) ns d a
end
mutual
theorem flatN_le : ∀ (n : Nd) (l : List Pl) (d a : Int), l.length ≤ 2001 → (flatN l n d a).length ≤ 2001
 | .mk i n r k s, l, d, a, h => by
  simp only [flatN]
  split
  ·exact h
  ·exact flatL_le s _ _ _ (by simp; omega)
theorem flatL_le : ∀ (s : List Nd) (l : List Pl) (d a : Int), l.length ≤ 2001 → (flatL l s d a).length ≤ 2001
 | [], l, d, a, h => by simpa [flatL] using h
 | n :: ns, l, d, a, h => by
  simp only [flatL]
  exact flatL_le ns _ _ _ (flatN_le n l d a h)
end
theorem flatL_snoc : ∀ (s : List Nd) (l : List Pl) (n : Nd) (d a : Int), flatL l (s ++ [n]) d a = flatN (flatL l s d a) n d a
 | [], l, n, d, a => by simp [flatL]
 | x :: xs, l, n, d, a => by simp only [List.cons_append, flatL]; exact flatL_snoc xs _ n d a
def RetOwn (B e k : Nat) (A : Nat → Prop) (v : Value) (ds : List Dt) (w : World) (en : Ending) (w' : World) : Prop :=
 ∃ ao cap, en = .returned (.slice ao ds.length cap) ∧ Own w' B e k A (.slice ao ds.length cap) ds ∧ Chg (fun b => v.ownBlock = some b) w w' ∧
  ∀ b, (Value.slice ao ds.length cap).ownBlock = some b → v.ownBlock = some b ∨ w.heap.size ≤ b
theorem infoPlace : (Tryz.prog.info? 168).map (fun i => (i.zero, i.size, i.bytes)) = some (some (.agg #[.int .i64 0, .string ⟨#[]⟩, .int .i64 0, .int .i64 0, .slice none 0 0, .int .i64 0, .int .i64 0]), 7, 80) := by kernel_rfl
theorem reads_pl {w : World} {S : Nat → Prop} {n : Nd} {cs : List Value} (h : Reads w S n.dt cs) (d a : Int) : Reads w S (Pl.dt ⟨n, d, a⟩) (cs ++ [.int .i64 d, .int .i64 a]) := by
 exact ⟨cs, _, rfl, h, [_], _, rfl, ⟨rfl, rfl⟩, [_], _, rfl, ⟨rfl, rfl⟩, rfl⟩
def FlatRel (w : World) (B : Nat) (A : Nat → Prop) (v0 : Value) (l : List Pl) (i : Int) (n : ByteArray) (r k : Int) (s : List Nd) (sv : Value) (d at0 : Int) (vl vi : Value) (wr : World) : Prop :=
 ∃ j ao cap, j ≤ s.length ∧ vi = .int .i64 (j : Nat) ∧ vl = .slice ao (flatL l (s.take j) d at0).length cap ∧
  Own wr B 168 7 A (.slice ao (flatL l (s.take j) d at0).length cap) ((flatL l (s.take j) d at0).map Pl.dt) ∧ Chg (fun b => v0.ownBlock = some b) w wr ∧
  Blk wr w.heap.size (ndCells i n r k sv) 33 ∧ ∀ b, (Value.slice ao (flatL l (s.take j) d at0).length cap).ownBlock = some b → v0.ownBlock = some b ∨ w.heap.size + 1 ≤ b
theorem flat_any : ∀ (m : Nat) (nd : Nd) (w : World) (B : Nat) (A : Nat → Prop) (v : Value) (ps : List Pl) (cs : List Value) (d a : Int), nd.weigh ≤ m → Own w B 168 7 A v (ps.map Pl.dt) →
  (∀ b, A b → b < B) → B ≤ w.heap.size → Reads w A nd.dt cs → nd.ok → 0 ≤ d → d ≤ 101 → -1 ≤ a → a ≤ 2001 → ps.length ≤ 2001 →
  Calls Tryz.prog 116 #[v, .agg cs.toArray, .int .i64 d, .int .i64 a] w (RetOwn B 168 7 A v ((flatN ps nd d a).map Pl.dt) w) := by
 intro m
 induction m with
 | zero => intro nd w B A v ps cs d a hm; cases nd; simp [Nd.weigh] at hm
 | succ m ih =>
  intro nd w B A v ps cs d a hm ho hAB hBw hr hok hd0 hd1 ha0 ha1 hps
  obtain ⟨i, n, r, k, s⟩ := nd
  obtain ⟨sv, rfl, hs⟩ := reads_nd.1 hr
  obtain ⟨sa, cap, rfl, hlen, hcap, hel⟩ := reads_subs hs
  obtain ⟨hi, hn, hrr, hk, hsl, hoks⟩ := hok
  obtain ⟨ao, c0, rfl⟩ := ho.form
  simp only [List.length_map] at ho ⊢
  unfold reach at hsl
  by_cases h1 : 2000 < ps.length
  ·go_enter Tryz.func116, Tryz.ntmps116
   go_wp2_with fail
   go_ret
   simp only [flatN, h1, true_or, if_true]
   exact ⟨ao, c0, by simp, by simpa using ho.keep ((Chg.refl NoB _).alloc _) (fun _ _ e => nbE e) (fun _ _ e => nbE e), (Chg.refl _ _).alloc _, fun b hb => .inl (by simpa using hb)⟩
  by_cases h2 : 100 < d
  ·go_enter Tryz.func116, Tryz.ntmps116
   go_wp2_with fail
   go_ret
   simp only [flatN, h2, or_true, if_true]
   exact ⟨ao, c0, by simp, by simpa using ho.keep ((Chg.refl NoB _).alloc _) (fun _ _ e => nbE e) (fun _ _ e => nbE e), (Chg.refl _ _).alloc _, fun b hb => .inl (by simpa using hb)⟩
  go_enter Tryz.func116, Tryz.ntmps116
  go_wp2_with (at_builtin; refine stop_here ?_)
  refine Stop.go ?_
  generalize hw1 : (w.alloc _).alloc _ = w1
  have hc0 : Chg NoB w w1 := by
   rw [← hw1]
   repeat (first | exact Chg.refl _ _ | apply Chg.alloc | apply Chg.drew)
  have hb0 : Blk w1 (w.heap.size) (ndCells i n r k (.slice sa s.length cap)) 33 := by
   rw [← hw1]
   repeat (first | exact Blk.newAt (by first | rfl | (simp; done) | (simp; omega)) | apply Blk.alloc | apply Blk.drew)
  have hbn : Blk w1 (w.heap.size + 1) ([.int .i64 i, .string n, .int .i64 r, .int .i64 k, .slice sa s.length cap, .int .i64 d, .int .i64 a]) 168 := by
   rw [← hw1]
   repeat (first | exact Blk.newAt (by first | rfl | (simp; done) | (simp; omega)) | apply Blk.alloc | apply Blk.drew)
  clear hw1
  have hoB := ho.block
  have hAo : ∀ b, A b → (Value.slice ao ps.length c0).ownBlock ≠ some b := fun b hb e => by have := (hoB b e).1; have := hAB b hb; omega
  have ho1 := ho.keep hc0 (fun _ _ e => nbE e) (fun _ _ e => nbE e)
  refine wpList_own rfl (.tmp 21) (.tmp 26) 165 rfl B 168 Tryz.underlying165 infoPlace rfl (by decide) rfl ho1 rfl [Pl.dt ⟨.mk i n r k s, d, a⟩] _ rfl (ReadsC.single rfl (reads_pl ((hr.chg0 hc0).mono (fun b hb => ⟨hb, hAo b hb⟩)) d a)) hbn.news (fun e => by cases e) ?_ ?_ ?_ ?_
  ·simp [maxLen]; omega
  ·simp; omega
  ·have := hc0.size; omega
  intro ao2 cap2 w2 ho2 hc2 hat2
  simp only [List.length_map] at ho2 hat2 ⊢
  have hb0 := hb0.keep hc2 (fun e => by have := (hoB _ e).2; omega)
  have hc02 : Chg (fun b => (Value.slice ao ps.length c0).ownBlock = some b) w w2 := (hc0.mono (fun _ _ e => nbE e)).trans hc2 (fun _ e => .inl e)
  have hnew : ∀ b, (Value.slice ao2 (ps.length + 1) cap2).ownBlock = some b → (Value.slice ao ps.length c0).ownBlock = some b ∨ w.heap.size + 1 ≤ b := fun b hb => by
   rcases hat2 with e | e
   ·exact .inl (e ▸ hb)
   ·have h9 := Option.some.inj (e.symm.trans hb)
    have := hbn.lt
    exact .inr (by omega)
  go_wp2_with fail
  go_loopw [0, 10] (fun vl vi wr => FlatRel w B A (.slice ao ps.length c0) (ps ++ [⟨.mk i n r k s, d, a⟩]) i n r k s (.slice sa s.length cap) (d + 1) ps.length vl vi wr) (fun _ vi _ => s.length - (intOf vi).toNat)
  case atStart =>
   refine ⟨0, ao2, cap2, Nat.zero_le _, rfl, ?_, ?_, hc02, hb0, ?_⟩
   ·simp [flatL]
   ·simpa [flatL] using ho2
   ·simpa [flatL] using hnew
  case round =>
   obtain ⟨j, aj, cj, hj, rfl, rfl, hoj, hcj, hb0j, hnj⟩ := hrel
   have c4 : wr.cell? ⟨w.heap.size, 4, none⟩ = some (.slice sa s.length cap) := hb0j.cell 4
   have hsz : w.heap.size + 1 ≤ wr.heap.size := hb0j.lt
   by_cases hlt : j < s.length
   ·obtain ⟨b, off, rfl, hSb, hbw, hE⟩ := hel (by omega)
    obtain ⟨ecs, hl5, hcells, hre⟩ := hE.get j s[j].dt (by simp [hlt])
    have hmem : s[j] ∈ s := List.getElem_mem hlt
    have hwj := Nd.weigh_mem hmem
    have hokj := Nd.oks_mem hoks _ hmem
    have htake : s.take (j + 1) = s.take j ++ [s[j]] := List.take_succ_eq_append_getElem hlt
    generalize s[j] = nj at hre hwj hokj htake
    have hfl := flatL_snoc (s.take j) (ps ++ [⟨.mk i n r k s, d, a⟩]) nj (d + 1) ps.length
    rw [← htake] at hfl
    have Hfl := Lib.hid hfl
    clear htake hfl
    have hle := flatL_le (s.take j) (ps ++ [⟨.mk i n r k s, d, a⟩]) (d + 1) ps.length (by simp; omega)
    generalize flatL (ps ++ [⟨.mk i n r k s, d, a⟩]) (s.take j) (d + 1) ps.length = lj at hoj hnj Hfl hle ⊢
    obtain ⟨i1, n1, r1, k1, s1⟩ := nj
    obtain ⟨v1, rfl, hs1⟩ := reads_nd.1 hre
    have hcb : ∀ {x : Nat}, A x → ¬ ((Value.slice ao ps.length c0).ownBlock = some x) := fun hx e => hAo _ hx e
    have hf : ∀ t c, [Value.int .i64 i1, .string n1, .int .i64 r1, .int .i64 k1, v1][t]? = some c → wr.cell? ⟨b, off + j * 5 + t, none⟩ = some c := fun t c ht => (hcj.cell (p := ⟨b, off + j * 5 + t, none⟩) hbw (hcb hSb)).trans (hcells t c ht)
    have e0 : wr.cell? ⟨b, off + j * 5, none⟩ = some (.int .i64 i1) := hf 0 _ rfl
    have e1 : wr.cell? ⟨b, off + j * 5 + 1, none⟩ = some (.string n1) := hf 1 _ rfl
    have e2 : wr.cell? ⟨b, off + j * 5 + 2, none⟩ = some (.int .i64 r1) := hf 2 _ rfl
    have e3 : wr.cell? ⟨b, off + j * 5 + 3, none⟩ = some (.int .i64 k1) := hf 3 _ rfl
    have e4 : wr.cell? ⟨b, off + j * 5 + 4, none⟩ = some v1 := hf 4 _ rfl
    clear hf
    go_wp2_with fail
    refine (ih (.mk i1 n1 r1 k1 s1) wr B A _ lj _ (d + 1) ps.length ?_ hoj hAB (by omega) (hre.chg hcj (fun _ hb => hcb hb)) hokj (by omega) (by omega) (by omega) (by omega) hle).mono ?_
    ·simp only [Nd.weigh] at hm hwj ⊢; omega
    rintro e w3 ⟨ao3, cap3, rfl, ho3, hc3, hn3⟩
    have hc03 := hcj.trans hc3 (fun b hb => (hnj b hb).imp id (fun h => by omega))
    have hb0j := hb0j.keep hc3 (fun e => by rcases hnj _ e with h | h; have := (hoB _ h).2; omega; omega)
    simp only [List.length_map] at ho3 hn3 ⊢
    go_wp2_with fail
    go_roundw
    case rel =>
     refine ⟨j + 1, ao3, cap3, hlt, by go_num, ?_, ?_, hc03, hb0j, ?_⟩
     ·rw [Hfl.out]
     ·rw [Hfl.out]; exact ho3
     ·rw [Hfl.out]
      intro b hb
      rcases hn3 b hb with h | h
      ·exact hnj b h
      ·exact .inr (by omega)
    case measure => simp [intOf]; omega
   ·have hjs : s.take j = s := List.take_of_length_le (by omega)
    rw [hjs] at hoj hnj ⊢
    have hfin : flatN ps (.mk i n r k s) d a = flatL (ps ++ [⟨.mk i n r k s, d, a⟩]) s (d + 1) ps.length := by simp only [flatN]; rw [if_neg (by omega)]
    have Hfin := Lib.hid hfin
    clear hfin hjs
    generalize flatL (ps ++ [⟨.mk i n r k s, d, a⟩]) s (d + 1) ps.length = lj at hoj hnj Hfin ⊢
    go_wp2_with fail
    go_ret
    rw [Hfin.out]
    exact ⟨aj, cj, by simp, by simpa using hoj, hcj, fun b hb => (hnj b (by simpa using hb)).imp id (fun h => by omega)⟩
def RetList (k : Nat) (S : Nat → Prop) (ds : List Dt) (w : World) (e : Ending) (w' : World) : Prop :=
 ∃ ao cap, e = .returned (.slice ao ds.length cap) ∧ Reads w' (fun b => S b ∨ w.heap.size ≤ b) (.list k ds) [.slice ao ds.length cap] ∧ Chg NoB w w'
def flatOf (n : Nd) : List Pl := flatN [] n 1 (-1)
theorem Flat_any (nd : Nd) (w : World) (S : Nat → Prop) (cs : List Value) (hr : Reads w S nd.dt cs) (hok : nd.ok) :
  Calls Tryz.prog 74 #[.agg cs.toArray] w (RetList 7 S ((flatOf nd).map Pl.dt) w) := by
 obtain ⟨i, n, r, k, s⟩ := nd
 obtain ⟨sv, rfl, hs⟩ := reads_nd.1 hr
 obtain ⟨sa, cap, rfl, hlen, hcap, hel⟩ := reads_subs hs
 have hrA := Reads.lt _ _ hr
 go_enter Tryz.func74, Tryz.ntmps74
 go_wp2_with fail
 generalize hw1 : w.alloc _ = w1
 have hc1 : Chg NoB w w1 := by
  rw [← hw1]
  repeat (first | exact Chg.refl _ _ | apply Chg.alloc | apply Chg.drew)
 have hw1s : w1.heap.size = w.heap.size + 1 := by rw [← hw1]; simp
 clear hw1
 refine (flat_any _ (.mk i n r k s) w1 w.heap.size (fun b => S b ∧ b < w.heap.size) _ [] _ 1 (-1) (Nat.le_refl _) (Own.nil _ _ _ _ _) (fun b hb => hb.2) (by omega) (hrA.chg0 hc1) hok (by omega) (by omega) (by omega) (by omega) (by simp)).mono ?_
 rintro e w2 ⟨ao, c2, rfl, ho, hc, hn⟩
 have hc2 : Chg NoB w w2 := hc1.trans hc (fun b hb => by cases hb)
 have hle := flatN_le (.mk i n r k s) [] 1 (-1) (by simp)
 have hf : flatN [] (.mk i n r k s) 1 (-1) = flatOf (.mk i n r k s) := rfl
 rw [hf] at ho hle ⊢
 clear hf hn hc
 go_wp2_with fail
 go_ret
 refine ⟨ao, c2, by simp, ho.reads (fun b hb => .inl hb.1) (fun b hb _ => .inr hb) (by simp [maxLen]; omega), hc2⟩
mutual
theorem flatN_ok : ∀ (n : Nd) (l : List Pl) (d a : Int), (∀ p ∈ l, p.n.ok) → n.ok → ∀ p ∈ flatN l n d a, p.n.ok
 | .mk i n r k s, l, d, a, h, hn => by
  simp only [flatN]
  split
  ·exact h
  ·refine flatL_ok s _ _ _ (fun p hp => ?_) hn.2.2.2.2.2
   rcases List.mem_append.1 hp with hp | hp
   ·exact h p hp
   ·simp only [List.mem_cons, List.not_mem_nil, or_false] at hp; subst hp; exact hn
theorem flatL_ok : ∀ (s : List Nd) (l : List Pl) (d a : Int), (∀ p ∈ l, p.n.ok) → Nd.oks s → ∀ p ∈ flatL l s d a, p.n.ok
 | [], l, d, a, h, _ => by simpa [flatL] using h
 | n :: ns, l, d, a, h, hs => by
  simp only [flatL]
  exact flatL_ok ns _ _ _ (flatN_ok n l d a h hs.1) hs.2
end
def tabCells (k : Nat) : List Value := (List.range k).map (fun i => Value.int .u32 (crcSteps 8 i : Nat)) ++ List.replicate (256 - k) (.int .u32 0)
theorem tab_len {k : Nat} (h : k ≤ 256) : (tabCells k).length = 256 := by simp [tabCells]; omega
theorem tab_set {k : Nat} (h : k < 256) : (tabCells k).set k (.int .u32 (crcSteps 8 k : Nat)) = tabCells (k + 1) := by
 unfold tabCells
 rw [show 256 - k = (256 - (k + 1)) + 1 from by omega, List.replicate_succ, List.set_append_right _ _ (by simp), List.length_map, List.length_range, Nat.sub_self, List.set_cons_zero, List.range_succ, List.map_append, List.append_assoc]
 rfl
theorem tab_get {k : Nat} (h : k < 256) : (tabCells 256)[k]? = some (.int .u32 (crcSteps 8 k : Nat)) := by
 unfold tabCells
 rw [List.getElem?_append_left (by simpa using h)]
 simp [h]
def TbRel (b0 b : Nat) (z : List Value) (w : World) (vi : Value) (wr : World) : Prop := ∃ i : Nat, i ≤ 256 ∧ vi = .int .i64 (i : Nat) ∧ Blk wr b (tabCells i) 152 ∧ Blk wr b0 z 152 ∧ Chg NoB w wr
def TcRel (c : Nat) (vc vk : Value) : Prop := ∃ k : Nat, k ≤ 8 ∧ vk = .int .i64 (k : Nat) ∧ vc = .int .u32 (crcSteps k c : Nat)
theorem results_one {fn : Func} {p : Tmp} {ty : TypeId} (h : fn.results = #[.cell p ty]) (tmps : Array Value) (P : Program) (w : World) :
  (results fn tmps).run P w = ((asAddr (tmps.getD p undef)).run P w).andThen fun a w₁ => (loadVar ty a).run P w₁ := by
 simp only [results, h]
 simp [Sem.run_bind, Result.andThen]
theorem oper_load {P : Program} {o : Oper} {a : Act} {w : World} {next : Act → World → Prop} {Q : Exit → Act → World → Prop} (t : TypeId) (x : Operand) (p : Value) (v : Value) (ho : o.op = .load t x) (hx : a.eval x = p)
  (hld : (Instr.loadAt t p).run P w = .ok v w) (h : next (a.put o.dst v) w) : Oper.wp P o a w next Q := by
 unfold Oper.wp execOp
 rw [ho]
 simp only [hx, Sem.run_bind, Sem.run_pure, hld, Result.andThen]
 exact h
theorem run_load_blk {P : Program} {w : World} {b : Nat} {cs : List Value} {t : TypeId} {n : Nat} {e : TypeId} (h : Blk w b cs t) (hu : P.underlying t = some (.array n e)) (hi : (P.info? t).map (·.size) = some cs.length) :
  (Instr.loadAt t (.pointer (some ⟨b, 0, none⟩))).run P w = .ok (.agg cs.toArray) w := by
 simp only [Instr.loadAt, Instr.sureAddr, Sem.run_bind, Sem.run_pure, Result.andThen]
 exact run_loadVar_row _ _ _ _ _ _ _ h hu rfl (by simpa using hi)
theorem run_store_blk {P : Program} {w : World} {b : Nat} {cs cs' : List Value} {t : TypeId} (h : Blk w b cs t) (hi : (P.info? t).map (·.size) = some cs'.length) (hl : cs.length = cs'.length) (h1 : ∀ u ∈ cs', u.oneCell' = true) :
  (storeCells ⟨b, 0, none⟩ cs' 0).run P w = .ok () (w.setRow b cs'.toArray) := by
 have h2 := run_storeVar_row (P := P) w b t t cs.toArray cs'.toArray h (by simpa using hi) (by simpa using hl) (by simp only [List.all_toArray]; exact List.all_eq_true.2 h1)
 cases hq : P.info? t with
 | none => simp [hq] at hi
 | some i =>
  have hs : cs'.length = i.size := by simp [hq] at hi; omega
  simpa [storeVar, sizeOf, typeInfo, hq, Value.cells, hs] using h2
theorem Blk.row {w : World} {b : Nat} {cs : List Value} {t : TypeId} (h : Blk w b cs t) (cs' : List Value) : Blk (w.setRow b cs'.toArray) b cs' t := setRow_heap w b _ _ _ _ h
theorem Chg.row {C : Nat → Prop} {a w : World} (h : Chg C a w) {b : Nat} (hb : C b ∨ a.heap.size ≤ b) (cs : Array Value) : Chg C a (w.setRow b cs) :=
 ⟨h.os, h.tape, h.output, by simpa [World.setRow] using h.size, fun k hk hn => by
  have hne : b ≠ k := fun e => by subst e; rcases hb with x | x; exact hn x; omega
  show (w.heap.modify b _)[k]? = _
  rw [Array.getElem?_modify, if_neg hne]
  exact h.block k hk hn⟩
theorem tab_one {k : Nat} : ∀ u ∈ tabCells k, u.oneCell' = true := by
 intro u hu
 unfold tabCells at hu
 rcases List.mem_append.1 hu with h | h
 ·obtain ⟨i, _, rfl⟩ := List.mem_map.1 h; rfl
 ·obtain rfl := (List.mem_replicate.1 h).2; rfl
theorem tab_bits {x : Nat} (hx : x < 4294967296) : bits .xor .u32 ((x : Int) / 2) (bits .and .u32 3988292384 (-((x : Int) % 2) % 4294967296)) = (crcStep x : Nat) := by
 have e2 : ((x : Int) / 2) = ((x / 2 : Nat) : Int) := by omega
 have e0 : ((3988292384 : Nat) : Int) = 3988292384 := rfl
 rcases Nat.mod_two_eq_zero_or_one x with h | h
 ·have e1 : (-((x : Int) % 2) % 4294967296) = ((0 : Nat) : Int) := by omega
  have ha := u32_and_nat 3988292384 0 (by decide) (by decide)
  rw [e0] at ha
  rw [e1, ha, e2, u32_xor_nat (x / 2) _ (by omega) (by decide)]
  unfold crcStep
  rw [if_neg (by omega)]
  rfl
 ·have e1 : (-((x : Int) % 2) % 4294967296) = ((4294967295 : Nat) : Int) := by omega
  have ha := u32_and_nat 3988292384 4294967295 (by decide) (by decide)
  rw [e0] at ha
  rw [e1, ha, e2, u32_xor_nat (x / 2) _ (by omega) (by decide)]
  unfold crcStep
  rw [if_pos h]
  rfl
theorem table_any (w : World) : Calls Tryz.prog 65 #[] w (RetV (.agg (tabCells 256).toArray) w) := by
 have hz := zero_of_info (P := Tryz.prog) (t := 152) (v := .agg (Array.replicate 256 (.int .u32 0))) (n := 256) (by kernel_rfl)
 obtain ⟨hz1, hz2⟩ := hz
 have Hz2 := Lib.hid hz2
 go_enter Tryz.func65, Tryz.ntmps65
 go_wp2_with fail
 rw [← List.toArray_replicate]
 obtain ⟨z, hzz⟩ : ∃ z, z = List.replicate 256 (Value.int .u32 0) := ⟨_, rfl⟩
 rw [← hzz]
 generalize hw1 : World.alloc _ _ = w1
 have hc1 : Chg NoB w w1 := by
  rw [← hw1]
  repeat (first | exact Chg.refl _ _ | apply Chg.alloc | apply Chg.drew)
 have hb0 : Blk w1 (w.heap.size) (z) 152 := by
  rw [← hw1]
  repeat (first | exact Blk.newAt (by first | rfl | (simp; done) | (simp; omega)) | apply Blk.alloc | apply Blk.drew)
 have hb1 : Blk w1 (w.heap.size + 1) (z) 152 := by
  rw [← hw1]
  repeat (first | exact Blk.newAt (by first | rfl | (simp; done) | (simp; omega)) | apply Blk.alloc | apply Blk.drew)
 clear hw1 hz1 hz2
 have Hzz := Lib.hid hzz
 clear hzz
 go_loopw [4] (TbRel w.heap.size (w.heap.size + 1) z w) (fun vi _ => 256 - (intOf vi).toNat)
 case atStart => exact ⟨0, by omega, rfl, by rw [Hzz.out] at hb1; exact hb1, hb0, hc1⟩
 case round =>
  obtain ⟨i, hi, rfl, hb, hb0, hc⟩ := hrel
  by_cases hlt : i < 256
  ·have hlt' : (i : Int) < 256 := by omega
   go_wp2_with fail
   go_loop [3, 9] (TcRel i) (fun _ vk => 8 - (intOf vk).toNat)
   case atStart => exact ⟨0, by omega, rfl, rfl⟩
   case round =>
    obtain ⟨k, hk, rfl, rfl⟩ := hrel
    obtain ⟨x, hx⟩ : ∃ x, x = crcSteps k i := ⟨_, rfl⟩
    have hxlt : x < 4294967296 := by rw [hx]; exact crcSteps_lt k (by omega)
    have hsn : crcSteps (k + 1) i = crcStep x := by rw [hx]; rfl
    rw [← hx]
    have Hx := Lib.hid hx
    have Hsn := Lib.hid hsn
    clear hx hsn
    by_cases hk8 : k < 8
    ·have hk8' : (k : Int) < 8 := by omega
     have hand : bits .and .u32 (x : Int) 1 = (x : Int) % 2 := bits_mask .u32 32 (by decide) wraps_u32 1 (by decide) x (by omega) (by omega)
     go_wp2_with fail
     go_round
     case rel => exact ⟨k + 1, by omega, by go_num, by rw [Hsn.out]; exact congrArg (Value.int .u32) (tab_bits hxlt)⟩
     case measure => simp [intOf]; omega
    ·have hk8' : ¬ (k : Int) < 8 := by omega
     obtain rfl : k = 8 := by omega
     have c0 : wr.cell? ⟨w.heap.size + 1, i, none⟩ = some ((tabCells i)[i]'(by rw [tab_len (by omega)]; exact hlt)) := (hb.cell i).trans (List.getElem?_eq_getElem _)
     have f0 : wr.frozen? ⟨w.heap.size + 1, i, none⟩ = false := hb.free i
     generalize (tabCells i)[i]'(by rw [tab_len (by omega)]; exact hlt) = old at c0
     go_wp2_with fail
     go_roundw
     case rel =>
      have hne : w.heap.size ≠ w.heap.size + 1 := by omega
      refine ⟨i + 1, by omega, by go_num, ?_, hb0.other (p := ⟨w.heap.size + 1, i, none⟩) hne _, hc.setCell (p := ⟨w.heap.size + 1, i, none⟩) (.inr (Nat.le_succ _)) _⟩
      have h2 := hb.set i (Value.int .u32 (x : Nat))
      rw [Hx.out, tab_set hlt] at h2
      rw [Hx.out]
      exact h2
     case measure => simp [intOf]; omega
  ·have hlt' : ¬ (i : Int) < 256 := by omega
   obtain rfl : i = 256 := by omega
   have hld := run_load_blk (P := Tryz.prog) hb Tryz.underlying152 (by rw [Hz2.out, tab_len (by omega)])
   have hst := run_store_blk (P := Tryz.prog) (cs' := tabCells 256) hb0 (by rw [Hz2.out, tab_len (by omega)]) (by rw [tab_len (by omega), Hzz.out, List.length_replicate]) tab_one
   have hb9 := hb0.row (tabCells 256)
   have hc9 := hc.row (b := w.heap.size) (.inr (Nat.le_refl _)) (tabCells 256).toArray
   have hl9 := run_load_blk (P := Tryz.prog) hb9 Tryz.underlying152 (by rw [Hz2.out, tab_len (by omega)])
   generalize wr.setRow w.heap.size (tabCells 256).toArray = w9 at hst hb9 hc9 hl9
   have Hld := Lib.hid hld
   have Hst := Lib.hid hst
   have Hl9 := Lib.hid hl9
   clear hld hst hl9
   go_wp2_with fail
   refine oper_load 152 (.tmp 1) (.pointer (some ⟨w.heap.size + 1, 0, none⟩)) (.agg (tabCells 256).toArray) rfl rfl Hld.out ?_
   go_wp2_with fail
   simp only [Result.andThen, Hst.out]
   rw [Oper.upon_skip]
   go_wp2_with fail
   refine bodyPost_ret (v := .agg (tabCells 256).toArray) ?_ rfl ⟨rfl, hc9⟩
   have h9 := Hl9.out
   simp only [Instr.loadAt, Instr.sureAddr, Sem.run_bind, Sem.run_pure, Result.andThen] at h9
   rw [results_one rfl]
   exact h9
end Go.Proofs.YtkchmgjmecojcaaGreatDoor
