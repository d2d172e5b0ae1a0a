/-
  All nodes of a tree as they come, at most so many (shredcolref2.flat, Flat), and what is said of a schema (shredcollaw2.tame).
-/
import Derived.Test.YtfbbfhhhfbibjaaGreatDoorSameNode
namespace Go.Proofs.YtfbbfhhhfbibjaaGreatDoor
open Go.RowKit

structure Pl where
  n : Nd
  deep : Int
  around : Int
def Pl.dt (p : Pl) : Dt := .agg [p.n.dt, .lit (.int .i64 p.deep), .lit (.int .i64 p.around)]

mutual
def flatN (l : List Pl) : Nd → Int → Int → List Pl
  | .mk i n r k s, d, a => if 2000 < l.length ∨ 100 < d then l else flatL (l ++ [⟨.mk i n r k s, d, a⟩]) s (d + 1) l.length
def flatL (l : List Pl) : List Nd → Int → Int → List Pl
  | [], _, _ => l
  | n :: ns, d, a => flatL (flatN l n d a) ns d a
end
mutual
theorem flatN_le : ∀ (n : Nd) (l : List Pl) (d a : Int), l.length ≤ 2001 → (flatN l n d a).length ≤ 2001
  | .mk i n r k s, l, d, a, h => by
    simp only [flatN]
    split
    · exact h
    · exact flatL_le s _ _ _ (by simp; omega)
theorem flatL_le : ∀ (s : List Nd) (l : List Pl) (d a : Int), l.length ≤ 2001 → (flatL l s d a).length ≤ 2001
  | [], l, d, a, h => by simpa [flatL] using h
  | n :: ns, l, d, a, h => by
    simp only [flatL]
    exact flatL_le ns _ _ _ (flatN_le n l d a h)
end
theorem flatL_snoc : ∀ (s : List Nd) (l : List Pl) (n : Nd) (d a : Int), flatL l (s ++ [n]) d a = flatN (flatL l s d a) n d a
  | [], l, n, d, a => by simp [flatL]
  | x :: xs, l, n, d, a => by simp only [List.cons_append, flatL]; exact flatL_snoc xs _ n d a

/-- A slice that was handed in, built on: the new value, what it holds, what has changed. -/
def RetOwn (B e k : Nat) (A : Nat → Prop) (v : Value) (ds : List Dt) (w : World) (en : Ending) (w' : World) : Prop :=
  ∃ ao cap, en = .returned (.slice ao ds.length cap) ∧ Own w' B e k A (.slice ao ds.length cap) ds ∧ Chg (fun b => v.ownBlock = some b) w w' ∧
    ∀ b, (Value.slice ao ds.length cap).ownBlock = some b → v.ownBlock = some b ∨ w.heap.size ≤ b

theorem infoPlace : (Tryz.prog.info? 72).map (fun i => (i.zero, i.size, i.bytes)) = some (some (.agg #[.int .i64 0, .string ⟨#[]⟩, .int .i64 0, .int .i64 0, .slice none 0 0, .int .i64 0, .int .i64 0]), 7, 80) := by kernel_rfl

theorem reads_pl {w : World} {S : Nat → Prop} {n : Nd} {cs : List Value} (h : Reads w S n.dt cs) (d a : Int) : Reads w S (Pl.dt ⟨n, d, a⟩) (cs ++ [.int .i64 d, .int .i64 a]) := by
  exact ⟨cs, _, rfl, h, [_], _, rfl, ⟨rfl, rfl⟩, [_], _, rfl, ⟨rfl, rfl⟩, rfl⟩

/-- What holds at the head of each round. -/
def FlatRel (w : World) (B : Nat) (A : Nat → Prop) (v0 : Value) (l : List Pl) (i : Int) (n : ByteArray) (r k : Int) (s : List Nd) (sv : Value) (d at0 : Int) (vl vi : Value) (wr : World) : Prop :=
  ∃ j ao cap, j ≤ s.length ∧ vi = .int .i64 (j : Nat) ∧ vl = .slice ao (flatL l (s.take j) d at0).length cap ∧
    Own wr B 72 7 A (.slice ao (flatL l (s.take j) d at0).length cap) ((flatL l (s.take j) d at0).map Pl.dt) ∧ Chg (fun b => v0.ownBlock = some b) w wr ∧
    Blk wr w.heap.size (ndCells i n r k sv) 24 ∧ ∀ b, (Value.slice ao (flatL l (s.take j) d at0).length cap).ownBlock = some b → v0.ownBlock = some b ∨ w.heap.size + 1 ≤ b

set_option maxHeartbeats 1000000 in
theorem flat_any : ∀ (m : Nat) (nd : Nd) (w : World) (B : Nat) (A : Nat → Prop) (v : Value) (ps : List Pl) (cs : List Value) (d a : Int), nd.weigh ≤ m → Own w B 72 7 A v (ps.map Pl.dt) →
    (∀ b, A b → b < B) → B ≤ w.heap.size → Reads w A nd.dt cs → nd.ok → 0 ≤ d → d ≤ 101 → -1 ≤ a → a ≤ 2001 → ps.length ≤ 2001 →
    Calls Tryz.prog 65 #[v, .agg cs.toArray, .int .i64 d, .int .i64 a] w (RetOwn B 72 7 A v ((flatN ps nd d a).map Pl.dt) w) := by
  intro m
  induction m with
  | zero => intro nd w B A v ps cs d a hm; cases nd; simp [Nd.weigh] at hm
  | succ m ih =>
    intro nd w B A v ps cs d a hm ho hAB hBw hr hok hd0 hd1 ha0 ha1 hps
    obtain ⟨i, n, r, k, s⟩ := nd
    obtain ⟨sv, rfl, hs⟩ := reads_nd.1 hr
    obtain ⟨sa, cap, rfl, hlen, hcap, hel⟩ := reads_subs hs
    obtain ⟨hi, hn, hrr, hk, hsl, hoks⟩ := hok
    obtain ⟨ao, c0, rfl⟩ := ho.form
    simp only [List.length_map] at ho ⊢
    unfold reach at hsl
    by_cases h1 : 2000 < ps.length
    · go_enter Tryz.func65, Tryz.ntmps65
      go_wp2_with fail
      go_ret
      simp only [flatN, h1, true_or, if_true]
      exact ⟨ao, c0, by simp, by simpa using ho.keep ((Chg.refl NoB _).alloc _) (fun _ _ e => NoB.elim e) (fun _ _ e => NoB.elim e), (Chg.refl _ _).alloc _, fun b hb => .inl (by simpa using hb)⟩
    by_cases h2 : 100 < d
    · go_enter Tryz.func65, Tryz.ntmps65
      go_wp2_with fail
      go_ret
      simp only [flatN, h2, or_true, if_true]
      exact ⟨ao, c0, by simp, by simpa using ho.keep ((Chg.refl NoB _).alloc _) (fun _ _ e => NoB.elim e) (fun _ _ e => NoB.elim e), (Chg.refl _ _).alloc _, fun b hb => .inl (by simpa using hb)⟩
    go_enter Tryz.func65, Tryz.ntmps65
    go_wp2_with (at_builtin; refine stop_here ?_)
    refine Stop.go ?_
    generalize hw1 : (w.alloc _).alloc _ = w1
    have hc0 : Chg NoB w w1 := by
      rw [← hw1]
      repeat (first | exact Chg.refl _ _ | apply Chg.alloc | apply Chg.drew)
    have hb0 : Blk w1 (w.heap.size) (ndCells i n r k (.slice sa s.length cap)) 24 := by
      rw [← hw1]
      repeat (first | exact Blk.newAt (by first | rfl | (simp; done) | (simp; omega)) | apply Blk.alloc | apply Blk.drew)
    have hbn : Blk w1 (w.heap.size + 1) ([.int .i64 i, .string n, .int .i64 r, .int .i64 k, .slice sa s.length cap, .int .i64 d, .int .i64 a]) 72 := by
      rw [← hw1]
      repeat (first | exact Blk.newAt (by first | rfl | (simp; done) | (simp; omega)) | apply Blk.alloc | apply Blk.drew)
    clear hw1
    have hoB := ho.block
    have hAo : ∀ b, A b → (Value.slice ao ps.length c0).ownBlock ≠ some b := fun b hb e => by have := (hoB b e).1; have := hAB b hb; omega
    have ho1 := ho.keep hc0 (fun _ _ e => NoB.elim e) (fun _ _ e => NoB.elim e)
    refine wpList_own rfl (.tmp 21) (.tmp 26) 69 rfl B 72 Tryz.underlying69 infoPlace rfl (by decide) rfl ho1 rfl [Pl.dt ⟨.mk i n r k s, d, a⟩] _ rfl (ReadsC.single rfl (reads_pl ((hr.chg0 hc0).mono (fun b hb => ⟨hb, hAo b hb⟩)) d a)) hbn.news (fun e => by cases e) ?_ ?_ ?_ ?_
    · simp [maxLen]; omega
    · simp; omega
    · have := hc0.size; omega
    intro ao2 cap2 w2 ho2 hc2 hat2
    simp only [List.length_map] at ho2 hat2 ⊢
    have hb0 := hb0.keep hc2 (fun e => by have := (hoB _ e).2; omega)
    have hc02 : Chg (fun b => (Value.slice ao ps.length c0).ownBlock = some b) w w2 := (hc0.mono (fun _ _ e => NoB.elim e)).trans hc2 (fun _ e => .inl e)
    have hnew : ∀ b, (Value.slice ao2 (ps.length + 1) cap2).ownBlock = some b → (Value.slice ao ps.length c0).ownBlock = some b ∨ w.heap.size + 1 ≤ b := fun b hb => by
      rcases hat2 with e | e
      · exact .inl (e ▸ hb)
      · have h9 := Option.some.inj (e.symm.trans hb)
        have := hbn.lt
        exact .inr (by omega)
    go_wp2_with fail
    go_loopw [0, 10] (fun vl vi wr => FlatRel w B A (.slice ao ps.length c0) (ps ++ [⟨.mk i n r k s, d, a⟩]) i n r k s (.slice sa s.length cap) (d + 1) ps.length vl vi wr) (fun _ vi _ => s.length - (intOf vi).toNat)
    case atStart =>
      refine ⟨0, ao2, cap2, Nat.zero_le _, rfl, ?_, ?_, hc02, hb0, ?_⟩
      · simp [flatL]
      · simpa [flatL] using ho2
      · simpa [flatL] using hnew
    case round =>
      obtain ⟨j, aj, cj, hj, rfl, rfl, hoj, hcj, hb0j, hnj⟩ := hrel
      have c4 : wr.cell? ⟨w.heap.size, 4, none⟩ = some (.slice sa s.length cap) := hb0j.cell 4
      have hsz : w.heap.size + 1 ≤ wr.heap.size := hb0j.lt
      by_cases hlt : j < s.length
      · obtain ⟨b, off, rfl, hSb, hbw, hE⟩ := hel (by omega)
        obtain ⟨ecs, hl5, hcells, hre⟩ := hE.get j s[j].dt (by simp [hlt])
        have hmem : s[j] ∈ s := List.getElem_mem hlt
        have hwj := Nd.weigh_mem hmem
        have hokj := Nd.oks_mem hoks _ hmem
        have htake : s.take (j + 1) = s.take j ++ [s[j]] := List.take_succ_eq_append_getElem hlt
        generalize s[j] = nj at hre hwj hokj htake
        have hfl := flatL_snoc (s.take j) (ps ++ [⟨.mk i n r k s, d, a⟩]) nj (d + 1) ps.length
        rw [← htake] at hfl
        have Hfl := Lib.hid hfl
        clear htake hfl
        have hle := flatL_le (s.take j) (ps ++ [⟨.mk i n r k s, d, a⟩]) (d + 1) ps.length (by simp; omega)
        generalize flatL (ps ++ [⟨.mk i n r k s, d, a⟩]) (s.take j) (d + 1) ps.length = lj at hoj hnj Hfl hle ⊢
        obtain ⟨i1, n1, r1, k1, s1⟩ := nj
        obtain ⟨v1, rfl, hs1⟩ := reads_nd.1 hre
        have hcb : ∀ {x : Nat}, A x → ¬ ((Value.slice ao ps.length c0).ownBlock = some x) := fun hx e => hAo _ hx e
        have hf : ∀ t c, [Value.int .i64 i1, .string n1, .int .i64 r1, .int .i64 k1, v1][t]? = some c → wr.cell? ⟨b, off + j * 5 + t, none⟩ = some c := fun t c ht => (hcj.cell (p := ⟨b, off + j * 5 + t, none⟩) hbw (hcb hSb)).trans (hcells t c ht)
        have e0 : wr.cell? ⟨b, off + j * 5, none⟩ = some (.int .i64 i1) := hf 0 _ rfl
        have e1 : wr.cell? ⟨b, off + j * 5 + 1, none⟩ = some (.string n1) := hf 1 _ rfl
        have e2 : wr.cell? ⟨b, off + j * 5 + 2, none⟩ = some (.int .i64 r1) := hf 2 _ rfl
        have e3 : wr.cell? ⟨b, off + j * 5 + 3, none⟩ = some (.int .i64 k1) := hf 3 _ rfl
        have e4 : wr.cell? ⟨b, off + j * 5 + 4, none⟩ = some v1 := hf 4 _ rfl
        clear hf
        go_wp2_with fail
        refine (ih (.mk i1 n1 r1 k1 s1) wr B A _ lj _ (d + 1) ps.length ?_ hoj hAB (by omega) (hre.chg hcj (fun _ hb => hcb hb)) hokj (by omega) (by omega) (by omega) (by omega) hle).mono ?_
        · simp only [Nd.weigh] at hm hwj ⊢; omega
        rintro e w3 ⟨ao3, cap3, rfl, ho3, hc3, hn3⟩
        have hc03 := hcj.trans hc3 (fun b hb => (hnj b hb).imp id (fun h => by omega))
        have hb0j := hb0j.keep hc3 (fun e => by rcases hnj _ e with h | h; have := (hoB _ h).2; omega; omega)
        simp only [List.length_map] at ho3 hn3 ⊢
        go_wp2_with fail
        go_roundw
        case rel =>
          refine ⟨j + 1, ao3, cap3, hlt, by go_num, ?_, ?_, hc03, hb0j, ?_⟩
          · rw [Hfl.out]
          · rw [Hfl.out]; exact ho3
          · rw [Hfl.out]
            intro b hb
            rcases hn3 b hb with h | h
            · exact hnj b h
            · exact .inr (by omega)
        case measure => simp [intOf]; omega
      · have hjs : s.take j = s := List.take_of_length_le (by omega)
        rw [hjs] at hoj hnj ⊢
        have hfin : flatN ps (.mk i n r k s) d a = flatL (ps ++ [⟨.mk i n r k s, d, a⟩]) s (d + 1) ps.length := by simp only [flatN]; rw [if_neg (by omega)]
        have Hfin := Lib.hid hfin
        clear hfin hjs
        generalize flatL (ps ++ [⟨.mk i n r k s, d, a⟩]) s (d + 1) ps.length = lj at hoj hnj Hfin ⊢
        go_wp2_with fail
        go_ret
        rw [Hfin.out]
        exact ⟨aj, cj, by simp, by simpa using hoj, hcj, fun b hb => (hnj b (by simpa using hb)).imp id (fun h => by omega)⟩

/-- A slice of new memory that reads as ds (what its elements lead to may lie in S); nothing that was there has changed. -/
def RetList (k : Nat) (S : Nat → Prop) (ds : List Dt) (w : World) (e : Ending) (w' : World) : Prop :=
  ∃ ao cap, e = .returned (.slice ao ds.length cap) ∧ Reads w' (fun b => S b ∨ w.heap.size ≤ b) (.list k ds) [.slice ao ds.length cap] ∧ Chg NoB w w'

def flatOf (n : Nd) : List Pl := flatN [] n 1 (-1)

set_option maxHeartbeats 400000 in
theorem Flat_any (nd : Nd) (w : World) (S : Nat → Prop) (cs : List Value) (hr : Reads w S nd.dt cs) (hok : nd.ok) :
    Calls Tryz.prog 32 #[.agg cs.toArray] w (RetList 7 S ((flatOf nd).map Pl.dt) w) := by
  obtain ⟨i, n, r, k, s⟩ := nd
  obtain ⟨sv, rfl, hs⟩ := reads_nd.1 hr
  obtain ⟨sa, cap, rfl, hlen, hcap, hel⟩ := reads_subs hs
  have hrA := Reads.lt _ _ hr
  go_enter Tryz.func32, Tryz.ntmps32
  go_wp2_with fail
  generalize hw1 : w.alloc _ = w1
  have hc1 : Chg NoB w w1 := by
    rw [← hw1]
    repeat (first | exact Chg.refl _ _ | apply Chg.alloc | apply Chg.drew)
  have hw1s : w1.heap.size = w.heap.size + 1 := by rw [← hw1]; simp
  clear hw1
  refine (flat_any _ (.mk i n r k s) w1 w.heap.size (fun b => S b ∧ b < w.heap.size) _ [] _ 1 (-1) (Nat.le_refl _) (Own.nil _ _ _ _ _) (fun b hb => hb.2) (by omega) (hrA.chg0 hc1) hok (by omega) (by omega) (by omega) (by omega) (by simp)).mono ?_
  rintro e w2 ⟨ao, c2, rfl, ho, hc, hn⟩
  have hc2 : Chg NoB w w2 := hc1.trans hc (fun b hb => by cases hb)
  have hle := flatN_le (.mk i n r k s) [] 1 (-1) (by simp)
  have hf : flatN [] (.mk i n r k s) 1 (-1) = flatOf (.mk i n r k s) := rfl
  rw [hf] at ho hle ⊢
  clear hf hn hc
  go_wp2_with fail
  go_ret
  refine ⟨ao, c2, by simp, ho.reads (fun b hb => .inl hb.1) (fun b hb _ => .inr hb) (by simp [maxLen]; omega), hc2⟩

mutual
theorem flatN_ok : ∀ (n : Nd) (l : List Pl) (d a : Int), (∀ p ∈ l, p.n.ok) → n.ok → ∀ p ∈ flatN l n d a, p.n.ok
  | .mk i n r k s, l, d, a, h, hn => by
    simp only [flatN]
    split
    · exact h
    · refine flatL_ok s _ _ _ (fun p hp => ?_) hn.2.2.2.2.2
      rcases List.mem_append.1 hp with hp | hp
      · exact h p hp
      · simp only [List.mem_cons, List.not_mem_nil, or_false] at hp; subst hp; exact hn
theorem flatL_ok : ∀ (s : List Nd) (l : List Pl) (d a : Int), (∀ p ∈ l, p.n.ok) → Nd.oks s → ∀ p ∈ flatL l s d a, p.n.ok
  | [], l, d, a, h, _ => by simpa [flatL] using h
  | n :: ns, l, d, a, h, hs => by
    simp only [flatL]
    exact flatL_ok ns _ _ _ (flatN_ok n l d a h hs.1) hs.2
end

/-- How many bytes the names of the first k have. -/
def nameSum (l : List Pl) : Nat := (l.map fun p => p.n.name.size).sum
theorem nameSum_snoc (l : List Pl) (p : Pl) : nameSum (l ++ [p]) = nameSum l + p.n.name.size := by simp [nameSum]
theorem nameSum_le (l : List Pl) (h : ∀ p ∈ l, p.n.ok) : nameSum l ≤ l.length * reach := by
  induction l with
  | nil => simp [nameSum]
  | cons p ps ih =>
    have h1 := ih (fun q hq => h q (List.mem_cons_of_mem _ hq))
    have h2 : p.n.name.size ≤ reach := by
      have := h p (List.mem_cons_self ..)
      obtain ⟨⟨i, n, r, k, s⟩, d, a⟩ := p
      exact this.2.1
    have h3 : nameSum (p :: ps) = p.n.name.size + nameSum ps := by simp [nameSum]
    rw [h3, List.length_cons, Nat.succ_mul]
    omega
def tameB (n : Nd) : Bool := decide ((flatOf n).length ≤ 200) && decide (nameSum (flatOf n) ≤ 4000)

def TameRel (l : List Pl) (vn vi : Value) : Prop := ∃ j, j ≤ l.length ∧ vi = .int .i64 (j : Nat) ∧ vn = .int .i64 (nameSum (l.take j) : Nat)

set_option maxHeartbeats 400000 in
theorem tame_any (nd : Nd) (w : World) (S : Nat → Prop) (cs : List Value) (hr : Reads w S nd.dt cs) (hok : nd.ok) :
    Calls Tryz.prog 9 #[.agg cs.toArray] w (RetV (.bool (tameB nd)) w) := by
  obtain ⟨i, n, r, k, s⟩ := nd
  obtain ⟨sv, rfl, hs⟩ := reads_nd.1 hr
  obtain ⟨sa, cap, rfl, hlen, hcap, hel⟩ := reads_subs hs
  go_enter Tryz.func9, Tryz.ntmps9
  go_wp2_with fail
  generalize hw1 : w.alloc _ = w1
  have hc1 : Chg NoB w w1 := by
    rw [← hw1]
    repeat (first | exact Chg.refl _ _ | apply Chg.alloc | apply Chg.drew)
  clear hw1
  refine (Flat_any (.mk i n r k s) w1 S _ (hr.chg0 hc1) hok).mono ?_
  rintro e w2 ⟨ao, c2, rfl, hrl, hc⟩
  have hc2 : Chg NoB w w2 := hc1.tr hc
  have hle : (flatOf (.mk i n r k s)).length ≤ 2001 := flatN_le (.mk i n r k s) [] 1 (-1) (by simp)
  have hpok : ∀ p ∈ flatOf (.mk i n r k s), p.n.ok := flatN_ok (.mk i n r k s) [] 1 (-1) (fun p hp => by cases hp) hok
  have ht : tameB (.mk i n r k s) = (decide ((flatOf (.mk i n r k s)).length ≤ 200) && decide (nameSum (flatOf (.mk i n r k s)) ≤ 4000)) := rfl
  have Ht := Lib.hid ht
  clear ht hc
  obtain ⟨ao', c2', hv, hlen', hcap', hel'⟩ := reads_list hrl
  simp only [Value.slice.injEq, true_and] at hv
  obtain ⟨rfl, rfl⟩ := hv
  simp only [List.length_map] at hel' hlen' ⊢
  generalize flatOf (.mk i n r k s) = l at hel' hle hpok Ht ⊢
  clear hrl
  go_wp2_with fail
  go_loop [4, 5] (fun vn vi => TameRel l vn vi) (fun _ vi => l.length - (intOf vi).toNat)
  case atStart => exact ⟨0, Nat.zero_le _, rfl, rfl⟩
  case round =>
    obtain ⟨j, hj, rfl, rfl⟩ := hrel
    by_cases hlt : j < l.length
    · obtain ⟨b, off, rfl, hSb, hbw, hE⟩ := hel' (by omega)
      obtain ⟨ecs, hl7, hcells, hre⟩ := hE.get j l[j].dt (by simp [hlt])
      have hmem : l[j] ∈ l := List.getElem_mem hlt
      have hokj := hpok _ hmem
      have htake : l.take (j + 1) = l.take j ++ [l[j]] := List.take_succ_eq_append_getElem hlt
      generalize l[j] = pj at hre hokj htake
      have hsum := nameSum_snoc (l.take j) pj
      rw [← htake] at hsum
      have Hsum := Lib.hid hsum
      have hsl := nameSum_le (l.take j) (fun p hp => hpok p (List.mem_of_mem_take hp))
      rw [List.length_take, Nat.min_eq_left (by omega)] at hsl
      have hsl2 : nameSum (l.take j) ≤ 2001 * reach := Nat.le_trans hsl (Nat.mul_le_mul_right _ (by omega))
      clear htake hsum hsl
      obtain ⟨⟨i1, n1, r1, k1, s1⟩, d1, a1⟩ := pj
      have hn1 : n1.size ≤ reach := hokj.2.1
      obtain ⟨c, r', rfl, hnd, hrest⟩ := hre
      obtain ⟨v1, rfl, _⟩ := reads_nd.1 hnd
      have e1 : w2.cell? ⟨b, off + j * 7 + 1, none⟩ = some (.string n1) := hcells 1 _ rfl
      unfold reach at hn1 hsl2
      generalize nameSum (l.take j) = q at Hsum hsl2 ⊢
      clear hcells
      go_wp2_with fail
      go_round
      case rel => exact ⟨j + 1, hlt, by go_num, by rw [Hsum.out]; simp [Nd.name]⟩
      case measure => simp [intOf]; omega
    · have hjs : l.take j = l := List.take_of_length_le (by omega)
      rw [hjs]
      generalize nameSum l = q at Ht
      by_cases h2 : l.length ≤ 200
      · go_wp2_with fail
        go_ret
        refine ⟨?_, hc2⟩
        rw [Ht.out]
        first | (simp [h2]; done) | (simp [h2]; omega)
      · go_wp2_with fail
        go_ret
        refine ⟨?_, hc2⟩
        rw [Ht.out]
        first | (simp [h2]; done) | (simp [h2]; omega)
end Go.Proofs.YtfbbfhhhfbibjaaGreatDoor
