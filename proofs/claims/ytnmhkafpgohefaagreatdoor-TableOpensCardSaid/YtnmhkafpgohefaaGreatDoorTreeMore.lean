/-
  strings.Builder: what WriteString does to a builder of the call's own, with all that it leaves as it was (the shelf's contract, walked over this translation, whose copyCheck bears a stop).; A tree of nodes that is written in place: each list of nodes lies in a row of its own; the blocks are listed, none stands twice. What becomes of the tree when one of its nodes is written.; append of one node to
-/
import Derived.Test.YtnmhkafpgohefaaGreatDoorProg
import Derived.Test.YtnmhkafpgohefaaGreatDoorNode
import Derived.Lib.Builder
import Derived.Lib.AppendStr
import Derived.Lib.UnsafeStr
import Derived.Lib.MakeNoZero
import Derived.Laws.Externs
import Derived.Lib.OthersKept
import Derived.Maps.AppendAt
import Derived.Test.YtnmhkafpgohefaaGreatDoorWalk
import Derived.OpenShut
import Derived.ProofKit
import Derived.Laws.CopyRow
import Derived.Lib.SliceRun
import Derived.ArgAppend
set_option linter.unusedVariables false
set_option maxHeartbeats 20000000
set_option maxRecDepth 100000
set_option linter.unusedSimpArgs false
namespace Go.Proofs.YtnmhkafpgohefaaGreatDoor
open Go.RowKit
theorem bd_size : (Tryz.prog.info? 169).map (·.size) = some 2 := by kernel_rfl
theorem bd_lies : liesAt Tryz.prog Tryz.prog.depth 169 (2 / Tryz.prog.cellsOf 169) 0 169 1 = true := by kernel_rfl
theorem infoByte : (Tryz.prog.info? 5).map (fun i => (i.zero, i.size, i.bytes)) = some (some (.int .u8 0), 1, 1) := by kernel_rfl
abbrev IsB (B b : Nat) (bs : List Value) (w : World) : Prop := Lib.IsBuilder 169 5 B b bs w
abbrev BAt (B b : Nat) (p : Value) (bs : List Value) (w : World) : Prop := Lib.BuilderAt 169 5 B b p bs w
theorem copyCheck_used (b : Nat) (w : World) (h0 : w.cell? ⟨b, 0, none⟩ = some (.pointer (some ⟨b, 0, none⟩))) :
  Calls Tryz.prog 131 #[.pointer (some ⟨b, 0, none⟩)] w fun e w' => e = .returned (.tuple #[]) ∧ w' = w := by
 obtain ⟨j, hj, _⟩ := Option.map_eq_some_iff.1 bd_size
 go_enter Tryz.func131, Tryz.ntmps131
 go_wp2_with fail
 rw [Lib.run_neq_ptr_same w _ Tryz.underlying167 hj]
 go_wp2_with fail
 go_end0
 exact ⟨rfl, rfl⟩
theorem copyCheck_fresh (b : Nat) (w : World) (h0 : w.cell? ⟨b, 0, none⟩ = some (.pointer none)) (hsh : w.shape? b = some (169, 2)) (hfz : w.frozen? ⟨b, 0, none⟩ = false) :
  Calls Tryz.prog 131 #[.pointer (some ⟨b, 0, none⟩)] w fun e w' => e = .returned (.tuple #[]) ∧ w' = w.setCell ⟨b, 0, none⟩ (.pointer (some ⟨b, 0, none⟩)) := by
 obtain ⟨j, hj, hjs⟩ := Option.map_eq_some_iff.1 bd_size
 go_enter Tryz.func131, Tryz.ntmps131
 go_wp2_with fail
 rw [Lib.run_to_unsafe w ⟨b, 0, none⟩ Tryz.underlying167 Tryz.underlying135 hj (by rw [hjs]; decide) hsh (Nat.zero_lt_succ 1)]
 simp only [Result.andThen]
 rw [Oper.upon_value]
 go_wp2_with fail
 rw [run_callFunc_extern Tryz.func156 (by kernel_rfl) (by kernel_rfl) (by kernel_rfl) (e := Extern.AbiNoEscape.same) (by kernel_rfl)]
 rw [Lib.run_noEscape]
 simp only [Result.andThen]
 rw [Oper.upon_value]
 go_wp2_with fail
 rw [Lib.run_from_unsafe w ⟨b, 0, none⟩ Tryz.underlying135 Tryz.underlying167 hj hsh bd_lies]
 simp only [Result.andThen]
 rw [Oper.upon_value]
 go_wp2_with fail
 go_end0
 exact ⟨rfl, rfl⟩
theorem copyCheck_any (B b : Nat) (bs : List Value) (w : World) (h : IsB B b bs w) :
  Calls Tryz.prog 131 #[.pointer (some ⟨b, 0, none⟩)] w fun e w' => e = .returned (.tuple #[]) ∧ BAt B b (.pointer (some ⟨b, 0, none⟩)) bs w' ∧ Chg (RowsOf w 5 B b) w w' := by
 rcases h with h | h
 ·refine (copyCheck_fresh b w h.cell0 h.shape h.frozen0).mono ?_
  rintro e w' ⟨rfl, rfl⟩
  exact ⟨rfl, h.used _, (Chg.refl _ w).setCell (p := ⟨b, 0, none⟩) (.inl ⟨h.1, .inl rfl⟩) _⟩
 ·refine (copyCheck_used b w h.cell0).mono ?_
  rintro e w' ⟨rfl, rfl⟩
  exact ⟨rfl, h, Chg.refl _ _⟩
theorem writeString_any (B b : Nat) (bs : List Value) (s : ByteArray) (w : World) (h : IsB B b bs w) (hlen : bs.length + s.size ≤ 140737488355328) (hBw : B ≤ w.heap.size) :
  Calls Tryz.prog 93 #[.pointer (some ⟨b, 0, none⟩), .string s] w fun e w' => e = .returned (.tuple #[.int .i64 s.size, .nilIface]) ∧ IsB B b (bs ++ Lib.strCells s) w' ∧ Chg (RowsOf w 5 B b) w w' := by
 obtain ⟨i0, hi, hz0, hz1, hz2⟩ := info_parts infoByte
 go_enter Tryz.func93, Tryz.ntmps93
 go_wp2_with fail
 refine (copyCheck_any B b bs w h).mono ?_
 rintro e w1 ⟨rfl, h1, hc1⟩
 obtain ⟨hB, v, hbk, hown, hne⟩ := h1
 have c0 : w1.cell? ⟨b, 0, none⟩ = some (.pointer (some ⟨b, 0, none⟩)) := by rw [Lib.cell_of_heap hbk]; rfl
 have c1 : w1.cell? ⟨b, 1, none⟩ = some v := by rw [Lib.cell_of_heap hbk]; rfl
 go_wp2_with (at_builtin; refine Lib.wpList_append_own_string _ rfl _ _ 63 9 rfl B 5 i0 Tryz.underlying63 Tryz.underlying9 hi hz0 hz1 hz2 _ _ _ rfl hown s rfl ?c3 ?c4 ?c5 ?_)
 case c3 => unfold maxLen; omega
 case c4 => omega
 case c5 => have := hc1.size; omega
 intro v' w2 hown' hgrow _
 have hlt : b < w1.heap.size := lt_of_block hbk
 have hb2 : w2.heap[b]? = some (.cells #[.pointer (some ⟨b, 0, none⟩), v] 169 (0, 0)) := by
  rw [hgrow.block b hlt (fun e => hne e.symm)]
  exact hbk
 have d0 : w2.cell? ⟨b, 0, none⟩ = some (.pointer (some ⟨b, 0, none⟩)) := by rw [Lib.cell_of_heap hb2]; rfl
 have d1 : w2.cell? ⟨b, 1, none⟩ = some v := by rw [Lib.cell_of_heap hb2]; rfl
 have f1 : w2.frozen? ⟨b, 1, none⟩ = false := Lib.frozen_of_heap hb2 1
 obtain ⟨ao, n', cap, rfl⟩ : ∃ ao n' cap, v' = .slice ao n' cap := by
  rcases hown'.2 with ⟨hv, _⟩ | ⟨g, cap, cur, hv, _⟩
  ·exact ⟨_, _, _, hv⟩
  ·exact ⟨_, _, _, hv⟩
 have hrow : ∀ g, v.ownBlock = some g → RowsOf w1 5 B b g := fun g hg => by
  rcases hown.2 with ⟨rfl, _⟩ | ⟨g', cap, cur, rfl, hb', hg', _⟩
  ·cases hg
  ·obtain rfl := Option.some.inj hg
   exact ⟨hb', .inr ⟨_, _, hg'⟩⟩
 go_wp2_with fail
 go_ret2
 refine ⟨rfl, .inr ?_, ?_⟩
 ·exact Lib.BuilderAt.put (T := 169) (e := 5) hB hb2 (bs' := bs ++ Lib.strCells s) (by simpa [Lib.strCells_length] using hown') (by decide)
 ·exact hc1.rows (((Chg.refl _ w1).grown hgrow (fun k hk => .inl (hrow k hk))).setCell (p := ⟨b, 1, none⟩) (.inl ⟨hB, .inl rfl⟩) _)
theorem IsB.keep {B b : Nat} {bs : List Value} {C : Nat → Prop} {w w' : World} (h : IsB B b bs w) (hc : Chg C w w') (hb : ¬ C b) (hrow : ∀ k c fz, B ≤ k → w.heap[k]? = some (.cells c 5 fz) → ¬ C k) : IsB B b bs w' := by
 have key : ∀ p, BAt B b p bs w → BAt B b p bs w' := by
  rintro p ⟨hB, v, hbk, hown, hne⟩
  refine ⟨hB, v, hc.at hbk hb, ⟨hown.1, ?_⟩, hne⟩
  rcases hown.2 with h0 | ⟨g, cap, cur, rfl, hg, hh, r⟩
  ·exact .inl h0
  ·exact .inr ⟨g, cap, cur, rfl, hg, hc.at hh (hrow g _ _ hg hh), r⟩
 exact h.imp (key _) (key _)
theorem IsB.keep0 {B b : Nat} {bs : List Value} {w w' : World} (h : IsB B b bs w) (hc : Chg NoB w w') : IsB B b bs w' := h.keep hc nbE (fun _ _ _ _ _ => nbE)
theorem IsB.lt {B b : Nat} {bs : List Value} {w : World} (h : IsB B b bs w) : b < w.heap.size := h.elim Lib.BuilderAt.lt Lib.BuilderAt.lt
theorem IsB.from {B b : Nat} {bs : List Value} {w : World} (h : IsB B b bs w) : B ≤ b := h.elim (·.1) (·.1)
mutual
def TrN (w : World) (B : Nat) : Nd → List Value → List Nat → Prop
 | .mk i n r k s, cs, F => ∃ v, cs = ndCells i n r k v ∧ ((s = [] ∧ v = .slice none 0 0 ∧ F = []) ∨
   ∃ b cap cur F', v = .slice (some ⟨b, 0, none⟩) s.length cap ∧ s.length ≤ cap ∧ cap ≤ maxLen ∧ B ≤ b ∧ Blk w b cur 56 ∧ cur.length = cap * 5 ∧ TrC w B s cur F' ∧ F = b :: F')
def TrC (w : World) (B : Nat) : List Nd → List Value → List Nat → Prop
 | [], _, F => F = []
 | n :: ns, xs, F => ∃ c r F1 F2, xs = c ++ r ∧ TrN w B n c F1 ∧ TrC w B ns r F2 ∧ F = F1 ++ F2
end
def TrL (w : World) (B : Nat) (s : List Nd) (v : Value) (F : List Nat) : Prop :=
 (s = [] ∧ v = .slice none 0 0 ∧ F = []) ∨
  ∃ b cap cur F', v = .slice (some ⟨b, 0, none⟩) s.length cap ∧ s.length ≤ cap ∧ cap ≤ maxLen ∧ B ≤ b ∧ Blk w b cur 56 ∧ cur.length = cap * 5 ∧ TrC w B s cur F' ∧ F = b :: F'
theorem trN {w : World} {B : Nat} {i : Int} {n : ByteArray} {r k : Int} {s : List Nd} {cs : List Value} {F : List Nat} :
  TrN w B (.mk i n r k s) cs F ↔ ∃ v, cs = ndCells i n r k v ∧ TrL w B s v F := by
 simp only [TrN, TrL]
theorem trC_cons {w : World} {B : Nat} {n : Nd} {ns : List Nd} {xs : List Value} {F : List Nat} :
  TrC w B (n :: ns) xs F ↔ ∃ c r F1 F2, xs = c ++ r ∧ TrN w B n c F1 ∧ TrC w B ns r F2 ∧ F = F1 ++ F2 := by
 simp only [TrC]
theorem trC_nil {w : World} {B : Nat} {xs : List Value} {F : List Nat} : TrC w B [] xs F ↔ F = [] := by
 simp only [TrC]
mutual
theorem TrN.keep {w w' : World} {B : Nat} : ∀ (n : Nd) (cs : List Value) (F : List Nat), TrN w B n cs F → (∀ k ∈ F, w'.heap[k]? = w.heap[k]?) → TrN w' B n cs F
 | .mk i nm r k s, cs, F, h, hk => by
  obtain ⟨v, h1, h2⟩ := trN.1 h
  refine trN.2 ⟨v, h1, ?_⟩
  rcases h2 with h2 | ⟨b, cap, cur, F', e1, e2, e3, e4, e5, e6, e7, rfl⟩
  ·exact .inl h2
  ·exact .inr ⟨b, cap, cur, F', e1, e2, e3, e4, (hk b (List.mem_cons_self ..)).trans e5, e6, TrC.keep s cur F' e7 (fun k hk' => hk k (List.mem_cons_of_mem _ hk')), rfl⟩
theorem TrC.keep {w w' : World} {B : Nat} : ∀ (s : List Nd) (xs : List Value) (F : List Nat), TrC w B s xs F → (∀ k ∈ F, w'.heap[k]? = w.heap[k]?) → TrC w' B s xs F
 | [], xs, F, h, _ => trC_nil.2 (trC_nil.1 h)
 | n :: ns, xs, F, h, hk => by
  obtain ⟨c, r, F1, F2, h1, h2, h3, rfl⟩ := trC_cons.1 h
  exact trC_cons.2 ⟨c, r, F1, F2, h1, TrN.keep n c F1 h2 (fun k x => hk k (List.mem_append_left _ x)), TrC.keep ns r F2 h3 (fun k x => hk k (List.mem_append_right _ x)), rfl⟩
end
theorem TrL.keep {w w' : World} {B : Nat} {s : List Nd} {v : Value} {F : List Nat} (h : TrL w B s v F) (hk : ∀ k ∈ F, w'.heap[k]? = w.heap[k]?) : TrL w' B s v F := by
 rcases h with h | ⟨b, cap, cur, F', e1, e2, e3, e4, e5, e6, e7, rfl⟩
 ·exact .inl h
 ·exact .inr ⟨b, cap, cur, F', e1, e2, e3, e4, (hk b (List.mem_cons_self ..)).trans e5, e6, TrC.keep s cur F' e7 (fun k hk' => hk k (List.mem_cons_of_mem _ hk')), rfl⟩
mutual
theorem TrN.lt {w : World} {B : Nat} : ∀ (n : Nd) (cs : List Value) (F : List Nat), TrN w B n cs F → ∀ k ∈ F, B ≤ k ∧ k < w.heap.size
 | .mk i nm r k s, cs, F, h => by
  obtain ⟨v, h1, h2⟩ := trN.1 h
  rcases h2 with ⟨_, _, rfl⟩ | ⟨b, cap, cur, F', e1, e2, e3, e4, e5, e6, e7, rfl⟩
  ·exact fun k hk => (List.not_mem_nil hk).elim
  ·intro k hk
   rcases List.mem_cons.1 hk with rfl | hk
   ·exact ⟨e4, e5.lt⟩
   ·exact TrC.lt s cur F' e7 k hk
theorem TrC.lt {w : World} {B : Nat} : ∀ (s : List Nd) (xs : List Value) (F : List Nat), TrC w B s xs F → ∀ k ∈ F, B ≤ k ∧ k < w.heap.size
 | [], xs, F, h => by
  obtain rfl := trC_nil.1 h
  exact fun k hk => (List.not_mem_nil hk).elim
 | n :: ns, xs, F, h => by
  obtain ⟨c, r, F1, F2, h1, h2, h3, rfl⟩ := trC_cons.1 h
  intro k hk
  rcases List.mem_append.1 hk with hk | hk
  ·exact TrN.lt n c F1 h2 k hk
  ·exact TrC.lt ns r F2 h3 k hk
end
theorem TrL.lt {w : World} {B : Nat} {s : List Nd} {v : Value} {F : List Nat} (h : TrL w B s v F) : ∀ k ∈ F, B ≤ k ∧ k < w.heap.size :=
 TrN.lt (.mk 0 ⟨#[]⟩ 0 0 s) _ F (trN.2 ⟨v, rfl, h⟩)
theorem TrN.five {w : World} {B : Nat} {n : Nd} {cs : List Value} {F : List Nat} (h : TrN w B n cs F) : cs.length = 5 := by
 cases n
 obtain ⟨v, rfl, _⟩ := trN.1 h
 rfl
mutual
theorem TrN.mono {w : World} {B B' : Nat} (hB : B' ≤ B) : ∀ (n : Nd) (cs : List Value) (F : List Nat), TrN w B n cs F → TrN w B' n cs F
 | .mk i nm r k s, cs, F, h => by
  obtain ⟨v, h1, h2⟩ := trN.1 h
  refine trN.2 ⟨v, h1, ?_⟩
  rcases h2 with h2 | ⟨b, cap, cur, F', e1, e2, e3, e4, e5, e6, e7, rfl⟩
  ·exact .inl h2
  ·exact .inr ⟨b, cap, cur, F', e1, e2, e3, Nat.le_trans hB e4, e5, e6, TrC.mono hB s cur F' e7, rfl⟩
theorem TrC.mono {w : World} {B B' : Nat} (hB : B' ≤ B) : ∀ (s : List Nd) (xs : List Value) (F : List Nat), TrC w B s xs F → TrC w B' s xs F
 | [], xs, F, h => trC_nil.2 (trC_nil.1 h)
 | n :: ns, xs, F, h => by
  obtain ⟨c, r, F1, F2, h1, h2, h3, rfl⟩ := trC_cons.1 h
  exact trC_cons.2 ⟨c, r, F1, F2, h1, TrN.mono hB n c F1 h2, TrC.mono hB ns r F2 h3, rfl⟩
end
theorem TrL.mono {w : World} {B B' : Nat} {s : List Nd} {v : Value} {F : List Nat} (h : TrL w B s v F) (hB : B' ≤ B) : TrL w B' s v F := by
 obtain ⟨v', h1, h2⟩ := trN.1 (TrN.mono hB (.mk 0 ⟨#[]⟩ 0 0 s) _ F (trN.2 ⟨v, rfl, h⟩))
 have h3 : v = v' := by simpa [ndCells] using h1
 exact h3 ▸ h2
mutual
theorem TrN.reads {w : World} {B : Nat} {S : Nat → Prop} : ∀ (n : Nd) (cs : List Value) (F : List Nat), TrN w B n cs F → (∀ k ∈ F, S k) → Reads w S n.dt cs
 | .mk i nm r k s, cs, F, h, hS => by
  obtain ⟨v, h1, h2⟩ := trN.1 h
  refine reads_nd.2 ⟨v, h1, ?_⟩
  rcases h2 with ⟨rfl, rfl, _⟩ | ⟨b, cap, cur, F', rfl, e2, e3, e4, e5, e6, e7, rfl⟩
  ·exact ⟨none, 0, rfl, Nat.le_refl _, Nat.zero_le _, .inl ⟨rfl, fun _ => rfl⟩⟩
  ·have hl : (Nd.dts s).length = s.length := by rw [Nd.dts_eq, List.length_map]
   refine ⟨some ⟨b, 0, none⟩, cap, by rw [hl], by rw [hl]; exact e2, e3, .inr ⟨b, 0, rfl, hS b (List.mem_cons_self ..), e5.lt, ?_⟩⟩
   exact TrC.readsE s cur F' e7 (fun k hk => hS k (List.mem_cons_of_mem _ hk)) b 0 (fun j c hj => by rw [Nat.zero_add, e5.cell j]; exact hj)
theorem TrC.readsE {w : World} {B : Nat} {S : Nat → Prop} : ∀ (s : List Nd) (xs : List Value) (F : List Nat), TrC w B s xs F → (∀ k ∈ F, S k) → ∀ (b off : Nat), (∀ j c, xs[j]? = some c → w.cell? ⟨b, off + j, none⟩ = some c) → ReadsE w S 5 b off (Nd.dts s)
 | [], xs, F, h, _, _, _, _ => True.intro
 | n :: ns, xs, F, h, hS, b, off, hc => by
  obtain ⟨c, r, F1, F2, rfl, h2, h3, rfl⟩ := trC_cons.1 h
  have h5 := h2.five
  refine ⟨⟨c, h5, fun j x hj => hc j x ?_, TrN.reads n c F1 h2 (fun k x => hS k (List.mem_append_left _ x))⟩, TrC.readsE ns r F2 h3 (fun k x => hS k (List.mem_append_right _ x)) b (off + 5) (fun j x hj => ?_)⟩
  ·rw [List.getElem?_append_left (List.getElem?_eq_some_iff.1 hj).1]; exact hj
  ·have := hc (5 + j) x (by rw [List.getElem?_append_right (by omega), h5]; simpa using hj)
   rw [← Nat.add_assoc] at this
   exact this
end
theorem TrL.reads {w : World} {B : Nat} {S : Nat → Prop} {s : List Nd} {v : Value} {F : List Nat} (h : TrL w B s v F) (hS : ∀ k ∈ F, S k) : Reads w S (.list 5 (Nd.dts s)) [v] := by
 obtain ⟨v', h1, h2⟩ := reads_nd.1 (TrN.reads (S := S) (.mk 0 ⟨#[]⟩ 0 0 s) _ F (trN.2 ⟨v, rfl, h⟩) hS)
 have h3 : v = v' := by simpa [ndCells] using h1
 exact h3 ▸ h2
theorem TrL.form {w : World} {B : Nat} {s : List Nd} {v : Value} {F : List Nat} (h : TrL w B s v F) : ∃ a c, v = .slice a s.length c ∧ s.length ≤ c ∧ c ≤ maxLen := by
 rcases h with ⟨rfl, rfl, _⟩ | ⟨b, cap, cur, F', rfl, e2, e3, _⟩
 ·exact ⟨none, 0, rfl, Nat.le_refl _, Nat.zero_le _⟩
 ·exact ⟨_, _, rfl, e2, e3⟩
theorem trC_split {w : World} {B : Nat} : ∀ {l1 l2 : List Nd} {xs : List Value} {F : List Nat}, TrC w B (l1 ++ l2) xs F ↔ ∃ x1 x2 F1 F2, xs = x1 ++ x2 ∧ x1.length = l1.length * 5 ∧ TrC w B l1 x1 F1 ∧ TrC w B l2 x2 F2 ∧ F = F1 ++ F2
 | [], l2, xs, F => by
  constructor
  ·intro h
   exact ⟨[], xs, [], F, rfl, rfl, trC_nil.2 rfl, h, rfl⟩
  ·rintro ⟨x1, x2, F1, F2, rfl, h1, h2, h3, rfl⟩
   obtain rfl := List.eq_nil_of_length_eq_zero h1
   obtain rfl := trC_nil.1 h2
   exact h3
 | n :: l1, l2, xs, F => by
  rw [List.cons_append, trC_cons]
  constructor
  ·rintro ⟨c, r, F1, F2, rfl, h2, h3, rfl⟩
   obtain ⟨x1, x2, G1, G2, rfl, g1, g2, g3, rfl⟩ := trC_split.1 h3
   exact ⟨c ++ x1, x2, F1 ++ G1, G2, by rw [List.append_assoc], by rw [List.length_append, h2.five, g1, List.length_cons]; omega, trC_cons.2 ⟨c, x1, F1, G1, rfl, h2, g2, rfl⟩, g3, by rw [List.append_assoc]⟩
  ·rintro ⟨x1, x2, F1, F2, rfl, h1, h2, h3, rfl⟩
   obtain ⟨c, r, G1, G2, rfl, g1, g2, rfl⟩ := trC_cons.1 h2
   rw [List.length_append, g1.five, List.length_cons] at h1
   exact ⟨c, r ++ x2, G1, G2 ++ F2, by rw [List.append_assoc], g1, trC_split.2 ⟨r, x2, G2, F2, rfl, by omega, g2, h3, rfl⟩, by rw [List.append_assoc]⟩
theorem TrC.junk {w : World} {B : Nat} {l : List Nd} {xs : List Value} {F : List Nat} (h : TrC w B l xs F) : ∃ x1 x2, xs = x1 ++ x2 ∧ x1.length = l.length * 5 ∧ TrC w B l x1 F := by
 obtain ⟨x1, x2, F1, F2, h1, h2, h3, h4, rfl⟩ := trC_split.1 (show TrC w B (l ++ []) xs F by rw [List.append_nil]; exact h)
 obtain rfl := trC_nil.1 h4
 exact ⟨x1, x2, h1, h2, by rw [List.append_nil]; exact h3⟩
theorem TrC.more {w : World} {B : Nat} {l : List Nd} {xs : List Value} {F : List Nat} (h : TrC w B l xs F) (ys : List Value) : TrC w B l (xs ++ ys) F := by
 obtain ⟨x1, x2, rfl, h2, h3⟩ := h.junk
 have := trC_split.2 ⟨x1, x2 ++ ys, F, [], rfl, h2, h3, trC_nil.2 rfl, rfl⟩
 rw [List.append_nil, List.append_nil] at this
 rw [List.append_assoc]
 exact this
theorem TrC.chunks {w : World} {B : Nat} : ∀ {s : List Nd} {xs : List Value} {F : List Nat}, TrC w B s xs F →
  ∃ (L : List (Nd × List Value × List Nat)) (r : List Value), L.map (·.1) = s ∧ xs = L.flatMap (·.2.1) ++ r ∧ F = L.flatMap (·.2.2) ∧ ∀ x ∈ L, TrN w B x.1 x.2.1 x.2.2
 | [], xs, F, h => ⟨[], xs, rfl, rfl, trC_nil.1 h, fun x hx => (List.not_mem_nil hx).elim⟩
 | n :: ns, xs, F, h => by
  obtain ⟨c, r, F1, F2, rfl, h2, h3, rfl⟩ := trC_cons.1 h
  obtain ⟨L, q, rfl, rfl, rfl, h4⟩ := h3.chunks
  refine ⟨(n, c, F1) :: L, q, rfl, by simp, by simp, fun x hx => ?_⟩
  rcases List.mem_cons.1 hx with rfl | hx
  ·exact h2
  ·exact h4 x hx
theorem TrC.ofChunks {w : World} {B : Nat} : ∀ (L : List (Nd × List Value × List Nat)) (r : List Value), (∀ x ∈ L, TrN w B x.1 x.2.1 x.2.2) → TrC w B (L.map (·.1)) (L.flatMap (·.2.1) ++ r) (L.flatMap (·.2.2))
 | [], r, h => trC_nil.2 rfl
 | x :: L, r, h => by
  refine trC_cons.2 ⟨x.2.1, L.flatMap (·.2.1) ++ r, x.2.2, L.flatMap (·.2.2), by simp, h x (List.mem_cons_self ..), TrC.ofChunks L r (fun y hy => h y (List.mem_cons_of_mem _ hy)), by simp⟩
def PtN (w : World) (B b o : Nat) (n : Nd) (F : List Nat) : Prop :=
 ∃ pre cs post T, pre.length = o ∧ Blk w b (pre ++ (cs ++ post)) T ∧ TrN w B n cs F ∧ b ∉ F ∧ F.Nodup
structure Upd (w : World) (B b o : Nat) (n : Nd) (F : List Nat) (w' : World) (n' : Nd) (F' : List Nat) : Prop where
 cells : ∃ pre cs cs' post T, pre.length = o ∧ Blk w b (pre ++ (cs ++ post)) T ∧ Blk w' b (pre ++ (cs' ++ post)) T ∧ TrN w B n cs F ∧ TrN w' B n' cs' F'
 out : b ∉ F
 out' : b ∉ F'
 nd : F.Nodup
 nd' : F'.Nodup
 sub : ∀ k ∈ F', k ∈ F ∨ w.heap.size ≤ k
 chg : Chg (fun k => k = b ∨ k ∈ F) w w'
theorem PtN.refl {w : World} {B b o : Nat} {n : Nd} {F : List Nat} (h : PtN w B b o n F) : Upd w B b o n F w n F := by
 obtain ⟨pre, cs, post, T, h1, h2, h3, h4, h5⟩ := h
 exact ⟨⟨pre, cs, cs, post, T, h1, h2, h2, h3, h3⟩, h4, h4, h5, h5, fun k hk => .inl hk, Chg.refl _ _⟩
theorem Upd.pt {w w' : World} {B b o : Nat} {n n' : Nd} {F F' : List Nat} (h : Upd w B b o n F w' n' F') : PtN w B b o n F := by
 obtain ⟨pre, cs, cs', post, T, h1, h2, h3, h4, h5⟩ := h.cells
 exact ⟨pre, cs, post, T, h1, h2, h4, h.out, h.nd⟩
theorem Upd.pt' {w w' : World} {B b o : Nat} {n n' : Nd} {F F' : List Nat} (h : Upd w B b o n F w' n' F') : PtN w' B b o n' F' := by
 obtain ⟨pre, cs, cs', post, T, h1, h2, h3, h4, h5⟩ := h.cells
 exact ⟨pre, cs', post, T, h1, h3, h5, h.out', h.nd'⟩
theorem blk_eq {w : World} {b : Nat} {cs cs' : List Value} {t t' : TypeId} (h : Blk w b cs t) (h' : Blk w b cs' t') : cs = cs' ∧ t = t' := by
 have h1 := h.symm.trans h'
 simp only [Option.some.injEq, Obj.cells.injEq, and_true] at h1
 exact ⟨by simpa using congrArg Array.toList h1.1, h1.2⟩
mutual
theorem TrN.one {w : World} {B : Nat} : ∀ (n : Nd) (cs : List Value) (F F' : List Nat), TrN w B n cs F → TrN w B n cs F' → F = F'
 | .mk i nm r k s, cs, F, F', h, h' => by
  obtain ⟨v, h1, h2⟩ := trN.1 h
  obtain ⟨v', h1', h2'⟩ := trN.1 h'
  have hv : v = v' := by simpa [ndCells] using h1.symm.trans h1'
  subst hv
  rcases h2 with ⟨_, rfl, rfl⟩ | ⟨b, cap, cur, G, rfl, e2, e3, e4, e5, e6, e7, rfl⟩
  ·rcases h2' with ⟨_, _, rfl⟩ | ⟨b, cap, cur, G, e1, _⟩
   ·rfl
   ·cases e1
  ·rcases h2' with ⟨_, g1, rfl⟩ | ⟨b', cap', cur', G', g1, g2, g3, g4, g5, g6, g7, rfl⟩
   ·cases g1
   ·obtain ⟨ha, -, rfl⟩ := Value.slice.inj g1
    obtain rfl : b = b' := by simpa using ha
    obtain ⟨rfl, _⟩ := blk_eq e5 g5
    rw [TrC.one s cur G G' e7 g7]
theorem TrC.one {w : World} {B : Nat} : ∀ (s : List Nd) (xs : List Value) (F F' : List Nat), TrC w B s xs F → TrC w B s xs F' → F = F'
 | [], xs, F, F', h, h' => (trC_nil.1 h).trans (trC_nil.1 h').symm
 | n :: ns, xs, F, F', h, h' => by
  obtain ⟨c, r, F1, F2, rfl, h2, h3, rfl⟩ := trC_cons.1 h
  obtain ⟨c', r', G1, G2, e, g2, g3, rfl⟩ := trC_cons.1 h'
  obtain ⟨rfl, rfl⟩ := List.append_inj e (h2.five.trans g2.five.symm)
  rw [TrN.one n c F1 G1 h2 g2, TrC.one ns r F2 G2 h3 g3]
end
theorem PtN.one {w : World} {B b o : Nat} {n : Nd} {F F' : List Nat} (h : PtN w B b o n F) (h' : PtN w B b o n F') : F = F' := by
 obtain ⟨pre, cs, post, T, h1, h2, h3, _⟩ := h
 obtain ⟨pre2, ds, post2, T2, g1, g2, g3, _⟩ := h'
 obtain ⟨e1, rfl⟩ := blk_eq h2 g2
 obtain ⟨rfl, e2⟩ := List.append_inj e1 (h1.trans g1.symm)
 obtain ⟨rfl, rfl⟩ := List.append_inj e2 (h3.five.trans g3.five.symm)
 exact TrN.one n cs F F' h3 g3
theorem Upd.trans {w w1 w2 : World} {B b o : Nat} {n n1 n2 : Nd} {F F1 F2 : List Nat} (h : Upd w B b o n F w1 n1 F1) (k : Upd w1 B b o n1 F1 w2 n2 F2) : Upd w B b o n F w2 n2 F2 := by
 obtain ⟨pre, cs, cs', post, T, h1, h2, h3, h4, h5⟩ := h.cells
 obtain ⟨pre2, ds, ds', post2, T2, g1, g2, g3, g4, g5⟩ := k.cells
 obtain ⟨e1, rfl⟩ := blk_eq h3 g2
 obtain ⟨rfl, e2⟩ := List.append_inj e1 (h1.trans g1.symm)
 obtain ⟨rfl, rfl⟩ := List.append_inj e2 (h5.five.trans g4.five.symm)
 refine ⟨⟨pre, cs, ds', post, T, h1, h2, g3, h4, g5⟩, h.out, k.out', h.nd, k.nd', fun x hx => ?_, h.chg.trans k.chg (fun x hx => ?_)⟩
 ·rcases k.sub x hx with y | y
  ·exact h.sub x y
  ·exact .inr (Nat.le_trans h.chg.size y)
 ·rcases hx with rfl | hx
  ·exact .inl (.inl rfl)
  ·rcases h.sub x hx with y | y
   ·exact .inl (.inr y)
   ·exact .inr y
theorem PtN.lt {w : World} {B b o : Nat} {n : Nd} {F : List Nat} (h : PtN w B b o n F) : b < w.heap.size ∧ ∀ k ∈ F, B ≤ k ∧ k < w.heap.size := by
 obtain ⟨pre, cs, post, T, h1, h2, h3, h4, h5⟩ := h
 exact ⟨h2.lt, TrN.lt n cs F h3⟩
theorem PtN.keep {C : Nat → Prop} {w w' : World} {B b o : Nat} {n : Nd} {F : List Nat} (h : PtN w B b o n F) (hc : Chg C w w') (hb : ¬ C b) (hF : ∀ k ∈ F, ¬ C k) : PtN w' B b o n F := by
 have hl := h.lt
 obtain ⟨pre, cs, post, T, h1, h2, h3, h4, h5⟩ := h
 exact ⟨pre, cs, post, T, h1, h2.keep hc hb, TrN.keep n cs F h3 (fun k hk => hc.block k (hl.2 k hk).2 (hF k hk)), h4, h5⟩
theorem PtN.keep0 {w w' : World} {B b o : Nat} {n : Nd} {F : List Nat} (h : PtN w B b o n F) (hc : Chg NoB w w') : PtN w' B b o n F := h.keep hc nbE (fun _ _ => nbE)
theorem Upd.later {C : Nat → Prop} {w w1 w2 : World} {B b o : Nat} {n n1 : Nd} {F F1 : List Nat} (h : Upd w B b o n F w1 n1 F1) (hc : Chg C w1 w2) (hb : ¬ C b) (hF : ∀ k ∈ F1, ¬ C k) (hD : ∀ k, C k → k ∈ F ∨ w.heap.size ≤ k) : Upd w B b o n F w2 n1 F1 := by
 have hl := h.pt'.lt
 obtain ⟨pre, cs, cs', post, T, h1, h2, h3, h4, h5⟩ := h.cells
 refine ⟨⟨pre, cs, cs', post, T, h1, h2, h3.keep hc hb, h4, TrN.keep n1 cs' F1 h5 (fun k hk => hc.block k (hl.2 k hk).2 (hF k hk))⟩, h.out, h.out', h.nd, h.nd', h.sub, h.chg.trans hc (fun k hk => ?_)⟩
 rcases hD k hk with y | y
 ·exact .inl (.inr y)
 ·exact .inr y
theorem Upd.later0 {w w1 w2 : World} {B b o : Nat} {n n1 : Nd} {F F1 : List Nat} (h : Upd w B b o n F w1 n1 F1) (hc : Chg NoB w1 w2) : Upd w B b o n F w2 n1 F1 := h.later hc nbE (fun _ _ => nbE) (fun _ hk => nbE hk)
theorem Upd.ahead {C : Nat → Prop} {w0 w w1 : World} {B b o : Nat} {n n1 : Nd} {F F1 : List Nat} (hc : Chg C w0 w) (h0 : PtN w0 B b o n F) (hb : ¬ C b) (hF : ∀ k ∈ F, ¬ C k) (hD : ∀ k, C k → w0.heap.size ≤ k) (h : Upd w B b o n F w1 n1 F1) : Upd w0 B b o n F w1 n1 F1 := by
 have hl := h0.lt
 obtain ⟨pre0, cs0, post0, T0, a1, a2, a3, a4, a5⟩ := h0
 obtain ⟨pre, cs, cs', post, T, h1, h2, h3, h4, h5⟩ := h.cells
 obtain ⟨e1, rfl⟩ := blk_eq (a2.keep hc hb) h2
 obtain ⟨rfl, e2⟩ := List.append_inj e1 (a1.trans h1.symm)
 obtain ⟨rfl, rfl⟩ := List.append_inj e2 (a3.five.trans h4.five.symm)
 refine ⟨⟨pre0, cs0, cs', post0, T0, a1, a2, h3, a3, h5⟩, h.out, h.out', h.nd, h.nd', fun k hk => ?_, (hc.mono (D := fun k => k = b ∨ k ∈ F) (fun x hx e => by have := hD x e; omega)).trans h.chg (fun x hx => .inl hx)⟩
 rcases h.sub k hk with y | y
 ·exact .inl y
 ·exact .inr (Nat.le_trans hc.size y)
theorem PtN.form {w : World} {B b o : Nat} {i : Int} {nm : ByteArray} {r k : Int} {s : List Nd} {F : List Nat} (h : PtN w B b o (.mk i nm r k s) F) :
  ∃ v, TrL w B s v F ∧ w.cell? ⟨b, o, none⟩ = some (.int .i64 i) ∧ w.cell? ⟨b, o + 1, none⟩ = some (.string nm) ∧ w.cell? ⟨b, o + 2, none⟩ = some (.int .i64 r) ∧ w.cell? ⟨b, o + 3, none⟩ = some (.int .i64 k) ∧ w.cell? ⟨b, o + 4, none⟩ = some v ∧
   (∀ j, w.frozen? ⟨b, j, none⟩ = false) := by
 obtain ⟨pre, cs, post, T, rfl, h2, h3, _⟩ := h
 obtain ⟨v, rfl, h4⟩ := trN.1 h3
 have hc : ∀ j x, (ndCells i nm r k v)[j]? = some x → w.cell? ⟨b, pre.length + j, none⟩ = some x := fun j x hj => by
  rw [h2.cell, List.getElem?_append_right (Nat.le_add_right _ _), Nat.add_sub_cancel_left, List.getElem?_append_left (List.getElem?_eq_some_iff.1 hj).1]
  exact hj
 exact ⟨v, h4, hc 0 _ rfl, hc 1 _ rfl, hc 2 _ rfl, hc 3 _ rfl, hc 4 _ rfl, fun j => h2.free j⟩
theorem set_mid {pre cs post : List Value} {j : Nat} (hj : j < cs.length) (v : Value) : (pre ++ (cs ++ post)).set (pre.length + j) v = pre ++ (cs.set j v ++ post) := by
 rw [List.set_append_right _ _ (Nat.le_add_right _ _), Nat.add_sub_cancel_left, List.set_append_left _ _ hj]
theorem PtN.field {w : World} {B b o : Nat} {i : Int} {nm : ByteArray} {r k : Int} {s : List Nd} {F : List Nat} (h : PtN w B b o (.mk i nm r k s) F) (j : Nat) (hj : j < 5) (u : Value) (i' : Int) (nm' : ByteArray) (r' k' : Int)
  (he : ∀ v, (ndCells i nm r k v).set j u = ndCells i' nm' r' k' v) : Upd w B b o (.mk i nm r k s) F (w.setCell ⟨b, o + j, none⟩ u) (.mk i' nm' r' k' s) F := by
 have hl := h.lt
 obtain ⟨pre, cs, post, T, rfl, h2, h3, h4, h5⟩ := h
 obtain ⟨v, rfl, h6⟩ := trN.1 h3
 have hs := h2.set (pre.length + j) u
 rw [set_mid (show j < (ndCells i nm r k v).length from hj), he v] at hs
 have hc : Chg (fun x => x = b ∨ x ∈ F) w (w.setCell ⟨b, pre.length + j, none⟩ u) := (Chg.refl _ w).setCell (p := ⟨b, pre.length + j, none⟩) (.inl (.inl rfl)) u
 refine ⟨⟨pre, _, _, post, T, rfl, h2, hs, h3, trN.2 ⟨v, rfl, h6.keep fun x hx => ?_⟩⟩, h4, h4, h5, h5, fun x hx => .inl hx, hc⟩
 exact Below.heap_setCell w ⟨b, pre.length + j, none⟩ u x (fun e => h4 (by have e : x = b := e; exact e ▸ hx))
theorem PtN.list {w w1 : World} {B b o : Nat} {i : Int} {nm : ByteArray} {r k : Int} {s s' : List Nd} {F F' : List Nat} {v' : Value} (h : PtN w B b o (.mk i nm r k s) F) (hc : Chg (fun x => x ∈ F) w w1) (ht : TrL w1 B s' v' F') (hb : b ∉ F') (hn : F'.Nodup) (hs : ∀ x ∈ F', x ∈ F ∨ w.heap.size ≤ x) :
  Upd w B b o (.mk i nm r k s) F (w1.setCell ⟨b, o + 4, none⟩ v') (.mk i nm r k s') F' := by
 have hl := h.lt
 obtain ⟨pre, cs, post, T, rfl, h2, h3, h4, h5⟩ := h
 obtain ⟨v, rfl, h6⟩ := trN.1 h3
 have hS := (h2.keep hc h4).set (pre.length + 4) v'
 rw [set_mid (show 4 < (ndCells i nm r k v).length from Nat.lt_succ_self 4)] at hS
 refine ⟨⟨pre, _, _, post, T, rfl, h2, hS, h3, trN.2 ⟨v', rfl, ht.keep fun x hx => ?_⟩⟩, h4, hb, h5, hn, hs, ?_⟩
 ·exact Below.heap_setCell w1 ⟨b, pre.length + 4, none⟩ v' x (fun e => hb (by have e : x = b := e; exact e ▸ hx))
 ·exact ((hc.mono (fun x _ e => .inr e)).setCell (p := ⟨b, pre.length + 4, none⟩) (.inl (.inl rfl)) v')
theorem list_split {α : Type} {s : List α} {j : Nat} {c : α} (h : s[j]? = some c) : ∃ l1 l2, s = l1 ++ c :: l2 ∧ l1.length = j ∧ ∀ c', s.set j c' = l1 ++ c' :: l2 := by
 obtain ⟨hj, rfl⟩ := List.getElem?_eq_some_iff.1 h
 refine ⟨s.take j, s.drop (j + 1), ?_, by rw [List.length_take]; omega, fun c' => ?_⟩
 ·rw [← List.drop_eq_getElem_cons hj, List.take_append_drop]
 ·exact List.set_eq_take_append_cons_drop.trans (by rw [if_pos hj])
theorem PtN.child {w : World} {B b o : Nat} {i : Int} {nm : ByteArray} {r k : Int} {s : List Nd} {F : List Nat} (h : PtN w B b o (.mk i nm r k s) F) {j : Nat} {c : Nd} (hj : s[j]? = some c) :
  ∃ rb cap Fc, w.cell? ⟨b, o + 4, none⟩ = some (.slice (some ⟨rb, 0, none⟩) s.length cap) ∧ s.length ≤ cap ∧ cap ≤ maxLen ∧ rb ∈ F ∧ (∀ x ∈ Fc, x ∈ F) ∧ PtN w B rb (j * 5) c Fc ∧
   ∀ w' c' Fc', Upd w B rb (j * 5) c Fc w' c' Fc' → ∃ F', Upd w B b o (.mk i nm r k s) F w' (.mk i nm r k (s.set j c')) F' := by
 have hl := h.lt
 obtain ⟨v0, _, _, _, _, _, c4, _⟩ := h.form
 obtain ⟨pre, cs, post, T, rfl, h2, h3, h4, h5⟩ := h
 obtain ⟨v, rfl, h6⟩ := trN.1 h3
 have hv : w.cell? ⟨b, pre.length + 4, none⟩ = some v := by
  rw [h2.cell, List.getElem?_append_right (Nat.le_add_right _ _), Nat.add_sub_cancel_left]
  rfl
 obtain ⟨l1, l2, rfl, rfl, hset⟩ := list_split hj
 rcases h6 with ⟨h0, _⟩ | ⟨rb, cap, cur, F', rfl, e2, e3, e4, e5, e6, e7, rfl⟩
 ·simp at h0
 obtain ⟨x1, x2, F1, F2, rfl, g1, g2, g3, rfl⟩ := trC_split.1 e7
 obtain ⟨cc, y2, Fc, F3, rfl, k1, k2, rfl⟩ := trC_cons.1 g3
 rw [List.nodup_cons, List.nodup_append, List.nodup_append] at h5
 obtain ⟨n1, n2, ⟨n3, n4, n5⟩, n6⟩ := h5
 simp only [List.mem_append, not_or] at n1
 simp only [List.mem_cons, List.mem_append, not_or] at h4
 refine ⟨rb, cap, Fc, hv, e2, e3, List.mem_cons_self .., fun x hx => List.mem_cons_of_mem _ (List.mem_append_right _ (List.mem_append_left _ hx)), ⟨x1, cc, y2, _, g1, e5, k1, n1.2.1, n3⟩, fun w' c' Fc' hu => ?_⟩
 obtain ⟨p1, q1, q1', r1, T1, m1, m2, m3, m4, m5⟩ := hu.cells
 obtain ⟨d1, rfl⟩ := blk_eq e5 m2
 obtain ⟨rfl, d2⟩ := List.append_inj d1 (g1.trans m1.symm)
 obtain ⟨rfl, rfl⟩ := List.append_inj d2 (k1.five.trans m4.five.symm)
 have hwz := hu.chg.size
 -- what is in none of the child's blocks is as it was
 have hold : ∀ x, x < w.heap.size → x ≠ rb → x ∉ Fc → w'.heap[x]? = w.heap[x]? := fun x hx h1 h2 => hu.chg.block x hx (fun e => by rcases e with e | e; exact h1 e; exact h2 e)
 have hin : ∀ x ∈ rb :: (F1 ++ (Fc ++ F3)), B ≤ x ∧ x < w.heap.size := hl.2
 simp only [List.mem_cons, List.mem_append] at hin
 have g2' := TrC.keep l1 x1 F1 g2 (fun x hx => hold x (hin x (.inr (.inl hx))).2 (fun e => n1.1 (e ▸ hx)) (fun e => n6 x hx x (List.mem_append_left _ e) rfl))
 have k2' := TrC.keep l2 y2 F3 k2 (fun x hx => hold x (hin x (.inr (.inr (.inr hx)))).2 (fun e => n1.2.2 (e ▸ hx)) (fun e => n5 x e x hx rfl))
 have hnew := trC_split.2 ⟨x1, q1' ++ y2, F1, Fc' ++ F3, rfl, g1, g2', trC_cons.2 ⟨q1', y2, Fc', F3, rfl, m5, k2', rfl⟩, rfl⟩
 have hsubF : ∀ x ∈ Fc', x ∈ Fc ∨ w.heap.size ≤ x := hu.sub
 refine ⟨rb :: (F1 ++ (Fc' ++ F3)), ⟨⟨pre, _, _, post, T, rfl, h2, h2.keep hu.chg (fun e => ?_), h3, trN.2 ⟨_, rfl, .inr ⟨rb, cap, _, _, ?_, ?_, e3, e4, m3, ?_, by rw [hset]; exact hnew, rfl⟩⟩⟩, ?_, ?_, ?_, ?_, ?_, ?_⟩⟩
 ·rcases e with e | e
  ·exact h4.1 e
  ·exact h4.2.2.1 e
 ·rw [hset]; simp
 ·rw [hset]; simpa using e2
 ·rw [← e6]; simp only [List.length_append, m5.five, m4.five]
 ·simp only [List.mem_cons, List.mem_append, not_or]; exact ⟨h4.1, h4.2.1, h4.2.2.1, h4.2.2.2⟩
 ·simp only [List.mem_cons, List.mem_append, not_or]
  refine ⟨h4.1, h4.2.1, fun e => ?_, h4.2.2.2⟩
  rcases hsubF b e with y | y
  ·exact h4.2.2.1 y
  ·have := h2.lt; omega
 ·rw [List.nodup_cons, List.nodup_append, List.nodup_append]
  exact ⟨by simp only [List.mem_append, not_or]; exact n1, n2, ⟨n3, n4, n5⟩, n6⟩
 ·rw [List.nodup_cons, List.nodup_append, List.nodup_append]
  refine ⟨?_, n2, ⟨hu.nd', n4, fun x hx y hy e => ?_⟩, fun x hx y hy e => ?_⟩
  ·simp only [List.mem_append, not_or]
   exact ⟨n1.1, hu.out', n1.2.2⟩
  ·subst e
   rcases hsubF x hx with z | z
   ·exact n5 x z x hy rfl
   ·have := (hin x (.inr (.inr (.inr hy)))).2; omega
  ·subst e
   rcases List.mem_append.1 hy with hy | hy
   ·rcases hsubF x hy with z | z
    ·exact n6 x hx x (List.mem_append_left _ z) rfl
    ·have := (hin x (.inr (.inl hx))).2; omega
   ·exact n6 x hx x (List.mem_append_right _ hy) rfl
 ·simp only [List.mem_cons, List.mem_append]
  rintro x (hx | hx | hx | hx)
  ·exact .inl (.inl hx)
  ·exact .inl (.inr (.inl hx))
  ·rcases hsubF x hx with z | z
   ·exact .inl (.inr (.inr (.inl z)))
   ·exact .inr z
  ·exact .inl (.inr (.inr (.inr hx)))
 ·refine hu.chg.mono (fun x _ e => .inr ?_)
  simp only [List.mem_cons, List.mem_append]
  rcases e with e | e
  ·exact .inl e
  ·exact .inr (.inr (.inl e))
theorem TrN.cells1 {w : World} {B : Nat} {n : Nd} {cs : List Value} {F : List Nat} (h : TrN w B n cs F) : ∀ u ∈ cs, u.oneCell' = true :=
 Reads.one n.dt cs (TrN.reads (S := fun _ => True) n cs F h (fun _ _ => trivial))
theorem TrC.cells1 {w : World} {B : Nat} : ∀ {l : List Nd} {xs : List Value} {F : List Nat}, TrC w B l xs F → xs.length = l.length * 5 → ∀ u ∈ xs, u.oneCell' = true
 | [], xs, F, _, hl => by
  obtain rfl := List.eq_nil_of_length_eq_zero hl
  exact fun u hu => (List.not_mem_nil hu).elim
 | n :: ns, xs, F, h, hl => by
  obtain ⟨c, r, F1, F2, rfl, h2, h3, rfl⟩ := trC_cons.1 h
  rw [List.length_append, h2.five, List.length_cons] at hl
  intro u hu
  rcases List.mem_append.1 hu with hu | hu
  ·exact h2.cells1 u hu
  ·exact TrC.cells1 h3 (by omega) u hu
theorem TrL.owns {w : World} {B : Nat} {l : List Nd} {v : Value} {F : List Nat} (h : TrL w B l v F) : ∃ xs G, w.ownsRow B 56 5 v l.length xs ∧ xs.length = l.length * 5 ∧ TrC w B l xs G ∧ (F = G ∧ v = .slice none 0 0 ∨ ∃ b, v.ownBlock = some b ∧ F = b :: G) := by
 rcases h with ⟨rfl, rfl, rfl⟩ | ⟨b, cap, cur, F', rfl, e2, e3, e4, e5, e6, e7, rfl⟩
 ·exact ⟨[], [], World.ownsRow_nil _ _ _ _, rfl, trC_nil.2 rfl, .inl ⟨rfl, rfl⟩⟩
 ·obtain ⟨x1, x2, rfl, h2, h3⟩ := e7.junk
  refine ⟨x1, F', ⟨h2, .inr ⟨b, cap, (x1 ++ x2).toArray, rfl, e4, e5, e2, e3, by simpa using e6, ?_⟩⟩, h2, h3, .inr ⟨b, rfl, rfl⟩⟩
  rw [List.toList_toArray, ← h2, List.take_left]
theorem TrL.ofOwns {w : World} {B : Nat} {l : List Nd} {v : Value} {xs : List Value} {G : List Nat} (h : w.ownsRow B 56 5 v l.length xs) (hl : 0 < l.length) (hx : xs.length = l.length * 5) (hc : TrC w B l xs G) : ∃ g, v.ownBlock = some g ∧ TrL w B l v (g :: G) := by
 rcases h.2 with ⟨_, h0⟩ | ⟨g, cap, cur, rfl, hg, hh, hn, hcm, hcs, htk⟩
 ·omega
 ·refine ⟨g, rfl, .inr ⟨g, cap, cur.toList, G, rfl, hn, hcm, hg, ?_, by simpa using hcs, ?_, rfl⟩⟩
  ·unfold Blk; rw [hh]
  ·have := hc.more (cur.toList.drop (l.length * 5))
   rw [← htk, List.take_append_drop] at this
   exact this
section
variable {P : Program}
theorem TrL.push {w : World} {B : Nat} {l : List Nd} {v : Value} {F : List Nat} (h : TrL w B l v F) (hn : F.Nodup) {nd : Nd} {cs : List Value} {Fx : List Nat} (hx : TrN w B nd cs Fx) (hxn : Fx.Nodup) (hd : ∀ y ∈ Fx, y ∉ F)
  (t ty : TypeId) {z : Value} {bytes : Nat} (ht : P.underlying t = some (.slice 56)) (hinfo : (P.info? 56).map (fun i => (i.zero, i.size, i.bytes)) = some (some z, 5, bytes)) (hzs : z.cells.size = 5)
  {xb c : Nat} {T : TypeId} (hb : Blk w xb cs T) (h63 : l.length + 1 ≤ maxLen) (hbytes : (l.length + 1) * bytes ≤ 140737488355328) (hB : B ≤ w.heap.size) :
  ∃ ao cap w' F', (Builtin.append_ #[t, t] ty #[v, .slice (some ⟨xb, 0, none⟩) 1 c]).run P w = .ok (.slice ao (l.length + 1) cap) w' ∧ TrL w' B (l ++ [nd]) (.slice ao (l.length + 1) cap) F' ∧ F'.Nodup ∧ (∀ y ∈ F', y ∈ F ∨ y ∈ Fx ∨ y = w.heap.size) ∧
   Chg (fun b => v.ownBlock = some b) w w' ∧ ((Value.slice ao (l.length + 1) cap).ownBlock = v.ownBlock ∨ (Value.slice ao (l.length + 1) cap).ownBlock = some w.heap.size) := by
 obtain ⟨i, hi, hz, hsz, hby⟩ := info_parts hinfo
 obtain ⟨xs, G, h1, h2, h3, h4⟩ := h.owns
 obtain ⟨v', w', r1, r2, r3, _, r5⟩ := run_append_own_at (P := P) w B t ty 56 i z 5 bytes ht hi hz hsz hby hzs (by decide) v l.length xs h1 ⟨xb, 0, none⟩ 1 c cs (by rw [hx.five]) (fun j u hj => by rw [Addr.add_lit, Nat.zero_add, hb.cell]; exact hj) hx.cells1 h63 hbytes hB
 have hlt := h.lt
 have hltx := TrN.lt nd cs Fx hx
 have hGF : ∀ y ∈ G, y ∈ F := fun y hy => by
  rcases h4 with ⟨rfl, _⟩ | ⟨b, _, rfl⟩
  ·exact hy
  ·exact List.mem_cons_of_mem _ hy
 have hown : ∀ b, v.ownBlock = some b → b ∈ F ∧ b ∉ G := fun b hvb => by
  rcases h4 with ⟨rfl, rfl⟩ | ⟨b', hb', rfl⟩
  ·cases hvb
  ·obtain rfl := Option.some.inj (hb'.symm.trans hvb)
   exact ⟨List.mem_cons_self .., (List.nodup_cons.1 hn).1⟩
 have hGn : G.Nodup := by
  rcases h4 with ⟨rfl, _⟩ | ⟨b', _, rfl⟩
  ·exact hn
  ·exact (List.nodup_cons.1 hn).2
 have hkeep : ∀ y, y < w.heap.size → v.ownBlock ≠ some y → w'.heap[y]? = w.heap[y]? := fun y hy hne => r3.block y hy (fun e => hne e.symm)
 have hG' := TrC.keep l xs G h3 (fun y hy => hkeep y (hlt y (hGF y hy)).2 (fun e => (hown y e).2 hy))
 have hX' := TrN.keep nd cs Fx hx (fun y hy => hkeep y (hltx y hy).2 (fun e => hd y hy (hown y e).1))
 have hC' := trC_split.2 ⟨xs, cs, G, Fx, rfl, h2, hG', trC_cons.2 ⟨cs, [], Fx, [], by simp, hX', trC_nil.2 rfl, by simp⟩, rfl⟩
 have hlen : (l ++ [nd]).length = l.length + 1 := by simp
 rw [← hlen] at r2
 obtain ⟨g, hg, hT⟩ := TrL.ofOwns r2 (by rw [hlen]; omega) (by rw [List.length_append, h2, hx.five, hlen]; omega) hC'
 obtain ⟨ao, cap, rfl, _, _⟩ := hT.form
 rw [hlen] at hT r5 hg r1
 refine ⟨ao, cap, w', g :: (G ++ Fx), r1, hT, ?_, ?_, (Chg.refl _ w).grown r3 (fun j hj => .inl hj), r5⟩
 ·rw [List.nodup_cons, List.nodup_append, List.mem_append, not_or]
  have hgn : g ∉ G ∧ g ∉ Fx := by
   rcases r5 with e | e
   ·have e2 := e.symm.trans hg
    exact ⟨(hown g e2).2, fun h9 => hd g h9 (hown g e2).1⟩
   ·have e2 : w.heap.size = g := Option.some.inj (e.symm.trans hg)
    exact ⟨fun h9 => by have := (hlt g (hGF g h9)).2; omega, fun h9 => by have := (hltx g h9).2; omega⟩
  exact ⟨hgn, hGn, hxn, fun x hx y hy e => hd y hy (e ▸ hGF x hx)⟩
 ·intro y hy
  rcases List.mem_cons.1 hy with rfl | hy
  ·rcases r5 with e | e
   ·exact .inl (hown y (e.symm.trans hg)).1
   ·exact .inr (.inr (Option.some.inj (e.symm.trans hg)).symm)
  ·rcases List.mem_append.1 hy with hy | hy
   ·exact .inl (hGF y hy)
   ·exact .inr (.inl hy)
def OwnT (w : World) (B : Nat) (S : Nat → Prop) (v : Value) (l : List Nd) : Prop := ∃ F, TrL w B l v F ∧ F.Nodup ∧ ∀ x ∈ F, S x
theorem OwnT.nil (w : World) (B : Nat) (S : Nat → Prop) : OwnT w B S (.slice none 0 0) [] := ⟨[], .inl ⟨rfl, rfl, rfl⟩, List.nodup_nil, fun x hx => (List.not_mem_nil hx).elim⟩
theorem OwnT.form {w : World} {B : Nat} {S : Nat → Prop} {v : Value} {l : List Nd} (h : OwnT w B S v l) : ∃ a c, v = .slice a l.length c ∧ l.length ≤ c ∧ c ≤ maxLen := by
 obtain ⟨F, h1, _⟩ := h
 exact h1.form
theorem OwnT.keep {C : Nat → Prop} {w w' : World} {B : Nat} {S : Nat → Prop} {v : Value} {l : List Nd} (h : OwnT w B S v l) (hc : Chg C w w') (hn : ∀ b, B ≤ b → S b → ¬ C b) : OwnT w' B S v l := by
 obtain ⟨F, h1, h2, h3⟩ := h
 exact ⟨F, h1.keep (fun x hx => hc.block x (h1.lt x hx).2 (hn x (h1.lt x hx).1 (h3 x hx))), h2, h3⟩
theorem OwnT.inHeap {w : World} {B : Nat} {S : Nat → Prop} {v : Value} {l : List Nd} (h : OwnT w B S v l) : OwnT w B (fun b => S b ∧ b < w.heap.size) v l := by
 obtain ⟨F, h1, h2, h3⟩ := h
 exact ⟨F, h1, h2, fun x hx => ⟨h3 x hx, (h1.lt x hx).2⟩⟩
theorem OwnT.mono {w : World} {B B' : Nat} {S S' : Nat → Prop} {v : Value} {l : List Nd} (h : OwnT w B S v l) (hB : B' ≤ B) (hS : ∀ b, S b → S' b) : OwnT w B' S' v l := by
 obtain ⟨F, h1, h2, h3⟩ := h
 exact ⟨F, h1.mono hB, h2, fun x hx => hS x (h3 x hx)⟩
theorem OwnT.block {w : World} {B : Nat} {S : Nat → Prop} {v : Value} {l : List Nd} (h : OwnT w B S v l) : ∀ b, v.ownBlock = some b → B ≤ b ∧ b < w.heap.size ∧ S b := by
 obtain ⟨F, h1, h2, h3⟩ := h
 intro b hb
 obtain ⟨xs, G, _, _, _, h4⟩ := h1.owns
 rcases h4 with ⟨_, rfl⟩ | ⟨b', hb', rfl⟩
 ·cases hb
 ·obtain rfl := Option.some.inj (hb'.symm.trans hb)
  have := h1.lt b' (List.mem_cons_self ..)
  exact ⟨this.1, this.2, h3 b' (List.mem_cons_self ..)⟩
theorem OwnT.reads {w : World} {B : Nat} {S S' : Nat → Prop} {v : Value} {l : List Nd} (h : OwnT w B S v l) (hS : ∀ b, B ≤ b → S b → S' b) : Reads w S' (.list 5 (Nd.dts l)) [v] := by
 obtain ⟨F, h1, h2, h3⟩ := h
 exact h1.reads (fun x hx => hS x (h1.lt x hx).1 (h3 x hx))
theorem wpList_ownT {w : World} {ops : Array Oper} {rest : List Oper} {o : Oper} {a : Act} {Q : Exit → Act → World → Prop} (hgd : o.guard = none) (s x : Operand) (t : TypeId) (ho : o.op = .call { callee := .builtin .append, args := #[s, x], argTypes := #[t, t] })
  (B : Nat) {bytes : Nat} {z : Value} (ht : P.underlying t = some (.slice 56)) (hinfo : (P.info? 56).map (fun i => (i.zero, i.size, i.bytes)) = some (some z, 5, bytes)) (hzs : z.cells.size = 5)
  {S : Nat → Prop} {v : Value} {l : List Nd} (hs : a.eval s = v) (hown : OwnT w B S v l) {nd : Nd} {cs : List Value} (hx : ∃ Fx, TrN w B nd cs Fx ∧ Fx.Nodup ∧ ∀ y ∈ Fx, ¬ S y)
  {xb c : Nat} {T : TypeId} (hxv : a.eval x = .slice (some ⟨xb, 0, none⟩) 1 c) (hb : Blk w xb cs T) (h63 : l.length + 1 ≤ maxLen) (hbytes : (l.length + 1) * bytes ≤ 140737488355328) (hB : B ≤ w.heap.size)
  (h : ∀ ao cap w', OwnT w' B (fun _ => True) (.slice ao (l.length + 1) cap) (l ++ [nd]) → Chg (fun b => v.ownBlock = some b) w w' → wpList P ops Q rest (a.put o.dst (.slice ao (l.length + 1) cap)) w') : wpList P ops Q (o :: rest) a w := by
 obtain ⟨F, h1, h2, h3⟩ := hown
 obtain ⟨Fx, g1, g2, g3⟩ := hx
 obtain ⟨ao, cap, w', F', k1, k2, k3, _, k5, _⟩ := h1.push h2 g1 g2 (fun y hy h9 => g3 y hy (h3 y h9)) t o.type ht hinfo hzs hb h63 hbytes hB (c := c)
 refine wpList_plain hgd fun _ hK => ?_
 unfold Oper.wp execOp
 simp only [ho, resolve, invoke, builtin, Sem.run_bind, Sem.run_pure, Result.andThen_ok, List.map_toArray, List.map_cons, List.map_nil, hs, hxv, k1]
 exact hK _ _ (h ao cap w' ⟨F', k2, k3, fun _ _ => trivial⟩ k5)
end
structure Pl where
 n : Nd
 deep : Int
 around : Int
def Pl.dt (p : Pl) : Dt := .agg [p.n.dt, .lit (.int .i64 p.deep), .lit (.int .i64 p.around)]
theorem setRow_chg (w : World) (g : Nat) (a : Array Value) : Chg (OneB g) w (w.setRow g a) :=
 ⟨rfl, rfl, rfl, by simp [World.setRow], fun k hk hn => by
  have hne : g ≠ k := fun e => hn e.symm
  simp [World.setRow, Array.getElem?_modify, hne]⟩
structure Mid (w : World) (g : Nat) (pre news post : List Value) (t : TypeId) (w' : World) : Prop where
 blk : Blk w' g (pre ++ (news ++ post)) t
 chg : Chg (OneB g) w w'
section
variable {P : Program}
theorem run_store_mid (w : World) {g : Nat} {pre mid post news : List Value} {t : TypeId} (hb : Blk w g (pre ++ (mid ++ post)) t) (hl : mid.length = news.length) (h1 : ∀ v ∈ news, v.oneCell' = true) :
  ∃ w', (storeCells ⟨g, pre.length, none⟩ news 0).run P w = .ok () w' ∧ Mid w g pre news post t w' := by
 have h := run_storeCells_at P g pre.length t news 0 (pre ++ (mid ++ post)).toArray w hb (by simp [hl]) h1
 refine ⟨_, h, ?_, setRow_chg w g _⟩
 have e : ((pre ++ (mid ++ post)).toArray.toList.take (pre.length + 0) ++ news ++ (pre ++ (mid ++ post)).toArray.toList.drop (pre.length + 0 + news.length)) = pre ++ (news ++ post) := by
  simp only [List.toList_toArray, Nat.add_zero, List.take_left, List.append_assoc]
  rw [← List.append_assoc pre mid post, List.drop_left' (by simp [hl])]
 have h2 := setRow_heap w g _ ((pre ++ (mid ++ post)).toArray.toList.take (pre.length + 0) ++ news ++ (pre ++ (mid ++ post)).toArray.toList.drop (pre.length + 0 + news.length)).toArray t (0, 0) hb
 rw [e] at h2
 rw [e]
 exact h2
theorem run_copy_mid (w : World) (dT sT ty elem : TypeId) {k : Nat} (hu : P.underlying dT = some (.slice elem)) (hs : (P.info? elem).map (·.size) = some k) {g dLen dCap : Nat} {a : Addr} {sLen sCap : Nat} {pre mid post news : List Value} {t : TypeId}
  (hb : Blk w g (pre ++ (mid ++ post)) t) (hn : news.length = Nat.min sLen dLen * k) (hsrc : ∀ j v, news[j]? = some v → w.cell? (a.add j) = some v) (hl : mid.length = news.length) (h1 : ∀ v ∈ news, v.oneCell' = true) :
  ∃ w', (Builtin.copy_ #[dT, sT] ty #[.slice (some ⟨g, pre.length, none⟩) dLen dCap, .slice (some a) sLen sCap]).run P w = .ok (goInt (Nat.min sLen dLen)) w' ∧ Mid w g pre news post t w' := by
 have h2 := run_loadCells_list (P := P) w a news hsrc
 obtain ⟨w', hst, hm⟩ := run_store_mid (P := P) w hb hl h1
 refine ⟨w', ?_, hm⟩
 cases hq : P.info? elem with
 | none => simp [hq] at hs
 | some i =>
  have hi : i.size = k := by simpa [hq] using hs
  rw [hn] at h2
  simp [Builtin.copy_, run_underlying hu, Builtin.lenOf, Builtin.firstCells, sizeOf, typeInfo, hq, hi, h2, hst]
theorem run_clear_mid (w : World) (tS e ty : TypeId) {z : Value} (ht : P.underlying tS = some (.slice e)) (hv : ∀ w, (zeroValue e).run P w = .ok z w) {n : Nat} (h1 : ∀ v ∈ (Builtin.zeroCells z.cells n).toList, v.oneCell' = true) {g c : Nat} {pre mid post : List Value} {t : TypeId}
  (hb : Blk w g (pre ++ (mid ++ post)) t) (hl : mid.length = n * z.cells.size) :
  ∃ w', (Builtin.clear_ #[tS] ty #[.slice (some ⟨g, pre.length, none⟩) n c]).run P w = .ok (.tuple #[]) w' ∧ Mid w g pre (Builtin.zeroCells z.cells n).toList post t w' := by
 have hlz : (Builtin.zeroCells z.cells n).toList.length = n * z.cells.size := by simp [Builtin.zeroCells]
 obtain ⟨w', hst, hm⟩ := run_store_mid (P := P) w hb (hl.trans hlz.symm) h1
 cases n with
 | zero =>
  have hmid : mid = [] := List.eq_nil_of_length_eq_zero (by simpa using hl)
  subst hmid
  have hz0 : (Builtin.zeroCells z.cells 0).toList = [] := List.eq_nil_of_length_eq_zero (by simpa using hlz)
  refine ⟨w, ?_, by rw [hz0]; exact ⟨hb, Chg.refl _ _⟩⟩
  simp [Builtin.clear_, run_underlying ht]
 | succ n =>
  refine ⟨w', ?_, hm⟩
  simp [Builtin.clear_, run_underlying ht, hv, hst]
theorem run_append_mid (w : World) (t ty e : TypeId) (i : TypeInfo) (ht : P.underlying t = some (.slice e)) (hi : P.info? e = some i) {g n cap : Nat} {a : Addr} {m c : Nat} {pre mid post news : List Value} {t' : TypeId}
  (hb : Blk w g (pre ++ (mid ++ post)) t') (hp : pre.length = n * i.size) (hl : news.length = m * i.size) (hm : mid.length = news.length) (hnews : ∀ j v, news[j]? = some v → w.cell? (a.add j) = some v) (h1 : ∀ v ∈ news, v.oneCell' = true) (hroom : n + m ≤ cap) :
  ∃ w', (Builtin.append_ #[t, t] ty #[.slice (some ⟨g, 0, none⟩) n cap, .slice (some a) m c]).run P w = .ok (.slice (some ⟨g, 0, none⟩) (n + m) cap) w' ∧ Mid w g pre news post t' w' := by
 have hfc := run_firstCells_some (P := P) w i.size m a m c news hl hnews
 obtain ⟨w', hst, hmid⟩ := run_store_mid (P := P) w hb hm h1
 rw [hp] at hst
 refine ⟨w', ?_, hmid⟩
 have hadd : (⟨g, 0, none⟩ : Addr).add (n * i.size) = ⟨g, n * i.size, none⟩ := by rw [Addr.add_lit, Nat.zero_add]
 simp [Builtin.append_, run_underlying ht, sizeOf, typeInfo, hi, Builtin.lenOf, hroom, hfc, hadd, hst]
variable {w : World} {ops : Array Oper} {rest : List Oper} {o : Oper} {a : Act} {Q : Exit → Act → World → Prop}
theorem wpList_copy_run (hgd : o.guard = none) (d s : Operand) (t t' : TypeId) (ho : o.op = .call { callee := .builtin .copy, args := #[d, s], argTypes := #[t, t'] }) (v u : Value) (hd : a.eval d = v) (hs : a.eval s = u) {v' : Value} {w' : World}
  (hr : (Builtin.copy_ #[t, t'] o.type #[v, u]).run P w = .ok v' w') (h : wpList P ops Q rest (a.put o.dst v') w') : wpList P ops Q (o :: rest) a w :=
 wpList_plain hgd fun _ hK => by
  unfold Oper.wp execOp
  simp only [ho, resolve, invoke, builtin, Sem.run_bind, Sem.run_pure, Result.andThen_ok, List.map_toArray, List.map_cons, List.map_nil, hd, hs, hr]
  exact hK _ _ h
theorem wpList_append_run (hgd : o.guard = none) (d s : Operand) (t t' : TypeId) (ho : o.op = .call { callee := .builtin .append, args := #[d, s], argTypes := #[t, t'] }) (v u : Value) (hd : a.eval d = v) (hs : a.eval s = u) {v' : Value} {w' : World}
  (hr : (Builtin.append_ #[t, t'] o.type #[v, u]).run P w = .ok v' w') (h : wpList P ops Q rest (a.put o.dst v') w') : wpList P ops Q (o :: rest) a w :=
 wpList_plain hgd fun _ hK => by
  unfold Oper.wp execOp
  simp only [ho, resolve, invoke, builtin, Sem.run_bind, Sem.run_pure, Result.andThen_ok, List.map_toArray, List.map_cons, List.map_nil, hd, hs, hr]
  exact hK _ _ h
theorem wpList_copy_ex (hgd : o.guard = none) (d s : Operand) (t t' : TypeId) (ho : o.op = .call { callee := .builtin .copy, args := #[d, s], argTypes := #[t, t'] }) (v u : Value) (hd : a.eval d = v) (hs : a.eval s = u) {v' : Value} {R : World → Prop}
  (hr : ∃ w', (Builtin.copy_ #[t, t'] o.type #[v, u]).run P w = .ok v' w' ∧ R w') (h : ∀ w', R w' → wpList P ops Q rest (a.put o.dst v') w') : wpList P ops Q (o :: rest) a w := by
 obtain ⟨w', h1, h2⟩ := hr
 exact wpList_copy_run hgd d s t t' ho v u hd hs h1 (h w' h2)
theorem wpList_append_ex (hgd : o.guard = none) (d s : Operand) (t t' : TypeId) (ho : o.op = .call { callee := .builtin .append, args := #[d, s], argTypes := #[t, t'] }) (v u : Value) (hd : a.eval d = v) (hs : a.eval s = u) {v' : Value} {R : World → Prop}
  (hr : ∃ w', (Builtin.append_ #[t, t'] o.type #[v, u]).run P w = .ok v' w' ∧ R w') (h : ∀ w', R w' → wpList P ops Q rest (a.put o.dst v') w') : wpList P ops Q (o :: rest) a w := by
 obtain ⟨w', h1, h2⟩ := hr
 exact wpList_append_run hgd d s t t' ho v u hd hs h1 (h w' h2)
end
def zeroAgg : Value := .agg #[.int .i64 0, .string ⟨#[]⟩, .int .i64 0, .int .i64 0, .slice none 0 0]
theorem zero_nodeV (w : World) : (zeroValue 56).run Tryz.prog w = .ok zeroAgg w := by kernel_rfl
theorem zero_one (n : Nat) : ∀ v ∈ (Builtin.zeroCells zeroAgg.cells n).toList, v.oneCell' = true := by
 intro v hv
 simp only [Builtin.zeroCells, Array.toList_map, List.mem_map] at hv
 obtain ⟨i, hi, rfl⟩ := hv
 have h5 : i % zeroAgg.cells.size < 5 := Nat.mod_lt _ (by decide)
 generalize i % zeroAgg.cells.size = q at h5
 have : q = 0 ∨ q = 1 ∨ q = 2 ∨ q = 3 ∨ q = 4 := by omega
 rcases this with rfl | rfl | rfl | rfl | rfl <;> rfl
theorem zero_five : zeroAgg.cells.size = 5 := rfl
theorem Own.len {w : World} {B e k : Nat} {S : Nat → Prop} {v : Value} {ds : List Dt} (h : Own w B e k S v ds) : ds.length ≤ maxLen := by
 obtain ⟨xs, h1, _⟩ := h
 rcases h1.2 with ⟨_, h0⟩ | ⟨g, cap, cur, rfl, hb, hg, hn, hc, _⟩
 ·omega
 ·omega
theorem Own.inHeap {w : World} {B e k : Nat} {S : Nat → Prop} {v : Value} {ds : List Dt} (h : Own w B e k S v ds) : Own w B e k (fun b => S b ∧ b < w.heap.size) v ds := by
 obtain ⟨xs, h1, h2⟩ := h
 exact ⟨xs, h1, ReadsC.keep (fun b hb => ⟨⟨hb.1, hb.2.1⟩, hb.2.1, hb.2.2⟩) (Nat.le_refl _) (fun _ _ _ => rfl) ds xs h2⟩
end Go.Proofs.YtnmhkafpgohefaaGreatDoor
