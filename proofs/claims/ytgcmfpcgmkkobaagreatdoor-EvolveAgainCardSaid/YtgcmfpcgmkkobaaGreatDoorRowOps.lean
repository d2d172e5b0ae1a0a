/-
 copy, clear and append within a block that is known whole, for elements of any number of cells.
-/
import Derived.Test.YtgcmfpcgmkkobaaGreatDoorTree
import Derived.Test.YtgcmfpcgmkkobaaGreatDoorPackA
import Derived.Laws.CopyRow
import Derived.Lib.SliceRun
import Derived.ArgAppend
set_option linter.unusedVariables false
set_option linter.unusedSimpArgs false
namespace Go.Proofs.YtgcmfpcgmkkobaaGreatDoor
open Go.RowKit

theorem setRow_chg (w : World) (g : Nat) (a : Array Value) : Chg (OneB g) w (w.setRow g a) :=
 ⟨rfl, rfl, rfl, by simp [World.setRow], fun k hk hn => by
  have hne : g ≠ k := fun e => hn e.symm
  simp [World.setRow, Array.getElem?_modify, hne]⟩
/-- Of the block the cells between pre and post have become others. -/
structure Mid (w : World) (g : Nat) (pre news post : List Value) (t : TypeId) (w' : World) : Prop where
 blk : Blk w' g (pre ++ (news ++ post)) t
 chg : Chg (OneB g) w w'
section
variable {P : Program}
theorem run_store_mid (w : World) {g : Nat} {pre mid post news : List Value} {t : TypeId} (hb : Blk w g (pre ++ (mid ++ post)) t) (hl : mid.length = news.length) (h1 : ∀ v ∈ news, v.oneCell' = true) :
  ∃ w', (storeCells ⟨g, pre.length, none⟩ news 0).run P w = .ok () w' ∧ Mid w g pre news post t w' := by
 have h := run_storeCells_at P g pre.length t news 0 (pre ++ (mid ++ post)).toArray w hb (by simp [hl]) h1
 refine ⟨_, h, ?_, setRow_chg w g _⟩
 have e : ((pre ++ (mid ++ post)).toArray.toList.take (pre.length + 0) ++ news ++ (pre ++ (mid ++ post)).toArray.toList.drop (pre.length + 0 + news.length)) = pre ++ (news ++ post) := by
  simp only [List.toList_toArray, Nat.add_zero, List.take_left, List.append_assoc]
  rw [← List.append_assoc pre mid post, List.drop_left' (by simp [hl])]
 have h2 := setRow_heap w g _ ((pre ++ (mid ++ post)).toArray.toList.take (pre.length + 0) ++ news ++ (pre ++ (mid ++ post)).toArray.toList.drop (pre.length + 0 + news.length)).toArray t (0, 0) hb
 rw [e] at h2
 rw [e]
 exact h2
theorem run_copy_mid (w : World) (dT sT ty elem : TypeId) {k : Nat} (hu : P.underlying dT = some (.slice elem)) (hs : (P.info? elem).map (·.size) = some k) {g dLen dCap : Nat} {a : Addr} {sLen sCap : Nat} {pre mid post news : List Value} {t : TypeId}
  (hb : Blk w g (pre ++ (mid ++ post)) t) (hn : news.length = Nat.min sLen dLen * k) (hsrc : ∀ j v, news[j]? = some v → w.cell? (a.add j) = some v) (hl : mid.length = news.length) (h1 : ∀ v ∈ news, v.oneCell' = true) :
  ∃ w', (Builtin.copy_ #[dT, sT] ty #[.slice (some ⟨g, pre.length, none⟩) dLen dCap, .slice (some a) sLen sCap]).run P w = .ok (goInt (Nat.min sLen dLen)) w' ∧ Mid w g pre news post t w' := by
 have h2 := run_loadCells_list (P := P) w a news hsrc
 obtain ⟨w', hst, hm⟩ := run_store_mid (P := P) w hb hl h1
 refine ⟨w', ?_, hm⟩
 cases hq : P.info? elem with
 | none => simp [hq] at hs
 | some i =>
  have hi : i.size = k := by simpa [hq] using hs
  rw [hn] at h2
  simp [Builtin.copy_, run_underlying hu, Builtin.lenOf, Builtin.firstCells, sizeOf, typeInfo, hq, hi, h2, hst]
theorem run_clear_mid (w : World) (tS e ty : TypeId) {z : Value} (ht : P.underlying tS = some (.slice e)) (hv : ∀ w, (zeroValue e).run P w = .ok z w) {n : Nat} (h1 : ∀ v ∈ (Builtin.zeroCells z.cells n).toList, v.oneCell' = true) {g c : Nat} {pre mid post : List Value} {t : TypeId}
  (hb : Blk w g (pre ++ (mid ++ post)) t) (hl : mid.length = n * z.cells.size) :
  ∃ w', (Builtin.clear_ #[tS] ty #[.slice (some ⟨g, pre.length, none⟩) n c]).run P w = .ok (.tuple #[]) w' ∧ Mid w g pre (Builtin.zeroCells z.cells n).toList post t w' := by
 have hlz : (Builtin.zeroCells z.cells n).toList.length = n * z.cells.size := by simp [Builtin.zeroCells]
 obtain ⟨w', hst, hm⟩ := run_store_mid (P := P) w hb (hl.trans hlz.symm) h1
 cases n with
 | zero =>
  have hmid : mid = [] := List.eq_nil_of_length_eq_zero (by simpa using hl)
  subst hmid
  have hz0 : (Builtin.zeroCells z.cells 0).toList = [] := List.eq_nil_of_length_eq_zero (by simpa using hlz)
  refine ⟨w, ?_, by rw [hz0]; exact ⟨hb, Chg.refl _ _⟩⟩
  simp [Builtin.clear_, run_underlying ht]
 | succ n =>
  refine ⟨w', ?_, hm⟩
  simp [Builtin.clear_, run_underlying ht, hv, hst]
theorem run_append_mid (w : World) (t ty e : TypeId) (i : TypeInfo) (ht : P.underlying t = some (.slice e)) (hi : P.info? e = some i) {g n cap : Nat} {a : Addr} {m c : Nat} {pre mid post news : List Value} {t' : TypeId}
  (hb : Blk w g (pre ++ (mid ++ post)) t') (hp : pre.length = n * i.size) (hl : news.length = m * i.size) (hm : mid.length = news.length) (hnews : ∀ j v, news[j]? = some v → w.cell? (a.add j) = some v) (h1 : ∀ v ∈ news, v.oneCell' = true) (hroom : n + m ≤ cap) :
  ∃ w', (Builtin.append_ #[t, t] ty #[.slice (some ⟨g, 0, none⟩) n cap, .slice (some a) m c]).run P w = .ok (.slice (some ⟨g, 0, none⟩) (n + m) cap) w' ∧ Mid w g pre news post t' w' := by
 have hfc := run_firstCells_some (P := P) w i.size m a m c news hl hnews
 obtain ⟨w', hst, hmid⟩ := run_store_mid (P := P) w hb hm h1
 rw [hp] at hst
 refine ⟨w', ?_, hmid⟩
 have hadd : (⟨g, 0, none⟩ : Addr).add (n * i.size) = ⟨g, n * i.size, none⟩ := by rw [Addr.add_lit, Nat.zero_add]
 simp [Builtin.append_, run_underlying ht, sizeOf, typeInfo, hi, Builtin.lenOf, hroom, hfc, hadd, hst]

variable {w : World} {ops : Array Oper} {rest : List Oper} {o : Oper} {a : Act} {Q : Exit → Act → World → Prop}
theorem wpList_copy_run (hgd : o.guard = none) (d s : Operand) (t t' : TypeId) (ho : o.op = .call { callee := .builtin .copy, args := #[d, s], argTypes := #[t, t'] }) (v u : Value) (hd : a.eval d = v) (hs : a.eval s = u) {v' : Value} {w' : World}
  (hr : (Builtin.copy_ #[t, t'] o.type #[v, u]).run P w = .ok v' w') (h : wpList P ops Q rest (a.put o.dst v') w') : wpList P ops Q (o :: rest) a w :=
 wpList_plain hgd fun _ hK => by
  unfold Oper.wp execOp
  simp only [ho, resolve, invoke, builtin, Sem.run_bind, Sem.run_pure, Result.andThen_ok, List.map_toArray, List.map_cons, List.map_nil, hd, hs, hr]
  exact hK _ _ h
theorem wpList_append_run (hgd : o.guard = none) (d s : Operand) (t t' : TypeId) (ho : o.op = .call { callee := .builtin .append, args := #[d, s], argTypes := #[t, t'] }) (v u : Value) (hd : a.eval d = v) (hs : a.eval s = u) {v' : Value} {w' : World}
  (hr : (Builtin.append_ #[t, t'] o.type #[v, u]).run P w = .ok v' w') (h : wpList P ops Q rest (a.put o.dst v') w') : wpList P ops Q (o :: rest) a w :=
 wpList_plain hgd fun _ hK => by
  unfold Oper.wp execOp
  simp only [ho, resolve, invoke, builtin, Sem.run_bind, Sem.run_pure, Result.andThen_ok, List.map_toArray, List.map_cons, List.map_nil, hd, hs, hr]
  exact hK _ _ h
theorem wpList_clear_run (hgd : o.guard = none) (d : Operand) (t : TypeId) (ho : o.op = .call { callee := .builtin .clear, args := #[d], argTypes := #[t] }) (v : Value) (hd : a.eval d = v) {v' : Value} {w' : World}
  (hr : (Builtin.clear_ #[t] o.type #[v]).run P w = .ok v' w') (h : wpList P ops Q rest (a.put o.dst v') w') : wpList P ops Q (o :: rest) a w :=
 wpList_plain hgd fun _ hK => by
  unfold Oper.wp execOp
  simp only [ho, resolve, invoke, builtin, Sem.run_bind, Sem.run_pure, Result.andThen_ok, List.map_toArray, List.map_cons, List.map_nil, hd, hr]
  exact hK _ _ h
theorem wpList_copy_ex (hgd : o.guard = none) (d s : Operand) (t t' : TypeId) (ho : o.op = .call { callee := .builtin .copy, args := #[d, s], argTypes := #[t, t'] }) (v u : Value) (hd : a.eval d = v) (hs : a.eval s = u) {v' : Value} {R : World → Prop}
  (hr : ∃ w', (Builtin.copy_ #[t, t'] o.type #[v, u]).run P w = .ok v' w' ∧ R w') (h : ∀ w', R w' → wpList P ops Q rest (a.put o.dst v') w') : wpList P ops Q (o :: rest) a w := by
 obtain ⟨w', h1, h2⟩ := hr
 exact wpList_copy_run hgd d s t t' ho v u hd hs h1 (h w' h2)
theorem wpList_append_ex (hgd : o.guard = none) (d s : Operand) (t t' : TypeId) (ho : o.op = .call { callee := .builtin .append, args := #[d, s], argTypes := #[t, t'] }) (v u : Value) (hd : a.eval d = v) (hs : a.eval s = u) {v' : Value} {R : World → Prop}
  (hr : ∃ w', (Builtin.append_ #[t, t'] o.type #[v, u]).run P w = .ok v' w' ∧ R w') (h : ∀ w', R w' → wpList P ops Q rest (a.put o.dst v') w') : wpList P ops Q (o :: rest) a w := by
 obtain ⟨w', h1, h2⟩ := hr
 exact wpList_append_run hgd d s t t' ho v u hd hs h1 (h w' h2)
theorem wpList_clear_ex (hgd : o.guard = none) (d : Operand) (t : TypeId) (ho : o.op = .call { callee := .builtin .clear, args := #[d], argTypes := #[t] }) (v : Value) (hd : a.eval d = v) {v' : Value} {R : World → Prop}
  (hr : ∃ w', (Builtin.clear_ #[t] o.type #[v]).run P w = .ok v' w' ∧ R w') (h : ∀ w', R w' → wpList P ops Q rest (a.put o.dst v') w') : wpList P ops Q (o :: rest) a w := by
 obtain ⟨w', h1, h2⟩ := hr
 exact wpList_clear_run hgd d t ho v hd h1 (h w' h2)
end
def zeroAgg : Value := .agg #[.int .i64 0, .string ⟨#[]⟩, .int .i64 0, .int .i64 0, .slice none 0 0]
theorem zero_nodeV (w : World) : (zeroValue 28).run Tryz.prog w = .ok zeroAgg w := by kernel_rfl
theorem zero_one (n : Nat) : ∀ v ∈ (Builtin.zeroCells zeroAgg.cells n).toList, v.oneCell' = true := by
 intro v hv
 simp only [Builtin.zeroCells, Array.toList_map, List.mem_map] at hv
 obtain ⟨i, hi, rfl⟩ := hv
 have h5 : i % zeroAgg.cells.size < 5 := Nat.mod_lt _ (by decide)
 generalize i % zeroAgg.cells.size = q at h5
 have : q = 0 ∨ q = 1 ∨ q = 2 ∨ q = 3 ∨ q = 4 := by omega
 rcases this with rfl | rfl | rfl | rfl | rfl <;> rfl
theorem zero_five : zeroAgg.cells.size = 5 := rfl
end Go.Proofs.YtgcmfpcgmkkobaaGreatDoor
