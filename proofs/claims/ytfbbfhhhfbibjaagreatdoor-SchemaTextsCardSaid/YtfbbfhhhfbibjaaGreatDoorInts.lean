/-
  A copy of a slice of ints (shredcollaw2.ints), and slices.Clone at []int.
-/
import Derived.Test.YtfbbfhhhfbibjaaGreatDoorFlat
import Derived.Lib.SliceRun
namespace Go.Proofs.YtfbbfhhhfbibjaaGreatDoor
open Go.RowKit

theorem infoInt1 : (Tryz.prog.info? 3).map (fun i => (i.zero, i.size, i.bytes)) = some (some (.int .i64 0), 1, 8) := by kernel_rfl
def intDt (x : Int) : Dt := .lit (.int .i64 x)

/-- A slice's elements, as the law on append wants them. -/
theorem news_of {w : World} {S : Nat → Prop} {k : Nat} {ds : List Dt} {v : Value} (h : Reads w S (.list k ds) [v]) :
    ∃ a c news, v = .slice a ds.length c ∧ ds.length ≤ c ∧ c ≤ maxLen ∧ ReadsC w S k ds news ∧ (∀ ad, a = some ad → ∀ j u, news[j]? = some u → w.cell? (ad.add j) = some u) ∧ (a = none → ds.length = 0 ∧ c = 0) := by
  obtain ⟨a, c, h0, h1, h2, h3⟩ := h
  have e : v = .slice a ds.length c := by simpa using h0
  subst e
  rcases h3 with ⟨rfl, h3⟩ | ⟨b, off, rfl, hS, hb, hE⟩
  · exact ⟨a, c, [], rfl, h1, h2, rfl, fun _ _ j u hu => by simp at hu, fun e => ⟨rfl, h3 e⟩⟩
  · obtain ⟨xs, hx, hc⟩ := hE.toC
    refine ⟨_, c, xs, rfl, h1, h2, hx, fun ad had j u hu => ?_, fun e => by cases e⟩
    obtain rfl := Option.some.inj had
    rw [show (⟨b, off, none⟩ : Addr).add j = ⟨b, off + j, none⟩ from by unfold Addr.add; split <;> simp_all]
    exact hc j u hu

theorem ints_news {w : World} {S : Nat → Prop} : ∀ {l : List Int} {xs : List Value}, ReadsC w S 1 (l.map intDt) xs → xs = l.map (Value.int .i64)
  | [], xs, h => h
  | x :: l, xs, h => by
    obtain ⟨c, r, rfl, _, h2, h3⟩ := h
    obtain ⟨rfl, _⟩ := (h2 : c = [.int .i64 x] ∧ _)
    rw [ints_news h3]; rfl
theorem ints_chunks (w : World) (S : Nat → Prop) : ∀ l : List Int, ReadsC w S 1 (l.map intDt) (l.map (Value.int .i64))
  | [] => rfl
  | x :: l => ⟨[.int .i64 x], _, rfl, rfl, ⟨rfl, rfl⟩, ints_chunks w S l⟩

theorem lt_of_at {w : World} {p : Addr} {v : Value} (h : w.cell? p = some v) : p.block < w.heap.size := by
  unfold World.cell? at h
  cases hb : w.heap[p.block]? with
  | none => rw [hb] at h; simp at h
  | some o => exact lt_of_block hb
set_option maxHeartbeats 400000 in
theorem ints_any (l : List Int) (v : Value) (w : World) (S : Nat → Prop) (h : Reads w S (.list 1 (l.map intDt)) [v]) (hl : l.length * 8 ≤ 140737488355328) :
    Calls Tryz.prog 31 #[v] w (RetList 1 (fun _ => False) (l.map intDt) w) := by
  obtain ⟨a, c, news, rfl, hc1, hc2, hn, hcell, hnone⟩ := news_of h
  obtain rfl := ints_news hn
  have hlen : (l.map intDt).length = l.length := List.length_map ..
  go_enter Tryz.func31, Tryz.ntmps31
  go_wp2_with (at_builtin; refine stop_here ?_)
  refine Stop.go ?_
  refine wpList_own rfl (.tmp 4) (.tmp 5) 51 rfl w.heap.size 3 Tryz.underlying51 infoInt1 rfl (by decide) rfl (Own.nil w w.heap.size 3 1 (fun _ => False)) rfl (l.map intDt) _ rfl (ints_chunks _ _ l) hcell hnone ?_ ?_ (Nat.le_refl _) ?_
  · simp [maxLen]; omega
  · simp; omega
  intro ao2 cap2 wB hoB hcB hatB
  simp only [List.length_nil, Nat.zero_add, List.nil_append] at hoB hcB hatB ⊢
  go_wp2_with fail
  go_ret
  rw [hlen] at hoB
  refine ⟨ao2, cap2, by rw [hlen]; rfl, ?_, hcB.mono (fun _ _ e => by cases e)⟩
  rw [hlen]
  exact hoB.reads (fun _ h => h.elim) (fun b hb _ => .inr hb) (by simp [maxLen]; omega)

set_option maxHeartbeats 400000 in
set_option maxRecDepth 100000 in
/-- slices.Clone: an own row. -/
theorem clone_any (l : List Int) (v : Value) (w : World) (S : Nat → Prop) (h : Reads w S (.list 1 (l.map intDt)) [v]) (hl : l.length * 8 ≤ 140737488355328) :
    Calls Tryz.prog 86 #[v] w fun e w' => ∃ v', e = .returned v' ∧ Own w' w.heap.size 3 1 (fun _ => False) v' (l.map intDt) ∧ Chg NoB w w' := by
  obtain ⟨a, c, news, rfl, hc1, hc2, hn, hcell, hnone⟩ := news_of h
  obtain rfl := ints_news hn
  have hlen : (l.map intDt).length = l.length := List.length_map ..
  have hq : ∀ (w : World) (a : Option Addr) (n c n' c' : Nat), (binOp .eql 51 (.slice a n c) (.slice none n' c')).run Tryz.prog w = .ok (.bool a.isNone) w := fun w a n c n' c' => Lib.run_eql_slice_nil w _ _ a n c n' c' Tryz.underlying51
  cases a with
  | none =>
    obtain ⟨h0, rfl⟩ := hnone rfl
    obtain rfl : l = [] := List.eq_nil_of_length_eq_zero (by omega)
    go_enter Tryz.func86, Tryz.ntmps86
    go_wp2_with fail
    go_ret
    exact ⟨_, rfl, Own.nil _ _ _ _ _, Chg.refl _ _⟩
  | some ad =>
    go_enter Tryz.func86, Tryz.ntmps86
    go_wp2_with (at_builtin; refine stop_here ?_)
    refine Stop.go ?_
    generalize hwA : w.alloc _ = wA
    have hcA : Chg NoB w wA := by
      rw [← hwA]
      repeat (first | exact Chg.refl _ _ | apply Chg.alloc | apply Chg.drew)
    have hoA : Own wA w.heap.size 3 1 (fun _ => False) (.slice (some ⟨w.heap.size, 0, none⟩) 0 0) [] := ⟨[], hwA ▸ World.ownsRow_made w #[] 0 (Nat.le_refl _) (Nat.zero_le _) rfl, rfl⟩
    clear hwA
    replace hcell : ∀ ad1, some ad = some ad1 → ∀ (j : Nat) (u : Value), (l.map (Value.int .i64))[j]? = some u → wA.cell? (ad1.add j) = some u := fun ad1 h1 j u hu => by
      have h2 := hcell ad1 h1 j u hu
      rw [← h2]
      exact hcA.cell (lt_of_at h2) NoB.elim
    refine wpList_own rfl (.tmp 5) (.tmp 6) 51 rfl w.heap.size 3 Tryz.underlying51 infoInt1 rfl (by decide) rfl hoA rfl (l.map intDt) _ rfl (ints_chunks _ _ l) hcell (fun e => by cases e) ?_ ?_ hcA.size ?_
    · simp [maxLen]; omega
    · simp; omega
    intro ao2 cap2 wB hoB hcB hatB
    go_wp2_with fail
    go_ret
    simp only [List.length_nil, Nat.zero_add, List.nil_append, hlen] at hoB
    exact ⟨_, rfl, hoB, hcA.trans hcB (fun b e => .inr (Nat.le_of_eq (Option.some.inj e)))⟩
end Go.Proofs.YtfbbfhhhfbibjaaGreatDoor
