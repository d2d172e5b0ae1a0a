/-
  shredcolref2.HasInt, keep: of a node what has some of the leaves in it.
-/
import Derived.Test.YtfbbfhhhfbibjaaGreatDoorPackI
import Derived.Test.YtfbbfhhhfbibjaaGreatDoorPackG
import Derived.Test.YtfbbfhhhfbibjaaGreatDoorPackC
set_option linter.unusedVariables false
set_option linter.unusedSimpArgs false
namespace Go.Proofs.YtfbbfhhhfbibjaaGreatDoor
open Go.RowKit

def HiRel (l : List Int) (x : Int) (w : World) (vi : Value) (wr : World) : Prop := ∃ j : Nat, j ≤ l.length ∧ vi = .int .i64 (j : Nat) ∧ wr = w ∧ has (l.take j) x = false

set_option maxHeartbeats 1000000 in
theorem hasInt_any (l : List Int) (x : Int) (a : Value) (w : World) (S : Nat → Prop) (ha : Reads w S (.list 1 (l.map intDt)) [a]) :
    Calls Tryz.prog 87 #[a, .int .i64 x] w (fun e w' => e = .returned (.bool (has l x)) ∧ w' = w) := by
  obtain ⟨aa, ac, rfl, ha1, ha2, ha3⟩ := list_cells (f := Value.int .i64) (show Reads w S (.list 1 (l.map fun x => .lit (.int .i64 x))) [a] from ha)
  have h63 : l.length ≤ 9223372036854775807 := by unfold maxLen at ha2; omega
  have Ha3 := Lib.hid ha3
  clear ha3 ha
  go_enter Tryz.func87, Tryz.ntmps87
  go_wp2_with fail
  go_loopw [5] (fun vi wr => HiRel l x w vi wr) (fun vi _ => l.length - (intOf vi).toNat)
  case atStart => exact ⟨0, Nat.zero_le _, rfl, rfl, rfl⟩
  case round =>
    obtain ⟨j, hj, rfl, rfl, hno⟩ := hrel
    have Hno := Lib.hid hno
    clear hno
    by_cases hlt : j < l.length
    · obtain ⟨ab, aoff, rfl, _, hab, hac⟩ := Ha3.out (by omega)
      have e1 := hac j l[j] (by simp [hlt])
      have htake : l.take (j + 1) = l.take j ++ [l[j]] := List.take_succ_eq_append_getElem hlt
      have hmem : l[j] ∈ l := List.getElem_mem hlt
      generalize l[j] = y at e1 htake hmem
      have Htake := Lib.hid htake
      clear hac htake
      by_cases hy : y = x
      · subst hy
        have hh : has l y = true := (has_iff _ _).2 hmem
        have Hh := Lib.hid hh
        clear hh hmem
        go_wp2_with fail
        go_ret
        exact ⟨by rw [Hh.out]; rfl, rfl⟩
      · have hy' : (y == x) = false := by simpa using hy
        have hnx : has (l.take (j + 1)) x = false := by
          have h9 := Hno.out
          unfold has at h9 ⊢
          rw [Htake.out, List.any_append, h9]
          simp [hy]
        have Hnx := Lib.hid hnx
        clear hnx hmem
        go_wp2_with fail
        go_roundw
        case rel => exact ⟨j + 1, hlt, by go_num, rfl, Hnx.out⟩
        case measure => simp [intOf]; omega
    · have hjl : j = l.length := by omega
      subst hjl
      have hh : has l x = false := by have := Hno.out; rwa [List.take_length] at this
      have Hh := Lib.hid hh
      clear hh
      go_wp2_with fail
      go_ret
      exact ⟨by rw [Hh.out]; rfl, rfl⟩

theorem keepL_len (L : List Int) : ∀ l : List Nd, (keepL L l).length ≤ l.length
  | [] => Nat.le_refl _
  | n :: ns => by
    have := keepL_len L ns
    simp only [keepL, List.length_append, List.length_cons]
    split <;> simp only [List.length_cons, List.length_nil] <;> omega
theorem weighs_small {l : List Nd} {n : Nd} (h : n ∈ l) : n.high ≤ Nd.highs l := by
  induction l with
  | nil => cases h
  | cons x xs ih =>
    simp only [Nd.highs]
    rcases List.mem_cons.1 h with rfl | h
    · omega
    · have := ih h; omega

/-- What holds at the head of each round. -/
def KeepRel (L : List Int) (w : World) (i : Int) (n : ByteArray) (r k : Int) (s : List Nd) (sv : Value) (vi : Value) (wr : World) : Prop :=
  ∃ j v, j ≤ s.length ∧ vi = .int .i64 (j : Nat) ∧ Chg NoB w wr ∧ Blk wr w.heap.size (ndCells i n r k sv) 24 ∧
    Blk wr (w.heap.size + 1) (ndCells 0 ⟨#[]⟩ 0 0 (.slice none 0 0)) 24 ∧ Blk wr (w.heap.size + 1 + 1) (ndCells i n r k v) 24 ∧
    Own wr (w.heap.size + 3) 24 5 (fun b => w.heap.size + 3 ≤ b) v (Nd.dts (keepL L (s.take j)))
def SomeRel (L U : List Int) (w : World) (vs vk : Value) (wr : World) : Prop :=
  ∃ kk : Nat, kk ≤ U.length ∧ vk = .int .i64 (kk : Nat) ∧ vs = .bool ((U.take kk).any (has L)) ∧ Chg NoB w wr

set_option maxHeartbeats 2000000 in
set_option maxRecDepth 100000 in
theorem keep_any (L : List Int) (vi : Value) : ∀ (m : Nat) (nd : Nd) (w : World) (S T : Nat → Prop) (cs : List Value), nd.weigh ≤ m → Reads w S nd.dt cs → nd.ok → nd.high ≤ 100 → nd.weigh ≤ 2000 →
    Reads w T (.list 1 (L.map intDt)) [vi] → Calls Tryz.prog 63 #[.agg cs.toArray, vi] w (RetNew (keepN L nd).dt w) := by
  intro m
  induction m with
  | zero => intro nd w S T cs hm; cases nd; simp [Nd.weigh] at hm
  | succ m ih =>
    intro nd w S T cs hm hr hok hhigh hwei hvi
    obtain ⟨i, n, r, k, s⟩ := nd
    obtain ⟨sv, rfl, hs⟩ := reads_nd.1 hr
    obtain ⟨a, cap, rfl, hlen, hcap, hel⟩ := reads_list hs
    obtain ⟨hi, hn, hrr, hk, hsl, hoks⟩ := hok
    simp only [Nd.dts_eq, List.length_map] at hlen hel ⊢
    have Hih := Lib.hid ih
    clear ih
    simp only [keepN]
    go_enter Tryz.func63, Tryz.ntmps63
    go_wp2_with fail
    go_loopw [6] (fun vi wr => KeepRel L w i n r k s (.slice a s.length cap) vi wr) (fun vi _ => s.length - (intOf vi).toNat)
    case atStart =>
      refine ⟨0, _, Nat.zero_le _, rfl, ?_, ?_, ?_, ?_, by simpa [Nd.dts, keepL] using Own.nil _ _ _ _ _⟩
      · exact (((Chg.refl _ _).alloc _).alloc _).alloc _
      · exact ((Blk.newAt rfl).alloc _).alloc _
      · exact (Blk.newAt (by simp)).alloc _
      · exact Blk.newAt (by simp)
    case round =>
      obtain ⟨j, v, hj, rfl, hc, hb0, hb1, hb2, ho⟩ := hrel
      obtain ⟨wA, rfl⟩ : ∃ x, x = wr := ⟨_, rfl⟩
      have c4 : wA.cell? ⟨w.heap.size, 4, none⟩ = some (.slice a s.length cap) := hb0.cell 4
      have hsz : w.heap.size + 3 ≤ wA.heap.size := hb2.lt
      unfold reach at hsl
      by_cases hlt : j < s.length
      · obtain ⟨b, off, rfl, hSb, hbw, hE⟩ := hel (by omega)
        obtain ⟨ecs, hl5, hcells, hre⟩ := hE.get j s[j].dt (by simp [hlt])
        have hmem : s[j] ∈ s := List.getElem_mem hlt
        have hw1 := Nd.weigh_mem hmem
        have hh1 := weighs_small hmem
        have hok1 := Nd.oks_mem hoks _ hmem
        have htake : s.take (j + 1) = s.take j ++ [s[j]] := List.take_succ_eq_append_getElem hlt
        have Htake := Lib.hid htake
        clear htake hmem
        generalize s[j] = nj at hre hw1 hh1 hok1 Htake
        simp only [Nd.weigh] at hwei hm
        simp only [Nd.high] at hhigh
        have hlf : underL (flatOf nj) = lfN nj := under_lf (by omega) (by omega)
        have hwm : nj.weigh ≤ m := by omega
        have hww : nj.weigh ≤ 2000 := by omega
        have hhh : nj.high ≤ 100 := by omega
        clear hw1 hh1
        have Hlf := Lib.hid hlf
        clear hlf
        have hnext : keepL L (s.take (j + 1)) = keepL L (s.take j) ++ (if (lfN nj).any (has L) = true then [keepN L nj] else []) := by rw [Htake.out, keepL_append]; simp [keepL]
        have Hnext := Lib.hid hnext
        clear hnext
        obtain ⟨i1, n1, r1, k1, s1⟩ := nj
        obtain ⟨v1, rfl, hs1⟩ := reads_nd.1 hre
        have hf : ∀ t c, [Value.int .i64 i1, .string n1, .int .i64 r1, .int .i64 k1, v1][t]? = some c → wA.cell? ⟨b, off + j * 5 + t, none⟩ = some c := fun t c ht => (hc.cell (p := ⟨b, off + j * 5 + t, none⟩) hbw (fun e => e)).trans (hcells t c ht)
        have e0 : wA.cell? ⟨b, off + j * 5, none⟩ = some (.int .i64 i1) := hf 0 _ rfl
        have e1 : wA.cell? ⟨b, off + j * 5 + 1, none⟩ = some (.string n1) := hf 1 _ rfl
        have e2 : wA.cell? ⟨b, off + j * 5 + 2, none⟩ = some (.int .i64 r1) := hf 2 _ rfl
        have e3 : wA.cell? ⟨b, off + j * 5 + 3, none⟩ = some (.int .i64 k1) := hf 3 _ rfl
        have e4 : wA.cell? ⟨b, off + j * 5 + 4, none⟩ = some v1 := hf 4 _ rfl
        clear hf hcells
        go_wp2_with fail
        refine (underOf_any (.mk i1 n1 r1 k1 s1) wA S _ (hre.chg0 hc) hok1).mono ?_
        rintro en w1 ⟨ua, uc, rfl, hru, hc1⟩
        rw [Hlf.out] at hru ⊢
        rw [List.length_map] at hru ⊢
        generalize hU : lfN (.mk i1 n1 r1 k1 s1) = U at hru ⊢
        have HU := Lib.hid hU
        clear hU
        obtain ⟨ua', uc', hue, hu1, hu2, hu3⟩ := list_cells (f := Value.int .i64) (show Reads w1 _ (.list 1 (U.map fun x => .lit (.int .i64 x))) [.slice ua U.length uc] from hru)
        obtain ⟨rfl, -, rfl⟩ := Value.slice.inj hue
        have hU63 : U.length ≤ 9223372036854775807 := by unfold maxLen at hu2; omega
        have Hu3 := Lib.hid hu3
        clear hu3 hru hue
        have hc01 := hc.tr hc1
        go_wp2_with fail
        go_loopw [8, 9] (fun vs vk wq => SomeRel L U w1 vs vk wq) (fun _ vk _ => U.length - (intOf vk).toNat)
        case atStart => exact ⟨0, Nat.zero_le _, rfl, rfl, Chg.refl _ _⟩
        case round =>
          obtain ⟨kk, hkk, rfl, rfl, hcq⟩ := hrel
          have hvq := hvi.chg0 (hc01.tr hcq)
          by_cases hlk : kk < U.length
          · obtain ⟨ub, uoff, rfl, _, hub, hua⟩ := Hu3.out (by omega)
            have e5 : wr.cell? ⟨ub, uoff + kk, none⟩ = some (.int .i64 U[kk]) := (hcq.cell (p := ⟨ub, uoff + kk, none⟩) hub NoB.elim).trans (hua kk U[kk] (by simp [hlk]))
            have hUt : (U.take (kk + 1)).any (has L) = ((U.take kk).any (has L) || has L U[kk]) := by
              rw [List.take_succ_eq_append_getElem hlk, List.any_append]; simp
            generalize U[kk] = x at e5 hUt
            have HUt := Lib.hid hUt
            clear hUt hua
            generalize hsm : (U.take kk).any (has L) = sm
            rw [hsm] at HUt
            clear hsm
            go_wp2_with fail
            refine (hasInt_any L x vi wr T hvq).mono ?_
            rintro en w3 ⟨rfl, rfl⟩
            generalize hin : has L x = inn
            rw [hin] at HUt
            clear hin
            cases sm <;> go_wp2_with fail
            all_goals
              go_roundw
              case rel => exact ⟨kk + 1, hlk, by go_num, by rw [HUt.out]; rfl, hcq⟩
              case measure => simp [intOf]; omega
          · have hkl : kk = U.length := by omega
            subst hkl
            rw [List.take_length]
            have hcZ1 := hc1.tr hcq
            have hcZ := hc.tr hcZ1
            have hb0Z := hb0.keep hcZ1 NoB.elim
            have hb1Z := hb1.keep hcZ1 NoB.elim
            have hb2Z := hb2.keep hcZ1 NoB.elim
            have hoZ := ho.keep hcZ1 (fun _ _ => NoB.elim) (fun _ _ => NoB.elim)
            have hreZ := hre.chg0 hcZ
            have hviZ := hvi.chg0 hcZ
            have hszZ : w.heap.size + 3 ≤ wr.heap.size := hb2Z.lt
            have z4 : wr.cell? ⟨w.heap.size, 4, none⟩ = some (.slice (some ⟨b, off, none⟩) s.length cap) := hb0Z.cell 4
            have o4 : wr.cell? ⟨w.heap.size + 1 + 1, 4, none⟩ = some v := hb2Z.cell 4
            have g0 : wr.cell? ⟨b, off + j * 5, none⟩ = some (.int .i64 i1) := (hcZ1.cell (p := ⟨b, off + j * 5, none⟩) (Nat.lt_of_lt_of_le hbw hc.size) NoB.elim).trans e0
            have g1 : wr.cell? ⟨b, off + j * 5 + 1, none⟩ = some (.string n1) := (hcZ1.cell (p := ⟨b, off + j * 5 + 1, none⟩) (Nat.lt_of_lt_of_le hbw hc.size) NoB.elim).trans e1
            have g2 : wr.cell? ⟨b, off + j * 5 + 2, none⟩ = some (.int .i64 r1) := (hcZ1.cell (p := ⟨b, off + j * 5 + 2, none⟩) (Nat.lt_of_lt_of_le hbw hc.size) NoB.elim).trans e2
            have g3 : wr.cell? ⟨b, off + j * 5 + 3, none⟩ = some (.int .i64 k1) := (hcZ1.cell (p := ⟨b, off + j * 5 + 3, none⟩) (Nat.lt_of_lt_of_le hbw hc.size) NoB.elim).trans e3
            have g4 : wr.cell? ⟨b, off + j * 5 + 4, none⟩ = some v1 := (hcZ1.cell (p := ⟨b, off + j * 5 + 4, none⟩) (Nat.lt_of_lt_of_le hbw hc.size) NoB.elim).trans e4
            clear e0 e1 e2 e3 e4 hb0 hb1 hb2 c4 hsz ho hre hcZ1
            have hU2 : (lfN (.mk i1 n1 r1 k1 s1)).any (has L) = U.any (has L) := by rw [HU.out]
            rw [hU2] at Hnext
            clear hU2
            generalize U.any (has L) = sm at Hnext ⊢
            cases sm with
            | false =>
              have hnx := Hnext.out
              rw [if_neg Bool.false_ne_true, List.append_nil] at hnx
              have Hnx := Lib.hid hnx
              clear hnx
              go_wp2_with fail
              refine ⟨⟨j + 1, v, hlt, by go_num, hcZ, hb0Z, hb1Z, hb2Z, ?_⟩, by simp [intOf]; omega⟩
              rw [Hnx.out]
              exact hoZ
            | true =>
              have hnx := Hnext.out
              rw [if_pos rfl] at hnx
              have Hnx := Lib.hid hnx
              clear hnx
              go_wp2_with fail
              refine wp_region_n (fun w' => w'.cell? ⟨w.heap.size, 4, none⟩ = some (.slice (some ⟨b, off, none⟩) s.length cap) ∧ w'.cell? ⟨w.heap.size + 1 + 1, 4, none⟩ = some v ∧ w'.cell? ⟨b, off + j * 5, none⟩ = some (.int .i64 i1) ∧ w'.cell? ⟨b, off + j * 5 + 1, none⟩ = some (.string n1) ∧ w'.cell? ⟨b, off + j * 5 + 2, none⟩ = some (.int .i64 r1) ∧ w'.cell? ⟨b, off + j * 5 + 3, none⟩ = some (.int .i64 k1) ∧ w'.cell? ⟨b, off + j * 5 + 4, none⟩ = some v1) [12] (by kernel_rfl) ?_ (fun hSh => ?_)
              · exact ⟨z4, o4, g0, g1, g2, g3, g4⟩
              refine n_take (v := ?_) 0 rfl (Or.inl ⟨by rfl, ?_⟩) (by kernel_rfl) (fun _ _ _ h => h) (by assumption) ?_
              rotate_left 1
              · (intro w' hSw; (try dsimp only at hSw); go_simp; try with_reducible rfl)
              simp only [Act.put, List.getElem_toArray, List.getElem_cons_zero, List.getElem_cons_succ, List.setIfInBounds_toArray, List.set_cons_zero, List.set_cons_succ]
              refine n_take (v := ?_) 1 rfl (Or.inl ⟨by rfl, ?_⟩) (by kernel_rfl) (fun _ _ _ h => h) (by assumption) ?_
              rotate_left 1
              · (intro w' hSw; (try dsimp only at hSw); go_simp; try with_reducible rfl)
              simp only [Act.put, List.getElem_toArray, List.getElem_cons_zero, List.getElem_cons_succ, List.setIfInBounds_toArray, List.set_cons_zero, List.set_cons_succ]
              refine n_take (v := ?_) 2 rfl (Or.inl ⟨by rfl, ?_⟩) (by kernel_rfl) (fun _ _ _ h => h) (by assumption) ?_
              rotate_left 1
              · (intro w' hSw; (try dsimp only at hSw); go_simp; try with_reducible rfl)
              simp only [Act.put, List.getElem_toArray, List.getElem_cons_zero, List.getElem_cons_succ, List.setIfInBounds_toArray, List.set_cons_zero, List.set_cons_succ]
              refine n_take (v := ?_) 3 rfl (Or.inl ⟨by rfl, ?_⟩) (by kernel_rfl) (fun _ _ _ h => h) (by assumption) ?_
              rotate_left 1
              · (intro w' hSw; (try dsimp only at hSw); go_simp; try with_reducible rfl)
              simp only [Act.put, List.getElem_toArray, List.getElem_cons_zero, List.getElem_cons_succ, List.setIfInBounds_toArray, List.set_cons_zero, List.set_cons_succ]
              refine n_take (v := ?_) 4 rfl (Or.inl ⟨by rfl, ?_⟩) (by kernel_rfl) (fun _ _ _ h => h) (by assumption) ?_
              rotate_left 1
              · (intro w' hSw; (try dsimp only at hSw); go_simp; try with_reducible rfl)
              simp only [Act.put, List.getElem_toArray, List.getElem_cons_zero, List.getElem_cons_succ, List.setIfInBounds_toArray, List.set_cons_zero, List.set_cons_succ]
              refine n_take (v := ?_) 5 rfl (Or.inl ⟨by rfl, ?_⟩) (by kernel_rfl) (fun _ _ _ h => h) (by assumption) ?_
              rotate_left 1
              · (intro w' hSw; (try dsimp only at hSw); go_simp; try with_reducible rfl)
              simp only [Act.put, List.getElem_toArray, List.getElem_cons_zero, List.getElem_cons_succ, List.setIfInBounds_toArray, List.set_cons_zero, List.set_cons_succ]
              refine n_take (v := ?_) 6 rfl (Or.inl ⟨by rfl, ?_⟩) (by kernel_rfl) (fun _ _ _ h => h) (by assumption) ?_
              rotate_left 1
              · (intro w' hSw; (try dsimp only at hSw); go_simp; try with_reducible rfl)
              simp only [Act.put, List.getElem_toArray, List.getElem_cons_zero, List.getElem_cons_succ, List.setIfInBounds_toArray, List.set_cons_zero, List.set_cons_succ]
              refine n_take (v := ?_) 7 rfl (Or.inl ⟨by rfl, ?_⟩) (by kernel_rfl) (fun _ _ _ h => h) (by assumption) ?_
              rotate_left 1
              · (intro w' hSw; (try dsimp only at hSw); go_simp; try with_reducible rfl)
              simp only [Act.put, List.getElem_toArray, List.getElem_cons_zero, List.getElem_cons_succ, List.setIfInBounds_toArray, List.set_cons_zero, List.set_cons_succ]
              refine n_step 8 rfl (by kernel_rfl) ?_
              go_wp2_with fail
              refine (Hih.out (.mk i1 n1 r1 k1 s1) wr.drew S T _ hwm (hreZ.chg0 (Chg.refl _ _).drew) hok1 hhh hww (hviZ.chg0 (Chg.refl _ _).drew)).mono ?_
              rintro e w3 ⟨ecs, rfl, hr3, hc3⟩
              replace hr3 : Reads w3 _ (Nd.dt (.mk i1 n1 r1 k1 (keepL L s1))) ecs := hr3
              obtain ⟨v3, rfl, hs3⟩ := reads_nd.1 hr3
              obtain ⟨a3, cap3, rfl, _, _, _⟩ := reads_subs hs3
              go_wp2_with fail
              refine ⟨fun _ => ?_, fun hSk => ?_⟩
              · (repeat' refine And.intro ?_ ?_) <;> exact (hc3.cell (by first | assumption | (simp; done) | (simp; omega) | omega) (fun e => e)).trans (by assumption)
              replace hSk := hSk (by rfl)
              refine n_step 9 rfl (by kernel_rfl) ?_
              go_wp2_with fail
              have hc4 := hc3.ofDrew.alloc (.cells #[.int .i64 i1, .string n1, .int .i64 r1, .int .i64 k1, .slice a3 (keepL L s1).length cap3] 24)
              have hbn := Blk.new w3 [.int .i64 i1, .string n1, .int .i64 r1, .int .i64 k1, .slice a3 (keepL L s1).length cap3] 24
              generalize hW4 : w3.alloc _ = w4 at hc4 hbn
              have hr4 := hr3.chg0 (w' := w4) (hW4 ▸ (Chg.refl _ _).alloc _)
              have ho4 := hoZ.keep hc4 (fun _ _ e => NoB.elim e) (fun _ _ e => NoB.elim e)
              have hob := hoZ.block
              refine ⟨fun _ => ?_, fun hSk => ?_⟩
              · (repeat' refine And.intro ?_ ?_) <;> exact (hc4.cell (by first | assumption | (simp; done) | (simp; omega) | omega) (fun e => e)).trans (by assumption)
              replace hSk := hSk (by rfl)
              refine n_step 10 rfl (by kernel_rfl) ?_
              have hlA : (Nd.dts (keepL L (s.take j))).length = (keepL L (s.take j)).length := by rw [Nd.dts_eq, List.length_map]
              have hle1 := keepL_len L (s.take j)
              rw [List.length_take] at hle1
              refine wpList_own rfl (.tmp 51) (.tmp 59) 22 rfl (w.heap.size + 3) 24 Tryz.underlying22 infoNode rfl (by decide) rfl ho4 rfl [Nd.dt (.mk i1 n1 r1 k1 (keepL L s1))] _ rfl (ReadsC.single rfl (hr4.mono ?_)) hbn.news (fun e => by cases e) ?_ ?_ ?_ ?_
              · intro b hb
                have hb : wr.heap.size ≤ b := hb
                exact ⟨by omega, fun e => by have := (hob b e).2; omega⟩
              · rw [hlA]; unfold maxLen; omega
              · rw [hlA]; omega
              · have := hc4.size; omega
              intro ao5 cap5 w5 ho5 hc5 hat5
              rw [hlA] at ho5 ⊢
              have hfar : ∀ {x : Nat}, x < w.heap.size + 3 → ¬ (v.ownBlock = some x) := fun hx e => by have := (hob _ e).1; omega
              have hc15 : Chg NoB w w5 := (hcZ.trans hc4 (fun _ e => NoB.elim e)).trans hc5 (fun b e => .inr (by have := (hob b e).1; omega))
              have hb05 := (hb0Z.keep hc4 NoB.elim).keep hc5 (hfar (by omega))
              have hb15 := (hb1Z.keep hc4 NoB.elim).keep hc5 (hfar (by omega))
              have hb25 := (hb2Z.keep hc4 NoB.elim).keep hc5 (hfar (by omega))
              go_wp2_with fail
              have hc45 : Chg (fun b => v.ownBlock = some b) wr w5 := (hc4.mono (fun _ _ e => NoB.elim e)).trans hc5 (fun _ e => .inl e)
              refine ⟨fun _ => ?_, fun hSk => ?_⟩
              · (repeat' refine And.intro ?_ ?_) <;> exact (hc45.cell (by first | assumption | (simp; done) | (simp; omega) | omega) (hfar (by (try dsimp only); omega))).trans (by assumption)
              replace hSk := hSk (by rfl)
              refine n_take (v := ?_) 11 rfl (Or.inl ⟨by rfl, ?_⟩) (by kernel_rfl) (fun _ _ _ h => h) (by assumption) ?_
              rotate_left 1
              · (intro w' hSw; (try dsimp only at hSw); go_simp; try with_reducible rfl)
              simp only [Act.put, List.getElem_toArray, List.getElem_cons_zero, List.getElem_cons_succ, List.setIfInBounds_toArray, List.set_cons_zero, List.set_cons_succ]
              refine n_step 12 rfl (by kernel_rfl) ?_
              have o5 : w5.cell? ⟨w.heap.size + 1 + 1, 4, none⟩ = some v := hb25.cell 4
              have f5 : w5.frozen? ⟨w.heap.size + 1 + 1, 4, none⟩ = false := hb25.free 4
              clear hc4 hbn hc45
              go_wp2_with fail
              refine ⟨fun hx => absurd hx (by decide), fun _ => ?_⟩
              refine n_done (by kernel_rfl) ?_
              go_wp2_with fail
              go_roundw
              case rel =>
                refine ⟨j + 1, _, hlt, by go_num, hc15.setCell (.inr (by dsimp only; omega)) _, hb05.other (by dsimp only; omega) _, hb15.other (by dsimp only; omega) _, hb25.set 4 _, ?_⟩
                rw [Hnx.out, Nd.dts_append]
                exact ho5.setCell (p := ⟨w.heap.size + 1 + 1, 4, none⟩) (fun b hb => by have hb : w.heap.size + 3 ≤ b := hb; show b ≠ w.heap.size + 1 + 1; omega) (by show w.heap.size + 1 + 1 < w.heap.size + 3; omega) _
              case measure => simp [intOf]; omega
      · have hjl : j = s.length := by omega
        subst hjl
        rw [List.take_length] at ho
        have hlA : (Nd.dts (keepL L s)).length = (keepL L s).length := by rw [Nd.dts_eq, List.length_map]
        have hle1 := keepL_len L s
        obtain ⟨ao, cap', hv⟩ := ho.form
        rw [hlA] at hv
        subst hv
        have c20 : wA.cell? ⟨w.heap.size + 1 + 1, 0, none⟩ = some (.int .i64 (i)) := hb2.cell 0
        have c21 : wA.cell? ⟨w.heap.size + 1 + 1, 1, none⟩ = some (.string n) := hb2.cell 1
        have c22 : wA.cell? ⟨w.heap.size + 1 + 1, 2, none⟩ = some (.int .i64 (r)) := hb2.cell 2
        have c23 : wA.cell? ⟨w.heap.size + 1 + 1, 3, none⟩ = some (.int .i64 (k)) := hb2.cell 3
        have c24 : wA.cell? ⟨w.heap.size + 1 + 1, 4, none⟩ = some (.slice ao (keepL L s).length cap') := hb2.cell 4
        have c10 : wA.cell? ⟨w.heap.size + 1, 0, none⟩ = some (.int .i64 (0)) := hb1.cell 0
        have c11 : wA.cell? ⟨w.heap.size + 1, 1, none⟩ = some (.string ⟨#[]⟩) := hb1.cell 1
        have c12 : wA.cell? ⟨w.heap.size + 1, 2, none⟩ = some (.int .i64 (0)) := hb1.cell 2
        have c13 : wA.cell? ⟨w.heap.size + 1, 3, none⟩ = some (.int .i64 (0)) := hb1.cell 3
        have c14 : wA.cell? ⟨w.heap.size + 1, 4, none⟩ = some (.slice none 0 0) := hb1.cell 4
        have f10 : wA.frozen? ⟨w.heap.size + 1, 0, none⟩ = false := hb1.free 0
        have f11 : wA.frozen? ⟨w.heap.size + 1, 1, none⟩ = false := hb1.free 1
        have f12 : wA.frozen? ⟨w.heap.size + 1, 2, none⟩ = false := hb1.free 2
        have f13 : wA.frozen? ⟨w.heap.size + 1, 3, none⟩ = false := hb1.free 3
        have f14 : wA.frozen? ⟨w.heap.size + 1, 4, none⟩ = false := hb1.free 4
        go_wp2_with fail
        have hbf : Blk _ (w.heap.size + 1) (ndCells i n r k (.slice ao (keepL L s).length cap')) 24 := ((((hb1.set 0 (.int .i64 i)).set 1 (.string n)).set 2 (.int .i64 r)).set 3 (.int .i64 k)).set 4 (.slice ao (keepL L s).length cap')
        have hcf := ((((hc.setCell (p := ⟨w.heap.size + 1, 0, none⟩) (.inr (by (try dsimp only); omega)) (.int .i64 i)).setCell (p := ⟨w.heap.size + 1, 1, none⟩) (.inr (by (try dsimp only); omega)) (.string n)).setCell (p := ⟨w.heap.size + 1, 2, none⟩) (.inr (by (try dsimp only); omega)) (.int .i64 r)).setCell (p := ⟨w.heap.size + 1, 3, none⟩) (.inr (by (try dsimp only); omega)) (.int .i64 k)).setCell (p := ⟨w.heap.size + 1, 4, none⟩) (.inr (by (try dsimp only); omega)) (.slice ao (keepL L s).length cap')
        have hof := ho.keep ((((((Chg.refl (OneB (w.heap.size + 1)) wA).setCell (p := ⟨w.heap.size + 1, 0, none⟩) (.inl rfl) (.int .i64 i)).setCell (p := ⟨w.heap.size + 1, 1, none⟩) (.inl rfl) (.string n)).setCell (p := ⟨w.heap.size + 1, 2, none⟩) (.inl rfl) (.int .i64 r)).setCell (p := ⟨w.heap.size + 1, 3, none⟩) (.inl rfl) (.int .i64 k)).setCell (p := ⟨w.heap.size + 1, 4, none⟩) (.inl rfl) (.slice ao (keepL L s).length cap'))
          (fun b hb e => by have hb : w.heap.size + 3 ≤ b := hb; have e : b = w.heap.size + 1 := e; omega) (fun b hb e => by have := (ho.block b hb).1; have e : b = w.heap.size + 1 := e; omega)
        generalize hWf : World.setCell _ _ (Value.slice ao (keepL L s).length cap') = wf at hbf hcf hof ⊢
        have g0 : wf.cell? ⟨w.heap.size + 1, 0, none⟩ = some (.int .i64 (i)) := hbf.cell 0
        have g1 : wf.cell? ⟨w.heap.size + 1, 1, none⟩ = some (.string n) := hbf.cell 1
        have g2 : wf.cell? ⟨w.heap.size + 1, 2, none⟩ = some (.int .i64 (r)) := hbf.cell 2
        have g3 : wf.cell? ⟨w.heap.size + 1, 3, none⟩ = some (.int .i64 (k)) := hbf.cell 3
        have g4 : wf.cell? ⟨w.heap.size + 1, 4, none⟩ = some (.slice ao (keepL L s).length cap') := hbf.cell 4
        refine bodyPost_ret (v := .agg #[.int .i64 i, .string n, .int .i64 r, .int .i64 k, .slice ao (keepL L s).length cap']) (by simp [results, Tryz.results63, go_sem, g0, g1, g2, g3, g4]) rfl ⟨_, rfl, ?_, hcf⟩
        refine reads_nd.2 ⟨_, rfl, ?_⟩
        have h9 := hof.reads (S' := fun b => w.heap.size ≤ b) (fun b hb => by have hb : w.heap.size + 3 ≤ b := hb; omega) (fun b hb _ => by omega) (by rw [hlA]; unfold maxLen; omega)
        exact h9
end Go.Proofs.YtfbbfhhhfbibjaaGreatDoor
