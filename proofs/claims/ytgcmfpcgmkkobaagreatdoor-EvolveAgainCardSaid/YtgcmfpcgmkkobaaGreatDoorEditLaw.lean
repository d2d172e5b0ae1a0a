/-
 What one edit leaves: small nodes, not many, numbers that go on.
-/
import Derived.Test.YtgcmfpcgmkkobaaGreatDoorPackL
import Derived.Test.YtgcmfpcgmkkobaaGreatDoorWordsLaw
import Derived.Test.YtgcmfpcgmkkobaaGreatDoorEditA
set_option linter.unusedVariables false
set_option linter.unusedSimpArgs false
namespace Go.Proofs.YtgcmfpcgmkkobaaGreatDoor
open Go.RowKit

theorem numF_pos {l : List UInt8} {v : Int} (h : numF l = some v) : 0 ≤ v := by
 unfold numF at h
 split at h
 ·cases h
 ·rename_i v' hv
  split at h
  ·rename_i hc
   cases h
   obtain ⟨h4, ht, _⟩ := hc
   have ha := (trimS_nil l digits).1 ht
   have hne : l ≠ [] := fun e => by rw [e, numOk_nil] at hv; cases hv
   rw [numOk_digits ha h4 hne] at hv
   obtain ⟨m, _, h2, _⟩ := dec_dval l 0 ha
   have h5 : dval l 0 = v := Option.some.inj hv
   have h6 : (m : Int) = dval l 0 := h2
   omega
  ·cases h
/-- What of a node fits its fields. -/
def Slim (n : Nd) : Prop := 0 ≤ n.id ∧ n.id ≤ 2000000 ∧ n.name.size ≤ 10000 ∧ 0 ≤ n.rep ∧ n.rep ≤ 10 ∧ 0 ≤ n.kind ∧ n.kind ≤ 10
/-- The property speaks of a node by itself. -/
def Flatly (P : Nd → Prop) : Prop := ∀ i n r k s s', P (.mk i n r k s) → P (.mk i n r k s')
theorem slim_flat : Flatly Slim := fun _ _ _ _ _ _ h => h
theorem alls_iff {P : Nd → Prop} : ∀ {l : List Nd}, Nd.Alls P l ↔ ∀ n ∈ l, n.All P
 | [] => ⟨fun _ n hn => (List.not_mem_nil hn).elim, fun _ => trivial⟩
 | x :: xs => by
  show x.All P ∧ Nd.Alls P xs ↔ _
  rw [alls_iff]
  simp
mutual
theorem all_grpN {P : Nd → Prop} (hP : Flatly P) {id : Int} {g : List Nd → List Nd} (hg : ∀ s, Nd.Alls P s → Nd.Alls P (g s)) : ∀ n : Nd, n.All P → (grpN id g n).All P
 | .mk i nm r k s, h => by
  rw [grpN]
  refine ⟨hP _ _ _ _ _ _ h.1, ?_⟩
  split
  ·exact hg s h.2
  ·exact all_grpL hP hg s h.2
theorem all_grpL {P : Nd → Prop} (hP : Flatly P) {id : Int} {g : List Nd → List Nd} (hg : ∀ s, Nd.Alls P s → Nd.Alls P (g s)) : ∀ l : List Nd, Nd.Alls P l → Nd.Alls P (grpL id g l)
 | [], _ => trivial
 | n :: ns, h => by
  rw [grpL]
  exact ⟨all_grpN hP hg n h.1, all_grpL hP hg ns h.2⟩
end
theorem all_grpT {P : Nd → Prop} (hP : Flatly P) {id : Int} {g : List Nd → List Nd} (hg : ∀ s, Nd.Alls P s → Nd.Alls P (g s)) {l : List Nd} (h : Nd.Alls P l) : Nd.Alls P (grpT id g l) := by
 unfold grpT
 split
 ·exact hg l h
 ·exact all_grpL hP hg l h
theorem all_setId {P : Nd → Prop} {id : Int} {f : Nd → Nd} (hf : ∀ n : Nd, n.All P → (f n).All P) {s : List Nd} (h : Nd.Alls P s) : Nd.Alls P (setId id f s) := by
 rw [alls_iff] at h ⊢
 intro n hn
 obtain ⟨c, hc, rfl⟩ := List.mem_map.1 hn
 split
 ·exact hf c (h c hc)
 ·exact h c hc
theorem all_sub {P : Nd → Prop} {s s' : List Nd} (hs : ∀ n ∈ s', n ∈ s) (h : Nd.Alls P s) : Nd.Alls P s' := by
 rw [alls_iff] at h ⊢
 exact fun n hn => h n (hs n hn)
theorem movTo_mem {id : Int} {p : Nat} {s : List Nd} : ∀ n ∈ movTo id p s, n ∈ s := by
 unfold movTo
 intro n hn
 split at hn
 ·exact hn
 ·rename_i q hq
  rcases List.mem_append.1 hn with hn | hn
  ·exact (List.mem_filter.1 (List.mem_of_mem_take hn)).1
  ·rcases List.mem_cons.1 hn with rfl | hn
   ·exact List.mem_of_find?_eq_some hq
   ·exact (List.mem_filter.1 (List.mem_of_mem_drop hn)).1
mutual
theorem all_dropN {P : Nd → Prop} (hP : Flatly P) {id : Int} : ∀ n : Nd, n.All P → (dropN id n).All P
 | .mk i nm r k s, h => by
  rw [dropN]
  exact ⟨hP _ _ _ _ _ _ h.1, all_sub (fun _ hn => (List.mem_filter.1 hn).1) (all_dropL hP s h.2)⟩
theorem all_dropL {P : Nd → Prop} (hP : Flatly P) {id : Int} : ∀ l : List Nd, Nd.Alls P l → Nd.Alls P (dropL id l)
 | [], _ => trivial
 | n :: ns, h => by
  rw [dropL]
  exact ⟨all_dropN hP n h.1, all_dropL hP ns h.2⟩
end
/-- The number of nodes grows by no more than forty times. -/
theorem weighs_append : ∀ a b : List Nd, Nd.weighs (a ++ b) = Nd.weighs a + Nd.weighs b
 | [], b => by simp [Nd.weighs]
 | x :: xs, b => by simp only [List.cons_append, Nd.weighs, weighs_append xs b]; omega
theorem weighs_filter (p : Nd → Bool) : ∀ l : List Nd, Nd.weighs (l.filter p) ≤ Nd.weighs l
 | [] => Nat.le_refl _
 | x :: xs => by
  have := weighs_filter p xs
  rw [List.filter_cons]
  split <;> simp only [Nd.weighs] <;> omega
theorem weighs_cut (p : Nat) (l : List Nd) : Nd.weighs (l.take p) + Nd.weighs (l.drop p) = Nd.weighs l := by
 rw [← weighs_append, List.take_append_drop]
mutual
theorem weigh_grpN {id : Int} {g : List Nd → List Nd} (hg : ∀ s, Nd.weighs (g s) ≤ 41 * Nd.weighs s) : ∀ n : Nd, (grpN id g n).weigh ≤ 41 * n.weigh
 | .mk i nm r k s => by
  rw [grpN]
  simp only [Nd.weigh]
  have h1 := hg s
  have h2 := weigh_grpL (id := id) hg s
  split <;> omega
theorem weigh_grpL {id : Int} {g : List Nd → List Nd} (hg : ∀ s, Nd.weighs (g s) ≤ 41 * Nd.weighs s) : ∀ l : List Nd, Nd.weighs (grpL id g l) ≤ 41 * Nd.weighs l
 | [] => Nat.le_refl _
 | n :: ns => by
  have h1 := weigh_grpN (id := id) hg n
  have h2 := weigh_grpL (id := id) hg ns
  rw [grpL]
  simp only [Nd.weighs]
  omega
end
theorem weigh_grpT {id : Int} {g : List Nd → List Nd} (hg : ∀ s, Nd.weighs (g s) ≤ 41 * Nd.weighs s) (l : List Nd) : Nd.weighs (grpT id g l) ≤ 41 * Nd.weighs l := by
 unfold grpT
 split
 ·exact hg l
 ·exact weigh_grpL hg l
theorem weigh_setId {id : Int} {f : Nd → Nd} (hf : ∀ n : Nd, (f n).weigh ≤ 41 * n.weigh) : ∀ s : List Nd, Nd.weighs (setId id f s) ≤ 41 * Nd.weighs s
 | [] => Nat.le_refl _
 | n :: ns => by
  have h1 := hf n
  have h2 := weigh_setId (id := id) hf ns
  unfold setId at h2 ⊢
  rw [List.map_cons]
  simp only [Nd.weighs]
  split <;> omega
theorem weigh_movTo {id : Int} {p : Nat} (s : List Nd) : Nd.weighs (movTo id p s) ≤ 41 * Nd.weighs s := by
 unfold movTo
 split
 ·omega
 ·rename_i q hq
  have h1 := Nd.weigh_mem (List.mem_of_find?_eq_some hq)
  have h2 := weighs_filter (fun c => !decide (c.id = id)) s
  have h3 := weighs_cut p (s.filter fun c => !decide (c.id = id))
  rw [weighs_append]
  simp only [Nd.weighs]
  omega
mutual
theorem weigh_dropN {id : Int} : ∀ n : Nd, (dropN id n).weigh ≤ n.weigh
 | .mk i nm r k s => by
  rw [dropN]
  simp only [Nd.weigh]
  have h1 := weigh_dropL (id := id) s
  have h2 := weighs_filter (fun x => !delB id x) (dropL id s)
  omega
theorem weigh_dropL {id : Int} : ∀ l : List Nd, Nd.weighs (dropL id l) ≤ Nd.weighs l
 | [] => Nat.le_refl _
 | n :: ns => by
  have h1 := weigh_dropN (id := id) n
  have h2 := weigh_dropL (id := id) ns
  rw [dropL]
  simp only [Nd.weighs]
  omega
end
theorem weigh_addSub {t : Nd} (ht : t.weigh ≤ 40) (n : Nd) : (addSub t n).weigh ≤ 41 * n.weigh := by
 cases n
 simp only [addSub, Nd.withSub, Nd.sub, Nd.weigh, weighs_append, Nd.weighs]
 omega
theorem all_addSub {P : Nd → Prop} (hP : Flatly P) {t : Nd} (ht : t.All P) (n : Nd) (h : n.All P) : (addSub t n).All P := by
 cases n
 refine ⟨hP _ _ _ _ _ _ h.1, alls_append _ _ h.2 ⟨ht, trivial⟩⟩
theorem numGo_fold : ∀ (ws : List ByteArray) (st : List ByteArray × Int × Nat), st.2.1 ≤ (ws.foldl (fun s x => (s.1 ++ (numStep s.2.2 s.2.1 x).1, (numStep s.2.2 s.2.1 x).2, s.2.2 + 1)) st).2.1 ∧ (ws.foldl (fun s x => (s.1 ++ (numStep s.2.2 s.2.1 x).1, (numStep s.2.2 s.2.1 x).2, s.2.2 + 1)) st).2.1 ≤ st.2.1 + ws.length
 | [], st => ⟨Int.le_refl _, by simp⟩
 | x :: xs, st => by
  have h := numGo_fold xs (st.1 ++ (numStep st.2.2 st.2.1 x).1, (numStep st.2.2 st.2.1 x).2, st.2.2 + 1)
  have h1 : st.2.1 ≤ (numStep st.2.2 st.2.1 x).2 ∧ (numStep st.2.2 st.2.1 x).2 ≤ st.2.1 + 1 := by
   unfold numStep
   split
   ·dsimp only; omega
   ·split <;> dsimp only <;> omega
  rw [List.foldl_cons, List.length_cons]
  dsimp only at h
  omega
theorem numGo_nx (nx : Int) (ws : List ByteArray) : nx ≤ (numGo nx ws).2.1 ∧ (numGo nx ws).2.1 ≤ nx + ws.length := numGo_fold ws ([], nx, 0)
theorem readF_right {s : ByteArray} {i : Int} {nm : ByteArray} {r k : Int} {t : Nd} (h : readF s = .ok (.mk i nm r k [t])) : t.All Right ∧ t.weigh ≤ 39 ∧ Fit [t] := by
 have hv := read_valid h
 have hf : Fit [t] := fit_of hv
 have hS := schema_of_valid hv
 have h2 := hf.small
 simp only [Nd.weighs] at h2
 exact ⟨hS.right.1, by omega, hf⟩
mutual
theorem weigh_give (d : Int) : ∀ n : Nd, (giveN d n).weigh = n.weigh
 | .mk i nm r k s => by rw [giveN]; simp only [Nd.weigh]; rw [weighs_give d s]
theorem weighs_give (d : Int) : ∀ l : List Nd, Nd.weighs (giveL d l) = Nd.weighs l
 | [] => rfl
 | n :: ns => by rw [giveL]; simp only [Nd.weighs]; rw [weigh_give d n, weighs_give d ns]
end
mutual
theorem slim_give {d : Int} (hd : 0 ≤ d ∧ d ≤ 1000000) : ∀ n : Nd, n.All Right → (giveN d n).All Slim
 | .mk i nm r k s, h => by
  rw [giveN]
  refine ⟨?_, slims_give hd s h.2⟩
  obtain ⟨h1, h2, h3, h4, _, _, h5, h6, h7⟩ := h.1
  simp only [Nd.rep, Nd.kind, Nd.id, Nd.name] at h1 h2 h3 h4 h5 h6 h7
  have h8 : nm.size ≤ 12 := by
   unfold isNameB at h5
   simp only [Bool.and_eq_true, decide_eq_true_eq] at h5
   exact h5.1.2
  refine ⟨?_, ?_, ?_, ?_, ?_, ?_, ?_⟩ <;> simp only [Nd.rep, Nd.kind, Nd.id, Nd.name] <;> omega
theorem slims_give {d : Int} (hd : 0 ≤ d ∧ d ≤ 1000000) : ∀ l : List Nd, Nd.Alls Right l → Nd.Alls Slim (giveL d l)
 | [], _ => trivial
 | n :: ns, h => by
  rw [giveL]
  exact ⟨slim_give hd n h.1, slims_give hd ns h.2⟩
end
theorem nodeF_facts {line : ByteArray} {nx nx' : Int} {t : Nd} (hnx : 1 ≤ nx ∧ nx ≤ 1000000) (h : nodeF line nx = some (t, nx')) : t.All Slim ∧ t.weigh ≤ 40 ∧ nx ≤ nx' ∧ nx' ≤ nx + line.size + 1 := by
 unfold nodeF at h
 split at h
 ·rename_i t0 ht
  split at h
  ·obtain ⟨rfl, rfl⟩ : giveN (nx - 1) t0 = t ∧ (numGo nx (wordsB line)).2.1 = nx' := by simpa using h
   have h1 := numGo_nx nx (wordsB line)
   have h2 := words_count line
   have h3 : t0.All Right ∧ t0.weigh ≤ 39 ∧ Fit [t0] := by
    unfold oneOf at ht
    split at ht
    ·rename_i hR
     cases ht
     exact readF_right hR
    ·cases ht
   exact ⟨slim_give (by omega) t0 h3.1, by rw [weigh_give]; omega, h1.1, by omega⟩
  ·cases h
 ·cases h
theorem all_ok : ∀ {l : List Nd}, Nd.Alls Slim l → Nd.weighs l ≤ 100000 → Nd.oks l
 | [], _, _ => trivial
 | .mk i nm r k s :: ns, h, hw => by
  simp only [Nd.weighs, Nd.weigh] at hw
  obtain ⟨⟨⟨h1, h2, h3, h4, h5, h6, h7⟩, h8⟩, h9⟩ := h
  simp only [Nd.rep, Nd.kind, Nd.id, Nd.name] at h1 h2 h3 h4 h5 h6 h7
  have hl := weighs_len s
  refine ⟨⟨⟨by omega, by omega⟩, by unfold reach; omega, ⟨by omega, by omega⟩, ⟨by omega, by omega⟩, by unfold reach; omega, all_ok h8 (by omega)⟩, all_ok h9 (by omega)⟩
theorem slim_fit {l : List Nd} (h : Fit l) : Nd.Alls Slim l := by
 have hS := schema_of_valid (valid_of h)
 refine Nd.Alls.imp (fun n hn => ?_) l hS.right
 obtain ⟨h1, h2, h3, h4, _, _, h5, h6, h7⟩ := hn
 have h8 : n.name.size ≤ 12 := by
  unfold isNameB at h5
  simp only [Bool.and_eq_true, decide_eq_true_eq] at h5
  exact h5.1.2
 refine ⟨?_, ?_, ?_, ?_, ?_, ?_, ?_⟩ <;> omega
/-- What an edit leaves that has gone. -/
theorem editW_facts {line : ByteArray} {l l' : List Nd} {nx nx' : Int} (hl : line.size ≤ 10000) (hnx : 1 ≤ nx ∧ nx ≤ 1000000) (hs : Nd.Alls Slim l) (hw : Nd.weighs l ≤ 39) (h : editW (wordsB line) l nx = .ok l' nx') :
  Nd.Alls Slim l' ∧ Nd.weighs l' ≤ 1700 ∧ nx ≤ nx' ∧ nx' ≤ nx + line.size + 1 := by
 have hws := words_size line
 generalize hwb : wordsB line = ws at h hws
 match ws, h, hws with
 | [], h, _ => cases h
 | [_], h, _ => cases h
 | w0 :: w1 :: rest, h, hws =>
  simp only [editW] at h
  split at h
  ·rename_i hadd
   obtain ⟨x, r, rfl⟩ : ∃ x r, rest = x :: r := by
    cases rest with
    | nil => exact absurd rfl hadd.2
    | cons x r => exact ⟨x, r, rfl⟩
   have hjr := join_rest hwb
   have hsz : (mkB (joinW (x :: r))).size ≤ line.size := by rw [mkB_sz]; exact hjr
   unfold addF at h
   split at h
   ·cases h
   ·split at h
    ·cases h
    ·rename_i t nx2 hnd
     obtain ⟨f1, f2, f3, f4⟩ := nodeF_facts hnx hnd
     split at h
     ·cases h
      exact ⟨alls_append _ _ hs ⟨f1, trivial⟩, by rw [weighs_append]; simp only [Nd.weighs]; omega, f3, by omega⟩
     ·split at h
      ·cases h
      ·split at h
       ·cases h
        refine ⟨all_grpT slim_flat (fun s h => all_setId (all_addSub slim_flat f1) h) hs, ?_, f3, by omega⟩
        exact Nat.le_trans (weigh_grpT (fun s => weigh_setId (weigh_addSub f2) s) l) (by omega)
       ·cases h
  ·split at h
   ·cases h
   ·split at h
    ·cases h
    ·split at h
     ·cases h
     ·rename_i id hid
      have key : ∀ (w2 : ByteArray) (pl : Int), w2.size ≤ 10000 → opF w0 w2 id pl l nx = .ok l' nx' → Nd.Alls Slim l' ∧ Nd.weighs l' ≤ 1700 ∧ nx ≤ nx' ∧ nx' ≤ nx + line.size + 1 := by
       intro w2 pl hw2 h
       unfold opF at h
       split at h
       ·cases h
       ·split at h
        ·cases h
         refine ⟨all_sub (fun _ hn => (List.mem_filter.1 hn).1) (all_dropL slim_flat l hs), ?_, Int.le_refl _, by omega⟩
         have h1 := weigh_dropL (id := id) l
         have h2 := weighs_filter (fun x => !delB id x) (dropL id l)
         omega
        ·split at h
         ·split at h
          ·cases h
           refine ⟨all_grpT slim_flat (fun s h => all_setId (fun n hn => ?_) h) hs, ?_, Int.le_refl _, by omega⟩
           ·cases n
            obtain ⟨⟨a1, a2, a3, a4, a5, a6, a7⟩, a8⟩ := hn
            exact ⟨⟨a1, a2, hw2, a4, a5, a6, a7⟩, a8⟩
           ·have := weigh_grpT (id := id) (fun s => weigh_setId (id := id) (f := renTo w2) (fun n => by cases n; simp only [renTo, Nd.weigh]; omega) s) l
            omega
          ·cases h
         ·split at h
          ·split at h
           ·cases h
           ·split at h
            ·cases h
            ·cases h
             refine ⟨all_grpT slim_flat (fun s h => all_sub movTo_mem h) hs, ?_, Int.le_refl _, by omega⟩
             have := weigh_grpT (id := id) (fun s => weigh_movTo (id := id) (p := pl.toNat) s) l
             omega
          ·split at h
           ·split at h
            ·cases h
             refine ⟨all_grpT slim_flat (fun s h => all_setId (fun n hn => ?_) h) hs, ?_, Int.le_refl _, by omega⟩
             ·cases n
              obtain ⟨⟨a1, a2, a3, a4, a5, a6, a7⟩, a8⟩ := hn
              exact ⟨⟨a1, a2, a3, a4, a5, (by decide : (0 : Int) ≤ 3), (by decide : (3 : Int) ≤ 10)⟩, a8⟩
             ·have := weigh_grpT (id := id) (fun s => weigh_setId (id := id) (f := kindTo 3) (fun n => by cases n; simp only [kindTo, Nd.weigh]; omega) s) l
              omega
            ·cases h
           ·split at h
            ·cases h
             refine ⟨all_grpT slim_flat (fun s h => all_setId (fun n hn => ?_) h) hs, ?_, Int.le_refl _, by omega⟩
             ·cases n
              obtain ⟨⟨a1, a2, a3, a4, a5, a6, a7⟩, a8⟩ := hn
              exact ⟨⟨a1, a2, a3, (by decide : (0 : Int) ≤ 2), (by decide : (2 : Int) ≤ 10), a6, a7⟩, a8⟩
             ·have := weigh_grpT (id := id) (fun s => weigh_setId (id := id) (f := repTo 2) (fun n => by cases n; simp only [repTo, Nd.weigh]; omega) s) l
              omega
            ·cases h
      split at h
      ·split at h
       ·cases h
       ·rename_i w2 r2 _ _
        split at h
        ·cases h
        ·exact key w2 _ (by have := hws w2 (by simp); omega) h
      ·refine key _ _ ?_ h
       cases rest with
       | nil => exact Nat.zero_le _
       | cons x r =>
        have := hws x (by simp)
        show x.size ≤ 10000
        omega
end Go.Proofs.YtgcmfpcgmkkobaaGreatDoor
