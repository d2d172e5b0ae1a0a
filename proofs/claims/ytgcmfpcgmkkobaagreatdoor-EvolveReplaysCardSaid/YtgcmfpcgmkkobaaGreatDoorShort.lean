/-
  A log that stands for a tree, after each edit.; shredcollaw4's short and texts: of lines that are handed in.; evolve's edit: one line, whatever it is.
-/
import Derived.Test.YtgcmfpcgmkkobaaGreatDoorRdy
import Derived.Test.YtgcmfpcgmkkobaaGreatDoorPlainE
import Derived.Test.YtgcmfpcgmkkobaaGreatDoorTwiceP
import Derived.Test.YtgcmfpcgmkkobaaGreatDoorEditM
import Derived.Test.YtgcmfpcgmkkobaaGreatDoorEditU
import Derived.Test.YtgcmfpcgmkkobaaGreatDoorEditA
import Derived.Test.YtgcmfpcgmkkobaaGreatDoorReplayLaw
set_option linter.unusedVariables false
set_option maxHeartbeats 20000000
set_option maxRecDepth 100000
set_option linter.unusedSimpArgs false
namespace Go.Proofs.YtgcmfpcgmkkobaaGreatDoor
open Go.RowKit
theorem map_idsN {id : Int} {f : Nd → Nd} (hf : Still f) (n : Nd) : idsN (mapN id f n) = idsN n := by
 refine Nd.rec (motive_1 := fun n => idsN (mapN id f n) = idsN n) (motive_2 := fun l => idsL (mapL id f l) = idsL l) ?_ ?_ ?_ n
 ·intro i nm r k s ih
  have key : ∀ m : Nd, m.id = i → m.sub = mapL id f s → idsN m = i :: idsL s := fun m h1 h2 => by
   cases m
   simp only [Nd.id, Nd.sub] at h1 h2
   rw [idsN, h1, h2, ih]
  rw [mapN]
  split
  ·rw [key _ (hf _).1 (hf _).2, idsN]
  ·rw [key _ rfl rfl, idsN]
 ·rfl
 ·intro a b h1 h2
  rw [mapL, idsL, idsL, h1, h2]
theorem map_idsL {id : Int} {f : Nd → Nd} (hf : Still f) : ∀ l : List Nd, idsL (mapL id f l) = idsL l
 | [] => rfl
 | n :: ns => by rw [mapL, idsL, idsL, map_idsN hf n, map_idsL hf ns]
mutual
theorem leafy_mapN {id : Int} {f : Nd → Nd} (hf : Still f) : ∀ n : Nd, n.All Leafy → (idsN n).Nodup → (∀ i nm r k s s', fndN id n = some (.mk i nm r k s) → (f (.mk i nm r k s')).kind ≠ 0 → k ≠ 0) → (mapN id f n).All Leafy
 | .mk i nm r k s, h, hn, hq => by
  simp only [idsN, List.nodup_cons] at hn
  have hs : i ≠ id → Nd.Alls Leafy (mapL id f s) := fun hi => leafy_mapL hf s h.2 hn.2 fun a b c d e e' h9 => hq a b c d e e' (by rw [fndN, if_neg hi]; exact h9)
  by_cases hi : i = id
  ·have hms : mapL id f s = s := mapL_no s (by rw [← hi]; exact hn.1)
   rw [mapN, if_pos hi, hms]
   have h1 := (hf (.mk i nm r k s)).2
   have h3 := hq i nm r k s s (by rw [fndN, if_pos hi])
   generalize f (.mk i nm r k s) = m at h1 h3 ⊢
   obtain ⟨i2, nm2, r2, k2, s2⟩ := m
   simp only [Nd.sub, Nd.kind] at h1 h3
   subst h1
   exact ⟨fun hk => h.1 (h3 hk), h.2⟩
  ·rw [mapN, if_neg hi]
   refine ⟨fun hk => ?_, hs hi⟩
   have h9 : s = [] := h.1 hk
   subst h9; rfl
theorem leafy_mapL {id : Int} {f : Nd → Nd} (hf : Still f) : ∀ l : List Nd, Nd.Alls Leafy l → (idsL l).Nodup → (∀ i nm r k s s', fndL id l = some (.mk i nm r k s) → (f (.mk i nm r k s')).kind ≠ 0 → k ≠ 0) → Nd.Alls Leafy (mapL id f l)
 | [], _, _, _ => trivial
 | n :: ns, h, hn, hq => by
  simp only [idsL] at hn
  rw [List.nodup_append] at hn
  refine ⟨leafy_mapN hf n h.1 hn.1 fun a b c d e e' h9 => hq a b c d e e' (by rw [fndL, h9]), leafy_mapL hf ns h.2 hn.2.1 fun a b c d e e' h9 => hq a b c d e e' ?_⟩
  have h2 : id ∉ idsN n := fun e0 => hn.2.2 id e0 id (fndL_iff.2 ⟨_, h9⟩) rfl
  rw [fndL, fndN_no id n h2]
  exact h9
end
theorem Rdy.set {its : List It} {l : List Nd} {nx id : Int} {f : Nd → Nd} (h : Rdy its l nx) (hf : Still f) (ho : Own1 f) (hq : ∀ i nm r k s s', fndL id l = some (.mk i nm r k s) → (f (.mk i nm r k s')).kind ≠ 0 → k ≠ 0) :
  Rdy (its.map (itF id f)) (grpT id (setId id f) l) nx where
 rep := rep_map h.rep h.numb.nodup hf ho
 numb := by
  rw [grp_mapL l h.numb.nodup]
  exact ⟨by rw [map_idsL hf]; exact h.numb.nodup, by rw [map_idsL hf]; exact h.numb.pos⟩
 grow := by
  have key : ∀ x : It, (itF id f x).n.id = x.n.id ∧ (itF id f x).ar = x.ar := fun x => by
   unfold itF
   split
   ·exact ⟨(hf _).1, rfl⟩
   ·exact ⟨rfl, rfl⟩
  refine ⟨fun x hx => ?_, fun x hx => ?_⟩
  ·obtain ⟨y, hy, rfl⟩ := List.mem_map.1 hx
   rw [(key y).1, (key y).2]; exact h.grow.up y hy
  ·obtain ⟨y, hy, rfl⟩ := List.mem_map.1 hx
   rw [(key y).1]; exact h.grow.le y hy
 ids := by
  rw [List.map_map]
  have : ((fun x : It => x.n.id) ∘ itF id f) = fun x : It => x.n.id := funext fun x => by
   show (itF id f x).n.id = x.n.id
   unfold itF
   split
   ·exact (hf _).1
   ·rfl
  rw [this]; exact h.ids
 leaf := by
  rw [grp_mapL l h.numb.nodup]
  exact leafy_mapL hf l h.leaf h.numb.nodup hq
theorem Rdy.rename {its : List It} {l : List Nd} {nx id : Int} (h : Rdy its l nx) (nm : ByteArray) : Rdy (its.map (itF id (renTo nm))) (grpT id (setId id (renTo nm)) l) nx :=
 h.set (still_ren nm).1 (still_ren nm).2 fun _ _ _ _ _ _ _ hk => hk
theorem Rdy.loosen {its : List It} {l : List Nd} {nx id : Int} (h : Rdy its l nx) (r : Int) : Rdy (its.map (itF id (repTo r))) (grpT id (setId id (repTo r)) l) nx :=
 h.set (still_rep r).1 (still_rep r).2 fun _ _ _ _ _ _ _ hk => hk
theorem Rdy.widen {its : List It} {l : List Nd} {nx id : Int} {q : Nd} (h : Rdy its l nx) (hq : fndL id l = some q) (h2 : q.kind = 2) : Rdy (its.map (itF id (kindTo 3))) (grpT id (setId id (kindTo 3)) l) nx :=
 h.set (still_kind 3).1 (still_kind 3).2 fun i nm r k s s' h9 _ h0 => by
  rw [hq] at h9
  cases h9
  simp only [Nd.kind] at h2
  omega
mutual
theorem leafy_dropN {id : Int} : ∀ n : Nd, n.All Leafy → (dropN id n).All Leafy
 | .mk i nm r k s, h => by
  rw [dropN_eq]
  refine ⟨fun hk => ?_, leafy_dropL s h.2⟩
  have h9 : s = [] := h.1 hk
  subst h9; rfl
theorem leafy_dropL {id : Int} : ∀ l : List Nd, Nd.Alls Leafy l → Nd.Alls Leafy (keepD id l)
 | [], _ => trivial
 | n :: ns, h => by
  rw [keepD_cons]
  split
  ·exact leafy_dropL ns h.2
  ·exact ⟨leafy_dropN n h.1, leafy_dropL ns h.2⟩
end
theorem Rdy.drop {its r : List It} {l : List Nd} {id nx : Int} {G : List Int} (h : Rdy its l nx) (hid : 1 ≤ id) (hG : ∀ g, g ∈ G ↔ Hangs its id g) (hw : Wo (its.filter fun x => !has G x.n.id) r) : Rdy r (keepD id l) nx := by
 obtain ⟨h1, h2⟩ := rep_drop h.rep h.numb h.ids h.grow hid hG hw
 exact {
  rep := h1
  numb := keepD_numb h.numb
  grow := ⟨fun x hx => h.grow.up x (h2.subset hx), fun x hx => h.grow.le x (h2.subset hx)⟩
  ids := (h2.map _).nodup h.ids
  leaf := leafy_dropL l h.leaf }
def lineSum (l : List ByteArray) : Nat := (l.map ByteArray.size).sum
def shortB (l : List ByteArray) : Bool := decide (l.length ≤ 80) && decide (lineSum l ≤ 4000)
theorem lineSum_le {l : List ByteArray} (h : ∀ s ∈ l, s.size ≤ reach) : lineSum l ≤ l.length * reach := by
 induction l with
 | nil => exact Nat.zero_le _
 | cons x xs ih =>
  have h1 := ih (fun s hs => h s (List.mem_cons_of_mem _ hs))
  have h2 := h x (List.mem_cons_self ..)
  simp only [lineSum, List.map_cons, List.sum_cons, List.length_cons] at h1 ⊢
  rw [Nat.succ_mul]; omega
def ShortRel (l : List ByteArray) (vn vi : Value) : Prop := ∃ (j : Nat) (n : Int), j ≤ l.length ∧ vi = .int .i64 (j : Nat) ∧ vn = .int .i64 n ∧ (l.length ≤ 80 → n = (lineSum (l.take j) : Nat))
theorem short_any (l : List ByteArray) (v : Value) (w : World) (S : Nat → Prop) (h : Reads w S (.list 1 (l.map strDt)) [v]) (hsz : ∀ s ∈ l, s.size ≤ reach) (hl : l.length * 16 ≤ reach) :
  Calls Tryz.prog 9 #[v] w (RetV (.bool (shortB l)) w) := by
 obtain ⟨a, c, rfl, hlc, hcm, hcell⟩ := list_cells (f := fun s => Value.string s) h
 unfold maxLen at hcm
 have hsb : shortB l = (decide (l.length ≤ 80) && decide (lineSum l ≤ 4000)) := rfl
 have Hsb := Lib.hid hsb
 clear hsb
 unfold reach at hl
 by_cases h80 : l.length ≤ 80
 ·have h80I : (l.length : Int) ≤ 80 := by omega
  go_enter Tryz.func9, Tryz.ntmps9
  go_wp2_with fail
  go_loop [3, 4] (fun vn vi => ShortRel l vn vi) (fun _ vi => l.length - (intOf vi).toNat)
  case atStart => exact ⟨0, 0, Nat.zero_le _, rfl, rfl, fun _ => rfl⟩
  case round =>
   obtain ⟨j, n, hj, rfl, rfl, hn⟩ := hrel
   obtain rfl := hn h80
   by_cases hlt : j < l.length
   ·obtain ⟨b, off, rfl, hSb, hbw, hE⟩ := hcell (by omega)
    have e1 := hE j l[j] (List.getElem?_eq_getElem hlt)
    have hx := hsz l[j] (List.getElem_mem hlt)
    have htake : l.take (j + 1) = l.take j ++ [l[j]] := List.take_succ_eq_append_getElem hlt
    have hsum : lineSum (l.take (j + 1)) = lineSum (l.take j) + l[j].size := by unfold lineSum; rw [htake, List.map_append, List.sum_append]; simp only [List.map_cons, List.map_nil, List.sum_cons, List.sum_nil, Nat.add_zero]
    have hle : lineSum (l.take j) ≤ 80 * reach := Nat.le_trans (lineSum_le (fun s hs => hsz s (List.mem_of_mem_take hs))) (Nat.mul_le_mul_right _ (by rw [List.length_take]; omega))
    have Hsum := Lib.hid hsum
    clear hsum htake hE hn
    generalize l[j] = ej at e1 hx Hsum
    generalize lineSum (l.take j) = q at Hsum hle ⊢
    unfold reach at hx hle
    have hltI : (j : Int) < (l.length : Int) := by omega
    go_wp2_with fail
    go_round
    case rel => exact ⟨j + 1, _, hlt, by go_num, rfl, fun _ => by rw [Hsum.out]; omega⟩
    case measure => simp [intOf]; omega
   ·have hltI : ¬ (j : Int) < (l.length : Int) := by omega
    have hjs : l.take j = l := List.take_of_length_le (by omega)
    rw [hjs]
    generalize lineSum l = q at Hsb
    go_wp2_with fail
    go_ret
    refine ⟨?_, Chg.refl _ _⟩
    rw [Hsb.out]
    first | (simp [h80]; done) | (simp [h80]; omega)
 ·have h80I : ¬ (l.length : Int) ≤ 80 := by omega
  have hf : shortB l = false := by rw [Hsb.out, decide_eq_false h80, Bool.false_and]
  rw [hf]
  clear Hsb hf
  go_enter Tryz.func9, Tryz.ntmps9
  go_wp2_with fail
  go_loop [3, 4] (fun vn vi => ∃ (j : Nat) (n : Int), j ≤ l.length ∧ vi = .int .i64 (j : Nat) ∧ vn = .int .i64 n) (fun _ vi => l.length - (intOf vi).toNat)
  case atStart => exact ⟨0, 0, Nat.zero_le _, rfl, rfl⟩
  case round =>
   obtain ⟨j, n, hj, rfl, rfl⟩ := hrel
   by_cases hlt : j < l.length
   ·obtain ⟨b, off, rfl, hSb, hbw, hE⟩ := hcell (by omega)
    have e1 := hE j l[j] (List.getElem?_eq_getElem hlt)
    clear hE
    generalize l[j] = ej at e1
    have hltI : (j : Int) < (l.length : Int) := by omega
    go_wp2_with fail
    go_round
    case rel => exact ⟨j + 1, _, hlt, by go_num, rfl⟩
    case measure => simp [intOf]; omega
   ·have hltI : ¬ (j : Int) < (l.length : Int) := by omega
    go_wp2_with fail
    go_ret
    exact ⟨rfl, Chg.refl _ _⟩
theorem strs_chunksT (w : World) (S : Nat → Prop) : ∀ l : List ByteArray, ReadsC w S 1 (l.map strDt) (l.map Value.string)
 | [] => rfl
 | x :: l => ⟨[.string x], _, rfl, rfl, ⟨rfl, rfl⟩, strs_chunksT w S l⟩
theorem strs_newsT {w : World} {S : Nat → Prop} : ∀ {l : List ByteArray} {xs : List Value}, ReadsC w S 1 (l.map strDt) xs → xs = l.map Value.string
 | [], xs, h => h
 | x :: l, xs, h => by
  obtain ⟨c, r, rfl, _, h2, h3⟩ := h
  obtain ⟨rfl, _⟩ := (h2 : c = [.string x] ∧ _)
  rw [strs_newsT h3]; rfl
theorem texts_any (l : List ByteArray) (v : Value) (w : World) (S : Nat → Prop) (h : Reads w S (.list 1 (l.map strDt)) [v]) (hl : l.length * 16 ≤ 140737488355328) :
  Calls Tryz.prog 10 #[v] w fun e w' => ∃ v', e = .returned v' ∧ Own w' w.heap.size 9 1 (fun _ => False) v' (l.map strDt) ∧ Chg NoB w w' := by
 obtain ⟨a, c, news, rfl, hc1, hc2, hn, hcell, hnone⟩ := news_of h
 obtain rfl := strs_newsT hn
 have hlen : (l.map strDt).length = l.length := List.length_map ..
 go_enter Tryz.func10, Tryz.ntmps10
 go_wp2_with (at_builtin; refine stop_here ?_)
 refine Stop.go ?_
 refine wpList_own rfl (.tmp 4) (.tmp 5) 22 rfl w.heap.size 9 Tryz.underlying22 infoStr rfl (by decide) rfl (Own.nil w w.heap.size 9 1 (fun _ => False)) rfl (l.map strDt) _ rfl (strs_chunksT _ _ l) hcell hnone ?_ ?_ (Nat.le_refl _) ?_
 ·simp [maxLen]; omega
 ·simp; omega
 intro ao2 cap2 wB hoB hcB hatB
 simp only [List.length_nil, Nat.zero_add, List.nil_append] at hoB hcB hatB ⊢
 go_wp2_with fail
 go_ret
 rw [hlen] at hoB
 exact ⟨_, rfl, hoB, hcB.mono (fun _ _ e => by cases e)⟩
theorem many_cases {s : ByteArray} {k : Int} (h : manyF s = some k) : (k = 1 ∧ (s = bDrop ∨ s = bWiden ∨ s = bLoosen)) ∨ (k = 2 ∧ (s = bRename ∨ s = bMove)) := by
 unfold manyF at h
 split at h
 ·cases h; exact .inl ⟨rfl, .inl (by assumption)⟩
 split at h
 ·cases h; exact .inr ⟨rfl, .inl (by assumption)⟩
 split at h
 ·cases h; exact .inr ⟨rfl, .inr (by assumption)⟩
 split at h
 ·cases h; exact .inl ⟨rfl, .inr (.inl (by assumption))⟩
 split at h
 ·cases h; exact .inl ⟨rfl, .inr (.inr (by assumption))⟩
 cases h
theorem edit_any (B0 gb : Nat) (E : Er → Value) (N K : Value) (line : ByteArray) (l : List Nd) (nx m : Int) (F : List Nat) (w : World) (hG : EvG B0 E N K m w) (hl : line.size ≤ 10000) (hB : B0 ≤ gb) (hL : LogSt w B0 gb l nx F) (hn : (idsL l).Nodup) (hwe : Nd.weighs l ≤ 1000) (hnx : 0 ≤ nx ∧ nx ≤ 1000000) :
  Calls Tryz.prog 29 #[.pointer (some ⟨gb, 0, none⟩), .string line] w (RetEd B0 gb E N K (editW (wordsB line) l nx) F w) := by
 obtain ⟨w0, rest, hws⟩ : ∃ w0 rest, wordsB line = w0 :: rest := by
  cases h : wordsB line with
  | nil => have := words_len line; rw [h] at this; simp at this
  | cons a b => exact ⟨a, b, rfl⟩
 rw [hws]
 by_cases hadd : w0 = bAdd ∧ 2 ≤ rest.length
 ·obtain ⟨h0, h2⟩ := hadd
  match rest, h2, hws with
  | s1 :: x :: r, _, hws =>
   have he : editW (w0 :: s1 :: x :: r) l nx = addF s1 (mkB (joinW (x :: r))) l nx := by
    simp only [editW]
    rw [if_pos ⟨h0, by simp⟩]
   rw [he]
   exact edit_add B0 gb E N K line w0 s1 x r hws l nx m F w hG hl hB hL hn hwe hnx h0
  | [_], h2, _ => exact absurd h2 (by simp)
  | [], h2, _ => exact absurd h2 (by simp)
 have hna : w0 = bAdd → rest.length ≤ 1 := fun e => by
  have : ¬ 2 ≤ rest.length := fun h => hadd ⟨e, h⟩
  omega
 have hif : ∀ s1 r, rest = s1 :: r → ¬ (w0 = bAdd ∧ r ≠ []) := fun s1 r hr ⟨h1, h2⟩ => by
  have h3 := hna h1
  rw [hr, List.length_cons] at h3
  exact h2 (List.eq_nil_of_length_eq_zero (by omega))
 cases hm : manyF w0 with
 | none =>
  have he : editW (w0 :: rest) l nx = .bad (.er .text) := by
   cases rest with
   | nil => rfl
   | cons s1 r =>
    simp only [editW]
    rw [if_neg (hif s1 r rfl), hm]
  rw [he]
  exact edit_no B0 gb E N K line w0 rest hws l nx m F w hG hl hm hna
 | some k =>
  by_cases hlen : (rest.length : Int) = k
  ·rcases many_cases hm with ⟨rfl, hw⟩ | ⟨rfl, hw⟩
   ·match rest, hlen, hws, hif with
    | [s1], _, hws, hif =>
     cases hnum : numF s1.data.toList with
     | none =>
      have he : editW [w0, s1] l nx = .bad (.er .text) := by
       simp only [editW]
       rw [if_neg (hif s1 [] rfl), hm]
       dsimp only
       rw [if_neg (by simp), hnum]
      rw [he]
      exact edit_num1 B0 gb E N K line w0 s1 hws l nx m F w hG hl hm hnum
     | some id =>
      have hnm : w0 ≠ bMove := by rcases hw with rfl | rfl | rfl <;> decide +kernel
      have he : editW [w0, s1] l nx = opF w0 ⟨#[]⟩ id 0 l nx := by
       simp only [editW]
       rw [if_neg (hif s1 [] rfl), hm]
       dsimp only
       rw [if_neg (by simp), hnum]
       dsimp only
       rw [if_neg hnm]
       rfl
      rw [he]
      rcases hw with h | h | h
      ·exact edit_drop B0 gb E N K line w0 s1 hws l nx m F w hG hl hB hL hn h id hnum
      ·exact edit_widen B0 gb E N K line w0 s1 hws l nx m F w hG hl hB hL hn h id hnum
      ·exact edit_loosen B0 gb E N K line w0 s1 hws l nx m F w hG hl hB hL hn h id hnum
    | [], h, _, _ => exact absurd h (by simp)
    | _ :: _ :: _, h, _, _ => exact absurd h (by simp only [List.length_cons]; omega)
   ·match rest, hlen, hws, hif with
    | [s1, s2], _, hws, hif =>
     cases hnum : numF s1.data.toList with
     | none =>
      have he : editW [w0, s1, s2] l nx = .bad (.er .text) := by
       simp only [editW]
       rw [if_neg (hif s1 [s2] rfl), hm]
       dsimp only
       rw [if_neg (by simp), hnum]
      rw [he]
      exact edit_num2 B0 gb E N K line w0 s1 s2 hws l nx m F w hG hl hm hnum
     | some id =>
      rcases hw with h | h
      ·have hnm : w0 ≠ bMove := by rw [h]; decide +kernel
       have he : editW [w0, s1, s2] l nx = opF w0 s2 id 0 l nx := by
        simp only [editW]
        rw [if_neg (hif s1 [s2] rfl), hm]
        dsimp only
        rw [if_neg (by simp), hnum]
        dsimp only
        rw [if_neg hnm]
        rfl
       rw [he]
       exact edit_rename B0 gb E N K line w0 s1 s2 hws l nx m F w hG hl hB hL hn h id hnum
      ·cases hnum2 : numF s2.data.toList with
       | none =>
        have he : editW [w0, s1, s2] l nx = .bad (.er .text) := by
         simp only [editW]
         rw [if_neg (hif s1 [s2] rfl), hm]
         dsimp only
         rw [if_neg (by simp), hnum]
         dsimp only
         rw [if_pos h, hnum2]
        rw [he]
        exact edit_move_num B0 gb E N K line w0 s1 s2 hws l nx m F w hG hl h id hnum hnum2
       | some p =>
        have he : editW [w0, s1, s2] l nx = opF w0 s2 id p l nx := by
         simp only [editW]
         rw [if_neg (hif s1 [s2] rfl), hm]
         dsimp only
         rw [if_neg (by simp), hnum]
         dsimp only
         rw [if_pos h, hnum2]
        rw [he]
        exact edit_move B0 gb E N K line w0 s1 s2 hws l nx m F w hG hl hB hL hn hwe h id hnum p hnum2 (numF_pos hnum2)
    | [], h, _, _ => exact absurd h (by simp)
    | [_], h, _, _ => exact absurd h (by simp)
    | _ :: _ :: _ :: _, h, _, _ => exact absurd h (by simp only [List.length_cons]; omega)
  ·have he : editW (w0 :: rest) l nx = .bad (.er .text) := by
    cases rest with
    | nil => rfl
    | cons s1 r =>
     simp only [editW]
     rw [if_neg (hif s1 r rfl), hm]
     dsimp only
     rw [if_pos (by simp only [List.length_cons] at hlen ⊢; omega)]
   rw [he]
   exact edit_len B0 gb E N K line w0 rest hws l nx m F w hG hl k hm hlen
end Go.Proofs.YtgcmfpcgmkkobaaGreatDoor
