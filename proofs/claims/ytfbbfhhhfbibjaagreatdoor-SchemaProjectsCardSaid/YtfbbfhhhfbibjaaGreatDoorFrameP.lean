/-
  SchemaProjects: the row and the card.
-/
import Derived.Test.YtfbbfhhhfbibjaaGreatDoorCards
import Derived.Test.YtfbbfhhhfbibjaaGreatDoorTie
import Derived.Test.YtfbbfhhhfbibjaaGreatDoorProjects
import Derived.Test.YtfbbfhhhfbibjaaGreatDoorPackI
import Derived.Test.YtfbbfhhhfbibjaaGreatDoorPackA
import Derived.ProofKit
import Derived.OpenShut
import Derived.Lay
import Derived.ChangeMaps5
import Derived.SliceStrings
import Derived.Deep.DeepHandedRow
set_option linter.unusedVariables false
set_option linter.unusedSimpArgs false
namespace Go.Proofs.YtfbbfhhhfbibjaaGreatDoor
open Go.ChangeShapes Go.WideShapes Go.ChangeAt Go.RowKit

theorem own : ownKnob Tryz.prog.godebug = none := by kernel_rfl
theorem laidOut : laidOutB Tryz.prog = true := by kernel_rfl
theorem nodeRec : Tryz.prog.readableRec 24 = true := by kernel_rfl
theorem nodeRow : 24 < Tryz.prog.types.size := of_decide_eq_true (by kernel_rfl)
theorem intsRec : Tryz.prog.readableRec 51 = true := by kernel_rfl
theorem intsRow : 51 < Tryz.prog.types.size := of_decide_eq_true (by kernel_rfl)

section
variable {H : Type} {enc : TypeId × Value → H} {P : Program}
/-- Behind a call that only builds: what was handed in reads as it did. -/
theorem post_of_below {f : Func} {s : ChangeSpec} {apart fresh handsOn again : Bool} {W W' : World} {args : Array Value} {v : Value} {ds gs : List (DataW H)} {before : List MemPlace}
    (hW : DataW.Whole enc P f.params.toList s.vars apart W args.toList ds gs before)
    (hres : ∀ (b : Nat) (sp : Nat → Bool) (hd : Bool), DataW.TrodAll enc P W' b sp hd f.resultTypes.toList (v.resultList f.resultTypes.size) (s.fn H (ds ++ gs)).results [])
    (hargs : ∀ sp : Nat → Bool, (∀ p ∈ before, sp p.block = true) → DataW.TrodAll enc P W' 0 sp true f.params.toList args.toList (s.fn H (ds ++ gs)).args before)
    (hvars : ∀ sp : Nat → Bool, (∀ p ∈ before, sp p.block = true) → DataW.TrodVars enc P W' sp s.vars (s.fn H (ds ++ gs)).vars [])
    (hb : Below W.heap.size W W')
    (hok : ∀ (j : Nat) (t : TypeId) (r : Value), f.resultTypes[j]? = some t → (v.resultList f.resultTypes.size)[j]? = some r → Value.okWide P W' .any 0 t r) :
    s.post enc P f apart fresh handsOn again W args v W' := by
  have hlt : ∀ p ∈ before, p.block < W.heap.size := fun p hp => hW.lt p hp
  have hold : ∀ p ∈ before, (fun b => decide (b < W.heap.size)) p.block = true := fun p hp => by simpa using hlt p hp
  refine ⟨ds, gs, before, [], before, [], hW, hres _ _ _, hargs _ hold, hvars _ hold, hb.frame _, fun _ => ?_⟩
  obtain ⟨_, _, _, _, _, hz, hn⟩ := hW
  refine ⟨hok, _, _, ([] ++ before) ++ [], ⟨[] ++ before, [], trodAll_append (hargs _ (fun _ _ => rfl)) (hres _ _ _), hvars _ (fun _ _ => rfl), rfl, ?_, ?_⟩, ?_⟩
  · intro b off hp
    have hp' : MemPlace.cell b off ∈ before := by simpa using hp
    rw [hb.frozen (p := ⟨b, off, none⟩) (hlt _ hp')]
    exact hz b off hp'
  · intro ha
    have := hn ha
    simpa using this
  · intro p hp _
    simpa using hp
end

/-- The slice of ints as it was handed in. -/
theorem open_ints {H : Type} {enc : TypeId × Value → H} {W : World} {n : Nat} {v : Value} {x : DataW H × List MemPlace} (h : DataW.trod enc Tryz.prog W 0 (fun _ => true) true n 51 v.cells.toList = some x) :
    ∃ ids : List Int, Reads W (fun b => b < W.heap.size) (.list 1 (ids.map intDt)) v.cells.toList := by
  rcases DataW.trod_slice Tryz.underlying51 h with ⟨e4, rfl⟩ | ⟨a, len, cap, elems, rest, n2, rfl, e4, rfl, hb, hlc, hm, hlen, hel, hsp, _⟩
  · rw [e4]
    exact ⟨[], none, 0, rfl, Nat.le_refl _, Nat.zero_le _, .inl ⟨rfl, fun _ => rfl⟩⟩
  · rw [e4]
    have hall : ∀ j, j < len → ∃ z : Int, ∃ cs', cs'.length = 1 ∧ (∀ t c, cs'[t]? = some c → W.cell? ((a.add (j * 1)).add t) = some c) ∧ cs' = [.int .i64 z] := by
      intro j hj
      have h1 := hel j hj
      rw [intCells] at h1
      rw [List.getElem?_eq_getElem (by omega), Option.bind_eq_some_iff] at h1
      obtain ⟨cs', h2, h3⟩ := h1
      obtain ⟨h4, h5⟩ := cells_of h2
      obtain ⟨z, e0, _, _⟩ := DataW.trod_int Tryz.underlying3 h3
      exact ⟨z, cs', h4, h5, e0⟩
    obtain ⟨l, hll, hl2⟩ := choose_list len hall
    refine ⟨l, some a, cap, by rw [List.length_map, hll], by rw [List.length_map, hll]; exact hlc, hm, ?_⟩
    by_cases h0 : len = 0
    · have : l = [] := List.eq_nil_of_length_eq_zero (by omega)
      subst this
      exact .inl ⟨rfl, fun e => by cases e⟩
    · obtain ⟨z0, cs0, hc1, hc2, _⟩ := hall 0 (by omega)
      have hcell := hc2 0 (cs0[0]) (List.getElem?_eq_getElem (by omega))
      obtain ⟨b, off, spot⟩ := a
      have hspot : spot = none := by simpa [Addr.add] using World.cell?_spot hcell
      subst hspot
      refine .inr ⟨b, off, rfl, ?_, ?_, ?_⟩
      · have := lt_of_cell' hcell; simpa [Addr.add] using this
      · have := lt_of_cell' hcell; simpa [Addr.add] using this
      · refine readsE_of _ _ fun j d hd => ?_
        rw [List.getElem?_map] at hd
        obtain ⟨z, h1, rfl⟩ := Option.map_eq_some_iff.1 hd
        obtain ⟨cs', h4, h5, h6⟩ := hl2 j z h1
        subst h6
        refine ⟨_, h4, fun t c ht => ?_, rfl, rfl⟩
        have := h5 t c ht
        rwa [add_none, add_none] at this

set_option maxRecDepth 100000 in
theorem contract (H : Type) (enc : TypeId × Value → H) (W : World) (base : Nat) (args : Array Value) (ds gs : List (DataW H)) (before : List MemPlace)
    (hval : ∀ (j : Nat) t v, Tryz.f7.params[j]? = some t → args[j]? = some v → Value.okWide Tryz.prog W .any base t v)
    (hW : DataW.Whole enc Tryz.prog Tryz.f7.params.toList Rows.schemaProjectsSpec.vars false W args.toList ds gs before)
    (ts : List TypeId) (hwt : (DataW.weightsEach Tryz.prog (Tryz.f7.params.toList ++ ts) (ds ++ gs)).all (· ≤ reachBytes) = true) (hL : laidMetH Tryz.prog Rows.schemaProjectsRow.laid W) :
    Calls Tryz.prog 7 args W fun e W' => ∃ v, e = .returned v ∧ Rows.schemaProjectsSpec.post enc Tryz.prog Tryz.f7 false true false false W args v W' := by
  have hW' := hW
  obtain ⟨p, q, hA0, hV, rfl, hfz, hnd⟩ := hW
  have hA : DataW.TrodAll enc Tryz.prog W 0 (fun _ => true) true Tryz.f7.params.toList args.toList ds p := hA0
  rw [Tryz.params7] at hA hval
  obtain ⟨v0, vs0, d0, ds0, p0, q0, hargs0, rfl, rfl, h0, r0⟩ := trodAll_cons hA
  obtain ⟨v1, vs1, d1, ds1, p1, q1, hargs1, rfl, rfl, h1, r1⟩ := trodAll_cons r0
  obtain ⟨rfl, rfl, rfl⟩ := trodAll_nil r1
  obtain rfl : args = #[v0, v1] := by cases args; simp_all
  obtain ⟨rfl, rfl⟩ := trodVars_none hV
  rw [Tryz.params7] at hwt
  have hv0 := hval 0 24 v0 rfl rfl
  simp only [Value.okWide, Tryz.underlying24] at hv0
  obtain ⟨cs_0, rfl, _, _⟩ := hv0
  have g0 := h0
  obtain ⟨n0, hn0⟩ := g0
  have hw0 : (d0.weights Tryz.prog 24).all (· ≤ reachBytes) = true := by
    have hx := hwt
    simp only [List.cons_append, List.nil_append, DataW.weightsEach, List.all_append, Bool.and_eq_true, List.append_nil] at hx
    exact hx.1
  obtain ⟨nd_0, hr_0, hok_0⟩ := open_nd n0 cs_0.toList (d0, p0) hn0 hw0
  have hv1 := hval 1 51 v1 rfl rfl
  have g1 := h1
  obtain ⟨n1, hn1⟩ := g1
  obtain ⟨ids_1, hi1⟩ := open_ints hn1
  have hi_1 : Reads W (fun b => b < W.heap.size) (.list 1 (ids_1.map intDt)) [v1] := by
    simp only [Value.okWide, Tryz.underlying51] at hv1
    cases v1 <;> first
      | exact hi1
      | (simp only [Cell.okWide, Tryz.underlying51] at hv1; first | exact hv1.elim | cases hv1)
  obtain ⟨A, E, N, hG, hN, hA⟩ := all_of hL
  have walk := projects_any nd_0 ids_1 v1 W _ _ cs_0.toList A E N hG hN hA hok_0 hr_0 (fun b h => h) hi_1
  simp only [List.append_nil, List.nil_append] at hW'
  refine walk.mono fun e W' ⟨he, hc⟩ => ?_
  subst he
  have hb := hc.toBelow
  exact ⟨_, rfl, post_of_below hW' (fun _ _ _ => trodAll_cons_mk (shut_bool Tryz.underlying4 _) trodAll_mk0)
    (fun sp hsp => by
      have t1 := trodAll_cons_mk (WideElems.Trod_stays (sp' := sp) laidOut intsRec intsRow h1 (fun x hx => hb.same (hW'.lt x (by simp [hx]))) (fun x hx => hsp x (by simp [hx]))) (trodAll_mk0 (spare := sp))
      have t0 := trodAll_cons_mk (WideElems.Trod_stays (sp' := sp) laidOut nodeRec nodeRow h0 (fun x hx => hb.same (hW'.lt x (by simp [hx]))) (fun x hx => hsp x (by simp [hx]))) t1
      simp only [List.append_nil, List.nil_append] at t0
      exact t0)
    (fun _ _ => rfl) hb (ok_one (by kernel_rfl) rfl (okWide_bool_mk Tryz.underlying4 _))⟩

def zeroArg : Value := .agg #[.int .i64 0, .string ⟨#[]⟩, .int .i64 0, .int .i64 0, .slice none 0 0]
theorem reads (os : Os) {H : Type} (enc : TypeId × Value → H) : ∃ places, DataW.whole enc Tryz.prog ((laidWorld os).forCall (fun _ _ => 0) ⟨#[], #[zeroArg, .slice none 0 0], []⟩).memory Tryz.f7.params.toList Rows.schemaProjectsSpec.vars false (#[zeroArg, .slice none 0 0] : Array Value).toList 8 =
    some ([.agg [.lit (.int .i64 0), .lit (.string []), .lit (.int .i64 0), .lit (.int .i64 0), .nil], .nil], [], places) :=
  ⟨[], by kernel_rfl⟩

set_option maxRecDepth 100000 in
theorem lifted (os : Os) (started : os.Started) (H : Type) (enc : TypeId × Value → H) (F : Stop.Interp) :
    ReturnsInHanded {} Tryz.checked os 7 .any ((OpenSpec.ofChange Rows.schemaProjectsSpec).preRow enc Tryz.prog Tryz.f7 Rows.schemaProjectsRow.domain false Rows.schemaProjectsRow.laid) (((OpenSpec.ofChange Rows.schemaProjectsSpec).at F).post enc Tryz.prog Tryz.f7 false true false false) := by
  obtain ⟨places, hx⟩ := reads os enc
  refine returnsInHanded_of_row (C := Tryz.checked) (s := OpenSpec.ofChange Rows.schemaProjectsSpec) own started (by kernel_rfl) Tryz.func7
    (witness_row_at (enc := enc) (C := Tryz.checked) false (laidWorld os) #[zeroArg, .slice none 0 0] (laidWorld_os os) (by kernel_rfl) (by kernel_rfl) (by kernel_rfl)
      (OpenSpec.preRow_of_cond 8 hx (by kernel_rfl) (fun k hk => by cases hk) (by kernel_rfl) (laidWorld_met os _))) ?_
  intro W base args ds gs before hval hW _ _ hwt hL _ _
  exact contract H enc W base args ds gs before hval hW _ hwt hL

theorem said : Rows.SchemaProjectsSaid :=
  OpenClaim.holds_of_cond 7 Tryz.f7 rfl rfl rfl rfl rfl rfl rfl ⟨rfl, rfl, rfl, rfl, rfl⟩ rfl rfl rfl rfl rfl (by kernel_rfl) Tryz.func7 (by kernel_rfl)
    (of_decide_eq_true (by kernel_rfl)) (by unfold Func.isWrapper; first | (rw [if_pos (by decide +kernel)]; kernel_rfl) | (rw [if_neg (by decide +kernel)]; exact ⟨rfl, rfl⟩))
    (fun os started H enc _ F => by rw [OpenClaim.pre_eq_preRow]; exact lifted os started H enc F)

theorem plain (f : FuncId) (fn : Func) (hf : Tryz.pinned.checked.prog.funcNamed "shredcol/shredcollaw2.SchemaProjects" = some f) (hfn : Tryz.pinned.checked.prog.funcs[f]? = some fn) :
    true = Tryz.pinned.checked.prog.looks [] ∧ ∀ (j : Nat) t, fn.params[j]? = some t → Tryz.pinned.checked.prog.wantsStandIn t = false := by
  obtain rfl : f = 7 := Option.some.inj ((show Tryz.prog.funcNamed "shredcol/shredcollaw2.SchemaProjects" = some 7 by kernel_rfl).symm.trans hf) |>.symm
  obtain rfl : fn = Tryz.f7 := (Option.some.inj (Tryz.func7.symm.trans hfn)).symm
  refine ⟨by kernel_rfl, fun j t ht => ?_⟩
  rw [Tryz.params7] at ht
  have ht2 : t = 24 ∨ t = 51 := by simpa using Array.mem_of_getElem? ht
  rcases ht2 with rfl | rfl
  · exact (show Tryz.prog.wantsStandIn 24 = false by kernel_rfl)
  · exact (show Tryz.prog.wantsStandIn 51 = false by kernel_rfl)

theorem schemaProjects_card : Rows.SchemaProjectsCardSaid :=
  Claim7.holds_tied_plain_at .later [] _ _ _ _ said (fun _ h => by cases h) (by kernel_rfl) (fun _ h => by cases h) schemaProjects_row_tie rfl ⟨rfl, rfl⟩ (by kernel_rfl) rfl plain (by kernel_rfl)
end Go.Proofs.YtfbbfhhhfbibjaaGreatDoor
#print axioms Go.Proofs.YtfbbfhhhfbibjaaGreatDoor.schemaProjects_card
