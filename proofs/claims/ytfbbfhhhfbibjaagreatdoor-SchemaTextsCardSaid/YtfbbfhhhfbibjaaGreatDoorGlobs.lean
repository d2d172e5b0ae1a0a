/-
  What the row's list gives: the package's variables.
-/
import Derived.Test.YtfbbfhhhfbibjaaGreatDoorFault
import Derived.OpenShut
import Derived.LaidLaws
namespace Go.Proofs.YtfbbfhhhfbibjaaGreatDoor
open Go.RowKit

theorem laid_get {P : Program} {W : World} {n : String} {d : DataW Unit} : ∀ {l : List (String × DataW Unit)} {ps : List MemPlace}, DataW.LaidVars P W l ps → (n, d) ∈ l →
    ∃ g t cs fuel p, P.globalNamed n = some g ∧ (P.globals[g]?).map (·.type) = some t ∧ W.var? P n = some cs ∧ DataW.trod (fun _ => ()) P W 0 (fun _ => true) false fuel t cs.toList = some (d, p)
  | [], _, _, h => by cases h
  | (n', d') :: r, ps, hl, h => by
    obtain ⟨g, t, cs, fuel, p, q, h1, h2, h3, h4, h5, _⟩ := hl
    rcases List.mem_cons.1 h with h | h
    · obtain ⟨rfl, rfl⟩ := Prod.mk.inj h
      exact ⟨g, t, cs, fuel, p, h1, h2, h3, h4⟩
    · exact laid_get h5 h
theorem laid_iface {P : Program} {W : World} {n nm : String} {d : DataW Unit} {l : List (String × DataW Unit)} {ps : List MemPlace} {g t : Nat} {ms : Array (String × TypeId)} (hL : DataW.LaidVars P W l ps) (hm : (n, .iface nm d) ∈ l)
    (hg : P.globalNamed n = some g) (hty : (P.globals[g]?).map (·.type) = some t) (ht : P.underlying t = some (.interface ms)) : ∃ T v, W.cell? ⟨g, 0, none⟩ = some (.iface T v) := by
  obtain ⟨g', t', cs, fuel, p, h1, h2, h3, h4⟩ := laid_get hL hm
  obtain rfl := Option.some.inj (hg.symm.trans h1)
  obtain rfl := Option.some.inj (hty.symm.trans h2)
  obtain ⟨_, u, v, h5, _, _⟩ := iface_of_trod ht h4
  refine ⟨u, v, ?_⟩
  rw [World.var?_cell hg h3, ← Array.getElem?_toList, h5]
  rfl
theorem strs_of {H : Type} {enc : TypeId × Value → H} {P : Program} {W : World} {base : Nat} {sp : Nat → Bool} {held : Bool} {fuel : Nat} {t e : TypeId} {n : Nat} {cs : List Value} {l : List (List UInt8)} {p : List MemPlace}
    (ht : P.underlying t = some (.array n e)) (he : P.underlying e = some TypeDesc.string) (hce : P.cellsOf e = 1) (h : DataW.trod enc P W base sp held fuel t cs = some (DataW.agg (l.map fun b => DataW.lit (Lit.string b)), p)) :
    ∀ (i : Nat) (b : List UInt8), l[i]? = some b → cs[i]? = some (.string ⟨b.toArray⟩) := by
  obtain ⟨xs, m, _, hx, hcl, hxl, hi⟩ := DataW.trod_array ht h
  intro i b hb
  have hx1 : (l.map fun b => (DataW.lit (Lit.string b) : DataW H)) = xs.map (fun z => z.1) := by
    have := congrArg Prod.fst hx
    simpa using this
  have hll : l.length = xs.length := by simpa using congrArg List.length hx1
  have hil : i < l.length := (List.getElem?_eq_some_iff.1 hb).1
  have h1 := congrArg (fun z => z[i]?) hx1
  simp only [List.getElem?_map, hb, Option.map_some] at h1
  rw [List.getElem?_eq_getElem (by omega)] at h1
  simp only [Option.map_some, Option.some.injEq] at h1
  have h2 := hi i (by omega)
  rw [hce, Nat.mul_one, List.getElem?_eq_getElem (by omega)] at h2
  obtain ⟨s, h3, h4, _⟩ := DataW.trod_string he h2
  rw [h4] at h1
  simp only [DataW.lit.injEq, Lit.string.injEq] at h1
  have h5 : cs[i]? = some (.string s) := by
    have := congrArg (fun z => z[0]?) h3
    simpa using this
  rw [h5, h1]
theorem laid_strs {P : Program} {W : World} {nm : String} {l : List (List UInt8)} {lv : List (String × DataW Unit)} {ps : List MemPlace} {g t e n : Nat} (hL : DataW.LaidVars P W lv ps) (hm : (nm, DataW.agg (l.map fun b => DataW.lit (Lit.string b))) ∈ lv)
    (hg : P.globalNamed nm = some g) (hty : (P.globals[g]?).map (·.type) = some t) (ht : P.underlying t = some (.array n e)) (he : P.underlying e = some TypeDesc.string) (hce : P.cellsOf e = 1) :
    ∀ (i : Nat) (b : List UInt8), l[i]? = some b → W.cell? ⟨g, i, none⟩ = some (.string ⟨b.toArray⟩) := by
  obtain ⟨g', t', cs, fuel, p, h1, h2, h3, h4⟩ := laid_get hL hm
  obtain rfl := Option.some.inj (hg.symm.trans h1)
  obtain rfl := Option.some.inj (hty.symm.trans h2)
  intro i b hb
  rw [World.var?_cell hg h3, ← Array.getElem?_toList]
  exact strs_of ht he hce h4 i b hb
theorem laid_tab {P : Program} {W : World} {nm : String} {k : IntKind} {zs : List Int} {lv : List (String × DataW Unit)} {ps : List MemPlace} {g t e n : Nat} (hL : DataW.LaidVars P W lv ps) (hm : (nm, Lib.tabData k zs) ∈ lv)
    (hg : P.globalNamed nm = some g) (hty : (P.globals[g]?).map (·.type) = some t) (ht : P.underlying t = some (.array n e)) (he : P.underlying e = some (.int k)) (hce : P.cellsOf e = 1) (hct : P.cellsOf t = n) : Lib.TabIs P W nm k zs := by
  obtain ⟨g', t', cs, fuel, p, h1, h2, h3, h4⟩ := laid_get hL hm
  obtain rfl := Option.some.inj (hg.symm.trans h1)
  obtain rfl := Option.some.inj (hty.symm.trans h2)
  unfold Lib.TabIs
  rw [h3, ← Lib.cells_of_tab ht he hce hct h4]

theorem gB : Tryz.prog.globalNamed "shredcol/api.ErrBound" = some 2 := by kernel_rfl
theorem gT : Tryz.prog.globalNamed "shredcol/api.ErrText" = some 5 := by kernel_rfl
theorem gS : Tryz.prog.globalNamed "shredcol/api.ErrShape" = some 3 := by kernel_rfl
theorem gN : Tryz.prog.globalNamed "shredcol/api.ErrName" = some 4 := by kernel_rfl
theorem gY : Tryz.prog.globalNamed "strconv.ErrSyntax" = some 12 := by kernel_rfl
theorem gR : Tryz.prog.globalNamed "strconv.ErrRange" = some 13 := by kernel_rfl
theorem gReps : Tryz.prog.globalNamed "shredcol/schema.reps" = some 0 := by kernel_rfl
theorem gKinds : Tryz.prog.globalNamed "shredcol/schema.kinds" = some 1 := by kernel_rfl

def errText (l : List UInt8) : DataW Unit := .iface "*errors.errorString" (.ptr (.agg [.lit (.string l)]))
def repsD : DataW Unit := .agg [.lit (.string []), .lit (.string [114, 101, 113, 117, 105, 114, 101, 100]), .lit (.string [111, 112, 116, 105, 111, 110, 97, 108]), .lit (.string [114, 101, 112, 101, 97, 116, 101, 100])]
def kindsD : DataW Unit := .agg [.lit (.string [103, 114, 111, 117, 112]), .lit (.string [98, 111, 111, 108]), .lit (.string [105, 110, 116]), .lit (.string [108, 111, 110, 103]), .lit (.string [98, 121, 116, 101, 115]), .lit (.string [100, 111, 117, 98, 108, 101])]
/-- What the list must hold. -/
structure Lists (lv : List (String × DataW Unit)) : Prop where
  b : ∃ l, ("shredcol/api.ErrBound", errText l) ∈ lv
  t : ∃ l, ("shredcol/api.ErrText", errText l) ∈ lv
  s : ∃ l, ("shredcol/api.ErrShape", errText l) ∈ lv
  n : ∃ l, ("shredcol/api.ErrName", errText l) ∈ lv
  y : ∃ l, ("strconv.ErrSyntax", errText l) ∈ lv
  r : ∃ l, ("strconv.ErrRange", errText l) ∈ lv
  reps : ("shredcol/schema.reps", repsD) ∈ lv
  kinds : ("shredcol/schema.kinds", kindsD) ∈ lv
  pow : ("internal/strconv.uint64pow10", Lib.tabData .u64 Lib.pow10Tab) ∈ lv
theorem glo_of {lv : List (String × DataW Unit)} {W : World} (hlv : Lists lv) (hL : laidMet Tryz.prog lv W) : ∃ E, Glo W.heap.size E W := by
  obtain ⟨ps, hV, _⟩ := hL
  obtain ⟨_, m1⟩ := hlv.b
  obtain ⟨_, m2⟩ := hlv.t
  obtain ⟨_, m3⟩ := hlv.s
  obtain ⟨_, m4⟩ := hlv.n
  obtain ⟨_, m5⟩ := hlv.y
  obtain ⟨_, m6⟩ := hlv.r
  obtain ⟨T1, v1, c1⟩ := laid_iface hV m1 gB (by kernel_rfl) Tryz.underlying29
  obtain ⟨T2, v2, c2⟩ := laid_iface hV m2 gT (by kernel_rfl) Tryz.underlying29
  obtain ⟨T3, v3, c3⟩ := laid_iface hV m3 gS (by kernel_rfl) Tryz.underlying29
  obtain ⟨T4, v4, c4⟩ := laid_iface hV m4 gN (by kernel_rfl) Tryz.underlying29
  obtain ⟨T5, v5, c5⟩ := laid_iface hV m5 gY (by kernel_rfl) Tryz.underlying29
  obtain ⟨T6, v6, c6⟩ := laid_iface hV m6 gR (by kernel_rfl) Tryz.underlying29
  have hreps := laid_strs (l := [[], [114, 101, 113, 117, 105, 114, 101, 100], [111, 112, 116, 105, 111, 110, 97, 108], [114, 101, 112, 101, 97, 116, 101, 100]]) (e := 9) hV hlv.reps gReps (by kernel_rfl) Tryz.underlying80 Tryz.underlying9 (by kernel_rfl)
  have hkinds := laid_strs (l := [[103, 114, 111, 117, 112], [98, 111, 111, 108], [105, 110, 116], [108, 111, 110, 103], [98, 121, 116, 101, 115], [100, 111, 117, 98, 108, 101]]) (e := 9) hV hlv.kinds gKinds (by kernel_rfl) Tryz.underlying81 Tryz.underlying9 (by kernel_rfl)
  have hpow : Lib.TabIs Tryz.prog W "internal/strconv.uint64pow10" .u64 Lib.pow10Tab := laid_tab hV hlv.pow pow_at (t := 184) (e := 152) (by kernel_rfl) Tryz.underlying184 Tryz.underlying152 (by kernel_rfl) (by kernel_rfl)
  have l1 := lt_of_cell c1
  have l2 := lt_of_cell c2
  have l3 := lt_of_cell c3
  have l4 := lt_of_cell c4
  have l5 := lt_of_cell c5
  have l6 := lt_of_cell c6
  have l7 := lt_of_cell (hreps 0 _ rfl)
  have l8 := lt_of_cell (hkinds 0 _ rfl)
  have l9 : 11 < W.heap.size := by
    have h1 := hpow.cell pow_at 0 (by decide)
    exact lt_of_cell h1
  refine ⟨fun e => match e with | .bound => .iface T1 v1 | .text => .iface T2 v2 | .shape => .iface T3 v3 | .name => .iface T4 v4, ⟨fun e => ?_, fun e => ?_⟩, ⟨⟨l7, l8, l9⟩, fun i s hi => ?_, fun i s hi => ?_, hpow⟩, ⟨T5, v5, c5⟩, ⟨T6, v6, c6⟩, ⟨fun e => ?_, l5, l6⟩⟩
  · cases e
    · exact c1
    · exact c2
    · exact c3
    · exact c4
  · cases e
    · exact ⟨_, _, rfl⟩
    · exact ⟨_, _, rfl⟩
    · exact ⟨_, _, rfl⟩
    · exact ⟨_, _, rfl⟩
  · have := hreps i s.data.toList (by
      have h1 := congrArg (fun z => z.map (fun x : ByteArray => x.data.toList)) hi
      rw [← List.getElem?_map] at h1
      exact h1)
    rw [this]
  · have := hkinds i s.data.toList (by
      have h1 := congrArg (fun z => z.map (fun x : ByteArray => x.data.toList)) hi
      rw [← List.getElem?_map] at h1
      exact h1)
    rw [this]
  · cases e
    · exact l1
    · exact l2
    · exact l3
    · exact l4
end Go.Proofs.YtfbbfhhhfbibjaaGreatDoor
