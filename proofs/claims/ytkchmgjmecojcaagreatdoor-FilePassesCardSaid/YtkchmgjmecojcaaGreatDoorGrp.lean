/-
  The leaves that the document tells of a right schema are those of the program. Plain.
-/
import Derived.Test.YtkchmgjmecojcaaGreatDoorLeafLaw
import Derived.Test.YtkchmgjmecojcaaGreatDoorProj
set_option linter.unusedVariables false
set_option linter.unusedSimpArgs false
namespace Go.Proofs.YtkchmgjmecojcaaGreatDoor
open Go.RowKit
mutual
theorem all_impN {P Q : Nd → Prop} (h : ∀ n, P n → Q n) : ∀ n : Nd, n.All P → n.All Q
 | .mk i nm r k s, hn => ⟨h _ hn.1, alls_impN h s hn.2⟩
theorem alls_impN {P Q : Nd → Prop} (h : ∀ n, P n → Q n) : ∀ l : List Nd, Nd.Alls P l → Nd.Alls Q l
 | [], _ => trivial
 | n :: ns, hl => ⟨all_impN h n hl.1, alls_impN h ns hl.2⟩
end
theorem grp_ofV {nd : Nd} (hv : validF nd = none) : Nd.Alls Grp nd.sub := by
 have hF := fit_of hv
 refine alls_impN (fun n hn => ?_) nd.sub hF.nodes
 obtain ⟨i, nm, r, k, s⟩ := n
 simp only [v3F, Nd.rep, Nd.kind, Nd.sub, Bool.and_eq_true, beq_iff_eq] at hn
 have h5 := hn.2
 show k = 0 ↔ s ≠ []
 constructor
 ·rintro rfl rfl
  simp at h5
 ·intro hne
  cases s with
  | nil => exact absurd rfl hne
  | cons a b =>
   simp only [List.isEmpty_cons, Bool.not_eq_false', decide_eq_true_eq] at h5
   exact of_decide_eq_true h5
theorem leavesRef_eq {nd : Nd} (hv : validF nd = none) : leavesRef nd = leavesOf nd := leavesRef_law (grp_ofV hv)
end Go.Proofs.YtkchmgjmecojcaaGreatDoor
