/-
  What shredcolref2.SchemaError tells of the list of all places.
-/
import Derived.Test.YtfbbfhhhfbibjaaGreatDoorRefName
import Derived.Test.YtfbbfhhhfbibjaaGreatDoorValid
namespace Go.Proofs.YtfbbfhhhfbibjaaGreatDoor
open Go.RowKit

def NameOk (L : List Pl) (i : Nat) (p : Pl) : Prop := isNameB p.n.name = true ∧ ∀ k q, 1 ≤ k → k < i → L[k]? = some q → ¬ (q.around = p.around ∧ q.n.name = p.n.name)
def IdOk (L : List Pl) (i : Nat) (p : Pl) : Prop := 1 ≤ p.n.id ∧ p.n.id ≤ 1000 ∧ ∀ k q, 1 ≤ k → k < i → L[k]? = some q → q.n.id ≠ p.n.id
/-- All from the second on are so. -/
def AllOk (L : List Pl) (F : Nat → Pl → Prop) : Prop := ∀ i p, 1 ≤ i → L[i]? = some p → F i p
def FitOk (_ : Nat) (p : Pl) : Prop := 1 ≤ p.n.rep ∧ p.n.rep ≤ 3 ∧ 0 ≤ p.n.kind ∧ p.n.kind ≤ 5 ∧ (p.n.kind = 0 ↔ p.n.sub.length ≠ 0)
/-- What SchemaError tells of the list of all places. -/
inductive ErrSpec (nd : Nd) (L : List Pl) : Int → Prop
  | many (h : 40 < L.length) : ErrSpec nd L 2
  | high (h : L.length ≤ 40) (p : Pl) (hp : p ∈ L) (h6 : 6 < p.deep) : ErrSpec nd L 2
  | root (h : L.length ≤ 40) (hd : ∀ p ∈ L, p.deep ≤ 6) (hr : rootB nd = false) : ErrSpec nd L 3
  | fit (h : L.length ≤ 40) (hd : ∀ p ∈ L, p.deep ≤ 6) (hr : rootB nd = true) (hf : ¬ AllOk L FitOk) : ErrSpec nd L 3
  | name (h : L.length ≤ 40) (hd : ∀ p ∈ L, p.deep ≤ 6) (hr : rootB nd = true) (hf : AllOk L FitOk) (hn : ¬ AllOk L (NameOk L)) : ErrSpec nd L 5
  | num (h : L.length ≤ 40) (hd : ∀ p ∈ L, p.deep ≤ 6) (hr : rootB nd = true) (hf : AllOk L FitOk) (hn : AllOk L (NameOk L)) (hi : ¬ AllOk L (IdOk L)) : ErrSpec nd L 5
  | ok (h : L.length ≤ 40) (hd : ∀ p ∈ L, p.deep ≤ 6) (hr : rootB nd = true) (hf : AllOk L FitOk) (hn : AllOk L (NameOk L)) (hi : AllOk L (IdOk L)) : ErrSpec nd L 0
end Go.Proofs.YtfbbfhhhfbibjaaGreatDoor
