/-
  A node of a schema as plain data, and as it reads in memory.
-/
import Derived.Test.YtfbbfhhhfbibjaaGreatDoorBase
namespace Go.Proofs.YtfbbfhhhfbibjaaGreatDoor
open Go.RowKit

/-- A node: ID, name, rep, kind, what is in it. -/
inductive Nd where
  | mk (id : Int) (name : ByteArray) (rep kind : Int) (sub : List Nd)

def Nd.id : Nd → Int | .mk i _ _ _ _ => i
def Nd.name : Nd → ByteArray | .mk _ n _ _ _ => n
def Nd.rep : Nd → Int | .mk _ _ r _ _ => r
def Nd.kind : Nd → Int | .mk _ _ _ k _ => k
def Nd.sub : Nd → List Nd | .mk _ _ _ _ s => s

mutual
def Nd.dt : Nd → Dt
  | .mk i n r k s => .agg [.lit (.int .i64 i), .lit (.string n), .lit (.int .i64 r), .lit (.int .i64 k), .list 5 (Nd.dts s)]
def Nd.dts : List Nd → List Dt
  | [] => []
  | n :: ns => n.dt :: Nd.dts ns
end
theorem Nd.dts_eq : ∀ l : List Nd, Nd.dts l = l.map Nd.dt
  | [] => rfl
  | n :: ns => by simp [Nd.dts, Nd.dts_eq ns]

theorem Nd.dts_append (a b : List Nd) : Nd.dts (a ++ b) = Nd.dts a ++ Nd.dts b := by simp [Nd.dts_eq]
/-- A number that fits 64 bits. -/
def I64 (n : Int) : Prop := -9223372036854775808 ≤ n ∧ n ≤ 9223372036854775807
/-- The form's own reach: what may lie in one piece. -/
def reach : Nat := 140737488351232

mutual
def Nd.ok : Nd → Prop
  | .mk i n r k s => I64 i ∧ n.size ≤ reach ∧ I64 r ∧ I64 k ∧ s.length * 64 ≤ reach ∧ Nd.oks s
def Nd.oks : List Nd → Prop
  | [] => True
  | n :: ns => n.ok ∧ Nd.oks ns
end
theorem Nd.oks_mem : ∀ {l : List Nd}, Nd.oks l → ∀ n ∈ l, n.ok
  | [], _, n, h => by cases h
  | x :: xs, h, n, hn => by
    rcases List.mem_cons.1 hn with rfl | hn
    · exact h.1
    · exact Nd.oks_mem h.2 n hn

mutual
def Nd.weigh : Nd → Nat
  | .mk _ _ _ _ s => 1 + Nd.weighs s
def Nd.weighs : List Nd → Nat
  | [] => 0
  | n :: ns => n.weigh + Nd.weighs ns
end
theorem Nd.weigh_mem : ∀ {l : List Nd} {n : Nd}, n ∈ l → n.weigh ≤ Nd.weighs l
  | [], n, h => by cases h
  | x :: xs, n, h => by
    rcases List.mem_cons.1 h with rfl | h
    · simp [Nd.weighs]
    · have := Nd.weigh_mem h
      simp [Nd.weighs]; omega

/-- A node's cells, with the value of its slice. -/
def ndCells (i : Int) (n : ByteArray) (r k : Int) (s : Value) : List Value := [.int .i64 i, .string n, .int .i64 r, .int .i64 k, s]

theorem reads_nd {w : World} {S : Nat → Prop} {i : Int} {n : ByteArray} {r k : Int} {s : List Nd} {cs : List Value} :
    Reads w S (Nd.dt (.mk i n r k s)) cs ↔ ∃ v, cs = [.int .i64 i, .string n, .int .i64 r, .int .i64 k, v] ∧ Reads w S (.list 5 (Nd.dts s)) [v] := by
  simp only [Nd.dt, Reads, ReadsF]
  constructor
  · rintro ⟨c0, r0, rfl, ⟨rfl, _⟩, c1, r1, rfl, ⟨rfl, _⟩, c2, r2, rfl, ⟨rfl, _⟩, c3, r3, rfl, ⟨rfl, _⟩, c4, r4, rfl, ⟨a, cap, rfl, h⟩, rfl⟩
    exact ⟨_, rfl, a, cap, rfl, h⟩
  · rintro ⟨v, rfl, a, cap, h0, h⟩
    exact ⟨[_], _, rfl, ⟨rfl, rfl⟩, [_], _, rfl, ⟨rfl, rfl⟩, [_], _, rfl, ⟨rfl, rfl⟩, [_], _, rfl, ⟨rfl, rfl⟩, [v], [], rfl, ⟨a, cap, h0, h⟩, rfl⟩

theorem Nd.width {w : World} {S : Nat → Prop} {n : Nd} {cs : List Value} (h : Reads w S n.dt cs) : cs.length = 5 := by
  cases n
  obtain ⟨v, rfl, _⟩ := reads_nd.1 h
  rfl

theorem reads_list {w : World} {S : Nat → Prop} {k : Nat} {l : List Dt} {v : Value} (h : Reads w S (.list k l) [v]) :
    ∃ a cap, v = .slice a l.length cap ∧ l.length ≤ cap ∧ cap ≤ maxLen ∧ (l.length ≠ 0 → ∃ b off, a = some ⟨b, off, none⟩ ∧ S b ∧ b < w.heap.size ∧ ReadsE w S k b off l) := by
  obtain ⟨a, cap, h0, h1, h2, h3⟩ := h
  refine ⟨a, cap, by simpa using h0, h1, h2, fun hne => ?_⟩
  rcases h3 with ⟨rfl, _⟩ | h3
  · exact absurd rfl hne
  · exact h3
theorem reads_subs {w : World} {S : Nat → Prop} {s : List Nd} {v : Value} (h : Reads w S (.list 5 (Nd.dts s)) [v]) :
    ∃ a cap, v = .slice a s.length cap ∧ s.length ≤ cap ∧ cap ≤ maxLen ∧ (s.length ≠ 0 → ∃ b off, a = some ⟨b, off, none⟩ ∧ S b ∧ b < w.heap.size ∧ ReadsE w S 5 b off (s.map Nd.dt)) := by
  obtain ⟨a, cap, h1, h2, h3, h4⟩ := reads_list h
  simp only [Nd.dts_eq, List.length_map] at h1 h2 h4
  exact ⟨a, cap, h1, h2, h3, h4⟩
end Go.Proofs.YtfbbfhhhfbibjaaGreatDoor
