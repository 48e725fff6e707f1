/- The document's base64, bit by bit, by plain lists: it is the program's. -/
import Derived.Test.YtbioclpobmgikaaC6
namespace Go.Proofs.Ytbioclpobmgikaa
open Go.RowKit

def bitsOf (x : UInt8) : List Nat := (List.range 8).map fun r => x.toNat / 2 ^ (7 - r) % 2
theorem bitsOf_length (x : UInt8) : (bitsOf x).length = 8 := by simp [bitsOf]
theorem bitsOf_take (x : UInt8) (r : Nat) (h : r < 8) : (bitsOf x).take (r + 1) = (bitsOf x).take r ++ [x.toNat / 2 ^ (7 - r) % 2] := by
  rw [List.take_add_one]
  congr 1
  simp [bitsOf, h]
def cbits (l : List UInt8) : List Nat := l.flatMap bitsOf
theorem cbits_length (l : List UInt8) : (cbits l).length = 8 * l.length := by
  induction l with
  | nil => rfl
  | cons x l ih => rw [cbits, List.flatMap_cons, List.length_append, bitsOf_length, ← cbits, ih, List.length_cons]; omega
theorem cbits_snoc (l : List UInt8) (q : Nat) (h : q < l.length) : cbits (l.take (q + 1)) = cbits (l.take q) ++ bitsOf (at8 l q) := by
  rw [List.take_add_one, cbits, List.flatMap_append, ← cbits, List.getElem?_eq_getElem h]
  simp [at8, List.getD, h]
theorem cbits_lt (l : List UInt8) : ∀ n ∈ cbits l, n < 2 := by
  intro n hn
  simp only [cbits, List.mem_flatMap, bitsOf, List.mem_map] at hn
  obtain ⟨x, _, r, _, rfl⟩ := hn
  exact Nat.mod_lt _ (by omega)
/-- r bits from s on, as a number -/
def bv (b : List Nat) (s : Nat) : Nat → Nat
  | 0 => 0
  | r + 1 => bv b s r * 2 + b.getD (s + r) 0
theorem bv_lt (b : List Nat) (h : ∀ n ∈ b, n < 2) (s r : Nat) : bv b s r < 2 ^ r := by
  induction r with
  | zero => simp [bv]
  | succ r ih =>
    have : b.getD (s + r) 0 < 2 := by
      rw [List.getD_eq_getElem?_getD]
      cases hg : b[s + r]? with
      | none => simp
      | some n => simpa using h n (List.mem_of_getElem? hg)
    rw [bv, Nat.pow_succ]
    omega
/-- a chunk's bits, filled up -/
def padded (ch : List UInt8) : List Nat := cbits ch ++ List.replicate (6 - 2 * ch.length) 0
theorem padded_lt (ch : List UInt8) : ∀ n ∈ padded ch, n < 2 := by
  intro n hn
  rw [padded, List.mem_append] at hn
  rcases hn with h | h
  · exact cbits_lt ch n h
  · rw [List.mem_replicate] at h; omega
theorem padded_length (ch : List UInt8) (h : ch.length = 1 ∨ ch.length = 2 ∨ ch.length = 3) : (padded ch).length = 6 * (ch.length + 1) := by
  rw [padded, List.length_append, cbits_length, List.length_replicate]; omega
def groups (ch : List UInt8) (g : Nat) : List Nat := (List.range g).map fun k => bv (padded ch) (6 * k) 6
theorem groups_succ (ch : List UInt8) (g : Nat) : groups ch (g + 1) = groups ch g ++ [bv (padded ch) (6 * g) 6] := by simp [groups, List.range_succ]
theorem groups_length (ch : List UInt8) (g : Nat) : (groups ch g).length = g := by simp [groups]
theorem bitsOf_eq (x : UInt8) : bitsOf x = [x.toNat / 128 % 2, x.toNat / 64 % 2, x.toNat / 32 % 2, x.toNat / 16 % 2, x.toNat / 8 % 2, x.toNat / 4 % 2, x.toNat / 2 % 2, x.toNat % 2] := by
  simp [bitsOf, List.range, List.range.loop]
theorem bv6 (b : List Nat) (s : Nat) : bv b s 6 = ((((b.getD s 0 * 2 + b.getD (s + 1) 0) * 2 + b.getD (s + 2) 0) * 2 + b.getD (s + 3) 0) * 2 + b.getD (s + 4) 0) * 2 + b.getD (s + 5) 0 := by
  simp [bv]
theorem groups_sx : ∀ ch : List UInt8, (ch.length = 1 ∨ ch.length = 2 ∨ ch.length = 3) → groups ch (ch.length + 1) = sx 0 0 ch
  | [x], _ => by
    have hx := x.toNat_lt
    have h1 : padded [x] = bitsOf x ++ [0, 0, 0, 0] := by simp [padded, cbits]
    have h2 : sx 0 0 [x] = [x.toNat / 4, x.toNat % 4 * 16] := by rw [sx0, sx]; rfl
    rw [h2, show groups [x] ([x].length + 1) = [bv (padded [x]) 0 6, bv (padded [x]) 6 6] from rfl, h1, bitsOf_eq, bv6, bv6]
    congr 1
    · simp only [List.cons_append, List.nil_append, List.getD_cons_succ, List.getD_cons_zero]; omega
    · congr 1
      simp only [List.cons_append, List.nil_append, List.getD_cons_succ, List.getD_cons_zero]; omega
  | [x, y], _ => by
    have hx := x.toNat_lt
    have hy := y.toNat_lt
    have h1 : padded [x, y] = bitsOf x ++ (bitsOf y ++ [0, 0]) := by simp [padded, cbits]
    have h2 : sx 0 0 [x, y] = [x.toNat / 4, x.toNat % 4 * 16 + y.toNat / 16, y.toNat % 16 * 4] := by rw [sx0, sx2, sx]; rfl
    rw [h2, show groups [x, y] ([x, y].length + 1) = [bv (padded [x, y]) 0 6, bv (padded [x, y]) 6 6, bv (padded [x, y]) 12 6] from rfl, h1, bitsOf_eq, bitsOf_eq, bv6, bv6, bv6]
    simp only [List.cons_append, List.nil_append, List.getD_cons_succ, List.getD_cons_zero, List.cons.injEq, and_true]
    refine ⟨?_, ?_, ?_⟩ <;> omega
  | [x, y, z], _ => by
    have hx := x.toNat_lt
    have hy := y.toNat_lt
    have hz := z.toNat_lt
    have h1 : padded [x, y, z] = bitsOf x ++ (bitsOf y ++ bitsOf z) := by simp [padded, cbits]
    have h2 : sx 0 0 [x, y, z] = [x.toNat / 4, x.toNat % 4 * 16 + y.toNat / 16, y.toNat % 16 * 4 + z.toNat / 64, z.toNat % 64] := by rw [sx0, sx2, sx4, sx]; rfl
    rw [h2, show groups [x, y, z] ([x, y, z].length + 1) = [bv (padded [x, y, z]) 0 6, bv (padded [x, y, z]) 6 6, bv (padded [x, y, z]) 12 6, bv (padded [x, y, z]) 18 6] from rfl, h1, bitsOf_eq, bitsOf_eq, bitsOf_eq, bv6, bv6, bv6, bv6]
    simp only [List.cons_append, List.nil_append, List.getD_cons_succ, List.getD_cons_zero, List.cons.injEq, and_true]
    refine ⟨?_, ?_, ?_, ?_⟩ <;> omega
  | [], h => by simp at h
  | _ :: _ :: _ :: _ :: _, h => by simp at h
end Go.Proofs.Ytbioclpobmgikaa
