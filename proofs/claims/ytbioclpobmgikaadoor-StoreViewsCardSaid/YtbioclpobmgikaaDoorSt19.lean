/- An argument that is a store, opened. -/
import Derived.Test.YtbioclpobmgikaaDoorG5
import Derived.Test.YtbioclpobmgikaaDoorBase
import Derived.Deep.SlicePairs
namespace Go.Proofs.YtbioclpobmgikaaDoor
open Go.ChangeShapes Go.WideShapes Go.ChangeAt Go.RowKit

theorem open_store {H : Type} {enc : TypeId × Value → H} {W : World} {base : Nat} {spare : Nat → Bool} {held : Bool} {a : Option Addr} {len cap : Nat} {d : DataW H} {ps : List MemPlace}
    (h : DataW.Trod enc Tryd.prog W base spare held 68 (.slice a len cap) d ps) : ∃ bl : List Bl, bl.length = len ∧ len ≤ cap ∧ cap ≤ maxLen ∧ RowAt W a bl ∧ AllGood W bl := by
  obtain ⟨fuel, hf⟩ := h
  rcases Deep.open_slice_pairs Tryd.underlying68 Tryd.underlying70 (by kernel_rfl) rfl rfl (by kernel_rfl) (by kernel_rfl) hf with ⟨hcs, _⟩ | ⟨x, l, c, m, n, V0, V1, D0, D1, P0, P1, hcs, _, hl, hm, hmm, _, hx⟩
  · simp [Value.cells] at hcs
    obtain ⟨rfl, rfl, rfl⟩ := hcs
    exact ⟨[], rfl, by omega, by unfold maxLen; omega, fun j hj => by simp at hj, fun b hb => by cases hb⟩
  · simp [Value.cells] at hcs
    obtain ⟨rfl, rfl, rfl⟩ := hcs
    have hlm : len ≤ m := by rw [hmm]; split <;> omega
    have each : ∀ i, ∃ b : Bl, i < len → W.cell? (x.add (i * 2)) = some (.string (St b.name)) ∧ W.cell? (x.add (i * 2 + 1)) = some (.slice b.D b.data.length b.c) ∧ Good W b := by
      intro i
      by_cases hi : i < len
      · obtain ⟨hc0, hc1, ht0, ht1⟩ := hx i (by omega)
        obtain ⟨s, hs, _⟩ := DataW.trod_string Tryd.underlying9 ht0
        obtain ⟨A', l', c', hv⟩ := Joins.slice_form Tryd.underlying22 ht1
        have hs : V0 i = .string s := by simpa using hs
        obtain hv : V1 i = .slice A' l' c' := by simpa using hv
        rw [hv] at hc1 ht1
        obtain ⟨bs, rfl, h1, _, h3, h2⟩ := open_bytes (W := W) (base := base) (spare := spare) (held := held) (a := A') (len := l') (cap := c') ⟨n, by simpa [Value.cells] using ht1⟩
        exact ⟨⟨s.data.toList, bs, A', c'⟩, fun _ => ⟨by rw [hc0, hs]; rfl, hc1, h1, h3, h2⟩⟩
      · exact ⟨bl0, fun h => absurd h hi⟩
    have e1 : ∀ j, j < len → ((List.range len).map fun i => (each i).choose).getD j bl0 = (each j).choose := fun j hj => by simp [List.getD, hj]
    refine ⟨(List.range len).map fun i => (each i).choose, by simp, hl, hm, fun j hj => ⟨x, rfl, ?_⟩, fun b hb => ?_⟩
    · have hj' : j < len := by simpa using hj
      have := (each j).choose_spec hj'
      rw [e1 j hj', ← add_odd, show 2 * j + 1 = j * 2 + 1 by omega]
      exact ⟨this.1, this.2.1⟩
    · obtain ⟨i, hi, rfl⟩ := List.mem_map.1 hb
      exact ((each i).choose_spec (List.mem_range.1 hi)).2.2
/-- an argument of parts, opened: with what is nil, and how long they are -/
theorem open_partsC {H : Type} {enc : TypeId × Value → H} {W : World} {base : Nat} {spare : Nat → Bool} {held : Bool} {a : Option Addr} {len cap : Nat} {d : DataW H} {ps : List MemPlace}
    (h : DataW.Trod enc Tryd.prog W base spare held 31 (.slice a len cap) d ps) : ∃ bs : List (List UInt8), bs.length = len ∧ (∀ j, j < bs.length → (bs.getD j []).length ≤ 9223372036854775807) ∧
      ∀ j, j < bs.length → ∃ x, a = some x ∧ ∃ A' c', W.cell? (x.add j) = some (.slice A' (bs.getD j []).length c') ∧ (bs.getD j []).length ≤ c' ∧ (A' = none → c' = 0) ∧ BytesAt W A' (bs.getD j []) := by
  obtain ⟨fuel, hf⟩ := h
  rcases Deep.open_slice1 Tryd.underlying31 (by kernel_rfl) hf with ⟨hcs, _⟩ | ⟨x, l, c, m, n, V, D, Pl, hcs, _, hl, hm, hmm, _, hx⟩
  · simp [Value.cells] at hcs
    obtain ⟨rfl, rfl, rfl⟩ := hcs
    exact ⟨[], rfl, fun j hj => by simp at hj, fun j hj => by simp at hj⟩
  · simp [Value.cells] at hcs
    obtain ⟨rfl, rfl, rfl⟩ := hcs
    have hlm : len ≤ m := by rw [hmm]; split <;> omega
    have each : ∀ i, ∃ bs : List UInt8, i < len → ∃ A' c', W.cell? (x.add i) = some (.slice A' bs.length c') ∧ bs.length ≤ c' ∧ (A' = none → c' = 0) ∧ c' ≤ maxLen ∧ BytesAt W A' bs := by
      intro i
      by_cases hi : i < len
      · obtain ⟨hc, ht⟩ := hx i (by omega)
        obtain ⟨A', l', c', hv⟩ := Joins.slice_form Tryd.underlying22 ht
        obtain hv : V i = .slice A' l' c' := by simpa using hv
        rw [hv] at hc ht
        obtain ⟨bs, rfl, h1, h4, h3, h2⟩ := open_bytes (W := W) (base := base) (spare := spare) (held := held) (a := A') (len := l') (cap := c') ⟨n, by simpa [Value.cells] using ht⟩
        exact ⟨bs, fun _ => ⟨A', c', hc, h1, h3, h4, h2⟩⟩
      · exact ⟨[], fun h => absurd h hi⟩
    have e1 : ∀ j, j < len → ((List.range len).map fun i => (each i).choose).getD j [] = (each j).choose := fun j hj => by simp [List.getD, hj]
    refine ⟨(List.range len).map fun i => (each i).choose, by simp, fun j hj => ?_, fun j hj => ⟨x, rfl, ?_⟩⟩
    · have hj' : j < len := by simpa using hj
      obtain ⟨A', c', _, h1, _, h4, _⟩ := (each j).choose_spec hj'
      rw [e1 j hj']
      unfold maxLen at h4
      omega
    · have hj' : j < len := by simpa using hj
      obtain ⟨A', c', h0, h1, h2, _, h3⟩ := (each j).choose_spec hj'
      rw [e1 j hj']
      exact ⟨A', c', h0, h1, h2, h3⟩
end Go.Proofs.YtbioclpobmgikaaDoor
