/- An argument of entries, opened. -/
import Derived.Test.YtbioclpobmgikaaDoorEn1
import Derived.Test.YtbioclpobmgikaaDoorBase
import Derived.Deep.Slices
namespace Go.Proofs.YtbioclpobmgikaaDoor
open Go.ChangeShapes Go.WideShapes Go.ChangeAt Go.RowKit

theorem u8_of_wf (n : Int) (h : (Lit.int .u8 n).wf = true) : ((UInt8.ofNat n.toNat).toNat : Int) = n := by
  have hb := bounds_u8 h
  rw [UInt8.toNat_ofNat_of_lt' (show n.toNat < UInt8.size by show n.toNat < 256; omega)]
  omega
set_option maxRecDepth 100000 in
theorem open_entry {H : Type} {enc : TypeId × Value → H} {W : World} {base : Nat} {spare : Nat → Bool} {held : Bool} {n : Nat} {cs : List Value} {r : DataW H × List MemPlace}
    (h : DataW.trod enc Tryd.prog W base spare held n 140 cs = some r) : ∃ x : En, cs = x.cells ∧ EGood W x := by
  obtain ⟨xs, m, _, _, hlen, hxl, hf⟩ := DataW.trod_struct Tryd.underlying140 h
  rw [show Tryd.prog.cellsOf 140 = 12 by kernel_rfl] at hlen
  match xs, hxl, cs, hlen with
  | [y0, y1, y2, y3, y4, y5, y6, y7, y8, y9, y10, y11], _, [v0, v1, v2, v3, v4, v5, v6, v7, v8, v9, v10, v11], _ =>
    have c9 : Tryd.prog.cellsOf 9 = 1 := by kernel_rfl
    have c5 : Tryd.prog.cellsOf 5 = 1 := by kernel_rfl
    have c3 : Tryd.prog.cellsOf 3 = 1 := by kernel_rfl
    have c22 : Tryd.prog.cellsOf 22 = 1 := by kernel_rfl
    have f0 : DataW.trod enc Tryd.prog W base spare held m 9 (List.take (Tryd.prog.cellsOf 9) (List.drop 0 [v0, v1, v2, v3, v4, v5, v6, v7, v8, v9, v10, v11])) = some y0 := hf 0 _ rfl
    rw [c9] at f0
    have f1 : DataW.trod enc Tryd.prog W base spare held m 5 (List.take (Tryd.prog.cellsOf 5) (List.drop 1 [v0, v1, v2, v3, v4, v5, v6, v7, v8, v9, v10, v11])) = some y1 := hf 1 _ rfl
    rw [c5] at f1
    have f2 : DataW.trod enc Tryd.prog W base spare held m 3 (List.take (Tryd.prog.cellsOf 3) (List.drop 2 [v0, v1, v2, v3, v4, v5, v6, v7, v8, v9, v10, v11])) = some y2 := hf 2 _ rfl
    rw [c3] at f2
    have f3 : DataW.trod enc Tryd.prog W base spare held m 3 (List.take (Tryd.prog.cellsOf 3) (List.drop 3 [v0, v1, v2, v3, v4, v5, v6, v7, v8, v9, v10, v11])) = some y3 := hf 3 _ rfl
    rw [c3] at f3
    have f4 : DataW.trod enc Tryd.prog W base spare held m 3 (List.take (Tryd.prog.cellsOf 3) (List.drop 4 [v0, v1, v2, v3, v4, v5, v6, v7, v8, v9, v10, v11])) = some y4 := hf 4 _ rfl
    rw [c3] at f4
    have f5 : DataW.trod enc Tryd.prog W base spare held m 3 (List.take (Tryd.prog.cellsOf 3) (List.drop 5 [v0, v1, v2, v3, v4, v5, v6, v7, v8, v9, v10, v11])) = some y5 := hf 5 _ rfl
    rw [c3] at f5
    have f6 : DataW.trod enc Tryd.prog W base spare held m 9 (List.take (Tryd.prog.cellsOf 9) (List.drop 6 [v0, v1, v2, v3, v4, v5, v6, v7, v8, v9, v10, v11])) = some y6 := hf 6 _ rfl
    rw [c9] at f6
    have f7 : DataW.trod enc Tryd.prog W base spare held m 9 (List.take (Tryd.prog.cellsOf 9) (List.drop 7 [v0, v1, v2, v3, v4, v5, v6, v7, v8, v9, v10, v11])) = some y7 := hf 7 _ rfl
    rw [c9] at f7
    have f8 : DataW.trod enc Tryd.prog W base spare held m 9 (List.take (Tryd.prog.cellsOf 9) (List.drop 8 [v0, v1, v2, v3, v4, v5, v6, v7, v8, v9, v10, v11])) = some y8 := hf 8 _ rfl
    rw [c9] at f8
    have f9 : DataW.trod enc Tryd.prog W base spare held m 3 (List.take (Tryd.prog.cellsOf 3) (List.drop 9 [v0, v1, v2, v3, v4, v5, v6, v7, v8, v9, v10, v11])) = some y9 := hf 9 _ rfl
    rw [c3] at f9
    have f10 : DataW.trod enc Tryd.prog W base spare held m 3 (List.take (Tryd.prog.cellsOf 3) (List.drop 10 [v0, v1, v2, v3, v4, v5, v6, v7, v8, v9, v10, v11])) = some y10 := hf 10 _ rfl
    rw [c3] at f10
    have f11 : DataW.trod enc Tryd.prog W base spare held m 22 (List.take (Tryd.prog.cellsOf 22) (List.drop 11 [v0, v1, v2, v3, v4, v5, v6, v7, v8, v9, v10, v11])) = some y11 := hf 11 _ rfl
    rw [c22] at f11
    obtain ⟨s0, h0, _⟩ := DataW.trod_string Tryd.underlying9 (x := y0) f0
    obtain ⟨k1, h1, _, hw1⟩ := DataW.trod_int Tryd.underlying5 (x := y1) f1
    obtain ⟨k2, h2, _⟩ := DataW.trod_int Tryd.underlying3 (x := y2) f2
    obtain ⟨k3, h3, _⟩ := DataW.trod_int Tryd.underlying3 (x := y3) f3
    obtain ⟨k4, h4, _⟩ := DataW.trod_int Tryd.underlying3 (x := y4) f4
    obtain ⟨k5, h5, _⟩ := DataW.trod_int Tryd.underlying3 (x := y5) f5
    obtain ⟨s6, h6, _⟩ := DataW.trod_string Tryd.underlying9 (x := y6) f6
    obtain ⟨s7, h7, _⟩ := DataW.trod_string Tryd.underlying9 (x := y7) f7
    obtain ⟨s8, h8, _⟩ := DataW.trod_string Tryd.underlying9 (x := y8) f8
    obtain ⟨k9, h9, _⟩ := DataW.trod_int Tryd.underlying3 (x := y9) f9
    obtain ⟨k10, h10, _⟩ := DataW.trod_int Tryd.underlying3 (x := y10) f10
    have f11 : DataW.trod enc Tryd.prog W base spare held m 22 [v11] = some y11 := f11
    obtain ⟨A', l', c', h11⟩ := Joins.slice_form Tryd.underlying22 f11
    have q0 : v0 = .string s0 := by simpa using h0
    clear h0
    have q1 : v1 = .int .u8 k1 := by simpa using h1
    clear h1
    have q2 : v2 = .int .i64 k2 := by simpa using h2
    clear h2
    have q3 : v3 = .int .i64 k3 := by simpa using h3
    clear h3
    have q4 : v4 = .int .i64 k4 := by simpa using h4
    clear h4
    have q5 : v5 = .int .i64 k5 := by simpa using h5
    clear h5
    have q6 : v6 = .string s6 := by simpa using h6
    clear h6
    have q7 : v7 = .string s7 := by simpa using h7
    clear h7
    have q8 : v8 = .string s8 := by simpa using h8
    clear h8
    have q9 : v9 = .int .i64 k9 := by simpa using h9
    clear h9
    have q10 : v10 = .int .i64 k10 := by simpa using h10
    clear h10
    have q11 : v11 = .slice A' l' c' := by simpa using h11
    clear h11
    subst q0 q1 q2 q3 q4 q5 q6 q7 q8 q9 q10 q11
    obtain ⟨bs, rfl, g1, _, g3, g2⟩ := open_bytes (W := W) (base := base) (spare := spare) (held := held) (a := A') (len := l') (cap := c') ⟨m, by simpa [Value.cells] using f11⟩
    refine ⟨⟨⟨s0.data.toList, UInt8.ofNat k1.toNat, k2, k3, k4, k5, s6.data.toList, s7.data.toList, s8.data.toList, k9, k10, bs⟩, A', c'⟩, ?_, g1, g3, g2⟩
    simp only [En.cells]
    rw [u8_of_wf k1 hw1]
    rfl
theorem open_entries {H : Type} {enc : TypeId × Value → H} {W : World} {base : Nat} {spare : Nat → Bool} {held : Bool} {a : Option Addr} {len cap : Nat} {d : DataW H} {ps : List MemPlace}
    (h : DataW.Trod enc Tryd.prog W base spare held 91 (.slice a len cap) d ps) : ∃ l : List En, l.length = len ∧ EntsAt W a l ∧ AllEGood W l := by
  obtain ⟨fuel, hf⟩ := h
  rcases Deep.open_slice Tryd.underlying91 hf with ⟨hcs, _⟩ | ⟨x, ln, c, m, n, D, Pl, hcs, _, hl, hm, hmm, _, hx⟩
  · simp [Value.cells] at hcs
    obtain ⟨rfl, rfl, rfl⟩ := hcs
    exact ⟨[], rfl, fun j hj => by simp at hj, fun b hb => (List.not_mem_nil hb).elim⟩
  · simp [Value.cells] at hcs
    obtain ⟨rfl, rfl, rfl⟩ := hcs
    have hlm : len ≤ m := by rw [hmm]; split <;> omega
    rw [show Tryd.prog.cellsOf 140 = 12 by kernel_rfl] at hx
    have each : ∀ i, ∃ y : En, i < len → (∀ k u, y.cells[k]? = some u → W.cell? (x.add (i * 12 + k)) = some u) ∧ EGood W y := by
      intro i
      by_cases hi : i < len
      · obtain ⟨cs', h1, h2⟩ := hx i (by omega)
        obtain ⟨_, hlen, hcell⟩ := World.cells?_some h1
        obtain ⟨y, rfl, hg⟩ := open_entry h2
        refine ⟨y, fun _ => ⟨fun k u hu => ?_, hg⟩⟩
        have hk : k < 12 := by rw [← hlen]; exact (List.getElem?_eq_some_iff.1 hu).1
        have := hcell k hk
        rw [Deep.add_add] at this
        rw [this]; exact hu
      · exact ⟨en0, fun h => absurd h hi⟩
    have e1 : ∀ j, j < len → ((List.range len).map fun i => (each i).choose).getD j en0 = (each j).choose := fun j hj => by simp [List.getD, hj]
    refine ⟨(List.range len).map fun i => (each i).choose, by simp, fun j hj => ⟨x, rfl, fun i u hu => ?_⟩, fun b hb => ?_⟩
    · have hj' : j < len := by simpa using hj
      rw [e1 j hj'] at hu
      exact ((each j).choose_spec hj').1 i u hu
    · obtain ⟨i, hi, rfl⟩ := List.mem_map.1 hb
      exact ((each i).choose_spec (List.mem_range.1 hi)).2
end Go.Proofs.YtbioclpobmgikaaDoor
