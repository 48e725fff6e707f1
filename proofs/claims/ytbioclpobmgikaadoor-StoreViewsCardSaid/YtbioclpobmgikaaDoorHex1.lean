/- Hexadecimal: the program's two functions, and the builder's under them. -/
import Derived.Test.YtbioclpobmgikaaDoorShelf
import Derived.Test.YtbioclpobmgikaaDoorRef4a
import Derived.Test.YtbioclpobmgikaaDoorM7
import Derived.Laws.IdiomStrings
import Derived.Lib.VarintBits
namespace Go.Proofs.YtbioclpobmgikaaDoor
open Go.RowKit

theorem size154 : (Tryd.prog.info? 154).map (·.size) = some 2 := by kernel_rfl
theorem lies154 : liesAt Tryd.prog Tryd.prog.depth 154 (2 / Tryd.prog.cellsOf 154) 0 154 1 = true := by kernel_rfl

set_option maxHeartbeats 1000000 in
set_option maxRecDepth 100000 in
theorem copied_used (b : Nat) (w : World) (h0 : w.cell? ⟨b, 0, none⟩ = some (.pointer (some ⟨b, 0, none⟩))) :
    Calls Tryd.prog 117 #[.pointer (some ⟨b, 0, none⟩)] w fun e w' => e = .returned (.tuple #[]) ∧ w = w' := by
  obtain ⟨j, hj, _⟩ := Option.map_eq_some_iff.1 size154
  go_enter Tryd.func117, Tryd.ntmps117
  go_wp2
  rw [Lib.run_neq_ptr_same w _ Tryd.underlying152 hj]
  go_wp2
  go_end0
  exact ⟨rfl, rfl⟩
set_option maxHeartbeats 1000000 in
set_option maxRecDepth 100000 in
theorem copied_fresh (b : Nat) (w : World) (h0 : w.cell? ⟨b, 0, none⟩ = some (.pointer none)) (hsh : w.shape? b = some (154, 2)) (hfz : w.frozen? ⟨b, 0, none⟩ = false) :
    Calls Tryd.prog 117 #[.pointer (some ⟨b, 0, none⟩)] w fun e w' => e = .returned (.tuple #[]) ∧ w' = w.setCell ⟨b, 0, none⟩ (.pointer (some ⟨b, 0, none⟩)) := by
  obtain ⟨j, hj, hjs⟩ := Option.map_eq_some_iff.1 size154
  go_enter Tryd.func117, Tryd.ntmps117
  go_wp2
  rw [Lib.run_to_unsafe w ⟨b, 0, none⟩ Tryd.underlying152 Tryd.underlying164 hj (by rw [hjs]; decide) hsh (Nat.zero_lt_succ 1)]
  simp only [Result.andThen]
  rw [Oper.upon_value]
  go_wp2
  rw [run_callFunc_extern Tryd.func121 (by kernel_rfl) (by kernel_rfl) (by kernel_rfl) (e := Extern.AbiNoEscape.same) (by kernel_rfl)]
  rw [Lib.run_noEscape]
  simp only [Result.andThen]
  rw [Oper.upon_value]
  go_wp2
  rw [Lib.run_from_unsafe w ⟨b, 0, none⟩ Tryd.underlying164 Tryd.underlying152 hj hsh lies154]
  simp only [Result.andThen]
  rw [Oper.upon_value]
  go_wp2
  go_end0
  exact ⟨rfl, rfl⟩
theorem copied (B b : Nat) (bs : List Value) (w : World) (h : Lib.IsBuilder 154 5 B b bs w) :
    Calls Tryd.prog 117 #[.pointer (some ⟨b, 0, none⟩)] w fun e w' => e = .returned (.tuple #[]) ∧ Lib.BuilderAt 154 5 B b (.pointer (some ⟨b, 0, none⟩)) bs w' ∧ Below B w w' := by
  rcases h with h | h
  · refine (copied_fresh b w h.cell0 h.shape h.frozen0).mono ?_
    rintro e w' ⟨rfl, rfl⟩
    exact ⟨rfl, h.used _, (Below.refl B w).setCell (p := ⟨b, 0, none⟩) h.1 _⟩
  · refine (copied_used b w h.cell0).mono ?_
    rintro e w' ⟨rfl, rfl⟩
    exact ⟨rfl, h, Below.refl B _⟩

/-- a builder of this call's holds these bytes -/
structure Blt (w wr : World) (b : Nat) (t : List UInt8) : Prop where
  is : Lib.IsBuilder 154 5 w.heap.size b (Bs t) wr
  below : Below w.heap.size w wr

set_option maxHeartbeats 2000000 in
set_option maxRecDepth 100000 in
theorem putByte (w wr : World) (b : Nat) (t : List UInt8) (x : UInt8) (h : Blt w wr b t) (hlen : t.length + 1 ≤ 140737488355328) :
    Calls Tryd.prog 107 #[.pointer (some ⟨b, 0, none⟩), .int .u8 (x.toNat : Int)] wr fun e w' => e = .returned .nilIface ∧ Blt w w' b (t ++ [x]) := by
  have hbel := h.below
  go_enter Tryd.func107, Tryd.ntmps107
  go_wp2_with (go_at_call 117; refine (copied _ b _ _ h.is).mono ?_)
  rintro e w1 ⟨rfl, h1, hb1⟩
  have hs1 := hbel.trans hb1
  obtain ⟨hB, v, hbk, hown, hne⟩ := h1
  rw [Bs_length] at hown
  have c0 : w1.cell? ⟨b, 0, none⟩ = some (.pointer (some ⟨b, 0, none⟩)) := by rw [Lib.cell_of_heap hbk]; rfl
  have c1 : w1.cell? ⟨b, 1, none⟩ = some v := by rw [Lib.cell_of_heap hbk]; rfl
  have HB := Lib.hid hbk
  clear hbk
  have hlt : b < w1.heap.size := (Array.getElem?_eq_some_iff.1 HB.out).1
  go_wp2_with (refine wpList_append_bytes rfl (.tmp 11) (.tmp 13) rfl w.heap.size _ t rfl (hown.alloc _) (some ⟨w1.heap.size, 0, none⟩) [x] 1 rfl (bytes_new _ _ _ rfl) (fun h => by cases h) (by simp; omega) (by have := hs1.size; simp; omega) ?_; rintro v' w2 hown' hgrow hnil; obtain ⟨g, cap, rfl⟩ : ∃ g cap, v' = Value.slice (some ⟨g, 0, none⟩) (t.length + 1) cap := (by
    rcases hown'.2 with ⟨_, h0⟩ | ⟨g, cap, cur, hv, _⟩
    · simp at h0
    · exact ⟨g, cap, hv⟩); have hb2 : w2.heap[b]? = some (.cells #[.pointer (some ⟨b, 0, none⟩), v] 154 (0, 0)) := (by
    rw [hgrow.block b (by simp; omega) (fun e => hne e.symm), Lib.alloc_old w1 _ b hlt]
    exact HB.out); have d0 : w2.cell? ⟨b, 0, none⟩ = some (.pointer (some ⟨b, 0, none⟩)) := (by rw [Lib.cell_of_heap hb2]; rfl); have d1 : w2.cell? ⟨b, 1, none⟩ = some v := (by rw [Lib.cell_of_heap hb2]; rfl); have f1 : w2.frozen? ⟨b, 1, none⟩ = false := Lib.frozen_of_heap hb2 1; have H2 := Lib.hid hb2; clear hb2)
  go_ret
  refine ⟨rfl, .inr ?_, ?_⟩
  · exact Lib.BuilderAt.put (T := 154) (e := 5) hB H2.out (bs' := Bs (t ++ [x])) (by simpa [Bs] using hown') (by decide)
  · exact ((hs1.alloc hs1.size _).grown hgrow (by have := hs1.size; simp; omega) (fun k hk => (hown.lt k hk).1)).setCell (p := ⟨b, 1, none⟩) hB _
end Go.Proofs.YtbioclpobmgikaaDoor
