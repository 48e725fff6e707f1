/- A blob is set in where there is no room: what the library's Insert does. -/
import Derived.Test.YtbioclpobmgikaaDoorSt6
namespace Go.Proofs.YtbioclpobmgikaaDoor
open Go.RowKit

theorem grown_setRow2 {w w1 : World} {g k : Nat} (h : w.grownBy w1 (some g)) (hk : w.heap.size ≤ k) (cs : Array Value) : w.grownBy (w1.setRow k cs) (some g) :=
  ⟨h.os, h.tape, h.output, by rw [setRow_size]; exact h.size, fun j hj hne => (setRow_other w1 k j cs (by omega)).trans (h.block j hj hne)⟩
theorem ins_row2 (X R C D : List Value) (i n : Nat) (hi : i < n) (hX : (n + 1) * 2 ≤ X.length) (hR : X.take (i * 2) = R) (hC : C.length = 2) (hD : D.length = (n - i) * 2) :
    (((X.take (i * 2) ++ C ++ X.drop (i * 2 + C.length)).take ((i + 1) * 2) ++ D ++ (X.take (i * 2) ++ C ++ X.drop (i * 2 + C.length)).drop ((i + 1) * 2 + D.length)).take ((n + 1) * 2) = R ++ C ++ D) ∧
    ((X.take (i * 2) ++ C ++ X.drop (i * 2 + C.length)).take ((i + 1) * 2) ++ D ++ (X.take (i * 2) ++ C ++ X.drop (i * 2 + C.length)).drop ((i + 1) * 2 + D.length)).length = X.length := by
  have hRl : R.length = i * 2 := by rw [← hR, List.length_take]; omega
  have h1 : (X.take (i * 2) ++ C ++ X.drop (i * 2 + C.length)).take ((i + 1) * 2) = R ++ C := by
    rw [hR, List.take_append_of_le_length (by rw [List.length_append]; omega), List.take_of_length_le (by rw [List.length_append]; omega)]
  rw [h1]
  have h3 : (R ++ C ++ D).length = (n + 1) * 2 := by rw [List.length_append, List.length_append, hRl, hC, hD]; omega
  constructor
  · rw [List.take_append_of_le_length (by omega), List.take_of_length_le (by omega)]
  · rw [List.length_append, h3, List.length_drop, List.length_append, List.length_append, List.length_take, List.length_drop, hC, hD]; omega

set_option maxHeartbeats 1000000 in
set_option maxRecDepth 100000 in
theorem insert_grow (bl : List Bl) (b : Bl) (g cap i base vb : Nat) (cur : Array Value) (w : World) (hb : base ≤ w.heap.size) (hi : i < bl.length) (hnc : bl.length ≤ cap) (hroom : cap < bl.length + 1) (hg : w.heap[g]? = some (.cells cur 70 (0, 0))) (hcur : cur.size = cap * 2) (htk : cur.toList.take (bl.length * 2) = Row bl)
    (hvb : w.heap[vb]? = some (.cells b.cells.toArray 70 (0, 0))) (hn : bl.length ≤ 1000) :
    Calls Tryd.prog 92 #[.slice (some ⟨g, 0, none⟩) bl.length cap, .int .i64 (i : Int), .slice (some ⟨vb, 0, none⟩) 1 1] w fun e w' => ∃ v', e = .returned v' ∧ w'.ownsRow base 70 2 v' (bl.length + 1) (Row (bl.take i ++ [b] ++ bl.drop i)) ∧ w.grownBy w' (some g) := by
  have hgw : g < w.heap.size := (Array.getElem?_eq_some_iff.1 hg).1
  have hvw : vb < w.heap.size := (Array.getElem?_eq_some_iff.1 hvb).1
  generalize hl : bl.length = n at *
  have HL := Lib.hid hl; have HTK := Lib.hid htk; have HG := Lib.hid hg; have HVB := Lib.hid hvb; have HCUR := Lib.hid hcur
  have hXl : cur.toList.length = cap * 2 := by rw [Array.length_toList]; exact hcur
  have hik : i + (n + 1 - i) = n + 1 := by omega
  obtain ⟨i0, hi0, hz0, hz1, hz2⟩ := zero70
  have hold : (Builtin.firstCells i0.size i (.slice (some ⟨g, 0, none⟩) i cap)).run Tryd.prog w.drew = .ok (Row (bl.take i)).toArray w.drew := by
    rw [hz1]
    refine run_firstCells_some w.drew 2 i ⟨g, 0, none⟩ i cap _ (by rw [Row_length, List.length_take]; omega) (fun j v hj => ?_)
    have hj2 : j < i * 2 := by have := (List.getElem?_eq_some_iff.1 hj).1; rw [Row_length, List.length_take] at this; omega
    rw [add_lit', cell_of_row w.drew _ _ _ _ _ hg, ← hj, ← Row_take, ← htk, List.getElem?_take, List.getElem?_take, if_pos (by omega), if_pos (by omega), Array.getElem?_toList, Nat.zero_add]
  have hrz : ∀ ty, (Builtin.append_ #[68, 3] ty #[.slice (some ⟨g, 0, none⟩) i cap, .int .i64 ((n + 1 - i : Nat) : Int)]).run Tryd.prog w =
      .ok (.slice (some ⟨w.heap.size, 0, none⟩) (n + 1) (grownCap w (n + 1) cap 70)) (w.drew.alloc (.cells ((Row (bl.take i)).toArray ++ Builtin.zeroCells (Value.agg #[.string ⟨#[]⟩, .slice none 0 0]).cells (n + 1 - i) ++ Builtin.zeroCells (Value.agg #[.string ⟨#[]⟩, .slice none 0 0]).cells (grownCap w (n + 1) cap 70 - (n + 1))) 70)) := fun ty => by
    have h := Lib.run_append_grow_zeros w 68 3 ty 70 i0 _ .i64 .i64 Tryd.underlying68 Tryd.underlying3 hi0 hz0 (some ⟨g, 0, none⟩) i cap (Row (bl.take i)) hold (n + 1 - i) (by omega) (by omega) (by omega) (by omega) (by rw [hz2]; omega) (by rw [hz2, hik]; exact growslice_fits hroom (by omega))
    rw [hik] at h
    exact h
  have hGn : n + 1 ≤ grownCap w (n + 1) cap 70 := grownCap_ge w _ _ _
  have hGm := grownCap_le_maxLen w (n + 1) cap 70 (by unfold maxLen; omega)
  generalize grownCap w (n + 1) cap 70 = G at *
  have hrow : ((Row (bl.take i)).toArray ++ Builtin.zeroCells (Value.agg #[.string ⟨#[]⟩, .slice none 0 0]).cells (n + 1 - i) ++ Builtin.zeroCells (Value.agg #[.string ⟨#[]⟩, .slice none 0 0]).cells (G - (n + 1))).size = G * 2 ∧ ((Row (bl.take i)).toArray ++ Builtin.zeroCells (Value.agg #[.string ⟨#[]⟩, .slice none 0 0]).cells (n + 1 - i) ++ Builtin.zeroCells (Value.agg #[.string ⟨#[]⟩, .slice none 0 0]).cells (G - (n + 1))).toList.take (i * 2) = Row (bl.take i) := by
    have hrl : (Row (bl.take i)).length = i * 2 := by rw [Row_length, List.length_take]; omega
    constructor
    · rw [Array.size_append, Array.size_append, size_zeroCells, size_zeroCells, List.size_toArray, hrl, show (Value.agg #[.string ⟨#[]⟩, .slice none 0 0]).cells.size = 2 from rfl]
      omega
    · rw [Array.toList_append, Array.toList_append, List.append_assoc, List.take_append_of_le_length (by rw [← hrl]; exact Nat.le_refl _)]
      exact List.take_of_length_le (by rw [← hrl]; exact Nat.le_refl _)
  generalize ((Row (bl.take i)).toArray ++ Builtin.zeroCells (Value.agg #[.string ⟨#[]⟩, .slice none 0 0]).cells (n + 1 - i) ++ Builtin.zeroCells (Value.agg #[.string ⟨#[]⟩, .slice none 0 0]).cells (G - (n + 1))) = X at *
  obtain ⟨hXs, hXt⟩ := hrow
  have HXS := Lib.hid hXs; have HXT := Lib.hid hXt; have HRZ := Lib.hid hrz
  clear hXs hXt hrz hold hl htk hg hvb hcur hi0 hz0 hz1 hz2 hXl
  have e1 : ((i : Int) == (n : Int)) = false := by rw [beq_eq_false_iff_ne]; omega
  have e2 : ((cap : Int) < (n : Int) + 1) := by omega
  have e3 : (n : Int) + 1 - (i : Int) = ((n + 1 - i : Nat) : Int) := by omega
  have hw0 : (w.alloc (.cells X 70)).drew.heap[w.heap.size]? = some (.cells X 70 (0, 0)) := heap_alloc_new w _
  have hold0 : ∀ k, k < w.heap.size → (w.alloc (.cells X 70)).drew.heap[k]? = w.heap[k]? := fun k hk => Lib.alloc_old w _ k hk
  have hgr0 : w.grownBy (w.alloc (.cells X 70)).drew (some g) := ⟨rfl, rfl, rfl, by show w.heap.size ≤ (w.alloc (.cells X 70)).heap.size; simp, fun k hk _ => hold0 k hk⟩
  have hcp1 := fun ty dc => run_copy_row2 (w.alloc (.cells X 70)).drew 68 67 ty w.heap.size (i * 2) (n + 1 - i) dc ⟨vb, 0, none⟩ 1 1 X 70 b.cells 1 Tryd.underlying68 (by simp only [Nat.min_def]; split <;> omega) hw0 rfl
    (fun j v hv => by rw [add_lit', cell_of_row _ _ _ _ _ _ ((hold0 vb hvw).trans HVB.out), Nat.zero_add, List.getElem?_toArray]; exact hv) (by rw [HXS.out]; show i * 2 + 2 ≤ _; omega) (fun v hv => Row_mem [b] v (by simpa [Row] using hv))
  have HCP1 := Lib.hid hcp1
  clear hcp1
  go_enter Tryd.func92, Tryd.ntmps92
  go_wp2_with (first
    | (at_builtin; refine Lib.wpList_append_run _ rfl _ _ _ _ rfl _ _ rfl rfl _ _ (HRZ.out _) ?_)
    | (refine wpList_copy_runI _ rfl _ _ 68 67 rfl _ _ rfl rfl (HCP1.out _ _) ?_))
  have hw1 : IntKind.i64.wrap ((i : Int) + 1) = (i : Int) + 1 := IntWalk.i64_in _ (by omega)
  have hb1 : (0 : Int) ≤ (i : Int) + 1 := by omega
  have htn : ((i : Int) + 1).toNat = i + 1 := by omega
  have hb2 : ¬ (G = i + 1) := by omega
  have hb3 : (i : Int) ≤ (n : Int) := by omega
  have hb4 : ¬ (cap = i) := by omega
  have hb6 : i + 1 ≤ n + 1 := by omega
  have hb7 : i ≤ n := by omega
  have hXTl : X.toList.length = G * 2 := by rw [Array.length_toList]; exact HXS.out
  have hDl : (Row (bl.drop i)).length = (n - i) * 2 := by rw [Row_length, List.length_drop, HL.out]
  have HNL := Lib.hid (ins_row2 X.toList (Row (bl.take i)) b.cells (Row (bl.drop i)) i n hi (by rw [hXTl]; omega) HXT.out rfl hDl)
  have hg1 := setRow_heap _ w.heap.size X (X.toList.take (i * 2) ++ b.cells ++ X.toList.drop (i * 2 + b.cells.length)).toArray 70 (0, 0) hw0
  have hgr1 := grown_setRow2 hgr0 (Nat.le_refl _) (X.toList.take (i * 2) ++ b.cells ++ X.toList.drop (i * 2 + b.cells.length)).toArray
  have hs1 := (setRow_other (w.alloc (.cells X 70)).drew w.heap.size g (X.toList.take (i * 2) ++ b.cells ++ X.toList.drop (i * 2 + b.cells.length)).toArray (by omega)).trans ((hold0 g hgw).trans HG.out)
  have hX1l : (X.toList.take (i * 2) ++ b.cells ++ X.toList.drop (i * 2 + b.cells.length)).length = G * 2 := by
    rw [List.length_append, List.length_append, List.length_take, List.length_drop, hXTl]; show min (i * 2) (G * 2) + 2 + (G * 2 - (i * 2 + 2)) = G * 2; omega
  have HX1L := Lib.hid hX1l
  clear hX1l hw0 hold0 hgr0 HCP1
  refine wp_region_still_tail 8 (by kernel_rfl) (by kernel_rfl) ?_
  generalize (w.alloc (.cells X 70)).drew.setRow w.heap.size (X.toList.take (i * 2) ++ b.cells ++ X.toList.drop (i * 2 + b.cells.length)).toArray = W1 at *
  generalize hX1 : X.toList.take (i * 2) ++ b.cells ++ X.toList.drop (i * 2 + b.cells.length) = X1 at *
  change wpStill _ _ W1.drew (fun a' => wpList _ _ _ _ a' W1.drew) _ _
  simp only [List.take_succ_cons, List.take_zero, List.drop_succ_cons, List.drop_zero]
  repeat still_step
  refine wpStill_nil ?_
  have hs1d : W1.drew.heap[g]? = some (.cells cur 70 (0, 0)) := hs1
  have hg1d : W1.drew.heap[w.heap.size]? = some (.cells X1.toArray 70 (0, 0)) := hg1
  have hcp2 := fun ty dc sc => run_copy_row2 W1.drew 68 68 ty w.heap.size ((i + 1) * 2) (n - i) dc ⟨g, i * 2, none⟩ (n - i) sc X1.toArray 70 (Row (bl.drop i)) (n - i) Tryd.underlying68 (by simp only [Nat.min_def]; split <;> omega) hg1d hDl
    (fun j v hv => by
      have hj : j < (n - i) * 2 := by rw [← hDl]; exact (List.getElem?_eq_some_iff.1 hv).1
      rw [add_lit', cell_of_row _ _ _ _ _ _ hs1d, ← hv, ← Row_drop, ← HTK.out, List.getElem?_drop, List.getElem?_take, show 2 * i + j = i * 2 + j by omega, if_pos (by omega), Array.getElem?_toList])
    (by rw [hDl, List.size_toArray, HX1L.out]; omega) (Row_mem _)
  have HCP2 := Lib.hid hcp2; have HG1 := Lib.hid hg1d; have HGR1 := Lib.hid hgr1
  clear hcp2 hg1d hgr1 hs1d hg1 hs1 hX1 hDl
  refine wpList_copy_runI _ rfl _ _ 68 68 rfl _ _ rfl rfl (HCP2.out _ _ _) ?_
  go_wp2_with fail
  go_ret
  refine ⟨.slice (some ⟨w.heap.size, 0, none⟩) (n + 1) G, rfl, ⟨?_, .inr ⟨w.heap.size, G, _, rfl, hb, setRow_heap W1.drew w.heap.size _ _ 70 (0, 0) HG1.out, hGn, hGm, ?_, ?_⟩⟩, grown_setRow2 (w1 := W1.drew) ⟨HGR1.out.os, HGR1.out.tape, HGR1.out.output, HGR1.out.size, HGR1.out.block⟩ (Nat.le_refl _) _⟩
  · simp only [Row_length, List.length_append, List.length_take, List.length_cons, List.length_drop, HL.out]; omega
  · have := HNL.out.2
    rw [hXTl] at this
    rw [List.size_toArray, ← List.append_assoc]
    exact this
  · have := HNL.out.1
    rw [← List.append_assoc, Row_append, show Row (b :: bl.drop i) = b.cells ++ Row (bl.drop i) from rfl, ← List.append_assoc]
    exact this

theorem insert_any (bl : List Bl) (b : Bl) (v : Value) (i base vb : Nat) (w : World) (hb : base ≤ w.heap.size) (hi : i ≤ bl.length) (hown : w.ownsRow base 70 2 v bl.length (Row bl))
    (hvb : w.heap[vb]? = some (.cells b.cells.toArray 70 (0, 0))) (hne : v.ownBlock ≠ some vb) (hn : bl.length ≤ 1000) :
    Calls Tryd.prog 92 #[v, .int .i64 (i : Int), .slice (some ⟨vb, 0, none⟩) 1 1] w fun e w' => ∃ v', e = .returned v' ∧ w'.ownsRow base 70 2 v' (bl.length + 1) (Row (bl.take i ++ [b] ++ bl.drop i)) ∧ w.grownBy w' v.ownBlock := by
  by_cases hin : i = bl.length
  · subst hin
    refine (insert_end bl b v base vb w hb hown ?_ hn).mono ?_
    · intro j hj
      have : j = 0 := by simp at hj; exact hj
      subst this
      refine ⟨_, rfl, ?_, ?_⟩
      · rw [add_lit', cell_of_row _ _ _ _ _ _ hvb]; rfl
      · rw [add_lit']; show w.cell? ⟨vb, 1, none⟩ = _; rw [cell_of_row _ _ _ _ _ _ hvb]; rfl
    · rintro e w' ⟨v', rfl, h1, h2⟩
      exact ⟨v', rfl, by rw [List.take_length, List.drop_length, List.append_nil]; simpa using h1, h2⟩
  · rcases hown.2 with ⟨rfl, h0⟩ | ⟨g, cap, cur, rfl, h1, h2, h3, h4, h5, h6⟩
    · omega
    · by_cases hc : bl.length + 1 ≤ cap
      · exact insert_shift bl b g cap i base vb cur w (by omega) hc h4 h1 h2 h5 h6 hvb (fun e => hne (by rw [e]; rfl)) hn
      · exact insert_grow bl b g cap i base vb cur w hb (by omega) h3 (by omega) h2 h5 h6 hvb hn
end Go.Proofs.YtbioclpobmgikaaDoor
