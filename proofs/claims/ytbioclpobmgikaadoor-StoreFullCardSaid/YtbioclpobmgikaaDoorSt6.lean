/- A blob is set in: what the library's Insert does with a row of blobs. -/
import Derived.Test.YtbioclpobmgikaaDoorSt5
import Derived.Laws.CopyRow
import Derived.Lib.Overlaps
import Derived.Lib.AppendZerosOnto
import Derived.Shelf.Spec.SlicesInsert
namespace Go.Proofs.YtbioclpobmgikaaDoor
open Go.RowKit

theorem run_copy_row2 (w : World) (dT sT ty : TypeId) (g o dLen dCap : Nat) (a : Addr) (sLen sCap : Nat) (cur : Array Value) (t : TypeId) (cs : List Value) (m : Nat)
    (hu : Tryd.prog.underlying dT = some (.slice 70)) (hm : m = Nat.min sLen dLen)
    (hg : w.heap[g]? = some (.cells cur t (0, 0))) (hn : cs.length = m * 2)
    (hsrc : ∀ j v, cs[j]? = some v → w.cell? (a.add j) = some v) (hfit : o + cs.length ≤ cur.size) (h1 : ∀ v ∈ cs, v.oneCell' = true) :
    (Builtin.copy_ #[dT, sT] ty #[.slice (some ⟨g, o, none⟩) dLen dCap, .slice (some a) sLen sCap]).run Tryd.prog w =
      .ok (goInt m) (w.setRow g (cur.toList.take o ++ cs ++ cur.toList.drop (o + cs.length)).toArray) := by
  have hl := run_loadCells_list (P := Tryd.prog) w a cs hsrc
  rw [hn] at hl
  have hst := run_storeCells_at Tryd.prog g o t cs 0 cur w hg (by simpa using hfit) h1
  obtain ⟨i, hq, _, hi, _⟩ := zero70
  simp [Builtin.copy_, run_underlying hu, Builtin.lenOf, Builtin.firstCells, sizeOf, typeInfo, hq, hi, ← hm, hl, hst]

theorem append_67 (ty : TypeId) (v x : Value) (w : World) : (Builtin.append_ #[68, 67] ty #[v, x]).run Tryd.prog w = (Builtin.append_ #[68, 68] ty #[v, x]).run Tryd.prog w := by
  unfold Builtin.append_
  cases v <;> simp [Sem.run_bind, run_underlying Tryd.underlying67, run_underlying Tryd.underlying68, Tryd.sizeOf70]
theorem wpList_append_blobs67 {w : World} {ops : Array Oper} {rest : List Oper} {o : Oper} {a : Act} {Q : Exit → Act → World → Prop} (hgd : o.guard = none) (s x : Operand)
    (ho : o.op = .call { callee := .builtin .append, args := #[s, x], argTypes := #[68, 67] })
    (base : Nat) (v : Value) (bl : List Bl) (hs : a.eval s = v) (hown : w.ownsRow base 70 2 v bl.length (Row bl))
    (ad : Addr) (nb : List Bl) (m c : Nat) (hm : nb.length = m) (hx : a.eval x = .slice (some ad) m c) (hr : RowAt w (some ad) nb)
    (h63 : bl.length + m ≤ 1000000) (hbase : base ≤ w.heap.size)
    (h : ∀ v' w', w'.ownsRow base 70 2 v' (bl ++ nb).length (Row (bl ++ nb)) → w.grownBy w' v.ownBlock → wpList Tryd.prog ops Q rest (a.put o.dst v') w') :
    wpList Tryd.prog ops Q (o :: rest) a w := by
  subst hm
  obtain ⟨i0, hi0, hz0, hz1, hz2⟩ := zero70
  obtain ⟨v', w', hrun, h1, h2, _⟩ := run_append_own w base 68 o.type 70 i0 _ 2 40 Tryd.underlying68 hi0 hz0 hz1 hz2 rfl (by decide) v _ _ hown ad nb.length c (Row nb) (by rw [Row_length])
    hr.cells (Row_mem _) (by unfold maxLen; omega) (by omega) hbase
  refine wpList_plain hgd fun _ hK => ?_
  unfold Oper.wp execOp
  simp only [ho, resolve, invoke, builtin, Sem.run_bind, Sem.run_pure, Result.andThen_ok, List.map_toArray, List.map_cons, List.map_nil, hs, hx, append_67, hrun]
  exact hK _ _ (h v' w' (by rw [List.length_append, Row_append]; exact h1) h2)

set_option maxHeartbeats 1000000 in
set_option maxRecDepth 100000 in
theorem insert_end (bl : List Bl) (b : Bl) (v : Value) (base vb : Nat) (w : World) (hb : base ≤ w.heap.size) (hown : w.ownsRow base 70 2 v bl.length (Row bl)) (hr : RowAt w (some ⟨vb, 0, none⟩) [b]) (hn : bl.length ≤ 1000) :
    Calls Tryd.prog 92 #[v, .int .i64 (bl.length : Int), .slice (some ⟨vb, 0, none⟩) 1 1] w fun e w' => ∃ v', e = .returned v' ∧ w'.ownsRow base 70 2 v' (bl ++ [b]).length (Row (bl ++ [b])) ∧ w.grownBy w' v.ownBlock := by
  have HO := Lib.hid hown; have HR := Lib.hid hr
  obtain ⟨A, c, rfl, hc1, hc2, _⟩ := own_row hown
  clear hown hr
  generalize hl : bl.length = n at *
  have HL := Lib.hid hl
  clear hl
  cases A with
  | none =>
    obtain rfl := hc2 rfl
    obtain rfl : n = 0 := by omega
    rw [show ((0 : Nat) : Int) = 0 from rfl]
    go_enter Tryd.func92, Tryd.ntmps92
    go_wp2_with (refine wpList_append_blobs67 rfl (.tmp 23) (.tmp 24) rfl base (.slice none 0 0) bl rfl (by rw [HL.out]; exact HO.out) ⟨vb, 0, none⟩ [b] 1 1 rfl rfl HR.out (by rw [HL.out]; omega) hb ?_; rintro v' w' h1 h2)
    go_ret
    exact ⟨v', rfl, by simpa [HL.out] using h1, h2⟩
  | some a =>
    go_enter Tryd.func92, Tryd.ntmps92
    go_wp2_with (refine wpList_append_blobs67 rfl (.tmp 23) (.tmp 24) rfl base (.slice (some a) n c) bl rfl (by rw [HL.out]; exact HO.out) ⟨vb, 0, none⟩ [b] 1 1 rfl rfl HR.out (by rw [HL.out]; omega) hb ?_; rintro v' w' h1 h2)
    all_goals
      go_ret
      exact ⟨v', rfl, by simpa [HL.out] using h1, h2⟩

theorem Row_take (bl : List Bl) (i : Nat) : (Row bl).take (2 * i) = Row (bl.take i) := by
  induction bl generalizing i with
  | nil => simp [Row]
  | cons x l ih =>
    cases i with
    | zero => rfl
    | succ i =>
      rw [Row_cons, show 2 * (i + 1) = 2 * i + 1 + 1 by omega, List.take_succ_cons, List.take_succ_cons, ih, List.take_succ_cons, Row_cons]
theorem Row_drop (bl : List Bl) (i : Nat) : (Row bl).drop (2 * i) = Row (bl.drop i) := by
  induction bl generalizing i with
  | nil => simp [Row]
  | cons x l ih =>
    cases i with
    | zero => rfl
    | succ i =>
      rw [Row_cons, show 2 * (i + 1) = 2 * i + 1 + 1 by omega, List.drop_succ_cons, List.drop_succ_cons, ih, List.drop_succ_cons]

theorem ins_row (X C D : List Value) (i n : Nat) (hi : i < n) (hX : (n + 1) * 2 ≤ X.length) (hC : C.length = 2) (hD : D = (X.take (n * 2)).drop (i * 2)) :
    (((X.take ((i + 1) * 2) ++ D ++ X.drop ((i + 1) * 2 + D.length)).take (i * 2) ++ C ++ (X.take ((i + 1) * 2) ++ D ++ X.drop ((i + 1) * 2 + D.length)).drop (i * 2 + C.length)).take ((n + 1) * 2) = (X.take (n * 2)).take (i * 2) ++ C ++ D) ∧
    ((X.take ((i + 1) * 2) ++ D ++ X.drop ((i + 1) * 2 + D.length)).take (i * 2) ++ C ++ (X.take ((i + 1) * 2) ++ D ++ X.drop ((i + 1) * 2 + D.length)).drop (i * 2 + C.length)).length = X.length := by
  have hDl : D.length = n * 2 - i * 2 := by rw [hD, List.length_drop, List.length_take]; omega
  have h1 : (X.take ((i + 1) * 2) ++ D ++ X.drop ((i + 1) * 2 + D.length)).take (i * 2) = X.take (i * 2) := by
    rw [List.append_assoc, List.take_append_of_le_length (by rw [List.length_take]; omega), List.take_take, Nat.min_eq_left (by omega)]
  have h2 : (X.take ((i + 1) * 2) ++ D ++ X.drop ((i + 1) * 2 + D.length)).drop (i * 2 + C.length) = D ++ X.drop ((i + 1) * 2 + D.length) := by
    rw [List.append_assoc, List.drop_append_of_le_length (by rw [List.length_take]; omega), List.drop_of_length_le (by rw [List.length_take]; omega), List.nil_append]
  rw [h1, h2]
  constructor
  · have h3 : (X.take (i * 2) ++ C ++ D).length = (n + 1) * 2 := by rw [List.length_append, List.length_append, List.length_take, hC, hDl]; omega
    rw [← List.append_assoc, List.take_append_of_le_length (by omega), List.take_of_length_le (by omega), List.take_take, Nat.min_eq_left (by omega)]
  · rw [List.length_append, List.length_append, List.length_append, List.length_take, List.length_drop, hC, hDl]; omega
theorem add_lit' (g o j : Nat) : (⟨g, o, none⟩ : Addr).add j = ⟨g, o + j, none⟩ := by unfold Addr.add; split <;> simp_all
theorem grown_setRow {w w1 : World} {g : Nat} (h : w.grownBy w1 (some g)) (cs : Array Value) : w.grownBy (w1.setRow g cs) (some g) :=
  ⟨h.os, h.tape, h.output, by rw [setRow_size]; exact h.size, fun k hk hne => (setRow_other w1 g k cs (fun e => hne (by rw [e]))).trans (h.block k hk hne)⟩

set_option maxHeartbeats 1000000 in
set_option maxRecDepth 100000 in
theorem insert_shift (bl : List Bl) (b : Bl) (g cap i base vb : Nat) (cur : Array Value) (w : World) (hi : i < bl.length) (hroom : bl.length + 1 ≤ cap) (hcap : cap ≤ maxLen) (hbg : base ≤ g) (hg : w.heap[g]? = some (.cells cur 70 (0, 0))) (hcur : cur.size = cap * 2) (htk : cur.toList.take (bl.length * 2) = Row bl)
    (hvb : w.heap[vb]? = some (.cells b.cells.toArray 70 (0, 0))) (hne : vb ≠ g) (hn : bl.length ≤ 1000) :
    Calls Tryd.prog 92 #[.slice (some ⟨g, 0, none⟩) bl.length cap, .int .i64 (i : Int), .slice (some ⟨vb, 0, none⟩) 1 1] w fun e w' => ∃ v', e = .returned v' ∧ w'.ownsRow base 70 2 v' (bl.length + 1) (Row (bl.take i ++ [b] ++ bl.drop i)) ∧ w.grownBy w' (some g) := by
  generalize hl : bl.length = n at *
  have HL := Lib.hid hl; have HTK := Lib.hid htk; have HG := Lib.hid hg; have HVB := Lib.hid hvb; have HCUR := Lib.hid hcur
  have hov : ∀ lb cb, (callFunc 113 #[.slice (some ⟨vb, 0, none⟩) 1 1, .slice (some ⟨g, (i + 1) * 2, none⟩) lb cb]).run Tryd.prog w = .ok (.value (.bool false)) w := fun lb cb => by
    rw [run_callFunc_extern Tryd.func113 (by kernel_rfl) (by kernel_rfl) (by kernel_rfl) (e := Extern.SlicesOverlaps.overlaps #[67, 67] #[4]) (by kernel_rfl),
      Lib.run_overlaps_apart w 67 4 70 Tryd.underlying67 2 Tryd.sizeOf70 ⟨vb, 0, none⟩ ⟨g, (i + 1) * 2, none⟩ 1 1 lb cb hne 70 70 2 cur.size (by simp [World.shape?, hvb, Bl.cells]) (by simp [World.shape?, hg]) (by omega) (by simp [World.frozen?, hvb]) (by simp [World.frozen?, hvb])]
    rfl
  clear hl htk hg hvb hcur
  have e1 : ((i : Int) == (n : Int)) = false := by rw [beq_eq_false_iff_ne]; omega
  have e2 : ¬ ((cap : Int) < (n : Int) + 1) := by omega
  go_enter Tryd.func92, Tryd.ntmps92
  go_wp2_with (simp only [hov])
  have hw1 : IntKind.i64.wrap ((i : Int) + 1) = (i : Int) + 1 := IntWalk.i64_in _ (by omega)
  have hb1 : (0 : Int) ≤ (i : Int) + 1 := by omega
  have htn : ((i : Int) + 1).toNat = i + 1 := by omega
  have hb2 : ¬ (cap = i + 1) := by omega
  have hb3 : (i : Int) ≤ (n : Int) + 1 := by omega
  have hb4 : ¬ (cap = i) := by omega
  have hb5 : (i : Int) ≤ (n : Int) := by omega
  have hb6 : i + 1 ≤ n + 1 := by omega
  have hb7 : i ≤ n + 1 := by omega
  refine wp_region_still_tail 8 (by kernel_rfl) (by kernel_rfl) ?_
  change wpStill _ _ w.drew (fun a' => wpList _ _ _ _ a' w.drew) _ _
  simp only [List.take_succ_cons, List.take_zero, List.drop_succ_cons, List.drop_zero]
  repeat still_step
  refine wpStill_nil ?_
  have hC : cur.size = cap * 2 := HCUR.out
  have hXl : cur.toList.length = cap * 2 := by rw [Array.length_toList]; exact hC
  have hDd : Row (bl.drop i) = (cur.toList.take (n * 2)).drop (i * 2) := by rw [HTK.out, show i * 2 = 2 * i by omega, Row_drop]
  have hDl : (Row (bl.drop i)).length = (n - i) * 2 := by rw [Row_length, List.length_drop, HL.out]
  have hgd : w.drew.heap[g]? = some (.cells cur 70 (0, 0)) := HG.out
  have hsrc : ∀ j v, (Row (bl.drop i))[j]? = some v → w.drew.cell? ((⟨g, i * 2, none⟩ : Addr).add j) = some v := fun j v hv => by
    have hj : j < (n - i) * 2 := by rw [← hDl]; exact (List.getElem?_eq_some_iff.1 hv).1
    rw [add_lit', cell_of_row _ _ _ _ _ _ hgd, ← hv, hDd, List.getElem?_drop, List.getElem?_take, if_pos (by omega), Array.getElem?_toList]
  have hcp1 := fun ty dc sc => run_copy_row2 w.drew 68 68 ty g ((i + 1) * 2) (n - i) dc ⟨g, i * 2, none⟩ (n + 1 - i) sc cur 70 (Row (bl.drop i)) (n - i) Tryd.underlying68 (by simp only [Nat.min_def]; split <;> omega) hgd hDl hsrc (by rw [hDl, hC]; omega) (Row_mem _)
  have hnl := ins_row cur.toList b.cells (Row (bl.drop i)) i n hi (by rw [hXl]; omega) rfl hDd
  have HNL := Lib.hid hnl; have HCP1 := Lib.hid hcp1; have HDL := Lib.hid hDl
  clear hnl hcp1 hDl hsrc hDd hov
  refine wpList_copy_runI _ rfl _ _ 68 68 rfl _ _ rfl rfl (HCP1.out _ _ _) ?_
  have hg1 := setRow_heap w.drew g cur (cur.toList.take ((i + 1) * 2) ++ Row (bl.drop i) ++ cur.toList.drop ((i + 1) * 2 + (Row (bl.drop i)).length)).toArray 70 (0, 0) hgd
  have hgr1 : w.grownBy (w.drew.setRow g (cur.toList.take ((i + 1) * 2) ++ Row (bl.drop i) ++ cur.toList.drop ((i + 1) * 2 + (Row (bl.drop i)).length)).toArray) (some g) := grown_setRow (w := w) (w1 := w.drew) ⟨rfl, rfl, rfl, Nat.le_refl _, fun _ _ _ => rfl⟩ _
  have hv1 : (w.drew.setRow g (cur.toList.take ((i + 1) * 2) ++ Row (bl.drop i) ++ cur.toList.drop ((i + 1) * 2 + (Row (bl.drop i)).length)).toArray).heap[vb]? = some (.cells b.cells.toArray 70 (0, 0)) := (setRow_other _ g vb _ hne).trans HVB.out
  generalize w.drew.setRow g (cur.toList.take ((i + 1) * 2) ++ Row (bl.drop i) ++ cur.toList.drop ((i + 1) * 2 + (Row (bl.drop i)).length)).toArray = W1 at *
  have hX1l : (cur.toList.take ((i + 1) * 2) ++ Row (bl.drop i) ++ cur.toList.drop ((i + 1) * 2 + (Row (bl.drop i)).length)).length = cap * 2 := by
    rw [List.length_append, List.length_append, List.length_take, List.length_drop, HDL.out, hXl]; omega
  have HX1L := Lib.hid hX1l
  clear hX1l
  generalize hX1 : cur.toList.take ((i + 1) * 2) ++ Row (bl.drop i) ++ cur.toList.drop ((i + 1) * 2 + (Row (bl.drop i)).length) = X1 at *
  have hcp2 := fun ty dc => run_copy_row2 W1 68 67 ty g (i * 2) (n + 1 - i) dc ⟨vb, 0, none⟩ 1 1 X1.toArray 70 b.cells 1 Tryd.underlying68 (by simp only [Nat.min_def]; split <;> omega) hg1 rfl
    (fun j v hv => by rw [add_lit', cell_of_row _ _ _ _ _ _ hv1, Nat.zero_add, List.getElem?_toArray]; exact hv) (by show i * 2 + 2 ≤ X1.length; have := HX1L.out; omega) (fun v hv => Row_mem [b] v (by simpa [Row] using hv))
  have HCP2 := Lib.hid hcp2; have HG1 := Lib.hid hg1; have HGR1 := Lib.hid hgr1
  clear hcp2 hg1 hgr1 hv1 hgd hX1 hXl hC
  go_wp2_with (refine wpList_copy_runI _ rfl _ _ 68 67 rfl _ _ rfl rfl (HCP2.out _ _) ?_)
  go_ret
  refine ⟨.slice (some ⟨g, 0, none⟩) (n + 1) cap, rfl, ⟨?_, .inr ⟨g, cap, _, rfl, hbg, setRow_heap W1 g _ _ 70 (0, 0) HG1.out, hroom, hcap, ?_, ?_⟩⟩, grown_setRow HGR1.out _⟩
  · simp only [Row_length, List.length_append, List.length_take, List.length_cons, List.length_drop, HL.out]; omega
  · have := HNL.out.2
    rw [show cur.toList.length = cap * 2 by rw [Array.length_toList]; exact HCUR.out] at this
    rw [List.size_toArray, ← List.append_assoc]
    exact this
  · have := HNL.out.1
    rw [HTK.out, show i * 2 = 2 * i by omega, Row_take] at this
    rw [show i * 2 = 2 * i by omega, ← List.append_assoc, Row_append, show Row (b :: bl.drop i) = b.cells ++ Row (bl.drop i) from rfl, ← List.append_assoc]
    exact this
end Go.Proofs.YtbioclpobmgikaaDoor
