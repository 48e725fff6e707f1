/- A blob is set in and put: walks. -/
import Derived.Test.YtbioclpobmgikaaDoorG1
import Derived.Laws.CopyRow
import Derived.Lib.Overlaps
import Derived.Lib.AppendZerosOnto
import Derived.Shelf.Spec.SlicesInsert
import Derived.Lib.SlBytesConst
namespace Go.Proofs.YtbioclpobmgikaaDoor
open Go.RowKit

theorem run_copy_row2 (w : World) (dT sT ty : TypeId) (g o dLen dCap : Nat) (a : Addr) (sLen sCap : Nat) (cur : Array Value) (t : TypeId) (cs : List Value) (m : Nat)
    (hu : Tryd.prog.underlying dT = some (.slice 70)) (hm : m = Nat.min sLen dLen)
    (hg : w.heap[g]? = some (.cells cur t (0, 0))) (hn : cs.length = m * 2)
    (hsrc : ∀ j v, cs[j]? = some v → w.cell? (a.add j) = some v) (hfit : o + cs.length ≤ cur.size) (h1 : ∀ v ∈ cs, v.oneCell' = true) :
    (Builtin.copy_ #[dT, sT] ty #[.slice (some ⟨g, o, none⟩) dLen dCap, .slice (some a) sLen sCap]).run Tryd.prog w =
      .ok (goInt m) (w.setRow g (cur.toList.take o ++ cs ++ cur.toList.drop (o + cs.length)).toArray) := by
  have hl := run_loadCells_list (P := Tryd.prog) w a cs hsrc
  rw [hn] at hl
  have hst := run_storeCells_at Tryd.prog g o t cs 0 cur w hg (by simpa using hfit) h1
  obtain ⟨i, hq, _, hi, _⟩ := zero70
  simp [Builtin.copy_, run_underlying hu, Builtin.lenOf, Builtin.firstCells, sizeOf, typeInfo, hq, hi, ← hm, hl, hst]

theorem append_67 (ty : TypeId) (v x : Value) (w : World) : (Builtin.append_ #[68, 67] ty #[v, x]).run Tryd.prog w = (Builtin.append_ #[68, 68] ty #[v, x]).run Tryd.prog w := by
  unfold Builtin.append_
  cases v <;> simp [Sem.run_bind, run_underlying Tryd.underlying67, run_underlying Tryd.underlying68, Tryd.sizeOf70]
theorem wpList_append_blobs67 {w : World} {ops : Array Oper} {rest : List Oper} {o : Oper} {a : Act} {Q : Exit → Act → World → Prop} (hgd : o.guard = none) (s x : Operand)
    (ho : o.op = .call { callee := .builtin .append, args := #[s, x], argTypes := #[68, 67] })
    (base : Nat) (v : Value) (bl : List Bl) (hs : a.eval s = v) (hown : w.ownsRow base 70 2 v bl.length (Row bl))
    (ad : Addr) (nb : List Bl) (m c : Nat) (hm : nb.length = m) (hx : a.eval x = .slice (some ad) m c) (hr : RowAt w (some ad) nb)
    (h63 : bl.length + m ≤ 1000000) (hbase : base ≤ w.heap.size)
    (h : ∀ v' w', w'.ownsRow base 70 2 v' (bl ++ nb).length (Row (bl ++ nb)) → w.grownBy w' v.ownBlock → wpList Tryd.prog ops Q rest (a.put o.dst v') w') :
    wpList Tryd.prog ops Q (o :: rest) a w := by
  subst hm
  obtain ⟨i0, hi0, hz0, hz1, hz2⟩ := zero70
  obtain ⟨v', w', hrun, h1, h2, _⟩ := run_append_own w base 68 o.type 70 i0 _ 2 40 Tryd.underlying68 hi0 hz0 hz1 hz2 rfl (by decide) v _ _ hown ad nb.length c (Row nb) (by rw [Row_length])
    hr.cells (Row_mem _) (by unfold maxLen; omega) (by omega) hbase
  refine wpList_plain hgd fun _ hK => ?_
  unfold Oper.wp execOp
  simp only [ho, resolve, invoke, builtin, Sem.run_bind, Sem.run_pure, Result.andThen_ok, List.map_toArray, List.map_cons, List.map_nil, hs, hx, append_67, hrun]
  exact hK _ _ (h v' w' (by rw [List.length_append, Row_append]; exact h1) h2)

set_option maxHeartbeats 1000000 in
set_option maxRecDepth 100000 in
theorem insert_end (bl : List Bl) (b : Bl) (v : Value) (base vb : Nat) (w : World) (hb : base ≤ w.heap.size) (hown : w.ownsRow base 70 2 v bl.length (Row bl)) (hr : RowAt w (some ⟨vb, 0, none⟩) [b]) (hn : bl.length ≤ 1000) :
    Calls Tryd.prog 92 #[v, .int .i64 (bl.length : Int), .slice (some ⟨vb, 0, none⟩) 1 1] w fun e w' => ∃ v', e = .returned v' ∧ w'.ownsRow base 70 2 v' (bl ++ [b]).length (Row (bl ++ [b])) ∧ w.grownBy w' v.ownBlock := by
  have HO := Lib.hid hown; have HR := Lib.hid hr
  obtain ⟨A, c, rfl, hc1, hc2, _⟩ := own_row hown
  clear hown hr
  generalize hl : bl.length = n at *
  have HL := Lib.hid hl
  clear hl
  cases A with
  | none =>
    obtain rfl := hc2 rfl
    obtain rfl : n = 0 := by omega
    rw [show ((0 : Nat) : Int) = 0 from rfl]
    go_enter Tryd.func92, Tryd.ntmps92
    go_wp2_with (refine wpList_append_blobs67 rfl (.tmp 23) (.tmp 24) rfl base (.slice none 0 0) bl rfl (by rw [HL.out]; exact HO.out) ⟨vb, 0, none⟩ [b] 1 1 rfl rfl HR.out (by rw [HL.out]; omega) hb ?_; rintro v' w' h1 h2)
    go_ret
    exact ⟨v', rfl, by simpa [HL.out] using h1, h2⟩
  | some a =>
    go_enter Tryd.func92, Tryd.ntmps92
    go_wp2_with (refine wpList_append_blobs67 rfl (.tmp 23) (.tmp 24) rfl base (.slice (some a) n c) bl rfl (by rw [HL.out]; exact HO.out) ⟨vb, 0, none⟩ [b] 1 1 rfl rfl HR.out (by rw [HL.out]; omega) hb ?_; rintro v' w' h1 h2)
    all_goals
      go_ret
      exact ⟨v', rfl, by simpa [HL.out] using h1, h2⟩

theorem Row_take (bl : List Bl) (i : Nat) : (Row bl).take (2 * i) = Row (bl.take i) := by
  induction bl generalizing i with
  | nil => simp [Row]
  | cons x l ih =>
    cases i with
    | zero => rfl
    | succ i =>
      rw [Row_cons, show 2 * (i + 1) = 2 * i + 1 + 1 by omega, List.take_succ_cons, List.take_succ_cons, ih, List.take_succ_cons, Row_cons]
theorem Row_drop (bl : List Bl) (i : Nat) : (Row bl).drop (2 * i) = Row (bl.drop i) := by
  induction bl generalizing i with
  | nil => simp [Row]
  | cons x l ih =>
    cases i with
    | zero => rfl
    | succ i =>
      rw [Row_cons, show 2 * (i + 1) = 2 * i + 1 + 1 by omega, List.drop_succ_cons, List.drop_succ_cons, ih, List.drop_succ_cons]

theorem ins_row (X C D : List Value) (i n : Nat) (hi : i < n) (hX : (n + 1) * 2 ≤ X.length) (hC : C.length = 2) (hD : D = (X.take (n * 2)).drop (i * 2)) :
    (((X.take ((i + 1) * 2) ++ D ++ X.drop ((i + 1) * 2 + D.length)).take (i * 2) ++ C ++ (X.take ((i + 1) * 2) ++ D ++ X.drop ((i + 1) * 2 + D.length)).drop (i * 2 + C.length)).take ((n + 1) * 2) = (X.take (n * 2)).take (i * 2) ++ C ++ D) ∧
    ((X.take ((i + 1) * 2) ++ D ++ X.drop ((i + 1) * 2 + D.length)).take (i * 2) ++ C ++ (X.take ((i + 1) * 2) ++ D ++ X.drop ((i + 1) * 2 + D.length)).drop (i * 2 + C.length)).length = X.length := by
  have hDl : D.length = n * 2 - i * 2 := by rw [hD, List.length_drop, List.length_take]; omega
  have h1 : (X.take ((i + 1) * 2) ++ D ++ X.drop ((i + 1) * 2 + D.length)).take (i * 2) = X.take (i * 2) := by
    rw [List.append_assoc, List.take_append_of_le_length (by rw [List.length_take]; omega), List.take_take, Nat.min_eq_left (by omega)]
  have h2 : (X.take ((i + 1) * 2) ++ D ++ X.drop ((i + 1) * 2 + D.length)).drop (i * 2 + C.length) = D ++ X.drop ((i + 1) * 2 + D.length) := by
    rw [List.append_assoc, List.drop_append_of_le_length (by rw [List.length_take]; omega), List.drop_of_length_le (by rw [List.length_take]; omega), List.nil_append]
  rw [h1, h2]
  constructor
  · have h3 : (X.take (i * 2) ++ C ++ D).length = (n + 1) * 2 := by rw [List.length_append, List.length_append, List.length_take, hC, hDl]; omega
    rw [← List.append_assoc, List.take_append_of_le_length (by omega), List.take_of_length_le (by omega), List.take_take, Nat.min_eq_left (by omega)]
  · rw [List.length_append, List.length_append, List.length_append, List.length_take, List.length_drop, hC, hDl]; omega
theorem add_lit' (g o j : Nat) : (⟨g, o, none⟩ : Addr).add j = ⟨g, o + j, none⟩ := by unfold Addr.add; split <;> simp_all
theorem grown_setRow {w w1 : World} {g : Nat} (h : w.grownBy w1 (some g)) (cs : Array Value) : w.grownBy (w1.setRow g cs) (some g) :=
  ⟨h.os, h.tape, h.output, by rw [setRow_size]; exact h.size, fun k hk hne => (setRow_other w1 g k cs (fun e => hne (by rw [e]))).trans (h.block k hk hne)⟩

set_option maxHeartbeats 1000000 in
set_option maxRecDepth 100000 in
theorem insert_shift (bl : List Bl) (b : Bl) (g cap i base vb : Nat) (cur : Array Value) (w : World) (hi : i < bl.length) (hroom : bl.length + 1 ≤ cap) (hcap : cap ≤ maxLen) (hbg : base ≤ g) (hg : w.heap[g]? = some (.cells cur 70 (0, 0))) (hcur : cur.size = cap * 2) (htk : cur.toList.take (bl.length * 2) = Row bl)
    (hvb : w.heap[vb]? = some (.cells b.cells.toArray 70 (0, 0))) (hne : vb ≠ g) (hn : bl.length ≤ 1000) :
    Calls Tryd.prog 92 #[.slice (some ⟨g, 0, none⟩) bl.length cap, .int .i64 (i : Int), .slice (some ⟨vb, 0, none⟩) 1 1] w fun e w' => ∃ v', e = .returned v' ∧ w'.ownsRow base 70 2 v' (bl.length + 1) (Row (bl.take i ++ [b] ++ bl.drop i)) ∧ w.grownBy w' (some g) := by
  generalize hl : bl.length = n at *
  have HL := Lib.hid hl; have HTK := Lib.hid htk; have HG := Lib.hid hg; have HVB := Lib.hid hvb; have HCUR := Lib.hid hcur
  have hov : ∀ lb cb, (callFunc 113 #[.slice (some ⟨vb, 0, none⟩) 1 1, .slice (some ⟨g, (i + 1) * 2, none⟩) lb cb]).run Tryd.prog w = .ok (.value (.bool false)) w := fun lb cb => by
    rw [run_callFunc_extern Tryd.func113 (by kernel_rfl) (by kernel_rfl) (by kernel_rfl) (e := Extern.SlicesOverlaps.overlaps #[67, 67] #[4]) (by kernel_rfl),
      Lib.run_overlaps_apart w 67 4 70 Tryd.underlying67 2 Tryd.sizeOf70 ⟨vb, 0, none⟩ ⟨g, (i + 1) * 2, none⟩ 1 1 lb cb hne 70 70 2 cur.size (by simp [World.shape?, hvb, Bl.cells]) (by simp [World.shape?, hg]) (by omega) (by simp [World.frozen?, hvb]) (by simp [World.frozen?, hvb])]
    rfl
  clear hl htk hg hvb hcur
  have e1 : ((i : Int) == (n : Int)) = false := by rw [beq_eq_false_iff_ne]; omega
  have e2 : ¬ ((cap : Int) < (n : Int) + 1) := by omega
  go_enter Tryd.func92, Tryd.ntmps92
  go_wp2_with (simp only [hov])
  have hw1 : IntKind.i64.wrap ((i : Int) + 1) = (i : Int) + 1 := IntWalk.i64_in _ (by omega)
  have hb1 : (0 : Int) ≤ (i : Int) + 1 := by omega
  have htn : ((i : Int) + 1).toNat = i + 1 := by omega
  have hb2 : ¬ (cap = i + 1) := by omega
  have hb3 : (i : Int) ≤ (n : Int) + 1 := by omega
  have hb4 : ¬ (cap = i) := by omega
  have hb5 : (i : Int) ≤ (n : Int) := by omega
  have hb6 : i + 1 ≤ n + 1 := by omega
  have hb7 : i ≤ n + 1 := by omega
  refine wp_region_still_tail 8 (by kernel_rfl) (by kernel_rfl) ?_
  change wpStill _ _ w.drew (fun a' => wpList _ _ _ _ a' w.drew) _ _
  simp only [List.take_succ_cons, List.take_zero, List.drop_succ_cons, List.drop_zero]
  repeat still_step
  refine wpStill_nil ?_
  have hC : cur.size = cap * 2 := HCUR.out
  have hXl : cur.toList.length = cap * 2 := by rw [Array.length_toList]; exact hC
  have hDd : Row (bl.drop i) = (cur.toList.take (n * 2)).drop (i * 2) := by rw [HTK.out, show i * 2 = 2 * i by omega, Row_drop]
  have hDl : (Row (bl.drop i)).length = (n - i) * 2 := by rw [Row_length, List.length_drop, HL.out]
  have hgd : w.drew.heap[g]? = some (.cells cur 70 (0, 0)) := HG.out
  have hsrc : ∀ j v, (Row (bl.drop i))[j]? = some v → w.drew.cell? ((⟨g, i * 2, none⟩ : Addr).add j) = some v := fun j v hv => by
    have hj : j < (n - i) * 2 := by rw [← hDl]; exact (List.getElem?_eq_some_iff.1 hv).1
    rw [add_lit', cell_of_row _ _ _ _ _ _ hgd, ← hv, hDd, List.getElem?_drop, List.getElem?_take, if_pos (by omega), Array.getElem?_toList]
  have hcp1 := fun ty dc sc => run_copy_row2 w.drew 68 68 ty g ((i + 1) * 2) (n - i) dc ⟨g, i * 2, none⟩ (n + 1 - i) sc cur 70 (Row (bl.drop i)) (n - i) Tryd.underlying68 (by simp only [Nat.min_def]; split <;> omega) hgd hDl hsrc (by rw [hDl, hC]; omega) (Row_mem _)
  have hnl := ins_row cur.toList b.cells (Row (bl.drop i)) i n hi (by rw [hXl]; omega) rfl hDd
  have HNL := Lib.hid hnl; have HCP1 := Lib.hid hcp1; have HDL := Lib.hid hDl
  clear hnl hcp1 hDl hsrc hDd hov
  refine wpList_copy_runI _ rfl _ _ 68 68 rfl _ _ rfl rfl (HCP1.out _ _ _) ?_
  have hg1 := setRow_heap w.drew g cur (cur.toList.take ((i + 1) * 2) ++ Row (bl.drop i) ++ cur.toList.drop ((i + 1) * 2 + (Row (bl.drop i)).length)).toArray 70 (0, 0) hgd
  have hgr1 : w.grownBy (w.drew.setRow g (cur.toList.take ((i + 1) * 2) ++ Row (bl.drop i) ++ cur.toList.drop ((i + 1) * 2 + (Row (bl.drop i)).length)).toArray) (some g) := grown_setRow (w := w) (w1 := w.drew) ⟨rfl, rfl, rfl, Nat.le_refl _, fun _ _ _ => rfl⟩ _
  have hv1 : (w.drew.setRow g (cur.toList.take ((i + 1) * 2) ++ Row (bl.drop i) ++ cur.toList.drop ((i + 1) * 2 + (Row (bl.drop i)).length)).toArray).heap[vb]? = some (.cells b.cells.toArray 70 (0, 0)) := (setRow_other _ g vb _ hne).trans HVB.out
  generalize w.drew.setRow g (cur.toList.take ((i + 1) * 2) ++ Row (bl.drop i) ++ cur.toList.drop ((i + 1) * 2 + (Row (bl.drop i)).length)).toArray = W1 at *
  have hX1l : (cur.toList.take ((i + 1) * 2) ++ Row (bl.drop i) ++ cur.toList.drop ((i + 1) * 2 + (Row (bl.drop i)).length)).length = cap * 2 := by
    rw [List.length_append, List.length_append, List.length_take, List.length_drop, HDL.out, hXl]; omega
  have HX1L := Lib.hid hX1l
  clear hX1l
  generalize hX1 : cur.toList.take ((i + 1) * 2) ++ Row (bl.drop i) ++ cur.toList.drop ((i + 1) * 2 + (Row (bl.drop i)).length) = X1 at *
  have hcp2 := fun ty dc => run_copy_row2 W1 68 67 ty g (i * 2) (n + 1 - i) dc ⟨vb, 0, none⟩ 1 1 X1.toArray 70 b.cells 1 Tryd.underlying68 (by simp only [Nat.min_def]; split <;> omega) hg1 rfl
    (fun j v hv => by rw [add_lit', cell_of_row _ _ _ _ _ _ hv1, Nat.zero_add, List.getElem?_toArray]; exact hv) (by show i * 2 + 2 ≤ X1.length; have := HX1L.out; omega) (fun v hv => Row_mem [b] v (by simpa [Row] using hv))
  have HCP2 := Lib.hid hcp2; have HG1 := Lib.hid hg1; have HGR1 := Lib.hid hgr1
  clear hcp2 hg1 hgr1 hv1 hgd hX1 hXl hC
  go_wp2_with (refine wpList_copy_runI _ rfl _ _ 68 67 rfl _ _ rfl rfl (HCP2.out _ _) ?_)
  go_ret
  refine ⟨.slice (some ⟨g, 0, none⟩) (n + 1) cap, rfl, ⟨?_, .inr ⟨g, cap, _, rfl, hbg, setRow_heap W1 g _ _ 70 (0, 0) HG1.out, hroom, hcap, ?_, ?_⟩⟩, grown_setRow HGR1.out _⟩
  · simp only [Row_length, List.length_append, List.length_take, List.length_cons, List.length_drop, HL.out]; omega
  · have := HNL.out.2
    rw [show cur.toList.length = cap * 2 by rw [Array.length_toList]; exact HCUR.out] at this
    rw [List.size_toArray, ← List.append_assoc]
    exact this
  · have := HNL.out.1
    rw [HTK.out, show i * 2 = 2 * i by omega, Row_take] at this
    rw [show i * 2 = 2 * i by omega, ← List.append_assoc, Row_append, show Row (b :: bl.drop i) = b.cells ++ Row (bl.drop i) from rfl, ← List.append_assoc]
    exact this
end Go.Proofs.YtbioclpobmgikaaDoor
namespace Go.Proofs.YtbioclpobmgikaaDoor
open Go.RowKit

theorem grown_setRow2 {w w1 : World} {g k : Nat} (h : w.grownBy w1 (some g)) (hk : w.heap.size ≤ k) (cs : Array Value) : w.grownBy (w1.setRow k cs) (some g) :=
  ⟨h.os, h.tape, h.output, by rw [setRow_size]; exact h.size, fun j hj hne => (setRow_other w1 k j cs (by omega)).trans (h.block j hj hne)⟩
theorem ins_row2 (X R C D : List Value) (i n : Nat) (hi : i < n) (hX : (n + 1) * 2 ≤ X.length) (hR : X.take (i * 2) = R) (hC : C.length = 2) (hD : D.length = (n - i) * 2) :
    (((X.take (i * 2) ++ C ++ X.drop (i * 2 + C.length)).take ((i + 1) * 2) ++ D ++ (X.take (i * 2) ++ C ++ X.drop (i * 2 + C.length)).drop ((i + 1) * 2 + D.length)).take ((n + 1) * 2) = R ++ C ++ D) ∧
    ((X.take (i * 2) ++ C ++ X.drop (i * 2 + C.length)).take ((i + 1) * 2) ++ D ++ (X.take (i * 2) ++ C ++ X.drop (i * 2 + C.length)).drop ((i + 1) * 2 + D.length)).length = X.length := by
  have hRl : R.length = i * 2 := by rw [← hR, List.length_take]; omega
  have h1 : (X.take (i * 2) ++ C ++ X.drop (i * 2 + C.length)).take ((i + 1) * 2) = R ++ C := by
    rw [hR, List.take_append_of_le_length (by rw [List.length_append]; omega), List.take_of_length_le (by rw [List.length_append]; omega)]
  rw [h1]
  have h3 : (R ++ C ++ D).length = (n + 1) * 2 := by rw [List.length_append, List.length_append, hRl, hC, hD]; omega
  constructor
  · rw [List.take_append_of_le_length (by omega), List.take_of_length_le (by omega)]
  · rw [List.length_append, h3, List.length_drop, List.length_append, List.length_append, List.length_take, List.length_drop, hC, hD]; omega

set_option maxHeartbeats 1000000 in
set_option maxRecDepth 100000 in
theorem insert_grow (bl : List Bl) (b : Bl) (g cap i base vb : Nat) (cur : Array Value) (w : World) (hb : base ≤ w.heap.size) (hi : i < bl.length) (hnc : bl.length ≤ cap) (hroom : cap < bl.length + 1) (hg : w.heap[g]? = some (.cells cur 70 (0, 0))) (hcur : cur.size = cap * 2) (htk : cur.toList.take (bl.length * 2) = Row bl)
    (hvb : w.heap[vb]? = some (.cells b.cells.toArray 70 (0, 0))) (hn : bl.length ≤ 1000) :
    Calls Tryd.prog 92 #[.slice (some ⟨g, 0, none⟩) bl.length cap, .int .i64 (i : Int), .slice (some ⟨vb, 0, none⟩) 1 1] w fun e w' => ∃ v', e = .returned v' ∧ w'.ownsRow base 70 2 v' (bl.length + 1) (Row (bl.take i ++ [b] ++ bl.drop i)) ∧ w.grownBy w' (some g) := by
  have hgw : g < w.heap.size := (Array.getElem?_eq_some_iff.1 hg).1
  have hvw : vb < w.heap.size := (Array.getElem?_eq_some_iff.1 hvb).1
  generalize hl : bl.length = n at *
  have HL := Lib.hid hl; have HTK := Lib.hid htk; have HG := Lib.hid hg; have HVB := Lib.hid hvb; have HCUR := Lib.hid hcur
  have hXl : cur.toList.length = cap * 2 := by rw [Array.length_toList]; exact hcur
  have hik : i + (n + 1 - i) = n + 1 := by omega
  obtain ⟨i0, hi0, hz0, hz1, hz2⟩ := zero70
  have hold : (Builtin.firstCells i0.size i (.slice (some ⟨g, 0, none⟩) i cap)).run Tryd.prog w.drew = .ok (Row (bl.take i)).toArray w.drew := by
    rw [hz1]
    refine run_firstCells_some w.drew 2 i ⟨g, 0, none⟩ i cap _ (by rw [Row_length, List.length_take]; omega) (fun j v hj => ?_)
    have hj2 : j < i * 2 := by have := (List.getElem?_eq_some_iff.1 hj).1; rw [Row_length, List.length_take] at this; omega
    rw [add_lit', cell_of_row w.drew _ _ _ _ _ hg, ← hj, ← Row_take, ← htk, List.getElem?_take, List.getElem?_take, if_pos (by omega), if_pos (by omega), Array.getElem?_toList, Nat.zero_add]
  have hrz : ∀ ty, (Builtin.append_ #[68, 3] ty #[.slice (some ⟨g, 0, none⟩) i cap, .int .i64 ((n + 1 - i : Nat) : Int)]).run Tryd.prog w =
      .ok (.slice (some ⟨w.heap.size, 0, none⟩) (n + 1) (grownCap w (n + 1) cap 70)) (w.drew.alloc (.cells ((Row (bl.take i)).toArray ++ Builtin.zeroCells (Value.agg #[.string ⟨#[]⟩, .slice none 0 0]).cells (n + 1 - i) ++ Builtin.zeroCells (Value.agg #[.string ⟨#[]⟩, .slice none 0 0]).cells (grownCap w (n + 1) cap 70 - (n + 1))) 70)) := fun ty => by
    have h := Lib.run_append_grow_zeros w 68 3 ty 70 i0 _ .i64 .i64 Tryd.underlying68 Tryd.underlying3 hi0 hz0 (some ⟨g, 0, none⟩) i cap (Row (bl.take i)) hold (n + 1 - i) (by omega) (by omega) (by omega) (by omega) (by rw [hz2]; omega) (by rw [hz2, hik]; exact growslice_fits hroom (by omega))
    rw [hik] at h
    exact h
  have hGn : n + 1 ≤ grownCap w (n + 1) cap 70 := grownCap_ge w _ _ _
  have hGm := grownCap_le_maxLen w (n + 1) cap 70 (by unfold maxLen; omega)
  generalize grownCap w (n + 1) cap 70 = G at *
  have hrow : ((Row (bl.take i)).toArray ++ Builtin.zeroCells (Value.agg #[.string ⟨#[]⟩, .slice none 0 0]).cells (n + 1 - i) ++ Builtin.zeroCells (Value.agg #[.string ⟨#[]⟩, .slice none 0 0]).cells (G - (n + 1))).size = G * 2 ∧ ((Row (bl.take i)).toArray ++ Builtin.zeroCells (Value.agg #[.string ⟨#[]⟩, .slice none 0 0]).cells (n + 1 - i) ++ Builtin.zeroCells (Value.agg #[.string ⟨#[]⟩, .slice none 0 0]).cells (G - (n + 1))).toList.take (i * 2) = Row (bl.take i) := by
    have hrl : (Row (bl.take i)).length = i * 2 := by rw [Row_length, List.length_take]; omega
    constructor
    · rw [Array.size_append, Array.size_append, size_zeroCells, size_zeroCells, List.size_toArray, hrl, show (Value.agg #[.string ⟨#[]⟩, .slice none 0 0]).cells.size = 2 from rfl]
      omega
    · rw [Array.toList_append, Array.toList_append, List.append_assoc, List.take_append_of_le_length (by rw [← hrl]; exact Nat.le_refl _)]
      exact List.take_of_length_le (by rw [← hrl]; exact Nat.le_refl _)
  generalize ((Row (bl.take i)).toArray ++ Builtin.zeroCells (Value.agg #[.string ⟨#[]⟩, .slice none 0 0]).cells (n + 1 - i) ++ Builtin.zeroCells (Value.agg #[.string ⟨#[]⟩, .slice none 0 0]).cells (G - (n + 1))) = X at *
  obtain ⟨hXs, hXt⟩ := hrow
  have HXS := Lib.hid hXs; have HXT := Lib.hid hXt; have HRZ := Lib.hid hrz
  clear hXs hXt hrz hold hl htk hg hvb hcur hi0 hz0 hz1 hz2 hXl
  have e1 : ((i : Int) == (n : Int)) = false := by rw [beq_eq_false_iff_ne]; omega
  have e2 : ((cap : Int) < (n : Int) + 1) := by omega
  have e3 : (n : Int) + 1 - (i : Int) = ((n + 1 - i : Nat) : Int) := by omega
  have hw0 : (w.alloc (.cells X 70)).drew.heap[w.heap.size]? = some (.cells X 70 (0, 0)) := heap_alloc_new w _
  have hold0 : ∀ k, k < w.heap.size → (w.alloc (.cells X 70)).drew.heap[k]? = w.heap[k]? := fun k hk => Lib.alloc_old w _ k hk
  have hgr0 : w.grownBy (w.alloc (.cells X 70)).drew (some g) := ⟨rfl, rfl, rfl, by show w.heap.size ≤ (w.alloc (.cells X 70)).heap.size; simp, fun k hk _ => hold0 k hk⟩
  have hcp1 := fun ty dc => run_copy_row2 (w.alloc (.cells X 70)).drew 68 67 ty w.heap.size (i * 2) (n + 1 - i) dc ⟨vb, 0, none⟩ 1 1 X 70 b.cells 1 Tryd.underlying68 (by simp only [Nat.min_def]; split <;> omega) hw0 rfl
    (fun j v hv => by rw [add_lit', cell_of_row _ _ _ _ _ _ ((hold0 vb hvw).trans HVB.out), Nat.zero_add, List.getElem?_toArray]; exact hv) (by rw [HXS.out]; show i * 2 + 2 ≤ _; omega) (fun v hv => Row_mem [b] v (by simpa [Row] using hv))
  have HCP1 := Lib.hid hcp1
  clear hcp1
  go_enter Tryd.func92, Tryd.ntmps92
  go_wp2_with (first
    | (at_builtin; refine Lib.wpList_append_run _ rfl _ _ _ _ rfl _ _ rfl rfl _ _ (HRZ.out _) ?_)
    | (refine wpList_copy_runI _ rfl _ _ 68 67 rfl _ _ rfl rfl (HCP1.out _ _) ?_))
  have hw1 : IntKind.i64.wrap ((i : Int) + 1) = (i : Int) + 1 := IntWalk.i64_in _ (by omega)
  have hb1 : (0 : Int) ≤ (i : Int) + 1 := by omega
  have htn : ((i : Int) + 1).toNat = i + 1 := by omega
  have hb2 : ¬ (G = i + 1) := by omega
  have hb3 : (i : Int) ≤ (n : Int) := by omega
  have hb4 : ¬ (cap = i) := by omega
  have hb6 : i + 1 ≤ n + 1 := by omega
  have hb7 : i ≤ n := by omega
  have hXTl : X.toList.length = G * 2 := by rw [Array.length_toList]; exact HXS.out
  have hDl : (Row (bl.drop i)).length = (n - i) * 2 := by rw [Row_length, List.length_drop, HL.out]
  have HNL := Lib.hid (ins_row2 X.toList (Row (bl.take i)) b.cells (Row (bl.drop i)) i n hi (by rw [hXTl]; omega) HXT.out rfl hDl)
  have hg1 := setRow_heap _ w.heap.size X (X.toList.take (i * 2) ++ b.cells ++ X.toList.drop (i * 2 + b.cells.length)).toArray 70 (0, 0) hw0
  have hgr1 := grown_setRow2 hgr0 (Nat.le_refl _) (X.toList.take (i * 2) ++ b.cells ++ X.toList.drop (i * 2 + b.cells.length)).toArray
  have hs1 := (setRow_other (w.alloc (.cells X 70)).drew w.heap.size g (X.toList.take (i * 2) ++ b.cells ++ X.toList.drop (i * 2 + b.cells.length)).toArray (by omega)).trans ((hold0 g hgw).trans HG.out)
  have hX1l : (X.toList.take (i * 2) ++ b.cells ++ X.toList.drop (i * 2 + b.cells.length)).length = G * 2 := by
    rw [List.length_append, List.length_append, List.length_take, List.length_drop, hXTl]; show min (i * 2) (G * 2) + 2 + (G * 2 - (i * 2 + 2)) = G * 2; omega
  have HX1L := Lib.hid hX1l
  clear hX1l hw0 hold0 hgr0 HCP1
  refine wp_region_still_tail 8 (by kernel_rfl) (by kernel_rfl) ?_
  generalize (w.alloc (.cells X 70)).drew.setRow w.heap.size (X.toList.take (i * 2) ++ b.cells ++ X.toList.drop (i * 2 + b.cells.length)).toArray = W1 at *
  generalize hX1 : X.toList.take (i * 2) ++ b.cells ++ X.toList.drop (i * 2 + b.cells.length) = X1 at *
  change wpStill _ _ W1.drew (fun a' => wpList _ _ _ _ a' W1.drew) _ _
  simp only [List.take_succ_cons, List.take_zero, List.drop_succ_cons, List.drop_zero]
  repeat still_step
  refine wpStill_nil ?_
  have hs1d : W1.drew.heap[g]? = some (.cells cur 70 (0, 0)) := hs1
  have hg1d : W1.drew.heap[w.heap.size]? = some (.cells X1.toArray 70 (0, 0)) := hg1
  have hcp2 := fun ty dc sc => run_copy_row2 W1.drew 68 68 ty w.heap.size ((i + 1) * 2) (n - i) dc ⟨g, i * 2, none⟩ (n - i) sc X1.toArray 70 (Row (bl.drop i)) (n - i) Tryd.underlying68 (by simp only [Nat.min_def]; split <;> omega) hg1d hDl
    (fun j v hv => by
      have hj : j < (n - i) * 2 := by rw [← hDl]; exact (List.getElem?_eq_some_iff.1 hv).1
      rw [add_lit', cell_of_row _ _ _ _ _ _ hs1d, ← hv, ← Row_drop, ← HTK.out, List.getElem?_drop, List.getElem?_take, show 2 * i + j = i * 2 + j by omega, if_pos (by omega), Array.getElem?_toList])
    (by rw [hDl, List.size_toArray, HX1L.out]; omega) (Row_mem _)
  have HCP2 := Lib.hid hcp2; have HG1 := Lib.hid hg1d; have HGR1 := Lib.hid hgr1
  clear hcp2 hg1d hgr1 hs1d hg1 hs1 hX1 hDl
  refine wpList_copy_runI _ rfl _ _ 68 68 rfl _ _ rfl rfl (HCP2.out _ _ _) ?_
  go_wp2_with fail
  go_ret
  refine ⟨.slice (some ⟨w.heap.size, 0, none⟩) (n + 1) G, rfl, ⟨?_, .inr ⟨w.heap.size, G, _, rfl, hb, setRow_heap W1.drew w.heap.size _ _ 70 (0, 0) HG1.out, hGn, hGm, ?_, ?_⟩⟩, grown_setRow2 (w1 := W1.drew) ⟨HGR1.out.os, HGR1.out.tape, HGR1.out.output, HGR1.out.size, HGR1.out.block⟩ (Nat.le_refl _) _⟩
  · simp only [Row_length, List.length_append, List.length_take, List.length_cons, List.length_drop, HL.out]; omega
  · have := HNL.out.2
    rw [hXTl] at this
    rw [List.size_toArray, ← List.append_assoc]
    exact this
  · have := HNL.out.1
    rw [← List.append_assoc, Row_append, show Row (b :: bl.drop i) = b.cells ++ Row (bl.drop i) from rfl, ← List.append_assoc]
    exact this

theorem insert_any (bl : List Bl) (b : Bl) (v : Value) (i base vb : Nat) (w : World) (hb : base ≤ w.heap.size) (hi : i ≤ bl.length) (hown : w.ownsRow base 70 2 v bl.length (Row bl))
    (hvb : w.heap[vb]? = some (.cells b.cells.toArray 70 (0, 0))) (hne : v.ownBlock ≠ some vb) (hn : bl.length ≤ 1000) :
    Calls Tryd.prog 92 #[v, .int .i64 (i : Int), .slice (some ⟨vb, 0, none⟩) 1 1] w fun e w' => ∃ v', e = .returned v' ∧ w'.ownsRow base 70 2 v' (bl.length + 1) (Row (bl.take i ++ [b] ++ bl.drop i)) ∧ w.grownBy w' v.ownBlock := by
  by_cases hin : i = bl.length
  · subst hin
    refine (insert_end bl b v base vb w hb hown ?_ hn).mono ?_
    · intro j hj
      have : j = 0 := by simp at hj; exact hj
      subst this
      refine ⟨_, rfl, ?_, ?_⟩
      · rw [add_lit', cell_of_row _ _ _ _ _ _ hvb]; rfl
      · rw [add_lit']; show w.cell? ⟨vb, 1, none⟩ = _; rw [cell_of_row _ _ _ _ _ _ hvb]; rfl
    · rintro e w' ⟨v', rfl, h1, h2⟩
      exact ⟨v', rfl, by rw [List.take_length, List.drop_length, List.append_nil]; simpa using h1, h2⟩
  · rcases hown.2 with ⟨rfl, h0⟩ | ⟨g, cap, cur, rfl, h1, h2, h3, h4, h5, h6⟩
    · omega
    · by_cases hc : bl.length + 1 ≤ cap
      · exact insert_shift bl b g cap i base vb cur w (by omega) hc h4 h1 h2 h5 h6 hvb (fun e => hne (by rw [e]; rfl)) hn
      · exact insert_grow bl b g cap i base vb cur w hb (by omega) h3 (by omega) h2 h5 h6 hvb hn
end Go.Proofs.YtbioclpobmgikaaDoor
namespace Go.Proofs.YtbioclpobmgikaaDoor
open Go.RowKit

theorem total_le (bl : List Bl) (h : ∀ b ∈ bl, b.data.length ≤ 10000000) : total bl ≤ 10000000 * bl.length := by
  induction bl with
  | nil => simp [total]
  | cons b l ih =>
    have h1 := h b (by simp)
    have h2 := ih (fun x hx => h x (by simp [hx]))
    rw [total, List.map_cons, List.sum_cons, ← total, List.length_cons]
    omega
/-- a store as the document's: names and bytes -/
abbrev St2 := List (List UInt8 × List UInt8)
def idxS (p : List UInt8 → Bool) (s : St2) : Int := if s.findIdx (fun x => p x.1) < s.length then ((s.findIdx (fun x => p x.1) : Nat) : Int) else -1
theorem idxS_abs (p : List UInt8 → Bool) (bl : List Bl) : idxL p bl = idxS p (bl.map Bl.abs) := by
  unfold idxL idxS
  rw [List.findIdx_map, List.length_map]
  rfl
def totalS (s : St2) : Nat := (s.map fun x => x.2.length).sum
theorem totalS_abs (bl : List Bl) : total bl = totalS (bl.map Bl.abs) := by
  unfold total totalS
  rw [List.map_map]
  rfl
def placeS (s : St2) (nm : List UInt8) : Int := idxS (fun n => eqB n nm) s
/-- where a name is set in -/
def setAt (s : St2) (nm : List UInt8) : Nat := if idxS (fun n => gtB n nm) s < 0 then s.length else (idxS (fun n => gtB n nm) s).toNat
/-- what Put answers: an error's number, or the store -/
def putS (s : St2) (d : List UInt8) : Nat ⊕ St2 :=
  if 1048576 < d.length then .inl 3
  else if 0 ≤ placeS s (nameOf d) then (if eqB (s.getD (placeS s (nameOf d)).toNat ([], [])).2 d then .inr s else .inl 6)
  else if 256 ≤ s.length then .inl 14
  else if 8388608 < totalS s + d.length then .inl 5
  else .inr (s.take (setAt s (nameOf d)) ++ [(nameOf d, d)] ++ s.drop (setAt s (nameOf d)))
/-- a store lies in the world -/
def StoreAt (w : World) (A : Option Addr) (n c : Nat) (s : St2) : Prop := ∃ bl : List Bl, bl.map Bl.abs = s ∧ bl.length = n ∧ n ≤ c ∧ (A = none → c = 0) ∧ RowAt w A bl ∧ AllGood w bl
def PutAt (s : St2) (d : List UInt8) (w w' : World) (e : Ending) : Prop :=
  Below w.heap.size w w' ∧ match putS s d with
  | .inl k => e = .returned (.tuple #[.slice none 0 0, .string ⟨#[]⟩, .iface 54 (.int .i64 (k : Int))])
  | .inr s' => ∃ A n c, e = .returned (.tuple #[.slice A n c, .string (St (nameOf d)), .nilIface]) ∧ StoreAt w' A n c s'

set_option maxHeartbeats 1000000 in
set_option maxRecDepth 100000 in
theorem put_any (bl : List Bl) (d : List UInt8) (A B : Option Addr) (c cd : Nat) (w : World) (hL : Laid w) (hr : RowAt w A bl) (hg : AllGood w bl) (hn : bl.length ≤ 900) (hd : ∀ b ∈ bl, b.data.length ≤ 10000000)
    (hB : BytesAt w B d) (hcd : d.length ≤ cd) (hnd : B = none → cd = 0) (hdl : d.length ≤ 9223372036854775807) :
    Calls Tryd.prog 53 #[.slice A bl.length c, .slice B d.length cd] w fun e w' => PutAt (bl.map Bl.abs) d w w' e := by
  have HR := Lib.hid hr; have HD := Lib.hid hd; have HG := Lib.hid hg; have HB := Lib.hid hB; have HND := Lib.hid hnd; have HLL := Lib.hid hL
  clear hr hd hg hB hnd hL
  by_cases h1 : 1048576 < d.length
  · have hd1 : decide ((d.length : Int) > 1048576) = true := decide_eq_true (by omega)
    have HP := Lib.hid (show putS (bl.map Bl.abs) d = .inl 3 by rw [putS, if_pos h1])
    clear h1
    generalize d.length = m at *
    generalize bl.length = n at *
    go_enter Tryd.func53, Tryd.ntmps53
    go_wp2_with fail
    go_ret3
    exact ⟨Below.refl _ _, by rw [HP.out]; rfl⟩
  · have hd1 : decide ((d.length : Int) > 1048576) = false := decide_eq_false (by omega)
    have hdig := digOf_any d B cd w HLL.out hcd HB.out (by omega)
    have HDIG := Lib.hid hdig
    clear hdig
    have hm := h1
    clear h1
    generalize hdm : d.length = m at *
    generalize hbn : bl.length = n at *
    have HDM := Lib.hid hdm; have HBN := Lib.hid hbn
    clear hdm hbn
    go_enter Tryd.func53, Tryd.ntmps53
    go_wp2_with fail
    refine HDIG.out.mono ?_
    rintro e w1 ⟨rfl, hb1⟩
    have hb1a : Below w.heap.size w (w1.alloc (.cells #[.string (St (nameOf d))] 9)) := hb1.alloc hb1.size _
    have hs1a : (w1.alloc (.cells #[.string (St (nameOf d))] 9)).heap.size = w1.heap.size + 1 := by simp
    have hc7 : (w1.alloc (.cells #[.string (St (nameOf d))] 9)).cell? ⟨w1.heap.size, 0, none⟩ = some (.string (St (nameOf d))) := (World.cell?_alloc_new ..).trans rfl
    have hs1 := hb1.size
    go_wp2_with fail
    generalize w1.alloc (.cells #[.string (St (nameOf d))] 9) = wa at *
    have hfil := filter_any 86 #[] (fun _ => true) enters86 bl A c wa (ask_true _) (HR.out.below hb1a) (HG.out.below hb1a) (by rw [HBN.out]; omega) HD.out
    rw [show keepL (fun _ => true) bl = bl by simp [keepL], HBN.out] at hfil
    have HFIL := Lib.hid hfil
    clear hfil
    refine HFIL.out.mono ?_
    rintro e w2 ⟨v, bf, rfl, hb2, hab, hgf, hof⟩
    have hbfl : bf.length = n := by have := congrArg List.length hab; rw [List.length_map, List.length_map, HBN.out] at this; exact this
    have hbw2 := hb1a.trans (hb2.mono hb1a.size)
    have hc72 : w2.cell? ⟨w1.heap.size, 0, none⟩ = some (.string (St (nameOf d))) := (hb2.cell (p := ⟨w1.heap.size, 0, none⟩) (by show w1.heap.size < _; omega)).trans hc7
    have HAB := Lib.hid hab; have HGF := Lib.hid hgf; have HOF := Lib.hid hof; have HBFL := Lib.hid hbfl
    clear hab hgf hof hbfl HFIL HDIG
    have hpl := place_any bl (nameOf d) A c w2 (HR.out.below hbw2) (by rw [HBN.out]; omega)
    rw [HBN.out] at hpl
    have HPL := Lib.hid hpl
    clear hpl
    go_wp2_with fail
    refine HPL.out.mono ?_
    rintro e w3 ⟨rfl, hb3⟩
    have hbw3 := hbw2.trans (hb3.mono hbw2.size)
    have hb23 := hb2.trans (hb3.mono hb2.size)
    have hc73 : w3.cell? ⟨w1.heap.size, 0, none⟩ = some (.string (St (nameOf d))) := (hb23.cell (p := ⟨w1.heap.size, 0, none⟩) (by show w1.heap.size < _; omega)).trans hc7
    clear hc72 HPL
    have hpe : placeL bl (nameOf d) = placeS (bl.map Bl.abs) (nameOf d) := idxS_abs _ _
    by_cases hk : 0 ≤ placeL bl (nameOf d)
    · obtain ⟨k, hkk⟩ : ∃ k : Nat, placeL bl (nameOf d) = (k : Int) := ⟨(placeL bl (nameOf d)).toNat, by omega⟩
      have hkn : k < n := by
        rw [placeL, idxL] at hkk
        split at hkk
        · rename_i h; rw [HBN.out] at h; omega
        · omega
      have hput : putS (bl.map Bl.abs) d = if eqB (bl.getD k bl0).data d then .inr (bl.map Bl.abs) else .inl 6 := by
        rw [putS, if_neg (show ¬ 1048576 < d.length by rw [HDM.out]; exact hm), ← hpe, hkk, if_pos (by omega)]
        congr 2
        simp [List.getD, show k < bl.length by rw [HBN.out]; exact hkn, Bl.abs]
      have HPUT := Lib.hid hput
      obtain ⟨a, rfl, g1, g2⟩ := (HR.out.below hbw3) k (by rw [HBN.out]; exact hkn)
      have hgk := (HG.out _ (getD_mem bl k (by rw [HBN.out]; exact hkn))).below hbw3
      rw [hkk]
      clear hput hpe hk
      generalize bl.getD k bl0 = b at *
      have heq := eqb_any b.data d b.D B b.c cd w3 hgk.2.2 (HB.out.below hbw3)
      rw [HDM.out] at heq
      have HEQ := Lib.hid heq
      clear heq hkk hgk
      go_wp2_with fail
      refine HEQ.out.mono ?_
      rintro e w4 ⟨rfl, rfl⟩
      cases hq : eqB b.data d with
      | false =>
        have HPF := Lib.hid (show putS (bl.map Bl.abs) d = .inl 6 by rw [HPUT.out, hq]; rfl)
        clear hq HEQ HPUT
        go_wp2_with fail
        go_ret3
        exact ⟨hbw3, by rw [HPF.out]; rfl⟩
      | true =>
        have HPF := Lib.hid (show putS (bl.map Bl.abs) d = .inr (bl.map Bl.abs) by rw [HPUT.out, hq]; rfl)
        clear hq HEQ HPUT
        obtain ⟨A', c', rfl, hc1, hc2, hra⟩ := own_row HOF.out
        have HC2 := Lib.hid hc2
        clear hc2
        go_wp2_with fail
        go_quiet (fail)
        have hbf := below_drewN hbw3 nq
        have hb3' : Below w2.heap.size w2 (w4.drewN nq) := below_drewN hb3 nq
        generalize w4.drewN nq = w5 at *
        go_wp2_with fail
        go_ret3
        refine ⟨hbf, ?_⟩
        rw [HPF.out]
        exact ⟨A', bf.length, c', rfl, bf, HAB.out, rfl, hc1, HC2.out, hra.below hb3', fun x hx => ((HGF.out x hx).below hb3').1⟩
    · have hpn : ¬ 0 ≤ placeS (bl.map Bl.abs) (nameOf d) := by rw [← hpe]; exact hk
      have hml : (bl.map Bl.abs).length = n := by rw [List.length_map]; exact HBN.out
      have hput : putS (bl.map Bl.abs) d = if 256 ≤ n then .inl 14 else if 8388608 < total bl + m then .inl 5 else .inr ((bl.map Bl.abs).take (setAt (bl.map Bl.abs) (nameOf d)) ++ [(nameOf d, d)] ++ (bl.map Bl.abs).drop (setAt (bl.map Bl.abs) (nameOf d))) := by
        rw [putS, if_neg (show ¬ 1048576 < d.length by rw [HDM.out]; exact hm), if_neg hpn, hml, ← totalS_abs, HDM.out]
      have HPUT := Lib.hid hput
      have HML := Lib.hid hml
      generalize placeL bl (nameOf d) = r at *
      have hd6 : decide (r ≥ 0) = false := decide_eq_false (by omega)
      clear hput hpn hpe hml hk
      by_cases h256 : 256 ≤ n
      · have hd7 : decide ((n : Int) ≥ 256) = true := decide_eq_true (by omega)
        have HPF := Lib.hid (show putS (bl.map Bl.abs) d = .inl 14 by rw [HPUT.out, if_pos h256])
        clear HPUT h256
        go_wp2_with fail
        go_ret3
        exact ⟨hbw3, by rw [HPF.out]; rfl⟩
      · have hd7 : decide ((n : Int) ≥ 256) = false := decide_eq_false (by omega)
        have hsz := size_any bl A c w3 (HR.out.below hbw3) (by rw [HBN.out]; omega) HD.out
        rw [HBN.out] at hsz
        have HSZ := Lib.hid hsz
        have htot : total bl ≤ 9000000000 := by have := total_le bl HD.out; rw [HBN.out] at this; omega
        clear hsz
        have HPU2 := Lib.hid (show putS (bl.map Bl.abs) d = if 8388608 < total bl + m then .inl 5 else .inr ((bl.map Bl.abs).take (setAt (bl.map Bl.abs) (nameOf d)) ++ [(nameOf d, d)] ++ (bl.map Bl.abs).drop (setAt (bl.map Bl.abs) (nameOf d))) by rw [HPUT.out, if_neg h256])
        clear HPUT h256
        generalize total bl = tt at *
        go_wp2_with fail
        refine HSZ.out.mono ?_
        rintro e w4 ⟨rfl, hb4⟩
        have hbw4 := hbw3.trans (hb4.mono hbw3.size)
        have hb24 := hb3.trans (hb4.mono hb3.size)
        have hba4 := hb2.trans (hb24.mono hb2.size)
        have hc74 : w4.cell? ⟨w1.heap.size, 0, none⟩ = some (.string (St (nameOf d))) := (hba4.cell (p := ⟨w1.heap.size, 0, none⟩) (by show w1.heap.size < _; omega)).trans hc7
        have h14 : w1.heap.size < w4.heap.size := by have := hba4.size; omega
        clear hc73 HSZ
        by_cases h8 : 8388608 < tt + m
        · have hd8 : decide ((tt : Int) + (m : Int) > 8388608) = true := decide_eq_true (by omega)
          have HPF := Lib.hid (show putS (bl.map Bl.abs) d = .inl 5 by rw [HPU2.out, if_pos h8])
          clear HPU2 h8
          go_wp2_with fail
          go_ret3
          exact ⟨hbw4, by rw [HPF.out]; rfl⟩
        · have hd8 : decide ((tt : Int) + (m : Int) > 8388608) = false := decide_eq_false (by omega)
          have HPF := Lib.hid (show putS (bl.map Bl.abs) d = .inr ((bl.map Bl.abs).take (setAt (bl.map Bl.abs) (nameOf d)) ++ [(nameOf d, d)] ++ (bl.map Bl.abs).drop (setAt (bl.map Bl.abs) (nameOf d))) by rw [HPU2.out, if_neg h8])
          clear HPU2
          have hix := idx_any 91 #[.pointer (some ⟨w1.heap.size, 0, none⟩)] (fun x => gtB x (nameOf d)) enters91 bl A c w4 (ask_gt (nameOf d) w1.heap.size w4 h14 hc74) (HR.out.below hbw4) (by rw [HBN.out]; omega)
          rw [HBN.out] at hix
          have HIX := Lib.hid hix
          clear hix
          go_wp2_with fail
          refine HIX.out.mono ?_
          rintro e w5 ⟨rfl, hb5⟩
          have hbw5 := hbw4.trans (hb5.mono hbw4.size)
          have hb25 := hb24.trans (hb5.mono hb24.size)
          have hba5 := hb2.trans (hb25.mono hb2.size)
          have hc75 : ∀ W, Below wa.heap.size wa W → W.cell? ⟨w1.heap.size, 0, none⟩ = some (.string (St (nameOf d))) := fun W h => (h.cell (p := ⟨w1.heap.size, 0, none⟩) (by show w1.heap.size < _; omega)).trans hc7
          obtain ⟨j, hj, hjn⟩ : ∃ j : Nat, j = setAt (bl.map Bl.abs) (nameOf d) ∧ j ≤ n := by
            refine ⟨_, rfl, ?_⟩
            unfold setAt
            split
            · rw [HML.out]; exact Nat.le_refl _
            · rw [← idxS_abs, idxL]
              split
              · rename_i h; rw [HBN.out] at h; simp; omega
              · simp
          have HJ := Lib.hid hj
          have hd5 : Below w5.heap.size w5 w5.drew := (Below.refl _ _).drew
          have hap := fun W (h : Below w5.heap.size w5 W) => apart_any ⟨nameOf d, d, B, cd⟩ W ⟨by show d.length ≤ cd; rw [HDM.out]; exact hcd, HND.out, (HB.out.below hbw5).below h⟩ (by show d.length ≤ _; rw [HDM.out]; omega)
          simp only at hap
          rw [HDM.out] at hap
          have HAP := Lib.hid hap
          have k5 := hc75 w5.drew (hba5.trans (hd5.mono hba5.size))
          clear hap
          by_cases hneg : idxL (fun x => gtB x (nameOf d)) bl < 0
          · have hjn2 : j = n := by
              rw [HJ.out, setAt, ← idxS_abs, if_pos hneg]; exact HML.out
            have hd9 : decide (idxL (fun x => gtB x (nameOf d)) bl < 0) = true := decide_eq_true hneg
            generalize idxL (fun x => gtB x (nameOf d)) bl = r2 at *
            clear hj hneg HIX
            go_wp2_with fail
            obtain rfl : n = j := hjn2.symm
            generalize hnm : nameOf d = nm at *
            have HNM := Lib.hid hnm
            clear hnm
            go_region_with (first
              | (go_at_call 93; refine (HAP.out _ ?_).mono ?_; exact hd5; rintro e w6 ⟨hb6, b', hab', rfl, hg5⟩
                 have hb56 : Below w5.heap.size w5 w6 := hd5.trans (hb6.mono hd5.size)
                 have hba6 := hba5.trans (hb56.mono hba5.size)
                 have k6 := hc75 w6 hba6
                 have hb26 := hb25.trans (hb56.mono hb25.size)
                 have h16 : w1.heap.size < w6.heap.size := by have := hba6.size; omega
                 have k6a := fun o => (World.cell?_alloc_old w6 o ⟨w1.heap.size, 0, none⟩ (by show w1.heap.size ≠ _; omega)).trans k6
                 have hown6 := rowOwn_below HOF.out hb26
                 have hlt6 := hown6.lt)
              | (go_at_call 92; refine (insert_any bf b' v n wa.heap.size w6.heap.size _ ?_ ?_ (hown6.alloc _) ?_ ?_ ?_).mono ?_
                 · have := hba6.size; simp; omega
                 · rw [HBFL.out]; exact hjn
                 · exact heap_alloc_new w6 _
                 · intro e; have := (hlt6 _ e).2; omega
                 · rw [HBFL.out]; omega
                 rintro e w7 ⟨v', rfl, ho7, hg7⟩
                 have k7 : w7.cell? ⟨w1.heap.size, 0, none⟩ = some (.string (St nm)) := hg7.cell (k6a _) (by intro e; have := (hlt6 _ e.symm).1; simp only at this; omega)))
            all_goals
              have hal : Below w6.heap.size w6 (w6.alloc (.cells #[.string (St b'.name), .slice b'.D b'.data.length b'.c] 70)) := (Below.refl _ _).alloc (Nat.le_refl _) _
              have hbw6 := hbw5.trans (hb56.mono hbw5.size)
              have hb7 := (hbw6.trans (hal.mono hbw6.size)).grown hg7 (by have := hbw6.size; simp; omega) (fun k hk => by have := (hlt6 k hk).1; have := hb1a.size; omega)
              have hL8 : (bf.take n ++ [b'] ++ bf.drop n).length = bf.length + 1 := by have := HBFL.out; simp; omega
              have hgood : AllGood w7 (bf.take n ++ [b'] ++ bf.drop n) := fun x hx => by
                have hx5 : Good5 w6 x := by
                  rw [List.mem_append, List.mem_append] at hx
                  rcases hx with (hx | hx) | hx
                  · exact (HGF.out x (List.mem_of_mem_take hx)).below hb26
                  · obtain rfl : x = b' := by simpa using hx
                    exact hg5
                  · exact (HGF.out x (List.mem_of_mem_drop hx)).below hb26
                exact ((hx5.below hal).grown (hown6.alloc _) hg7).1
              have hmap : (bf.take n ++ [b'] ++ bf.drop n).map Bl.abs = (bl.map Bl.abs).take (setAt (bl.map Bl.abs) nm) ++ [(nm, d)] ++ (bl.map Bl.abs).drop (setAt (bl.map Bl.abs) nm) := by
                rw [← HJ.out, List.map_append, List.map_append, List.map_take, List.map_drop, HAB.out]
                congr 2
                rw [List.map_cons, hab']; rfl
              rw [← hL8] at ho7
              obtain ⟨A', c', rfl, hc1, hc2, hra⟩ := own_row ho7
              have HF1 := Lib.hid hb7; have HF2 := Lib.hid hgood; have HF3 := Lib.hid hmap; have HF4 := Lib.hid hra; have HF5 := Lib.hid hc2
              clear hb7 hgood hmap hra hc2 hbw6 hal ho7 hL8 hc75 k6 k6a hlt6 hg7 hown6 hg5 hab' hc7
              generalize (bf.take n ++ [b'] ++ bf.drop n) = L7 at *
              generalize hn7 : L7.length = n7 at *
              have HN7 := Lib.hid hn7
              clear hn7
              go_wp2_with fail
              go_ret3
              refine ⟨HF1.out, ?_⟩
              rw [HPF.out]
              exact ⟨A', n7, c', by rw [HNM.out]; rfl, L7, HF3.out, HN7.out, hc1, HF5.out, HF4.out, HF2.out⟩
          · have hjn2 : idxL (fun x => gtB x (nameOf d)) bl = (j : Int) := by
              have : j = (idxL (fun x => gtB x (nameOf d)) bl).toNat := by rw [HJ.out, setAt, ← idxS_abs, if_neg hneg]
              omega
            rw [hjn2]
            clear hj hjn2 hneg HIX
            have hd9 : decide ((j : Int) < 0) = false := decide_eq_false (by omega)
            go_wp2_with fail
            generalize hnm : nameOf d = nm at *
            have HNM := Lib.hid hnm
            clear hnm
            go_region_with (first
              | (go_at_call 93; refine (HAP.out _ ?_).mono ?_; exact hd5; rintro e w6 ⟨hb6, b', hab', rfl, hg5⟩
                 have hb56 : Below w5.heap.size w5 w6 := hd5.trans (hb6.mono hd5.size)
                 have hba6 := hba5.trans (hb56.mono hba5.size)
                 have k6 := hc75 w6 hba6
                 have hb26 := hb25.trans (hb56.mono hb25.size)
                 have h16 : w1.heap.size < w6.heap.size := by have := hba6.size; omega
                 have k6a := fun o => (World.cell?_alloc_old w6 o ⟨w1.heap.size, 0, none⟩ (by show w1.heap.size ≠ _; omega)).trans k6
                 have hown6 := rowOwn_below HOF.out hb26
                 have hlt6 := hown6.lt)
              | (go_at_call 92; refine (insert_any bf b' v j wa.heap.size w6.heap.size _ ?_ ?_ (hown6.alloc _) ?_ ?_ ?_).mono ?_
                 · have := hba6.size; simp; omega
                 · rw [HBFL.out]; exact hjn
                 · exact heap_alloc_new w6 _
                 · intro e; have := (hlt6 _ e).2; omega
                 · rw [HBFL.out]; omega
                 rintro e w7 ⟨v', rfl, ho7, hg7⟩
                 have k7 : w7.cell? ⟨w1.heap.size, 0, none⟩ = some (.string (St nm)) := hg7.cell (k6a _) (by intro e; have := (hlt6 _ e.symm).1; simp only at this; omega)))
            all_goals
              have hal : Below w6.heap.size w6 (w6.alloc (.cells #[.string (St b'.name), .slice b'.D b'.data.length b'.c] 70)) := (Below.refl _ _).alloc (Nat.le_refl _) _
              have hbw6 := hbw5.trans (hb56.mono hbw5.size)
              have hb7 := (hbw6.trans (hal.mono hbw6.size)).grown hg7 (by have := hbw6.size; simp; omega) (fun k hk => by have := (hlt6 k hk).1; have := hb1a.size; omega)
              have hL8 : (bf.take j ++ [b'] ++ bf.drop j).length = bf.length + 1 := by have := HBFL.out; simp; omega
              have hgood : AllGood w7 (bf.take j ++ [b'] ++ bf.drop j) := fun x hx => by
                have hx5 : Good5 w6 x := by
                  rw [List.mem_append, List.mem_append] at hx
                  rcases hx with (hx | hx) | hx
                  · exact (HGF.out x (List.mem_of_mem_take hx)).below hb26
                  · obtain rfl : x = b' := by simpa using hx
                    exact hg5
                  · exact (HGF.out x (List.mem_of_mem_drop hx)).below hb26
                exact ((hx5.below hal).grown (hown6.alloc _) hg7).1
              have hmap : (bf.take j ++ [b'] ++ bf.drop j).map Bl.abs = (bl.map Bl.abs).take (setAt (bl.map Bl.abs) nm) ++ [(nm, d)] ++ (bl.map Bl.abs).drop (setAt (bl.map Bl.abs) nm) := by
                rw [← HJ.out, List.map_append, List.map_append, List.map_take, List.map_drop, HAB.out]
                congr 2
                rw [List.map_cons, hab']; rfl
              rw [← hL8] at ho7
              obtain ⟨A', c', rfl, hc1, hc2, hra⟩ := own_row ho7
              have HF1 := Lib.hid hb7; have HF2 := Lib.hid hgood; have HF3 := Lib.hid hmap; have HF4 := Lib.hid hra; have HF5 := Lib.hid hc2
              clear hb7 hgood hmap hra hc2 hbw6 hal ho7 hL8 hc75 k6 k6a hlt6 hg7 hown6 hg5 hab' hc7
              generalize (bf.take j ++ [b'] ++ bf.drop j) = L7 at *
              generalize hn7 : L7.length = n7 at *
              have HN7 := Lib.hid hn7
              clear hn7
              go_wp2_with fail
              go_ret3
              refine ⟨HF1.out, ?_⟩
              rw [HPF.out]
              exact ⟨A', n7, c', by rw [HNM.out]; rfl, L7, HF3.out, HN7.out, hc1, HF5.out, HF4.out, HF2.out⟩
end Go.Proofs.YtbioclpobmgikaaDoor
namespace Go.Proofs.YtbioclpobmgikaaDoor
open Go.RowKit

theorem addr_zero (a : Addr) : a.add 0 = a := rfl
theorem sha_a : sha [97] = [202, 151, 129, 18, 202, 27, 189, 202, 250, 194, 49, 179, 154, 35, 220, 77, 167, 134, 239, 248, 20, 124, 78, 114, 185, 128, 119, 133, 175, 238, 72, 187] := by decide +kernel
theorem sha_b : sha [98] = [62, 35, 232, 22, 0, 57, 89, 74, 51, 137, 79, 101, 100, 225, 177, 52, 139, 189, 122, 0, 136, 212, 44, 74, 203, 115, 238, 174, 213, 156, 0, 157] := by decide +kernel
def nA : List UInt8 := nameOf [97]
def nB : List UInt8 := nameOf [98]
theorem nA_nB : eqB nA nB = false ∧ eqB nB nA = false ∧ gtB nA nB = true ∧ gtB nB nA = false := by
  unfold nA nB nameOf
  rw [sha_a, sha_b]
  decide +kernel
theorem put1 : putS [] [97] = .inr [(nA, [97])] := rfl
theorem put2 : putS [(nA, [97])] [98] = .inr [(nB, [98]), (nA, [97])] := by
  obtain ⟨h1, h2, h3, h4⟩ := nA_nB
  unfold putS placeS setAt
  rw [show nameOf [98] = nB from rfl]
  simp [idxS, totalS, List.findIdx_cons, h1, h3]
theorem put3 : putS [] [98] = .inr [(nB, [98])] := rfl
theorem put4 : putS [(nB, [98])] [97] = .inr [(nB, [98]), (nA, [97])] := by
  obtain ⟨h1, h2, h3, h4⟩ := nA_nB
  unfold putS placeS setAt
  rw [show nameOf [97] = nA from rfl]
  simp [idxS, totalS, List.findIdx_cons, h2, h4]
/-- Put, where the answer is known to be a store -/
theorem put_ok (bl : List Bl) (d : List UInt8) (s s' : St2) (hs : bl.map Bl.abs = s) (hput : putS s d = .inr s') (A B : Option Addr) (c cd : Nat) (w : World) (hL : Laid w) (hr : RowAt w A bl) (hg : AllGood w bl) (hn : bl.length ≤ 900) (hd : ∀ b ∈ bl, b.data.length ≤ 10000000)
    (hB : BytesAt w B d) (hcd : d.length ≤ cd) (hnd : B = none → cd = 0) (hdl : d.length ≤ 9223372036854775807) :
    Calls Tryd.prog 53 #[.slice A bl.length c, .slice B d.length cd] w fun e w' => ∃ A' c' bl', e = .returned (.tuple #[.slice A' s'.length c', .string (St (nameOf d)), .nilIface]) ∧ Below w.heap.size w w' ∧ bl'.map Bl.abs = s' ∧ s'.length ≤ c' ∧ (A' = none → c' = 0) ∧ RowAt w' A' bl' ∧ AllGood w' bl' := by
  refine (put_any bl d A B c cd w hL hr hg hn hd hB hcd hnd hdl).mono ?_
  rintro e w' ⟨hb, hm⟩
  rw [hs, hput] at hm
  obtain ⟨A', n', c', rfl, bl', hab, rfl, h1, h2, h3, h4⟩ := hm
  have : s'.length = bl'.length := by rw [← hab, List.length_map]
  exact ⟨A', c', bl', by rw [this], hb, hab, by omega, h2, h3, h4⟩

theorem conv_one (w : World) (x : Int) : (convert 22 22 (.slice (some ⟨w.heap.size, 0, none⟩) 1 1)).run Tryd.prog (w.alloc (.cells #[.int .u8 x] 5)) = .ok (.slice (some ⟨w.heap.size, 0, none⟩) 1 1) (w.alloc (.cells #[.int .u8 x] 5 (1, 2))) :=
  Lib.run_convert_bytes_const w 22 5 #[.int .u8 x] 1 1 Tryd.underlying22 Tryd.underlying5
theorem bytes_one (w : World) (x : UInt8) : BytesAt (w.alloc (.cells #[.int .u8 (x.toNat : Int)] 5 (1, 2))) (some ⟨w.heap.size, 0, none⟩) [x] := fun j hj => by
  have : j = 0 := by simp at hj; exact hj
  subst this
  refine ⟨_, rfl, ?_⟩
  have h : (w.alloc (.cells #[.int .u8 (x.toNat : Int)] 5 (1, 2))).heap[w.heap.size]? = some (.cells #[.int .u8 (x.toNat : Int)] 5 (1, 2)) := heap_alloc_new w _
  rw [add_lit', World.cell?, h]
  rfl

set_option maxHeartbeats 1000000 in
set_option maxRecDepth 100000 in
theorem alive22_any (w : World) (hL : Laid w) : Calls Tryd.prog 52 #[] w fun e w' => e = .returned (.bool true) ∧ Below w.heap.size w w' := by
  have HL := Lib.hid hL
  clear hL
  have hcv := conv_one
  have hdl : ∀ s : St2, s = [(nB, [98]), (nA, [97])] ∨ s = [(nA, [97])] ∨ s = [(nB, [98])] → ∀ bl : List Bl, bl.map Bl.abs = s → bl.length ≤ 2 ∧ ∀ b ∈ bl, b.data.length ≤ 10000000 := fun s hs bl hab => by
    have hl : bl.length = s.length := by rw [← hab, List.length_map]
    refine ⟨by rcases hs with rfl | rfl | rfl <;> simp at hl <;> omega, fun b hb => ?_⟩
    have : b.abs ∈ s := by rw [← hab]; exact List.mem_map_of_mem hb
    rcases hs with rfl | rfl | rfl
    · simp only [List.mem_cons, List.not_mem_nil, or_false] at this
      rcases this with h | h <;> (have := congrArg (fun x => x.2.length) h; simp only [Bl.abs, List.length_cons, List.length_nil] at this; omega)
    · simp only [List.mem_cons, List.not_mem_nil, or_false] at this
      have := congrArg (fun x => x.2.length) this; simp only [Bl.abs, List.length_cons, List.length_nil] at this; omega
    · simp only [List.mem_cons, List.not_mem_nil, or_false] at this
      have := congrArg (fun x => x.2.length) this; simp only [Bl.abs, List.length_cons, List.length_nil] at this; omega
  have HDL := Lib.hid hdl
  clear hdl
  have p1 := fun W (h : Below w.heap.size w W) => put_ok [] [97] [] _ rfl put1 none (some ⟨W.heap.size, 0, none⟩) 0 1 (W.alloc (.cells #[.int .u8 97] 5 (1, 2))) (HL.out.below (h.alloc h.size _)) (fun j hj => by simp at hj) (fun b hb => by cases hb) (by simp) (fun b hb => by cases hb) (bytes_one _ 97) (by simp) (fun h => by cases h) (by simp)
  have p2 := fun W (h : Below w.heap.size w W) bl (hab : bl.map Bl.abs = [(nA, [97])]) A c (hr : RowAt W A bl) (hg : AllGood W bl) => put_ok bl [98] _ _ hab put2 A (some ⟨W.heap.size, 0, none⟩) c 1 (W.alloc (.cells #[.int .u8 98] 5 (1, 2))) (HL.out.below (h.alloc h.size _)) (hr.below ((Below.refl _ _).alloc (Nat.le_refl _) _)) (hg.below ((Below.refl _ _).alloc (Nat.le_refl _) _)) (by have := (HDL.out _ (.inr (.inl rfl)) bl hab).1; omega) (HDL.out _ (.inr (.inl rfl)) bl hab).2 (bytes_one _ 98) (by simp) (fun h => by cases h) (by simp)
  have p3 := fun W (h : Below w.heap.size w W) => put_ok [] [98] [] _ rfl put3 none (some ⟨W.heap.size, 0, none⟩) 0 1 (W.alloc (.cells #[.int .u8 98] 5 (1, 2))) (HL.out.below (h.alloc h.size _)) (fun j hj => by simp at hj) (fun b hb => by cases hb) (by simp) (fun b hb => by cases hb) (bytes_one _ 98) (by simp) (fun h => by cases h) (by simp)
  have p4 := fun W (h : Below w.heap.size w W) bl (hab : bl.map Bl.abs = [(nB, [98])]) A c (hr : RowAt W A bl) (hg : AllGood W bl) => put_ok bl [97] _ _ hab put4 A (some ⟨W.heap.size, 0, none⟩) c 1 (W.alloc (.cells #[.int .u8 97] 5 (1, 2))) (HL.out.below (h.alloc h.size _)) (hr.below ((Below.refl _ _).alloc (Nat.le_refl _) _)) (hg.below ((Below.refl _ _).alloc (Nat.le_refl _) _)) (by have := (HDL.out _ (.inr (.inr rfl)) bl hab).1; omega) (HDL.out _ (.inr (.inr rfl)) bl hab).2 (bytes_one _ 97) (by simp) (fun h => by cases h) (by simp)
  rw [show nameOf [97] = nA from rfl] at p1 p4
  rw [show nameOf [98] = nB from rfl] at p2 p3
  have P1 := Lib.hid p1; have P2 := Lib.hid p2; have P3 := Lib.hid p3; have P4 := Lib.hid p4
  clear p1 p2 p3 p4
  go_enter Tryd.func52, Tryd.ntmps52
  go_wp2_with fail
  refine (P1.out w (Below.refl _ _)).mono ?_
  rintro e w1 ⟨A1, c1, b1, rfl, hb1, ha1, hc1, hn1, hr1, hg1⟩
  have hbw1 := ((Below.refl w.heap.size w).alloc (Nat.le_refl _) (.cells #[.int .u8 97] 5 (1, 2))).trans (hb1.mono (by simp))
  have HA1 := Lib.hid ha1; have HN1 := Lib.hid hn1
  have hl1 : b1.length = 1 := by have := congrArg List.length ha1; simpa using this
  have q2 := P2.out w1 hbw1 b1 ha1 A1 c1 hr1 hg1
  rw [hl1] at q2
  have Q2 := Lib.hid q2
  clear ha1 hn1 q2 hr1 hg1 hb1
  go_wp2_with fail
  refine Q2.out.mono ?_
  rintro e w2 ⟨A2, c2, b2, rfl, hb2, ha2, hc2, hn2, hr2, hg2⟩
  have hbw2 := (hbw1.alloc hbw1.size (.cells #[.int .u8 98] 5 (1, 2))).trans (hb2.mono (by have := hbw1.size; simp; omega))
  have HA2 := Lib.hid ha2; have HN2 := Lib.hid hn2; have HR2 := Lib.hid hr2
  clear ha2 hn2 hr2 hg2 hb2 Q2
  go_wp2_with fail
  refine (P3.out w2 hbw2).mono ?_
  rintro e w3 ⟨A3, c3, b3, rfl, hb3, ha3, hc3, hn3, hr3, hg3⟩
  have hb23 := ((Below.refl w2.heap.size w2).alloc (Nat.le_refl _) (.cells #[.int .u8 98] 5 (1, 2))).trans (hb3.mono (by simp))
  have hbw3 := hbw2.trans (hb23.mono hbw2.size)
  have HA3 := Lib.hid ha3; have HN3 := Lib.hid hn3
  have hl3 : b3.length = 1 := by have := congrArg List.length ha3; simpa using this
  have q4 := P4.out w3 hbw3 b3 ha3 A3 c3 hr3 hg3
  rw [hl3] at q4
  have Q4 := Lib.hid q4
  clear ha3 hn3 q4 hr3 hg3 hb3
  go_wp2_with fail
  refine Q4.out.mono ?_
  rintro e w4 ⟨A4, c4, b4, rfl, hb4, ha4, hc4, hn4, hr4, hg4⟩
  have hb34 := ((Below.refl w3.heap.size w3).alloc (Nat.le_refl _) (.cells #[.int .u8 97] 5 (1, 2))).trans (hb4.mono (by simp))
  have hbw4 := hbw3.trans (hb34.mono hbw3.size)
  have hb24 := hb23.trans (hb34.mono hb23.size)
  have hr2 := HR2.out.below hb24
  have ha2 := HA2.out
  have key : ∀ (bl : List Bl), bl.map Bl.abs = [(nB, [98]), (nA, [97])] → bl.length = 2 ∧ (bl.getD 0 bl0).name = nB ∧ (bl.getD 1 bl0).name = nA := fun bl h => by
    match bl, h with
    | [x, y], h =>
      simp only [List.map_cons, List.map_nil, List.cons.injEq, and_true, Bl.abs, Prod.mk.injEq] at h
      exact ⟨rfl, h.1.1, h.2.1⟩
    | [], h => simp at h
    | [x], h => simp at h
    | x :: y :: z :: t, h => simp at h
  obtain ⟨l2, n20, n21⟩ := key b2 ha2
  obtain ⟨l4, n40, n41⟩ := key b4 ha4
  obtain ⟨a2, rfl, g20, _⟩ := hr2 0 (by omega)
  obtain ⟨a2', e2, g21, _⟩ := hr2 1 (by omega)
  obtain rfl := Option.some.inj e2
  obtain ⟨a4, rfl, g40, _⟩ := hr4 0 (by omega)
  obtain ⟨a4', e4, g41, _⟩ := hr4 1 (by omega)
  obtain rfl := Option.some.inj e4
  rw [n20] at g20; rw [n21] at g21; rw [n40] at g40; rw [n41] at g41
  rw [Nat.zero_mul, addr_zero] at g20 g40
  rw [Nat.one_mul] at g21 g41
  have g23 : w4.cell? ⟨a2.block, a2.off + 2, none⟩ = some (.string (St nA)) := g21
  have g43 : w4.cell? ⟨a4.block, a4.off + 2, none⟩ = some (.string (St nA)) := g41
  have HBW := Lib.hid hbw4
  have hne := nA_nB.1
  clear key hr2 ha2 n20 n21 n40 n41 hr4 ha4 hg4 hn4 hb4 hb34 hbw4 hb24 hb23 hbw3 Q4 P1 P2 P3 P4 HDL HR2 HA2 HN2 HA3 HN3 HA1 HN1 hcv l2 l4 e2 e4
  have htl := St_toList
  generalize nA = xa at *
  generalize nB = xb at *
  unfold eqB at hne
  go_wp2_with fail
  go_quiet (fail)
  have hbf := below_drewN HBW.out nq
  generalize w4.drewN nq = w5 at *
  go_wp2_with fail
  go_ret
  exact ⟨rfl, hbf⟩
end Go.Proofs.YtbioclpobmgikaaDoor
