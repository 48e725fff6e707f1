/- Lists of texts side by side: the walk. -/
import Derived.Test.YtbioclpobmgikaaDoorIds5
namespace Go.Proofs.YtbioclpobmgikaaDoor
open Go.RowKit

theorem texts_ext (a b : List (List UInt8)) (hl : a.length = b.length) (h : ∀ j, j < a.length → a.getD j [] = b.getD j []) : a = b := by
  apply List.ext_getElem hl
  intro i h1 h2
  have := h i h1
  simpa [List.getD, h1, h2] using this

set_option maxHeartbeats 4000000 in
set_option maxRecDepth 100000 in
theorem texts_any (ta tb : List (List UInt8)) (A B : Option Addr) (c d : Nat) (w : World) (ha : TextsAt w A ta) (hb : TextsAt w B tb) (hm : ta.length ≤ 100000) :
    Calls Tryd.prog 50 #[.slice A ta.length c, .slice B tb.length d] w fun e w' => e = .returned (.bool (ta == tb)) ∧ Below w.heap.size w w' := by
  have htl := St_toList
  have HA := Lib.hid ha; have HB := Lib.hid hb
  clear ha hb
  by_cases hl : ta.length = tb.length
  · have hne : ((ta.length : Int) != (tb.length : Int)) = false := by rw [bne_eq_false_iff_eq]; omega
    have HEXT := Lib.hid (texts_ext ta tb hl)
    have HLB := Lib.hid hl.symm
    rw [← hl] at hne ⊢
    clear hl
    generalize hn : ta.length = n at *
    have HN := Lib.hid hn
    clear hn
    go_enter Tryd.func50, Tryd.ntmps50
    go_wp2_with fail
    clear hne
    go_loopw [5, 13] (fun _ v wr => ∃ k : Nat, k ≤ n ∧ v = .int .i64 (k : Int) ∧ Below w.heap.size w wr ∧ ∀ j, j < k → ta.getD j [] = tb.getD j []) (fun _ v _ => n - (intOf v).toNat)
    case atStart => exact ⟨0, by omega, rfl, Below.refl _ _, fun j hj => by omega⟩
    case round =>
      obtain ⟨k, hk, rfl, hbel, hall⟩ := hrel
      have HALL := Lib.hid hall
      clear hall
      by_cases hlt : k < n
      · obtain ⟨a, rfl, hca⟩ := HA.out k (by rw [HN.out]; exact hlt)
        obtain ⟨b, rfl, hcb⟩ := HB.out k (by rw [HLB.out]; exact hlt)
        have ga : wr.cell? (a.add k) = some (.string (St (ta.getD k []))) := (hbel.cell (p := a.add k) (World.block_lt_of_cell? w _ hca)).trans hca
        have gb : wr.cell? (b.add k) = some (.string (St (tb.getD k []))) := (hbel.cell (p := b.add k) (World.block_lt_of_cell? w _ hcb)).trans hcb
        have hbd : Below w.heap.size w wr.drew := hbel.drew
        clear hca hcb
        by_cases he : ta.getD k [] = tb.getD k []
        · have hnew : ∀ j, j < k + 1 → ta.getD j [] = tb.getD j [] := fun j hj => by
            rcases Nat.lt_or_ge j k with h | h
            · exact HALL.out j h
            · rw [show j = k by omega]; exact he
          have HNEW := Lib.hid hnew
          rw [he] at ga
          clear hnew he
          generalize tb.getD k [] = q at *
          go_wp2_with fail
          go_region
          clear ga gb
          go_wp2_with fail
          go_roundw
          case rel => exact ⟨k + 1, by omega, by go_num, hbd, HNEW.out⟩
          case measure => simp [intOf]; omega
        · have hq : (ta.getD k [] == tb.getD k []) = false := by rw [beq_eq_false_iff_ne]; exact he
          have hres : (ta == tb) = false := by
            rw [beq_eq_false_iff_ne]
            intro h
            rw [h] at he
            exact he rfl
          have HRES := Lib.hid hres
          clear hres he
          generalize tb.getD k [] = q at *
          generalize ta.getD k [] = p at *
          go_wp2_with fail
          go_region
          clear ga gb
          go_wp2_with fail
          go_ret
          exact ⟨by rw [HRES.out]; rfl, hbd⟩
      · obtain rfl : k = n := by omega
        have hres : (ta == tb) = true := by rw [beq_iff_eq]; exact HEXT.out (fun j hj => HALL.out j hj)
        have HRES := Lib.hid hres
        clear hres
        go_wp2_with fail
        go_ret
        exact ⟨by rw [HRES.out]; rfl, hbel⟩
  · have hne : ((ta.length : Int) != (tb.length : Int)) = true := by rw [bne_iff_ne]; omega
    have hres : (ta == tb) = false := by
      rw [beq_eq_false_iff_ne]
      intro h
      rw [h] at hl
      exact hl rfl
    have HRES := Lib.hid hres
    clear hres
    go_enter Tryd.func50, Tryd.ntmps50
    go_wp2_with fail
    go_ret
    exact ⟨by rw [HRES.out]; rfl, Below.refl _ _⟩

theorem chainAt_front (a b : List (List UInt8)) : ∀ j, j < a.length → chainAt (a ++ b) j = chainAt a j := by
  intro j
  induction j with
  | zero =>
    intro h
    show (a ++ b).getD 0 [] = a.getD 0 []
    simp [List.getD, List.getElem?_append, h]
  | succ j ih =>
    intro h
    rw [chainAt, chainAt, ih (by omega)]
    congr 2
    simp [List.getD, List.getElem?_append, h]
theorem chainAt_behind (a b : List (List UInt8)) (ha : a.length ≠ 0) : ∀ j, chainAt (a ++ b) (a.length - 1 + j) = chainAt (topL a :: b) j := by
  intro j
  induction j with
  | zero =>
    rw [Nat.add_zero, chainAt_front a b _ (by omega)]
    show _ = topL a
    rw [topL, if_neg ha]
  | succ j ih =>
    rw [← Nat.add_assoc, chainAt, chainAt, ih]
    congr 2
    simp only [List.getD, List.getElem?_cons_succ]
    rw [List.getElem?_append_right (by omega), show a.length - 1 + j + 1 - a.length = j by omega]
theorem chains_front (a b : List (List UInt8)) : (chainsTo (a ++ b) (a.length + b.length)).take a.length = chainsTo a a.length := by
  apply texts_ext
  · simp [chainsTo_length]
  · intro j hj
    simp [chainsTo_length] at hj
    have hj' : j < a.length := by omega
    rw [chainsTo_get _ _ _ hj', ← chainAt_front a b j hj', ← chainsTo_get (a ++ b) (a.length + b.length) j (by omega)]
    simp [List.getD, hj']
theorem chains_behind (a b : List (List UInt8)) (ha : a.length ≠ 0) : (chainsTo (a ++ b) (a.length + b.length)).drop (a.length - 1) = chainsTo (topL a :: b) (1 + b.length) := by
  apply texts_ext
  · simp [chainsTo_length]; omega
  · intro j hj
    simp [chainsTo_length] at hj
    rw [chainsTo_get _ _ _ (by omega), ← chainAt_behind a b ha j, ← chainsTo_get (a ++ b) (a.length + b.length) (a.length - 1 + j) (by omega)]
    simp [List.getD]
end Go.Proofs.YtbioclpobmgikaaDoor
