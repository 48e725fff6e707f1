/- Blobs that share a name: the law's walk. -/
import Derived.Test.YtbioclpobmgikaaDoorG5
import Derived.Deep.RegionHeld3
namespace Go.Proofs.YtbioclpobmgikaaDoor
open Go.RowKit

/-- a list of blobs, as an argument lies -/
def PartsC (w : World) (A : Option Addr) (ps : List (List UInt8)) : Prop :=
  ∀ j, j < ps.length → ∃ a, A = some a ∧ ∃ A' c', w.cell? (a.add j) = some (.slice A' (ps.getD j []).length c') ∧ (ps.getD j []).length ≤ c' ∧ (A' = none → c' = 0) ∧ BytesAt w A' (ps.getD j [])
theorem PartsC.below {w w' : World} {A : Option Addr} {ps : List (List UInt8)} (h : PartsC w A ps) (hb : Below w.heap.size w w') : PartsC w' A ps := fun j hj => by
  obtain ⟨a, ha, A', c', h1, h2, h3, h4⟩ := h j hj
  exact ⟨a, ha, A', c', (hb.cell (p := a.add j) (World.block_lt_of_cell? w _ h1)).trans h1, h2, h3, h4.below hb⟩
theorem PartsC.of {w : World} {A : Option Addr} {ps : List (List UInt8)} (h : PartsAt w A ps) (hn : PartsNil w A ps.length) : PartsC w A ps := fun j hj => by
  obtain ⟨a, ha, A', c', h1, h2, h3⟩ := h j hj
  refine ⟨a, ha, A', c', h1, h2, fun e => ?_, h3⟩
  subst e
  exact hn j hj a ha _ c' h1

theorem keep_two {wb W W' : World} {p q : Addr} {u v : Value} (hb : Below W.heap.size W W') (h : Below wb.heap.size wb W ∧ W.cell? p = some u ∧ W.cell? q = some v) : Below wb.heap.size wb W' ∧ W'.cell? p = some u ∧ W'.cell? q = some v :=
  ⟨noted h.1 hb, (hb.cell (p := p) (World.block_lt_of_cell? W _ h.2.1)).trans h.2.1, (hb.cell (p := q) (World.block_lt_of_cell? W _ h.2.2)).trans h.2.2⟩
theorem getD_memL (ps : List (List UInt8)) (k : Nat) (h : k < ps.length) : ps.getD k [] ∈ ps := by simp [List.getD, h]
set_option maxHeartbeats 2000000 in
set_option maxRecDepth 100000 in
theorem collides_any (ps : List (List UInt8)) (A : Option Addr) (c : Nat) (w : World) (hL : Laid w) (hp : PartsC w A ps) (hn : ps.length ≤ 1000) (hf : Fails ps) :
    Calls Tryd.prog 74 #[.slice A ps.length c] w fun e w' => e = .returned (.bool true) ∧ Below w.heap.size w w' := by
  have htl := St_toList
  have HP := Lib.hid hp; have HLL := Lib.hid hL; have HFL := Lib.hid hf
  clear hp hL hf
  generalize hl : ps.length = n at *
  have HL := Lib.hid hl
  clear hl
  go_enter Tryd.func74, Tryd.ntmps74
  go_wp2_with fail
  go_loopw [3, 4, 7, 17] (fun _ _ vi _ wr => ∃ k : Nat, k ≤ n ∧ vi = .int .i64 (k : Int) ∧ Hid (∀ j, j < k → (ps.getD j []).length ≤ 2000 ∧ ∀ i, i < j → ps.getD j [] ≠ ps.getD i [] → nameOf (ps.getD j []) ≠ nameOf (ps.getD i [])) ∧ Below w.heap.size w wr) (fun _ _ v _ _ => n - (intOf v).toNat)
  case atStart => exact ⟨0, by omega, rfl, Lib.hid (fun j hj => by omega), Below.refl _ _⟩
  case round =>
    obtain ⟨k, hk, rfl, HF, hbel⟩ := hrel
    by_cases hlt : k < n
    · obtain ⟨a, rfl, A1, c1, g1, hc1, hn1, hb1⟩ := (HP.out.below hbel) k (by rw [HL.out]; exact hlt)
      have hdlt : decide ((k : Int) < (n : Int)) = true := decide_eq_true (by omega)
      have HB1 := Lib.hid hb1
      generalize hx : ps.getD k [] = x at *
      have HX := Lib.hid hx
      clear hx hb1 hn1
      by_cases h2 : 2000 < x.length
      · have hd2 : decide ((x.length : Int) > 2000) = true := decide_eq_true (by omega)
        clear HF HFL
        generalize x.length = xl at *
        go_wp2_with fail
        go_ret
        exact ⟨rfl, hbel⟩
      · have hd2 : decide ((x.length : Int) > 2000) = false := decide_eq_false (by omega)
        have HX2 := Lib.hid h2
        clear h2
        go_wp2_with fail
        rename World => wB
        go_loopw [4, 17] (fun _ vi wr => ∃ i : Nat, i ≤ k ∧ vi = .int .i64 (i : Int) ∧ Hid (∀ j, j < i → x ≠ ps.getD j [] → nameOf x ≠ nameOf (ps.getD j [])) ∧ Below wB.heap.size wB wr) (fun _ v _ => k - (intOf v).toNat)
        case atStart => exact ⟨0, by omega, rfl, Lib.hid (fun j hj => by omega), Below.refl _ _⟩
        case round =>
          obtain ⟨i, hi, rfl, HI, hbi⟩ := hrel
          by_cases hik : i < k
          · obtain ⟨a', ha', A2, c2, g2, hc2, hn2, hb2⟩ := (HP.out.below (noted hbel hbi)) i (by rw [HL.out]; omega)
            obtain rfl := Option.some.inj ha'
            have hbw := noted hbel hbi
            have g1' := (hbi.cell (p := a.add k) (World.block_lt_of_cell? _ _ g1)).trans g1
            have HB2 := Lib.hid hb2
            have HB1i := Lib.hid (HB1.out.below hbi)
            have hIn := fun (h : x ≠ ps.getD i [] → nameOf x ≠ nameOf (ps.getD i [])) => show ∀ j, j < i + 1 → x ≠ ps.getD j [] → nameOf x ≠ nameOf (ps.getD j []) from fun j hj => by
              by_cases hji : j = i
              · rw [hji]; exact h
              · exact HI.out j (by omega)
            have HIN := Lib.hid hIn
            clear hIn hb2 hn2 HI ha' g1
            have hyb := Nat.le_trans (HF.out i hik).1 (show 2000 ≤ 2305843009213693951 by omega)
            generalize ps.getD i [] = y at *
            have hikn : i < n := by omega
            have hd0 : Below wr.heap.size wr wr.drew := (Below.refl _ _).drew
            have HG1 := Lib.hid (fun W (h : Below wr.heap.size wr W) => (h.cell (p := a.add k) (World.block_lt_of_cell? _ _ g1')).trans g1')
            have HG2 := Lib.hid (fun W (h : Below wr.heap.size wr W) => (h.cell (p := a.add i) (World.block_lt_of_cell? _ _ g2)).trans g2)
            have HCX := Lib.hid (fun W (h : Below wr.heap.size wr W) => digOf_any x A1 c1 W (HLL.out.below (noted hbw h)) hc1 (HB1i.out.below h) (by have := HX2.out; omega))
            · have HCY := Lib.hid (fun W (h : Below wr.heap.size wr W) => digOf_any y A2 c2 W (HLL.out.below (noted hbw h)) hc2 (HB2.out.below h) hyb)
              have d1 := HG1.out _ hd0
              have d2 := HG2.out _ hd0
              have cv1 := str_bytes wr.drew A1 x c1 (HB1i.out.below hd0)
              have cv2 := str_bytes wr.drew A2 y c2 (HB2.out.below hd0)
              have HD0 := Lib.hid hd0
              clear g1' g2
              generalize hxl : x.length = xl at *
              generalize hyl : y.length = yl at *
              have HXL := Lib.hid hxl; have HYL := Lib.hid hyl
              clear hxl hyl
              by_cases hxy : x = y
              · have hq : (x == y) = true := by rw [beq_iff_eq]; exact hxy
                have HI2 := Lib.hid (HIN.out (fun h => absurd hxy h))
                have cq1 : ∀ q, (convert 22 9 (.slice A1 xl c1)).run Tryd.prog (wr.drewN q) = .ok (.string (St x)) (wr.drewN q) := fun q => by
                  have := str_bytes (wr.drewN q) A1 x c1 (HB1i.out.below (below_drewN (Below.refl _ _) q))
                  rwa [HXL.out] at this
                have cq2 : ∀ q, (convert 22 9 (.slice A2 yl c2)).run Tryd.prog (wr.drewN q) = .ok (.string (St y)) (wr.drewN q) := fun q => by
                  have := str_bytes (wr.drewN q) A2 y c2 (HB2.out.below (below_drewN (Below.refl _ _) q))
                  rwa [HYL.out] at this
                have e1 := HG1.out _ (Below.refl _ _)
                have e2 := HG2.out _ (Below.refl _ _)
                clear HIN hxy HCX HCY cv1 cv2 d1 d2
                go_wp2_with fail
                go_quiet (fail)
                have hbF := noted hbi (below_drewN (Below.refl wr.heap.size wr) nq)
                clear e1 e2 cq1 cq2
                generalize wr.drewN nq = wF at *
                go_wp2_with fail
                go_roundw
                case rel => exact ⟨i + 1, by omega, by go_num, HI2, hbF⟩
                case measure => simp [intOf]; omega
              · have hq : (x == y) = false := by rw [beq_eq_false_iff_ne]; exact hxy
                have HS0 := Lib.hid (show Below wr.heap.size wr wr.drew ∧ wr.drew.cell? (a.add k) = some (.slice A1 xl c1) ∧ wr.drew.cell? (a.add i) = some (.slice A2 yl c2) from ⟨HD0.out, d1, d2⟩)
                have cs1 : ∀ W, (Below wr.heap.size wr W ∧ W.cell? (a.add k) = some (.slice A1 xl c1) ∧ W.cell? (a.add i) = some (.slice A2 yl c2)) → (convert 22 9 (.slice A1 xl c1)).run Tryd.prog W = .ok (.string (St x)) W := fun W h => by
                  have := str_bytes W A1 x c1 (HB1i.out.below h.1)
                  rwa [HXL.out] at this
                have cs2 : ∀ W, (Below wr.heap.size wr W ∧ W.cell? (a.add k) = some (.slice A1 xl c1) ∧ W.cell? (a.add i) = some (.slice A2 yl c2)) → (convert 22 9 (.slice A2 yl c2)).run Tryd.prog W = .ok (.string (St y)) W := fun W h => by
                  have := str_bytes W A2 y c2 (HB2.out.below h.1)
                  rwa [HYL.out] at this
                clear d1 d2 cv1 cv2
                cases hqn : nameOf x == nameOf y with
                | true =>
                  generalize nameOf x = nx at *
                  generalize nameOf y = ny at *
                  clear HIN hxy
                  go_wp2_with fail
                  go_region_held3 (fun w' => Below wr.heap.size wr w' ∧ w'.cell? (a.add k) = some (.slice A1 xl c1) ∧ w'.cell? (a.add i) = some (.slice A2 yl c2)) (first | assumption | exact HS0.out | exact keep_two (by assumption) (by assumption))
                    (first | (go_at_call_of 27 (Value.slice A1 xl c1); refine (HCX.out _ ?_).mono ?_; exact And.left (by assumption); rintro e wN ⟨rfl, hbN⟩) | (go_at_call_of 27 (Value.slice A2 yl c2); refine (HCY.out _ ?_).mono ?_; exact And.left (by assumption); rintro e wN ⟨rfl, hbN⟩))
                  all_goals
                    rename_i hheld
                    have hfin := noted hbw hheld.1
                    go_wp2_with fail
                    go_ret
                    exact ⟨rfl, hfin⟩
                | false =>
                  have HI2 := Lib.hid (HIN.out (fun _ => (beq_eq_false_iff_ne).1 hqn))
                  generalize nameOf x = nx at *
                  generalize nameOf y = ny at *
                  clear HIN hxy
                  go_wp2_with fail
                  go_region_held3 (fun w' => Below wr.heap.size wr w' ∧ w'.cell? (a.add k) = some (.slice A1 xl c1) ∧ w'.cell? (a.add i) = some (.slice A2 yl c2)) (first | assumption | exact HS0.out | exact keep_two (by assumption) (by assumption))
                    (first | (go_at_call_of 27 (Value.slice A1 xl c1); refine (HCX.out _ ?_).mono ?_; exact And.left (by assumption); rintro e wN ⟨rfl, hbN⟩) | (go_at_call_of 27 (Value.slice A2 yl c2); refine (HCY.out _ ?_).mono ?_; exact And.left (by assumption); rintro e wN ⟨rfl, hbN⟩))
                  all_goals
                    rename_i hheld
                    have hbF := noted hbi hheld.1
                    go_wp2_with fail
                    go_roundw
                    case rel => exact ⟨i + 1, by omega, by go_num, HI2, hbF⟩
                    case measure => simp [intOf]; omega
          · obtain rfl : i = k := by omega
            have HF2 : Hid (∀ j, j < i + 1 → (ps.getD j []).length ≤ 2000 ∧ ∀ i, i < j → ps.getD j [] ≠ ps.getD i [] → nameOf (ps.getD j []) ≠ nameOf (ps.getD i [])) := Lib.hid (fun j hj => by
              by_cases hjk : j = i
              · subst hjk
                rw [HX.out]
                exact ⟨by have := HX2.out; omega, HI.out⟩
              · exact HF.out j (by omega))
            go_wp2_with fail
            go_roundw
            case rel => exact ⟨i + 1, by omega, by go_num, HF2, noted hbel hbi⟩
            case measure => simp [intOf]; omega
    · obtain rfl : k = n := by omega
      exfalso
      have hF := HF.out
      have get : ∀ y ∈ ps, ∃ j, j < k ∧ ps.getD j [] = y := fun y hy => by
        obtain ⟨j, hj, rfl⟩ := List.getElem_of_mem hy
        exact ⟨j, by rw [HL.out] at hj; exact hj, by simp [List.getD, hj]⟩
      rcases HFL.out with ⟨y, hy, h⟩ | ⟨y, hy, z, hz, hne, hnn⟩
      · obtain ⟨j, hj, rfl⟩ := get y hy
        have := (hF j hj).1
        omega
      · obtain ⟨j, hj, rfl⟩ := get y hy
        obtain ⟨i, hi, rfl⟩ := get z hz
        by_cases hji : i < j
        · exact (hF j hj).2 i hji hne hnn
        · by_cases hij : j < i
          · exact (hF i hi).2 j hij (fun e => hne e.symm) hnn.symm
          · have : i = j := by omega
            subst this; exact hne rfl
end Go.Proofs.YtbioclpobmgikaaDoor
