/- Layer 25's functions: the walks. -/
import Derived.Test.YtbioclpobmgikaaDoorIds1
namespace Go.Proofs.YtbioclpobmgikaaDoor
open Go.RowKit

/-- the last chain name -/
def topL (ds : List (List UInt8)) : List UInt8 := if ds.length = 0 then [] else chainAt ds (ds.length - 1)

set_option maxHeartbeats 4000000 in
set_option maxRecDepth 100000 in
theorem top_any (ds : List (List UInt8)) (A : Option Addr) (c : Nat) (w : World) (hL : Laid w) (hby : TextsAt w A ds) (hm : ds.length ≤ 10000) (hlen : ∀ j, j < ds.length → (ds.getD j []).length ≤ 100000) :
    Calls Tryd.prog 48 #[.slice A ds.length c] w fun e w' => e = .returned (.string (St (topL ds))) ∧ Below w.heap.size w w' := by
  have hch := chainIds_any ds A c w hL hby hm hlen
  have HCH := Lib.hid hch
  clear hch hlen hby
  go_enter Tryd.func48, Tryd.ntmps48
  go_wp2_with fail
  refine HCH.out.mono ?_
  rintro e w1 ⟨v, rfl, hb1, hown⟩
  obtain ⟨A', c', rfl, _, hc', hl, hT⟩ := own_texts hown
  clear hown
  by_cases h0 : ds.length = 0
  · have hq : topL ds = [] := if_pos h0
    have HQ := Lib.hid hq
    rw [h0] at *
    clear hq
    go_wp2_with fail
    go_ret
    exact ⟨by rw [HQ.out]; rfl, hb1⟩
  · have hq : topL ds = chainAt ds (ds.length - 1) := if_neg h0
    obtain ⟨p, hp⟩ : ∃ p, p + 1 = ds.length := ⟨ds.length - 1, by omega⟩
    rw [show ds.length - 1 = p by omega] at hq
    obtain ⟨a', rfl, hcell⟩ := hT p (by omega)
    rw [chainsTo_get ds _ p (by omega)] at hcell
    have HQ := Lib.hid hq
    clear hT hq hl
    generalize ds.length = n at *
    generalize chainAt ds p = q at *
    have e1 : (n : Int) - 1 = (p : Int) := by omega
    have e2 : (p : Int) < (n : Int) := by omega
    have e3 : ((n : Int) == 0) = false := by rw [beq_eq_false_iff_ne]; omega
    have HP := Lib.hid hp
    clear hp
    go_wp2_with fail
    go_ret
    exact ⟨by rw [HQ.out]; rfl, hb1⟩

set_option maxHeartbeats 4000000 in
set_option maxRecDepth 100000 in
theorem chainRef_any (ds : List (List UInt8)) (A : Option Addr) (c m : Nat) (w : World) (hby : TextsAt w A ds) (hm : m ≤ ds.length) (hm2 : ds.length ≤ 10000) (hlen : ∀ j, j < ds.length → (ds.getD j []).length ≤ 100000) :
    Calls Tryd.prog 49 #[.slice A ds.length c, .int .i64 (m : Int)] w fun e w' => e = .returned (.string (St (if m = 0 then [] else chainAt ds (m - 1)))) ∧ Below w.heap.size w w' := by
  have HBY := Lib.hid hby; have HLEN := Lib.hid hlen
  have HCL := Lib.hid (chainAt_len ds 100000 (by omega) hlen)
  clear hby hlen
  generalize hn : ds.length = n at *
  have HN := Lib.hid hn
  clear hn
  have hpost : ∀ s : List UInt8, s = (if m = 0 then [] else chainAt ds (m - 1)) → St s = St (if m = 0 then [] else chainAt ds (m - 1)) := fun s h => by rw [h]
  have HPOST := Lib.hid hpost
  clear hpost
  generalize hres : (if m = 0 then [] else chainAt ds (m - 1)) = res at *
  have HRES := Lib.hid hres
  clear hres
  go_enter Tryd.func49, Tryd.ntmps49
  go_wp2_with fail
  go_loopw [5, 6] (fun s v wr => ∃ k : Nat, ∃ t : List UInt8, k ≤ m ∧ v = .int .i64 (k : Int) ∧ s = .string (St t) ∧ t = (if k = 0 then [] else chainAt ds (k - 1)) ∧ Below w.heap.size w wr) (fun _ v _ => m - (intOf v).toNat)
  case atStart => exact ⟨0, [], by omega, rfl, rfl, rfl, Below.refl _ _⟩
  case round =>
    obtain ⟨k, t, hk, rfl, rfl, ht, hbel⟩ := hrel
    by_cases hlt : k < m
    · by_cases hk0 : k = 0
      · subst hk0
        obtain ⟨a, rfl, hc⟩ := HBY.out 0 (by rw [HN.out]; omega)
        have gc : wr.cell? (a.add 0) = some (.string (St (ds.getD 0 []))) := (hbel.cell (p := a.add 0) (World.block_lt_of_cell? w _ hc)).trans hc
        rw [add_zero'] at gc
        have hn0 : 0 < n := by omega
        have hcat : ds.getD 0 [] = (if 0 + 1 = 0 then [] else chainAt ds (0 + 1 - 1)) := rfl
        have HCAT := Lib.hid hcat
        clear hcat hc ht
        generalize ds.getD 0 [] = d at *
        rw [show ((0 : Nat) : Int) = 0 from rfl]
        go_wp2_with fail
        go_roundw
        case rel => exact ⟨1, d, by omega, rfl, rfl, HCAT.out, hbel⟩
        case measure => simp [intOf]; omega
      · obtain ⟨p, hp⟩ : ∃ p, p + 1 = k := ⟨k - 1, by omega⟩
        rw [if_neg hk0, show k - 1 = p by omega] at ht
        obtain ⟨a, rfl, hc⟩ := HBY.out k (by rw [HN.out]; omega)
        have gc : wr.cell? (a.add k) = some (.string (St (ds.getD k []))) := (hbel.cell (p := a.add k) (World.block_lt_of_cell? w _ hc)).trans hc
        have hcat : nameOf (t ++ [32] ++ ds.getD k []) = (if k + 1 = 0 then [] else chainAt ds (k + 1 - 1)) := by
          rw [if_neg (by omega), show k + 1 - 1 = k by omega, ht, ← hp]; rfl
        have htl : t.length ≤ 100000 := by rw [ht]; exact HCL.out p
        have hdl := HLEN.out k (by omega)
        have HCAT := Lib.hid hcat
        have hd0 : ((k : Int) == 0) = false := by rw [beq_eq_false_iff_ne]; omega
        have hkn : k < n := by omega
        clear hcat hc ht hp
        generalize ds.getD k [] = d at *
        have hch := chain5_any t d wr (by omega)
        have HCH := Lib.hid hch
        clear hch
        go_wp2_with fail
        refine HCH.out.mono ?_
        rintro e w2 ⟨rfl, hb2⟩
        have hb3 := hbel.trans (hb2.mono hbel.size)
        generalize nameOf (t ++ [32] ++ d) = q at *
        clear gc
        go_wp2_with fail
        go_roundw
        case rel => exact ⟨k + 1, q, by omega, by go_num, rfl, HCAT.out, hb3⟩
        case measure => simp [intOf]; omega
    · obtain rfl : k = m := by omega
      rw [HRES.out] at ht
      subst ht
      go_wp2_with fail
      go_ret
      exact ⟨rfl, hbel⟩

set_option maxHeartbeats 4000000 in
set_option maxRecDepth 100000 in
theorem long_any25 (ds : List (List UInt8)) (A : Option Addr) (c : Nat) (w : World) (hby : TextsAt w A ds) (hm : ds.length ≤ maxLen) :
    Calls Tryd.prog 46 #[.slice A ds.length c] w fun e w' => ∃ r : Bool, e = .returned (.bool r) ∧ w = w' ∧ (r = false → ds.length ≤ 21 ∧ ∀ j, j < ds.length → (ds.getD j []).length ≤ 200) := by
  have hm : ds.length ≤ 9223372036854775807 := by unfold maxLen at hm; omega
  have HBY := Lib.hid hby
  clear hby
  have hsz : ∀ l, (St l).size = l.length := fun _ => rfl
  generalize hn : ds.length = n at *
  have HN := Lib.hid hn
  clear hn
  go_enter Tryd.func46, Tryd.ntmps46
  go_wp2_with fail
  go_loopw [3, 4, 7] (fun _ _ v wr => w = wr ∧ ∃ k : Nat, k ≤ n ∧ v = .int .i64 (k : Int) ∧ k ≤ 21 ∧ ∀ j, j < k → (ds.getD j []).length ≤ 200) (fun _ _ v _ => n - (intOf v).toNat)
  case atStart => exact ⟨rfl, 0, by omega, rfl, by omega, fun j hj => by omega⟩
  case round =>
    obtain ⟨rfl, k, hk, rfl, hk21, hall⟩ := hrel
    have HALL := Lib.hid hall
    clear hall
    by_cases hlt : k < n
    · obtain ⟨a, rfl, hc⟩ := HBY.out k (by rw [HN.out]; omega)
      by_cases h20 : 20 < k
      · have hd : decide ((k : Int) > 20) = true := decide_eq_true (by omega)
        go_wp2_with fail
        go_ret
        exact ⟨true, rfl, rfl, fun h => by cases h⟩
      · have hd : decide ((k : Int) > 20) = false := decide_eq_false (by omega)
        by_cases h200 : 200 < (ds.getD k []).length
        · have hd2 : decide (((ds.getD k []).length : Int) > 200) = true := decide_eq_true (by omega)
          generalize ds.getD k [] = d at *
          go_wp2_with fail
          go_ret
          exact ⟨true, rfl, rfl, fun h => by cases h⟩
        · have hd2 : decide (((ds.getD k []).length : Int) > 200) = false := decide_eq_false (by omega)
          have hnew : ∀ j, j < k + 1 → (ds.getD j []).length ≤ 200 := fun j hj => by
            rcases Nat.lt_or_ge j k with h | h
            · exact HALL.out j h
            · rw [show j = k by omega]; omega
          have HNEW := Lib.hid hnew
          clear hnew
          generalize ds.getD k [] = d at *
          go_wp2_with fail
          go_roundw
          case rel => exact ⟨trivial, k + 1, by omega, by go_num, by omega, HNEW.out⟩
          case measure => simp [intOf]; omega
    · obtain rfl : k = n := by omega
      go_wp2_with fail
      go_ret
      exact ⟨false, rfl, rfl, fun _ => ⟨hk21, HALL.out⟩⟩

set_option maxHeartbeats 4000000 in
set_option maxRecDepth 100000 in
theorem isId_any (n : List UInt8) (w : World) (hbig : n.length ≤ 70368744170000) :
    Calls Tryd.prog 44 #[.string (St n)] w fun e w' => e = .returned (.bool (isName (nameP ++ n))) ∧ Below w.heap.size w w' := by
  have hp := fun w => long_any n w hbig
  have HP := Lib.hid hp
  clear hp
  go_enter Tryd.func44, Tryd.ntmps44
  go_wp2_with fail
  refine (HP.out _).mono ?_
  rintro e w1 ⟨hl, hb1⟩
  cases hn : isName (nameP ++ n) with
  | true =>
    rw [LongIs, hn] at hl
    obtain rfl := hl
    simp only [if_true]
    go_wp2_with fail
    go_ret
    exact ⟨by rw [hn]; rfl, hb1⟩
  | false =>
    rw [LongIs, hn] at hl
    obtain rfl := hl
    simp only [Bool.false_eq_true, if_false]
    go_wp2_with fail
    go_ret
    exact ⟨by rw [hn]; rfl, hb1⟩

set_option maxHeartbeats 4000000 in
set_option maxRecDepth 100000 in
theorem isIdRef_any (n : List UInt8) (w : World) (hbig : n.length ≤ 70368744170000) :
    Calls Tryd.prog 45 #[.string (St n)] w fun e w' => e = .returned (.bool (isName (nameP ++ n))) ∧ w = w' := by
  have hp := fun w => is5_any (nameP ++ n) w
  have HP := Lib.hid hp
  have hadd := add_name n (by omega)
  clear hp
  generalize nameP ++ n = m at *
  go_enter Tryd.func45, Tryd.ntmps45
  go_wp2_with fail
  refine (HP.out _).mono ?_
  rintro e w1 ⟨rfl, rfl⟩
  go_wp2_with fail
  go_ret
  exact ⟨rfl, rfl⟩
end Go.Proofs.YtbioclpobmgikaaDoor
