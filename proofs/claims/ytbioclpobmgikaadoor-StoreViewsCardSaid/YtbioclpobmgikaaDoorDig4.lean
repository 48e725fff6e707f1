/- Which texts are names: the document's walk. -/
import Derived.Test.YtbioclpobmgikaaDoorDig3
namespace Go.Proofs.YtbioclpobmgikaaDoor
open Go.RowKit

theorem run_first7 (n : List UInt8) (h : 7 ≤ n.length) (w : World) : (Instr.slice 9 (.string (St n)) none (some (.int .i64 7)) none).run Tryd.prog w = .ok (.string (St (n.take 7))) w := by
  rw [run_slice_string_to_if w 9 _ _ _ Tryd.underlying9]
  rw [if_pos (by rw [St_size]; omega)]
  congr 2
  apply ByteArray.ext
  simp [St]
theorem run_sign (n : List UInt8) (i : Nat) (h : i < n.length) (w : World) : (Instr.index 9 (.string (St n)) (.int .i64 (i : Int))).run Tryd.prog w = .ok (.int .u8 ((at8 n i).toNat : Int)) w := by
  rw [run_index_string w 9 _ _ _ Tryd.underlying9, dif_pos (by rw [St_size]; omega)]
  congr 3
  simp only [Int.toNat_natCast, at8, List.getD, List.getElem?_eq_getElem h, Option.getD_some]
  rfl
theorem isName_iff (n : List UInt8) (h1 : n.length = 71) (h2 : n.take 7 = nameP) : isName n = ((n.drop 7).take 64).all fun c => (hv c).isSome := by
  unfold isName
  rw [h1, h2, List.take_of_length_le (by simp; omega)]
  simp
theorem all_step (n : List UInt8) (k : Nat) (h1 : n.length = 71) (hk : k < 64) : (((n.drop 7).take (k + 1)).all fun c => (hv c).isSome) = ((((n.drop 7).take k).all fun c => (hv c).isSome) && (hv (at8 n (7 + k))).isSome) := by
  rw [List.take_add_one, List.all_append]
  have : (n.drop 7)[k]? = some (at8 n (7 + k)) := by
    rw [List.getElem?_drop, List.getElem?_eq_getElem (by omega)]
    simp [at8, List.getD, show 7 + k < n.length by omega]
  rw [this]
  simp
theorem all_short (n : List UInt8) (k : Nat) (h : (((n.drop 7).take k).all fun c => (hv c).isSome) = false) (h1 : n.length = 71) (h2 : n.take 7 = nameP) (hk : k ≤ 64) : isName n = false := by
  rw [isName_iff n h1 h2]
  rw [show (n.drop 7).take 64 = (n.drop 7).take k ++ ((n.drop 7).take 64).drop k by
    have := List.take_append_drop k ((n.drop 7).take 64)
    rw [List.take_take, show min k 64 = k by omega] at this
    exact this.symm]
  rw [List.all_append, h, Bool.false_and]

set_option maxHeartbeats 4000000 in
set_option maxRecDepth 100000 in
theorem is5_any (n : List UInt8) (w : World) :
    Calls Tryd.prog 33 #[.string (St n)] w fun e w' => e = .returned (.bool (isName n)) ∧ w = w' := by
  have htl := St_toList
  have hsz : (St n).size = n.length := rfl
  by_cases h71 : n.length = 71
  · have hlen : ((n.length : Int) != 71) = false := by rw [bne_eq_false_iff_eq]; omega
    have hs7 := run_first7 n (by omega)
    by_cases hp : n.take 7 = nameP
    · have hpe : (n.take 7 == [115, 104, 97, 50, 53, 54, 58]) = true := by rw [hp]; rfl
      have HP := Lib.hid hp; have H71 := Lib.hid h71
      clear hp h71
      go_enter Tryd.func33, Tryd.ntmps33
      go_wp2_with fail
      clear hs7 hpe hlen
      go_loopw [3] (fun v wr => wr = w ∧ ∃ k : Nat, k ≤ 64 ∧ v = .int .i64 ((7 + k : Nat) : Int) ∧ (((n.drop 7).take k).all fun c => (hv c).isSome) = true) (fun v _ => 71 - (intOf v).toNat)
      case atStart => exact ⟨rfl, 0, by omega, rfl, by simp⟩
      case round =>
        obtain ⟨rfl, k, hk, rfl, hall⟩ := hrel
        have HA := Lib.hid hall
        clear hall
        by_cases hlt : k < 64
        · have hix := run_sign n (7 + k) (by have := H71.out; omega)
          have hst := all_step n k H71.out hlt
          rw [HA.out, Bool.true_and] at hst
          have HST := Lib.hid hst
          clear hst
          have hb := (at8 n (7 + k)).toNat_lt
          have hd71 : ((7 + k : Nat) : Int) < 71 := by omega
          generalize at8 n (7 + k) = c at *
          generalize hm : 7 + k = m at *
          have HM := Lib.hid hm
          clear hm
          have hvv : (hv c).isSome = (decide (48 ≤ c.toNat ∧ c.toNat ≤ 57) || decide (97 ≤ c.toNat ∧ c.toNat ≤ 102)) := by
            unfold hv
            split
            · simp_all
            · split <;> simp_all
          have HVV := Lib.hid hvv
          clear hvv
          by_cases ha : 48 ≤ c.toNat ∧ c.toNat ≤ 57
          · have q1 : decide ((48 : Int) ≤ c.toNat) = true := decide_eq_true (by omega)
            have q2 : decide ((c.toNat : Int) ≤ 57) = true := decide_eq_true (by omega)
            go_wp2_with fail
            go_roundw
            case rel => exact ⟨trivial, k + 1, by omega, by have := HM.out; go_num, by rw [HST.out, HVV.out]; simp; omega⟩
            case measure => simp [intOf]; omega
          · by_cases h1 : c.toNat < 48
            · have q1 : decide ((48 : Int) ≤ c.toNat) = false := decide_eq_false (by omega)
              have q2 : decide ((97 : Int) ≤ c.toNat) = false := decide_eq_false (by omega)
              go_wp2_with fail
              go_ret
              refine ⟨?_, rfl⟩
              rw [all_short n (k + 1) (by rw [HST.out, HVV.out]; simp; omega) H71.out HP.out (by omega)]
              rfl
            · have q1 : decide ((48 : Int) ≤ c.toNat) = true := decide_eq_true (by omega)
              have q2 : decide ((c.toNat : Int) ≤ 57) = false := decide_eq_false (by omega)
              by_cases h2 : c.toNat < 97
              · have q3 : decide ((97 : Int) ≤ c.toNat) = false := decide_eq_false (by omega)
                go_wp2_with fail
                go_ret
                refine ⟨?_, rfl⟩
                rw [all_short n (k + 1) (by rw [HST.out, HVV.out]; simp; omega) H71.out HP.out (by omega)]
                rfl
              · have q3 : decide ((97 : Int) ≤ c.toNat) = true := decide_eq_true (by omega)
                by_cases h3 : c.toNat ≤ 102
                · have q4 : decide ((c.toNat : Int) ≤ 102) = true := decide_eq_true (by omega)
                  go_wp2_with fail
                  go_roundw
                  case rel => exact ⟨trivial, k + 1, by omega, by have := HM.out; go_num, by rw [HST.out, HVV.out]; simp; omega⟩
                  case measure => simp [intOf]; omega
                · have q4 : decide ((c.toNat : Int) ≤ 102) = false := decide_eq_false (by omega)
                  go_wp2_with fail
                  go_ret
                  refine ⟨?_, rfl⟩
                  rw [all_short n (k + 1) (by rw [HST.out, HVV.out]; simp; omega) H71.out HP.out (by omega)]
                  rfl
        · obtain rfl : k = 64 := by omega
          have hn : isName n = true := by rw [isName_iff n H71.out HP.out]; exact HA.out
          rw [show ((7 + 64 : Nat) : Int) = 71 from rfl]
          have HN := Lib.hid hn
          clear hn
          go_wp2_with fail
          go_ret
          exact ⟨by rw [HN.out]; rfl, rfl⟩
    · have hpe : (n.take 7 == [115, 104, 97, 50, 53, 54, 58]) = false := by rw [beq_eq_false_iff_ne]; exact hp
      have hn : isName n = false := by
        unfold isName
        rw [show (n.take 7 == nameP) = false from hpe]
        simp
      have HN := Lib.hid hn
      clear hn hp
      go_enter Tryd.func33, Tryd.ntmps33
      go_wp2_with fail
      go_ret
      exact ⟨by rw [HN.out]; rfl, rfl⟩
  · have hlen : ((n.length : Int) != 71) = true := by rw [bne_iff_ne]; omega
    have hn : isName n = false := by
      unfold isName
      rw [beq_eq_false_iff_ne.2 h71]
      rfl
    have HN := Lib.hid hn
    clear hn
    go_enter Tryd.func33, Tryd.ntmps33
    go_wp2_with fail
    go_ret
    exact ⟨by rw [HN.out]; rfl, rfl⟩
end Go.Proofs.YtbioclpobmgikaaDoor
