/- The law of layer 5 on blobs that names are the names of: its walk. -/
import Derived.Test.YtbioclpobmgikaaDoorDig6
namespace Go.Proofs.YtbioclpobmgikaaDoor
open Go.RowKit

theorem verify_own (b : List UInt8) : verifyN (nameOf b) b = 0 := by
  rw [verifyN, nameOf_parse]
  exact if_pos rfl
theorem verify_bad (n b : List UInt8) (h : isName n = false) : verifyN n b = 2 := by
  rw [← parse_isSome] at h
  rw [verifyN]
  cases hp : parseL n with
  | none => rfl
  | some d => rw [hp] at h; cases h
theorem verify_sum (n b : List UInt8) (h : isName n = true) : verifyN n b = if nameOf b = n then 0 else 6 := by
  rw [← parse_isSome] at h
  rw [verifyN]
  cases hp : parseL n with
  | none => rw [hp] at h; cases h
  | some d =>
    have := name_eq_iff n b d hp
    by_cases he : d = sha b
    · rw [if_pos (this.2 he).symm]; exact if_pos he
    · rw [if_neg (fun h => he (this.1 h.symm))]; exact if_neg he

set_option maxHeartbeats 8000000 in
set_option maxRecDepth 100000 in
theorem digestVerifies_walk (n : List UInt8) (A : Option Addr) (b : List UInt8) (c : Nat) (w : World) (hL : Laid w) (hn : n.length ≤ 140737488351232) (hby : BytesAt w A b) (hnone : A = none → c = 0) (_ : c ≤ maxLen) (hc : b.length ≤ c) :
    Calls Tryd.prog 9 #[.string (St n), .slice A b.length c] w fun e w' => e = .returned (.bool true) ∧ Below w.heap.size w w' := by
  have htl := St_toList
  have hsn : (St n).size = n.length := rfl
  have HBY := Lib.hid hby
  clear hby
  go_enter Tryd.func9, Tryd.ntmps9
  go_wp2_with fail
  refine (alive5_any _ hL).mono ?_
  rintro e w1 ⟨rfl, hb1⟩
  by_cases h1 : 300 < b.length
  · have hd : decide ((b.length : Int) > 300) = true := decide_eq_true (by omega)
    generalize b.length = m at *
    go_wp2_with fail
    go_ret
    exact ⟨rfl, hb1⟩
  · have hd : decide ((b.length : Int) > 300) = false := decide_eq_false (by omega)
    by_cases h2 : 300 < n.length
    · have hd2 : decide ((n.length : Int) > 300) = true := decide_eq_true (by omega)
      go_wp2_with fail
      go_ret
      exact ⟨rfl, hb1⟩
    · have hd2 : decide ((n.length : Int) > 300) = false := decide_eq_false (by omega)
      have hbw : ∀ W, Below w1.heap.size w1 W → BytesAt W A b := fun W h => HBY.out.below (hb1.trans (h.mono hb1.size))
      have hlw : ∀ W, Below w1.heap.size w1 W → Laid W := fun W h => hL.below (hb1.trans (h.mono hb1.size))
      have h5 := fun W (h : Below w1.heap.size w1 W) => ref5_any b A c W (hbw W h) hnone (by omega)
      have hO := fun W (h : Below w1.heap.size w1 W) => digOf_any b A c W (hlw W h) hc (hbw W h) (by omega)
      have hV := fun W (h : Below w1.heap.size w1 W) => verify_any n b A c W (hlw W h) (hbw W h) hc (by omega) (by omega)
      have hV2 := fun W (h : Below w1.heap.size w1 W) => verify_any (nameOf b) b A c W (hlw W h) (hbw W h) hc (by rw [nameOf_length]; omega) (by omega)
      rw [verify_own] at hV2
      have H5 := Lib.hid h5; have HO := Lib.hid hO; have HV := Lib.hid hV; have HV2 := Lib.hid hV2
      clear h5 hO hV hV2 hbw hlw HBY
      go_wp2_with fail
      refine (is5_any n w1).mono ?_
      rintro e w' ⟨rfl, rfl⟩
      cases hnm : isName n with
      | false =>
        have hv := verify_bad n b hnm
        have HV3 := HV.out w1 (Below.refl _ _)
        rw [hv] at HV3
        have HN := num_any 2 (by omega)
        have HV3 := Lib.hid HV3; have HN := Lib.hid HN
        clear hv
        generalize b.length = m at *
        go_wp2_with fail
        refine HV3.out.mono ?_
        rintro e w2 ⟨rfl, hb2⟩
        generalize errV 2 = v2 at *
        go_wp2_with fail
        refine (HN.out _).mono ?_
        rintro e w' ⟨rfl, rfl⟩
        go_wp2_with fail
        refine (HO.out _ hb2).mono ?_
        rintro e w3 ⟨rfl, hb3⟩
        have hb3 := hb2.trans (hb3.mono hb2.size)
        go_wp2_with fail
        refine (HV2.out _ hb3).mono ?_
        rintro e w4 ⟨rfl, hb4⟩
        have hb4 := hb1.trans ((hb3.trans (hb4.mono hb3.size)).mono hb1.size)
        have he0 : errV 0 = .nilIface := rfl
        rw [he0]
        go_wp2_with fail
        go_ret
        exact ⟨rfl, hb4⟩
      | true =>
        have hv := verify_sum n b hnm
        go_wp2_with fail
        refine (H5.out _ (Below.refl _ _)).mono ?_
        rintro e w2 ⟨rfl, hb2⟩
        by_cases he : nameOf b = n
        · rw [if_pos he] at hv
          have HV3 := HV.out w2 hb2
          rw [hv] at HV3
          have hq : (nameOf b == n) = true := by rw [beq_iff_eq]; exact he
          have HN := num_any 0 (by omega)
          have HV3 := Lib.hid HV3; have HN := Lib.hid HN; have HE := Lib.hid he
          clear hv he
          generalize b.length = m at *
          go_wp2_with fail
          refine HV3.out.mono ?_
          rintro e w3 ⟨rfl, hb3⟩
          have hb3 := hb2.trans (hb3.mono hb2.size)
          generalize hv0 : errV 0 = v2 at *
          have HV0 := Lib.hid hv0
          clear hv0
          go_wp2_with fail
          refine (HN.out _).mono ?_
          rintro e w' ⟨rfl, rfl⟩
          go_wp2_with fail
          refine (HO.out _ hb3).mono ?_
          rintro e w4 ⟨rfl, hb4⟩
          have hb4 := hb3.trans (hb4.mono hb3.size)
          go_wp2_with fail
          refine (HV2.out _ hb4).mono ?_
          rintro e w5 ⟨rfl, hb5⟩
          have hb5 := hb1.trans ((hb4.trans (hb5.mono hb4.size)).mono hb1.size)
          have he0 : v2 = .nilIface := HV0.out.symm
          rw [he0]
          go_wp2_with fail
          go_ret
          exact ⟨rfl, hb5⟩
        · rw [if_neg he] at hv
          have HV3 := HV.out w2 hb2
          rw [hv] at HV3
          have hq : (nameOf b == n) = false := by rw [beq_eq_false_iff_ne]; exact he
          have HN := num_any 6 (by omega)
          have HV3 := Lib.hid HV3; have HN := Lib.hid HN; have HE := Lib.hid he
          clear hv he
          generalize b.length = m at *
          go_wp2_with fail
          refine HV3.out.mono ?_
          rintro e w3 ⟨rfl, hb3⟩
          have hb3 := hb2.trans (hb3.mono hb2.size)
          generalize errV 6 = v2 at *
          go_wp2_with fail
          refine (HN.out _).mono ?_
          rintro e w' ⟨rfl, rfl⟩
          go_wp2_with fail
          refine (HO.out _ hb3).mono ?_
          rintro e w4 ⟨rfl, hb4⟩
          have hb4 := hb3.trans (hb4.mono hb3.size)
          go_wp2_with fail
          refine (HV2.out _ hb4).mono ?_
          rintro e w5 ⟨rfl, hb5⟩
          have hb5 := hb1.trans ((hb4.trans (hb5.mono hb4.size)).mono hb1.size)
          have he0 : errV 0 = .nilIface := rfl
          rw [he0]
          go_wp2_with fail
          go_ret
          exact ⟨rfl, hb5⟩
end Go.Proofs.YtbioclpobmgikaaDoor
