/- The law of layer 2 on the three texts: its walk. -/
import Derived.Test.YtbioclpobmgikaaC7b
namespace Go.Proofs.Ytbioclpobmgikaa
open Go.RowKit

set_option maxHeartbeats 1000000 in
set_option maxRecDepth 100000 in
theorem codecTells_walk (A : Option Addr) (a : List UInt8) (c : Nat) (w : World) (hA : BytesAt w A a) :
    Calls Try.prog 3 #[.slice A a.length c] w fun e w' => e = .returned (.bool true) ∧ Below w.heap.size w w' := by
  have HA := Lib.hid hA
  clear hA
  generalize hla : a.length = la at *
  have HLA := Lib.hid hla
  clear hla
  go_enter Try.func3, Try.ntmps3
  go_wp2_with fail
  refine (alive2_any w).mono ?_
  rintro e w1 ⟨rfl, hb1⟩
  by_cases h1 : 400 < la
  · have hd : decide ((la : Int) > 400) = true := decide_eq_true (by omega)
    go_wp2_with fail
    go_ret
    exact ⟨rfl, hb1⟩
  · have hd : decide ((la : Int) > 400) = false := decide_eq_false (by omega)
    have hxa := fun W (h : Below w.heap.size w W) => hex_any a A c W (HA.out.below h) (by rw [HLA.out]; omega)
    have hxr := fun W (h : Below w.heap.size w W) => hexr_any a A c W (HA.out.below h) (by rw [HLA.out]; omega)
    have bsa := fun W (h : Below w.heap.size w W) => base_any a A c W (HA.out.below h) (by rw [HLA.out]; omega)
    have ura := fun W (h : Below w.heap.size w W) => url_any a A c W (HA.out.below h) (by rw [HLA.out]; omega)
    have brf := fun W (h : Below w.heap.size w W) => bbase_any false a A c W (HA.out.below h) (by rw [HLA.out]; omega)
    have brt := fun W (h : Below w.heap.size w W) => bbase_any true a A c W (HA.out.below h) (by rw [HLA.out]; omega)
    rw [HLA.out] at hxa hxr bsa ura brf brt
    rw [show bbL false a = baseL a from rfl] at brf
    rw [show bbL true a = urlL a from rfl] at brt
    have HXA := Lib.hid hxa; have HXR := Lib.hid hxr; have BSA := Lib.hid bsa; have URA := Lib.hid ura; have BRF := Lib.hid brf; have BRT := Lib.hid brt
    clear hxa hxr bsa ura brf brt HA HLA
    generalize hexL a = x at *
    generalize baseL a = y at *
    generalize urlL a = z at *
    go_wp2_with fail
    refine (HXA.out w1 hb1).mono ?_
    rintro e w2 ⟨rfl, n2⟩
    have hb2 := hb1.trans (n2.mono hb1.size)
    go_wp2_with fail
    refine (HXR.out w2 hb2).mono ?_
    rintro e w3 ⟨rfl, n3⟩
    have hb3 := hb2.trans (n3.mono hb2.size)
    go_wp2_with fail
    refine (BSA.out w3 hb3).mono ?_
    rintro e w4 ⟨rfl, n4⟩
    have hb4 := hb3.trans (n4.mono hb3.size)
    go_wp2_with fail
    refine (BRF.out w4 hb4).mono ?_
    rintro e w5 ⟨rfl, n5⟩
    have hb5 := hb4.trans (n5.mono hb4.size)
    go_wp2_with fail
    refine (URA.out w5 hb5).mono ?_
    rintro e w6 ⟨rfl, n6⟩
    have hb6 := hb5.trans (n6.mono hb5.size)
    go_wp2_with fail
    refine (BRT.out w6 hb6).mono ?_
    rintro e w7 ⟨rfl, n7⟩
    have hb7 := hb6.trans (n7.mono hb6.size)
    go_wp2_with fail
    go_ret
    exact ⟨rfl, hb7⟩
end Go.Proofs.Ytbioclpobmgikaa
