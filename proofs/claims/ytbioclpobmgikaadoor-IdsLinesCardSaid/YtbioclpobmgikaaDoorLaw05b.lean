/- The law of layer 5 on chained names: its walk. -/
import Derived.Test.YtbioclpobmgikaaDoorLaw05a
namespace Go.Proofs.YtbioclpobmgikaaDoor
open Go.RowKit

theorem held0 {w : World} : Below w.heap.size w w.drew := (Below.refl _ _).drew
theorem held1 {wb W : World} (h : Below wb.heap.size wb W) (o : Obj) : Below wb.heap.size wb (W.alloc o) := h.alloc h.size o
theorem held2 {wb W W' : World} (hb : Below W.heap.size W W') (h : Below wb.heap.size wb W) : Below wb.heap.size wb W' := h.trans (hb.mono h.size)

set_option maxHeartbeats 8000000 in
set_option maxRecDepth 100000 in
theorem digestChains_walk (a b : List UInt8) (w : World) (hL : Laid w) (ha : a.length ≤ 140737488351232) (hb : b.length ≤ 140737488351232) :
    Calls Tryd.prog 8 #[.string (St a), .string (St b)] w fun e w' => e = .returned (.bool true) ∧ Below w.heap.size w w' := by
  have htl := St_toList
  have hsa : (St a).size = a.length := rfl
  have hsb : (St b).size = b.length := rfl
  go_enter Tryd.func8, Tryd.ntmps8
  go_wp2_with fail
  refine (alive5_any _ hL).mono ?_
  rintro e w1 ⟨rfl, hb1⟩
  by_cases hbig : 200 < a.length ∨ 200 < b.length
  · rcases hbig with h | h
    · have hd : decide ((a.length : Int) > 200) = true := decide_eq_true (by omega)
      go_wp2_with fail
      go_ret
      exact ⟨rfl, hb1⟩
    · have hd : decide ((b.length : Int) > 200) = true := decide_eq_true (by omega)
      by_cases h2 : 200 < a.length
      · have hd2 : decide ((a.length : Int) > 200) = true := decide_eq_true (by omega)
        go_wp2_with fail
        go_ret
        exact ⟨rfl, hb1⟩
      · have hd2 : decide ((a.length : Int) > 200) = false := decide_eq_false (by omega)
        go_wp2_with fail
        go_ret
        exact ⟨rfl, hb1⟩
  · have hd : decide ((a.length : Int) > 200) = false := decide_eq_false (by omega)
    have hd2 : decide ((b.length : Int) > 200) = false := decide_eq_false (by omega)
    obtain ⟨w2, c, hcv, hb2, hby, hc⟩ := bytes_of_text (a ++ [32] ++ b) w1
    have hcv := hcv 9 Tryd.underlying9
    have ha1 := add_blank a (by omega)
    have ha2 := add_St (a ++ [32]) b (by simp; omega)
    have hr := ref_any _ _ c w2 hby (fun h => by cases h) (by simp; omega)
    have hch := fun W (h : Laid W) => chain_any a b W h (by omega)
    have hc5 := fun W => chain5_any a b W (by omega)
    have hLW : ∀ W, Below w1.heap.size w1 W → Laid W := fun W h => hL.below (hb1.trans (h.mono hb1.size))
    have HR := Lib.hid hr; have HCH := Lib.hid hch; have HC5 := Lib.hid hc5; have HLW := Lib.hid hLW
    clear hr hch hc5 hLW hby hc hbig
    generalize a ++ [32] ++ b = q at *
    generalize q.length = n at *
    have hsl := sha_length q
    have hnm := fun W => name_any (sha q) hsl W
    have hno : nameOf q = nameP ++ hexL (sha q) := rfl
    rw [← hno] at hnm
    have i24 : (Tryd.prog.info? 24).map (·.size) = some (Bs (sha q)).toArray.size := by rw [List.size_toArray, Bs_length, hsl]; exact info24
    have hzz : (Bs (List.replicate 32 0)).toArray.size = (Bs (sha q)).toArray.size := by rw [List.size_toArray, List.size_toArray, Bs_length, Bs_length, hsl]; rfl
    have h1 : (Bs (sha q)).toArray.all (·.oneCell') = true := all_oneCell_toArray (Bs_mem _)
    have hi : (Tryd.prog.info? 24).map (·.size) = some (Bs (sha q)).length := by rw [Bs_length, hsl]; exact info24
    have hu := Tryd.underlying24
    have HNM := Lib.hid hnm; have HI := Lib.hid i24; have HZ := Lib.hid hzz; have HO := Lib.hid h1; have HII := Lib.hid hi
    clear hnm i24 hzz h1 hsl hno hi
    go_wp2_with fail
    refine HR.out.mono ?_
    rintro e w3 ⟨rfl, hb3⟩
    have hb3 := hb2.trans (hb3.mono hb2.size)
    have hrow := fun z => setRow_heap (w3.alloc (.cells z 24)) w3.heap.size _ (Bs (sha q)).toArray 24 (0, 0) (heap_alloc_new w3 _)
    have hbel := fun z => below_setRow (cs := (Bs (sha q)).toArray) (hb3.alloc hb3.size (.cells z 24)) hb3.size
    have hh := fun z => held_drew (hrow z)
    have HROW := Lib.hid hrow; have HBEL := Lib.hid hbel; have HH := Lib.hid hh
    clear hrow hbel hb2 hh hb3
    go_wp2_with (refine wpList_store_row rfl 24 (.tmp 5) (.tmp 21) rfl _ _ rfl rfl 24 _ (heap_alloc_new w3 _) HI.out HZ.out HO.out ?_)
    have hbel := HBEL.out #[.int .u8 0, .int .u8 0, .int .u8 0, .int .u8 0, .int .u8 0, .int .u8 0, .int .u8 0, .int .u8 0, .int .u8 0, .int .u8 0, .int .u8 0, .int .u8 0, .int .u8 0, .int .u8 0, .int .u8 0, .int .u8 0, .int .u8 0, .int .u8 0, .int .u8 0, .int .u8 0, .int .u8 0, .int .u8 0, .int .u8 0, .int .u8 0, .int .u8 0, .int .u8 0, .int .u8 0, .int .u8 0, .int .u8 0, .int .u8 0, .int .u8 0, .int .u8 0]
    have hh := HH.out #[.int .u8 0, .int .u8 0, .int .u8 0, .int .u8 0, .int .u8 0, .int .u8 0, .int .u8 0, .int .u8 0, .int .u8 0, .int .u8 0, .int .u8 0, .int .u8 0, .int .u8 0, .int .u8 0, .int .u8 0, .int .u8 0, .int .u8 0, .int .u8 0, .int .u8 0, .int .u8 0, .int .u8 0, .int .u8 0, .int .u8 0, .int .u8 0, .int .u8 0, .int .u8 0, .int .u8 0, .int .u8 0, .int .u8 0, .int .u8 0, .int .u8 0, .int .u8 0]
    clear HBEL HROW HH HR HI HZ HO
    generalize (w3.alloc (.cells #[.int .u8 0, .int .u8 0, .int .u8 0, .int .u8 0, .int .u8 0, .int .u8 0, .int .u8 0, .int .u8 0, .int .u8 0, .int .u8 0, .int .u8 0, .int .u8 0, .int .u8 0, .int .u8 0, .int .u8 0, .int .u8 0, .int .u8 0, .int .u8 0, .int .u8 0, .int .u8 0, .int .u8 0, .int .u8 0, .int .u8 0, .int .u8 0, .int .u8 0, .int .u8 0, .int .u8 0, .int .u8 0, .int .u8 0, .int .u8 0, .int .u8 0, .int .u8 0] 24)).setRow w3.heap.size (Bs (sha q)).toArray = w4 at *
    have HW := Lib.hid (fun W (h : Below w4.heap.size w4 W ∧ W.rangeAt w3.heap.size 0 (Bs (sha q))) => HLW.out W (hbel.trans (h.1.mono hbel.size)))
    have HHH := Lib.hid hh
    have hi := HII.out
    clear hh HLW
    go_region_held3 (fun w' => Below w4.heap.size w4 w' ∧ w'.rangeAt w3.heap.size 0 (Bs (sha q))) (first | exact HHH.out | exact held_alloc (by assumption) _ | exact held_call (by assumption) (by assumption))
      (first
        | (go_at_call 31; refine (HCH.out _ ?_).mono ?_; exact HW.out _ (by assumption); rintro e w' ⟨rfl, hb'⟩)
        | (go_at_call 32; refine (HC5.out _).mono ?_; rintro e w' ⟨rfl, hb'⟩)
        | (go_at_call 29; refine (HNM.out _).mono ?_; rintro e w' ⟨rfl, hb'⟩))
    rename_i hheld
    have hfin := hb1.trans ((hbel.trans (hheld.1.mono hbel.size)).mono hb1.size)
    have HF := Lib.hid hfin
    clear hheld hfin hi hu hbel
    generalize (Bs (sha q)).toArray = cs at *
    go_wp2_with fail
    go_ret
    exact ⟨rfl, HF.out⟩
end Go.Proofs.YtbioclpobmgikaaDoor
