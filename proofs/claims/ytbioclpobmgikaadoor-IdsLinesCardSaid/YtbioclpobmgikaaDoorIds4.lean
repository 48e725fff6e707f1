/- The laws of layer 25: their fixed fact, and the one on old ids: walks. -/
import Derived.Test.YtbioclpobmgikaaDoorIds3
namespace Go.Proofs.YtbioclpobmgikaaDoor
open Go.RowKit

set_option maxHeartbeats 4000000 in
set_option maxRecDepth 100000 in
theorem alive25_any (w : World) (hL : Laid w) : Calls Tryd.prog 41 #[] w fun e w' => e = .returned (.bool true) ∧ Below w.heap.size w w' := by
  have htl := St_toList
  have hb0 : Below w.heap.size w (w.alloc (.cells #[.string (St [120])] 9)) := (Below.refl _ _).alloc (Nat.le_refl _) _
  have hch := chainIds_any [[120]] (some ⟨w.heap.size, 0, none⟩) 1 _ (hL.below hb0) (text_new w [120]) (by simp) (fun j hj => by
    have : j = 0 := by simp at hj; exact hj
    subst this
    simp)
  have HCH := Lib.hid hch
  clear hch
  go_enter Tryd.func41, Tryd.ntmps41
  go_wp2_with fail
  refine HCH.out.mono ?_
  rintro e w1 ⟨v, rfl, hb1, hown⟩
  obtain ⟨A', c', rfl, _, hc', hl, hT⟩ := own_texts hown
  obtain ⟨a', rfl, hcell⟩ := hT 0 (by rw [hl]; simp)
  rw [chainsTo_get _ _ 0 (by simp), add_zero'] at hcell
  have hcell : w1.cell? a' = some (.string (St [120])) := hcell
  have hb1' := hb0.trans (hb1.mono hb0.size)
  have ho := old_any [] [] [] none 0 w1 (hL.below hb1') (fun j hj => by simp at hj) (by simp)
  have HO := Lib.hid ho
  clear ho hT hl hown hb0 hb1 HCH
  go_wp2_with fail
  refine HO.out.mono ?_
  rintro e w2 ⟨rfl, hb2⟩
  have hb2' := hb1'.trans (hb2.mono hb1'.size)
  have hi := isId_any (oldL [] [] []) w2 (by rw [oldL_length]; omega)
  rw [oldL_name] at hi
  have HI := Lib.hid hi
  clear hi
  go_wp2_with fail
  refine HI.out.mono ?_
  rintro e w3 ⟨rfl, hb3⟩
  have hb3' := hb2'.trans (hb3.mono hb2'.size)
  go_wp2_with fail
  go_ret
  exact ⟨rfl, hb3'⟩

set_option maxHeartbeats 8000000 in
set_option maxRecDepth 100000 in
theorem idsOld_walk (p c : List UInt8) (A : Option Addr) (b : List UInt8) (cap : Nat) (w : World) (hL : Laid w) (hp : p.length ≤ 140737488351232) (hc : c.length ≤ 140737488351232) (hby : BytesAt w A b) :
    Calls Tryd.prog 11 #[.string (St p), .string (St c), .slice A b.length cap] w fun e w' => e = .returned (.bool true) ∧ Below w.heap.size w w' := by
  have htl := St_toList
  have hsp : (St p).size = p.length := rfl
  have hsc : (St c).size = c.length := rfl
  have HBY := Lib.hid hby
  clear hby
  go_enter Tryd.func11, Tryd.ntmps11
  go_wp2_with fail
  refine (alive25_any _ hL).mono ?_
  rintro e w1 ⟨rfl, hb1⟩
  by_cases h1 : 200 < p.length
  · have hd : decide ((p.length : Int) > 200) = true := decide_eq_true (by omega)
    generalize b.length = m at *
    go_wp2_with fail
    go_ret
    exact ⟨rfl, hb1⟩
  · have hd : decide ((p.length : Int) > 200) = false := decide_eq_false (by omega)
    by_cases h2 : 200 < c.length
    · have hd2 : decide ((c.length : Int) > 200) = true := decide_eq_true (by omega)
      generalize b.length = m at *
      go_wp2_with fail
      go_ret
      exact ⟨rfl, hb1⟩
    · have hd2 : decide ((c.length : Int) > 200) = false := decide_eq_false (by omega)
      by_cases h3 : 300 < b.length
      · have hd3 : decide ((b.length : Int) > 300) = true := decide_eq_true (by omega)
        generalize b.length = m at *
        go_wp2_with fail
        go_ret
        exact ⟨rfl, hb1⟩
      · have hd3 : decide ((b.length : Int) > 300) = false := decide_eq_false (by omega)
        have ho := old_any p c b A cap w1 (hL.below hb1) (HBY.out.below hb1) (by omega)
        have hr := fun w => oldRef_any p c b w (by omega)
        have hi := fun w => isId_any (oldL p c b) w (by rw [oldL_length]; omega)
        rw [oldL_name] at hi
        have hip := fun w => isId_any p w (by omega)
        have hic := fun w => isId_any c w (by omega)
        have hrp := fun w => isIdRef_any p w (by omega)
        have hrc := fun w => isIdRef_any c w (by omega)
        have hcv := fun W (h : Below w1.heap.size w1 W) => str_bytes W A b cap (HBY.out.below (hb1.trans (h.mono hb1.size)))
        have HO := Lib.hid ho; have HR := Lib.hid hr; have HI := Lib.hid hi; have HIP := Lib.hid hip; have HIC := Lib.hid hic; have HRP := Lib.hid hrp; have HRC := Lib.hid hrc; have HCV := Lib.hid hcv
        clear ho hr hi hip hic hrp hrc hcv h1 h2 h3 HBY
        generalize isName (nameP ++ p) = ip at *
        generalize isName (nameP ++ c) = ic at *
        generalize oldL p c b = r at *
        generalize b.length = m at *
        go_wp2_with fail
        refine HO.out.mono ?_
        rintro e w2 ⟨rfl, hb2⟩
        have hcv := HCV.out w2 hb2
        have hb2' := hb1.trans (hb2.mono hb1.size)
        go_wp2_with fail
        refine (HR.out _).mono ?_
        rintro e w3 ⟨rfl, hb3⟩
        have hb3' := hb2'.trans (hb3.mono hb2'.size)
        clear hcv
        go_wp2_with fail
        refine (HI.out _).mono ?_
        rintro e w4 ⟨rfl, hb4⟩
        have hb4' := hb3'.trans (hb4.mono hb3'.size)
        go_wp2_with fail
        refine (HIP.out _).mono ?_
        rintro e w5 ⟨rfl, hb5⟩
        have hb5' := hb4'.trans (hb5.mono hb4'.size)
        go_wp2_with fail
        refine (HRP.out _).mono ?_
        rintro e w' ⟨rfl, rfl⟩
        go_wp2_with fail
        refine (HIC.out _).mono ?_
        rintro e w6 ⟨rfl, hb6⟩
        have hb6' := hb5'.trans (hb6.mono hb5'.size)
        go_wp2_with fail
        refine (HRC.out _).mono ?_
        rintro e w' ⟨rfl, rfl⟩
        go_wp2_with fail
        go_ret
        exact ⟨rfl, hb6'⟩
end Go.Proofs.YtbioclpobmgikaaDoor
