/- The law of layer 25 on chain names: its walk. -/
import Derived.Test.YtbioclpobmgikaaDoorIds4
import Derived.Test.YtbioclpobmgikaaDoorLaw05b
namespace Go.Proofs.YtbioclpobmgikaaDoor
open Go.ChangeShapes Go.WideShapes Go.ChangeAt Go.RowKit

/-- an argument of texts, opened -/
theorem open_texts {H : Type} {enc : TypeId × Value → H} {W : World} {base : Nat} {spare : Nat → Bool} {held : Bool} {a : Option Addr} {len cap : Nat} {d : DataW H} {ps : List MemPlace}
    (h : DataW.Trod enc Tryd.prog W base spare held 58 (.slice a len cap) d ps) : ∃ ts : List (List UInt8), ts.length = len ∧ len ≤ cap ∧ cap ≤ maxLen ∧ (a = none → cap = 0) ∧ TextsAt W a ts := by
  obtain ⟨fuel, hf⟩ := h
  rcases open_strings Tryd.underlying58 Tryd.underlying9 (by kernel_rfl) hf with ⟨hcs, _⟩ | ⟨x, l, c, ss, hcs, _, hl, hm, hz, _, hcell, _⟩
  · simp [Value.cells] at hcs
    obtain ⟨rfl, rfl, rfl⟩ := hcs
    exact ⟨[], rfl, by omega, by unfold maxLen; omega, fun _ => rfl, fun j hj => by simp at hj⟩
  · simp [Value.cells] at hcs
    obtain ⟨rfl, rfl, rfl⟩ := hcs
    have hzl : len ≤ ss.length := by rw [hz]; split <;> omega
    refine ⟨(ss.take len).map fun s => s.data.toList, by simp; omega, hl, hm, fun h => (by cases h), fun j hj => ⟨x, rfl, ?_⟩⟩
    have hj' : j < len := by simp at hj; omega
    rw [hcell j (by omega)]
    congr 2
    simp only [List.getD_eq_getElem?_getD, List.getElem?_map, List.getElem?_take, if_pos hj', List.getElem?_eq_getElem (show j < ss.length by omega), Option.getD_some, Option.map_some]
    rfl

/-- what a region holds on to: the world below, and a cell -/
theorem keep_cell {wb W W' : World} {p : Addr} {v : Value} (hb : Below W.heap.size W W') (h : Below wb.heap.size wb W ∧ W.cell? p = some v) : Below wb.heap.size wb W' ∧ W'.cell? p = some v :=
  ⟨h.1.trans (hb.mono h.1.size), (hb.cell (p := p) (World.block_lt_of_cell? W _ h.2)).trans h.2⟩

set_option maxHeartbeats 8000000 in
set_option maxRecDepth 100000 in
theorem idsChains_walk (A : Option Addr) (ds : List (List UInt8)) (c : Nat) (w : World) (hL : Laid w) (hT : TextsAt w A ds) (hm : c ≤ maxLen) (hc : ds.length ≤ c) :
    Calls Tryd.prog 12 #[.slice A ds.length c] w fun e w' => e = .returned (.bool true) ∧ Below w.heap.size w w' := by
  have htl := St_toList
  have HT := Lib.hid hT
  have hlong := fun w' (h : Below w.heap.size w w') => long_any25 ds A c w' (hT.below h) (by omega)
  have HLONG := Lib.hid hlong
  clear hT hlong hm hc
  go_enter Tryd.func12, Tryd.ntmps12
  go_wp2_with fail
  refine (alive25_any _ hL).mono ?_
  rintro e w1 ⟨rfl, hb1⟩
  go_wp2_with fail
  refine (HLONG.out w1 hb1).mono ?_
  rintro e w' ⟨r, rfl, rfl, hr⟩
  cases r with
  | true =>
    go_wp2_with fail
    go_ret
    exact ⟨rfl, hb1⟩
  | false =>
    obtain ⟨h21, h200⟩ := hr rfl
    have hT1 := fun W (h : Below w.heap.size w W) => HT.out.below h
    have hlen : ∀ j, j < ds.length → (ds.getD j []).length ≤ 100000 := fun j hj => Nat.le_trans (h200 j hj) (by omega)
    have hch := chainIds_any ds A c w1 (hL.below hb1) (hT1 w1 hb1) (by omega) hlen
    have htop := fun W (h : Below w1.heap.size w1 W) => top_any ds A c W (hL.below (hb1.trans (h.mono hb1.size))) (hT1 W (hb1.trans (h.mono hb1.size))) (by omega) hlen
    have href := fun m (hm : m ≤ ds.length) W (h : Below w1.heap.size w1 W) => chainRef_any ds A c m W (hT1 W (hb1.trans (h.mono hb1.size))) hm (by omega) hlen
    have href0 := href ds.length (Nat.le_refl _)
    rw [show (if ds.length = 0 then [] else chainAt ds (ds.length - 1)) = topL ds from rfl] at href0
    have HCH := Lib.hid hch; have HTOP := Lib.hid htop; have HREF := Lib.hid href; have HREF0 := Lib.hid href0
    clear hch htop href href0 hlen h200 hT1 HT HLONG hr
    generalize topL ds = tp at *
    generalize ds.length = n at *
    go_wp2_with fail
    refine HCH.out.mono ?_
    rintro e w2 ⟨v, rfl, hb2, hown⟩
    obtain ⟨A2, c2, rfl, _, hc2, hl2, hT2⟩ := own_texts hown
    clear hown
    have HT2 := Lib.hid hT2
    clear hT2
    go_wp2_with fail
    refine (HTOP.out w2 hb2).mono ?_
    rintro e w3 ⟨rfl, hb3⟩
    have hb3' := hb2.trans (hb3.mono hb2.size)
    go_wp2_with fail
    refine (HREF0.out w3 hb3').mono ?_
    rintro e w4 ⟨rfl, hb4⟩
    have hb4' := hb3'.trans (hb4.mono hb3'.size)
    have hT4 := (HT2.out.below hb3).below hb4
    have HT4 := Lib.hid hT4
    clear hT4 HT2
    go_wp2_with fail
    go_loopw [4, 27] (fun _ v wr => ∃ k : Nat, k ≤ n ∧ v = .int .i64 (k : Int) ∧ Below w4.heap.size w4 wr) (fun _ v _ => n - (intOf v).toNat)
    case atStart => exact ⟨0, by omega, rfl, Below.refl _ _⟩
    case round =>
      obtain ⟨k, hk, rfl, hbel⟩ := hrel
      have hbw := hb1.trans ((hb4'.trans (hbel.mono hb4'.size)).mono hb1.size)
      by_cases hlt : k < n
      · obtain ⟨a, rfl, hcell⟩ := HT4.out k (by rw [chainsTo_length]; exact hlt)
        rw [chainsTo_get ds n k hlt] at hcell
        have href := fun W (h : Below w1.heap.size w1 W) => HREF.out (k + 1) (by omega) W h
        rw [if_neg (by omega), show k + 1 - 1 = k by omega, show ((k + 1 : Nat) : Int) = (k : Int) + 1 by omega] at href
        have hcr : wr.cell? (a.add k) = some (.string (St (chainAt ds k))) := (hbel.cell (p := a.add k) (World.block_lt_of_cell? w4 _ hcell)).trans hcell
        have hS0 : Below wr.heap.size wr wr.drew ∧ wr.drew.cell? (a.add k) = some (.string (St (chainAt ds k))) := ⟨(Below.refl _ _).drew, hcr⟩
        have hup := fun W (h : Below wr.heap.size wr W) => hb4'.trans ((hbel.trans (h.mono hbel.size)).mono hb4'.size)
        have e1 : IntKind.i64.wrap ((k : Int) + 1) = (k : Int) + 1 := IntWalk.i64_in _ (by omega)
        have HR := Lib.hid href; have HS0 := Lib.hid hS0; have HUP := Lib.hid hup
        clear href hcell hcr hS0 hup
        generalize chainAt ds k = q at *
        go_wp2_with fail
        go_region_held3 (fun w' => Below wr.heap.size wr w' ∧ w'.cell? (a.add k) = some (.string (St q))) (first | assumption | exact HS0.out | exact keep_cell (by assumption) (by assumption))
          (first | (go_at_call 49; refine (HR.out _ ?_).mono ?_; exact HUP.out _ (And.left (by assumption)); rintro e w' ⟨rfl, hb'⟩))
        rename_i hheld
        have hbel' := hbel.trans (hheld.1.mono hbel.size)
        clear hheld hb'
        go_wp2_with fail
        go_roundw
        case rel => exact ⟨k + 1, by omega, by go_num, hbel'⟩
        case measure => simp [intOf]; omega
      · obtain rfl : k = n := by omega
        go_wp2_with fail
        go_ret
        exact ⟨rfl, hbw⟩
end Go.Proofs.YtbioclpobmgikaaDoor
