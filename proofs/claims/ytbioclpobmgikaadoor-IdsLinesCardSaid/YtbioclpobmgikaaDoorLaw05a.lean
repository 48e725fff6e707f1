/- The laws of layer 5 on blobs' names: their walks. -/
import Derived.Test.YtbioclpobmgikaaDoorDig6
import Derived.WideKeyArr2
import Derived.OpenShut
namespace Go.Proofs.YtbioclpobmgikaaDoor
open Go.RowKit

theorem range_bytes {W : World} {B : Nat} {s : List UInt8} (h : W.rangeAt B 0 (Bs s)) : BytesAt W (some ⟨B, 0, none⟩) s := fun j hj => by
  refine ⟨_, rfl, ?_⟩
  have := h j _ (Bs_get s j hj)
  rw [Nat.zero_add] at this
  rw [show (⟨B, 0, none⟩ : Addr).add j = ⟨B, j, none⟩ by unfold Addr.add; split <;> simp_all]
  exact this
set_option maxRecDepth 100000 in
/-- an argument that is a digest, opened -/
theorem open_sum {H : Type} {enc : TypeId × Value → H} {W : World} {base b0 : Nat} {spare : Nat → Bool} {held : Bool} {r : Reach} {v : Value} {d : DataW H} {ps : List MemPlace} (hval : Value.okWide Tryd.prog W r b0 25 v)
    (h : DataW.Trod enc Tryd.prog W base spare held 25 v d ps) : ∃ s : List UInt8, s.length = 32 ∧ v = .agg (Bs s).toArray := by
  have A : WideMaps.ArrKey Tryd.prog 25 5 32 := ⟨Tryd.underlying25, by kernel_rfl, by kernel_rfl, by kernel_rfl⟩
  obtain ⟨cs, rfl, hsz⟩ := WideMaps.okWide_arr A hval
  obtain ⟨fuel, hf⟩ := h
  obtain ⟨xs, m, rfl, _, hl, hx, hcells⟩ := DataW.trod_array Tryd.underlying25 hf
  have each : ∀ i, ∃ x : UInt8, i < 32 → cs[i]? = some (.int .u8 (x.toNat : Int)) := fun i => by
    by_cases hi : i < 32
    · have hc := hcells i hi
      rw [show Tryd.prog.cellsOf 5 = 1 by kernel_rfl, List.getElem?_eq_getElem (by omega)] at hc
      obtain ⟨n, hn, _, hw⟩ := DataW.trod_int Tryd.underlying5 hc
      have hb := bounds_u8 hw
      refine ⟨UInt8.ofNat n.toNat, fun _ => ?_⟩
      simp only [Value.cells, Nat.mul_one] at hn
      have := congrArg (fun l => l[0]?) hn
      simp only [List.getElem?_take, List.getElem?_drop, Nat.add_zero, List.getElem?_cons_zero, show (0 : Nat) < 1 from by omega, if_true] at this
      rw [show (UInt8.ofNat n.toNat).toNat = n.toNat by simp; omega, Int.toNat_of_nonneg hb.1]
      simpa using this
    · exact ⟨0, fun h => absurd h hi⟩
  refine ⟨(List.range 32).map fun i => (each i).choose, by simp, ?_⟩
  congr 1
  apply Array.ext
  · simp [hsz, Bs]
  · intro i h1 h2
    have hi : i < 32 := by omega
    have := (each i).choose_spec hi
    have e := (Array.getElem?_eq_getElem h1).symm.trans this
    rw [Option.some.inj e]
    simp [Bs]

set_option maxHeartbeats 8000000 in
set_option maxRecDepth 100000 in
theorem digestTells_walk (A : Option Addr) (l : List UInt8) (c : Nat) (s : List UInt8) (w : World) (hL : Laid w) (hby : BytesAt w A l) (hn : A = none → c = 0) (_ : c ≤ maxLen) (hc : l.length ≤ c) (hs : s.length = 32) :
    Calls Tryd.prog 7 #[.slice A l.length c, .agg (Bs s).toArray] w fun e w' => e = .returned (.bool true) ∧ Below w.heap.size w w' := by
  have HBY := Lib.hid hby
  have htl := St_toList
  clear hby
  have hb0 : Below w.heap.size w (w.alloc (.cells (Bs s).toArray 25)) := (Below.refl _ _).alloc (Nat.le_refl _) _
  have hr0 := heap_alloc_new w (.cells (Bs s).toArray 25)
  have ha := alive5_any (w.alloc (.cells (Bs s).toArray 25)) (hL.below hb0)
  have HA := Lib.hid ha; have HR0 := Lib.hid hr0
  clear ha hr0
  go_enter Tryd.func7, Tryd.ntmps7
  go_wp2_with fail
  refine HA.out.mono ?_
  rintro e w1 ⟨rfl, hb1⟩
  have hrow : w1.heap[w.heap.size]? = some (.cells (Bs s).toArray 25) := (hb1.block _ (by simp)).trans HR0.out
  have hbel := hb0.trans (hb1.mono hb0.size)
  clear hb1 hb0 HA HR0
  by_cases hbig : 300 < l.length
  · generalize l.length = n at *
    go_wp2_with fail
    go_ret
    exact ⟨rfl, hbel⟩
  · have hd : decide ((l.length : Int) > 300) = false := decide_eq_false (by omega)
    have hLW : ∀ W, (Below w1.heap.size w1 W ∧ W.rangeAt w.heap.size 0 (Bs s)) → Laid W := fun W h => hL.below (hbel.trans (h.1.mono hbel.size))
    have hBW : ∀ W, (Below w1.heap.size w1 W ∧ W.rangeAt w.heap.size 0 (Bs s)) → BytesAt W A l := fun W h => HBY.out.below (hbel.trans (h.1.mono hbel.size))
    have hu := Tryd.underlying25
    have hi : (Tryd.prog.info? 25).map (·.size) = some (Bs s).length := by rw [Bs_length, hs]; exact info25
    have h0 := held_drew hrow
    have hal := run_all25
    have hadd := add_name (hexL s) (by rw [hexL_length]; omega)
    have hX : ∀ W, (Below w1.heap.size w1 W ∧ W.rangeAt w.heap.size 0 (Bs s)) → Calls Tryd.prog 30 #[.slice (some ⟨w.heap.size, 0, none⟩) 32 32] W fun e w' => e = .returned (.string (St (hexL s))) ∧ Below W.heap.size W w' := fun W h => by
      have := hexr_any s (some ⟨w.heap.size, 0, none⟩) 32 W (range_bytes h.2) (by omega)
      rwa [hs] at this
    have HLW := Lib.hid hLW; have HBW := Lib.hid hBW; have H0 := Lib.hid h0; have HX := Lib.hid hX; have HS := Lib.hid hs; have HC := Lib.hid hc; have HB := Lib.hid hbig
    clear hLW hBW h0 hX hrow hs hc hbig
    go_wp2_with fail
    go_region_held3 (fun w' => Below w1.heap.size w1 w' ∧ w'.rangeAt w.heap.size 0 (Bs s)) (first | exact H0.out | exact held_alloc (by assumption) _ | exact held_call (by assumption) (by assumption))
      (first
        | (go_at_call 27; refine (digOf_any l A c _ ?_ HC.out ?_ (by have := HB.out; omega)).mono ?_; exact HLW.out _ (by assumption); exact HBW.out _ (by assumption); rintro e w' ⟨rfl, hb'⟩)
        | (go_at_call 28; refine (ref5_any l A c _ ?_ hn (by have := HB.out; omega)).mono ?_; exact HBW.out _ (by assumption); rintro e w' ⟨rfl, hb'⟩)
        | (go_at_call 29; refine (name_any s HS.out _).mono ?_; rintro e w' ⟨rfl, hb'⟩)
        | (go_at_call 30; refine (HX.out _ ?_).mono ?_; assumption; rintro e w' ⟨rfl, hb'⟩))
    rename_i hheld
    have hfin := hbel.trans (hheld.1.mono hbel.size)
    generalize l.length = n at *
    go_wp2_with fail
    go_ret
    exact ⟨rfl, hfin⟩
end Go.Proofs.YtbioclpobmgikaaDoor
