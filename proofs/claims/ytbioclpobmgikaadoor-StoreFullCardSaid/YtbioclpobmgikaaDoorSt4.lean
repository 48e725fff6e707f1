/- Where a blob stands: walks. -/
import Derived.Test.YtbioclpobmgikaaDoorSt3
namespace Go.Proofs.YtbioclpobmgikaaDoor
open Go.RowKit

/-- the first place at which p holds, or -1 -/
def idxL (p : List UInt8 → Bool) (bl : List Bl) : Int := if bl.findIdx (fun b => p b.name) < bl.length then ((bl.findIdx (fun b => p b.name) : Nat) : Int) else -1
theorem idxL_hit (p : List UInt8 → Bool) (bl : List Bl) (k : Nat) (h : k < bl.length) (hp : p (bl.getD k bl0).name = true) (hb : ∀ j, j < k → p (bl.getD j bl0).name = false) : idxL p bl = (k : Int) := by
  have hf : bl.findIdx (fun b => p b.name) = k := by
    rw [List.findIdx_eq h]
    refine ⟨by simpa [List.getD, h] using hp, fun j hj => ?_⟩
    have := hb j hj
    simpa [List.getD, show j < bl.length by omega] using this
  rw [idxL, hf, if_pos h]
theorem idxL_none (p : List UInt8 → Bool) (bl : List Bl) (hb : ∀ j, j < bl.length → p (bl.getD j bl0).name = false) : idxL p bl = -1 := by
  rw [idxL, if_neg]
  intro h
  have := List.findIdx_getElem (w := h)
  have h2 := hb _ h
  simp only [List.getD, List.getElem?_eq_getElem h, Option.getD_some] at h2
  rw [h2] at this
  cases this
theorem ask_true (w : World) : Asks 86 #[] (fun _ => true) w := fun W b hb => by
  show Calls Tryd.prog 86 #[.agg #[.string (St b.name), .slice b.D b.data.length b.c]] W _
  go_enter Tryd.func86, Tryd.ntmps86
  go_wp2_with fail
  go_ret
  exact ⟨rfl, (Below.refl _ _).alloc (Nat.le_refl _) _⟩

set_option maxHeartbeats 1000000 in
set_option maxRecDepth 100000 in
theorem idx_any (g : Nat) (lb : Array Value) (p : List UInt8 → Bool) (eg : ∀ args w, (callFunc g args).run Tryd.prog w = .ok (.enter g args) w) (bl : List Bl) (A : Option Addr) (c : Nat) (w : World)
    (hp : Asks g lb p w) (hr : RowAt w A bl) (hn : bl.length ≤ 1000) :
    Calls Tryd.prog 90 #[.slice A bl.length c, .func (.func g) #[] lb] w fun e w' => e = .returned (.int .i64 (idxL p bl)) ∧ Below w.heap.size w w' := by
  have HR := Lib.hid hr; have HP := Lib.hid hp
  clear hr hp
  generalize hl : bl.length = n at *
  have HL := Lib.hid hl
  clear hl
  go_enter Tryd.func90, Tryd.ntmps90
  go_wp2_with fail
  go_loopw [5, 8] (fun _ vi wr => ∃ k : Nat, k ≤ n ∧ vi = .int .i64 (k : Int) ∧ Hid (∀ j, j < k → p (bl.getD j bl0).name = false) ∧ Below w.heap.size w wr) (fun _ v _ => n - (intOf v).toNat)
  case atStart => exact ⟨0, by omega, rfl, Lib.hid (fun j hj => by omega), Below.refl _ _⟩
  case round =>
    obtain ⟨k, hk, rfl, HF, hbel⟩ := hrel
    by_cases hlt : k < n
    · obtain ⟨a, rfl, g1, g2⟩ := HR.out.below hbel k (by rw [HL.out]; exact hlt)
      have hcall := HP.out _ (bl.getD k bl0) hbel
      cases hq : p (bl.getD k bl0).name with
      | true =>
        rw [hq] at hcall
        have HI := Lib.hid (idxL_hit p bl k (by rw [HL.out]; exact hlt) hq HF.out)
        have HCALL := Lib.hid hcall
        clear hcall hq
        generalize bl.getD k bl0 = b at *
        go_wp2_with (go_at_fn g; refine HCALL.out.mono ?_; rintro e w2 ⟨rfl, hb2⟩)
        go_ret
        exact ⟨by rw [HI.out]; rfl, hbel.trans (hb2.mono hbel.size)⟩
      | false =>
        rw [hq] at hcall
        have HQ := Lib.hid hq
        have HCALL := Lib.hid hcall
        clear hcall hq
        generalize hbb : bl.getD k bl0 = b at *
        have HBB := Lib.hid hbb
        clear hbb
        go_wp2_with (go_at_fn g; refine HCALL.out.mono ?_; rintro e w2 ⟨rfl, hb2⟩)
        go_roundw
        case rel =>
          refine ⟨k + 1, by omega, by go_num, Lib.hid (fun j hj => ?_), hbel.trans (hb2.mono hbel.size)⟩
          by_cases hjk : j = k
          · rw [hjk, HBB.out]; exact HQ.out
          · exact HF.out j (by omega)
        case measure => simp [intOf]; omega
    · obtain rfl : k = n := by omega
      have HI := Lib.hid (idxL_none p bl (by rw [HL.out]; exact HF.out))
      go_wp2_with fail
      go_ret
      exact ⟨by rw [HI.out]; rfl, hbel⟩
end Go.Proofs.YtbioclpobmgikaaDoor
