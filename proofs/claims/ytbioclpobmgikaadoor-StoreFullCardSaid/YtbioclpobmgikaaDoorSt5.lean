/- Function values over blobs; where a name stands: walks. -/
import Derived.Test.YtbioclpobmgikaaDoorSt4
namespace Go.Proofs.YtbioclpobmgikaaDoor
open Go.RowKit

/-- texts in order -/
def eqB (n m : List UInt8) : Bool := @BEq.beq (List UInt8) List.instBEq n m
theorem eqB_true (n m : List UInt8) : eqB n m = true ↔ n = m := by unfold eqB; exact beq_iff_eq
theorem eqB_false (n m : List UInt8) : eqB n m = false ↔ n ≠ m := by unfold eqB; exact beq_eq_false_iff_ne
theorem eqB_self (n : List UInt8) : eqB n n = true := (eqB_true n n).2 rfl
def gtB (n m : List UInt8) : Bool := !Op.bytesLess n m && !(eqB n m)
theorem ask_name (nm : List UInt8) (B : Nat) (w : World) (hB : B < w.heap.size) (hc : w.cell? ⟨B, 0, none⟩ = some (.string (St nm))) :
    Asks 112 #[.pointer (some ⟨B, 0, none⟩)] (fun n => eqB n nm) w := fun W b hb => by
  have h2 : W.cell? ⟨B, 0, none⟩ = some (.string (St nm)) := (hb.cell (p := ⟨B, 0, none⟩) hB).trans hc
  have hBW : B < W.heap.size := Nat.lt_of_lt_of_le hB hb.size
  have hne : B ≠ W.heap.size := by omega
  have c2 := fun o => (World.cell?_alloc_old W o ⟨B, 0, none⟩ hne).trans h2
  have htl := St_toList
  show Calls Tryd.prog 112 #[.agg #[.string (St b.name), .slice b.D b.data.length b.c], .pointer (some ⟨B, 0, none⟩)] W _
  clear hb hc h2
  go_enter Tryd.func112, Tryd.ntmps112
  go_wp2_with fail
  go_ret
  exact ⟨rfl, (Below.refl _ _).alloc (Nat.le_refl _) _⟩
theorem ask_ne (nm : List UInt8) (B : Nat) (w : World) (hB : B < w.heap.size) (hc : w.cell? ⟨B, 0, none⟩ = some (.string (St nm))) :
    Asks 95 #[.pointer (some ⟨B, 0, none⟩)] (fun n => !(eqB n nm)) w := fun W b hb => by
  have h2 : W.cell? ⟨B, 0, none⟩ = some (.string (St nm)) := (hb.cell (p := ⟨B, 0, none⟩) hB).trans hc
  have hBW : B < W.heap.size := Nat.lt_of_lt_of_le hB hb.size
  have hne : B ≠ W.heap.size := by omega
  have c2 := fun o => (World.cell?_alloc_old W o ⟨B, 0, none⟩ hne).trans h2
  have htl := St_toList
  show Calls Tryd.prog 95 #[.agg #[.string (St b.name), .slice b.D b.data.length b.c], .pointer (some ⟨B, 0, none⟩)] W _
  clear hb hc h2
  go_enter Tryd.func95, Tryd.ntmps95
  go_wp2_with fail
  go_ret
  exact ⟨rfl, (Below.refl _ _).alloc (Nat.le_refl _) _⟩
theorem ask_gt (nm : List UInt8) (B : Nat) (w : World) (hB : B < w.heap.size) (hc : w.cell? ⟨B, 0, none⟩ = some (.string (St nm))) :
    Asks 91 #[.pointer (some ⟨B, 0, none⟩)] (fun n => gtB n nm) w := fun W b hb => by
  have h2 : W.cell? ⟨B, 0, none⟩ = some (.string (St nm)) := (hb.cell (p := ⟨B, 0, none⟩) hB).trans hc
  have hBW : B < W.heap.size := Nat.lt_of_lt_of_le hB hb.size
  have hne : B ≠ W.heap.size := by omega
  have c2 := fun o => (World.cell?_alloc_old W o ⟨B, 0, none⟩ hne).trans h2
  have htl := St_toList
  show Calls Tryd.prog 91 #[.agg #[.string (St b.name), .slice b.D b.data.length b.c], .pointer (some ⟨B, 0, none⟩)] W _
  clear hb hc h2
  go_enter Tryd.func91, Tryd.ntmps91
  go_wp2_with fail
  go_ret
  exact ⟨rfl, (Below.refl _ _).alloc (Nat.le_refl _) _⟩

theorem enters112 : ∀ args w, (callFunc 112 args).run Tryd.prog w = .ok (.enter 112 args) w := enters_of Tryd.func112 (by kernel_rfl) rfl
theorem enters91 : ∀ args w, (callFunc 91 args).run Tryd.prog w = .ok (.enter 91 args) w := enters_of Tryd.func91 (by kernel_rfl) rfl
theorem enters95 : ∀ args w, (callFunc 95 args).run Tryd.prog w = .ok (.enter 95 args) w := enters_of Tryd.func95 (by kernel_rfl) rfl
theorem enters86 : ∀ args w, (callFunc 86 args).run Tryd.prog w = .ok (.enter 86 args) w := enters_of Tryd.func86 (by kernel_rfl) rfl

/-- where a name stands -/
def placeL (bl : List Bl) (nm : List UInt8) : Int := idxL (fun n => eqB n nm) bl
set_option maxHeartbeats 1000000 in
set_option maxRecDepth 100000 in
theorem place_any (bl : List Bl) (nm : List UInt8) (A : Option Addr) (c : Nat) (w : World) (hr : RowAt w A bl) (hn : bl.length ≤ 1000) :
    Calls Tryd.prog 87 #[.slice A bl.length c, .string (St nm)] w fun e w' => e = .returned (.int .i64 (placeL bl nm)) ∧ Below w.heap.size w w' := by
  have hb0 : Below w.heap.size w (w.alloc (.cells #[.string (St nm)] 9)) := (Below.refl _ _).alloc (Nat.le_refl _) _
  have hc := idx_any 112 #[.pointer (some ⟨w.heap.size, 0, none⟩)] (fun n => eqB n nm) enters112 bl A c _ (ask_name nm w.heap.size (w.alloc (.cells #[.string (St nm)] 9)) (by simp) ((World.cell?_alloc_new ..).trans rfl)) (hr.below hb0) hn
  rw [show idxL (fun n => eqB n nm) bl = placeL bl nm from rfl] at hc
  have HC := Lib.hid hc
  clear hc hr
  generalize placeL bl nm = r at *
  generalize bl.length = n at *
  go_enter Tryd.func87, Tryd.ntmps87
  go_wp2_with (go_at_call 90; refine HC.out.mono ?_; rintro e w2 ⟨rfl, hb2⟩)
  go_ret
  exact ⟨rfl, hb0.trans (hb2.mono hb0.size)⟩
set_option maxHeartbeats 400000 in
set_option maxRecDepth 100000 in
theorem has_any (bl : List Bl) (nm : List UInt8) (A : Option Addr) (c : Nat) (w : World) (hr : RowAt w A bl) (hn : bl.length ≤ 1000) :
    Calls Tryd.prog 54 #[.slice A bl.length c, .string (St nm)] w fun e w' => e = .returned (.bool (decide (0 ≤ placeL bl nm))) ∧ Below w.heap.size w w' := by
  have HC := Lib.hid (place_any bl nm A c w hr hn)
  clear hr
  generalize placeL bl nm = r at *
  generalize bl.length = n at *
  go_enter Tryd.func54, Tryd.ntmps54
  go_wp2_with (go_at_call 87; refine HC.out.mono ?_; rintro e w2 ⟨rfl, hb2⟩)
  go_ret
  exact ⟨rfl, hb2⟩
set_option maxHeartbeats 400000 in
set_option maxRecDepth 100000 in
theorem eqb_any (a b : List UInt8) (A B : Option Addr) (c d : Nat) (w : World) (hA : BytesAt w A a) (hB : BytesAt w B b) :
    Calls Tryd.prog 88 #[.slice A a.length c, .slice B b.length d] w fun e w' => e = .returned (.bool (eqB a b)) ∧ w' = w := by
  have h1 := str_bytes w A a c hA
  have h2 := str_bytes w B b d hB
  clear hA hB
  generalize a.length = n at *
  generalize b.length = m at *
  go_enter Tryd.func88, Tryd.ntmps88
  go_wp2_with fail
  go_ret
  show Ending.returned (.bool ((St a).toList == (St b).toList)) = _ ∧ _
  rw [St_toList, St_toList]
  exact ⟨rfl, rfl⟩
end Go.Proofs.YtbioclpobmgikaaDoor
