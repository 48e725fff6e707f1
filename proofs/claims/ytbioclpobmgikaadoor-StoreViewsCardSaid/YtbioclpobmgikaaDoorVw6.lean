/- A store's view: the document's walk. -/
import Derived.Test.YtbioclpobmgikaaDoorVw2
import Derived.Test.YtbioclpobmgikaaDoorVw3
import Derived.Deep.RegionHeld3
namespace Go.Proofs.YtbioclpobmgikaaDoor
open Go.RowKit

/-- what the document's View answers, as it lies -/
def View22At (s : St2) (w w' : World) (e : Ending) : Prop :=
  Below w.heap.size w w' ∧ ((checkS s = 0 ∧ ∃ A c, e = .returned (.tuple #[.slice A (s.length + 2) c, .int .i64 0]) ∧ DocsAt w' A (viewL s)) ∨
    (checkS s ≠ 0 ∧ e = .returned (.tuple #[.slice none 0 0, .int .i64 (checkS s : Nat)])))
/-- entries are appended to a list of the document's, in a drawn region -/
theorem wp_append_docents {w : World} {o : Oper} {a : Act} {K : Act → World → Prop} {Q : Exit → Act → World → Prop} (s x : Operand)
    (ho : o.op = .call { callee := .builtin .append, args := #[s, x], argTypes := #[95, 95] })
    (base : Nat) (v : Value) (n : Nat) (bl : List Ent) (hs : a.eval s = v) (hown : w.ownsRow base 142 12 v n (bl.flatMap Ent.cells))
    (ad : Addr) (nb : List Ent) (m c : Nat) (hm : nb.length = m) (hx : a.eval x = .slice (some ad) m c) (hr : DocsAt w (some ad) nb)
    (h63 : n + m ≤ 100000) (hbase : base ≤ w.heap.size)
    (h : ∀ v' w', w'.ownsRow base 142 12 v' (n + m) ((bl ++ nb).flatMap Ent.cells) → w.grownBy w' v.ownBlock → K (a.put o.dst v') w') :
    o.wp Tryd.prog a w K Q := by
  subst hm
  obtain ⟨i0, hi0, hz0, hz1, hz2⟩ := zero142
  exact wp_append_own w s x 95 ho base 142 i0 _ 12 136 Tryd.underlying95 hi0 hz0 hz1 hz2 rfl (by decide) v _ _ hs hown ad nb.length c (nb.flatMap Ent.cells) hx (by rw [flat_length _ 12 Ent.len])
    (hr.cells Ent.len) (Ent.mem _) (by unfold maxLen; omega) (by omega) hbase (fun v' w' h1 h2 _ => h v' w' (by rw [List.flatMap_append]; exact h1) h2)

set_option maxHeartbeats 4000000 in
set_option maxRecDepth 100000 in
theorem view22_any (s : St2) (A : Option Addr) (c : Nat) (w : World) (hr : DocAt w A s) (hn : s.length ≤ 1000) (hc : s.length ≤ c) (hd : ∀ x ∈ s, x.2.length ≤ 1000000) (hnm : ∀ x ∈ s, x.1.length ≤ 1000000) :
    Calls Tryd.prog 69 #[.slice A s.length c] w fun e w' => View22At s w w' e := by
  have hck := check22_any s A c w hr hn hc hd
  have HR := Lib.hid hr; have HNM := Lib.hid hnm
  clear hr hd hnm
  generalize hl : s.length = n at *
  have HL := Lib.hid hl
  have HCK := Lib.hid hck
  clear hl hck
  by_cases hz : checkS s = 0
  · rw [hz, show ((0 : Nat) : Int) = 0 from rfl] at HCK
    have HZ := Lib.hid hz
    have HCZ := Lib.hid (check_zero s hz).2
    clear hz
    go_enter Tryd.func69, Tryd.ntmps69
    go_wp2_with fail
    refine HCK.out.mono ?_
    rintro e w1 ⟨rfl, hb1⟩
    have hO0 := World.ownsRow_lit (base := w.heap.size) (e := 142) (size := 12) w1 ((dirE folder0).cells ++ (dirE folder1).cells).toArray 2 hb1.size (by unfold maxLen; omega) rfl
    have hB0 := hb1.alloc hb1.size (.cells ((dirE folder0).cells ++ (dirE folder1).cells).toArray 142)
    have HO0 := Lib.hid hO0; have HB0 := Lib.hid hB0
    clear hO0 hB0
    go_wp2_with fail
    go_loopw [5, 7, 18] (fun vo _ vi wr => ∃ k : Nat, k ≤ n ∧ vi = .int .i64 (k : Int) ∧ Below w.heap.size w wr ∧ Hid (wr.ownsRow w.heap.size 142 12 vo (2 + k) ((dirE folder0 :: dirE folder1 :: (s.take k).map fileE).flatMap Ent.cells))) (fun _ _ v _ => n - (intOf v).toNat)
    case atStart => exact ⟨0, by omega, rfl, HB0.out, Lib.hid HO0.out⟩
    case round =>
      clear HO0 HB0
      obtain ⟨k, hk, rfl, hbel, HOWN⟩ := hrel
      by_cases hlt : k < n
      · obtain ⟨a, rfl, g1, g2⟩ := (HR.out.below hbel) k (by rw [HL.out]; exact hlt)
        have hmem : s.getD k ([], []) ∈ s := by simp [List.getD, HL.out, hlt]
        have hnk := HNM.out _ hmem
        have hin := HCZ.out k (by rw [HL.out]; exact hlt)
        have HVT := Lib.hid (view_take s k (by rw [HL.out]; exact hlt))
        have hsz := hbel.size
        clear hmem
        generalize s.getD k ([], []) = b at *
        obtain ⟨bn, bd⟩ := b
        simp only at g1 g2 hnk hin
        have h71 := name_len bn hin
        have hr7 := run_rest7 bn (by omega)
        have hfo := add_folder (bn.drop 7) (by simp; omega)
        have hbx : Below wr.heap.size wr (wr.alloc (.cells #[.string (St bn), .string (St bd)] 134)) := (Below.refl _ _).alloc (Nat.le_refl _) _
        have c0 : (wr.alloc (.cells #[.string (St bn), .string (St bd)] 134)).cell? ⟨wr.heap.size, 0, none⟩ = some (.string (St bn)) := (World.cell?_alloc_new ..).trans rfl
        have c1 : (wr.alloc (.cells #[.string (St bn), .string (St bd)] 134)).cell? ⟨wr.heap.size, 1, none⟩ = some (.string (St bd)) := (World.cell?_alloc_new ..).trans rfl
        have hs2 : (wr.alloc (.cells #[.string (St bn), .string (St bd)] 134)).heap.size = wr.heap.size + 1 := by simp
        have HLT := Lib.hid HOWN.out.lt
        have HOW2 := Lib.hid (HOWN.out.alloc (.cells #[.string (St bn), .string (St bd)] 134))
        have HBX := Lib.hid hbx
        clear hin h71 hbx
        go_wp2_with fail
        generalize wr.alloc (.cells #[.string (St bn), .string (St bd)] 134) = wi at *
        have hS0 : wi.drew.cell? ⟨wr.heap.size, 0, none⟩ = some (.string (St bn)) ∧ wi.drew.cell? ⟨wr.heap.size, 1, none⟩ = some (.string (St bd)) := ⟨c0, c1⟩
        have hal : Below wi.heap.size wi (wi.alloc (.cells (fileE (bn, bd)).cells.toArray 142)).drew := ((Below.refl _ _).alloc (Nat.le_refl _) _).drew
        have hS1 : (wi.alloc (.cells (fileE (bn, bd)).cells.toArray 142)).drew.cell? ⟨wr.heap.size, 0, none⟩ = some (.string (St bn)) ∧ (wi.alloc (.cells (fileE (bn, bd)).cells.toArray 142)).drew.cell? ⟨wr.heap.size, 1, none⟩ = some (.string (St bd)) :=
          ⟨(hal.cell (p := ⟨wr.heap.size, 0, none⟩) (by show wr.heap.size < _; omega)).trans c0, (hal.cell (p := ⟨wr.heap.size, 1, none⟩) (by show wr.heap.size < _; omega)).trans c1⟩
        have hrn := (rec_new Ent.cells ent0 wi 142 (fileE (bn, bd))).below (Below.refl _ _).drew
        rw [hs2] at hrn
        have how := rowOwn_below HOW2.out hal
        have hbw : Below w.heap.size w (wi.alloc (.cells (fileE (bn, bd)).cells.toArray 142)).drew := (((noted hbel HBX.out).alloc (by have := hbel.size; omega) _)).drew
        have hne : ∀ i, (some (⟨wr.heap.size, i, none⟩ : Addr).block) ≠ u5.ownBlock := fun i e => by
          have := (HLT.out wr.heap.size e.symm).2
          omega
        have HS0 := Lib.hid hS0; have HS1 := Lib.hid hS1; have HRN := Lib.hid hrn; have HOW3 := Lib.hid how; have HBW := Lib.hid hbw; have HNE := Lib.hid hne
        have HSZ := Lib.hid hbw.size
        clear hS0 hS1 hrn how hbw hne hal c0 c1 HOW2 HBX
        go_region_held3 (fun W => W.cell? ⟨wr.heap.size, 0, none⟩ = some (.string (St bn)) ∧ W.cell? ⟨wr.heap.size, 1, none⟩ = some (.string (St bd))) (first | assumption | exact HS0.out | exact HS1.out | exact ⟨hg4.cell HS1.out.1 (HNE.out 0), hg4.cell HS1.out.2 (HNE.out 1)⟩)
          (first | (rw [if_pos (by rfl)]; refine wp_append_docents (.tmp 22) (.tmp 30) rfl w.heap.size _ (2 + k) (dirE folder0 :: dirE folder1 :: (s.take k).map fileE) rfl HOW3.out ⟨wr.heap.size + 1, 0, none⟩ [fileE (bn, bd)] 1 1 rfl rfl HRN.out (by omega) HSZ.out ?_; rintro v' w4 hown4 hg4))
        have hb4 := HBW.out.grown hg4 HSZ.out (fun j hj => (HOW3.out.lt j hj).1)
        clear hr7 hfo
        go_wp2_with fail
        go_roundw
        case rel => exact ⟨k + 1, by omega, by go_num, hb4, by rw [HVT.out]; exact Lib.hid hown4⟩
        case measure => simp [intOf]; omega
      · obtain rfl : k = n := by omega
        rw [List.take_of_length_le (by rw [HL.out]; exact Nat.le_refl _)] at HOWN
        obtain ⟨A', c', rfl, h1, h2, h3, h4⟩ := own_rec (d := ent0) Ent.len HOWN.out
        have HF := Lib.hid h4
        clear h4 h1 h2 HOWN
        go_wp2_with fail
        go_ret2
        refine ⟨hbel, .inl ⟨HZ.out, A', c', by rw [HL.out, Nat.add_comm k 2]; rfl, HF.out⟩⟩
  · have HZ := Lib.hid hz
    have hzq : ((checkS s : Nat) : Int) ≠ 0 := by omega
    clear hz
    generalize hcke : checkS s = ck at *
    have HCE := Lib.hid hcke
    have hq : ((ck : Int) != 0) = true := by rw [bne_iff_ne]; exact hzq
    clear hcke hzq
    go_enter Tryd.func69, Tryd.ntmps69
    go_wp2_with fail
    refine HCK.out.mono ?_
    rintro e w1 ⟨rfl, hb1⟩
    go_wp2_with fail
    go_ret2
    exact ⟨hb1, .inr ⟨by rw [HCE.out]; exact HZ.out, by rw [HCE.out]; rfl⟩⟩
end Go.Proofs.YtbioclpobmgikaaDoor
