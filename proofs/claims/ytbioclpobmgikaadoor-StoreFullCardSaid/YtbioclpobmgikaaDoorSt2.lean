/- Blobs apart, filtered, found: walks. -/
import Derived.Test.YtbioclpobmgikaaDoorSt1
import Derived.Deep.RegionWith
namespace Go.Proofs.YtbioclpobmgikaaDoor
open Go.RowKit

theorem heap_set2 {W : World} {B : Nat} {u v : Value} {t : TypeId} (x y : Value) (h : W.heap[B]? = some (.cells #[u, v] t (0, 0))) : ((W.setCell ⟨B, 0, none⟩ x).setCell ⟨B, 1, none⟩ y).heap[B]? = some (.cells #[x, y] t (0, 0)) := by
  obtain ⟨hs, he⟩ := Array.getElem?_eq_some_iff.1 h
  simp [World.setCell, hs]
  rw [Array.getElem_modify_self, Array.getElem_modify_self, he]
  rfl
theorem info70 : (Tryd.prog.info? 70).map (·.size) = some 2 := by kernel_rfl

def ApartAt (b : Bl) (w w' : World) (e : Ending) : Prop :=
  Below w.heap.size w w' ∧ ∃ b' : Bl, b'.abs = b.abs ∧ e = .returned (.agg #[.string (St b'.name), .slice b'.D b'.data.length b'.c]) ∧ Good5 w' b'
set_option maxHeartbeats 1000000 in
set_option maxRecDepth 100000 in
theorem apart_any (b : Bl) (w : World) (hg : Good w b) (hbig : b.data.length ≤ 100000000) :
    Calls Tryd.prog 93 #[.agg #[.string (St b.name), .slice b.D b.data.length b.c]] w fun e w' => ApartAt b w w' e := by
  obtain ⟨nm, dt, D, c⟩ := b
  simp only at hbig hg ⊢
  obtain ⟨h1, h2, h3⟩ := hg
  simp only at h1 h2 h3
  have H2 := Lib.hid h2; have H3 := Lib.hid h3
  clear h2 h3
  have HC := Lib.hid (fun W (h : Below w.heap.size w W) => clone_any dt D c W h1 H2.out (H3.out.below h) hbig)
  go_enter Tryd.func93, Tryd.ntmps93
  go_wp2_with fail
  have hb0 : Below w.heap.size w ((w.alloc (.cells #[.string (St nm), .slice D dt.length c] 70)).alloc (.cells #[.string ⟨#[]⟩, .slice none 0 0] 70)) := ((Below.refl _ _).alloc (Nat.le_refl _) _).alloc (by simp) _
  have c0 : ((w.alloc (.cells #[.string (St nm), .slice D dt.length c] 70)).alloc (.cells #[.string ⟨#[]⟩, .slice none 0 0] 70)).cell? ⟨w.heap.size, 0, none⟩ = some (.string (St nm)) := by rw [World.cell?_alloc_old _ _ _ (by simp)]; exact (World.cell?_alloc_new ..).trans rfl
  have c1 : ((w.alloc (.cells #[.string (St nm), .slice D dt.length c] 70)).alloc (.cells #[.string ⟨#[]⟩, .slice none 0 0] 70)).cell? ⟨w.heap.size, 1, none⟩ = some (.slice D dt.length c) := by rw [World.cell?_alloc_old _ _ _ (by simp)]; exact (World.cell?_alloc_new ..).trans rfl
  have c2 : ((w.alloc (.cells #[.string (St nm), .slice D dt.length c] 70)).alloc (.cells #[.string ⟨#[]⟩, .slice none 0 0] 70)).heap[w.heap.size + 1]? = some (.cells #[.string ⟨#[]⟩, .slice none 0 0] 70) := by
    have h := heap_alloc_new (w.alloc (.cells #[.string (St nm), .slice D dt.length c] 70)) (.cells #[.string ⟨#[]⟩, .slice none 0 0] 70)
    rwa [show (w.alloc (.cells #[.string (St nm), .slice D dt.length c] 70)).heap.size = w.heap.size + 1 by simp] at h
  have hs1 : ((w.alloc (.cells #[.string (St nm), .slice D dt.length c] 70)).alloc (.cells #[.string ⟨#[]⟩, .slice none 0 0] 70)).heap.size = w.heap.size + 2 := by simp
  generalize ((w.alloc (.cells #[.string (St nm), .slice D dt.length c] 70)).alloc (.cells #[.string ⟨#[]⟩, .slice none 0 0] 70)) = w1 at *
  have HD := Lib.hid (fun W (h : Below w1.heap.size w1 W) => HC.out W (hb0.trans (h.mono hb0.size)))
  have g0 : ∀ W, Below w1.heap.size w1 W → W.cell? ⟨w.heap.size, 0, none⟩ = some (.string (St nm)) := fun W h => (h.cell (p := ⟨w.heap.size, 0, none⟩) (by show w.heap.size < _; omega)).trans c0
  have g1 : ∀ W, Below w1.heap.size w1 W → W.cell? ⟨w.heap.size, 1, none⟩ = some (.slice D dt.length c) := fun W h => (h.cell (p := ⟨w.heap.size, 1, none⟩) (by show w.heap.size < _; omega)).trans c1
  have r2 : ∀ W, Below w1.heap.size w1 W → W.heap[w.heap.size + 1]? = some (.cells #[.string ⟨#[]⟩, .slice none 0 0] 70) := fun W h => (h.block _ (by omega)).trans c2
  have g2 : ∀ W, Below w1.heap.size w1 W → W.cell? ⟨w.heap.size + 1, 0, none⟩ = some (.string ⟨#[]⟩) := fun W h => by rw [cell_of_row _ _ _ _ _ _ (r2 W h)]; rfl
  have g3 : ∀ W, Below w1.heap.size w1 W → W.cell? ⟨w.heap.size + 1, 1, none⟩ = some (.slice none 0 0) := fun W h => by rw [cell_of_row _ _ _ _ _ _ (r2 W h)]; rfl
  have f2 : ∀ W, Below w1.heap.size w1 W → W.frozen? ⟨w.heap.size + 1, 0, none⟩ = false := fun W h => frozen_of_row _ _ 0 _ _ (r2 W h)
  have f3 : ∀ W, Below w1.heap.size w1 W → W.frozen? ⟨w.heap.size + 1, 1, none⟩ = false := fun W h => frozen_of_row _ _ 1 _ _ (r2 W h)
  have R2 := Lib.hid r2
  clear r2
  have hd : Below w1.heap.size w1 w1.drew := (Below.refl _ _).drew
  have d0 := g0 _ hd; have d1 := g1 _ hd
  go_region_with (go_at_call 94; refine (HD.out _ ?_).mono ?_; assumption; rintro e w' ⟨hb', A', c', rfl, h1, h2, h3, h4⟩; have hbW : Below w1.heap.size w1 w' := hd.trans (hb'.mono hd.size); have k0 := g0 w' hbW; have k1 := g1 w' hbW; have k2 := g2 w' hbW; have k3 := g3 w' hbW; have k4 := f2 w' hbW; have k5 := f3 w' hbW)
  all_goals
    have hrow := heap_set2 (.string (St nm)) (.slice A' dt.length c') (R2.out w' hbW)
    have hF := ((hb0.trans (hbW.mono hb0.size)).setCell (p := ⟨w.heap.size + 1, 0, none⟩) (by show w.heap.size ≤ w.heap.size + 1; omega) (.string (St nm))).setCell (p := ⟨w.heap.size + 1, 1, none⟩) (by show w.heap.size ≤ w.heap.size + 1; omega) (.slice A' dt.length c')
    have hby : BytesAt ((w'.setCell ⟨w.heap.size + 1, 0, none⟩ (.string (St nm))).setCell ⟨w.heap.size + 1, 1, none⟩ (.slice A' dt.length c')) A' dt := fun j hj => by
      obtain ⟨a, rfl, hc⟩ := h3 j hj
      have h5 : w1.heap.size ≤ a.block := (h4 a rfl).1
      have hne : (a.add j).block ≠ w.heap.size + 1 := by rw [add_block]; omega
      refine ⟨a, rfl, ?_⟩
      rw [World.cell?_setCell_other _ _ _ _ (by intro e; exact hne (by rw [← e])), World.cell?_setCell_other _ _ _ _ (by intro e; exact hne (by rw [← e]))]
      exact hc
    have h45 : ∀ a, A' = some a → ∃ cs, ((w'.setCell ⟨w.heap.size + 1, 0, none⟩ (.string (St nm))).setCell ⟨w.heap.size + 1, 1, none⟩ (.slice A' dt.length c')).heap[a.block]? = some (.cells cs 5 (0, 0)) := fun a ha => by
      have h5 : w1.heap.size ≤ a.block := (h4 a ha).1
      obtain ⟨cs, hcs⟩ := (h4 a ha).2
      refine ⟨cs, ?_⟩
      rw [Below.heap_setCell _ _ _ _ (by show a.block ≠ w.heap.size + 1; omega), Below.heap_setCell _ _ _ _ (by show a.block ≠ w.heap.size + 1; omega)]
      exact hcs
    have H45 := Lib.hid h45
    clear h45
    have HF := Lib.hid hF; have HBYF := Lib.hid hby; have HROW := Lib.hid hrow; have HH2 := Lib.hid h2
    clear hF hby hrow h2 h3 h4 k0 k1 k2 k3 k4 k5 hb' hbW g0 g1 g2 g3 f2 f3 hd d0 d1 c0 c1 c2 hs1
    generalize (w'.setCell ⟨w.heap.size + 1, 0, none⟩ (.string (St nm))).setCell ⟨w.heap.size + 1, 1, none⟩ (.slice A' dt.length c') = wF at *
    go_wp2_with fail
    exact bodyPost_ret (results_cell_row rfl _ _ (w.heap.size + 1) 70 _ (0, 0) _ rfl HROW.out Tryd.underlying70 rfl info70) rfl ⟨HF.out, ⟨nm, dt, A', c'⟩, rfl, rfl, ⟨h1, HH2.out, HBYF.out⟩, H45.out⟩
end Go.Proofs.YtbioclpobmgikaaDoor
