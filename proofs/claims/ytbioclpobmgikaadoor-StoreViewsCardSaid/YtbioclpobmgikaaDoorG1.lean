/- Blobs in rows, apart, filtered and found: walks. -/
import Derived.Test.YtbioclpobmgikaaDoorDig6
import Derived.Deep.RegionWith
namespace Go.Proofs.YtbioclpobmgikaaDoor
open Go.RowKit

/-- a blob as it lies -/
structure Bl where
  name : List UInt8
  data : List UInt8
  D : Option Addr
  c : Nat
def Bl.cells (b : Bl) : List Value := [.string (St b.name), .slice b.D b.data.length b.c]
def Bl.abs (b : Bl) : List UInt8 × List UInt8 := (b.name, b.data)
def bl0 : Bl := ⟨[], [], none, 0⟩
def Row (bl : List Bl) : List Value := bl.flatMap Bl.cells
theorem Row_append (a b : List Bl) : Row (a ++ b) = Row a ++ Row b := by simp [Row]
theorem Row_cons (x : Bl) (b : List Bl) : Row (x :: b) = .string (St x.name) :: .slice x.D x.data.length x.c :: Row b := rfl
theorem Row_length (bl : List Bl) : (Row bl).length = bl.length * 2 := by
  induction bl with
  | nil => rfl
  | cons b l ih => rw [Row_cons, List.length_cons, List.length_cons, ih, List.length_cons]; omega
theorem Row_get : ∀ (bl : List Bl) (j : Nat), j < bl.length → (Row bl)[2 * j]? = some (.string (St (bl.getD j bl0).name)) ∧ (Row bl)[2 * j + 1]? = some (.slice (bl.getD j bl0).D (bl.getD j bl0).data.length (bl.getD j bl0).c)
  | [], j, h => by simp at h
  | b :: l, 0, _ => ⟨rfl, rfl⟩
  | b :: l, j + 1, h => by
    have ih := Row_get l j (by simpa using h)
    rw [Row_cons, show 2 * (j + 1) = 2 * j + 1 + 1 by omega]
    exact ih
theorem Row_mem (bl : List Bl) : ∀ v ∈ Row bl, v.oneCell' = true := by
  intro v hv
  simp only [Row, List.mem_flatMap, Bl.cells, List.mem_cons] at hv
  obtain ⟨b, _, rfl | rfl | h⟩ := hv
  · rfl
  · rfl
  · cases h
/-- a blob's bytes lie in the world -/
def Good (w : World) (b : Bl) : Prop := b.data.length ≤ b.c ∧ (b.D = none → b.c = 0) ∧ BytesAt w b.D b.data
theorem Good.below {w w' : World} {b : Bl} (h : Good w b) (hb : Below w.heap.size w w') : Good w' b := ⟨h.1, h.2.1, h.2.2.below hb⟩
/-- .. and in a block of bytes -/
def Good5 (w : World) (b : Bl) : Prop := Good w b ∧ ∀ a, b.D = some a → ∃ cs, w.heap[a.block]? = some (.cells cs 5 (0, 0))
theorem Good5.below {w w' : World} {b : Bl} (h : Good5 w b) (hb : Below w.heap.size w w') : Good5 w' b := ⟨h.1.below hb, fun a ha => by
  obtain ⟨cs, hc⟩ := h.2 a ha
  exact ⟨cs, (hb.block _ (Array.getElem?_eq_some_iff.1 hc).1).trans hc⟩⟩
theorem Good5.grown {w w' : World} {b : Bl} (h : Good5 w b) {base n : Nat} {v : Value} {xs : List Value} (ho : w.ownsRow base 70 2 v n xs) (hg : w.grownBy w' v.ownBlock) : Good5 w' b := by
  have hne : ∀ a, b.D = some a → some a.block ≠ v.ownBlock := fun a ha => by
    obtain ⟨cs, hc⟩ := h.2 a ha
    rcases ho.2 with ⟨rfl, _⟩ | ⟨g, cap, cur, rfl, _, h3, _⟩
    · simp [Value.ownBlock]
    · simp only [Value.ownBlock]
      intro e
      injection e with e
      rw [e, h3] at hc
      injection hc with hc
      injection hc with _ hc
      cases hc
  refine ⟨⟨h.1.1, h.1.2.1, fun j hj => ?_⟩, fun a ha => ?_⟩
  · obtain ⟨a, ha, hc⟩ := h.1.2.2 j hj
    exact ⟨a, ha, hg.cell hc (by rw [add_block]; exact hne a ha)⟩
  · obtain ⟨cs, hc⟩ := h.2 a ha
    exact ⟨cs, (hg.block _ (Array.getElem?_eq_some_iff.1 hc).1 (hne a ha)).trans hc⟩
def AllGood5 (w : World) (bl : List Bl) : Prop := ∀ b ∈ bl, Good5 w b
theorem AllGood5.below {w w' : World} {bl : List Bl} (h : AllGood5 w bl) (hb : Below w.heap.size w w') : AllGood5 w' bl := fun b hm => (h b hm).below hb
def AllGood (w : World) (bl : List Bl) : Prop := ∀ b ∈ bl, Good w b
theorem AllGood.below {w w' : World} {bl : List Bl} (h : AllGood w bl) (hb : Below w.heap.size w w') : AllGood w' bl := fun b hm => (h b hm).below hb
theorem getD_mem (bl : List Bl) (j : Nat) (h : j < bl.length) : bl.getD j bl0 ∈ bl := by simp [List.getD, h]
/-- a row of blobs lies at an address -/
def RowAt (w : World) (A : Option Addr) (bl : List Bl) : Prop := ∀ j, j < bl.length → ∃ a, A = some a ∧ w.cell? (a.add (j * 2)) = some (.string (St (bl.getD j bl0).name)) ∧ w.cell? ⟨(a.add (j * 2)).block, (a.add (j * 2)).off + 1, none⟩ = some (.slice (bl.getD j bl0).D (bl.getD j bl0).data.length (bl.getD j bl0).c)
theorem RowAt.below {w w' : World} {A : Option Addr} {bl : List Bl} (h : RowAt w A bl) (hb : Below w.heap.size w w') : RowAt w' A bl := fun j hj => by
  obtain ⟨a, rfl, h1, h2⟩ := h j hj
  exact ⟨a, rfl, (hb.cell (p := a.add (j * 2)) (World.block_lt_of_cell? w _ h1)).trans h1, (hb.cell (p := ⟨(a.add (j * 2)).block, (a.add (j * 2)).off + 1, none⟩) (World.block_lt_of_cell? w _ h2)).trans h2⟩
def total (bl : List Bl) : Nat := (bl.map fun b => b.data.length).sum
theorem total_take (bl : List Bl) (k : Nat) (h : k < bl.length) : total (bl.take (k + 1)) = total (bl.take k) + (bl.getD k bl0).data.length := by
  rw [List.take_add_one, total, List.map_append, List.sum_append, ← total, List.getElem?_eq_getElem h]
  simp [List.getD, h]

set_option maxHeartbeats 400000 in
set_option maxRecDepth 100000 in
theorem size_any (bl : List Bl) (A : Option Addr) (c : Nat) (w : World) (hr : RowAt w A bl) (hn : bl.length ≤ 1000) (hd : ∀ b ∈ bl, b.data.length ≤ 10000000) :
    Calls Tryd.prog 89 #[.slice A bl.length c] w fun e w' => e = .returned (.int .i64 (total bl : Nat)) ∧ Below w.heap.size w w' := by
  have HR := Lib.hid hr; have HD := Lib.hid hd
  clear hr hd
  generalize hl : bl.length = n at *
  have HL := Lib.hid hl
  clear hl
  go_enter Tryd.func89, Tryd.ntmps89
  go_wp2_with fail
  go_loopw [3, 5, 8] (fun vt _ vi wr => ∃ k : Nat, k ≤ n ∧ vi = .int .i64 (k : Int) ∧ vt = .int .i64 ((total (bl.take k) : Nat) : Int) ∧ total (bl.take k) ≤ 10000000 * k ∧ Below w.heap.size w wr) (fun _ _ v _ => n - (intOf v).toNat)
  case atStart => exact ⟨0, by omega, rfl, rfl, by simp [total], Below.refl _ _⟩
  case round =>
    obtain ⟨k, hk, rfl, rfl, htk, hbel⟩ := hrel
    by_cases hlt : k < n
    · obtain ⟨a, rfl, g1, g2⟩ := HR.out.below hbel k (by rw [HL.out]; exact hlt)
      have hdk := HD.out _ (getD_mem bl k (by rw [HL.out]; exact hlt))
      have HT := Lib.hid (total_take bl k (by rw [HL.out]; exact hlt))
      generalize bl.getD k bl0 = b at *
      generalize total (bl.take k) = t at *
      go_wp2_with fail
      go_roundw
      case rel => exact ⟨k + 1, by omega, by go_num, by rw [HT.out]; go_num, by rw [HT.out]; omega, hbel.alloc hbel.size _⟩
      case measure => simp [intOf]; omega
    · obtain rfl : k = n := by omega
      rw [List.take_of_length_le (by rw [HL.out]; exact Nat.le_refl _)]
      go_wp2_with fail
      go_ret
      exact ⟨rfl, hbel⟩

theorem found_row {w : World} {base : Nat} {v : Value} {t : List UInt8} (h : w.ownsRow base 5 1 v t.length (Bs t)) : ∃ A c, v = .slice A t.length c ∧ t.length ≤ c ∧ (A = none → c = 0) ∧ BytesAt w A t ∧ ∀ a, A = some a → base ≤ a.block ∧ ∃ cs, w.heap[a.block]? = some (.cells cs 5 (0, 0)) := by
  rcases h.2 with ⟨rfl, h0⟩ | ⟨g, cap, cur, rfl, hb, hg, h4, _⟩
  · exact ⟨none, 0, by rw [h0], by omega, fun _ => rfl, fun j hj => by omega, fun a ha => by cases ha⟩
  · exact ⟨some ⟨g, 0, none⟩, cap, rfl, h4, fun h => (by cases h), fun j hj => ⟨_, rfl, h.cells (g := g) rfl j _ (Bs_get _ _ hj)⟩, fun a ha => by injection ha with ha; subst ha; exact ⟨hb, cur, hg⟩⟩
/-- what a copy of bytes answers -/
def CloneAt (l : List UInt8) (w w' : World) (e : Ending) : Prop :=
  Below w.heap.size w w' ∧ ∃ A c, e = .returned (.slice A l.length c) ∧ l.length ≤ c ∧ (A = none → c = 0) ∧ BytesAt w' A l ∧ ∀ a, A = some a → w.heap.size ≤ a.block ∧ ∃ cs, w'.heap[a.block]? = some (.cells cs 5 (0, 0))
set_option maxHeartbeats 400000 in
set_option maxRecDepth 100000 in
theorem clone_any (l : List UInt8) (A : Option Addr) (c : Nat) (w : World) (hc : l.length ≤ c) (hn : A = none → c = 0) (hby : BytesAt w A l) (hbig : l.length ≤ 100000000) :
    Calls Tryd.prog 94 #[.slice A l.length c] w fun e w' => CloneAt l w w' e := by
  cases A with
  | none =>
    obtain rfl := hn rfl
    have hl : l = [] := List.length_eq_zero_iff.1 (by omega)
    subst hl
    have he : ∀ w : World, (binOp .eql 22 (.slice none 0 0) (.slice none 0 0)).run Tryd.prog w = .ok (.bool true) w := fun _ => rfl
    go_enter Tryd.func94, Tryd.ntmps94
    go_wp2_with fail
    go_ret
    exact ⟨Below.refl _ _, none, 0, rfl, Nat.le_refl _, fun _ => rfl, fun j hj => by simp at hj, fun a ha => by cases ha⟩
  | some a =>
    have HBY := Lib.hid hby
    clear hby hn
    have hO : (w.alloc (.cells #[] 5)).ownsRow w.heap.size 5 1 (.slice (some ⟨w.heap.size, 0, none⟩) 0 0) 0 (Bs []) := World.ownsRow_made w #[] 0 (Nat.le_refl _) (by unfold maxLen; omega) rfl
    have hb0 : Below w.heap.size w (w.alloc (.cells #[] 5)) := (Below.refl _ _).alloc (Nat.le_refl _) _
    have he : ∀ w : World, (binOp .eql 22 (.slice (some a) l.length c) (.slice none 0 0)).run Tryd.prog w = .ok (.bool false) w := fun _ => rfl
    go_enter Tryd.func94, Tryd.ntmps94
    go_wp2_with (refine wpList_append_bytes rfl (.tmp 5) (.tmp 6) rfl w.heap.size _ [] rfl hO (some a) l c rfl (HBY.out.below hb0) (fun h => by cases h) (by simp; omega) (by simp) ?_; rintro v3 w3 ho3 hg3 hn3; have hb3 := hb0.grown hg3 (by simp) (fun k hk => (hO.lt k hk).1); rw [List.length_nil, Nat.zero_add, show Bs [] ++ Bs l = Bs l from rfl] at ho3; clear hO hg3 hn3)
    obtain ⟨A', c', rfl, h1, h2, h3, h4⟩ := found_row ho3
    go_ret
    exact ⟨hb3, A', c', rfl, h1, h2, h3, h4⟩
end Go.Proofs.YtbioclpobmgikaaDoor
namespace Go.Proofs.YtbioclpobmgikaaDoor
open Go.RowKit

theorem heap_set2 {W : World} {B : Nat} {u v : Value} {t : TypeId} (x y : Value) (h : W.heap[B]? = some (.cells #[u, v] t (0, 0))) : ((W.setCell ⟨B, 0, none⟩ x).setCell ⟨B, 1, none⟩ y).heap[B]? = some (.cells #[x, y] t (0, 0)) := by
  obtain ⟨hs, he⟩ := Array.getElem?_eq_some_iff.1 h
  simp [World.setCell, hs]
  rw [Array.getElem_modify_self, Array.getElem_modify_self, he]
  rfl
theorem info70 : (Tryd.prog.info? 70).map (·.size) = some 2 := by kernel_rfl

def ApartAt (b : Bl) (w w' : World) (e : Ending) : Prop :=
  Below w.heap.size w w' ∧ ∃ b' : Bl, b'.abs = b.abs ∧ e = .returned (.agg #[.string (St b'.name), .slice b'.D b'.data.length b'.c]) ∧ Good5 w' b'
set_option maxHeartbeats 1000000 in
set_option maxRecDepth 100000 in
theorem apart_any (b : Bl) (w : World) (hg : Good w b) (hbig : b.data.length ≤ 100000000) :
    Calls Tryd.prog 93 #[.agg #[.string (St b.name), .slice b.D b.data.length b.c]] w fun e w' => ApartAt b w w' e := by
  obtain ⟨nm, dt, D, c⟩ := b
  simp only at hbig hg ⊢
  obtain ⟨h1, h2, h3⟩ := hg
  simp only at h1 h2 h3
  have H2 := Lib.hid h2; have H3 := Lib.hid h3
  clear h2 h3
  have HC := Lib.hid (fun W (h : Below w.heap.size w W) => clone_any dt D c W h1 H2.out (H3.out.below h) hbig)
  go_enter Tryd.func93, Tryd.ntmps93
  go_wp2_with fail
  have hb0 : Below w.heap.size w ((w.alloc (.cells #[.string (St nm), .slice D dt.length c] 70)).alloc (.cells #[.string ⟨#[]⟩, .slice none 0 0] 70)) := ((Below.refl _ _).alloc (Nat.le_refl _) _).alloc (by simp) _
  have c0 : ((w.alloc (.cells #[.string (St nm), .slice D dt.length c] 70)).alloc (.cells #[.string ⟨#[]⟩, .slice none 0 0] 70)).cell? ⟨w.heap.size, 0, none⟩ = some (.string (St nm)) := by rw [World.cell?_alloc_old _ _ _ (by simp)]; exact (World.cell?_alloc_new ..).trans rfl
  have c1 : ((w.alloc (.cells #[.string (St nm), .slice D dt.length c] 70)).alloc (.cells #[.string ⟨#[]⟩, .slice none 0 0] 70)).cell? ⟨w.heap.size, 1, none⟩ = some (.slice D dt.length c) := by rw [World.cell?_alloc_old _ _ _ (by simp)]; exact (World.cell?_alloc_new ..).trans rfl
  have c2 : ((w.alloc (.cells #[.string (St nm), .slice D dt.length c] 70)).alloc (.cells #[.string ⟨#[]⟩, .slice none 0 0] 70)).heap[w.heap.size + 1]? = some (.cells #[.string ⟨#[]⟩, .slice none 0 0] 70) := by
    have h := heap_alloc_new (w.alloc (.cells #[.string (St nm), .slice D dt.length c] 70)) (.cells #[.string ⟨#[]⟩, .slice none 0 0] 70)
    rwa [show (w.alloc (.cells #[.string (St nm), .slice D dt.length c] 70)).heap.size = w.heap.size + 1 by simp] at h
  have hs1 : ((w.alloc (.cells #[.string (St nm), .slice D dt.length c] 70)).alloc (.cells #[.string ⟨#[]⟩, .slice none 0 0] 70)).heap.size = w.heap.size + 2 := by simp
  generalize ((w.alloc (.cells #[.string (St nm), .slice D dt.length c] 70)).alloc (.cells #[.string ⟨#[]⟩, .slice none 0 0] 70)) = w1 at *
  have HD := Lib.hid (fun W (h : Below w1.heap.size w1 W) => HC.out W (hb0.trans (h.mono hb0.size)))
  have g0 : ∀ W, Below w1.heap.size w1 W → W.cell? ⟨w.heap.size, 0, none⟩ = some (.string (St nm)) := fun W h => (h.cell (p := ⟨w.heap.size, 0, none⟩) (by show w.heap.size < _; omega)).trans c0
  have g1 : ∀ W, Below w1.heap.size w1 W → W.cell? ⟨w.heap.size, 1, none⟩ = some (.slice D dt.length c) := fun W h => (h.cell (p := ⟨w.heap.size, 1, none⟩) (by show w.heap.size < _; omega)).trans c1
  have r2 : ∀ W, Below w1.heap.size w1 W → W.heap[w.heap.size + 1]? = some (.cells #[.string ⟨#[]⟩, .slice none 0 0] 70) := fun W h => (h.block _ (by omega)).trans c2
  have g2 : ∀ W, Below w1.heap.size w1 W → W.cell? ⟨w.heap.size + 1, 0, none⟩ = some (.string ⟨#[]⟩) := fun W h => by rw [cell_of_row _ _ _ _ _ _ (r2 W h)]; rfl
  have g3 : ∀ W, Below w1.heap.size w1 W → W.cell? ⟨w.heap.size + 1, 1, none⟩ = some (.slice none 0 0) := fun W h => by rw [cell_of_row _ _ _ _ _ _ (r2 W h)]; rfl
  have f2 : ∀ W, Below w1.heap.size w1 W → W.frozen? ⟨w.heap.size + 1, 0, none⟩ = false := fun W h => frozen_of_row _ _ 0 _ _ (r2 W h)
  have f3 : ∀ W, Below w1.heap.size w1 W → W.frozen? ⟨w.heap.size + 1, 1, none⟩ = false := fun W h => frozen_of_row _ _ 1 _ _ (r2 W h)
  have R2 := Lib.hid r2
  clear r2
  have hd : Below w1.heap.size w1 w1.drew := (Below.refl _ _).drew
  have d0 := g0 _ hd; have d1 := g1 _ hd
  go_region_with (go_at_call 94; refine (HD.out _ ?_).mono ?_; assumption; rintro e w' ⟨hb', A', c', rfl, h1, h2, h3, h4⟩; have hbW : Below w1.heap.size w1 w' := hd.trans (hb'.mono hd.size); have k0 := g0 w' hbW; have k1 := g1 w' hbW; have k2 := g2 w' hbW; have k3 := g3 w' hbW; have k4 := f2 w' hbW; have k5 := f3 w' hbW)
  all_goals
    have hrow := heap_set2 (.string (St nm)) (.slice A' dt.length c') (R2.out w' hbW)
    have hF := ((hb0.trans (hbW.mono hb0.size)).setCell (p := ⟨w.heap.size + 1, 0, none⟩) (by show w.heap.size ≤ w.heap.size + 1; omega) (.string (St nm))).setCell (p := ⟨w.heap.size + 1, 1, none⟩) (by show w.heap.size ≤ w.heap.size + 1; omega) (.slice A' dt.length c')
    have hby : BytesAt ((w'.setCell ⟨w.heap.size + 1, 0, none⟩ (.string (St nm))).setCell ⟨w.heap.size + 1, 1, none⟩ (.slice A' dt.length c')) A' dt := fun j hj => by
      obtain ⟨a, rfl, hc⟩ := h3 j hj
      have h5 : w1.heap.size ≤ a.block := (h4 a rfl).1
      have hne : (a.add j).block ≠ w.heap.size + 1 := by rw [add_block]; omega
      refine ⟨a, rfl, ?_⟩
      rw [World.cell?_setCell_other _ _ _ _ (by intro e; exact hne (by rw [← e])), World.cell?_setCell_other _ _ _ _ (by intro e; exact hne (by rw [← e]))]
      exact hc
    have h45 : ∀ a, A' = some a → ∃ cs, ((w'.setCell ⟨w.heap.size + 1, 0, none⟩ (.string (St nm))).setCell ⟨w.heap.size + 1, 1, none⟩ (.slice A' dt.length c')).heap[a.block]? = some (.cells cs 5 (0, 0)) := fun a ha => by
      have h5 : w1.heap.size ≤ a.block := (h4 a ha).1
      obtain ⟨cs, hcs⟩ := (h4 a ha).2
      refine ⟨cs, ?_⟩
      rw [Below.heap_setCell _ _ _ _ (by show a.block ≠ w.heap.size + 1; omega), Below.heap_setCell _ _ _ _ (by show a.block ≠ w.heap.size + 1; omega)]
      exact hcs
    have H45 := Lib.hid h45
    clear h45
    have HF := Lib.hid hF; have HBYF := Lib.hid hby; have HROW := Lib.hid hrow; have HH2 := Lib.hid h2
    clear hF hby hrow h2 h3 h4 k0 k1 k2 k3 k4 k5 hb' hbW g0 g1 g2 g3 f2 f3 hd d0 d1 c0 c1 c2 hs1
    generalize (w'.setCell ⟨w.heap.size + 1, 0, none⟩ (.string (St nm))).setCell ⟨w.heap.size + 1, 1, none⟩ (.slice A' dt.length c') = wF at *
    go_wp2_with fail
    exact bodyPost_ret (results_cell_row rfl _ _ (w.heap.size + 1) 70 _ (0, 0) _ rfl HROW.out Tryd.underlying70 rfl info70) rfl ⟨HF.out, ⟨nm, dt, A', c'⟩, rfl, rfl, ⟨h1, HH2.out, HBYF.out⟩, H45.out⟩
end Go.Proofs.YtbioclpobmgikaaDoor
namespace Go.Proofs.YtbioclpobmgikaaDoor
open Go.RowKit

theorem info70' : (Tryd.prog.info? 70).map (fun i => (i.zero, i.size, i.bytes)) = some (some (.agg #[.string ⟨#[]⟩, .slice none 0 0]), 2, 40) := by kernel_rfl
theorem zero70 : ∃ i, Tryd.prog.info? 70 = some i ∧ i.zero = some (.agg #[.string ⟨#[]⟩, .slice none 0 0]) ∧ i.size = 2 ∧ i.bytes = 40 := by
  have h := info70'
  cases hi : Tryd.prog.info? 70 with
  | none => rw [hi] at h; cases h
  | some i => rw [hi] at h; simp at h; exact ⟨i, rfl, h.1, h.2.1, h.2.2⟩
theorem add_odd (a : Addr) (q : Nat) : a.add (2 * q + 1) = ⟨(a.add (q * 2)).block, (a.add (q * 2)).off + 1, none⟩ := by
  unfold Addr.add
  rw [if_neg (by omega)]
  split
  · rename_i h; have : q = 0 := by omega
    subst this; rfl
  · simp only [Addr.mk.injEq, and_true, true_and]; omega
theorem RowAt.cells {w : World} {a : Addr} {bl : List Bl} (h : RowAt w (some a) bl) : ∀ j u, (Row bl)[j]? = some u → w.cell? (a.add j) = some u := fun j u hu => by
  have hj : j < bl.length * 2 := by rw [← Row_length]; exact (List.getElem?_eq_some_iff.1 hu).1
  obtain ⟨q, rfl | rfl⟩ : ∃ q, j = 2 * q ∨ j = 2 * q + 1 := ⟨j / 2, by omega⟩
  · obtain ⟨a', ha, h1, _⟩ := h q (by omega)
    obtain rfl := Option.some.inj ha
    rw [show 2 * q = q * 2 by omega, h1, ← hu]
    exact (Row_get bl q (by omega)).1.symm
  · obtain ⟨a', ha, _, h1⟩ := h q (by omega)
    obtain rfl := Option.some.inj ha
    rw [add_odd, h1, ← hu]
    exact (Row_get bl q (by omega)).2.symm
/-- blobs are appended to a row of a call's own -/
theorem wpList_append_blobs {w : World} {ops : Array Oper} {rest : List Oper} {o : Oper} {a : Act} {Q : Exit → Act → World → Prop} (hgd : o.guard = none) (s x : Operand) (t : TypeId) (ht : Tryd.prog.underlying t = some (.slice 70))
    (ho : o.op = .call { callee := .builtin .append, args := #[s, x], argTypes := #[t, t] })
    (base : Nat) (v : Value) (bl : List Bl) (hs : a.eval s = v) (hown : w.ownsRow base 70 2 v bl.length (Row bl))
    (ad : Addr) (nb : List Bl) (m c : Nat) (hm : nb.length = m) (hx : a.eval x = .slice (some ad) m c) (hr : RowAt w (some ad) nb)
    (h63 : bl.length + m ≤ 1000000) (hbase : base ≤ w.heap.size)
    (h : ∀ v' w', w'.ownsRow base 70 2 v' (bl ++ nb).length (Row (bl ++ nb)) → w.grownBy w' v.ownBlock → wpList Tryd.prog ops Q rest (a.put o.dst v') w') :
    wpList Tryd.prog ops Q (o :: rest) a w := by
  subst hm
  obtain ⟨i0, hi0, hz0, hz1, hz2⟩ := zero70
  exact wpList_append_own w hgd s x t ho base 70 i0 _ 2 40 ht hi0 hz0 hz1 hz2 rfl (by decide) v _ _ hs hown ad nb.length c (Row nb) hx (by rw [Row_length])
    hr.cells (Row_mem _) (by unfold maxLen; omega) (by omega) hbase (fun v' w' h1 h2 _ => h v' w' (by rw [List.length_append, Row_append]; exact h1) h2)
theorem blob_new (w : World) (b : Bl) : RowAt (w.alloc (.cells #[.string (St b.name), .slice b.D b.data.length b.c] 70)) (some ⟨w.heap.size, 0, none⟩) [b] := fun j hj => by
  have : j = 0 := by simp at hj; exact hj
  subst this
  refine ⟨_, rfl, ?_, ?_⟩
  · rw [show (⟨w.heap.size, 0, none⟩ : Addr).add (0 * 2) = ⟨w.heap.size, 0, none⟩ from rfl, World.cell?_alloc_new]; rfl
  · show (w.alloc _).cell? ⟨w.heap.size, 0 + 1, none⟩ = _
    rw [World.cell?_alloc_new]; rfl
theorem rowOwn_below {w w' : World} {base n sz : Nat} {e : TypeId} {v : Value} {xs : List Value} (h : w.ownsRow base e sz v n xs) (hb : Below w.heap.size w w') : w'.ownsRow base e sz v n xs := by
  refine ⟨h.1, ?_⟩
  rcases h.2 with hn | ⟨g, cap, cur, h1, h2, h3, rest⟩
  · exact .inl hn
  · exact .inr ⟨g, cap, cur, h1, h2, (hb.block _ (Array.getElem?_eq_some_iff.1 h3).1).trans h3, rest⟩
/-- a row of a call's own, as it lies -/
theorem own_row {w : World} {base : Nat} {v : Value} {bl : List Bl} (h : w.ownsRow base 70 2 v bl.length (Row bl)) : ∃ A c, v = .slice A bl.length c ∧ bl.length ≤ c ∧ (A = none → c = 0) ∧ RowAt w A bl := by
  rcases h.2 with ⟨rfl, h0⟩ | ⟨g, cap, cur, rfl, _, _, h4, _⟩
  · exact ⟨none, 0, by rw [h0], by omega, fun _ => rfl, fun j hj => by omega⟩
  · refine ⟨some ⟨g, 0, none⟩, cap, rfl, h4, fun h => (by cases h), fun j hj => ⟨_, rfl, ?_, ?_⟩⟩
    · rw [show j * 2 = 2 * j by omega]
      exact h.cells (g := g) rfl _ _ (Row_get bl j hj).1
    · rw [← add_odd]
      exact h.cells (g := g) rfl _ _ (Row_get bl j hj).2
theorem AllGood5.append {w : World} {a b : List Bl} (h1 : AllGood5 w a) (h2 : AllGood5 w b) : AllGood5 w (a ++ b) := fun x hx => by
  rw [List.mem_append] at hx
  exact hx.elim (h1 x) (h2 x)
/-- what is asked of a function value over blobs: it looks at the name -/
def Asks (g : Nat) (lb : Array Value) (p : List UInt8 → Bool) (w : World) : Prop :=
  ∀ (W : World) (b : Bl), Below w.heap.size w W → Calls Tryd.prog g (#[.agg #[.string (St b.name), .slice b.D b.data.length b.c]] ++ lb) W fun e w' => e = .returned (.bool (p b.name)) ∧ Below W.heap.size W w'
def keepL (p : List UInt8 → Bool) (bl : List Bl) : List Bl := bl.filter fun b => p b.name
theorem keepL_take (p : List UInt8 → Bool) (bl : List Bl) (k : Nat) (h : k < bl.length) : keepL p (bl.take (k + 1)) = keepL p (bl.take k) ++ (if p (bl.getD k bl0).name then [bl.getD k bl0] else []) := by
  rw [List.take_add_one, keepL, List.filter_append, ← keepL, List.getElem?_eq_getElem h]
  simp [List.getD, h, List.filter_cons]

set_option maxHeartbeats 1000000 in
set_option maxRecDepth 100000 in
theorem filter_any (g : Nat) (lb : Array Value) (p : List UInt8 → Bool) (eg : ∀ args w, (callFunc g args).run Tryd.prog w = .ok (.enter g args) w) (bl : List Bl) (A : Option Addr) (c : Nat) (w : World)
    (hp : Asks g lb p w) (hr : RowAt w A bl) (hg : AllGood w bl) (hn : bl.length ≤ 1000) (hd : ∀ b ∈ bl, b.data.length ≤ 10000000) :
    Calls Tryd.prog 85 #[.slice A bl.length c, .func (.func g) #[] lb] w fun e w' => ∃ v bl', e = .returned v ∧ Below w.heap.size w w' ∧ bl'.map Bl.abs = (keepL p bl).map Bl.abs ∧ AllGood5 w' bl' ∧ w'.ownsRow w.heap.size 70 2 v bl'.length (Row bl') := by
  have HR := Lib.hid hr; have HD := Lib.hid hd; have HG := Lib.hid hg; have HP := Lib.hid hp
  clear hr hd hg hp
  generalize hl : bl.length = n at *
  have HL := Lib.hid hl
  clear hl
  go_enter Tryd.func85, Tryd.ntmps85
  go_wp2_with fail
  go_loopw [5, 7, 10] (fun vo _ vi wr => ∃ (k : Nat) (bo : List Bl), k ≤ n ∧ vi = .int .i64 (k : Int) ∧ bo.length ≤ k ∧ Hid (bo.map Bl.abs = (keepL p (bl.take k)).map Bl.abs) ∧ Hid (AllGood5 wr bo) ∧ Below w.heap.size w wr ∧ wr.ownsRow w.heap.size 70 2 vo bo.length (Row bo)) (fun _ _ v _ => n - (intOf v).toNat)
  case atStart => exact ⟨0, [], by omega, rfl, by simp, Lib.hid rfl, Lib.hid (fun b hb => by cases hb), Below.refl _ _, ⟨rfl, .inl ⟨rfl, rfl⟩⟩⟩
  case round =>
    obtain ⟨k, bo, hk, rfl, hbk, HM, HA, hbel, hown⟩ := hrel
    by_cases hlt : k < n
    · obtain ⟨a, rfl, g1, g2⟩ := HR.out.below hbel k (by rw [HL.out]; exact hlt)
      have hmem := getD_mem bl k (by rw [HL.out]; exact hlt)
      have hdk := HD.out _ hmem
      have HGK := Lib.hid (HG.out _ hmem)
      have HT := Lib.hid (keepL_take p bl k (by rw [HL.out]; exact hlt))
      clear hmem
      generalize bl.getD k bl0 = b at *
      have hwz := hbel.size
      have hba : Below w.heap.size w (wr.alloc (.cells #[.string (St b.name), .slice b.D b.data.length b.c] 70)) := hbel.alloc hwz _
      have hcall := HP.out _ b hba
      have hown1 : (wr.alloc (.cells #[.string (St b.name), .slice b.D b.data.length b.c] 70)).ownsRow w.heap.size 70 2 u5 bo.length (Row bo) := hown.alloc _
      have HA1 := Lib.hid (HA.out.below ((Below.refl _ _).alloc (Nat.le_refl _) (.cells #[.string (St b.name), .slice b.D b.data.length b.c] 70)))
      have c0 : (wr.alloc (.cells #[.string (St b.name), .slice b.D b.data.length b.c] 70)).cell? ⟨wr.heap.size, 0, none⟩ = some (.string (St b.name)) := (World.cell?_alloc_new ..).trans rfl
      have c1 : (wr.alloc (.cells #[.string (St b.name), .slice b.D b.data.length b.c] 70)).cell? ⟨wr.heap.size, 1, none⟩ = some (.slice b.D b.data.length b.c) := (World.cell?_alloc_new ..).trans rfl
      have hlt1 : wr.heap.size < (wr.alloc (.cells #[.string (St b.name), .slice b.D b.data.length b.c] 70)).heap.size := by simp
      have C0 := Lib.hid c0; have C1 := Lib.hid c1; have HBA := Lib.hid hba; have HOW := Lib.hid hown1; have HLT := Lib.hid hlt1
      clear c0 c1 hba hown1 hown hlt1 HA
      cases hq : p b.name with
      | true =>
        rw [hq] at hcall
        have HCALL := Lib.hid hcall
        clear hcall
        go_wp2_with (first
          | (go_at_fn g; refine HCALL.out.mono ?_; rintro e w2 ⟨rfl, hb2⟩
             have k0 := (hb2.cell (p := ⟨wr.heap.size, 0, none⟩) HLT.out).trans C0.out
             have k1 := (hb2.cell (p := ⟨wr.heap.size, 1, none⟩) HLT.out).trans C1.out)
          | (go_at_call 93; refine (apart_any b _ (HGK.out.below (HBA.out.trans (hb2.mono HBA.out.size))) (by omega)).mono ?_; rintro e w3 ⟨hb3, b', hab, rfl, hgb⟩
             have hbw2 := HBA.out.trans (hb2.mono HBA.out.size)
             have hbw3 := hbw2.trans (hb3.mono hbw2.size)
             have hown3 := rowOwn_below (rowOwn_below HOW.out hb2) hb3
             have hsz3 := hbw3.size)
          | (refine wpList_append_blobs rfl (.tmp 17) (.tmp 20) 68 Tryd.underlying68 rfl w.heap.size _ bo rfl (hown3.alloc _) ⟨w3.heap.size, 0, none⟩ [b'] 1 1 rfl rfl (blob_new w3 b') (by omega) (by simp; omega) ?_
             rintro v' w4 hown4 hg4
             have hb4 := (hbw3.alloc hsz3 (.cells #[.string (St b'.name), .slice b'.D b'.data.length b'.c] 70)).grown hg4 (by simp; omega) (fun k hk => (hown3.lt k hk).1)))
        go_roundw
        case rel =>
          refine ⟨k + 1, bo ++ [b'], by omega, by go_num, by simp; omega, Lib.hid ?_, Lib.hid ?_, hb4, hown4⟩
          · rw [HT.out, hq, if_pos rfl, List.map_append, List.map_append, HM.out]
            simp [hab]
          · have hal := (Below.refl w3.heap.size w3).alloc (Nat.le_refl _) (.cells #[.string (St b'.name), .slice b'.D b'.data.length b'.c] 70)
            exact AllGood5.append (fun x hx => ((((HA1.out x hx).below hb2).below hb3).below hal).grown (hown3.alloc _) hg4) (fun x hx => by
              obtain rfl : x = b' := by simpa using hx
              exact (hgb.below hal).grown (hown3.alloc _) hg4)
        case measure => simp [intOf]; omega
      | false =>
        rw [hq] at hcall
        have HCALL := Lib.hid hcall
        clear hcall
        go_wp2_with (go_at_fn g; refine HCALL.out.mono ?_; rintro e w2 ⟨rfl, hb2⟩)
        go_roundw
        case rel =>
          refine ⟨k + 1, bo, by omega, by go_num, by omega, Lib.hid ?_, Lib.hid (HA1.out.below hb2), HBA.out.trans (hb2.mono HBA.out.size), rowOwn_below HOW.out hb2⟩
          rw [HT.out, hq, if_neg (by decide), List.append_nil]; exact HM.out
        case measure => simp [intOf]; omega
    · obtain rfl : k = n := by omega
      rw [List.take_of_length_le (by rw [HL.out]; exact Nat.le_refl _)] at HM
      go_wp2_with fail
      go_ret
      exact ⟨_, bo, rfl, hbel, HM.out, HA.out, hown⟩
end Go.Proofs.YtbioclpobmgikaaDoor
namespace Go.Proofs.YtbioclpobmgikaaDoor
open Go.RowKit

/-- the first place at which p holds, or -1 -/
def idxL (p : List UInt8 → Bool) (bl : List Bl) : Int := if bl.findIdx (fun b => p b.name) < bl.length then ((bl.findIdx (fun b => p b.name) : Nat) : Int) else -1
theorem idxL_hit (p : List UInt8 → Bool) (bl : List Bl) (k : Nat) (h : k < bl.length) (hp : p (bl.getD k bl0).name = true) (hb : ∀ j, j < k → p (bl.getD j bl0).name = false) : idxL p bl = (k : Int) := by
  have hf : bl.findIdx (fun b => p b.name) = k := by
    rw [List.findIdx_eq h]
    refine ⟨by simpa [List.getD, h] using hp, fun j hj => ?_⟩
    have := hb j hj
    simpa [List.getD, show j < bl.length by omega] using this
  rw [idxL, hf, if_pos h]
theorem idxL_none (p : List UInt8 → Bool) (bl : List Bl) (hb : ∀ j, j < bl.length → p (bl.getD j bl0).name = false) : idxL p bl = -1 := by
  rw [idxL, if_neg]
  intro h
  have := List.findIdx_getElem (w := h)
  have h2 := hb _ h
  simp only [List.getD, List.getElem?_eq_getElem h, Option.getD_some] at h2
  rw [h2] at this
  cases this
theorem ask_true (w : World) : Asks 86 #[] (fun _ => true) w := fun W b hb => by
  show Calls Tryd.prog 86 #[.agg #[.string (St b.name), .slice b.D b.data.length b.c]] W _
  go_enter Tryd.func86, Tryd.ntmps86
  go_wp2_with fail
  go_ret
  exact ⟨rfl, (Below.refl _ _).alloc (Nat.le_refl _) _⟩

set_option maxHeartbeats 1000000 in
set_option maxRecDepth 100000 in
theorem idx_any (g : Nat) (lb : Array Value) (p : List UInt8 → Bool) (eg : ∀ args w, (callFunc g args).run Tryd.prog w = .ok (.enter g args) w) (bl : List Bl) (A : Option Addr) (c : Nat) (w : World)
    (hp : Asks g lb p w) (hr : RowAt w A bl) (hn : bl.length ≤ 1000) :
    Calls Tryd.prog 90 #[.slice A bl.length c, .func (.func g) #[] lb] w fun e w' => e = .returned (.int .i64 (idxL p bl)) ∧ Below w.heap.size w w' := by
  have HR := Lib.hid hr; have HP := Lib.hid hp
  clear hr hp
  generalize hl : bl.length = n at *
  have HL := Lib.hid hl
  clear hl
  go_enter Tryd.func90, Tryd.ntmps90
  go_wp2_with fail
  go_loopw [5, 8] (fun _ vi wr => ∃ k : Nat, k ≤ n ∧ vi = .int .i64 (k : Int) ∧ Hid (∀ j, j < k → p (bl.getD j bl0).name = false) ∧ Below w.heap.size w wr) (fun _ v _ => n - (intOf v).toNat)
  case atStart => exact ⟨0, by omega, rfl, Lib.hid (fun j hj => by omega), Below.refl _ _⟩
  case round =>
    obtain ⟨k, hk, rfl, HF, hbel⟩ := hrel
    by_cases hlt : k < n
    · obtain ⟨a, rfl, g1, g2⟩ := HR.out.below hbel k (by rw [HL.out]; exact hlt)
      have hcall := HP.out _ (bl.getD k bl0) hbel
      cases hq : p (bl.getD k bl0).name with
      | true =>
        rw [hq] at hcall
        have HI := Lib.hid (idxL_hit p bl k (by rw [HL.out]; exact hlt) hq HF.out)
        have HCALL := Lib.hid hcall
        clear hcall hq
        generalize bl.getD k bl0 = b at *
        go_wp2_with (go_at_fn g; refine HCALL.out.mono ?_; rintro e w2 ⟨rfl, hb2⟩)
        go_ret
        exact ⟨by rw [HI.out]; rfl, hbel.trans (hb2.mono hbel.size)⟩
      | false =>
        rw [hq] at hcall
        have HQ := Lib.hid hq
        have HCALL := Lib.hid hcall
        clear hcall hq
        generalize hbb : bl.getD k bl0 = b at *
        have HBB := Lib.hid hbb
        clear hbb
        go_wp2_with (go_at_fn g; refine HCALL.out.mono ?_; rintro e w2 ⟨rfl, hb2⟩)
        go_roundw
        case rel =>
          refine ⟨k + 1, by omega, by go_num, Lib.hid (fun j hj => ?_), hbel.trans (hb2.mono hbel.size)⟩
          by_cases hjk : j = k
          · rw [hjk, HBB.out]; exact HQ.out
          · exact HF.out j (by omega)
        case measure => simp [intOf]; omega
    · obtain rfl : k = n := by omega
      have HI := Lib.hid (idxL_none p bl (by rw [HL.out]; exact HF.out))
      go_wp2_with fail
      go_ret
      exact ⟨by rw [HI.out]; rfl, hbel⟩
end Go.Proofs.YtbioclpobmgikaaDoor
namespace Go.Proofs.YtbioclpobmgikaaDoor
open Go.RowKit

/-- texts in order -/
def eqB (n m : List UInt8) : Bool := @BEq.beq (List UInt8) List.instBEq n m
theorem eqB_true (n m : List UInt8) : eqB n m = true ↔ n = m := by unfold eqB; exact beq_iff_eq
theorem eqB_false (n m : List UInt8) : eqB n m = false ↔ n ≠ m := by unfold eqB; exact beq_eq_false_iff_ne
theorem eqB_self (n : List UInt8) : eqB n n = true := (eqB_true n n).2 rfl
def gtB (n m : List UInt8) : Bool := !Op.bytesLess n m && !(eqB n m)
theorem ask_name (nm : List UInt8) (B : Nat) (w : World) (hB : B < w.heap.size) (hc : w.cell? ⟨B, 0, none⟩ = some (.string (St nm))) :
    Asks 112 #[.pointer (some ⟨B, 0, none⟩)] (fun n => eqB n nm) w := fun W b hb => by
  have h2 : W.cell? ⟨B, 0, none⟩ = some (.string (St nm)) := (hb.cell (p := ⟨B, 0, none⟩) hB).trans hc
  have hBW : B < W.heap.size := Nat.lt_of_lt_of_le hB hb.size
  have hne : B ≠ W.heap.size := by omega
  have c2 := fun o => (World.cell?_alloc_old W o ⟨B, 0, none⟩ hne).trans h2
  have htl := St_toList
  show Calls Tryd.prog 112 #[.agg #[.string (St b.name), .slice b.D b.data.length b.c], .pointer (some ⟨B, 0, none⟩)] W _
  clear hb hc h2
  go_enter Tryd.func112, Tryd.ntmps112
  go_wp2_with fail
  go_ret
  exact ⟨rfl, (Below.refl _ _).alloc (Nat.le_refl _) _⟩
theorem ask_ne (nm : List UInt8) (B : Nat) (w : World) (hB : B < w.heap.size) (hc : w.cell? ⟨B, 0, none⟩ = some (.string (St nm))) :
    Asks 95 #[.pointer (some ⟨B, 0, none⟩)] (fun n => !(eqB n nm)) w := fun W b hb => by
  have h2 : W.cell? ⟨B, 0, none⟩ = some (.string (St nm)) := (hb.cell (p := ⟨B, 0, none⟩) hB).trans hc
  have hBW : B < W.heap.size := Nat.lt_of_lt_of_le hB hb.size
  have hne : B ≠ W.heap.size := by omega
  have c2 := fun o => (World.cell?_alloc_old W o ⟨B, 0, none⟩ hne).trans h2
  have htl := St_toList
  show Calls Tryd.prog 95 #[.agg #[.string (St b.name), .slice b.D b.data.length b.c], .pointer (some ⟨B, 0, none⟩)] W _
  clear hb hc h2
  go_enter Tryd.func95, Tryd.ntmps95
  go_wp2_with fail
  go_ret
  exact ⟨rfl, (Below.refl _ _).alloc (Nat.le_refl _) _⟩
theorem ask_gt (nm : List UInt8) (B : Nat) (w : World) (hB : B < w.heap.size) (hc : w.cell? ⟨B, 0, none⟩ = some (.string (St nm))) :
    Asks 91 #[.pointer (some ⟨B, 0, none⟩)] (fun n => gtB n nm) w := fun W b hb => by
  have h2 : W.cell? ⟨B, 0, none⟩ = some (.string (St nm)) := (hb.cell (p := ⟨B, 0, none⟩) hB).trans hc
  have hBW : B < W.heap.size := Nat.lt_of_lt_of_le hB hb.size
  have hne : B ≠ W.heap.size := by omega
  have c2 := fun o => (World.cell?_alloc_old W o ⟨B, 0, none⟩ hne).trans h2
  have htl := St_toList
  show Calls Tryd.prog 91 #[.agg #[.string (St b.name), .slice b.D b.data.length b.c], .pointer (some ⟨B, 0, none⟩)] W _
  clear hb hc h2
  go_enter Tryd.func91, Tryd.ntmps91
  go_wp2_with fail
  go_ret
  exact ⟨rfl, (Below.refl _ _).alloc (Nat.le_refl _) _⟩

theorem enters112 : ∀ args w, (callFunc 112 args).run Tryd.prog w = .ok (.enter 112 args) w := enters_of Tryd.func112 (by kernel_rfl) rfl
theorem enters91 : ∀ args w, (callFunc 91 args).run Tryd.prog w = .ok (.enter 91 args) w := enters_of Tryd.func91 (by kernel_rfl) rfl
theorem enters95 : ∀ args w, (callFunc 95 args).run Tryd.prog w = .ok (.enter 95 args) w := enters_of Tryd.func95 (by kernel_rfl) rfl
theorem enters86 : ∀ args w, (callFunc 86 args).run Tryd.prog w = .ok (.enter 86 args) w := enters_of Tryd.func86 (by kernel_rfl) rfl

/-- where a name stands -/
def placeL (bl : List Bl) (nm : List UInt8) : Int := idxL (fun n => eqB n nm) bl
set_option maxHeartbeats 1000000 in
set_option maxRecDepth 100000 in
theorem place_any (bl : List Bl) (nm : List UInt8) (A : Option Addr) (c : Nat) (w : World) (hr : RowAt w A bl) (hn : bl.length ≤ 1000) :
    Calls Tryd.prog 87 #[.slice A bl.length c, .string (St nm)] w fun e w' => e = .returned (.int .i64 (placeL bl nm)) ∧ Below w.heap.size w w' := by
  have hb0 : Below w.heap.size w (w.alloc (.cells #[.string (St nm)] 9)) := (Below.refl _ _).alloc (Nat.le_refl _) _
  have hc := idx_any 112 #[.pointer (some ⟨w.heap.size, 0, none⟩)] (fun n => eqB n nm) enters112 bl A c _ (ask_name nm w.heap.size (w.alloc (.cells #[.string (St nm)] 9)) (by simp) ((World.cell?_alloc_new ..).trans rfl)) (hr.below hb0) hn
  rw [show idxL (fun n => eqB n nm) bl = placeL bl nm from rfl] at hc
  have HC := Lib.hid hc
  clear hc hr
  generalize placeL bl nm = r at *
  generalize bl.length = n at *
  go_enter Tryd.func87, Tryd.ntmps87
  go_wp2_with (go_at_call 90; refine HC.out.mono ?_; rintro e w2 ⟨rfl, hb2⟩)
  go_ret
  exact ⟨rfl, hb0.trans (hb2.mono hb0.size)⟩
set_option maxHeartbeats 400000 in
set_option maxRecDepth 100000 in
theorem has_any (bl : List Bl) (nm : List UInt8) (A : Option Addr) (c : Nat) (w : World) (hr : RowAt w A bl) (hn : bl.length ≤ 1000) :
    Calls Tryd.prog 54 #[.slice A bl.length c, .string (St nm)] w fun e w' => e = .returned (.bool (decide (0 ≤ placeL bl nm))) ∧ Below w.heap.size w w' := by
  have HC := Lib.hid (place_any bl nm A c w hr hn)
  clear hr
  generalize placeL bl nm = r at *
  generalize bl.length = n at *
  go_enter Tryd.func54, Tryd.ntmps54
  go_wp2_with (go_at_call 87; refine HC.out.mono ?_; rintro e w2 ⟨rfl, hb2⟩)
  go_ret
  exact ⟨rfl, hb2⟩
set_option maxHeartbeats 400000 in
set_option maxRecDepth 100000 in
theorem eqb_any (a b : List UInt8) (A B : Option Addr) (c d : Nat) (w : World) (hA : BytesAt w A a) (hB : BytesAt w B b) :
    Calls Tryd.prog 88 #[.slice A a.length c, .slice B b.length d] w fun e w' => e = .returned (.bool (eqB a b)) ∧ w' = w := by
  have h1 := str_bytes w A a c hA
  have h2 := str_bytes w B b d hB
  clear hA hB
  generalize a.length = n at *
  generalize b.length = m at *
  go_enter Tryd.func88, Tryd.ntmps88
  go_wp2_with fail
  go_ret
  show Ending.returned (.bool ((St a).toList == (St b).toList)) = _ ∧ _
  rw [St_toList, St_toList]
  exact ⟨rfl, rfl⟩
end Go.Proofs.YtbioclpobmgikaaDoor
