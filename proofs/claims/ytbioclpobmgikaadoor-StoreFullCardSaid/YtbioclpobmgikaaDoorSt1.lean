/- Blobs in rows: what the walks of layer 22 keep. -/
import Derived.Test.YtbioclpobmgikaaDoorDig6
namespace Go.Proofs.YtbioclpobmgikaaDoor
open Go.RowKit

/-- a blob as it lies -/
structure Bl where
  name : List UInt8
  data : List UInt8
  D : Option Addr
  c : Nat
def Bl.cells (b : Bl) : List Value := [.string (St b.name), .slice b.D b.data.length b.c]
def Bl.abs (b : Bl) : List UInt8 × List UInt8 := (b.name, b.data)
def bl0 : Bl := ⟨[], [], none, 0⟩
def Row (bl : List Bl) : List Value := bl.flatMap Bl.cells
theorem Row_append (a b : List Bl) : Row (a ++ b) = Row a ++ Row b := by simp [Row]
theorem Row_cons (x : Bl) (b : List Bl) : Row (x :: b) = .string (St x.name) :: .slice x.D x.data.length x.c :: Row b := rfl
theorem Row_length (bl : List Bl) : (Row bl).length = bl.length * 2 := by
  induction bl with
  | nil => rfl
  | cons b l ih => rw [Row_cons, List.length_cons, List.length_cons, ih, List.length_cons]; omega
theorem Row_get : ∀ (bl : List Bl) (j : Nat), j < bl.length → (Row bl)[2 * j]? = some (.string (St (bl.getD j bl0).name)) ∧ (Row bl)[2 * j + 1]? = some (.slice (bl.getD j bl0).D (bl.getD j bl0).data.length (bl.getD j bl0).c)
  | [], j, h => by simp at h
  | b :: l, 0, _ => ⟨rfl, rfl⟩
  | b :: l, j + 1, h => by
    have ih := Row_get l j (by simpa using h)
    rw [Row_cons, show 2 * (j + 1) = 2 * j + 1 + 1 by omega]
    exact ih
theorem Row_mem (bl : List Bl) : ∀ v ∈ Row bl, v.oneCell' = true := by
  intro v hv
  simp only [Row, List.mem_flatMap, Bl.cells, List.mem_cons] at hv
  obtain ⟨b, _, rfl | rfl | h⟩ := hv
  · rfl
  · rfl
  · cases h
/-- a blob's bytes lie in the world -/
def Good (w : World) (b : Bl) : Prop := b.data.length ≤ b.c ∧ (b.D = none → b.c = 0) ∧ BytesAt w b.D b.data
theorem Good.below {w w' : World} {b : Bl} (h : Good w b) (hb : Below w.heap.size w w') : Good w' b := ⟨h.1, h.2.1, h.2.2.below hb⟩
/-- .. and in a block of bytes -/
def Good5 (w : World) (b : Bl) : Prop := Good w b ∧ ∀ a, b.D = some a → ∃ cs, w.heap[a.block]? = some (.cells cs 5 (0, 0))
theorem Good5.below {w w' : World} {b : Bl} (h : Good5 w b) (hb : Below w.heap.size w w') : Good5 w' b := ⟨h.1.below hb, fun a ha => by
  obtain ⟨cs, hc⟩ := h.2 a ha
  exact ⟨cs, (hb.block _ (Array.getElem?_eq_some_iff.1 hc).1).trans hc⟩⟩
theorem Good5.grown {w w' : World} {b : Bl} (h : Good5 w b) {base n : Nat} {v : Value} {xs : List Value} (ho : w.ownsRow base 70 2 v n xs) (hg : w.grownBy w' v.ownBlock) : Good5 w' b := by
  have hne : ∀ a, b.D = some a → some a.block ≠ v.ownBlock := fun a ha => by
    obtain ⟨cs, hc⟩ := h.2 a ha
    rcases ho.2 with ⟨rfl, _⟩ | ⟨g, cap, cur, rfl, _, h3, _⟩
    · simp [Value.ownBlock]
    · simp only [Value.ownBlock]
      intro e
      injection e with e
      rw [e, h3] at hc
      injection hc with hc
      injection hc with _ hc
      cases hc
  refine ⟨⟨h.1.1, h.1.2.1, fun j hj => ?_⟩, fun a ha => ?_⟩
  · obtain ⟨a, ha, hc⟩ := h.1.2.2 j hj
    exact ⟨a, ha, hg.cell hc (by rw [add_block]; exact hne a ha)⟩
  · obtain ⟨cs, hc⟩ := h.2 a ha
    exact ⟨cs, (hg.block _ (Array.getElem?_eq_some_iff.1 hc).1 (hne a ha)).trans hc⟩
def AllGood5 (w : World) (bl : List Bl) : Prop := ∀ b ∈ bl, Good5 w b
theorem AllGood5.below {w w' : World} {bl : List Bl} (h : AllGood5 w bl) (hb : Below w.heap.size w w') : AllGood5 w' bl := fun b hm => (h b hm).below hb
def AllGood (w : World) (bl : List Bl) : Prop := ∀ b ∈ bl, Good w b
theorem AllGood.below {w w' : World} {bl : List Bl} (h : AllGood w bl) (hb : Below w.heap.size w w') : AllGood w' bl := fun b hm => (h b hm).below hb
theorem getD_mem (bl : List Bl) (j : Nat) (h : j < bl.length) : bl.getD j bl0 ∈ bl := by simp [List.getD, h]
/-- a row of blobs lies at an address -/
def RowAt (w : World) (A : Option Addr) (bl : List Bl) : Prop := ∀ j, j < bl.length → ∃ a, A = some a ∧ w.cell? (a.add (j * 2)) = some (.string (St (bl.getD j bl0).name)) ∧ w.cell? ⟨(a.add (j * 2)).block, (a.add (j * 2)).off + 1, none⟩ = some (.slice (bl.getD j bl0).D (bl.getD j bl0).data.length (bl.getD j bl0).c)
theorem RowAt.below {w w' : World} {A : Option Addr} {bl : List Bl} (h : RowAt w A bl) (hb : Below w.heap.size w w') : RowAt w' A bl := fun j hj => by
  obtain ⟨a, rfl, h1, h2⟩ := h j hj
  exact ⟨a, rfl, (hb.cell (p := a.add (j * 2)) (World.block_lt_of_cell? w _ h1)).trans h1, (hb.cell (p := ⟨(a.add (j * 2)).block, (a.add (j * 2)).off + 1, none⟩) (World.block_lt_of_cell? w _ h2)).trans h2⟩
def total (bl : List Bl) : Nat := (bl.map fun b => b.data.length).sum
theorem total_take (bl : List Bl) (k : Nat) (h : k < bl.length) : total (bl.take (k + 1)) = total (bl.take k) + (bl.getD k bl0).data.length := by
  rw [List.take_add_one, total, List.map_append, List.sum_append, ← total, List.getElem?_eq_getElem h]
  simp [List.getD, h]

set_option maxHeartbeats 400000 in
set_option maxRecDepth 100000 in
theorem size_any (bl : List Bl) (A : Option Addr) (c : Nat) (w : World) (hr : RowAt w A bl) (hn : bl.length ≤ 1000) (hd : ∀ b ∈ bl, b.data.length ≤ 10000000) :
    Calls Tryd.prog 89 #[.slice A bl.length c] w fun e w' => e = .returned (.int .i64 (total bl : Nat)) ∧ Below w.heap.size w w' := by
  have HR := Lib.hid hr; have HD := Lib.hid hd
  clear hr hd
  generalize hl : bl.length = n at *
  have HL := Lib.hid hl
  clear hl
  go_enter Tryd.func89, Tryd.ntmps89
  go_wp2_with fail
  go_loopw [3, 5, 8] (fun vt _ vi wr => ∃ k : Nat, k ≤ n ∧ vi = .int .i64 (k : Int) ∧ vt = .int .i64 ((total (bl.take k) : Nat) : Int) ∧ total (bl.take k) ≤ 10000000 * k ∧ Below w.heap.size w wr) (fun _ _ v _ => n - (intOf v).toNat)
  case atStart => exact ⟨0, by omega, rfl, rfl, by simp [total], Below.refl _ _⟩
  case round =>
    obtain ⟨k, hk, rfl, rfl, htk, hbel⟩ := hrel
    by_cases hlt : k < n
    · obtain ⟨a, rfl, g1, g2⟩ := HR.out.below hbel k (by rw [HL.out]; exact hlt)
      have hdk := HD.out _ (getD_mem bl k (by rw [HL.out]; exact hlt))
      have HT := Lib.hid (total_take bl k (by rw [HL.out]; exact hlt))
      generalize bl.getD k bl0 = b at *
      generalize total (bl.take k) = t at *
      go_wp2_with fail
      go_roundw
      case rel => exact ⟨k + 1, by omega, by go_num, by rw [HT.out]; go_num, by rw [HT.out]; omega, hbel.alloc hbel.size _⟩
      case measure => simp [intOf]; omega
    · obtain rfl : k = n := by omega
      rw [List.take_of_length_le (by rw [HL.out]; exact Nat.le_refl _)]
      go_wp2_with fail
      go_ret
      exact ⟨rfl, hbel⟩

theorem found_row {w : World} {base : Nat} {v : Value} {t : List UInt8} (h : w.ownsRow base 5 1 v t.length (Bs t)) : ∃ A c, v = .slice A t.length c ∧ t.length ≤ c ∧ (A = none → c = 0) ∧ BytesAt w A t ∧ ∀ a, A = some a → base ≤ a.block ∧ ∃ cs, w.heap[a.block]? = some (.cells cs 5 (0, 0)) := by
  rcases h.2 with ⟨rfl, h0⟩ | ⟨g, cap, cur, rfl, hb, hg, h4, _⟩
  · exact ⟨none, 0, by rw [h0], by omega, fun _ => rfl, fun j hj => by omega, fun a ha => by cases ha⟩
  · exact ⟨some ⟨g, 0, none⟩, cap, rfl, h4, fun h => (by cases h), fun j hj => ⟨_, rfl, h.cells (g := g) rfl j _ (Bs_get _ _ hj)⟩, fun a ha => by injection ha with ha; subst ha; exact ⟨hb, cur, hg⟩⟩
/-- what a copy of bytes answers -/
def CloneAt (l : List UInt8) (w w' : World) (e : Ending) : Prop :=
  Below w.heap.size w w' ∧ ∃ A c, e = .returned (.slice A l.length c) ∧ l.length ≤ c ∧ (A = none → c = 0) ∧ BytesAt w' A l ∧ ∀ a, A = some a → w.heap.size ≤ a.block ∧ ∃ cs, w'.heap[a.block]? = some (.cells cs 5 (0, 0))
set_option maxHeartbeats 400000 in
set_option maxRecDepth 100000 in
theorem clone_any (l : List UInt8) (A : Option Addr) (c : Nat) (w : World) (hc : l.length ≤ c) (hn : A = none → c = 0) (hby : BytesAt w A l) (hbig : l.length ≤ 100000000) :
    Calls Tryd.prog 94 #[.slice A l.length c] w fun e w' => CloneAt l w w' e := by
  cases A with
  | none =>
    obtain rfl := hn rfl
    have hl : l = [] := List.length_eq_zero_iff.1 (by omega)
    subst hl
    have he : ∀ w : World, (binOp .eql 22 (.slice none 0 0) (.slice none 0 0)).run Tryd.prog w = .ok (.bool true) w := fun _ => rfl
    go_enter Tryd.func94, Tryd.ntmps94
    go_wp2_with fail
    go_ret
    exact ⟨Below.refl _ _, none, 0, rfl, Nat.le_refl _, fun _ => rfl, fun j hj => by simp at hj, fun a ha => by cases ha⟩
  | some a =>
    have HBY := Lib.hid hby
    clear hby hn
    have hO : (w.alloc (.cells #[] 5)).ownsRow w.heap.size 5 1 (.slice (some ⟨w.heap.size, 0, none⟩) 0 0) 0 (Bs []) := World.ownsRow_made w #[] 0 (Nat.le_refl _) (by unfold maxLen; omega) rfl
    have hb0 : Below w.heap.size w (w.alloc (.cells #[] 5)) := (Below.refl _ _).alloc (Nat.le_refl _) _
    have he : ∀ w : World, (binOp .eql 22 (.slice (some a) l.length c) (.slice none 0 0)).run Tryd.prog w = .ok (.bool false) w := fun _ => rfl
    go_enter Tryd.func94, Tryd.ntmps94
    go_wp2_with (refine wpList_append_bytes rfl (.tmp 5) (.tmp 6) rfl w.heap.size _ [] rfl hO (some a) l c rfl (HBY.out.below hb0) (fun h => by cases h) (by simp; omega) (by simp) ?_; rintro v3 w3 ho3 hg3 hn3; have hb3 := hb0.grown hg3 (by simp) (fun k hk => (hO.lt k hk).1); rw [List.length_nil, Nat.zero_add, show Bs [] ++ Bs l = Bs l from rfl] at ho3; clear hO hg3 hn3)
    obtain ⟨A', c', rfl, h1, h2, h3, h4⟩ := found_row ho3
    go_ret
    exact ⟨hb3, A', c', rfl, h1, h2, h3, h4⟩
end Go.Proofs.YtbioclpobmgikaaDoor
