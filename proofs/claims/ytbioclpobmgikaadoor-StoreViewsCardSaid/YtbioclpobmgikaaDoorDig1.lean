/- What a blob is called: the program's walks. -/
import Derived.Test.YtbioclpobmgikaaDoorHex3
import Derived.Laws.Concat
import Derived.Lib.ConvBytes
import Derived.Lib.SmallJoins
namespace Go.Proofs.YtbioclpobmgikaaDoor
open Go.RowKit

/-- all of an array's bytes -/
theorem run_all25 (w : World) (b : Nat) : (Instr.sliceAt 25 (.pointer (some ⟨b, 0, none⟩)) none none none).run Tryd.prog w = .ok (.slice (some ⟨b, 0, none⟩) 32 32) w := by
  unfold Instr.sliceAt
  simp only [Sem.run_bind, run_underlying Tryd.underlying25]
  simp [Instr.sureAddr, Instr.sliceBounds, Addr.add]
theorem bytes_cells (w : World) (b t : Nat) (s : List UInt8) (h : w.heap[b]? = some (.cells (Bs s).toArray t)) : BytesAt w (some ⟨b, 0, none⟩) s := fun j hj => by
  refine ⟨_, rfl, ?_⟩
  rw [show (⟨b, 0, none⟩ : Addr).add j = ⟨b, j, none⟩ by unfold Addr.add; split <;> simp_all, cell_of_row _ _ _ _ _ _ h, List.getElem?_toArray]
  exact Bs_get _ _ hj
/-- texts, one behind the other -/
theorem add_St (a b : List UInt8) (h : a.length + b.length ≤ 9223372036854775807) (w : World) : (Op.stringOp .add (St a) (St b)).run Tryd.prog w = .ok (.string (St (a ++ b))) w := by
  rw [run_string_add_sum w (St a) (St b) h, St_append]
theorem add_name (b : List UInt8) (h : b.length ≤ 9223372036854775800) (w : World) : (Op.stringOp .add ⟨#[115, 104, 97, 50, 53, 54, 58]⟩ (St b)).run Tryd.prog w = .ok (.string (St (nameP ++ b))) w :=
  add_St nameP b (by simp [nameP]; omega) w
theorem add_blank (a : List UInt8) (h : a.length ≤ 9223372036854775800) (w : World) : (Op.stringOp .add (St a) ⟨#[32]⟩).run Tryd.prog w = .ok (.string (St (a ++ [32]))) w :=
  add_St a [32] (by simp; omega) w

set_option maxHeartbeats 1000000 in
set_option maxRecDepth 100000 in
theorem name_any (s : List UInt8) (hs : s.length = 32) (w : World) :
    Calls Tryd.prog 29 #[.agg (Bs s).toArray] w fun e w' => e = .returned (.string (St (nameP ++ hexL s))) ∧ Below w.heap.size w w' := by
  have hal := run_all25
  have hadd := add_name (hexL s) (by rw [hexL_length]; omega)
  have hb1 : Below w.heap.size w (w.alloc (.cells (Bs s).toArray 25)) := (Below.refl _ _).alloc (Nat.le_refl _) _
  have hby := bytes_cells _ _ _ s (heap_alloc_new w (.cells (Bs s).toArray 25))
  have hx := hex_any s (some ⟨w.heap.size, 0, none⟩) 32 _ hby (by omega)
  rw [hs] at hx
  have HX := Lib.hid hx
  clear hx hby
  generalize (Bs s).toArray = cs at *
  go_enter Tryd.func29, Tryd.ntmps29
  go_wp2_with fail
  refine HX.out.mono ?_
  rintro e w2 ⟨rfl, hb2⟩
  go_wp2_with fail
  go_ret
  exact ⟨rfl, hb1.trans (hb2.mono hb1.size)⟩

set_option maxHeartbeats 1000000 in
set_option maxRecDepth 100000 in
theorem digOf_any (l : List UInt8) (A : Option Addr) (c : Nat) (w : World) (hL : Laid w) (hc : l.length ≤ c) (hby : BytesAt w A l) (hbig : l.length ≤ 2305843009213693951) :
    Calls Tryd.prog 27 #[.slice A l.length c] w fun e w' => e = .returned (.string (St (nameOf l))) ∧ Below w.heap.size w w' := by
  have h1 := of_one l A c _ w hL rfl hc hby hbig
  have H1 := Lib.hid h1
  clear h1 hby
  go_enter Tryd.func27, Tryd.ntmps27
  go_wp2_with fail
  refine H1.out.mono ?_
  rintro e w2 ⟨rfl, hb2⟩
  have hn := name_any (sha l) (sha_length l) w2
  have HN := Lib.hid hn
  clear hn
  generalize (Bs (sha l)).toArray = cs at *
  go_wp2_with fail
  refine HN.out.mono ?_
  rintro e w3 ⟨rfl, hb3⟩
  go_wp2_with fail
  go_ret
  exact ⟨rfl, hb2.trans (hb3.mono hb2.size)⟩

/-- '[]byte(s)' -/
theorem bytes_of_text (l : List UInt8) (w : World) : ∃ w', ∃ c, (∀ src, Tryd.prog.underlying src = some .string → (convert src 22 (.string (St l))).run Tryd.prog w = .ok (.slice (some ⟨w.heap.size, 0, none⟩) l.length c) w') ∧ Below w.heap.size w w' ∧ BytesAt w' (some ⟨w.heap.size, 0, none⟩) l ∧ l.length ≤ c :=
  ⟨Lib.bytesWorld w 5 (St l), grownCap w l.length 0 5, fun src hs => Lib.run_convert_string_bytes w src 22 5 (St l) hs Tryd.underlying22 Tryd.underlying5, Joins.below_bytesWorld _ w 5 (St l) (Nat.le_refl _),
    fun j hj => ⟨_, rfl, by
      rw [show (⟨w.heap.size, 0, none⟩ : Addr).add j = ⟨w.heap.size, j, none⟩ by unfold Addr.add; split <;> simp_all, Lib.bytesWorld_cell w 5 (St l) j hj]
      rfl⟩, grownCap_ge _ _ _ _⟩

set_option maxHeartbeats 1000000 in
set_option maxRecDepth 100000 in
theorem chain_any (a b : List UInt8) (w : World) (hL : Laid w) (hbig : a.length + b.length ≤ 2305843009213693900) :
    Calls Tryd.prog 31 #[.string (St a), .string (St b)] w fun e w' => e = .returned (.string (St (nameOf (a ++ [32] ++ b)))) ∧ Below w.heap.size w w' := by
  obtain ⟨w1, c, hcv, hb1, hby, hc⟩ := bytes_of_text (a ++ [32] ++ b) w
  have hcv := hcv 9 Tryd.underlying9
  have ha1 := add_blank a (by omega)
  have ha2 := add_St (a ++ [32]) b (by simp; omega)
  have hd := digOf_any _ _ c w1 (hL.below hb1) hc hby (by simp; omega)
  have HD := Lib.hid hd
  clear hd hby hc
  generalize a ++ [32] ++ b = q at *
  generalize q.length = n at *
  go_enter Tryd.func31, Tryd.ntmps31
  go_wp2_with fail
  refine HD.out.mono ?_
  rintro e w2 ⟨rfl, hb2⟩
  go_wp2_with fail
  go_ret
  exact ⟨rfl, hb1.trans (hb2.mono hb1.size)⟩
end Go.Proofs.YtbioclpobmgikaaDoor
