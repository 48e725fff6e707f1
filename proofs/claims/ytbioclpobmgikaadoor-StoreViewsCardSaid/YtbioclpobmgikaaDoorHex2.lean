/- Bytes as hexadecimal: the program's walk. -/
import Derived.Test.YtbioclpobmgikaaDoorHex1
namespace Go.Proofs.YtbioclpobmgikaaDoor
open Go.RowKit

theorem run_fig (n : Nat) (h : n < 16) (v : Int) (hv : v = (n : Int)) (w : World) :
    (Instr.index 9 (.string ⟨#[48, 49, 50, 51, 52, 53, 54, 55, 56, 57, 97, 98, 99, 100, 101, 102]⟩) (.int .u8 v)).run Tryd.prog w = .ok (.int .u8 ((hx n).toNat : Int)) w := by
  subst hv
  rw [run_index_string w 9 _ _ _ Tryd.underlying9]
  have hs : (⟨#[48, 49, 50, 51, 52, 53, 54, 55, 56, 57, 97, 98, 99, 100, 101, 102]⟩ : ByteArray).size = 16 := rfl
  rw [dif_pos (by rw [hs]; omega)]
  have hf := fig_hx n h
  congr 3
  have : (⟨#[48, 49, 50, 51, 52, 53, 54, 55, 56, 57, 97, 98, 99, 100, 101, 102]⟩ : ByteArray) = ⟨figs.toArray⟩ := rfl
  simp only [this, ByteArray.getElem_eq_getElem_data, List.getElem_toArray, Int.toNat_natCast]
  rw [List.getElem?_eq_some_iff] at hf
  rw [hf.2]
theorem u8_low (x : Nat) (h : x < 256) : bits .and .u8 (x : Int) 15 = (x : Int) % 16 := bits_mask .u8 8 (by decide) wraps_u8 4 (by decide) x (by omega) (by omega)

theorem Blt.start (w : World) : Blt w (w.alloc (.cells #[.pointer none, .slice none 0 0] 154)) w.heap.size [] :=
  ⟨.inl ⟨Nat.le_refl _, .slice none 0 0, heap_alloc_new w _, ⟨rfl, .inl ⟨rfl, rfl⟩⟩, by simp [Value.ownBlock]⟩, (Below.refl _ _).alloc (Nat.le_refl _) _⟩

set_option maxHeartbeats 2000000 in
set_option maxRecDepth 100000 in
theorem hex_any (l : List UInt8) (A : Option Addr) (c : Nat) (w : World) (hby : BytesAt w A l) (hbig : l.length ≤ 70368744177664) :
    Calls Tryd.prog 81 #[.slice A l.length c] w fun e w' => e = .returned (.string (St (hexL l))) ∧ Below w.heap.size w w' := by
  have HBY := Lib.hid hby
  clear hby
  have hst := Blt.start w
  go_enter Tryd.func81, Tryd.ntmps81
  go_wp2_with fail
  go_loopw [5, 8] (fun _ v wr => ∃ k : Nat, k ≤ l.length ∧ v = .int .i64 (k : Int) ∧ Blt w wr w.heap.size (hexL (l.take k))) (fun _ v _ => l.length - (intOf v).toNat)
  case atStart => exact ⟨0, by omega, rfl, hst⟩
  case round =>
    clear hst
    obtain ⟨k, hk, rfl, hB⟩ := hrel
    by_cases hlt : k < l.length
    · have hsn := hexL_snoc l k hlt
      have hln : (hexL (l.take k)).length = 2 * k := by rw [hexL_length]; simp; omega
      have HSN := Lib.hid hsn
      clear hsn
      obtain ⟨a, rfl, hc⟩ := HBY.out k hlt
      have gc : wr.cell? (a.add k) = some (.int .u8 ((at8 l k).toNat : Int)) := (hB.below.cell (p := a.add k) (World.block_lt_of_cell? w _ hc)).trans hc
      have hx8 := (at8 l k).toNat_lt
      clear hc
      generalize at8 l k = x at *
      generalize hexL (l.take k) = t at *
      have hi1 := run_fig (x.toNat / 16) (by omega) ((x.toNat : Int) / 16) (by omega)
      have hi2 := run_fig (x.toNat % 16) (by omega) ((x.toNat : Int) % 16) (by omega)
      have hlow := u8_low x.toNat hx8
      generalize l.length = n at *
      go_wp2_with fail
      refine (putByte w wr w.heap.size t _ hB (by omega)).mono ?_
      rintro e w1 ⟨rfl, hB1⟩
      clear gc
      go_wp2_with fail
      refine (putByte w w1 w.heap.size _ _ hB1 (by simp; omega)).mono ?_
      rintro e w2 ⟨rfl, hB2⟩
      go_wp2_with fail
      go_roundw
      case rel => exact ⟨k + 1, by omega, by go_num, by rw [HSN.out]; simpa using hB2⟩
      case measure => simp [intOf]; omega
    · obtain rfl : k = l.length := by omega
      rw [List.take_length] at hB
      clear hlt hk
      generalize l.length = n at *
      have hsz := hB.below.size
      go_wp2_with fail
      refine (Tryd.Builder_String_any _ _ (hexL l) _ hB.is hsz).mono ?_
      rintro e w2 ⟨rfl, hb2⟩
      have hb3 := hB.below.trans hb2
      go_wp2_with fail
      go_ret
      exact ⟨rfl, hb3⟩
end Go.Proofs.YtbioclpobmgikaaDoor
