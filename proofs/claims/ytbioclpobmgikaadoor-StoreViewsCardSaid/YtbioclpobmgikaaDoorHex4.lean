/- Bytes as hexadecimal: the document's walk. -/
import Derived.Test.YtbioclpobmgikaaDoorHex3
namespace Go.Proofs.YtbioclpobmgikaaDoor
open Go.RowKit

theorem owned_ne {w : World} {base : Nat} {v : Value} {n B : Nat} {xs : List Value} {cs : Array Value} {t : TypeId} {fr : Nat × Nat} (h : w.ownsRow base 5 1 v n xs) (hB : w.heap[B]? = some (.cells cs t fr)) (ht : t ≠ 5) : v.ownBlock ≠ some B := by
  rcases h.2 with ⟨rfl, _⟩ | ⟨g, cap, cur, rfl, _, hg, _⟩
  · simp [Value.ownBlock]
  · intro e
    simp [Value.ownBlock] at e
    subst e
    rw [hg] at hB
    injection hB with hB
    injection hB with _ hB
    exact ht hB.symm
theorem str_bytes (w : World) (A : Option Addr) (l : List UInt8) (c : Nat) (h : BytesAt w A l) : (convert 22 9 (.slice A l.length c)).run Tryd.prog w = .ok (.string (St l)) w := by
  cases A with
  | some a =>
    exact run_convert_bytes_back w 22 9 5 a c l Tryd.underlying22 Tryd.underlying5 Tryd.underlying9 (fun j hj => by
      obtain ⟨a', ha, hc⟩ := h j hj
      obtain rfl := Option.some.inj ha
      rw [hc]
      simp [at8, List.getD, hj])
  | none =>
    have : l = [] := by
      cases l with
      | nil => rfl
      | cons b t => obtain ⟨a', ha, _⟩ := h 0 (by simp); cases ha
    subst this
    rw [run_convert_bytes_nil w 22 5 Tryd.underlying22 Tryd.underlying5 _ _ 9 Tryd.underlying9]
    rfl
theorem hx_low (v : Nat) (h : v < 16) (h2 : v < 10) : (48 : Int) + (v : Int) = ((hx v).toNat : Int) := by
  have : ∀ v : Fin 16, v.val < 10 → (48 : Int) + (v.val : Int) = ((hx v.val).toNat : Int) := by decide +kernel
  exact this ⟨v, h⟩ h2
theorem hx_high (v : Nat) (h : v < 16) (h2 : ¬ v < 10) : (97 : Int) + (v : Int) - 10 = ((hx v).toNat : Int) := by
  have : ∀ v : Fin 16, ¬ v.val < 10 → (97 : Int) + (v.val : Int) - 10 = ((hx v.val).toNat : Int) := by decide +kernel
  exact this ⟨v, h⟩ h2

set_option maxHeartbeats 4000000 in
set_option maxRecDepth 100000 in
theorem hexr_any (l : List UInt8) (A : Option Addr) (c : Nat) (w : World) (hby : BytesAt w A l) (hbig : l.length ≤ 70368744170000) :
    Calls Tryd.prog 30 #[.slice A l.length c] w fun e w' => e = .returned (.string (St (hexL l))) ∧ Below w.heap.size w w' := by
  have HBY := Lib.hid hby
  clear hby
  have hO : (w.alloc (.cells #[] 5)).ownsRow w.heap.size 5 1 (.slice (some ⟨w.heap.size, 0, none⟩) 0 0) 0 (Bs []) := World.ownsRow_made w #[] 0 (Nat.le_refl _) (by unfold maxLen; omega) rfl
  have hb0 : Below w.heap.size w (w.alloc (.cells #[] 5)) := (Below.refl _ _).alloc (Nat.le_refl _) _
  go_enter Tryd.func30, Tryd.ntmps30
  go_wp2_with fail
  go_loopw [3, 4, 6] (fun o v _ wr => ∃ k : Nat, k ≤ l.length ∧ v = .int .i64 (k : Int) ∧ Below w.heap.size w wr ∧ wr.ownsRow w.heap.size 5 1 o (2 * k) (Bs (hexL (l.take k)))) (fun _ v _ _ => l.length - (intOf v).toNat)
  case atStart => exact ⟨0, by omega, rfl, hb0, hO⟩
  case round =>
    clear hO hb0
    obtain ⟨k, hk, rfl, hbel, hown⟩ := hrel
    by_cases hlt : k < l.length
    · have hsn := hexL_snoc l k hlt
      have hln : (hexL (l.take k)).length = 2 * k := by rw [hexL_length]; simp; omega
      have HSN := Lib.hid hsn; have HLN := Lib.hid hln
      clear hsn hln
      obtain ⟨a, rfl, hc⟩ := HBY.out k hlt
      have gc : ∀ w', Below w.heap.size w w' → w'.cell? (a.add k) = some (.int .u8 ((at8 l k).toNat : Int)) := fun w' hb => (hb.cell (p := a.add k) (World.block_lt_of_cell? w _ hc)).trans hc
      have hx8 := (at8 l k).toNat_lt
      have GC := Lib.hid gc
      clear hc gc
      generalize at8 l k = x at *
      generalize hexL (l.take k) = t at *
      generalize l.length = n at *
      have g := GC.out wr hbel
      have e1 : IntKind.i64.wrap (x.toNat : Int) = (x.toNat : Int) := IntWalk.i64_in _ (by omega)
      have e2 : IntKind.i64.wrap ((x.toNat : Int).tdiv 16) = (x.toNat : Int) / 16 := by rw [Int.tdiv_eq_ediv_of_nonneg (by omega)]; exact IntWalk.i64_in _ (by omega)
      have e3 : (x.toNat : Int).tmod 16 = (x.toNat : Int) % 16 := Int.tmod_eq_emod_of_nonneg (by omega)
      go_wp2_with fail
      go_region
      clear e1 e2 e3 g
      have hb2 : Below w.heap.size w (wr.alloc (.cells #[.int .i64 ((x.toNat : Int) / 16), .int .i64 ((x.toNat : Int) % 16)] 3)).drew := (hbel.alloc hbel.size _).drew
      have hown2 : (wr.alloc (.cells #[.int .i64 ((x.toNat : Int) / 16), .int .i64 ((x.toNat : Int) % 16)] 3)).drew.ownsRow w.heap.size 5 1 u3 (2 * k) (Bs t) := hown.alloc _
      have hrow2 : (wr.alloc (.cells #[.int .i64 ((x.toNat : Int) / 16), .int .i64 ((x.toNat : Int) % 16)] 3)).drew.heap[wr.heap.size]? = some (.cells #[.int .i64 ((x.toNat : Int) / 16), .int .i64 ((x.toNat : Int) % 16)] 3) := heap_alloc_new wr _
      have hwB := hbel.size
      generalize (wr.alloc (.cells #[.int .i64 ((x.toNat : Int) / 16), .int .i64 ((x.toNat : Int) % 16)] 3)).drew = w4 at *
      generalize wr.heap.size = B at *
      clear hbel hown
      go_wp2_with fail
      go_loopw [28, 3, 6] (fun j o _ wr => ∃ q : Nat, q ≤ 2 ∧ j = .int .i64 (q : Int) ∧ Below w.heap.size w wr ∧ wr.ownsRow w.heap.size 5 1 o (2 * k + q) (Bs (t ++ [hx (x.toNat / 16), hx (x.toNat % 16)].take q)) ∧ wr.heap[B]? = some (.cells #[.int .i64 ((x.toNat : Int) / 16), .int .i64 ((x.toNat : Int) % 16)] 3)) (fun j _ _ _ => 2 - (intOf j).toNat)
      case atStart => exact ⟨0, by omega, rfl, hb2, by simpa using hown2, hrow2⟩
      case round =>
        clear hb2 hown2 hrow2
        obtain ⟨q, hq, rfl, hbel, hown, hrow⟩ := hrel
        rename World => w5
        by_cases hq2 : q < 2
        · obtain ⟨v, hv16, hcell, hnx⟩ : ∃ v : Nat, v < 16 ∧ w5.cell? ⟨B, q, none⟩ = some (.int .i64 (v : Int)) ∧ [hx (x.toNat / 16), hx (x.toNat % 16)].take (q + 1) = [hx (x.toNat / 16), hx (x.toNat % 16)].take q ++ [hx v] := by
            obtain rfl | rfl : q = 0 ∨ q = 1 := by omega
            · exact ⟨x.toNat / 16, by omega, by rw [cell_of_row _ _ _ _ _ _ hrow]; simp, rfl⟩
            · exact ⟨x.toNat % 16, by omega, by rw [cell_of_row _ _ _ _ _ _ hrow]; simp, rfl⟩
          have hln : (t ++ [hx (x.toNat / 16), hx (x.toNat % 16)].take q).length = 2 * k + q := by have := HLN.out; simp; omega
          have HNX := Lib.hid hnx; have HLQ := Lib.hid hln
          clear hnx hln
          have hne := owned_ne hown hrow (by decide)
          have HROW := Lib.hid hrow
          clear hrow
          generalize htq : t ++ [hx (x.toNat / 16), hx (x.toNat % 16)].take q = tq at *
          have HTQ := Lib.hid htq
          clear htq
          have hwz := hbel.size
          have hBw : B < w5.heap.size := (Array.getElem?_eq_some_iff.1 HROW.out).1
          have hown' : w5.ownsRow w.heap.size 5 1 u3 tq.length (Bs tq) := by rw [HLQ.out]; exact hown
          clear hown
          by_cases hv10 : v < 10
          · have hd : decide ((v : Int) < 10) = true := decide_eq_true (by omega)
            have hxv := hx_low v hv16 hv10
            go_wp2_with (refine wpList_append_bytes rfl (.tmp 34) (.tmp 38) rfl w.heap.size _ tq rfl (hown'.alloc _) (some ⟨w5.heap.size, 0, none⟩) [hx v] 1 rfl (bytes_new _ _ _ rfl) (fun h => by cases h) (by have := HLQ.out; simp; omega) (by simp; omega) ?_; rintro v6 w6 ho6 hg6 hn6; have hw6 := (hbel.alloc hbel.size (.cells #[.int .u8 ((hx v).toNat : Int)] 5)).grown hg6 (by simp; omega) (fun k hk => (hown'.lt k hk).1); have hr6 : w6.heap[B]? = some (.cells #[.int .i64 ((x.toNat : Int) / 16), .int .i64 ((x.toNat : Int) % 16)] 3) := (by rw [hg6.block B (by simp; omega) (fun e => hne e.symm), Lib.alloc_old w5 _ B hBw]; exact HROW.out); clear hg6 hn6; have HR6 := Lib.hid hr6; clear hr6)
            go_roundw
            case rel =>
              refine ⟨q + 1, by omega, by go_num, hw6, ?_, HR6.out⟩
              rw [HNX.out, ← List.append_assoc, HTQ.out, ← Nat.add_assoc, ← HLQ.out]
              simpa [Bs] using ho6
            case measure => simp [intOf]; omega
          · have hd : decide ((v : Int) < 10) = false := decide_eq_false (by omega)
            have hxv := hx_high v hv16 hv10
            go_wp2_with (refine wpList_append_bytes rfl (.tmp 40) (.tmp 45) rfl w.heap.size _ tq rfl (hown'.alloc _) (some ⟨w5.heap.size, 0, none⟩) [hx v] 1 rfl (bytes_new _ _ _ rfl) (fun h => by cases h) (by have := HLQ.out; simp; omega) (by simp; omega) ?_; rintro v6 w6 ho6 hg6 hn6; have hw6 := (hbel.alloc hbel.size (.cells #[.int .u8 ((hx v).toNat : Int)] 5)).grown hg6 (by simp; omega) (fun k hk => (hown'.lt k hk).1); have hr6 : w6.heap[B]? = some (.cells #[.int .i64 ((x.toNat : Int) / 16), .int .i64 ((x.toNat : Int) % 16)] 3) := (by rw [hg6.block B (by simp; omega) (fun e => hne e.symm), Lib.alloc_old w5 _ B hBw]; exact HROW.out); clear hg6 hn6; have HR6 := Lib.hid hr6; clear hr6)
            go_roundw
            case rel =>
              refine ⟨q + 1, by omega, by go_num, hw6, ?_, HR6.out⟩
              rw [HNX.out, ← List.append_assoc, HTQ.out, ← Nat.add_assoc, ← HLQ.out]
              simpa [Bs] using ho6
            case measure => simp [intOf]; omega
        · obtain rfl : q = 2 := by omega
          rw [show ((2 : Nat) : Int) = 2 from rfl]
          have hown' : w5.ownsRow w.heap.size 5 1 u3 (2 * (k + 1)) (Bs (hexL (l.take (k + 1)))) := by rw [HSN.out, show 2 * (k + 1) = 2 * k + 2 by omega]; exact hown
          clear hown hrow
          go_wp2_with fail
          go_roundw
          case rel => exact ⟨k + 1, by omega, by go_num, hbel, hown'⟩
          case measure => simp [intOf]; omega
    · obtain rfl : k = l.length := by omega
      rw [List.take_length] at hown
      clear hk hlt
      have hcv : (convert 22 9 u3).run Tryd.prog wr = .ok (.string (St (hexL l))) wr := by
        have hl : 2 * l.length = (hexL l).length := (hexL_length l).symm
        rw [hl] at hown
        rcases hown.2 with ⟨rfl, h0⟩ | ⟨g, cap, cur, rfl, _⟩
        · have := str_bytes wr none (hexL l) 0 (fun j hj => by omega)
          rwa [h0] at this
        · exact str_bytes wr _ (hexL l) _ (fun j hj => ⟨_, rfl, hown.cells (g := g) rfl j _ (Bs_get _ _ hj)⟩)
      generalize l.length = n at *
      go_wp2_with fail
      go_ret
      exact ⟨rfl, hbel⟩
end Go.Proofs.YtbioclpobmgikaaDoor
