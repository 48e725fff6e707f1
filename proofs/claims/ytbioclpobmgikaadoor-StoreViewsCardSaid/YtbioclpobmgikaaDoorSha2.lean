/- The schedule of a block. -/
import Derived.Test.YtbioclpobmgikaaDoorSha1
import Derived.StillTailTactics
import Derived.Lib.Hide
import Derived.BigQuiet
import Derived.Deep.QuietTactic
import Derived.Deep.WholeRow
import Derived.Deep.MidRow
import Derived.Laws.CopyOwn
namespace Go.Proofs.YtbioclpobmgikaaDoor
open Go.RowKit

/-- what the loops of the schedule keep: the array w, k of whose numbers are laid -/
structure SchedAt (w wr : World) (bb o : Nat) (blk : List UInt8) (k : Nat) : Prop where
  below : Below w.heap.size w wr
  res : wr.heap[w.heap.size]? = some (.cells (U (List.replicate 64 0)).toArray 110)
  arr : wr.heap[w.heap.size + 1]? = some (.cells (U (wz blk k)).toArray 110)
  sz : w.heap.size + 2 ≤ wr.heap.size

theorem SchedAt.get {w wr : World} {bb o : Nat} {blk : List UInt8} {k : Nat} (h : SchedAt w wr bb o blk k) (hk : k ≤ 64) (i : Nat) (hi : i < 64) :
    wr.cell? ⟨w.heap.size + 1, i, none⟩ = some (.int .u32 ((at32 (wz blk k) i).toNat : Int)) := by
  rw [cell_of_row _ _ _ _ _ _ h.arr]
  simpa using U_get _ i (by rw [wz_length _ _ hk]; exact hi)

theorem SchedAt.drew {w wr : World} {bb o : Nat} {blk : List UInt8} {k : Nat} (h : SchedAt w wr bb o blk k) : SchedAt w wr.drew bb o blk k :=
  ⟨h.below.drew, h.res, h.arr, h.sz⟩
theorem SchedAt.drewN {w wr : World} {bb o : Nat} {blk : List UInt8} {k : Nat} (h : SchedAt w wr bb o blk k) (n : Nat) : SchedAt w (wr.drewN n) bb o blk k :=
  ⟨⟨h.below.os, h.below.tape, h.below.output, h.below.size, h.below.block⟩, h.res, h.arr, h.sz⟩
theorem SchedAt.set {w wr : World} {bb o : Nat} {blk : List UInt8} {k : Nat} (h : SchedAt w wr bb o blk k) (hk : k < 64) (x : Int) (hx : x = ((wnext blk (wl blk k) k).toNat : Int)) :
    SchedAt w (wr.setCell ⟨w.heap.size + 1, k, none⟩ (.int .u32 x)) bb o blk (k + 1) := by
  subst hx
  refine ⟨h.below.setCell (by simp) _, ?_, ?_, ?_⟩
  · rw [heap_setCell_other _ _ _ _ (by simp)]; exact h.res
  · rw [heap_setCell_same _ _ _ _ _ _ h.arr, ← wz_step blk k hk, ← U_set]; simp
  · simp [World.setCell]; exact h.sz

theorem mul4 (k : Nat) (h : k < 16) : IntKind.i64.wrap (4 * (k : Int)) = 4 * (k : Int) ∧ (4 * (k : Int)).toNat = 4 * k ∧ 0 ≤ 4 * (k : Int) ∧ 4 * (k : Int) < 64 :=
  ⟨IntWalk.i64_in _ (by omega), by omega, by omega, by omega⟩
theorem mul4a (k j : Nat) (i : Int) (hi : i = j) (h : k < 16) (hj : j < 4) : IntKind.i64.wrap (4 * (k : Int) + i) = 4 * (k : Int) + i ∧ (4 * (k : Int) + i).toNat = 4 * k + j ∧ 0 ≤ 4 * (k : Int) + i ∧ 4 * (k : Int) + i < 64 :=
  ⟨IntWalk.i64_in _ (by omega), by omega, by omega, by omega⟩

theorem less (k j : Nat) (i : Int) (hi : i = j) (h : k < 64) (hj : j ≤ k) : IntKind.i64.wrap ((k : Int) - i) = (k : Int) - i ∧ ((k : Int) - i).toNat = k - j ∧ i ≤ (k : Int) ∧ (k : Int) - i < 64 :=
  ⟨IntWalk.i64_in _ (by omega), by omega, by omega, by omega⟩

theorem info110 : (Tryd.prog.info? 110).map (·.size) = some 64 := by kernel_rfl
theorem U_one (l : List W) : (U l).toArray.all (·.oneCell') = true := by
  rw [Array.all_eq_true_iff_forall_mem]
  intro v hv
  simp only [U, List.mem_toArray, List.mem_map] at hv
  obtain ⟨x, _, rfl⟩ := hv
  rfl

set_option maxHeartbeats 1000000 in
set_option maxRecDepth 100000 in
theorem sched_any (bb o : Nat) (blk : List UInt8) (w : World)
    (hb : ∀ j, j < 64 → w.cell? ⟨bb, o + j, none⟩ = some (.int .u8 ((at8 blk j).toNat : Int))) :
    Calls Tryd.prog 105 #[.pointer (some ⟨bb, o, none⟩)] w fun e w' => e = .returned (.agg (U (wl blk 64)).toArray) ∧ Below w.heap.size w w' := by
  have hbb : bb < w.heap.size := World.block_lt_of_cell? w _ (hb 0 (by omega))
  have HB := Lib.hid hb
  clear hb
  go_enter Tryd.func105, Tryd.ntmps105
  go_wp2
  go_loopw [10, 4] (fun i j wr => ∃ k : Nat, k ≤ 16 ∧ i = .int .i64 k ∧ SchedAt w wr bb o blk k) (fun i _ _ => 16 - (intOf i).toNat)
  case atStart => 
    refine ⟨0, by omega, rfl, ?_⟩
    refine ⟨((Below.refl _ _).alloc (Nat.le_refl _) _).alloc (by simp) _, ?_, ?_, by simp⟩
    · exact heap_alloc2_old w _ _
    · rw [wz_zero]; exact heap_alloc2_new w _ _
  case round =>
    obtain ⟨k, hk, rfl, hs⟩ := hrel
    by_cases hlt : k < 16
    · go_wp2
      refine wp_region_still_tail 39 (by kernel_rfl) (by kernel_rfl) ?_
      have hs := hs.drew
      change wpStill _ _ wr.drew (fun a' => wpList _ _ _ _ a' wr.drew) _ _
      generalize wr.drew = w2 at hs ⊢
      have g : ∀ j, j < 64 → w2.cell? ⟨bb, o + j, none⟩ = some (.int .u8 ((at8 blk j).toNat : Int)) := fun j hj => (hs.below.cell (p := ⟨bb, o + j, none⟩) hbb).trans (HB.out j hj)
      have g0 := g (4 * k) (by omega)
      have g1 := g (4 * k + 1) (by omega)
      have g2 := g (4 * k + 2) (by omega)
      have g3 := g (4 * k + 3) (by omega)
      have gw := hs.get (by omega) k (by omega)
      have gf := frozen_of_row _ _ k _ _ hs.arr
      clear g
      have hk6 : (k : Int) < 64 := by omega
      obtain ⟨e0, e1, e2, e3⟩ := mul4 k hlt
      obtain ⟨f0, f1, f2, f3⟩ := mul4a k 1 1 rfl hlt (by omega)
      obtain ⟨m0, m1, m2, m3⟩ := mul4a k 2 2 rfl hlt (by omega)
      obtain ⟨n0, n1, n2, n3⟩ := mul4a k 3 3 rfl hlt (by omega)
      simp only [List.take_succ_cons, List.take_zero, List.drop_succ_cons, List.drop_zero]
      repeat still_step
      refine wpStill_nil ?_
      go_wp2
      go_roundw
      case rel =>
        refine ⟨k + 1, by omega, by go_num, hs.set (by omega) _ ?_⟩
        rw [(byte_shl _).1, (byte_shl _).2.1, (byte_shl _).2.2, byte_in, be32_or]
        simp only [wnext, if_pos hlt]
      case measure => simp [intOf]; omega
    · obtain rfl : k = 16 := by omega
      clear hlt hk
      rw [show ((16 : Nat) : Int) = 16 from rfl]
      go_wp2
      go_loopw [5] (fun i wr => ∃ k : Nat, 16 ≤ k ∧ k ≤ 64 ∧ i = .int .i64 k ∧ SchedAt w wr bb o blk k) (fun i _ => 64 - (intOf i).toNat)
      case atStart => exact ⟨16, by omega, by omega, rfl, hs⟩
      case round =>
        clear hs
        obtain ⟨k, hk0, hk, rfl, hs⟩ := hrel
        by_cases hlt : k < 64
        · have g15 := fun n => (hs.drewN n).get (by omega) (k - 15) (by omega)
          have g2 := fun n => (hs.drewN n).get (by omega) (k - 2) (by omega)
          obtain ⟨e0, e1, e2, e3⟩ := less k 15 15 rfl hlt (by omega)
          obtain ⟨f0, f1, f2, f3⟩ := less k 2 2 rfl hlt (by omega)
          go_wp2
          go_quiet (fail)
          clear g15 g2 e0 e1 e2 e3 f0 f1 f2 f3
          have hs := hs.drewN nq
          generalize wr.drewN nq = w1 at hs ⊢
          go_wp2_with (go_at_call 106; refine (turn_k _ _ _ (by omega) (by omega)).mono ?_; rintro e w' ⟨rfl, rfl⟩)
          refine wp_region_still_tail 15 (by kernel_rfl) (by kernel_rfl) ?_
          have hs := hs.drew
          change wpStill _ _ w1.drew (fun a' => wpList _ _ _ _ a' w1.drew) _ _
          generalize w1.drew = w2 at hs ⊢
          have g16 := hs.get (by omega) (k - 16) (by omega)
          have g7 := hs.get (by omega) (k - 7) (by omega)
          have gw := hs.get (by omega) k (by omega)
          have gf := frozen_of_row _ _ k _ _ hs.arr
          obtain ⟨e0, e1, e2, e3⟩ := less k 16 16 rfl hlt (by omega)
          obtain ⟨f0, f1, f2, f3⟩ := less k 7 7 rfl hlt (by omega)
          have hk6 : (k : Int) < 64 := by omega
          simp only [List.take_succ_cons, List.take_zero, List.drop_succ_cons, List.drop_zero]
          repeat still_step
          refine wpStill_nil ?_
          clear e0 e1 e2 e3 f0 f1 f2 f3
          go_wp2
          go_roundw
          case rel =>
            refine ⟨k + 1, by omega, by omega, by go_num, hs.set (by omega) _ ?_⟩
            rw [sig0_eq, sig1_eq, sum4]
            simp only [wnext, if_neg (show ¬ k < 16 by omega), wz_getD _ _ _ (show k - 16 < k by omega), wz_getD _ _ _ (show k - 15 < k by omega), wz_getD _ _ _ (show k - 7 < k by omega), wz_getD _ _ _ (show k - 2 < k by omega)]
          case measure => simp [intOf]; omega
        · obtain rfl : k = 64 := by omega
          have harr := hs.arr
          have hres := hs.res
          have hbel := hs.below
          have hsz := hs.sz
          have i110 : (Tryd.prog.info? 110).map (·.size) = some (U (wz blk 64)).toArray.size := by
            rw [List.size_toArray, U_length, wz_length _ _ (by omega)]; exact info110
          have i110' : (U (List.replicate 64 0)).toArray.size = (U (wz blk 64)).toArray.size := by
            rw [List.size_toArray, List.size_toArray, U_length, U_length, wz_length _ _ (by omega)]; rfl
          have h1 : (U (wz blk 64)).toArray.all (·.oneCell') = true := U_one _
          clear hs hlt hk hk0
          have hcs : (U (wz blk 64)).toArray = (U (wl blk 64)).toArray := by rw [wz_full]
          generalize (U (wz blk 64)).toArray = cs at *
          generalize (U (List.replicate 64 0)).toArray = zs at *
          have HI := Lib.hid i110; have HI' := Lib.hid i110'; have H1 := Lib.hid h1; have HA := Lib.hid harr; have HC := Lib.hid hcs; have HR := Lib.hid hres
          clear i110 i110' h1 harr hres hcs
          go_wp2_with (first
            | refine wpList_load_row rfl 110 (.tmp 3) rfl _ rfl 110 _ (0, 0) _ HA.out Tryd.underlying110 rfl HI.out ?_
            | refine wpList_store_row rfl 110 (.tmp 2) (.tmp 96) rfl _ _ rfl rfl 110 _ HR.out HI.out HI'.out H1.out ?_)
          have hrow := setRow_heap wr w.heap.size zs cs 110 (0, 0) HR.out
          refine bodyPost_ret (v := .agg cs) (results_cell_row rfl _ _ w.heap.size 110 cs (0, 0) _ rfl hrow Tryd.underlying110 rfl HI.out) rfl ⟨?_, below_setRow hbel (Nat.le_refl _) _⟩
          rw [HC.out]
end Go.Proofs.YtbioclpobmgikaaDoor
