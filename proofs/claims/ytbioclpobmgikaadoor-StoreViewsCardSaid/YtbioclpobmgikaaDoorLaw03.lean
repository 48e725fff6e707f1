/- The laws of layer 3 that hold without the document's answer: their walks. -/
import Derived.Test.YtbioclpobmgikaaDoorSha6
import Derived.Test.YtbioclpobmgikaaDoorM3
import Derived.Stop.BytesEq
namespace Go.Proofs.YtbioclpobmgikaaDoor
open Go.RowKit

theorem size5 (w : World) : (sizeOf 5).run Tryd.prog w = .ok 1 w := by
  cases hq : Tryd.prog.info? 5 with
  | none => have := info5; simp [hq] at this
  | some q => have := info5; simp [hq] at this; simp [sizeOf, typeInfo, hq, this]
theorem eql_sum (w : World) (a b : List UInt8) (ha : a.length = 32) (hb : b.length = 32) : (binOp .eql 25 (.agg (Bs a).toArray) (.agg (Bs b).toArray)).run Tryd.prog w = .ok (.bool (a == b)) w :=
  run_eql_bytes w 25 5 32 Tryd.underlying25 Tryd.underlying5 size5 a b ha hb
theorem neq_sum (w : World) (a b : List UInt8) (ha : a.length = 32) (hb : b.length = 32) : (binOp .neq 25 (.agg (Bs a).toArray) (.agg (Bs b).toArray)).run Tryd.prog w = .ok (.bool (!(a == b))) w := by
  rw [run_neq_struct, show Op.equalIn 10000 25 (.agg (Bs a).toArray) (.agg (Bs b).toArray) = Op.equalIn (9998 + 2) 25 (.agg (a.map Extern.Stop.cell).toArray) (.agg (b.map Extern.Stop.cell).toArray) from rfl, run_equalIn_bytes w 9998 25 5 32 Tryd.underlying25 Tryd.underlying5 size5 a b ha hb]
  rfl
theorem guard25 : Tryd.prog.eqGuardType Tryd.prog.depth 25 = false := by kernel_rfl

set_option maxHeartbeats 1000000 in
set_option maxRecDepth 100000 in
theorem alive_any (w : World) (hL : Laid w) : Calls Tryd.prog 19 #[] w fun e w' => e = .returned (.bool true) ∧ Below w.heap.size w w' := by
  go_enter Tryd.func19, Tryd.ntmps19
  go_wp2_with fail
  refine (of_none _ hL).mono ?_
  rintro e w1 ⟨rfl, hb1⟩
  have q0 : (Bs (sha [])).toArray[0]? = some (.int .u8 227) := by rw [sha_empty]; rfl
  have q1 : (Bs (sha [])).toArray[1]? = some (.int .u8 176) := by rw [sha_empty]; rfl
  have q30 : (Bs (sha [])).toArray[30]? = some (.int .u8 184) := by rw [sha_empty]; rfl
  have q31 : (Bs (sha [])).toArray[31]? = some (.int .u8 85) := by rw [sha_empty]; rfl
  have i25 : (Tryd.prog.info? 25).map (·.size) = some (Bs (sha [])).toArray.size := by rw [List.size_toArray, Bs_length, sha_length]; exact info25
  have hzz : (Bs (List.replicate 32 0)).toArray.size = (Bs (sha [])).toArray.size := by rw [List.size_toArray, List.size_toArray, Bs_length, Bs_length, sha_length]; rfl
  have h1 : (Bs (sha [])).toArray.all (·.oneCell') = true := all_oneCell_toArray (Bs_mem _)
  generalize (Bs (sha [])).toArray = cs at *
  have hres := heap_alloc_new w1 (.cells (Bs (List.replicate 32 0)).toArray 25)
  have hrow := fun c => setRow_heap (w1.alloc (.cells c 25)) w1.heap.size c cs 25 (0, 0) (heap_alloc_new w1 _)
  have g0 : ∀ c, ((w1.alloc (.cells c 25)).setRow w1.heap.size cs).cell? ⟨w1.heap.size, 0, none⟩ = some (.int .u8 227) := fun c => by rw [cell_of_row _ _ _ _ _ _ (hrow c)]; exact q0
  have g1 : ∀ c, ((w1.alloc (.cells c 25)).setRow w1.heap.size cs).cell? ⟨w1.heap.size, 1, none⟩ = some (.int .u8 176) := fun c => by rw [cell_of_row _ _ _ _ _ _ (hrow c)]; exact q1
  have g30 : ∀ c, ((w1.alloc (.cells c 25)).setRow w1.heap.size cs).cell? ⟨w1.heap.size, 30, none⟩ = some (.int .u8 184) := fun c => by rw [cell_of_row _ _ _ _ _ _ (hrow c)]; exact q30
  have g31 : ∀ c, ((w1.alloc (.cells c 25)).setRow w1.heap.size cs).cell? ⟨w1.heap.size, 31, none⟩ = some (.int .u8 85) := fun c => by rw [cell_of_row _ _ _ _ _ _ (hrow c)]; exact q31
  have HR := Lib.hid hres; have HI := Lib.hid i25; have HZ := Lib.hid hzz; have H1 := Lib.hid h1
  clear hres i25 hzz h1 hrow q0 q1 q30 q31
  go_wp2_with (refine wpList_store_row rfl 25 (.tmp 1) (.tmp 2) rfl _ _ rfl rfl 25 _ HR.out HI.out HZ.out H1.out ?_)
  go_ret
  exact ⟨rfl, below_setRow (hb1.alloc hb1.size _) hb1.size _⟩
/-- two parts, both nil -/
theorem of_nils (n : Nat) (w : World) (hL : Laid w) (hn : n = w.heap.size) : Calls Tryd.prog 20 #[.slice (some ⟨n, 0, none⟩) 2 2] (w.alloc (.cells #[.slice none 0 0, .slice none 0 0] 22)) fun e w' => e = .returned (.agg (Bs (sha [])).toArray) ∧ Below w.heap.size w w' := by
  subst hn
  have hb1 : Below w.heap.size w (w.alloc (.cells #[.slice none 0 0, .slice none 0 0] 22)) := (Below.refl _ _).alloc (Nat.le_refl _) _
  refine (of_any [[], []] (some ⟨w.heap.size, 0, none⟩) 2 _ (hL.below hb1) ?_ (by simp) (by simp)).mono ?_
  · intro j hj
    have : j = 0 ∨ j = 1 := by simp at hj; omega
    rcases this with rfl | rfl
    · exact ⟨_, rfl, none, 0, by rw [show (⟨w.heap.size, 0, none⟩ : Addr).add 0 = ⟨w.heap.size, 0, none⟩ from rfl, World.cell?_alloc_new]; rfl, by simp, fun j hj => by simp at hj⟩
    · exact ⟨_, rfl, none, 0, by rw [show (⟨w.heap.size, 0, none⟩ : Addr).add 1 = ⟨w.heap.size, 1, none⟩ from rfl, World.cell?_alloc_new]; rfl, by simp, fun j hj => by simp at hj⟩
  · rintro e w' ⟨rfl, h⟩
    exact ⟨by simp, hb1.trans (h.mono hb1.size)⟩

set_option maxHeartbeats 1000000 in
set_option maxRecDepth 100000 in
theorem shaNone_walk (A : Option Addr) (n c : Nat) (w : World) (hL : Laid w) : Calls Tryd.prog 6 #[.slice A n c] w fun e w' => e = .returned (.bool true) ∧ Below w.heap.size w w' := by
  have hq : ∀ w, (binOp .eql 25 (.agg (Bs (sha [])).toArray) (.agg (Bs (sha [])).toArray)).run Tryd.prog w = .ok (.bool true) w := fun w => by rw [eql_sum w _ _ (sha_length _) (sha_length _)]; simp
  have hg := guard25
  go_enter Tryd.func6, Tryd.ntmps6
  go_wp2_with fail
  refine (alive_any _ hL).mono ?_
  rintro e w1 ⟨rfl, hb1⟩
  go_wp2_with fail
  refine (write_nil _ _ _ _).mono ?_
  rintro e w' ⟨rfl, rfl⟩
  go_wp2_with fail
  refine (len_nil _).mono ?_
  rintro e w' ⟨rfl, rfl⟩
  go_wp2_with fail
  refine (sum_nil _ (hL.below hb1)).mono ?_
  rintro e w2 ⟨rfl, hb2⟩
  have hb2 := hb1.trans (hb2.mono hb1.size)
  generalize hcs : (Bs (sha [])).toArray = cs at hq
  have HC := Lib.hid hcs
  clear hcs
  go_wp2_with fail
  refine (of_none _ (hL.below hb2)).mono ?_
  rintro e w3 ⟨rfl, hb3⟩
  have hb3 := hb2.trans (hb3.mono hb2.size)
  rw [HC.out]
  go_wp2_with fail
  refine (of_nils _ _ (hL.below hb3) rfl).mono ?_
  rintro e w4 ⟨rfl, hb4⟩
  have hb4 := hb3.trans (hb4.mono hb3.size)
  rw [HC.out]
  go_wp2_with fail
  refine (of_none _ (hL.below hb4)).mono ?_
  rintro e w5 ⟨rfl, hb5⟩
  have hb5 := hb4.trans (hb5.mono hb4.size)
  rw [HC.out]
  go_wp2_with fail
  go_ret
  exact ⟨rfl, hb5⟩
end Go.Proofs.YtbioclpobmgikaaDoor
