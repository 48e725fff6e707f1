/- What a blob is called, by the document; the laws' fixed fact: walks. -/
import Derived.Test.YtbioclpobmgikaaDoorDig5
import Derived.Test.YtbioclpobmgikaaDoorHex4
import Derived.Test.YtbioclpobmgikaaDoorRef4
namespace Go.Proofs.YtbioclpobmgikaaDoor
open Go.RowKit

theorem run_all24 (w : World) (b : Nat) : (Instr.sliceAt 24 (.pointer (some ⟨b, 0, none⟩)) none none none).run Tryd.prog w = .ok (.slice (some ⟨b, 0, none⟩) 32 32) w := by
  unfold Instr.sliceAt
  simp only [Sem.run_bind, run_underlying Tryd.underlying24]
  simp [Instr.sureAddr, Instr.sliceBounds, Addr.add]

set_option maxHeartbeats 4000000 in
set_option maxRecDepth 100000 in
theorem ref5_any (l : List UInt8) (A : Option Addr) (c : Nat) (w : World) (hby : BytesAt w A l) (hnone : A = none → c = 0) (hbig : l.length ≤ 1000000) :
    Calls Tryd.prog 28 #[.slice A l.length c] w fun e w' => e = .returned (.string (St (nameOf l))) ∧ Below w.heap.size w w' := by
  have h1 := ref_any l A c w hby hnone hbig
  have H1 := Lib.hid h1
  clear h1 hby
  have hal := run_all24
  have hadd := add_name (hexL (sha l)) (by rw [hexL_length, sha_length]; omega)
  have hby2 := fun W b (h : W.heap[b]? = some (.cells (Bs (sha l)).toArray 24)) => hexr_any (sha l) (some ⟨b, 0, none⟩) 32 W (bytes_cells W b 24 _ h) (by rw [sha_length]; omega)
  rw [sha_length] at hby2
  have i24 : (Tryd.prog.info? 24).map (·.size) = some (Bs (sha l)).toArray.size := by rw [List.size_toArray, Bs_length, sha_length]; exact info24
  have hzz : (Bs (List.replicate 32 0)).toArray.size = (Bs (sha l)).toArray.size := by rw [List.size_toArray, List.size_toArray, Bs_length, Bs_length, sha_length]; rfl
  have h1 : (Bs (sha l)).toArray.all (·.oneCell') = true := all_oneCell_toArray (Bs_mem _)
  have HBY2 := Lib.hid hby2; have HI := Lib.hid i24; have HZ := Lib.hid hzz; have HO := Lib.hid h1
  clear hby2 i24 hzz h1
  generalize (Bs (sha l)).toArray = cs at *
  generalize l.length = n at *
  go_enter Tryd.func28, Tryd.ntmps28
  go_wp2_with fail
  refine H1.out.mono ?_
  rintro e w1 ⟨rfl, hb1⟩
  have hrow := fun z => setRow_heap (w1.alloc (.cells z 24)) w1.heap.size _ cs 24 (0, 0) (heap_alloc_new w1 _)
  have hbel := fun z => below_setRow (cs := cs) (hb1.alloc hb1.size (.cells z 24)) hb1.size
  have HROW := Lib.hid hrow; have HBEL := Lib.hid hbel
  clear hrow hbel
  go_wp2_with (refine wpList_store_row rfl 24 (.tmp 3) (.tmp 5) rfl _ _ rfl rfl 24 _ (heap_alloc_new w1 _) HI.out HZ.out HO.out ?_)
  refine (HBY2.out _ _ (HROW.out _)).mono ?_
  rintro e w2 ⟨rfl, hb2⟩
  have hfin := (HBEL.out _).trans (hb2.mono (HBEL.out _).size)
  have HF := Lib.hid hfin
  clear hfin hb2
  go_wp2_with fail
  go_ret
  exact ⟨rfl, HF.out⟩

set_option maxHeartbeats 1000000 in
set_option maxRecDepth 100000 in
theorem chain5_any (a b : List UInt8) (w : World) (hbig : a.length + b.length ≤ 999000) :
    Calls Tryd.prog 32 #[.string (St a), .string (St b)] w fun e w' => e = .returned (.string (St (nameOf (a ++ [32] ++ b)))) ∧ Below w.heap.size w w' := by
  obtain ⟨w1, c, hcv, hb1, hby, hc⟩ := bytes_of_text (a ++ [32] ++ b) w
  have hcv := hcv 9 Tryd.underlying9
  have ha1 := add_blank a (by omega)
  have ha2 := add_St (a ++ [32]) b (by simp; omega)
  have hd := ref5_any _ _ c w1 hby (fun h => by cases h) (by simp; omega)
  have HD := Lib.hid hd
  clear hd hby hc
  generalize a ++ [32] ++ b = q at *
  generalize q.length = n at *
  go_enter Tryd.func32, Tryd.ntmps32
  go_wp2_with fail
  refine HD.out.mono ?_
  rintro e w2 ⟨rfl, hb2⟩
  go_wp2_with fail
  go_ret
  exact ⟨rfl, hb1.trans (hb2.mono hb1.size)⟩

set_option maxHeartbeats 1000000 in
set_option maxRecDepth 100000 in
theorem alive5_any (w : World) (hL : Laid w) : Calls Tryd.prog 26 #[] w fun e w' => e = .returned (.bool true) ∧ Below w.heap.size w w' := by
  have h1 := digOf_any [] none 0 w hL (by simp) (fun j hj => by simp at hj) (by simp)
  have hq : nameOf [] = [115, 104, 97, 50, 53, 54, 58, 101, 51, 98, 48, 99, 52, 52, 50, 57, 56, 102, 99, 49, 99, 49, 52, 57, 97, 102, 98, 102, 52, 99, 56, 57, 57, 54, 102, 98, 57, 50, 52, 50, 55, 97, 101, 52, 49, 101, 52, 54, 52, 57, 98, 57, 51, 52, 99, 97, 52, 57, 53, 57, 57, 49, 98, 55, 56, 53, 50, 98, 56, 53, 53] := by
    unfold nameOf
    rw [sha_empty]
    decide +kernel
  have htl : (St (nameOf [])).toList = [115, 104, 97, 50, 53, 54, 58, 101, 51, 98, 48, 99, 52, 52, 50, 57, 56, 102, 99, 49, 99, 49, 52, 57, 97, 102, 98, 102, 52, 99, 56, 57, 57, 54, 102, 98, 57, 50, 52, 50, 55, 97, 101, 52, 49, 101, 52, 54, 52, 57, 98, 57, 51, 52, 99, 97, 52, 57, 53, 57, 57, 49, 98, 55, 56, 53, 50, 98, 56, 53, 53] := by rw [St_toList, hq]
  have H1 := Lib.hid h1
  clear h1 hq
  go_enter Tryd.func26, Tryd.ntmps26
  go_wp2_with fail
  refine H1.out.mono ?_
  rintro e w1 ⟨rfl, hb1⟩
  go_wp2_with fail
  go_ret
  exact ⟨rfl, hb1⟩
end Go.Proofs.YtbioclpobmgikaaDoor
