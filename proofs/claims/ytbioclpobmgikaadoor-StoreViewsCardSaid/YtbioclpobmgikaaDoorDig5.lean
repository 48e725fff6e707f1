/- Of which blob a text is the name: the program's walk; errors as numbers. -/
import Derived.Test.YtbioclpobmgikaaDoorDig4
import Derived.Test.YtbioclpobmgikaaDoorLaw03
import Derived.Deep.RegionHeld3
import Derived.Deep.MidRow
namespace Go.Proofs.YtbioclpobmgikaaDoor
open Go.RowKit

/-- one part, wherever the list of it lies -/
theorem of_part (bs : List UInt8) (A : Option Addr) (c n : Nat) (w : World) (hL : Laid w) (hcell : w.cell? ⟨n, 0, none⟩ = some (.slice A bs.length c)) (hc : bs.length ≤ c) (hb : BytesAt w A bs) (hbig : bs.length ≤ 2305843009213693951) :
    Calls Tryd.prog 20 #[.slice (some ⟨n, 0, none⟩) 1 1] w fun e w' => e = .returned (.agg (Bs (sha bs)).toArray) ∧ Below w.heap.size w w' := by
  refine (of_any [bs] (some ⟨n, 0, none⟩) 1 w hL ?_ (by simpa using hbig) (by simp)).mono ?_
  · intro j hj
    have : j = 0 := by simp at hj; exact hj
    subst this
    exact ⟨_, rfl, A, c, hcell, hc, hb⟩
  · rintro e w' ⟨rfl, h⟩
    exact ⟨by simp, h⟩

/-- what a region holds on to: the world below, and an array in a block -/
theorem held_drew {w : World} {B t : Nat} {cs : List Value} (h : w.heap[B]? = some (.cells cs.toArray t)) : Below w.heap.size w w.drew ∧ w.drew.rangeAt B 0 cs :=
  ⟨(Below.refl _ _).drew, fun j v hv => by
    rw [Nat.zero_add, show w.drew.cell? ⟨B, j, none⟩ = w.cell? ⟨B, j, none⟩ from rfl, cell_of_row _ _ _ _ _ _ h, List.getElem?_toArray]
    exact hv⟩
theorem held_alloc {wb W : World} {B : Nat} {cs : List Value} (h : Below wb.heap.size wb W ∧ W.rangeAt B 0 cs) (o : Obj) : Below wb.heap.size wb (W.alloc o) ∧ (W.alloc o).rangeAt B 0 cs :=
  ⟨h.1.alloc h.1.size o, World.rangeAt_alloc h.2 o⟩
theorem held_call {wb W W' : World} {B : Nat} {cs : List Value} (hb : Below W.heap.size W W') (h : Below wb.heap.size wb W ∧ W.rangeAt B 0 cs) : Below wb.heap.size wb W' ∧ W'.rangeAt B 0 cs :=
  ⟨h.1.trans (hb.mono h.1.size), fun j v hv => by
    have hc := h.2 j v hv
    rw [hb.cell (p := ⟨B, 0 + j, none⟩) (World.block_lt_of_cell? W _ hc)]
    exact hc⟩
/-- an error, or none -/
def errV (k : Nat) : Value := if k = 0 then .nilIface else .iface 54 (.int .i64 (k : Int))
/-- which error Verify answers -/
def verifyN (n b : List UInt8) : Nat := match parseL n with | none => 2 | some d => if d = sha b then 0 else 6

theorem run_errno (v : Value) (w : World) : (Instr.typeAssert (.iface 54 v) 46 54 true).run Tryd.prog w = .ok (.tuple #[v, .bool true]) w := by
  simp [Instr.typeAssert, Sem.run_bind, run_underlying Tryd.underlying54]

set_option maxHeartbeats 4000000 in
set_option maxRecDepth 100000 in
theorem num_any (k : Nat) (hk : k < 100) (w : World) :
    Calls Tryd.prog 34 #[errV k] w fun e w' => e = .returned (.int .i64 (k : Int)) ∧ w = w' := by
  unfold errV
  by_cases h0 : k = 0
  · subst h0
    rw [if_pos rfl]
    go_enter Tryd.func34, Tryd.ntmps34
    go_wp2_with fail
    go_ret
    exact ⟨rfl, rfl⟩
  · rw [if_neg h0]
    have hne : ((k : Int) != 0) = true := by rw [bne_iff_ne]; omega
    have hta := run_errno
    go_enter Tryd.func34, Tryd.ntmps34
    go_wp2_with fail
    go_ret
    exact ⟨rfl, rfl⟩

set_option maxHeartbeats 4000000 in
set_option maxRecDepth 100000 in
theorem verify_any (n b : List UInt8) (A : Option Addr) (c : Nat) (w : World) (hL : Laid w) (hby : BytesAt w A b) (hc : b.length ≤ c) (hbig : n.length ≤ 70368744177664) (hb61 : b.length ≤ 2305843009213693951) :
    Calls Tryd.prog 35 #[.string (St n), .slice A b.length c] w fun e w' => e = .returned (errV (verifyN n b)) ∧ Below w.heap.size w w' := by
  have hp := fun w => parse_any n w hbig
  have HP := Lib.hid hp; have HBY := Lib.hid hby
  clear hp hby
  go_enter Tryd.func35, Tryd.ntmps35
  go_wp2_with fail
  refine (HP.out _).mono ?_
  rintro e w1 ⟨hp, hb1⟩
  obtain ⟨d, v, hd, rfl, hm⟩ := parse_sum n e hp
  have hcs : (Bs d).toArray.size = 32 := by rw [List.size_toArray, Bs_length, hd]
  have H1 := Lib.hid (all_oneCell_toArray (Bs_mem d))
  have i25 : (Tryd.prog.info? 25).map (·.size) = some (Bs d).toArray.size := by rw [hcs]; exact info25
  have HI := Lib.hid i25; have HZ := Lib.hid (show (Bs (List.replicate 32 0)).toArray.size = (Bs d).toArray.size by rw [hcs]; rfl)
  have hba : ∀ o, Below w.heap.size w (w1.alloc o) := fun o => hb1.alloc hb1.size _
  have HB := Lib.hid hba; have HM := Lib.hid hm; have HS := Lib.hid hb1.size
  clear hp hcs i25 hb1 hba hm
  cases hpn : parseL n with
  | none =>
    have hm := HM.out
    rw [hpn] at hm
    obtain ⟨_, rfl⟩ := hm
    generalize (Bs d).toArray = cs at *
    go_wp2_with (refine wpList_store_row rfl 25 (.tmp 5) (.tmp 10) rfl _ _ rfl rfl 25 _ (heap_alloc_new w1 _) HI.out HZ.out H1.out ?_)
    go_ret
    exact ⟨by rw [verifyN, hpn]; rfl, below_setRow (HB.out _) HS.out _⟩
  | some p =>
    have hm := HM.out
    rw [hpn] at hm
    obtain ⟨rfl, rfl⟩ := hm
    have hds := fun w => neq_sum w d (sha b) hd (sha_length b)
    have hg := guard25
    go_wp2_with (refine wpList_store_row rfl 25 (.tmp 5) (.tmp 10) rfl _ _ rfl rfl 25 _ (heap_alloc_new w1 _) HI.out HZ.out H1.out ?_)
    have hrow := setRow_heap (w1.alloc (.cells (Bs (List.replicate 32 0)).toArray 25)) w1.heap.size _ (Bs d).toArray 25 (0, 0) (heap_alloc_new w1 _)
    have hbel : Below w.heap.size w ((w1.alloc (.cells (Bs (List.replicate 32 0)).toArray 25)).setRow w1.heap.size (Bs d).toArray) := below_setRow (HB.out _) HS.out _
    have hfold : ((w1.alloc (.cells (Bs (List.replicate 32 0)).toArray 25)).setRow w1.heap.size (Bs d).toArray) = ((w1.alloc (.cells (Bs (List.replicate 32 0)).toArray 25)).setRow w1.heap.size (Bs d).toArray) := rfl
    revert hrow hbel
    generalize hw2 : ((w1.alloc (.cells (Bs (List.replicate 32 0)).toArray 25)).setRow w1.heap.size (Bs d).toArray) = w2
    intro hrow hbel
    have hw2' : ((w1.alloc (.cells #[.int .u8 0, .int .u8 0, .int .u8 0, .int .u8 0, .int .u8 0, .int .u8 0, .int .u8 0, .int .u8 0, .int .u8 0, .int .u8 0, .int .u8 0, .int .u8 0, .int .u8 0, .int .u8 0, .int .u8 0, .int .u8 0, .int .u8 0, .int .u8 0, .int .u8 0, .int .u8 0, .int .u8 0, .int .u8 0, .int .u8 0, .int .u8 0, .int .u8 0, .int .u8 0, .int .u8 0, .int .u8 0, .int .u8 0, .int .u8 0, .int .u8 0, .int .u8 0] 25)).setRow w1.heap.size (Bs d).toArray) = w2 := hw2
    rw [hw2']
    clear hw2' hw2 hfold
    have HROW := Lib.hid hrow
    clear hrow
    have hLW : ∀ W, (Below w2.heap.size w2 W ∧ W.rangeAt w1.heap.size 0 (Bs d)) → Laid W := fun W h => hL.below (hbel.trans (h.1.mono hbel.size))
    have hBW : ∀ W, (Below w2.heap.size w2 W ∧ W.rangeAt w1.heap.size 0 (Bs d)) → BytesAt W A b := fun W h => HBY.out.below (hbel.trans (h.1.mono hbel.size))
    have hu := Tryd.underlying25
    have hi : (Tryd.prog.info? 25).map (·.size) = some (Bs d).length := by rw [Bs_length, hd]; exact info25
    have h0 := held_drew HROW.out
    have HLW := Lib.hid hLW; have HBW := Lib.hid hBW; have H0 := Lib.hid h0
    clear hLW hBW h0
    go_region_held3 (fun w' => Below w2.heap.size w2 w' ∧ w'.rangeAt w1.heap.size 0 (Bs d)) (first | exact H0.out | exact held_alloc (by assumption) _ | exact held_call (by assumption) (by assumption))
      (first | (go_at_call 20; refine (of_part b A c _ _ ?_ ?_ hc ?_ hb61).mono ?_; exact HLW.out _ (by assumption); simp; exact HBW.out _ (by assumption); rintro e w' ⟨rfl, hb'⟩))
    rename_i hheld
    have hfin := hbel.trans (hheld.1.mono hbel.size)
    have HF := Lib.hid hfin
    clear hheld hfin hb' hds HLW HBW H0 hu hi hbel HROW
    by_cases hds : d = sha b
    · have hq : (d == sha b) = true := by rw [beq_iff_eq]; exact hds
      have hv : verifyN n b = 0 := by rw [verifyN, hpn]; exact if_pos hds
      have HV := Lib.hid hv
      clear hv hds
      generalize (Bs d).toArray = c1 at *
      generalize (Bs (sha b)).toArray = c2 at *
      rw [hq]
      go_wp2_with fail
      go_ret
      exact ⟨by rw [HV.out]; rfl, HF.out⟩
    · have hq : (d == sha b) = false := by rw [beq_eq_false_iff_ne]; exact hds
      have hv : verifyN n b = 6 := by rw [verifyN, hpn]; exact if_neg hds
      have HV := Lib.hid hv
      clear hv hds
      generalize (Bs d).toArray = c1 at *
      generalize (Bs (sha b)).toArray = c2 at *
      rw [hq]
      go_wp2_with fail
      go_ret
      exact ⟨by rw [HV.out]; rfl, HF.out⟩

set_option maxHeartbeats 4000000 in
set_option maxRecDepth 100000 in
theorem numIs_any (k : Nat) (m : Int) (hk : k < 100) (w : World) :
    Calls Tryd.prog 40 #[errV k, .int .i64 m] w fun e w' => e = .returned (.bool ((k : Int) == m)) ∧ w = w' := by
  have hn := fun w => num_any k hk w
  have HN := Lib.hid hn
  clear hn
  generalize errV k = v at *
  go_enter Tryd.func40, Tryd.ntmps40
  go_wp2_with fail
  refine (HN.out _).mono ?_
  rintro e w1 ⟨rfl, rfl⟩
  go_wp2_with fail
  go_ret
  exact ⟨rfl, rfl⟩
end Go.Proofs.YtbioclpobmgikaaDoor
