/- Which texts are names, and of what: the program's walks. -/
import Derived.Test.YtbioclpobmgikaaDoorDig2
namespace Go.Proofs.YtbioclpobmgikaaDoor
open Go.RowKit

theorem parse_sum (n : List UInt8) (e : Ending) (h : ParseIs n e) : ∃ d : List UInt8, ∃ v, d.length = 32 ∧ e = .returned (.tuple #[.agg (Bs d).toArray, v]) ∧ match parseL n with
    | none => d = List.replicate 32 0 ∧ v = .iface 54 (.int .i64 2)
    | some b => d = b ∧ v = .nilIface := by
  unfold ParseIs at h
  cases hp : parseL n with
  | none => rw [hp] at h; exact ⟨_, _, by simp, h, rfl, rfl⟩
  | some b => rw [hp] at h; exact ⟨_, _, (parse_name n b hp).2, h, rfl, rfl⟩

set_option maxHeartbeats 4000000 in
set_option maxRecDepth 100000 in
theorem is_any (n : List UInt8) (w : World) (hbig : n.length ≤ 70368744177664) :
    Calls Tryd.prog 39 #[.string (St n)] w fun e w' => e = .returned (.bool (isName n)) ∧ Below w.heap.size w w' := by
  have hp := fun w => parse_any n w hbig
  have HP := Lib.hid hp
  clear hp
  rw [← parse_isSome]
  go_enter Tryd.func39, Tryd.ntmps39
  go_wp2_with fail
  refine (HP.out _).mono ?_
  rintro e w1 ⟨hp, hb1⟩
  obtain ⟨d, v, hd, rfl, hm⟩ := parse_sum n e hp
  have hcs : (Bs d).toArray.size = 32 := by rw [List.size_toArray, Bs_length, hd]
  have H1 := Lib.hid (all_oneCell_toArray (Bs_mem d))
  have i25 : (Tryd.prog.info? 25).map (·.size) = some (Bs d).toArray.size := by rw [hcs]; exact info25
  have HI := Lib.hid i25; have HZ := Lib.hid (show (Bs (List.replicate 32 0)).toArray.size = (Bs d).toArray.size by rw [hcs]; rfl)
  have hba : ∀ o, Below w.heap.size w (w1.alloc o) := fun o => hb1.alloc hb1.size _
  have HB := Lib.hid hba; have HM := Lib.hid hm; have HS := Lib.hid hb1.size
  clear hp hd hcs i25 hb1 hba hm
  generalize (Bs d).toArray = cs at *
  cases hpn : parseL n with
  | none =>
    have hm := HM.out
    rw [hpn] at hm
    obtain ⟨_, rfl⟩ := hm
    go_wp2_with (refine wpList_store_row rfl 25 (.tmp 3) (.tmp 8) rfl _ _ rfl rfl 25 _ (heap_alloc_new w1 _) HI.out HZ.out H1.out ?_)
    go_ret
    exact ⟨by rw [hpn]; rfl, below_setRow (HB.out _) HS.out _⟩
  | some b =>
    have hm := HM.out
    rw [hpn] at hm
    obtain ⟨_, rfl⟩ := hm
    go_wp2_with (refine wpList_store_row rfl 25 (.tmp 3) (.tmp 8) rfl _ _ rfl rfl 25 _ (heap_alloc_new w1 _) HI.out HZ.out H1.out ?_)
    go_ret
    exact ⟨by rw [hpn]; rfl, below_setRow (HB.out _) HS.out _⟩

/-- what Short answers, and Long -/
def ShortIs (n : List UInt8) (e : Ending) : Prop := e = .returned (if isName n then .tuple #[.string (St (n.drop 7)), .nilIface] else .tuple #[.string ⟨#[]⟩, .iface 54 (.int .i64 2)])
def LongIs (m : List UInt8) (e : Ending) : Prop := e = .returned (if isName m then .tuple #[.string (St m), .nilIface] else .tuple #[.string ⟨#[]⟩, .iface 54 (.int .i64 2)])
theorem name_len (n : List UInt8) (h : isName n = true) : n.length = 71 := by
  unfold isName at h
  rw [Bool.and_eq_true, beq_iff_eq] at h
  exact h.1
theorem run_rest7 (n : List UInt8) (h : 7 ≤ n.length) (w : World) : (Instr.slice 9 (.string (St n)) (some (.int .i64 7)) none none).run Tryd.prog w = .ok (.string (St (n.drop 7))) w := by
  rw [run_slice_string_from_if w 9 _ _ _ Tryd.underlying9]
  rw [if_pos (by rw [St_size]; omega), St_size]
  congr 2
  apply ByteArray.ext
  simp [St]
  rw [List.take_of_length_le (by simp)]

set_option maxHeartbeats 4000000 in
set_option maxRecDepth 100000 in
theorem short_any (n : List UInt8) (w : World) (hbig : n.length ≤ 70368744177664) :
    Calls Tryd.prog 37 #[.string (St n)] w fun e w' => ShortIs n e ∧ Below w.heap.size w w' := by
  have hp := fun w => is_any n w hbig
  have HP := Lib.hid hp
  clear hp
  go_enter Tryd.func37, Tryd.ntmps37
  go_wp2_with fail
  refine (HP.out _).mono ?_
  rintro e w1 ⟨rfl, hb1⟩
  cases hn : isName n with
  | false =>
    go_wp2_with fail
    go_ret2
    exact ⟨by rw [ShortIs, hn]; rfl, hb1⟩
  | true =>
    have hr := run_rest7 n (by rw [name_len n hn]; omega)
    go_wp2_with fail
    go_ret2
    exact ⟨by rw [ShortIs, hn]; rfl, hb1⟩

set_option maxHeartbeats 4000000 in
set_option maxRecDepth 100000 in
theorem long_any (n : List UInt8) (w : World) (hbig : n.length ≤ 70368744170000) :
    Calls Tryd.prog 38 #[.string (St n)] w fun e w' => LongIs (nameP ++ n) e ∧ Below w.heap.size w w' := by
  have hp := fun w => is_any (nameP ++ n) w (by simp [nameP]; omega)
  have HP := Lib.hid hp
  have hadd := add_name n (by omega)
  clear hp
  generalize hm : nameP ++ n = m at *
  go_enter Tryd.func38, Tryd.ntmps38
  go_wp2_with fail
  refine (HP.out _).mono ?_
  rintro e w1 ⟨rfl, hb1⟩
  cases hn : isName m with
  | false =>
    go_wp2_with fail
    go_ret2
    exact ⟨by rw [LongIs, hn]; rfl, hb1⟩
  | true =>
    go_wp2_with fail
    go_ret2
    exact ⟨by rw [LongIs, hn]; rfl, hb1⟩
end Go.Proofs.YtbioclpobmgikaaDoor
