/- The digest of parts, one behind the other. -/
import Derived.Test.YtbioclpobmgikaaDoorSha5
namespace Go.Proofs.YtbioclpobmgikaaDoor
open Go.RowKit

/-- a slice's slices of bytes -/
def PartsAt (w : World) (A : Option Addr) (ps : List (List UInt8)) : Prop :=
  ∀ j, j < ps.length → ∃ a, A = some a ∧ ∃ A' c', w.cell? (a.add j) = some (.slice A' (ps.getD j []).length c') ∧ (ps.getD j []).length ≤ c' ∧ BytesAt w A' (ps.getD j [])

/-- those that are nil have no room -/
def PartsNil (w : World) (A : Option Addr) (n : Nat) : Prop := ∀ j, j < n → ∀ a, A = some a → ∀ l c', w.cell? (a.add j) = some (.slice none l c') → c' = 0

theorem BytesAt.below {w w' : World} {A : Option Addr} {l : List UInt8} (h : BytesAt w A l) (hb : Below w.heap.size w w') : BytesAt w' A l := fun j hj => by
  obtain ⟨a, rfl, hc⟩ := h j hj
  exact ⟨a, rfl, (hb.cell (p := a.add j) (World.block_lt_of_cell? w _ hc)).trans hc⟩
theorem BytesAt.notIn {w : World} {A : Option Addr} {l : List UInt8} {hb : Nat} (h : BytesAt w A l) (hle : w.heap.size ≤ hb) (hp : 0 < l.length) : NotIn A hb := fun a ha => by
  obtain ⟨a', ha', hc⟩ := h 0 hp
  obtain rfl : a = a' := Option.some.inj (ha.symm.trans ha')
  have := World.block_lt_of_cell? w _ hc
  rw [add_block] at this
  omega

theorem flatten_take (ps : List (List UInt8)) (k : Nat) (h : k < ps.length) : (ps.take (k + 1)).flatten = (ps.take k).flatten ++ ps.getD k [] := by
  rw [List.take_add_one, List.flatten_append]
  simp [h]
theorem flatten_le (ps : List (List UInt8)) (k : Nat) : (ps.take k).flatten.length ≤ ps.flatten.length := by
  conv => rhs; rw [← List.take_append_drop k ps]
  rw [List.flatten_append, List.length_append]
  omega

set_option maxHeartbeats 1000000 in
set_option maxRecDepth 100000 in
theorem of_any (ps : List (List UInt8)) (A : Option Addr) (c : Nat) (w : World) (hL : Laid w) (hps : PartsAt w A ps) (hbig : ps.flatten.length ≤ 2305843009213693951) (hm : ps.length ≤ 4611686018427387904) :
    Calls Tryd.prog 20 #[.slice A ps.length c] w fun e w' => e = .returned (.agg (Bs (sha ps.flatten)).toArray) ∧ Below w.heap.size w w' := by
  have HP := Lib.hid hps
  clear hps
  have hL1 : Hid (∀ o, Laid (w.alloc o)) := fun o => hL.below ((Below.refl _ _).alloc (Nat.le_refl _) o)
  go_enter Tryd.func20, Tryd.ntmps20
  go_wp2_with (go_at_call 22; refine (new_any _ (hL1.out _)).mono ?_; rintro e w1 ⟨rfl, hh, hb1⟩)
  have hs : SumAt w w1 [] := by
    have hz : w.heap.size < (w.alloc (.cells (Bs (List.replicate 32 0)).toArray 25)).heap.size := by simp
    refine ⟨((Below.refl _ _).alloc (Nat.le_refl _) _).trans (hb1.mono (Nat.le_of_lt hz)), ?_, (hb1.block _ hz).trans (heap_alloc_new w _)⟩
    have e : (w.alloc (.cells (Bs (List.replicate 32 0)).toArray 25)).heap.size = w.heap.size + 1 := by simp
    rw [← e]
    exact hh
  clear hh hb1 hL1
  have hsz := hL.size
  go_loopw [9, 5] (fun i _ wr => ∃ k : Nat, k ≤ ps.length ∧ i = .int .i64 k ∧ SumAt w wr (ps.take k).flatten) (fun i _ _ => ps.length - (intOf i).toNat)
  case atStart => exact ⟨0, by omega, rfl, by simpa using hs⟩
  case round =>
    clear hs
    obtain ⟨k, hk, rfl, hs⟩ := hrel
    by_cases hlt : k < ps.length
    · obtain ⟨a, rfl, A', c', hcell, hc', hby⟩ := HP.out k hlt
      have g : wr.cell? (a.add k) = some (.slice A' (ps.getD k []).length c') := (hs.below.cell (p := a.add k) (World.block_lt_of_cell? w _ hcell)).trans hcell
      have hfl := flatten_le ps (k + 1)
      have hft := flatten_take ps k hlt
      rw [hft] at hfl
      rw [List.length_append] at hfl
      have HFT := Lib.hid hft
      clear hft hcell
      generalize ps.getD k [] = bs at *
      generalize hln : ps.length = n at *
      clear hln
      have hlts : w.heap.size + 1 < wr.heap.size := by obtain ⟨_, _, _, hr⟩ := hs.hash; exact (Array.getElem?_eq_some_iff.1 hr).1
      go_wp2_with fail
      refine (write_any (w.heap.size + 1) (ps.take k).flatten bs A' c' wr (hL.below hs.below) hs.hash (by omega) (hby.below hs.below) (fun hp => hby.notIn (by omega) hp) hc' (by omega)).mono ?_
      rintro e w2 ⟨rfl, hh2, hg2⟩
      go_wp2_with fail
      go_roundw
      case rel => exact ⟨k + 1, by omega, by go_num, by rw [HFT.out]; exact hs.next (Below.refl _ _) hg2 hh2⟩
      case measure => simp [intOf]; omega
    · obtain rfl : k = ps.length := by omega
      rw [List.take_length] at hs
      clear hk hlt
      generalize hln : ps.length = n at *
      clear hln
      go_wp2_with fail
      refine (sum_any (w.heap.size + 1) ps.flatten _ (hL.below hs.below) hs.hash hbig).mono ?_
      rintro e w2 ⟨rfl, hb2⟩
      have hres := (hb2.block _ (Array.getElem?_eq_some_iff.1 hs.res).1).trans hs.res
      have hbel := hs.below.trans (hb2.mono hs.below.size)
      have i25 : (Tryd.prog.info? 25).map (·.size) = some (Bs (sha ps.flatten)).toArray.size := by rw [List.size_toArray, Bs_length, sha_length]; exact info25
      have hzz : (Bs (List.replicate 32 0)).toArray.size = (Bs (sha ps.flatten)).toArray.size := by rw [List.size_toArray, List.size_toArray, Bs_length, Bs_length, sha_length]; rfl
      have h1 : (Bs (sha ps.flatten)).toArray.all (·.oneCell') = true := all_oneCell_toArray (Bs_mem _)
      clear hs hb2
      generalize hcs : (Bs (sha ps.flatten)).toArray = cs at *
      have HC := Lib.hid hcs
      clear hcs
      generalize (Bs (List.replicate 32 0)).toArray = zs at *
      have HR := Lib.hid hres; have HI := Lib.hid i25; have HZ := Lib.hid hzz; have H1 := Lib.hid h1
      clear hres i25 hzz h1
      go_wp2_with (refine wpList_store_row rfl 25 (.tmp 2) (.tmp 18) rfl _ _ rfl rfl 25 _ HR.out HI.out HZ.out H1.out ?_)
      have hrow := setRow_heap w2 w.heap.size zs cs 25 (0, 0) HR.out
      exact bodyPost_ret (v := .agg cs) (results_cell_row rfl _ _ w.heap.size 25 cs (0, 0) _ rfl hrow Tryd.underlying25 rfl HI.out) rfl ⟨by rw [HC.out], below_setRow hbel (Nat.le_refl _) _⟩

/-- no parts -/
theorem of_none (w : World) (hL : Laid w) : Calls Tryd.prog 20 #[.slice none 0 0] w fun e w' => e = .returned (.agg (Bs (sha [])).toArray) ∧ Below w.heap.size w w' :=
  of_any [] none 0 w hL (fun j hj => by simp at hj) (by simp) (by simp)
/-- one part -/
theorem of_one (bs : List UInt8) (A : Option Addr) (c n : Nat) (w : World) (hL : Laid w) (hn : n = w.heap.size) (hc : bs.length ≤ c) (hb : BytesAt w A bs) (hbig : bs.length ≤ 2305843009213693951) :
    Calls Tryd.prog 20 #[.slice (some ⟨n, 0, none⟩) 1 1] (w.alloc (.cells #[.slice A bs.length c] 22)) fun e w' => e = .returned (.agg (Bs (sha bs)).toArray) ∧ Below w.heap.size w w' := by
  subst hn
  have hb1 : Below w.heap.size w (w.alloc (.cells #[.slice A bs.length c] 22)) := (Below.refl _ _).alloc (Nat.le_refl _) _
  refine (of_any [bs] (some ⟨w.heap.size, 0, none⟩) 1 _ (hL.below hb1) ?_ (by simpa using hbig) (by simp)).mono ?_
  · intro j hj
    have : j = 0 := by simp at hj; exact hj
    subst this
    exact ⟨_, rfl, A, c, by rw [show (⟨w.heap.size, 0, none⟩ : Addr).add 0 = ⟨w.heap.size, 0, none⟩ from rfl, World.cell?_alloc_new]; rfl, hc, hb.below hb1⟩
  · rintro e w' ⟨rfl, h⟩
    exact ⟨by simp, hb1.trans (h.mono hb1.size)⟩

set_option maxHeartbeats 1000000 in
set_option maxRecDepth 100000 in
/-- a nil hash's digest -/
theorem sum_nil (w : World) (hL : Laid w) : Calls Tryd.prog 25 #[.pointer none] w fun e w' => e = .returned (.agg (Bs (sha [])).toArray) ∧ Below w.heap.size w w' := by
  have hb1 : Below w.heap.size w (w.alloc (.cells (Bs (List.replicate 32 0)).toArray 25)) := (Below.refl _ _).alloc (Nat.le_refl _) _
  have hL1 := hL.below hb1
  go_enter Tryd.func25, Tryd.ntmps25
  go_wp2_with fail
  refine (of_none _ hL1).mono ?_
  rintro e w2 ⟨rfl, hb2⟩
  have hres : w2.heap[w.heap.size]? = some (.cells (Bs (List.replicate 32 0)).toArray 25) := (hb2.block _ (by simp)).trans (heap_alloc_new w _)
  have hbel := hb1.trans (hb2.mono hb1.size)
  have i25 : (Tryd.prog.info? 25).map (·.size) = some (Bs (sha [])).toArray.size := by rw [List.size_toArray, Bs_length, sha_length]; exact info25
  have hzz : (Bs (List.replicate 32 0)).toArray.size = (Bs (sha [])).toArray.size := by rw [List.size_toArray, List.size_toArray, Bs_length, Bs_length, sha_length]; rfl
  have h1 : (Bs (sha [])).toArray.all (·.oneCell') = true := all_oneCell_toArray (Bs_mem _)
  clear hb2 hb1 hL1
  generalize hcs : (Bs (sha [])).toArray = cs at *
  have HC := Lib.hid hcs
  clear hcs
  generalize (Bs (List.replicate 32 0)).toArray = zs at *
  have HR := Lib.hid hres; have HI := Lib.hid i25; have HZ := Lib.hid hzz; have H1 := Lib.hid h1
  clear hres i25 hzz h1
  go_wp2_with (refine wpList_store_row rfl 25 (.tmp 2) (.tmp 11) rfl _ _ rfl rfl 25 _ HR.out HI.out HZ.out H1.out ?_)
  have hrow := setRow_heap w2 w.heap.size zs cs 25 (0, 0) HR.out
  exact bodyPost_ret (v := .agg cs) (results_cell_row rfl _ _ w.heap.size 25 cs (0, 0) _ rfl hrow Tryd.underlying25 rfl HI.out) rfl ⟨by rw [HC.out], below_setRow hbel (Nat.le_refl _) _⟩
end Go.Proofs.YtbioclpobmgikaaDoor
