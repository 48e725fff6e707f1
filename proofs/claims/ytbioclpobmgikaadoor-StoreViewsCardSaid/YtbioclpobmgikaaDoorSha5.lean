/- A hash's digest. -/
import Derived.Test.YtbioclpobmgikaaDoorSha4
import Derived.Deep.LoopGhost
namespace Go.Proofs.YtbioclpobmgikaaDoor
open Go.RowKit

theorem info25 : (Tryd.prog.info? 25).map (·.size) = some 32 := by kernel_rfl
theorem info118 : (Tryd.prog.info? 118).map (·.size) = some 73 := by kernel_rfl
theorem Laid.below {w w' : World} (h : Laid w) (hb : Below w.heap.size w w') : Laid w' :=
  ⟨fun j hj => (hb.cell (p := ⟨1, j, none⟩) (World.block_lt_of_cell? w _ (h.k j hj))).trans (h.k j hj), fun j hj => (hb.cell (p := ⟨0, j, none⟩) (World.block_lt_of_cell? w _ (h.s j hj))).trans (h.s j hj)⟩
theorem Laid.size {w : World} (h : Laid w) : 2 ≤ w.heap.size := by have := World.block_lt_of_cell? w _ (h.k 0 (by omega)); simp at this; omega

/-- of the digest's making: the copy in block B1 has taken t -/
structure SumAt (w wr : World) (t : List UInt8) : Prop where
  below : Below w.heap.size w wr
  hash : HashAt wr (w.heap.size + 1) t
  res : wr.heap[w.heap.size]? = some (.cells (Bs (List.replicate 32 0)).toArray 25)
theorem SumAt.next {w wr w1 w2 : World} {t u : List UInt8} (h : SumAt w wr t) (h1 : Below wr.heap.size wr w1) (h2 : w1.grownBy w2 (some (w.heap.size + 1))) (hh : HashAt w2 (w.heap.size + 1) u) : SumAt w w2 u := by
  have hs := (Array.getElem?_eq_some_iff.1 h.res).1
  have hle := h1.size
  refine ⟨(h.below.trans (h1.mono h.below.size)).grown h2 (by have := h.below.size; omega) (fun k hk => by cases hk; omega), hh, ?_⟩
  rw [h2.block _ (by omega) (by simp), h1.block _ hs]
  exact h.res

theorem SumAt.start {w : World} {l : List UInt8} {s : S8} {held : List UInt8} (hrep : Rep l s held) :
    SumAt w (((w.alloc (.cells (Bs (List.replicate 32 0)).toArray 25)).alloc (.cells Tryd.zeroCells118 118)).setRow (w.heap.size + 1) (hcells s held l.length).toArray) l := by
  have hnew := heap_alloc2_new w (.cells (Bs (List.replicate 32 0)).toArray 25) (.cells Tryd.zeroCells118 118)
  refine ⟨below_setRow (((Below.refl _ _).alloc (Nat.le_refl _) _).alloc (by simp) _) (by omega) _, ⟨s, held, hrep, setRow_heap _ _ _ _ _ (0, 0) hnew⟩, ?_⟩
  rw [setRow_other _ _ _ _ (by omega)]
  exact heap_alloc2_old w _ _
theorem SumAt.count {w wr : World} {t : List UInt8} (h : SumAt w wr t) : wr.cell? ⟨w.heap.size + 1, 72, none⟩ = some (.int .i64 ((t.length : Nat) : Int)) := by
  obtain ⟨s, held, hrep, hrow⟩ := h.hash
  rw [cell_of_row _ _ _ _ _ _ hrow, List.getElem?_toArray]
  exact hcells_n s held _ hrep.len
theorem len8_at (n k : Nat) (h : k < 8) : (len8 n).take (k + 1) = (len8 n).take k ++ [UInt8.ofNat (n * 8 / 2 ^ (56 - 8 * k))] := by
  rw [List.take_add_one]
  simp [len8, h]
theorem len8_byte (n k : Nat) : (n : Int) * 8 / 2 ^ (56 - 8 * k) % 256 = ((UInt8.ofNat (n * 8 / 2 ^ (56 - 8 * k))).toNat : Int) := by
  simp
theorem len8_length (n : Nat) : (len8 n).length = 8 := by simp [len8]
/-- one byte is written -/
theorem write1 (w wr : World) (t : List UInt8) (x : UInt8) (v : Int) (n : Nat) (hL : Laid w) (h : SumAt w wr t) (hv : v = (x.toNat : Int)) (hn : n = wr.heap.size) (hbig : t.length ≤ 2305843009213694951) :
    Calls Tryd.prog 23 #[.pointer (some ⟨w.heap.size + 1, 0, none⟩), .slice (some ⟨n, 0, none⟩) 1 1] (wr.alloc (.cells #[.int .u8 v] 5)) fun e w' => e = .returned (.int .i64 ((t.length + 1 : Nat) : Int)) ∧ SumAt w w' (t ++ [x]) := by
  subst hv hn
  have hs := hL.size
  have hlt : w.heap.size + 1 < wr.heap.size := by obtain ⟨_, _, _, hr⟩ := h.hash; exact (Array.getElem?_eq_some_iff.1 hr).1
  have hb1 : Below wr.heap.size wr (wr.alloc (.cells #[.int .u8 (x.toNat : Int)] 5)) := (Below.refl _ _).alloc (Nat.le_refl _) _
  have hL1 : Laid (wr.alloc (.cells #[.int .u8 (x.toNat : Int)] 5)) := (hL.below h.below).below hb1
  refine (write_any (w.heap.size + 1) t [x] (some ⟨wr.heap.size, 0, none⟩) 1 _ hL1 (h.hash.of_block (hb1.block _ hlt)) (by omega) ?_ ?_ (by simp) (by simp; omega)).mono ?_
  · intro j hj
    have : j = 0 := by simp at hj; exact hj
    subst this
    refine ⟨_, rfl, ?_⟩
    rw [show (⟨wr.heap.size, 0, none⟩ : Addr).add 0 = ⟨wr.heap.size, 0, none⟩ from rfl, World.cell?_alloc_new]
    rfl
  · intro _ a ha
    obtain rfl := Option.some.inj ha
    simp; omega
  · rintro e w' ⟨rfl, hh, hg⟩
    exact ⟨rfl, h.next hb1 hg hh⟩

/-- the digest's bytes, of k numbers laid -/
def outz (s : S8) (k : Nat) : List UInt8 := (s.l.take k).flatMap out4 ++ List.replicate (32 - 4 * k) 0
structure OutAt (w w3 : World) (n3 : Nat) (s : S8) (k : Nat) : Prop where
  below : Below w.heap.size w w3
  res : w3.heap[w.heap.size]? = some (.cells (Bs (List.replicate 32 0)).toArray 25)
  out : w3.heap[n3]? = some (.cells (Bs (outz s k)).toArray 25)
  le : w.heap.size ≤ n3
  lt : w.heap.size < n3

theorem outz_length (s : S8) (k : Nat) (h : k ≤ 8) : (outz s k).length = 32 := by
  obtain rfl | rfl | rfl | rfl | rfl | rfl | rfl | rfl | rfl : k = 0 ∨ k = 1 ∨ k = 2 ∨ k = 3 ∨ k = 4 ∨ k = 5 ∨ k = 6 ∨ k = 7 ∨ k = 8 := by omega
  all_goals rfl
theorem outz_full (s : S8) : outz s 8 = s.out := by simp [outz, S8.out, S8.l]
theorem byte_of (n : Nat) : ((n : Nat) : Int) % 256 = ((UInt8.ofNat n).toNat : Int) := by simp
theorem out_set (s : S8) (k : Nat) (h : k < 8) :
    ((((Bs (outz s k)).set (4 * k) (.int .u8 (((at32 s.l k).toNat : Int) / 16777216 % 256))).set (4 * k + 1) (.int .u8 (((at32 s.l k).toNat : Int) / 65536 % 256))).set (4 * k + 2) (.int .u8 (((at32 s.l k).toNat : Int) / 256 % 256))).set (4 * k + 3)
      (.int .u8 (((at32 s.l k).toNat : Int) % 256)) = Bs (outz s (k + 1)) := by
  rw [show ((at32 s.l k).toNat : Int) / 16777216 = (((at32 s.l k).toNat / 16777216 : Nat) : Int) by simp, show ((at32 s.l k).toNat : Int) / 65536 = (((at32 s.l k).toNat / 65536 : Nat) : Int) by simp, show ((at32 s.l k).toNat : Int) / 256 = (((at32 s.l k).toNat / 256 : Nat) : Int) by simp,
    byte_of, byte_of, byte_of, byte_of]
  obtain rfl | rfl | rfl | rfl | rfl | rfl | rfl | rfl : k = 0 ∨ k = 1 ∨ k = 2 ∨ k = 3 ∨ k = 4 ∨ k = 5 ∨ k = 6 ∨ k = 7 := by omega
  all_goals rfl
theorem OutAt.set {w w3 : World} {n3 : Nat} {s : S8} {k : Nat} (h : OutAt w w3 n3 s k) (hk : k < 8) :
    OutAt w ((((w3.setCell ⟨n3, 4 * k, none⟩ (.int .u8 (((at32 s.l k).toNat : Int) / 16777216))).setCell ⟨n3, 4 * k + 1, none⟩ (.int .u8 (((at32 s.l k).toNat : Int) / 65536 % 256))).setCell ⟨n3, 4 * k + 2, none⟩ (.int .u8 (((at32 s.l k).toNat : Int) / 256 % 256))).setCell ⟨n3, 4 * k + 3, none⟩
      (.int .u8 (((at32 s.l k).toNat : Int) % 256))) n3 s (k + 1) := by
  have hlt := h.lt
  have etop : ((at32 s.l k).toNat : Int) / 16777216 = ((at32 s.l k).toNat : Int) / 16777216 % 256 := by have := (at32 s.l k).isLt; omega
  rw [etop]
  refine ⟨(((h.below.setCell h.le _).setCell h.le _).setCell h.le _).setCell h.le _, ?_, ?_, h.le, h.lt⟩
  · rw [heap_setCell_other _ _ _ _ (by simp; omega), heap_setCell_other _ _ _ _ (by simp; omega), heap_setCell_other _ _ _ _ (by simp; omega), heap_setCell_other _ _ _ _ (by simp; omega)]
    exact h.res
  · rw [heap_setCell_same _ _ _ _ _ _ (heap_setCell_same _ _ _ _ _ _ (heap_setCell_same _ _ _ _ _ _ (heap_setCell_same _ _ _ _ _ _ h.out)))]
    rw [List.setIfInBounds_toArray, List.setIfInBounds_toArray, List.setIfInBounds_toArray, List.setIfInBounds_toArray, out_set _ _ hk]
theorem mul8 (k : Nat) (h : k < 8) : IntKind.i64.wrap (4 * (k : Int)) = 4 * (k : Int) ∧ (4 * (k : Int)).toNat = 4 * k ∧ 0 ≤ 4 * (k : Int) ∧ 4 * (k : Int) < 32 :=
  ⟨IntWalk.i64_in _ (by omega), by omega, by omega, by omega⟩
theorem mul8a (k j : Nat) (i : Int) (hi : i = j) (h : k < 8) (hj : j < 4) : IntKind.i64.wrap (4 * (k : Int) + i) = 4 * (k : Int) + i ∧ (4 * (k : Int) + i).toNat = 4 * k + j ∧ 0 ≤ 4 * (k : Int) + i ∧ 4 * (k : Int) + i < 32 :=
  ⟨IntWalk.i64_in _ (by omega), by omega, by omega, by omega⟩

set_option maxHeartbeats 2000000 in
set_option maxRecDepth 100000 in
theorem sum_any (hb : Nat) (l : List UInt8) (w : World) (hL : Laid w) (hh : HashAt w hb l) (hbig : l.length ≤ 2305843009213693951) :
    Calls Tryd.prog 25 #[.pointer (some ⟨hb, 0, none⟩)] w fun e w' => e = .returned (.agg (Bs (sha l)).toArray) ∧ Below w.heap.size w w' := by
  obtain ⟨s, held, hrep, hrow⟩ := hh
  have hlt : hb < w.heap.size := (Array.getElem?_eq_some_iff.1 hrow).1
  have hcl := hcells_length s held l.length hrep.len
  have i118 : (Tryd.prog.info? 118).map (·.size) = some (hcells s held l.length).toArray.size := by rw [List.size_toArray, hcl]; exact info118
  have hz : Tryd.zeroCells118.size = (hcells s held l.length).toArray.size := by rw [show (hcells s held l.length).toArray.size = (hcells s held l.length).length from rfl, hcl]; rfl
  have h1 : (hcells s held l.length).toArray.all (·.oneCell') = true := all_oneCell_toArray (by
    intro v hv
    simp only [hcells, List.mem_append] at hv
    rcases hv with hv | hv | hv
    · exact U_mem _ v hv
    · exact Bs_mem _ v hv
    · simp at hv; subst hv; rfl)
  have hn72 : ∀ o1 o2 c, (((w.alloc o1).alloc o2).setRow (w.heap.size + 1) c).cell? ⟨hb, 72, none⟩ = some (.int .i64 (l.length : Int)) := fun o1 o2 c => by
    have e : (((w.alloc o1).alloc o2).setRow (w.heap.size + 1) c).heap[hb]? = w.heap[hb]? := by
      rw [setRow_other _ _ _ _ (by omega), Below.heap_alloc _ _ _ (by simp; omega), Below.heap_alloc _ _ _ hlt]
    rw [cell_of_row _ _ _ _ _ _ (e.trans hrow)]
    simpa using hcells_n s held l.length hrep.len
  have HRow := Lib.hid hrow; have HI := Lib.hid i118; have HZ := Lib.hid hz; have H1 := Lib.hid h1
  clear hcl i118 hz h1 hrow
  have hnew := heap_alloc2_new w (.cells (Bs (List.replicate 32 0)).toArray 25) (.cells Tryd.zeroCells118 118)
  have hold : ∀ o, (w.alloc o).heap[hb]? = w.heap[hb]? := fun o => Below.heap_alloc w o _ hlt
  have HN := Lib.hid hnew; have HO := Lib.hid hold
  clear hnew hold
  go_enter Tryd.func25, Tryd.ntmps25
  go_wp2_with (first
    | refine wpList_load_row rfl 118 (.tmp 13) rfl hb rfl 118 _ (0, 0) _ ((HO.out _).trans HRow.out) Tryd.underlying118 rfl HI.out ?_
    | refine wpList_store_row rfl 118 (.tmp 3) (.tmp 14) rfl _ _ rfl rfl 118 _ HN.out HI.out HZ.out H1.out ?_)
  have hst := SumAt.start (w := w) hrep
  refine (write1 w _ l 128 _ _ hL hst rfl (by simp) (by omega)).mono ?_
  rintro e w1 ⟨rfl, hs1⟩
  clear hst HRow HI HZ H1 HN HO hn72
  go_wp2_with fail
  go_loopg [28] (zpad l.length) (fun g _ wr => ∃ j, j + g = zpad l.length ∧ SumAt w wr (l ++ [128] ++ List.replicate j 0))
  case atStart => exact ⟨0, by omega, by simpa using hs1⟩
  case round =>
    clear hs1
    obtain ⟨j, hj, hs⟩ := hrel
    have hz := zpad_spec l.length
    have hzl : zpad l.length < 64 := by unfold zpad; omega
    have hlen : (l ++ [128] ++ List.replicate j 0).length = l.length + 1 + j := by simp; omega
    have gn := hs.count
    rw [hlen] at gn
    by_cases hg : gk = 0
    · have ht : (((l.length + 1 + j : Nat) : Int) % 64 != 56) = false := by
        subst hg
        rw [bne_eq_false_iff_eq]
        omega
      obtain rfl : j = zpad l.length := by omega
      clear hlen hj hg hz
      generalize l.length + 1 + zpad l.length = n at gn ht
      go_wp2_with fail
      clear gn ht
      go_loopw [29, 5] (fun i _ wr => ∃ k : Nat, k ≤ 8 ∧ i = .int .i64 k ∧ SumAt w wr (l ++ [128] ++ List.replicate (zpad l.length) 0 ++ (len8 l.length).take k)) (fun i _ _ => 8 - (intOf i).toNat)
      case atStart => exact ⟨0, by omega, rfl, by simpa using hs⟩
      case round =>
        clear hs
        obtain ⟨k, hk, rfl, hs⟩ := hrel
        by_cases hlt : k < 8
        · have e0 : IntKind.i64.wrap (56 - 8 * (k : Int)) = 56 - 8 * (k : Int) := IntWalk.i64_in _ (by omega)
          have e1 : (56 - 8 * (k : Int)).toNat = 56 - 8 * k := by omega
          have e2 : 8 * (k : Int) ≤ 56 := by omega
          go_wp2_with fail
          refine (write1 w wr _ (UInt8.ofNat (l.length * 8 / 2 ^ (56 - 8 * k))) _ _ hL hs (len8_byte _ _) rfl (by simp; omega)).mono ?_
          rintro e w2 ⟨rfl, hs2⟩
          clear e0 e1 e2
          go_wp2_with fail
          go_roundw
          case rel => exact ⟨k + 1, by omega, by go_num, by rw [len8_at _ _ hlt, ← List.append_assoc]; exact hs2⟩
          case measure => simp [intOf]; omega
        · obtain rfl : k = 8 := by omega
          rw [show ((8 : Nat) : Int) = 8 from rfl]
          have hpad : l ++ [128] ++ List.replicate (zpad l.length) 0 ++ (len8 l.length).take 8 = pad l := by
            rw [List.take_of_length_le (by rw [len8_length]; omega)]
            simp [pad]
          rw [hpad] at hs
          clear hpad hlt hk
          obtain ⟨s2, held2, hrep2, hrow2⟩ := hs.hash
          have hst := hrep2.st
          have hbel := hs.below
          have hres := hs.res
          clear hs hrep2
          have HST := Lib.hid hst
          clear hst
          obtain ⟨x0, x1, x2, x3, x4, x5, x6, x7⟩ := s2
          have hB1 : w.heap.size + 1 < wr.heap.size := (Array.getElem?_eq_some_iff.1 hrow2).1
          obtain ⟨c0, c1, c2, c3, c4, c5, c6, c7⟩ := x_cells hrow2
          go_wp2_with fail
          have ho : OutAt w (wr.alloc (.cells (Bs (List.replicate 32 0)).toArray 25)) wr.heap.size ⟨x0, x1, x2, x3, x4, x5, x6, x7⟩ 0 :=
            ⟨hbel.alloc hbel.size _, by rw [Below.heap_alloc _ _ _ (Array.getElem?_eq_some_iff.1 hres).1]; exact hres, heap_alloc_new wr _, hbel.size, by omega⟩
          clear c0 c1 c2 c3 c4 c5 c6 c7 hrow2 hbel hres hB1
          generalize hn3 : wr.heap.size = n3 at *
          clear hn3
          go_loopw [43, 7, 8] (fun i _ _ w3 => ∃ k : Nat, k ≤ 8 ∧ i = .int .i64 k ∧ OutAt w w3 n3 ⟨x0, x1, x2, x3, x4, x5, x6, x7⟩ k) (fun i _ _ _ => 8 - (intOf i).toNat)
          case atStart => exact ⟨0, by omega, rfl, ho⟩
          case round =>
            clear ho
            obtain ⟨k, hk, rfl, ho⟩ := hrel
            by_cases hlt : k < 8
            · have hix : ∀ w', (Instr.index 115 (.agg #[.int .u32 (x0.toNat : Int), .int .u32 (x1.toNat : Int), .int .u32 (x2.toNat : Int), .int .u32 (x3.toNat : Int), .int .u32 (x4.toNat : Int), .int .u32 (x5.toNat : Int), .int .u32 (x6.toNat : Int), .int .u32 (x7.toNat : Int)]) (.int .i64 (k : Int))).run Tryd.prog w' =
                  .ok (.int .u32 ((at32 (S8.l ⟨x0, x1, x2, x3, x4, x5, x6, x7⟩) k).toNat : Int)) w' := fun w' =>
                run_index_arr w' 115 108 8 .u32 _ k _ Tryd.underlying115 Tryd.underlying108 (by kernel_rfl) hlt (by simpa [U, S8.l] using U_get (S8.l ⟨x0, x1, x2, x3, x4, x5, x6, x7⟩) k hlt)
              obtain ⟨e0, e1, e2, e3⟩ := mul8 k hlt
              obtain ⟨f0, f1, f2, f3⟩ := mul8a k 1 1 rfl hlt (by omega)
              obtain ⟨m0, m1, m2, m3⟩ := mul8a k 2 2 rfl hlt (by omega)
              obtain ⟨p0, p1, p2, p3⟩ := mul8a k 3 3 rfl hlt (by omega)
              have gc : ∀ i, i < 32 → wr.cell? ⟨n3, i, none⟩ = some (.int .u8 ((at8 (outz ⟨x0, x1, x2, x3, x4, x5, x6, x7⟩ k) i).toNat : Int)) := fun i hi => by
                rw [cell_of_row _ _ _ _ _ _ ho.out, List.getElem?_toArray]; exact Bs_get _ _ (by rw [outz_length _ _ hk]; exact hi)
              have q0 := gc (4 * k) (by omega)
              have q1 := gc (4 * k + 1) (by omega)
              have q2 := gc (4 * k + 2) (by omega)
              have q3 := gc (4 * k + 3) (by omega)
              have r0 := frozen_of_row _ _ (4 * k) _ _ ho.out
              have r1 := frozen_of_row _ _ (4 * k + 1) _ _ ho.out
              have r2 := frozen_of_row _ _ (4 * k + 2) _ _ ho.out
              have r3 := frozen_of_row _ _ (4 * k + 3) _ _ ho.out
              clear gc
              go_wp2_with fail
              go_roundw
              case rel => exact ⟨k + 1, by omega, by go_num, ho.set hlt⟩
              case measure => simp [intOf]; omega
            · obtain rfl : k = 8 := by omega
              have hout := ho.out
              rw [outz_full, HST.out] at hout
              have hres := ho.res
              have hbel := ho.below
              have i25 : (Tryd.prog.info? 25).map (·.size) = some (Bs (sha l)).toArray.size := by rw [List.size_toArray, Bs_length, sha_length]; exact info25
              have hzz : (Bs (List.replicate 32 0)).toArray.size = (Bs (sha l)).toArray.size := by rw [List.size_toArray, List.size_toArray, Bs_length, Bs_length, sha_length]; rfl
              have h1 : (Bs (sha l)).toArray.all (·.oneCell') = true := all_oneCell_toArray (Bs_mem _)
              replace hout : wr.heap[n3]? = some (.cells (Bs (sha l)).toArray 25) := hout
              clear ho HST hlt
              generalize hcs : (Bs (sha l)).toArray = cs at *
              have HC := Lib.hid hcs
              clear hcs
              generalize (Bs (List.replicate 32 0)).toArray = zs at *
              have HO := Lib.hid hout; have HR := Lib.hid hres; have HI := Lib.hid i25; have HZ := Lib.hid hzz; have H1 := Lib.hid h1
              clear hout hres i25 hzz h1
              go_wp2_with (first
                | refine wpList_load_row rfl 25 (.tmp 6) rfl n3 rfl 25 _ (0, 0) _ HO.out Tryd.underlying25 rfl HI.out ?_
                | refine wpList_store_row rfl 25 (.tmp 2) (.tmp 74) rfl _ _ rfl rfl 25 _ HR.out HI.out HZ.out H1.out ?_)
              have hrow := setRow_heap wr w.heap.size zs cs 25 (0, 0) HR.out
              exact bodyPost_ret (v := .agg cs) (results_cell_row rfl _ _ w.heap.size 25 cs (0, 0) _ rfl hrow Tryd.underlying25 rfl HI.out) rfl ⟨by rw [HC.out], below_setRow hbel (Nat.le_refl _) _⟩
    · have ht : (((l.length + 1 + j : Nat) : Int) % 64 != 56) = true := by
        rw [bne_iff_ne]
        unfold zpad at *
        omega
      have HJ := Lib.hid hj; have HLN := Lib.hid hlen
      have hgp : 0 < gk := by omega
      clear hz hj hlen hg
      generalize l.length + 1 + j = n at gn ht HLN
      go_wp2_with fail
      refine (write1 w wr _ 0 _ _ hL hs rfl rfl (by have := HJ.out; simp; omega)).mono ?_
      rintro e w2 ⟨rfl, hs2⟩
      go_wp2_with fail
      go_roundg (gk - 1)
      case measure => have := HJ.out; omega
      case rel => exact ⟨j + 1, by have := HJ.out; omega, by rw [List.replicate_succ', ← List.append_assoc]; exact hs2⟩
end Go.Proofs.YtbioclpobmgikaaDoor
