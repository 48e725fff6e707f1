/- A state taken on by a block. -/
import Derived.Test.YtbioclpobmgikaaDoorSha2
namespace Go.Proofs.YtbioclpobmgikaaDoor
open Go.RowKit

theorem below_drewN {B : Nat} {a w : World} (h : Below B a w) (n : Nat) : Below B a (w.drewN n) := h.trans ⟨rfl, rfl, rfl, Nat.le_refl _, fun _ _ => rfl⟩

theorem turn_q (x : W) (k : Int) (w : World) (n : Nat) (h : 0 < k) (h2 : k < 32) :
    Calls Tryd.prog 106 #[.int .u32 x.toNat, .int .i64 k] (w.drewN n) fun e w' => e = .returned (.int .u32 (rotr x k.toNat).toNat) ∧ ∃ m, w' = w.drewN m :=
  (turn_k x k _ h h2).mono fun _ _ ⟨he, hw⟩ => ⟨he, n, hw.symm⟩

theorem run_index_arr {P : Program} (w : World) (t e : TypeId) (n : Nat) (k : IntKind) (cs : Array Value) (i : Nat) (v : Value) (hu : P.underlying t = some (.array n e)) (he : P.underlying e = some (.int k))
    (hs : (P.info? e).map (·.size) = some 1) (hi : i < n) (hv : cs[i]? = some v) : (Instr.index t (.agg cs) (.int .i64 (i : Int))).run P w = .ok v w := by
  cases hq : P.info? e with
  | none => simp [hq] at hs
  | some q =>
    have hq1 : q.size = 1 := by simpa [hq] using hs
    have ha : (isAgg e).run P w = .ok false w := by
      unfold isAgg
      rw [Sem.run_bind, run_underlying he w]
      rfl
    unfold Instr.index part
    simp [Sem.run_bind, asIntOf, run_underlying hu, sizeOf, typeInfo, hq, hq1, hi, ha, hv]

/-- what the package's variables hold -/
structure Laid (w : World) : Prop where
  k : ∀ j, j < 64 → w.cell? ⟨1, j, none⟩ = some (.int .u32 ((at32 Kc j).toNat : Int))
  s : ∀ j, j < 8 → w.cell? ⟨0, j, none⟩ = some (.int .u32 ((at32 H0.l j).toNat : Int))

structure TakeAt (w wr : World) (s : S8) (blk : List UInt8) (k : Nat) : Prop where
  below : Below w.heap.size w wr
  x : wr.heap[w.heap.size]? = some (.cells (U (rounds blk s k).l).toArray 115)

theorem TakeAt.drewN {w wr : World} {s : S8} {blk : List UInt8} {k : Nat} (h : TakeAt w wr s blk k) (n : Nat) : TakeAt w (wr.drewN n) s blk k :=
  ⟨⟨h.below.os, h.below.tape, h.below.output, h.below.size, h.below.block⟩, h.x⟩

theorem x_cells {w : World} {B : Nat} {T : TypeId} {R : List Value} {a b c d e f g h : W} (hx : w.heap[B]? = some (.cells (U [a, b, c, d, e, f, g, h] ++ R).toArray T)) :
    w.cell? ⟨B, 0, none⟩ = some (.int .u32 (a.toNat : Int)) ∧ w.cell? ⟨B, 1, none⟩ = some (.int .u32 (b.toNat : Int)) ∧ w.cell? ⟨B, 2, none⟩ = some (.int .u32 (c.toNat : Int)) ∧ w.cell? ⟨B, 3, none⟩ = some (.int .u32 (d.toNat : Int)) ∧
    w.cell? ⟨B, 4, none⟩ = some (.int .u32 (e.toNat : Int)) ∧ w.cell? ⟨B, 5, none⟩ = some (.int .u32 (f.toNat : Int)) ∧ w.cell? ⟨B, 6, none⟩ = some (.int .u32 (g.toNat : Int)) ∧ w.cell? ⟨B, 7, none⟩ = some (.int .u32 (h.toNat : Int)) := by
  simp only [cell_of_row _ _ _ _ _ _ hx]
  simp [U]

theorem U_mem (l : List W) : ∀ v ∈ U l, v.oneCell' = true := by
  intro v hv
  simp only [U, List.mem_map] at hv
  obtain ⟨x, _, rfl⟩ := hv
  rfl
theorem copy7 (x0 x1 x2 x3 x4 x5 x6 x7 : W) : splice (U [x0, x1, x2, x3, x4, x5, x6, x7]) 1 (U [x0, x1, x2, x3, x4, x5, x6]) = U [x0, x0, x1, x2, x3, x4, x5, x6] := rfl

theorem t_eq (x : S8) (k w : W) : ((x.h.toNat : Int) + bits .xor .u32 (bits .xor .u32 ((rotr x.e 6).toNat : Int) ((rotr x.e 11).toNat : Int)) ((rotr x.e 25).toNat : Int) +
    bits .xor .u32 (bits .and .u32 (x.e.toNat : Int) (x.f.toNat : Int)) (bits .and .u32 (bits .xor .u32 IntKind.u32.max (x.e.toNat : Int)) (x.g.toNat : Int)) + (k.toNat : Int) + (w.toNat : Int)) % 4294967296 = ((x.t k w).toNat : Int) := by
  rw [show IntKind.u32.max = 4294967295 by decide, big1_eq, ch_eq, sum5]; rfl
theorem u_eq (x : S8) : (bits .xor .u32 (bits .xor .u32 ((rotr x.a 2).toNat : Int) ((rotr x.a 13).toNat : Int)) ((rotr x.a 22).toNat : Int) +
    bits .xor .u32 (bits .xor .u32 (bits .and .u32 (x.a.toNat : Int) (x.b.toNat : Int)) (bits .and .u32 (x.a.toNat : Int) (x.c.toNat : Int))) (bits .and .u32 (x.b.toNat : Int) (x.c.toNat : Int))) % 4294967296 = ((x.u).toNat : Int) := by
  rw [big0_eq, maj_eq, sum_w]; rfl

theorem w_mod (a : W) : (a.toNat : Int) % 4294967296 = a.toNat := by have := a.isLt; omega
/-- the two stores of a round, as the walk leaves them -/
theorem round_set (x : S8) (k w : W) (wr : World) (B : Nat) (h : wr.heap[B]? = some (.cells (U [x.a, x.a, x.b, x.c, x.d, x.e, x.f, x.g]).toArray 115)) :
    ((wr.setCell ⟨B, 0, none⟩ (.int .u32 (((x.h.toNat : Int) + bits .xor .u32 (bits .xor .u32 ((rotr x.e 6).toNat : Int) ((rotr x.e 11).toNat : Int)) ((rotr x.e 25).toNat : Int) +
    bits .xor .u32 (bits .and .u32 (x.e.toNat : Int) (x.f.toNat : Int)) (bits .and .u32 (bits .xor .u32 IntKind.u32.max (x.e.toNat : Int)) (x.g.toNat : Int)) + (k.toNat : Int) + (w.toNat : Int) +
    (bits .xor .u32 (bits .xor .u32 ((rotr x.a 2).toNat : Int) ((rotr x.a 13).toNat : Int)) ((rotr x.a 22).toNat : Int) +
    bits .xor .u32 (bits .xor .u32 (bits .and .u32 (x.a.toNat : Int) (x.b.toNat : Int)) (bits .and .u32 (x.a.toNat : Int) (x.c.toNat : Int))) (bits .and .u32 (x.b.toNat : Int) (x.c.toNat : Int)))) % 4294967296))).setCell ⟨B, 4, none⟩
    (.int .u32 (((x.d.toNat : Int) + ((x.h.toNat : Int) + bits .xor .u32 (bits .xor .u32 ((rotr x.e 6).toNat : Int) ((rotr x.e 11).toNat : Int)) ((rotr x.e 25).toNat : Int) +
    bits .xor .u32 (bits .and .u32 (x.e.toNat : Int) (x.f.toNat : Int)) (bits .and .u32 (bits .xor .u32 IntKind.u32.max (x.e.toNat : Int)) (x.g.toNat : Int)) + (k.toNat : Int) + (w.toNat : Int))) % 4294967296))).heap[B]?
    = some (.cells (U (x.round k w).l).toArray 115) := by
  rw [heap_setCell_same _ _ _ _ _ _ (heap_setCell_same _ _ _ _ _ _ h)]
  rw [Int.add_emod, t_eq, u_eq, sum_w]
  rw [Int.add_emod, t_eq, w_mod, sum_w]
  rfl

/-- the state, k of whose numbers are added -/
def mix (s x : S8) (k : Nat) : List W := (s.add x).l.take k ++ s.l.drop k
theorem mix_cell (s x : S8) (R : List Value) (k : Nat) (h : k < 8) : (U (mix s x k) ++ R).toArray[k]? = some (.int .u32 ((at32 s.l k).toNat : Int)) := by
  obtain rfl | rfl | rfl | rfl | rfl | rfl | rfl | rfl : k = 0 ∨ k = 1 ∨ k = 2 ∨ k = 3 ∨ k = 4 ∨ k = 5 ∨ k = 6 ∨ k = 7 := by omega
  all_goals rfl
theorem mix_set (s x : S8) (R : List Value) (k : Nat) (h : k < 8) : (U (mix s x k) ++ R).toArray.setIfInBounds k (.int .u32 (((at32 s.l k).toNat + (at32 x.l k).toNat : Int) % 4294967296)) = (U (mix s x (k + 1)) ++ R).toArray := by
  rw [sum_w]
  obtain rfl | rfl | rfl | rfl | rfl | rfl | rfl | rfl : k = 0 ∨ k = 1 ∨ k = 2 ∨ k = 3 ∨ k = 4 ∨ k = 5 ∨ k = 6 ∨ k = 7 := by omega
  all_goals simp [mix, S8.l, S8.add, U, at32]
theorem l_length (s : S8) : s.l.length = 8 := rfl
structure AddAt (w wr : World) (hb : Nat) (s x : S8) (R : List Value) (T : TypeId) (k : Nat) : Prop where
  grown : w.grownBy wr (some hb)
  row : wr.heap[w.heap.size]? = some (.cells (U x.l).toArray 115)
  h : wr.heap[hb]? = some (.cells (U (mix s x k) ++ R).toArray T)
theorem AddAt.drew {w wr : World} {hb : Nat} {s x : S8} {R : List Value} {T : TypeId} {k : Nat} (h : AddAt w wr hb s x R T k) : AddAt w wr.drew hb s x R T k :=
  ⟨⟨h.grown.os, h.grown.tape, h.grown.output, h.grown.size, h.grown.block⟩, h.row, h.h⟩
theorem AddAt.set {w wr : World} {hb : Nat} {s x : S8} {R : List Value} {T : TypeId} {k : Nat} (h : AddAt w wr hb s x R T k) (hlt : hb < w.heap.size) (hk : k < 8) :
    AddAt w (wr.setCell ⟨hb, k, none⟩ (.int .u32 (((at32 s.l k).toNat + (at32 x.l k).toNat : Int) % 4294967296))) hb s x R T (k + 1) := by
  refine ⟨⟨h.grown.os, h.grown.tape, h.grown.output, by simpa [World.setCell] using h.grown.size, fun j hj hne => ?_⟩, ?_, ?_⟩
  · rw [heap_setCell_other _ _ _ _ (fun e => hne (by rw [e]))]; exact h.grown.block j hj hne
  · rw [heap_setCell_other _ _ _ _ (by simp; omega)]; exact h.row
  · rw [heap_setCell_same _ _ _ _ _ _ h.h, mix_set _ _ _ _ hk]
theorem grownBy_of_below {w w' : World} (h : Below w.heap.size w w') (row : Option Nat) : w.grownBy w' row := ⟨h.os, h.tape, h.output, h.size, fun k hk _ => h.block k hk⟩

set_option maxHeartbeats 1000000 in
set_option maxRecDepth 100000 in
theorem take_any (hb bb o : Nat) (s : S8) (R : List Value) (T : TypeId) (blk : List UInt8) (w : World) (hL : Laid w)
    (hh : w.heap[hb]? = some (.cells (U s.l ++ R).toArray T))
    (hbl : ∀ j, j < 64 → w.cell? ⟨bb, o + j, none⟩ = some (.int .u8 ((at8 blk j).toNat : Int))) :
    Calls Tryd.prog 80 #[.pointer (some ⟨hb, 0, none⟩), .pointer (some ⟨bb, o, none⟩)] w fun e w' => e = .returned (.tuple #[]) ∧ w.grownBy w' (some hb) ∧
      w'.heap[hb]? = some (.cells (U (comp s blk).l ++ R).toArray T) := by
  have hlt : hb < w.heap.size := (Array.getElem?_eq_some_iff.1 hh).1
  have HH := Lib.hid hh
  have HB := Lib.hid hbl
  have HS : ∀ i, i < 8 → w.cell? ⟨hb, i, none⟩ = some (.int .u32 ((at32 s.l i).toNat : Int)) := fun i hi => by
    rw [cell_of_row _ _ _ _ _ _ hh]; simpa [List.getElem?_append, U_length, S8.l, hi] using U_get s.l i hi
  have s0 := HS 0 (by omega)
  have s1 := HS 1 (by omega)
  have s2 := HS 2 (by omega)
  have s3 := HS 3 (by omega)
  have s4 := HS 4 (by omega)
  have s5 := HS 5 (by omega)
  have s6 := HS 6 (by omega)
  have s7 := HS 7 (by omega)
  clear hh hbl HS
  go_enter Tryd.func80, Tryd.ntmps80
  have hsch : Hid (∀ (ob : Obj) (j : Nat), j < 64 → (w.alloc ob).cell? ⟨bb, o + j, none⟩ = some (.int .u8 ((at8 blk j).toNat : Int))) := fun ob j hj =>
    (World.cell?_alloc_lt w ob ⟨bb, o + j, none⟩ (World.block_lt_of_cell? w _ (HB.out j hj))).trans (HB.out j hj)
  go_wp2_with (go_at_call 105; refine (sched_any bb o blk _ (hsch.out _)).mono ?_; rintro e w1 ⟨rfl, hb1⟩)
  clear hsch
  have ht : TakeAt w w1 s blk 0 := by
    refine ⟨((Below.refl _ _).alloc (Nat.le_refl _) _).trans (hb1.mono (by simp)), ?_⟩
    rw [hb1.block _ (by simp)]
    exact heap_alloc_new w _
  have hw1 : w.heap.size + 1 ≤ w1.heap.size := by have := hb1.size; simp at this; omega
  clear hb1 s0 s1 s2 s3 s4 s5 s6 s7
  have hsl := wl_length blk 64
  have hcs : ∀ j, j < 64 → (U (wl blk 64)).toArray[j]? = some (.int .u32 ((at32 (wl blk 64) j).toNat : Int)) := fun j hj => by simpa using U_get (wl blk 64) j (by omega)
  have HW := Lib.hid hcs
  clear hcs hsl
  generalize (U (wl blk 64)).toArray = cs at *
  go_loopw [17] (fun i wr => ∃ k : Nat, k ≤ 64 ∧ i = .int .i64 k ∧ TakeAt w wr s blk k) (fun i _ => 64 - (intOf i).toNat)
  case atStart => exact ⟨0, by omega, rfl, ht⟩
  case round =>
    clear ht
    obtain ⟨k, hk, rfl, ht⟩ := hrel
    by_cases hlt : k < 64
    · have hix : ∀ w', (Instr.index 110 (.agg cs) (.int .i64 (k : Int))).run Tryd.prog w' = .ok (.int .u32 ((at32 (wl blk 64) k).toNat : Int)) w' := fun w' =>
        run_index_arr w' 110 108 64 .u32 cs k _ Tryd.underlying110 Tryd.underlying108 (by kernel_rfl) hlt (HW.out k hlt)
      have hK : wr.cell? ⟨1, k, none⟩ = some (.int .u32 ((at32 Kc k).toNat : Int)) := (ht.below.cell (p := ⟨1, k, none⟩) (World.block_lt_of_cell? w _ (hL.k k hlt))).trans (hL.k k hlt)
      have hr : rounds blk s (k + 1) = (rounds blk s k).round (at32 Kc k) (at32 (wl blk 64) k) := rfl
      have HR := Lib.hid hr
      have hbel := ht.below
      have hx := ht.x
      clear hr ht
      generalize rounds blk s k = x at hx HR
      obtain ⟨x0, x1, x2, x3, x4, x5, x6, x7⟩ := x
      replace hx : wr.heap[w.heap.size]? = some (.cells (U [x0, x1, x2, x3, x4, x5, x6, x7]).toArray 115) := hx
      obtain ⟨c0, c1, c2, c3, c4, c5, c6, c7⟩ := x_cells (R := []) (by simpa using hx)
      have HX := Lib.hid hx
      clear hx
      go_wp2
      go_quiet (fail)
      clear c0 c1 c2 c3 c4 c5 c6 c7
      have hK := show (wr.drewN nq).cell? ⟨1, k, none⟩ = _ from hK
      have hbel := below_drewN hbel nq
      have hx := show (wr.drewN nq).heap[w.heap.size]? = _ from HX.out
      clear HX
      generalize wr.drewN nq = w2 at hK hbel hx ⊢
      obtain ⟨c0, c1, c2, c3, c4, c5, c6, c7⟩ := x_cells (R := []) (by simpa using hx)
      have HX := Lib.hid hx
      clear hx
      go_wp2
      go_quiet ((go_at_call 106; exact turn_q _ _ _ _ (by omega) (by omega)))
      clear c0 c1 c2 c3 c4 c5 c6 c7
      have hK := show (w2.drewN nq).cell? ⟨1, k, none⟩ = _ from hK
      have hbel := below_drewN hbel nq
      have hx := show (w2.drewN nq).heap[w.heap.size]? = _ from HX.out
      clear HX
      generalize w2.drewN nq = w3 at hK hbel hx ⊢
      obtain ⟨c0, c1, c2, c3, c4, c5, c6, c7⟩ := x_cells (R := []) (by simpa using hx)
      have HX := Lib.hid hx
      clear hx
      go_wp2
      go_quiet ((go_at_call 106; exact turn_q _ _ _ _ (by omega) (by omega)))
      clear c0 c1 c2 c3 c4 c5 c6 c7
      have hK := show (w3.drewN nq).cell? ⟨1, k, none⟩ = _ from hK
      have hbel := below_drewN hbel nq
      have hx := show (w3.drewN nq).heap[w.heap.size]? = _ from HX.out
      clear HX
      generalize w3.drewN nq = w4 at hK hbel hx ⊢
      obtain ⟨c0, c1, c2, c3, c4, c5, c6, c7⟩ := x_cells (R := []) (by simpa using hx)
      have HX := Lib.hid hx
      clear hx
      clear c0 c1 c2 c3 c4 c5 c6 c7 hK
      go_wp2
      refine wp_region_still_tail 2 (by kernel_rfl) (by kernel_rfl) ?_
      have hbel := hbel.drew
      have hx : w4.drew.heap[w.heap.size]? = _ := HX.out
      clear HX
      change wpStill _ _ w4.drew (fun a' => wpList _ _ _ _ a' w4.drew) _ _
      generalize w4.drew = w5 at hbel hx ⊢
      simp only [List.take_succ_cons, List.take_zero, List.drop_succ_cons, List.drop_zero]
      repeat still_step
      refine wpStill_nil ?_
      have hsrc : ∀ j v, (U [x0, x1, x2, x3, x4, x5, x6])[j]? = some v → w5.cell? ((⟨w.heap.size, 0, none⟩ : Addr).add j) = some v := fun j v hv => by
        have hadd : (⟨w.heap.size, 0, none⟩ : Addr).add j = ⟨w.heap.size, j, none⟩ := by unfold Addr.add; split <;> simp_all
        rw [hadd, cell_of_row _ _ _ _ _ _ hx]
        rw [List.getElem?_toArray, show [x0, x1, x2, x3, x4, x5, x6, x7] = [x0, x1, x2, x3, x4, x5, x6] ++ [x7] from rfl, U_append, List.getElem?_append_left (List.getElem?_eq_some_iff.1 hv).1]
        exact hv
      refine wpList_copy_splice rfl (.tmp 77) (.tmp 78) 114 114 rfl 108 Tryd.underlying114 (by kernel_rfl) _ _ _ _ _ _ rfl rfl w.heap.size 1 _ 115 hx (U [x0, x1, x2, x3, x4, x5, x6]) rfl
        (fun _ => ⟨rfl, _, rfl, hsrc⟩) (by simp [U_length]) (U_mem _) w.heap.size w hbel (Nat.le_refl _) ?_
      intro w6 hx6 hbel6
      have hx6 := hx6.out
      rw [copy7] at hx6
      obtain ⟨c0, c1, c2, c3, c4, c5, c6, c7⟩ := x_cells (R := []) (by simpa using hx6)
      have f0 := frozen_of_row _ _ 0 _ _ hx6
      have f4 := frozen_of_row _ _ 4 _ _ hx6
      have HX := Lib.hid hx6
      clear hx6 hsrc hx c1 c2 c3 c5 c6 c7
      go_wp2
      go_roundw
      case rel =>
        refine ⟨k + 1, by omega, by go_num, ⟨(hbel6.setCell (Nat.le_refl _) _).setCell (Nat.le_refl _) _, ?_⟩⟩
        rw [HR.out]
        exact round_set ⟨x0, x1, x2, x3, x4, x5, x6, x7⟩ _ _ w6 w.heap.size HX.out
      case measure => simp [intOf]; omega
    · obtain rfl : k = 64 := by omega
      rw [show ((64 : Nat) : Int) = 64 from rfl]
      clear hk hlt
      have hx := ht.x
      have hcm : comp s blk = s.add (rounds blk s 64) := rfl
      have HC := Lib.hid hcm
      clear hcm
      generalize rounds blk s 64 = x at hx HC
      have ha : AddAt w wr hb s x R T 0 := ⟨grownBy_of_below ht.below _, hx, (ht.below.block _ (by assumption)).trans HH.out⟩
      clear ht hx
      go_wp2
      go_loopw [90] (fun i wr => ∃ k : Nat, k ≤ 8 ∧ i = .int .i64 k ∧ AddAt w wr hb s x R T k) (fun i _ => 8 - (intOf i).toNat)
      case atStart => exact ⟨0, by omega, rfl, ha⟩
      case round =>
        clear ha
        obtain ⟨k, hk, rfl, ha⟩ := hrel
        by_cases hlt : k < 8
        · go_wp2
          refine wp_region_still_tail 11 (by kernel_rfl) (by kernel_rfl) ?_
          have ha := ha.drew
          change wpStill _ _ wr.drew (fun a' => wpList _ _ _ _ a' wr.drew) _ _
          generalize wr.drew = w2 at ha ⊢
          have g1 : w2.cell? ⟨hb, k, none⟩ = some (.int .u32 ((at32 s.l k).toNat : Int)) := by rw [cell_of_row _ _ _ _ _ _ ha.h]; exact mix_cell s x R k hlt
          have g2 : w2.cell? ⟨w.heap.size, k, none⟩ = some (.int .u32 ((at32 x.l k).toNat : Int)) := by rw [cell_of_row _ _ _ _ _ _ ha.row]; simpa using U_get x.l k hlt
          have gf := frozen_of_row _ _ k _ _ ha.h
          have hk6 : (k : Int) < 8 := by omega
          simp only [List.take_succ_cons, List.take_zero, List.drop_succ_cons, List.drop_zero]
          repeat still_step
          refine wpStill_nil ?_
          go_wp2
          go_roundw
          case rel => exact ⟨k + 1, by omega, by go_num, ha.set (by assumption) hlt⟩
          case measure => simp [intOf]; omega
        · obtain rfl : k = 8 := by omega
          go_wp2
          go_end0
          exact ⟨rfl, ha.grown, by rw [HC.out]; exact ha.h⟩
end Go.Proofs.YtbioclpobmgikaaDoor
