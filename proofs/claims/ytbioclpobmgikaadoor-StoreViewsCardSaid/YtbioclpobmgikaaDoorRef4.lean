/- The document's digest: the walk. -/
import Derived.Test.YtbioclpobmgikaaDoorRef4a
namespace Go.Proofs.YtbioclpobmgikaaDoor
open Go.RowKit

theorem add_u (X : Int) (t u : W) (h : X % 4294967296 = (u.toNat : Int)) : ((t.toNat : Int) + X) % 4294967296 = ((t + u).toNat : Int) := by
  rw [← sum_w, ← h]; omega

set_option maxHeartbeats 20000000 in
set_option maxRecDepth 100000 in
theorem ref_any (l : List UInt8) (A : Option Addr) (c : Nat) (w : World) (hby : BytesAt w A l) (hnone : A = none → c = 0) (hbig : l.length ≤ 1000000) :
    Calls Tryd.prog 21 #[.slice A l.length c] w fun e w' => e = .returned (.agg (Bs (sha l)).toArray) ∧ Below w.heap.size w w' := by
  have HBY := Lib.hid hby
  clear hby
  go_enter Tryd.func21, Tryd.ntmps21
  go_wp2_with fail
  refine (primes_any _).mono ?_
  rintro e w1 ⟨g, pc, rfl, hpc, hg, hb1, hpr⟩
  have hres : w1.heap[w.heap.size]? = some (.cells (Bs (List.replicate 32 0)).toArray 24) := (hb1.block _ (by simp)).trans (heap_alloc_new w _)
  have hsz1 : w.heap.size + 1 ≤ w1.heap.size := by have := hb1.size; simpa using this
  have hb1 : Below w.heap.size w w1 := ((Below.refl _ _).alloc (Nat.le_refl _) _).trans (hb1.mono (by simp))
  have hgl : g < w1.heap.size := World.block_lt_of_cell? w1 _ (hpr 0 (by omega))
  have HP := Lib.hid hpr; have HRES := Lib.hid hres
  clear hpr hres
  go_wp2_with (refine wpList_store_row rfl 110 (.tmp 5) (.tmp 33) rfl _ _ rfl rfl 110 _ (heap_alloc2_new w1 _ _) (by kernel_rfl) (by kernel_rfl) (by kernel_rfl) ?_)
  go_loopw [6] (fun v wr => ∃ i : Nat, i ≤ 64 ∧ v = .int .i64 (i : Int) ∧ ConAt w1 wr i) (fun v _ => 64 - (intOf v).toNat)
  case atStart => exact ⟨0, by omega, rfl, ConAt.start w1 _⟩
  case round =>
    obtain ⟨i, hi, rfl, hs⟩ := hrel
    by_cases hlt : i < 64
    ·
      --[[A
      have hbel := hs.below
      have gp := (hbel.cell (p := ⟨g, i, none⟩) hgl).trans (HP.out i hlt)
      obtain ⟨hcu, hce⟩ := cubes i hlt
      have h312 := pr64_small i hlt
      have HCE := Lib.hid hce
      clear hce
      go_wp2_with fail
      refine (cube_any _ _ (by omega) hcu wr).mono ?_
      rintro e w2 ⟨rfl, hb2⟩
      rw [HCE.out]
      have hs2 := hs.next hb2
      have gk : w2.cell? ⟨w1.heap.size + 1, i, none⟩ = some (.int .u32 ((at32 (kp i) i).toNat : Int)) := by
        rw [cell_of_row _ _ _ _ _ _ hs2.k, List.getElem?_toArray]; exact U_get _ _ (by rw [kp_length i hi]; exact hlt)
      have gf := frozen_of_row _ _ i _ _ hs2.k
      have hd : decide ((i : Int) < 64) = true := decide_eq_true (by omega)
      clear gp hcu
      by_cases hlt8 : i < 8
      · have hq := fun w => square_any (atn pr64 i) _ (pr64_8 i hlt8) (squares i hlt8).1 w
        have HSQ := Lib.hid hq
        have HSE := Lib.hid (squares i hlt8).2
        clear hq
        obtain ⟨k1, k2, k3⟩ := hs2.setK hlt _ rfl
        have gp := fun w' (h : Below w1.heap.size w1 w') => (h.cell (p := ⟨g, i, none⟩) hgl).trans (HP.out i hlt)
        have gp2 := gp _ k3
        clear gp
        go_wp2_with fail
        refine (HSQ.out _).mono ?_
        rintro e w' ⟨rfl, rfl⟩
        rw [HSE.out]
        clear gp2 gk gf
        generalize w2.setCell ⟨w1.heap.size + 1, i, none⟩ (.int .u32 ((at32 Kc i).toNat : Int)) = w3 at *
        have gk : w3.cell? ⟨w1.heap.size, i, none⟩ = some (.int .u32 ((at32 (sp (min i 8)) i).toNat : Int)) := by
          rw [cell_of_row _ _ _ _ _ _ k2, List.getElem?_toArray]; exact U_get _ _ (by rw [sp_length _ (by omega)]; exact hlt8)
        have gf := frozen_of_row _ _ i _ _ k2
        go_wp2_with fail
        go_roundw
        case rel => exact ⟨i + 1, by omega, by go_num, ConAt.setS k1 k2 k3 hlt8 _ rfl⟩
        case measure => simp [intOf]; omega
      · obtain ⟨k1, k2, k3⟩ := hs2.setK hlt _ rfl
        go_wp2_with fail
        go_roundw
        case rel => exact ⟨i + 1, by omega, by go_num, ConAt.noS k1 k2 k3 hlt8⟩
        case measure => simp [intOf]; omega
      --]]A
    · obtain rfl : i = 64 := by omega
      have hbw : Below w.heap.size w wr := hb1.trans (hs.below.mono hb1.size)
      have HBW := Lib.hid (HBY.out.below hbw)
      have hs8 := hs.s
      have hk8 := hs.k
      rw [show min 64 8 = 8 from rfl, sp_full] at hs8
      rw [kp_full] at hk8
      have hsz2 : w1.heap.size + 2 ≤ wr.heap.size := (Array.getElem?_eq_some_iff.1 hk8).1
      have HB1 := Lib.hid hs.below
      clear hs HP hlt hi
      have HS8 := Lib.hid hs8; have HK8 := Lib.hid hk8
      clear hs8 hk8
      have hO0 : Own (w1.heap.size + 2) wr (wr.alloc (.cells #[] 5)) [] 0 (.slice (some ⟨wr.heap.size, 0, none⟩) 0 0) := Own.start hsz2
      rw [show ((64 : Nat) : Int) = 64 from rfl]
      have hl6 : l.length ≤ 140737488355327 := by omega
      go_wp2_with (first
        | (refine wpList_append_bytes rfl (.tmp 54) (.tmp 55) rfl (w1.heap.size + 2) _ [] rfl hO0.own A l c rfl (BytesAt.alloc HBW.out _) hnone (by simp; omega) (by simp; omega) ?_; rintro v3 w3 ho3 hg3 hn3; have hO3 := hO0.grow (Below.refl _ _) hg3 ho3 hn3; clear hO0 ho3 hg3 hn3; rw [List.nil_append, Nat.zero_add] at hO3; obtain ⟨g3, c3, rfl, hc3⟩ := hO3.form)
        | (refine wpList_append_bytes rfl (.tmp 57) (.tmp 58) rfl (w1.heap.size + 2) _ l rfl (hO3.own.alloc _) (some ⟨w3.heap.size, 0, none⟩) [128] 1 rfl (bytes_new _ _ _ rfl) (fun h => by cases h) (by simp; omega) (by have := hO3.below.size; simp; omega) ?_; rintro v4 w4 ho4 hg4 hn4; have hO4 := hO3.grow ((Below.refl _ _).alloc (Nat.le_refl _) _) hg4 ho4 hn4; clear hO3 ho4 hg4 hn4; rw [List.length_singleton] at hO4; obtain ⟨g4, c4, rfl, hc4⟩ := hO4.form))
      obtain ⟨W2, hW2⟩ : ∃ W2, W2 = wr := ⟨_, rfl⟩
      rw [← hW2] at hO4 HB1 HBW HS8 HK8 hsz2
      clear hW2 hc3
      go_loopg [7] (zpad l.length) (fun g v wr => ∃ j, j + g = zpad l.length ∧ Own (w1.heap.size + 2) W2 wr (l ++ [128] ++ List.replicate j 0) (l.length + 1 + j) v)
      case atStart => exact ⟨0, by omega, by simpa using hO4⟩
      case round =>
        clear hO4
        obtain ⟨j, hj, hO⟩ := hrel
        have hz := zpad_spec l.length
        have hzl : zpad l.length < 64 := by unfold zpad; omega
        by_cases hg : gk = 0
        · have ht : (((l.length + 1 + j : Nat) : Int) % 64 != 56) = false := by
            subst hg
            rw [bne_eq_false_iff_eq]
            omega
          obtain rfl : j = zpad l.length := by omega
          have hN : l.length + 1 + zpad l.length ≤ 1000065 := by omega
          have hNm : (l.length + 1 + zpad l.length) % 64 = 56 := hz
          generalize hN0 : l.length + 1 + zpad l.length = N at *
          have HN0 := Lib.hid hN0
          clear hz hj hg hN0
          obtain ⟨g5, c5, rfl, hc5⟩ := hO.form
          go_wp2_with fail
          clear ht
          go_loopw [9, 7] (fun i v wr => ∃ k : Nat, k ≤ 8 ∧ i = .int .i64 (7 - (k : Int)) ∧ Own (w1.heap.size + 2) W2 wr (l ++ [128] ++ List.replicate (zpad l.length) 0 ++ (len8 l.length).take k) (N + k) v) (fun i _ _ => (intOf i + 1).toNat)
          case atStart => exact ⟨0, by omega, rfl, by simpa using hO⟩
          case round =>
            clear hO
            obtain ⟨k, hk, rfl, hO⟩ := hrel
            obtain ⟨g6, c6, rfl, hc6⟩ := hO.form
            by_cases hlt : k < 8
            ·
              --[[C
              have e1 : ((7 - (k : Int)) * 8).toNat = 56 - 8 * k := by omega
              have e2 : (k : Int) ≤ 7 := by omega
              have ht8 := len8_at l.length k hlt
              have HT8 := Lib.hid ht8
              clear ht8
              generalize ht0 : l ++ [128] ++ List.replicate (zpad l.length) 0 ++ (len8 l.length).take k = t at *
              have HT0 := Lib.hid ht0
              clear ht0
              have htl := hO.len
              go_wp2_with (refine wpList_append_bytes rfl (.tmp 75) (.tmp 82) rfl (w1.heap.size + 2) _ t rfl (hO.own.alloc _) (some ⟨wr.heap.size, 0, none⟩) [UInt8.ofNat (l.length * 8 / 2 ^ (56 - 8 * k))] 1 rfl (bytes_new _ _ _ (len8_byte _ _)) (fun h => by cases h) (by simp; omega) (by have := hO.below.size; simp; omega) ?_; rintro v6 w6 ho6 hg6 hn6; have hO6 := hO.grow ((Below.refl _ _).alloc (Nat.le_refl _) _) hg6 ho6 hn6; clear ho6 hg6 hn6; rw [List.length_singleton] at hO6)
              go_roundw
              case rel => exact ⟨k + 1, by omega, by go_num, by rw [HT8.out, ← List.append_assoc, HT0.out, ← Nat.add_assoc]; exact hO6⟩
              case measure => simp [intOf]; omega
              --]]C
            · obtain rfl : k = 8 := by omega
              have hpad : l ++ [128] ++ List.replicate (zpad l.length) 0 ++ (len8 l.length).take 8 = pad l := by
                rw [List.take_of_length_le (by rw [len8_length]; omega)]
                simp [pad]
              rw [hpad] at hO
              clear hpad hlt hk
              have hM : (N + 8) % 64 = 0 := by omega
              have hMb : N + 8 ≤ 1000073 := by omega
              obtain ⟨g7, c7, hv7, hc7, hg7, hby7⟩ := hO.bytes
              injection hv7 with hv7 _ hv8
              injection hv7 with hv7
              injection hv7 with hv7
              subst hv7 hv8
              have htl := hO.len
              have hTl : (pad l).length = N + 8 := htl
              have hsha : sha l = (feed H0 (pad l)).out := rfl
              have hb3 : Below w.heap.size w wr := hb1.trans ((HB1.out.mono (by omega)).trans (hO.below.mono (by have := HB1.out.size; omega)))
              have hs3 : wr.heap[w1.heap.size]? = some (.cells (U H0.l).toArray 109) := (hO.below.block _ (by omega)).trans HS8.out
              have hk3 : wr.heap[w1.heap.size + 1]? = some (.cells (U Kc).toArray 110) := (hO.below.block _ (by omega)).trans HK8.out
              have hr3 : wr.heap[w.heap.size]? = some (.cells (Bs (List.replicate 32 0)).toArray 24) := by
                rw [hO.below.block _ (by omega), HB1.out.block _ (by omega)]; exact HRES.out
              generalize pad l = T at *
              generalize hM0 : N + 8 = M at *
              obtain ⟨W3, hW3⟩ : ∃ W3, W3 = wr := ⟨_, rfl⟩
              rw [← hW3] at hb3 hs3 hk3 hr3 hby7
              have hBl : BlkAt W3 wr w1.heap.size T 0 := by
                subst hW3
                exact ⟨grownBy.refl _ _, hs3⟩
              have hgsz : g6 < W3.heap.size := by
                rw [hW3]; exact (hO.own.lt g6 rfl).2
              have HSHA := Lib.hid hsha; have HB3 := Lib.hid hb3; have HK3 := Lib.hid hk3; have HR3 := Lib.hid hr3; have HBY7 := Lib.hid hby7; have HTL := Lib.hid hTl
              have hn1 : w1.heap.size + 2 ≤ W3.heap.size := by rw [hW3]; have := hO.below.size; omega
              clear hsha hb3 hk3 hr3 hby7 hTl htl hO hs3 hM0 HB1 HBW HS8 HK8 hW3 hNm hN HN0
              generalize w1.heap.size = n1 at *
              rw [show ((8 : Nat) : Int) = 8 from rfl]
              go_wp2_with fail
              go_loopw [10] (fun v wr => ∃ b : Nat, 64 * b ≤ M ∧ v = .int .i64 ((64 * b : Nat) : Int) ∧ BlkAt W3 wr n1 T b) (fun v _ => M - (intOf v).toNat)
              case atStart => exact ⟨0, by omega, rfl, hBl⟩
              case round =>
                clear hBl
                obtain ⟨b, hb, rfl, hBl⟩ := hrel
                generalize hq : 64 * b = q at *
                have HQ := Lib.hid hq
                clear hq
                rename World => wB
                by_cases hlt : q < M
                · have hqM : q + 64 ≤ M := by have := HQ.out; omega
                  have hnlt : n1 < wB.heap.size := (Array.getElem?_eq_some_iff.1 hBl.s).1
                  have hstep := feedN_step b H0 T (by rw [HTL.out, HQ.out]; exact hqM)
                  have HSTEP := Lib.hid hstep
                  have hgrw := hBl.grown
                  have hsrow := hBl.s
                  have hKr : wB.heap[n1 + 1]? = some (.cells (U Kc).toArray 110) := (hgrw.block _ (by omega) (by simp)).trans HK3.out
                  have hbyr : BytesAt wB (some ⟨g6, 0, none⟩) T := HBY7.out.grown (fun a ha => by cases ha; simp; omega) hgrw
                  have hblk : ∀ i, i < 64 → wB.cell? ⟨g6, q + i, none⟩ = some (.int .u8 ((at8 (blkAt T b) i).toNat : Int)) := fun i hi => by
                    rw [blkAt_at T b i hi, HQ.out]
                    obtain ⟨a, ha, hc⟩ := hbyr (q + i) (by rw [HTL.out]; omega)
                    obtain rfl := Option.some.inj ha
                    rwa [show (⟨g6, 0, none⟩ : Addr).add (q + i) = ⟨g6, q + i, none⟩ by unfold Addr.add; split <;> simp_all] at hc
                  have hg6r : g6 < wB.heap.size := Nat.lt_of_lt_of_le hgsz hgrw.size
                  have HBLK := Lib.hid hblk; have HKR := Lib.hid hKr
                  clear hstep hBl hbyr hblk hKr
                  generalize blkAt T b = blk at *
                  generalize feedN b H0 T = S at *
                  go_wp2_with (first
                    | (refine wpList_store_row rfl 110 (.tmp 11) (.tmp 90) rfl _ _ rfl rfl 110 _ (heap_alloc_new wB _) (by kernel_rfl) (by kernel_rfl) (by kernel_rfl) ?_))
                  go_loopw [12] (fun v w5 => ∃ k : Nat, k ≤ 64 ∧ v = .int .i64 (k : Int) ∧ ScAt wB w5 (wz blk k)) (fun v _ => 64 - (intOf v).toNat)
                  case atStart => exact ⟨0, by omega, rfl, by rw [wz_zero]; exact ScAt.start wB _⟩
                  case round =>
                    obtain ⟨k, hk, rfl, hs⟩ := hrel
                    by_cases hltk : k < 64
                    · have hdk : decide ((k : Int) < 64) = true := decide_eq_true (by omega)
                      by_cases hlt16 : k < 16
                      ·
                        --[[D
                        have hdk6 : decide ((k : Int) < 16) = true := decide_eq_true (by omega)
                        go_wp2_with fail
                        go_loopw [13] (fun v w5 => ∃ j : Nat, j ≤ 4 ∧ v = .int .i64 (j : Int) ∧ ScAt wB w5 (wp blk k j)) (fun v _ => 4 - (intOf v).toNat)
                        case atStart => exact ⟨0, by omega, rfl, by rw [wp_zero blk k hltk]; exact hs⟩
                        case round =>
                          clear hs
                          obtain ⟨j, hj, rfl, hs⟩ := hrel
                          by_cases hltj : j < 4
                          · have hpw := wp_step blk k j
                            have hst := bep_step blk k j hltj
                            have HPW := Lib.hid hpw
                            go_wp2_with fail
                            refine wp_region_still_tail 17 (by kernel_rfl) (by kernel_rfl) ?_
                            have hs := hs.drew
                            change wpStill _ _ wr.drew (fun a' => wpList _ _ _ _ a' wr.drew) _ _
                            generalize wr.drew = w7 at hs ⊢
                            have gt : w7.cell? ⟨g6, q + (4 * k + j), none⟩ = some (.int .u8 ((at8 blk (4 * k + j)).toNat : Int)) := (hs.below.cell (p := ⟨g6, q + (4 * k + j), none⟩) hg6r).trans (HBLK.out _ (by omega))
                            have gw := hs.get (wp_length blk k j hk) k hltk
                            rw [wp_at blk k j hltk] at gw
                            have gf := frozen_of_row _ _ k _ _ hs.row
                            rw [← Nat.add_assoc] at gt
                            have hk6 : (k : Int) < 64 := by omega
                            obtain ⟨e0, e1, e2, e3, e4, e5⟩ := idx3 q k j M hqM hMb hlt16 hltj
                            generalize (BitVec.ofNat 32 (bep blk k j) : W).toNat = y at *
                            have hz32 := (BitVec.ofNat 32 (bep blk k (j + 1)) : W).isLt
                            generalize hz0 : (BitVec.ofNat 32 (bep blk k (j + 1)) : W).toNat = z at *
                            have HZ := Lib.hid hz0
                            clear hz0
                            generalize (at8 blk (4 * k + j)).toNat = x at *
                            simp only [List.take_succ_cons, List.take_zero, List.drop_succ_cons, List.drop_zero]
                            repeat still_step
                            refine wpStill_nil ?_
                            go_wp2_with fail
                            go_roundw
                            case rel => exact ⟨j + 1, by omega, by go_num, by rw [← HPW.out]; exact hs.set k _ _ (by first | (rw [HZ.out]; done) | (rw [HZ.out]; omega))⟩
                            case measure => simp [intOf]; omega
                          · obtain rfl : j = 4 := by omega
                            rw [wp_four blk k hlt16] at hs
                            go_wp2_with fail
                            go_roundw
                            case rel => exact ⟨k + 1, by omega, by go_num, hs⟩
                            case measure => simp [intOf]; omega
                        --]]D
                      ·
                        --[[E
                        have hdk6 : decide ((k : Int) < 16) = false := decide_eq_false (by omega)
                        have g15 := fun n => (hs.drewN n).get (wz_length blk k hk) (k - 15) (by omega)
                        have g2 := fun n => (hs.drewN n).get (wz_length blk k hk) (k - 2) (by omega)
                        obtain ⟨e0, e1, e2, e3⟩ := less k 15 15 rfl hltk (by omega)
                        obtain ⟨f0, f1, f2, f3⟩ := less k 2 2 rfl hltk (by omega)
                        go_wp2_with fail
                        go_quiet ((go_at_call 79; exact right_q _ _ _ _ (by omega) (by omega)))
                        clear g15 g2
                        have hs := hs.drewN nq
                        generalize wr.drewN nq = w7 at hs ⊢
                        have g15 := fun n => (hs.drewN n).get (wz_length blk k hk) (k - 15) (by omega)
                        have g2 := fun n => (hs.drewN n).get (wz_length blk k hk) (k - 2) (by omega)
                        go_wp2_with fail
                        go_quiet ((go_at_call 79; exact right_q _ _ _ _ (by omega) (by omega)))
                        clear g15 g2 e0 e1 e2 e3 f0 f1 f2 f3
                        have hs := hs.drewN nq
                        generalize w7.drewN nq = w8 at hs ⊢
                        go_wp2_with fail
                        refine wp_region_still_tail 15 (by kernel_rfl) (by kernel_rfl) ?_
                        have hs := hs.drew
                        change wpStill _ _ w8.drew (fun a' => wpList _ _ _ _ a' w8.drew) _ _
                        generalize w8.drew = w9 at hs ⊢
                        have g16 := hs.get (wz_length blk k hk) (k - 16) (by omega)
                        have g7 := hs.get (wz_length blk k hk) (k - 7) (by omega)
                        have gw := hs.get (wz_length blk k hk) k (by omega)
                        have gf := frozen_of_row _ _ k _ _ hs.row
                        obtain ⟨e0, e1, e2, e3⟩ := less k 16 16 rfl hltk (by omega)
                        obtain ⟨f0, f1, f2, f3⟩ := less k 7 7 rfl hltk (by omega)
                        have hk6 : (k : Int) < 64 := by omega
                        simp only [List.take_succ_cons, List.take_zero, List.drop_succ_cons, List.drop_zero]
                        repeat still_step
                        refine wpStill_nil ?_
                        clear e0 e1 e2 e3 f0 f1 f2 f3
                        go_wp2_with fail
                        go_roundw
                        case rel =>
                          refine ⟨k + 1, by omega, by go_num, ?_⟩
                          rw [← wz_step blk k hltk]
                          refine hs.set k _ _ ?_
                          rw [sig0_eq, sig1_eq, sum4]
                          simp only [wnext, if_neg hlt16, wz_getD _ _ _ (show k - 16 < k by omega), wz_getD _ _ _ (show k - 15 < k by omega), wz_getD _ _ _ (show k - 7 < k by omega), wz_getD _ _ _ (show k - 2 < k by omega)]
                          rw [sum4']
                        case measure => simp [intOf]; omega
                        --]]E
                    · obtain rfl : k = 64 := by omega
                      rw [wz_full] at hs
                      have hS := (hs.below.block _ hnlt).trans hsrow
                      have hKK := (hs.below.block _ (Nat.lt_of_lt_of_le (by omega) hgrw.size)).trans HKR.out
                      have hKC : ∀ i, i < 64 → wr.cell? ⟨n1 + 1, i, none⟩ = some (.int .u32 ((at32 Kc i).toNat : Int)) := fun i hi => by
                        rw [cell_of_row _ _ _ _ _ _ hKK, List.getElem?_toArray]; exact U_get _ _ hi
                      have HKC := Lib.hid hKC
                      have HSR := Lib.hid hsrow
                      clear hKK hKC HBLK hsrow hltk hk
                      obtain ⟨s0, s1, s2, s3, s4, s5, s6, s7⟩ := S
                      replace hS : wr.heap[n1]? = some (.cells (U [s0, s1, s2, s3, s4, s5, s6, s7]).toArray 109) := hS
                      have HS := Lib.hid hS
                      obtain ⟨c0, c1, c2, c3, c4, c5, c6, c7⟩ := x_cells (R := []) (by simpa using hS)
                      clear hS
                      rw [show ((64 : Nat) : Int) = 64 from rfl]
                      go_wp2_with fail
                      go_quiet (fail)
                      clear c0 c1 c2 c3 c4 c5 c6 c7
                      have hs := hs.drewN nq
                      have HKC := HKC
                      have hKC : Hid (∀ i, i < 64 → (wr.drewN nq).cell? ⟨n1 + 1, i, none⟩ = some (.int .u32 ((at32 Kc i).toNat : Int))) := HKC
                      have hSS : Hid ((wr.drewN nq).heap[n1]? = some (.cells (U [s0, s1, s2, s3, s4, s5, s6, s7]).toArray 109)) := HS
                      clear HKC HS
                      generalize wr.drewN nq = w7 at hs hKC hSS ⊢
                      have hWI := wl_length blk 64
                      go_wp2_with fail
                      go_loopw [24, 16, 17, 18, 19, 20, 21, 22, 23] (fun v va vb vc vd ve vf vg vh w7 => ∃ (k : Nat) (x : S8), k ≤ 64 ∧ v = .int .i64 (k : Int) ∧ va = .int .u32 (x.a.toNat : Int) ∧ vb = .int .u32 (x.b.toNat : Int) ∧ vc = .int .u32 (x.c.toNat : Int) ∧ vd = .int .u32 (x.d.toNat : Int) ∧
                        ve = .int .u32 (x.e.toNat : Int) ∧ vf = .int .u32 (x.f.toNat : Int) ∧ vg = .int .u32 (x.g.toNat : Int) ∧ vh = .int .u32 (x.h.toNat : Int) ∧ x = rounds blk ⟨s0, s1, s2, s3, s4, s5, s6, s7⟩ k ∧ ScAt wB w7 (wl blk 64) ∧
                        (∀ i, i < 64 → w7.cell? ⟨n1 + 1, i, none⟩ = some (.int .u32 ((at32 Kc i).toNat : Int))) ∧ w7.heap[n1]? = some (.cells (U [s0, s1, s2, s3, s4, s5, s6, s7]).toArray 109)) (fun v _ _ _ _ _ _ _ _ _ => 64 - (intOf v).toNat)
                      case atStart => exact ⟨0, ⟨s0, s1, s2, s3, s4, s5, s6, s7⟩, by omega, rfl, rfl, rfl, rfl, rfl, rfl, rfl, rfl, rfl, rfl, hs, hKC.out, hSS.out⟩
                      case round =>
                        clear hs hKC hSS
                        obtain ⟨k, x, hk, rfl, rfl, rfl, rfl, rfl, rfl, rfl, rfl, rfl, hx, hs, hKC, hSS⟩ := hrel
                        obtain ⟨x0, x1, x2, x3, x4, x5, x6, x7⟩ := x
                        simp only
                        by_cases hltk : k < 64
                        ·
                          --[[F
                          have hr : rounds blk ⟨s0, s1, s2, s3, s4, s5, s6, s7⟩ (k + 1) = (rounds blk ⟨s0, s1, s2, s3, s4, s5, s6, s7⟩ k).round (at32 Kc k) (at32 (wl blk 64) k) := rfl
                          rw [← hx] at hr
                          have HR := Lib.hid hr
                          clear hr hx
                          have gK := hKC k hltk
                          have gW := hs.get hWI k hltk
                          have hdk : decide ((k : Int) < 64) = true := decide_eq_true (by omega)
                          have et := tor_eq2 ⟨x0, x1, x2, x3, x4, x5, x6, x7⟩ (at32 Kc k) (at32 (wl blk 64) k)
                          have eu := uor_eq ⟨x0, x1, x2, x3, x4, x5, x6, x7⟩
                          simp only at et eu
                          have HET := Lib.hid et; have HEU := Lib.hid eu
                          have HKC := Lib.hid hKC; have HSS := Lib.hid hSS
                          clear et eu hKC hSS
                          generalize hkk : at32 Kc k = kk at *
                          generalize hww : at32 (wl blk 64) k = ww at *
                          clear hkk hww
                          go_wp2_with fail
                          go_quiet ((go_at_call 79; exact right_q _ _ _ _ (by omega) (by omega)))
                          clear gK gW
                          have hs := hs.drewN nq
                          have HKC : Hid (∀ i, i < 64 → (wr.drewN nq).cell? ⟨n1 + 1, i, none⟩ = some (.int .u32 ((at32 Kc i).toNat : Int))) := HKC
                          have HSS : Hid ((wr.drewN nq).heap[n1]? = some (.cells (U [s0, s1, s2, s3, s4, s5, s6, s7]).toArray 109)) := HSS
                          generalize wr.drewN nq = w8 at hs HKC HSS ⊢
                          rw [HET.out]
                          have ht5 : (⟨x0, x1, x2, x3, x4, x5, x6, x7⟩ : S8).t kk ww = S8.t ⟨x0, x1, x2, x3, x4, x5, x6, x7⟩ kk ww := rfl
                          generalize hte : S8.t ⟨x0, x1, x2, x3, x4, x5, x6, x7⟩ kk ww = tt at *
                          have HTE := Lib.hid hte
                          clear hte ht5 HET
                          go_wp2_with (go_at_call 79; refine (right_k _ _ _ (by omega) (by omega)).mono ?_; rintro e w' ⟨rfl, rfl⟩)
                          generalize hue : S8.u ⟨x0, x1, x2, x3, x4, x5, x6, x7⟩ = uu at *
                          have HUE := Lib.hid hue
                          clear hue
                          go_roundw
                          case rel =>
                            refine ⟨k + 1, ⟨tt + uu, x0, x1, x2, x3 + tt, x4, x5, x6⟩, by omega, by go_num, ?_, rfl, rfl, rfl, ?_, rfl, rfl, rfl, ?_, hs, HKC.out, HSS.out⟩
                            · exact congrArg (Value.int .u32) (add_u _ _ _ ((Int.emod_emod_of_dvd _ (Int.dvd_refl _)).trans HEU.out))
                            · simp only; rw [← sum_w]
                            · rw [HR.out, S8.round, HTE.out, HUE.out]
                          case measure => simp [intOf]; omega
                          --]]F
                        · obtain rfl : k = 64 := by omega
                          --[[G
                          rw [show ((64 : Nat) : Int) = 64 from rfl]
                          have hgr : wB.grownBy wr (some n1) := grownBy_of_below hs.below _
                          have hcomp : comp ⟨s0, s1, s2, s3, s4, s5, s6, s7⟩ blk = S8.add ⟨s0, s1, s2, s3, s4, s5, s6, s7⟩ ⟨x0, x1, x2, x3, x4, x5, x6, x7⟩ := by rw [hx]; rfl
                          have hws := hs.below.size
                          have HCOMP := Lib.hid hcomp
                          have hA0 : AdAt wB (wr.alloc (.cells (U [x0, x1, x2, x3, x4, x5, x6, x7]).toArray 108)) n1 wr.heap.size ⟨s0, s1, s2, s3, s4, s5, s6, s7⟩ ⟨x0, x1, x2, x3, x4, x5, x6, x7⟩ 0 :=
                            ⟨grownBy.trans hgr (World.grownBy_alloc _ _ _), heap_alloc_new wr _, (heap_alloc_old wr _ (Nat.lt_of_lt_of_le hnlt hws)).trans hSS⟩
                          clear hx hs hKC hSS hcomp hgr hltk hk
                          go_wp2_with fail
                          have hne : n1 ≠ wr.heap.size := by omega
                          rename World => w6
                          go_loopw [256] (fun v w7 => ∃ k : Nat, k ≤ 8 ∧ v = .int .i64 (k : Int) ∧ AdAt wB w7 n1 w6.heap.size ⟨s0, s1, s2, s3, s4, s5, s6, s7⟩ ⟨x0, x1, x2, x3, x4, x5, x6, x7⟩ k) (fun v _ => 8 - (intOf v).toNat)
                          case atStart => exact ⟨0, by omega, rfl, hA0⟩
                          case round =>
                            clear hA0
                            obtain ⟨k, hk, rfl, hA⟩ := hrel
                            by_cases hltk : k < 8
                            · have gx : wr.cell? ⟨w6.heap.size, k, none⟩ = some (.int .u32 ((at32 (S8.l ⟨x0, x1, x2, x3, x4, x5, x6, x7⟩) k).toNat : Int)) := by
                                rw [cell_of_row _ _ _ _ _ _ hA.row, List.getElem?_toArray]; exact U_get _ _ hltk
                              have gs : wr.cell? ⟨n1, k, none⟩ = some (.int .u32 ((at32 (S8.l ⟨s0, s1, s2, s3, s4, s5, s6, s7⟩) k).toNat : Int)) := by
                                rw [cell_of_row _ _ _ _ _ _ hA.s]
                                have := mix_cell ⟨s0, s1, s2, s3, s4, s5, s6, s7⟩ ⟨x0, x1, x2, x3, x4, x5, x6, x7⟩ [] k hltk
                                rwa [List.append_nil] at this
                              have gf := frozen_of_row _ _ k _ _ hA.s
                              have hst := hA.set hne hltk
                              have HST := Lib.hid hst
                              clear hst
                              generalize at32 (S8.l ⟨x0, x1, x2, x3, x4, x5, x6, x7⟩) k = y at *
                              generalize at32 (S8.l ⟨s0, s1, s2, s3, s4, s5, s6, s7⟩) k = z at *
                              clear HSHA HB3 HR3 HBY7 HTL HK3 HKC HKR HSR HSTEP HCOMP hs hWI HBY HRES hg hb1 hbw hA hpc hl6 hc4 hzl hc5 hc6 hM hMb hc7 hgsz hsz1 hgl hsz2 hg7 hn1 hb HQ hlt hqM hgrw hg6r
                              go_wp2_with fail
                              go_roundw
                              case rel => exact ⟨k + 1, by omega, by go_num, HST.out⟩
                              case measure => simp [intOf]; omega
                            · obtain rfl : k = 8 := by omega
                              rw [show ((8 : Nat) : Int) = 8 from rfl]
                              have hfin : BlkAt W3 wr n1 T (b + 1) := by
                                refine ⟨grownBy.trans hgrw hA.grown, ?_⟩
                                rw [HSTEP.out, HCOMP.out]
                                have := hA.s
                                rwa [mix, List.take_of_length_le (by simp [S8.l]), List.drop_of_length_le (by simp [S8.l]), List.append_nil] at this
                              clear hA
                              go_wp2_with fail
                              go_roundw
                              case rel => exact ⟨b + 1, by have h1 := HQ.out; have h2 := hqM; omega, by have h1 := HQ.out; go_num, hfin⟩
                              case measure => simp [intOf]; omega
                          --]]G
                · 
                  --[[H
                  obtain rfl : q = M := by omega
                  have hsr := hBl.s
                  have hgr := hBl.grown
                  have hfd : feedN b H0 T = feed H0 T := by unfold feed; rw [HTL.out, show q / 64 = b by have := HQ.out; omega]
                  rw [hfd] at hsr
                  have hwn : w.heap.size < n1 := by omega
                  have hbw : Below w.heap.size w wB := HB3.out.grown hgr HB3.out.size (fun k hk => by cases hk; omega)
                  have hres : wB.heap[w.heap.size]? = some (.cells (Bs (List.replicate 32 0)).toArray 24) := (hgr.block _ (by omega) (by simp; omega)).trans HR3.out
                  have hO0 := fun zs => OuAt.start wB n1 (feed H0 T) zs hsr
                  have HO0 := Lib.hid hO0; have HBW := Lib.hid hbw; have HRES := Lib.hid hres
                  clear hBl hsr hgr hfd hbw hres hO0 hlt hb HK3 HB3 HR3 HBY7
                  generalize feed H0 T = S at *
                  go_wp2_with (first
                    | (refine wpList_store_row rfl 24 (.tmp 29) (.tmp 268) rfl _ _ rfl rfl 24 _ (heap_alloc_new wB _) (by kernel_rfl) (by kernel_rfl) (by kernel_rfl) ?_))
                  go_loopw [30] (fun v wr => ∃ i : Nat, i ≤ 32 ∧ v = .int .i64 (i : Int) ∧ OuAt wB wr n1 S i) (fun v _ => 32 - (intOf v).toNat)
                  case atStart => exact ⟨0, by omega, rfl, HO0.out _⟩
                  case round =>
                    obtain ⟨i, hi, rfl, ho⟩ := hrel
                    by_cases hlti : i < 32
                    · have gs : wr.cell? ⟨n1, i / 4, none⟩ = some (.int .u32 ((at32 S.l (i / 4)).toNat : Int)) := by
                        rw [cell_of_row _ _ _ _ _ _ ho.s, List.getElem?_toArray]; exact U_get _ _ (by rw [l_length]; omega)
                      have go : wr.cell? ⟨wB.heap.size, i, none⟩ = some (.int .u8 ((at8 (outp S i) i).toNat : Int)) := by
                        rw [cell_of_row _ _ _ _ _ _ ho.row, List.getElem?_toArray]; exact Bs_get _ _ (by rw [outp_length S i hi]; exact hlti)
                      have gf := frozen_of_row _ _ i _ _ ho.row
                      obtain ⟨e0, e1, e2, e3, e4, e5, e6⟩ := out_idx i hlti
                      have hob := outB_val S i
                      have HOB := Lib.hid hob
                      clear hob
                      go_wp2_with fail
                      go_roundw
                      case rel => exact ⟨i + 1, by omega, by go_num, ho.set hlti _ HOB.out.symm⟩
                      case measure => simp [intOf]; omega
                    · obtain rfl : i = 32 := by omega
                      rw [show ((32 : Nat) : Int) = 32 from rfl]
                      have hrow := ho.row
                      have hwlt : w.heap.size < wB.heap.size := (Array.getElem?_eq_some_iff.1 HRES.out).1
                      rw [outp_full, ← HSHA.out] at hrow
                      have hres := (ho.below.block _ hwlt).trans HRES.out
                      have hbel := HBW.out.trans (ho.below.mono (Nat.le_of_lt hwlt))
                      have i24 : (Tryd.prog.info? 24).map (·.size) = some (Bs (sha l)).toArray.size := by rw [List.size_toArray, Bs_length, sha_length]; exact info24
                      have hzz : (Bs (List.replicate 32 0)).toArray.size = (Bs (sha l)).toArray.size := by rw [List.size_toArray, List.size_toArray, Bs_length, Bs_length, sha_length]; rfl
                      have h1 : (Bs (sha l)).toArray.all (·.oneCell') = true := all_oneCell_toArray (Bs_mem _)
                      clear ho hlti hi HO0 HSHA HBW HRES
                      generalize hcs : (Bs (sha l)).toArray = cs at *
                      have HC := Lib.hid hcs
                      clear hcs
                      generalize (Bs (List.replicate 32 0)).toArray = zs at *
                      have HO := Lib.hid hrow; have HR := Lib.hid hres; have HI := Lib.hid i24; have HZ := Lib.hid hzz; have H1 := Lib.hid h1; have HBE := Lib.hid hbel
                      clear hrow hres i24 hzz h1 hbel hwlt
                      go_wp2_with (first
                        | refine wpList_load_row rfl 24 (.tmp 29) rfl wB.heap.size rfl 24 _ (0, 0) _ HO.out Tryd.underlying24 rfl HI.out ?_
                        | refine wpList_store_row rfl 24 (.tmp 2) (.tmp 286) rfl _ _ rfl rfl 24 _ HR.out HI.out HZ.out H1.out ?_)
                      have hrow := setRow_heap wr w.heap.size zs cs 24 (0, 0) HR.out
                      exact bodyPost_ret (v := .agg cs) (results_cell_row rfl _ _ w.heap.size 24 cs (0, 0) _ rfl hrow Tryd.underlying24 rfl HI.out) rfl ⟨by rw [HC.out], below_setRow HBE.out (Nat.le_refl _) _⟩
                  --]]H
        ·
          --[[B
          have ht : (((l.length + 1 + j : Nat) : Int) % 64 != 56) = true := by
            rw [bne_iff_ne]
            unfold zpad at *
            omega
          have hgp : 0 < gk := by omega
          have hjn : l.length + 1 + j ≤ 1000065 := by omega
          generalize hN0 : l.length + 1 + j = N at *
          generalize ht0 : l ++ [128] ++ List.replicate j 0 = t at *
          have HT0 := Lib.hid ht0; have HN0 := Lib.hid hN0; have HJ := Lib.hid hj
          clear ht0 hN0 hz hzl hj hg
          obtain ⟨g5, c5, rfl, hc5⟩ := hO.form
          have htl := hO.len
          go_wp2_with (refine wpList_append_bytes rfl (.tmp 64) (.tmp 65) rfl (w1.heap.size + 2) _ t rfl (hO.own.alloc _) (some ⟨wr.heap.size, 0, none⟩) [0] 1 rfl (bytes_new _ _ _ rfl) (fun h => by cases h) (by simp; omega) (by have := hO.below.size; simp; omega) ?_; rintro v6 w6 ho6 hg6 hn6; have hO6 := hO.grow ((Below.refl _ _).alloc (Nat.le_refl _) _) hg6 ho6 hn6; clear ho6 hg6 hn6; rw [List.length_singleton] at hO6)
          go_roundg (gk - 1)
          case measure => omega
          case rel => exact ⟨j + 1, by have := HJ.out; omega, by rw [List.replicate_succ', ← List.append_assoc, HT0.out, show l.length + 1 + (j + 1) = N + 1 by have := HN0.out; omega]; exact hO6⟩
          --]]B
end Go.Proofs.YtbioclpobmgikaaDoor
