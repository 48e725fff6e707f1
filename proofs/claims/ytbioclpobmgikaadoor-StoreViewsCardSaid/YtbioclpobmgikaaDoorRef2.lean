/- The document's constants: the walk of above and cube. -/
import Derived.Test.YtbioclpobmgikaaDoorRef1
namespace Go.Proofs.YtbioclpobmgikaaDoor
open Go.RowKit

/-- limbs as cells -/
def N64 (l : List Nat) : List Value := l.map fun x : Nat => Value.int .u64 ((x : Nat) : Int)
theorem N64_get (l : List Nat) (i : Nat) (h : i < l.length) : (N64 l)[i]? = some (.int .u64 ((atn l i : Nat) : Int)) := by
  simp [N64, atn, h]
theorem N64_set (l : List Nat) (i x : Nat) : (N64 l).set i (.int .u64 (x : Int)) = N64 (l.set i x) := by
  simp [N64, List.map_set]
theorem N64_length (l : List Nat) : (N64 l).length = l.length := by simp [N64]
theorem N64_mem (l : List Nat) : ∀ v ∈ N64 l, v.oneCell' = true := by
  intro v hv
  simp only [N64, List.mem_map] at hv
  obtain ⟨x, _, rfl⟩ := hv
  rfl
theorem info162 : (Tryd.prog.info? 162).map (·.size) = some 5 := by kernel_rfl

structure AbvAt (w wr : World) (x : Nat) (c : List Nat) : Prop where
  below : Below w.heap.size w wr
  a : wr.heap[w.heap.size]? = some (.cells (N64 (xs x)).toArray 162)
  c : wr.heap[w.heap.size + 1]? = some (.cells (N64 c).toArray 162)
structure NextAt (w wr : World) (x : Nat) (c : List Nat) (nb : Nat) (L : List Nat) : Prop extends AbvAt w wr x c where
  nx : wr.heap[nb]? = some (.cells (N64 L).toArray 162)
theorem row5_cell {w : World} {b : Nat} {l : List Nat} (h : w.heap[b]? = some (.cells (N64 l).toArray 162)) (hl : Lim l) (i : Nat) (hi : i < 5) : w.cell? ⟨b, i, none⟩ = some (.int .u64 ((atn l i : Nat) : Int)) := by
  rw [cell_of_row _ _ _ _ _ _ h, List.getElem?_toArray]
  exact N64_get _ _ (by rw [hl.1]; exact hi)
theorem NextAt.set {w wr : World} {x : Nat} {c : List Nat} {nb : Nat} {L : List Nat} (h : NextAt w wr x c nb L) (hn : w.heap.size + 1 < nb) (i v : Nat) : NextAt w (wr.setCell ⟨nb, i, none⟩ (.int .u64 (v : Int))) x c nb (L.set i v) := by
  refine ⟨⟨h.below.setCell (by simp; omega) _, ?_, ?_⟩, ?_⟩
  · rw [heap_setCell_other _ _ _ _ (by simp; omega)]; exact h.a
  · rw [heap_setCell_other _ _ _ _ (by simp; omega)]; exact h.c
  · rw [heap_setCell_same _ _ _ _ _ _ h.nx, List.setIfInBounds_toArray, N64_set]
theorem NextAt.drewN {w wr : World} {x : Nat} {c : List Nat} {nb : Nat} {L : List Nat} (h : NextAt w wr x c nb L) (n : Nat) : NextAt w (wr.drewN n) x c nb L :=
  ⟨⟨below_drewN h.below n, h.a, h.c⟩, h.nx⟩

set_option maxHeartbeats 1000000 in
set_option maxRecDepth 100000 in
theorem above_any (x n : Nat) (hx : x < 68719476736) (hn : n < 4294967296) (w : World) :
    Calls Tryd.prog 104 #[.int .u64 (x : Int), .int .u64 (n : Int)] w fun e w' => e = .returned (.bool (decide (n * 79228162514264337593543950336 < x * x * x))) ∧ Below w.heap.size w w' := by
  have hm := mask64 x (by omega)
  have hlx : Lim (xs x) := lim_start x hx
  have hplx := pw_lim x hx
  have hs0 : AbvAt w ((w.alloc (.cells #[.int .u64 ((x % 4294967296 : Nat) : Int), .int .u64 ((x / 4294967296 : Nat) : Int), .int .u64 0, .int .u64 0, .int .u64 0] 162)).alloc (.cells #[.int .u64 1, .int .u64 0, .int .u64 0, .int .u64 0, .int .u64 0] 162)) x (pw (xs x) 0) :=
    ⟨((Below.refl _ _).alloc (Nat.le_refl _) _).alloc (by simp) _, heap_alloc2_old w _ _, heap_alloc2_new w _ _⟩
  have e2 : (x : Int) / 4294967296 = ((x / 4294967296 : Nat) : Int) := by simp
  generalize hx1 : x / 4294967296 = x1 at *
  generalize hx0 : x % 4294967296 = x0 at *
  have HS := Lib.hid hs0
  clear hs0
  go_enter Tryd.func104, Tryd.ntmps104
  go_wp2_with fail
  go_loopw [7] (fun v wr => ∃ k : Nat, k ≤ 3 ∧ v = .int .i64 (k : Int) ∧ AbvAt w wr x (pw (xs x) k)) (fun v _ => 3 - (intOf v).toNat)
  case atStart => exact ⟨0, by omega, rfl, HS.out⟩
  case round =>
    clear HS
    obtain ⟨k, hk, rfl, hs⟩ := hrel
    by_cases hlt : k < 3
    · have hdk : decide ((k : Int) < 3) = true := decide_eq_true (by omega)
      have hlc := hplx k
      have hnext : pw (xs x) (k + 1) = row (pw (xs x) k) (xs x) 5 := rfl
      have HNX := Lib.hid hnext
      clear hnext
      generalize pw (xs x) k = c at *
      have hlr := row_lim c (xs x) hlc hlx
      have hsz : w.heap.size + 1 < wr.heap.size := (Array.getElem?_eq_some_iff.1 hs.c).1
      have hn0 : NextAt w (wr.alloc (.cells #[.int .u64 0, .int .u64 0, .int .u64 0, .int .u64 0, .int .u64 0] 162)) x c wr.heap.size (row c (xs x) 0) :=
        ⟨⟨hs.below.alloc hs.below.size _, (heap_alloc_old wr _ (by omega)).trans hs.a, (heap_alloc_old wr _ hsz).trans hs.c⟩, heap_alloc_new wr _⟩
      have HN0 := Lib.hid hn0
      clear hn0
      go_wp2_with fail
      generalize wr.heap.size = nb at *
      go_loopw [9] (fun v wr => ∃ i : Nat, i ≤ 5 ∧ v = .int .i64 (i : Int) ∧ NextAt w wr x c nb (row c (xs x) i)) (fun v _ => 5 - (intOf v).toNat)
      case atStart => exact ⟨0, by omega, rfl, HN0.out⟩
      case round =>
        clear HN0
        obtain ⟨i, hi, rfl, hs⟩ := hrel
        by_cases hlti : i < 5
        · have hdi : decide ((i : Int) < 5) = true := decide_eq_true (by omega)
          have hL := (hlr i hi).1
          have hz := (hlr i hi).2
          have hrs : row c (xs x) (i + 1) = rowStep (row c (xs x) i) (atn c i) (xs x) i := rfl
          have HRS := Lib.hid hrs
          clear hrs
          generalize row c (xs x) i = L at *
          have hci := hlc.2 i
          have hil := inn_lim L (atn c i) (xs x) i hL hci hlx
          have hif := inn_far L (atn c i) (xs x) i (i + 2) hL hci hlx
          go_wp2_with fail
          go_loopw [11, 10] (fun v u wr => ∃ j : Nat, j ≤ innN i ∧ v = .int .i64 (j : Int) ∧ u = .int .u64 (((inn L (atn c i) (xs x) i j).2 : Nat) : Int) ∧ NextAt w wr x c nb (inn L (atn c i) (xs x) i j).1) (fun v _ _ => 2 - (intOf v).toNat)
          case atStart => exact ⟨0, by omega, rfl, rfl, hs⟩
          case round =>
            clear hs
            obtain ⟨j, hj, rfl, rfl, hs⟩ := hrel
            have hin := innN_le i hlti
            obtain ⟨hlj, hcj⟩ := hil j (by omega)
            have hnx : inn L (atn c i) (xs x) i (j + 1) = innStep (atn c i) (xs x) i j (inn L (atn c i) (xs x) i j) := rfl
            have HNJ := Lib.hid hnx
            clear hnx
            by_cases hltj : j < innN i
            · have hj2 : j < 2 := by unfold innN at hltj; split at hltj <;> omega
              have hij : i + j < 5 := by omega
              have gn := fun m => row5_cell (hs.drewN m).nx hlj (i + j) hij
              have gc := fun m => row5_cell (hs.drewN m).c hlc i hlti
              have ga := fun m => row5_cell (hs.drewN m).a hlx j (by omega)
              have hv := step_bound (atn (inn L (atn c i) (xs x) i j).1 (i + j)) (atn c i) (atn (xs x) j) (inn L (atn c i) (xs x) i j).2 (hlj.2 _) hci (hlx.2 j) hcj
              have HS := Lib.hid hs
              clear hs
              unfold innStep at HNJ
              generalize inn L (atn c i) (xs x) i j = p at *
              obtain ⟨p1, p2⟩ := p
              simp only at gn hv hcj HNJ HS hlj
              generalize atn p1 (i + j) = n0 at *
              generalize hci0 : atn c i = ci at *
              generalize atn (xs x) j = aj at *
              have e0 : (ci : Int) * (aj : Int) = ((ci * aj : Nat) : Int) := by simp
              generalize ci * aj = q at *
              have e1 : IntKind.u64.wrap (q : Int) = (q : Int) := u64_in _ (by omega)
              have e3 : IntKind.i64.wrap ((i : Int) + (j : Int)) = (i : Int) + (j : Int) := IntWalk.i64_in _ (by omega)
              have e4 : ((i : Int) + (j : Int)).toNat = i + j := by omega
              have e5 := mask64 (n0 + q + p2) (by omega)
              rw [Int.natCast_add, Int.natCast_add] at e5
              have e6 : (((n0 + q + p2) / 4294967296 : Nat) : Int) = ((n0 : Int) + (q : Int) + (p2 : Int)) / 4294967296 := by simp
              generalize hd6 : (n0 + q + p2) / 4294967296 = d6 at *
              generalize hd5 : (n0 + q + p2) % 4294967296 = d5 at *
              go_wp2_with fail
              go_quiet (fail)
              clear gn gc ga
              have hs := HS.out.drewN nq
              generalize wr.drewN nq = w2 at hs ⊢
              have gn := row5_cell hs.nx hlj (i + j) hij
              have gf := frozen_of_row _ _ (i + j) _ _ hs.nx
              go_wp2_with fail
              go_roundw
              case rel =>
                refine ⟨j + 1, by omega, by go_num, ?_, ?_⟩
                · rw [HNJ.out, ← e6]
                · rw [HNJ.out]; exact hs.set hsz _ _
              case measure => simp [intOf]; omega
            · obtain rfl : j = innN i := by omega
              clear hltj hj
              have HS := Lib.hid hs
              have HRS' : Hid (row c (xs x) (i + 1) = if i < 3 then (inn L (atn c i) (xs x) i (innN i)).1.set (i + 2) (atn (inn L (atn c i) (xs x) i (innN i)).1 (i + 2) + (inn L (atn c i) (xs x) i (innN i)).2) else (inn L (atn c i) (xs x) i (innN i)).1) := HRS.out
              clear HRS HNJ
              rcases (show i < 3 ∨ i = 3 ∨ i = 4 by omega) with h3 | rfl | rfl
              · have hN : innN i = 2 := by unfold innN; rw [if_pos (by omega)]
                rw [hN] at hs HS HRS' hlj hcj hin ⊢
                have hf2 := hif 2 (by omega) (by omega)
                rw [hz _ (by omega)] at hf2
                rw [if_pos h3] at HRS'
                clear hs hil hif hN
                generalize inn L (atn c i) (xs x) i 2 = p at *
                obtain ⟨p1, p2⟩ := p
                simp only at HRS' HS hlj hcj hf2
                have gn := row5_cell HS.out.nx hlj (i + 2) (by omega)
                have gf := frozen_of_row _ _ (i + 2) _ _ HS.out.nx
                rw [hf2] at gn HRS'
                rw [Nat.zero_add] at HRS'
                have e4 : ((i : Int) + 2).toNat = i + 2 := by omega
                rw [show ((2 : Nat) : Int) = 2 from rfl]
                go_wp2_with fail
                go_roundw
                case rel => exact ⟨i + 1, by omega, by go_num, by rw [HRS'.out]; exact HS.out.set hsz _ _⟩
                case measure => simp [intOf]; omega
              · have hN : innN 3 = 2 := rfl
                rw [hN] at hs HS HRS' hlj hcj hin ⊢
                rw [if_neg (by omega)] at HRS'
                clear hs hil hif hN
                generalize inn L (atn c 3) (xs x) 3 2 = p at *
                rw [show ((2 : Nat) : Int) = 2 from rfl, show ((3 : Nat) : Int) = 3 from rfl]
                go_wp2_with fail
                go_roundw
                case rel => exact ⟨3 + 1, by omega, by go_num, by rw [HRS'.out]; exact HS.out⟩
                case measure => simp [intOf]
              · have hN : innN 4 = 1 := rfl
                rw [hN] at hs HS HRS' hlj hcj hin ⊢
                rw [if_neg (by omega)] at HRS'
                clear hs hil hif hN
                generalize inn L (atn c 4) (xs x) 4 1 = p at *
                rw [show ((1 : Nat) : Int) = 1 from rfl, show ((4 : Nat) : Int) = 4 from rfl]
                go_wp2_with fail
                go_roundw
                case rel => exact ⟨4 + 1, by omega, by go_num, by rw [HRS'.out]; exact HS.out⟩
                case measure => simp [intOf]
        · obtain rfl : i = 5 := by omega
          have hL := (hlr 5 hi).1
          have ha := hs.a
          have hc := hs.c
          have hn := hs.nx
          have hbel := hs.below
          rw [← HNX.out] at hn hL
          clear hlr hs HNX
          generalize hcs : (N64 (pw (xs x) (k + 1))).toArray = cs at *
          generalize hzs : (N64 c).toArray = zs at *
          have i162 : (Tryd.prog.info? 162).map (·.size) = some cs.size := by rw [← hcs, List.size_toArray, N64_length, hL.1]; exact info162
          have hzz : zs.size = cs.size := by rw [← hcs, ← hzs, List.size_toArray, List.size_toArray, N64_length, N64_length, hL.1, hlc.1]
          have h1 : cs.all (·.oneCell') = true := by rw [← hcs]; exact all_oneCell_toArray (N64_mem _)
          have HCS := Lib.hid hcs
          have HN := Lib.hid hn; have HC := Lib.hid hc; have HI := Lib.hid i162; have HZ := Lib.hid hzz; have H1 := Lib.hid h1; have HA := Lib.hid ha
          clear hcs hzs hn hc i162 hzz h1 ha
          rw [show ((5 : Nat) : Int) = 5 from rfl]
          go_wp2_with (first
            | refine wpList_load_row rfl 162 (.tmp 8) rfl nb rfl 162 _ (0, 0) _ HN.out Tryd.underlying162 rfl HI.out ?_
            | refine wpList_store_row rfl 162 (.tmp 6) (.tmp 73) rfl _ _ rfl rfl 162 _ HC.out HI.out HZ.out H1.out ?_)
          have hrow := setRow_heap wr (w.heap.size + 1) zs cs 162 (0, 0) HC.out
          go_roundw
          case rel =>
            refine ⟨k + 1, by omega, by go_num, below_setRow hbel (by omega) _, ?_, ?_⟩
            · rw [setRow_other _ _ _ _ (by omega)]; exact HA.out
            · rw [HCS.out]; exact hrow
          case measure => simp [intOf]; omega
    · obtain rfl : k = 3 := by omega
      rw [show ((3 : Nat) : Int) = 3 from rfl]
      have hl := hplx 3
      have hv := pw_val x hx
      have hae := above_eq _ n hl hn
      rw [hv] at hae
      have g0 := row5_cell hs.c hl 0 (by omega)
      have g1 := row5_cell hs.c hl 1 (by omega)
      have g2 := row5_cell hs.c hl 2 (by omega)
      have g3 := row5_cell hs.c hl 3 (by omega)
      have g4 := row5_cell hs.c hl 4 (by omega)
      have hbel := hs.below
      have HAE := Lib.hid hae
      clear hae hv hs hl hplx hlx hk hlt
      generalize atn (pw (xs x) 3) 0 = c0 at *
      generalize atn (pw (xs x) 3) 1 = c1 at *
      generalize atn (pw (xs x) 3) 2 = c2 at *
      generalize atn (pw (xs x) 3) 3 = c3 at *
      generalize atn (pw (xs x) 3) 4 = c4 at *
      by_cases h4 : 0 < c4
      · go_wp2_with fail
        go_ret
        exact ⟨by rw [← HAE.out]; simp [h4], hbel⟩
      · by_cases h3 : n < c3
        · go_wp2_with fail
          go_ret
          exact ⟨by rw [← HAE.out]; simp [h3], hbel⟩
        · by_cases h3e : c3 = n
          · subst h3e
            by_cases h2 : 0 < c2
            · go_wp2_with fail
              go_ret
              exact ⟨by rw [← HAE.out]; simp [h2], hbel⟩
            · by_cases h1 : 0 < c1
              · go_wp2_with fail
                go_ret
                exact ⟨by rw [← HAE.out]; simp [h1], hbel⟩
              · by_cases h0 : 0 < c0
                · go_wp2_with fail
                  go_ret
                  exact ⟨by rw [← HAE.out]; simp [h0], hbel⟩
                · go_wp2_with fail
                  go_ret
                  exact ⟨by rw [← HAE.out]; simp [h0, h1, h2, h4], hbel⟩
          · go_wp2_with fail
            go_ret
            exact ⟨by rw [← HAE.out]; simp [h3, h3e, h4], hbel⟩
end Go.Proofs.YtbioclpobmgikaaDoor
