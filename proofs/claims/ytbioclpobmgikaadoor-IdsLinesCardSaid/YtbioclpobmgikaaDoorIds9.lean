/- The law of layer 25 on old ids one behind the other: its walk. -/
import Derived.Test.YtbioclpobmgikaaDoorIds8
namespace Go.Proofs.YtbioclpobmgikaaDoor
open Go.RowKit

set_option maxHeartbeats 4000000 in
set_option maxRecDepth 100000 in
theorem idsLines_walk (A : Option Addr) (cs : List (List UInt8)) (c : Nat) (B : Option Addr) (ps : List (List UInt8)) (d : Nat) (w : World) (hL : Laid w)
    (hA : TextsAt w A cs) (hm : c ≤ maxLen) (hc : cs.length ≤ c) (hB : PartsAt w B ps) (hlp : ∀ j, j < ps.length → (ps.getD j []).length ≤ 140737488351232) :
    Calls Tryd.prog 14 #[.slice A cs.length c, .slice B ps.length d] w fun e w' => e = .returned (.bool true) ∧ Below w.heap.size w w' := by
  have htl := St_toList
  have hlong := fun w' (h : Below w.heap.size w w') => long_any25 cs A c w' (hA.below h) (by omega)
  have HA := Lib.hid hA; have HB := Lib.hid hB; have HLONG := Lib.hid hlong; have HLP := Lib.hid hlp
  clear hA hB hlong hm hc hlp
  generalize hn : cs.length = n at *
  generalize hm : ps.length = m at *
  have HN := Lib.hid hn; have HM := Lib.hid hm
  clear hn hm
  go_enter Tryd.func14, Tryd.ntmps14
  go_wp2_with fail
  refine (alive25_any _ hL).mono ?_
  rintro e w1 ⟨rfl, hb1⟩
  go_wp2_with fail
  refine (HLONG.out w1 hb1).mono ?_
  rintro e w' ⟨r, rfl, rfl, hr⟩
  cases r with
  | true =>
    go_wp2_with fail
    go_ret
    exact ⟨rfl, hb1⟩
  | false =>
    obtain ⟨h21, h200⟩ := hr rfl
    have H200 := Lib.hid h200
    clear hr h200 HLONG
    by_cases hm20 : 20 < m
    · have hd : decide ((m : Int) > 20) = true := decide_eq_true (by omega)
      go_wp2_with fail
      go_ret
      exact ⟨rfl, hb1⟩
    · have hd : decide ((m : Int) > 20) = false := decide_eq_false (by omega)
      by_cases hnm : n = m
      · have hne : ((n : Int) != (m : Int)) = false := by rw [bne_eq_false_iff_eq]; omega
        have hB1 : PartsAt w1 B ps := fun j hj => by
          obtain ⟨a, ha, A', c', h1, h2, h3⟩ := HB.out j hj
          exact ⟨a, ha, A', c', (hb1.cell (p := a.add j) (World.block_lt_of_cell? w _ h1)).trans h1, h2, h3.below hb1⟩
        have hA1 := HA.out.below hb1
        have hline := line_any cs ps A B c d n w1 (hL.below hb1) HN.out (by rw [HM.out, hnm]) hA1 hB1 (by omega) (fun j hj => Nat.le_trans (H200.out j (by first | exact hj | (rw [HN.out]; exact hj))) (by omega)) (fun j hj => HLP.out j (by omega))
        have HLINE := Lib.hid hline; have HA1 := Lib.hid hA1; have HB1 := Lib.hid hB1
        clear hline hA1 hB1 HA HB
        subst hnm
        go_wp2_with fail
        refine HLINE.out.mono ?_
        rintro e w2 ⟨hb2, v, rfl, hown⟩
        obtain ⟨A2, c2, rfl, _, hc2, hl2, hT2⟩ := own_texts hown
        have HT2 := Lib.hid hT2
        have hb2' := hb1.trans (hb2.mono hb1.size)
        clear hT2 hown HLINE
        go_wp2_with fail
        go_loopw [7, 8, 38] (fun p _ v wr => ∃ k : Nat, k ≤ n ∧ v = .int .i64 (k : Int) ∧ p = .string (St (parentAt cs ps k)) ∧ Below w2.heap.size w2 wr) (fun _ _ v _ => n - (intOf v).toNat)
        case atStart => exact ⟨0, by omega, rfl, rfl, Below.refl _ _⟩
        case round =>
          obtain ⟨k, hk, rfl, rfl, hbel⟩ := hrel
          have hbw := hb2'.trans (hbel.mono hb2'.size)
          by_cases hlt : k < n
          · have hb12 := hb2.trans (hbel.mono hb2.size)
            obtain ⟨a, rfl, hca⟩ := HA1.out k (by rw [HN.out]; exact hlt)
            obtain ⟨b, rfl, A', c', hcb, hc', hby⟩ := HB1.out k (by rw [HM.out]; exact hlt)
            have ga : wr.cell? (a.add k) = some (.string (St (cs.getD k []))) := (hb12.cell (p := a.add k) (World.block_lt_of_cell? w1 _ hca)).trans hca
            have gb : wr.cell? (b.add k) = some (.slice A' (ps.getD k []).length c') := (hb12.cell (p := b.add k) (World.block_lt_of_cell? w1 _ hcb)).trans hcb
            obtain ⟨a2, rfl, hc2l⟩ := HT2.out k (by rw [lineTo_length]; exact hlt)
            rw [lineTo_get _ _ _ _ hlt] at hc2l
            by_cases hp200 : 200 < (ps.getD k []).length
            · have hd2 : decide (((ps.getD k []).length : Int) > 200) = true := decide_eq_true (by omega)
              generalize (ps.getD k []).length = pl at *
              go_wp2_with fail
              go_ret
              exact ⟨rfl, hbw⟩
            · have hd2 : decide (((ps.getD k []).length : Int) > 200) = false := decide_eq_false (by omega)
              have hpl := parentAt_len cs ps k
              have hcl : (cs.getD k []).length ≤ 200 := H200.out k hlt
              have hr := fun W => oldRef_any (parentAt cs ps k) (cs.getD k []) (ps.getD k []) W (by omega)
              rw [show oldL (parentAt cs ps k) (cs.getD k []) (ps.getD k []) = parentAt cs ps (k + 1) from rfl] at hr
              have hcv : ∀ W, Below wr.heap.size wr W → (convert 22 9 (.slice A' (ps.getD k []).length c')).run Tryd.prog W = .ok (.string (St (ps.getD k []))) W := fun W h => str_bytes W A' (ps.getD k []) c' ((hby.below hb12).below h)
              have hcvd := hcv wr.drew ((Below.refl _ _).drew)
              have hS0 : Below wr.heap.size wr wr.drew ∧ wr.drew.cell? (a.add k) = some (.string (St (cs.getD k []))) ∧ wr.drew.cell? (b.add k) = some (.slice A' (ps.getD k []).length c') := ⟨(Below.refl _ _).drew, ga, gb⟩
              have gl : ∀ W, Below wr.heap.size wr W → W.cell? (a2.add k) = some (.string (St (parentAt cs ps (k + 1)))) := fun W h => ((hbel.trans (h.mono hbel.size)).cell (p := a2.add k) (World.block_lt_of_cell? w2 _ hc2l)).trans hc2l
              have HR := Lib.hid hr; have HS0 := Lib.hid hS0; have HCV := Lib.hid hcv; have GL := Lib.hid gl
              clear hr hS0 hcv gl hca hcb hby hc2l hpl hcl hb12
              generalize parentAt cs ps k = pt at *
              generalize hnx : parentAt cs ps (k + 1) = nx at *
              have HNX := Lib.hid hnx
              clear hnx
              generalize cs.getD k [] = ct at *
              generalize (ps.getD k []).length = pl at *
              generalize ps.getD k [] = pp at *
              go_wp2_with fail
              refine wp_region_still_tail 10 (by kernel_rfl) (by kernel_rfl) ?_
              have hbd : Below wr.heap.size wr wr.drew := (Below.refl _ _).drew
              have ga9 : wr.drew.cell? (a.add k) = some (.string (St ct)) := HS0.out.2.1
              have gb9 : wr.drew.cell? (b.add k) = some (.slice A' pl c') := HS0.out.2.2
              change wpStill _ _ wr.drew (fun a' => wpList _ _ _ _ a' wr.drew) _ _
              have GL2 := Lib.hid (fun W (h : Below wr.drew.heap.size wr.drew W) => GL.out W (hbd.trans (h.mono hbd.size)))
              have hbel9 := hbel.trans (hbd.mono hbel.size)
              have hsz9 := hbel9.size
              clear HCV HS0 GL ga gb hbd
              generalize wr.drew = w9 at *
              simp only [List.take_succ_cons, List.take_zero, List.drop_succ_cons, List.drop_zero]
              repeat still_step
              refine wpStill_nil ?_
              clear ga9 gb9 hcvd
              go_wp2_with fail
              refine (HR.out _).mono ?_
              rintro e w10 ⟨rfl, hb10⟩
              have hbel10 := hbel9.trans (hb10.mono hsz9)
              have gl := GL2.out w10 hb10
              have hge : decide ((k : Int) ≥ (n : Int)) = false := decide_eq_false (by omega)
              go_wp2_with fail
              go_roundw
              case rel => exact ⟨k + 1, by omega, by go_num, by rw [HNX.out], hbel10⟩
              case measure => simp [intOf]; omega
          · obtain rfl : k = n := by omega
            go_wp2_with fail
            go_ret
            exact ⟨rfl, hbw⟩
      · have hne : ((n : Int) != (m : Int)) = true := by rw [bne_iff_ne]; omega
        have hline := line_bad A B c d n m w1 hnm
        have hi : ∀ W, Calls Tryd.prog 40 #[.iface 54 (.int .i64 15), .int .i64 15] W fun e w' => e = .returned (.bool true) ∧ W = w' := fun W => numIs_any 15 15 (by omega) W
        have HLINE := Lib.hid hline; have HI := Lib.hid hi
        clear hline hi
        go_wp2_with fail
        refine HLINE.out.mono ?_
        rintro e w2 ⟨hb2, rfl⟩
        have hb2' := hb1.trans (hb2.mono hb1.size)
        go_wp2_with fail
        refine (HI.out _).mono ?_
        rintro e w' ⟨rfl, rfl⟩
        go_wp2_with fail
        go_ret
        exact ⟨rfl, hb2'⟩
end Go.Proofs.YtbioclpobmgikaaDoor
