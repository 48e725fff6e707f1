/- The law of layer 5 on which texts are names: its walk. -/
import Derived.Test.YtbioclpobmgikaaDoorLaw05b
namespace Go.Proofs.YtbioclpobmgikaaDoor
open Go.RowKit

theorem wpList_wanted {ops : Array Oper} {rest : List Oper} {o : Oper} {a : Act} {w : World} {Q : Exit → Act → World → Prop} (hw : Region.wanted o (yielded ops a.tmps) = true)
    (h : ∀ K : Act → World → Prop, (∀ a w, wpList Tryd.prog ops Q rest a w → K a w) → o.wp Tryd.prog a w K Q) : wpList Tryd.prog ops Q (o :: rest) a w :=
  wpList_step fun K hK => by rw [if_pos hw]; exact h K hK
/-- a whole array is loaded under a guard that holds -/
theorem wpList_load25_g {ops : Array Oper} {rest : List Oper} {o : Oper} {a : Act} {w : World} {Q : Exit → Act → World → Prop} (hw : Region.wanted o (yielded ops a.tmps) = true) (x : Operand) (ho : o.op = .load 25 x)
    (g : Nat) (hx : a.eval x = .pointer (some ⟨g, 0, none⟩)) (cs : Array Value) (fr : Nat × Nat) (hg : w.heap[g]? = some (.cells cs 25 fr)) (hi : (Tryd.prog.info? 25).map (·.size) = some cs.size)
    (h : wpList Tryd.prog ops Q rest (a.put o.dst (.agg cs)) w) : wpList Tryd.prog ops Q (o :: rest) a w :=
  wpList_wanted hw fun _ hK => wp_load_row 25 x ho g hx 25 cs fr _ hg Tryd.underlying25 rfl hi (hK _ _ h)

set_option maxHeartbeats 8000000 in
set_option maxRecDepth 100000 in
theorem digestTakes_walk (n : List UInt8) (w : World) (hL : Laid w) (hn : n.length ≤ 140737488351232) :
    Calls Tryd.prog 10 #[.string (St n)] w fun e w' => e = .returned (.bool true) ∧ Below w.heap.size w w' := by
  have htl := St_toList
  have hsn : (St n).size = n.length := rfl
  have hbn : ∀ k, k < 4 → k = k := fun _ _ => rfl
  clear hbn
  go_enter Tryd.func10, Tryd.ntmps10
  go_wp2_with fail
  refine (alive5_any _ hL).mono ?_
  rintro e w1 ⟨rfl, hb1⟩
  by_cases h1 : 300 < n.length
  · have hd : decide ((n.length : Int) > 300) = true := decide_eq_true (by omega)
    go_wp2_with fail
    go_ret
    exact ⟨rfl, hb1⟩
  · have hd : decide ((n.length : Int) > 300) = false := decide_eq_false (by omega)
    have hP := fun W => parse_any n W (by omega)
    have hS := fun W => short_any n W (by omega)
    have hG := fun W => long_any n W (by omega)
    have hI := fun W => is_any n W (by omega)
    have h5 := fun W => is5_any (nameP ++ n) W
    have hadd := add_name n (by omega)
    have hr7 := run_rest7 n
    have HP := Lib.hid hP; have HS := Lib.hid hS; have HG := Lib.hid hG; have HI := Lib.hid hI; have H5 := Lib.hid h5; have HR7 := Lib.hid hr7; have HN := Lib.hid hn
    clear hP hS hG hI h5 hr7 hn h1
    go_wp2_with fail
    refine (is5_any n w1).mono ?_
    rintro e w' ⟨rfl, rfl⟩
    go_wp2_with fail
    refine (HP.out _).mono ?_
    rintro e w2 ⟨hp, hb2⟩
    obtain ⟨d, v, hdl, rfl, hm⟩ := parse_sum n e hp
    clear hp HP
    have hcs : (Bs d).toArray.size = 32 := by rw [List.size_toArray, Bs_length, hdl]
    have HO := Lib.hid (all_oneCell_toArray (Bs_mem d))
    have i25 : (Tryd.prog.info? 25).map (·.size) = some (Bs d).toArray.size := by rw [hcs]; exact info25
    have HII := Lib.hid i25; have HZ := Lib.hid (show (Bs (List.replicate 32 0)).toArray.size = (Bs d).toArray.size by rw [hcs]; rfl)
    have hb2 := hb1.trans (hb2.mono hb1.size)
    have hrow := fun z => setRow_heap (w2.alloc (.cells z 25)) w2.heap.size _ (Bs d).toArray 25 (0, 0) (heap_alloc_new w2 _)
    have hbel := fun z => below_setRow (cs := (Bs d).toArray) (hb2.alloc hb2.size (.cells z 25)) hb2.size
    have HROW := Lib.hid hrow; have HBEL := Lib.hid hbel; have HM := Lib.hid hm; have HDL := Lib.hid hdl
    clear hrow hbel hm hdl hcs i25 hb1 hb2
    go_wp2_with (refine wpList_store_row rfl 25 (.tmp 4) (.tmp 20) rfl _ _ rfl rfl 25 _ (heap_alloc_new w2 _) HII.out HZ.out HO.out ?_)
    have hbel := HBEL.out #[.int .u8 0, .int .u8 0, .int .u8 0, .int .u8 0, .int .u8 0, .int .u8 0, .int .u8 0, .int .u8 0, .int .u8 0, .int .u8 0, .int .u8 0, .int .u8 0, .int .u8 0, .int .u8 0, .int .u8 0, .int .u8 0, .int .u8 0, .int .u8 0, .int .u8 0, .int .u8 0, .int .u8 0, .int .u8 0, .int .u8 0, .int .u8 0, .int .u8 0, .int .u8 0, .int .u8 0, .int .u8 0, .int .u8 0, .int .u8 0, .int .u8 0, .int .u8 0]
    have hrow := HROW.out #[.int .u8 0, .int .u8 0, .int .u8 0, .int .u8 0, .int .u8 0, .int .u8 0, .int .u8 0, .int .u8 0, .int .u8 0, .int .u8 0, .int .u8 0, .int .u8 0, .int .u8 0, .int .u8 0, .int .u8 0, .int .u8 0, .int .u8 0, .int .u8 0, .int .u8 0, .int .u8 0, .int .u8 0, .int .u8 0, .int .u8 0, .int .u8 0, .int .u8 0, .int .u8 0, .int .u8 0, .int .u8 0, .int .u8 0, .int .u8 0, .int .u8 0, .int .u8 0]
    clear HBEL HROW HO HZ
    generalize (w2.alloc (.cells #[.int .u8 0, .int .u8 0, .int .u8 0, .int .u8 0, .int .u8 0, .int .u8 0, .int .u8 0, .int .u8 0, .int .u8 0, .int .u8 0, .int .u8 0, .int .u8 0, .int .u8 0, .int .u8 0, .int .u8 0, .int .u8 0, .int .u8 0, .int .u8 0, .int .u8 0, .int .u8 0, .int .u8 0, .int .u8 0, .int .u8 0, .int .u8 0, .int .u8 0, .int .u8 0, .int .u8 0, .int .u8 0, .int .u8 0, .int .u8 0, .int .u8 0, .int .u8 0] 25)).setRow w2.heap.size (Bs d).toArray = w3 at *
    have HROW := Lib.hid hrow
    clear hrow
    refine (HS.out w3).mono ?_
    rintro e w4 ⟨hs, hb4⟩
    have hrow4 := (hb4.block _ (Array.getElem?_eq_some_iff.1 HROW.out).1).trans HROW.out
    have hbel4 := hbel.trans (hb4.mono hbel.size)
    clear HROW hbel hb4 HS
    have HROW := Lib.hid hrow4
    clear hrow4
    cases hnm : isName n with
    | true =>
      rw [ShortIs, hnm] at hs
      obtain rfl := hs
      obtain ⟨p, hpp⟩ : ∃ p, parseL n = some p := by
        have := parse_isSome n
        rw [hnm] at this
        exact Option.isSome_iff_exists.1 this
      have hm := HM.out
      rw [hpp] at hm
      obtain ⟨rfl, rfl⟩ := hm
      have hne := (parse_name n d hpp).1
      have hr7 := HR7.out (by rw [name_len n hnm]; omega)
      have hq : (nameP ++ hexL d == n) = true := by rw [beq_iff_eq]; exact hne.symm
      have hN := fun W => name_any d HDL.out W
      have HNA := Lib.hid hN; have HQ := Lib.hid hq
      clear hN hq hne hpp HM HR7
      simp only [if_true]
      go_wp2_with fail
      refine (HG.out _).mono ?_
      rintro e w5 ⟨hl, hb5⟩
      have hrow5 := (hb5.block _ (Array.getElem?_eq_some_iff.1 HROW.out).1).trans HROW.out
      have hbel5 := hbel4.trans (hb5.mono hbel4.size)
      clear HROW hb5 HG hbel4
      have HROW := Lib.hid hrow5
      clear hrow5
      cases hlm : isName (nameP ++ n) with
      | true =>
        rw [LongIs, hlm] at hl
        obtain rfl := hl
        simp only [if_true]
        have hI := fun W => HI.out W
        have h5 := fun W => H5.out W
        rw [hnm] at hI
        rw [hlm] at h5
        have HI2 := Lib.hid hI; have H52 := Lib.hid h5
        clear hI h5 HI H5
        go_wp2_with fail
        go_region_held3 (fun w' => Below w5.heap.size w5 w') (first | assumption | exact held0 | exact held1 (by assumption) _ | exact held2 (by assumption) (by assumption))
          (first
            | (go_at_call 39; refine (HI2.out _).mono ?_; rintro e w' ⟨rfl, hb'⟩)
            | (go_at_call 33; refine (H52.out _).mono ?_; rintro e w' ⟨rfl, rfl⟩))
        rename_i hheld
        have hbel6 := hbel5.trans (hheld.mono hbel5.size)
        have hrow6 := (hheld.block _ (Array.getElem?_eq_some_iff.1 HROW.out).1).trans HROW.out
        have HROW6 := Lib.hid hrow6; have HB6 := Lib.hid hbel6
        clear HROW hrow6 hbel6 hheld hbel5
        go_wp2_with (refine wpList_load25_g (by rfl) (.tmp 4) rfl w2.heap.size rfl _ (0, 0) HROW6.out HII.out ?_)
        refine (HNA.out _).mono ?_
        rintro e w8 ⟨rfl, hb8⟩
        have hf := HB6.out.trans (hb8.mono HB6.out.size)
        have hq := HQ.out
        go_wp2_with fail
        go_ret
        exact ⟨rfl, hf⟩
      | false =>
        rw [LongIs, hlm] at hl
        obtain rfl := hl
        simp only [Bool.false_eq_true, if_false]
        have hN2 : ∀ W, Calls Tryd.prog 40 #[.iface 54 (.int .i64 2), .int .i64 2] W fun e w' => e = .returned (.bool true) ∧ W = w' := fun W => numIs_any 2 2 (by omega) W
        have HN3 := Lib.hid hN2
        clear hN2
        have hI := fun W => HI.out W
        have h5 := fun W => H5.out W
        rw [hnm] at hI
        rw [hlm] at h5
        have HI2 := Lib.hid hI; have H52 := Lib.hid h5
        clear hI h5 HI H5
        go_wp2_with fail
        go_region_held3 (fun w' => Below w5.heap.size w5 w') (first | assumption | exact held0 | exact held1 (by assumption) _ | exact held2 (by assumption) (by assumption))
          (first
            | (go_at_call 39; refine (HI2.out _).mono ?_; rintro e w' ⟨rfl, hb'⟩)
            | (go_at_call 33; refine (H52.out _).mono ?_; rintro e w' ⟨rfl, rfl⟩))
        rename_i hheld
        have hbel6 := hbel5.trans (hheld.mono hbel5.size)
        have hrow6 := (hheld.block _ (Array.getElem?_eq_some_iff.1 HROW.out).1).trans HROW.out
        have HROW6 := Lib.hid hrow6; have HB6 := Lib.hid hbel6
        clear HROW hrow6 hbel6 hheld hbel5
        go_wp2_with fail
        refine (HN3.out _).mono ?_
        rintro e w7 ⟨rfl, rfl⟩
        go_wp2_with (refine wpList_load25_g (by rfl) (.tmp 4) rfl w2.heap.size rfl _ (0, 0) HROW6.out HII.out ?_)
        refine (HNA.out _).mono ?_
        rintro e w8 ⟨rfl, hb8⟩
        have hf := HB6.out.trans (hb8.mono HB6.out.size)
        have hq := HQ.out
        go_wp2_with fail
        go_ret
        exact ⟨rfl, hf⟩

    | false =>
      rw [ShortIs, hnm] at hs
      obtain rfl := hs
      have hpp : parseL n = none := by
        have := parse_isSome n
        rw [hnm] at this
        simpa using this
      have hm := HM.out
      rw [hpp] at hm
      obtain ⟨rfl, rfl⟩ := hm
      have hz : ∀ w, (binOp .eql 25 (.agg (Bs (List.replicate 32 0)).toArray) (.agg #[.int .u8 0, .int .u8 0, .int .u8 0, .int .u8 0, .int .u8 0, .int .u8 0, .int .u8 0, .int .u8 0, .int .u8 0, .int .u8 0, .int .u8 0, .int .u8 0, .int .u8 0, .int .u8 0, .int .u8 0, .int .u8 0, .int .u8 0, .int .u8 0, .int .u8 0, .int .u8 0, .int .u8 0, .int .u8 0, .int .u8 0, .int .u8 0, .int .u8 0, .int .u8 0, .int .u8 0, .int .u8 0, .int .u8 0, .int .u8 0, .int .u8 0, .int .u8 0])).run Tryd.prog w = .ok (.bool true) w := fun w => by
        have := eql_sum w (List.replicate 32 0) (List.replicate 32 0) (by simp) (by simp)
        rw [beq_self_eq_true] at this
        exact this
      have hg := guard25
      have hN2 : ∀ W, Calls Tryd.prog 40 #[.iface 54 (.int .i64 2), .int .i64 2] W fun e w' => e = .returned (.bool true) ∧ W = w' := fun W => numIs_any 2 2 (by omega) W
      have HN2 := Lib.hid hN2; have HEQZ := Lib.hid hz
      clear hpp HM HR7 hN2 hz
      generalize (Bs (List.replicate 32 0)).toArray = zs at *
      simp only [Bool.false_eq_true, if_false]
      go_wp2_with fail
      refine (HG.out _).mono ?_
      rintro e w5 ⟨hl, hb5⟩
      have hrow5 := (hb5.block _ (Array.getElem?_eq_some_iff.1 HROW.out).1).trans HROW.out
      have hbel5 := hbel4.trans (hb5.mono hbel4.size)
      clear HROW hb5 HG hbel4
      have HROW := Lib.hid hrow5
      clear hrow5
      cases hlm : isName (nameP ++ n) with
      | true =>
        rw [LongIs, hlm] at hl
        obtain rfl := hl
        simp only [if_true]
        have hI := fun W => HI.out W
        have h5 := fun W => H5.out W
        rw [hnm] at hI
        rw [hlm] at h5
        have HI2 := Lib.hid hI; have H52 := Lib.hid h5
        clear hI h5 HI H5
        go_wp2_with fail
        go_region_held3 (fun w' => Below w5.heap.size w5 w') (first | assumption | exact held0 | exact held1 (by assumption) _ | exact held2 (by assumption) (by assumption))
          (first
            | (go_at_call 39; refine (HI2.out _).mono ?_; rintro e w' ⟨rfl, hb'⟩)
            | (go_at_call 33; refine (H52.out _).mono ?_; rintro e w' ⟨rfl, rfl⟩))
        rename_i hheld
        have hbel6 := hbel5.trans (hheld.mono hbel5.size)
        have hrow6 := (hheld.block _ (Array.getElem?_eq_some_iff.1 HROW.out).1).trans HROW.out
        have HROW6 := Lib.hid hrow6; have HB6 := Lib.hid hbel6
        clear HROW hrow6 hbel6 hheld hbel5
        have hz := HEQZ.out
        go_wp2_with (refine wpList_load_row rfl 25 (.tmp 4) rfl w2.heap.size rfl 25 _ (0, 0) _ HROW6.out Tryd.underlying25 rfl HII.out ?_)
        refine (HN2.out _).mono ?_
        rintro e w8 ⟨rfl, rfl⟩
        go_wp2_with fail
        refine (HN2.out _).mono ?_
        rintro e w9 ⟨rfl, rfl⟩
        go_wp2_with fail
        go_ret
        exact ⟨rfl, HB6.out⟩
      | false =>
        rw [LongIs, hlm] at hl
        obtain rfl := hl
        simp only [Bool.false_eq_true, if_false]
        have hN2 : ∀ W, Calls Tryd.prog 40 #[.iface 54 (.int .i64 2), .int .i64 2] W fun e w' => e = .returned (.bool true) ∧ W = w' := fun W => numIs_any 2 2 (by omega) W
        have HN3 := Lib.hid hN2
        clear hN2
        have hI := fun W => HI.out W
        have h5 := fun W => H5.out W
        rw [hnm] at hI
        rw [hlm] at h5
        have HI2 := Lib.hid hI; have H52 := Lib.hid h5
        clear hI h5 HI H5
        go_wp2_with fail
        go_region_held3 (fun w' => Below w5.heap.size w5 w') (first | assumption | exact held0 | exact held1 (by assumption) _ | exact held2 (by assumption) (by assumption))
          (first
            | (go_at_call 39; refine (HI2.out _).mono ?_; rintro e w' ⟨rfl, hb'⟩)
            | (go_at_call 33; refine (H52.out _).mono ?_; rintro e w' ⟨rfl, rfl⟩))
        rename_i hheld
        have hbel6 := hbel5.trans (hheld.mono hbel5.size)
        have hrow6 := (hheld.block _ (Array.getElem?_eq_some_iff.1 HROW.out).1).trans HROW.out
        have HROW6 := Lib.hid hrow6; have HB6 := Lib.hid hbel6
        clear HROW hrow6 hbel6 hheld hbel5
        go_wp2_with fail
        refine (HN3.out _).mono ?_
        rintro e w7 ⟨rfl, rfl⟩
        have hz := HEQZ.out
        go_wp2_with (refine wpList_load_row rfl 25 (.tmp 4) rfl w2.heap.size rfl 25 _ (0, 0) _ HROW6.out Tryd.underlying25 rfl HII.out ?_)
        refine (HN2.out _).mono ?_
        rintro e w8 ⟨rfl, rfl⟩
        go_wp2_with fail
        refine (HN2.out _).mono ?_
        rintro e w9 ⟨rfl, rfl⟩
        go_wp2_with fail
        go_ret
        exact ⟨rfl, HB6.out⟩

end Go.Proofs.YtbioclpobmgikaaDoor
