/- A blob is put: the program's walk. -/
import Derived.Test.YtbioclpobmgikaaDoorSt7
namespace Go.Proofs.YtbioclpobmgikaaDoor
open Go.RowKit

theorem total_le (bl : List Bl) (h : ∀ b ∈ bl, b.data.length ≤ 10000000) : total bl ≤ 10000000 * bl.length := by
  induction bl with
  | nil => simp [total]
  | cons b l ih =>
    have h1 := h b (by simp)
    have h2 := ih (fun x hx => h x (by simp [hx]))
    rw [total, List.map_cons, List.sum_cons, ← total, List.length_cons]
    omega
/-- a store as the document's: names and bytes -/
abbrev St2 := List (List UInt8 × List UInt8)
def idxS (p : List UInt8 → Bool) (s : St2) : Int := if s.findIdx (fun x => p x.1) < s.length then ((s.findIdx (fun x => p x.1) : Nat) : Int) else -1
theorem idxS_abs (p : List UInt8 → Bool) (bl : List Bl) : idxL p bl = idxS p (bl.map Bl.abs) := by
  unfold idxL idxS
  rw [List.findIdx_map, List.length_map]
  rfl
def totalS (s : St2) : Nat := (s.map fun x => x.2.length).sum
theorem totalS_abs (bl : List Bl) : total bl = totalS (bl.map Bl.abs) := by
  unfold total totalS
  rw [List.map_map]
  rfl
def placeS (s : St2) (nm : List UInt8) : Int := idxS (fun n => eqB n nm) s
/-- where a name is set in -/
def setAt (s : St2) (nm : List UInt8) : Nat := if idxS (fun n => gtB n nm) s < 0 then s.length else (idxS (fun n => gtB n nm) s).toNat
/-- what Put answers: an error's number, or the store -/
def putS (s : St2) (d : List UInt8) : Nat ⊕ St2 :=
  if 1048576 < d.length then .inl 3
  else if 0 ≤ placeS s (nameOf d) then (if eqB (s.getD (placeS s (nameOf d)).toNat ([], [])).2 d then .inr s else .inl 6)
  else if 256 ≤ s.length then .inl 14
  else if 8388608 < totalS s + d.length then .inl 5
  else .inr (s.take (setAt s (nameOf d)) ++ [(nameOf d, d)] ++ s.drop (setAt s (nameOf d)))
/-- a store lies in the world -/
def StoreAt (w : World) (A : Option Addr) (n c : Nat) (s : St2) : Prop := ∃ bl : List Bl, bl.map Bl.abs = s ∧ bl.length = n ∧ n ≤ c ∧ (A = none → c = 0) ∧ RowAt w A bl ∧ AllGood w bl
def PutAt (s : St2) (d : List UInt8) (w w' : World) (e : Ending) : Prop :=
  Below w.heap.size w w' ∧ match putS s d with
  | .inl k => e = .returned (.tuple #[.slice none 0 0, .string ⟨#[]⟩, .iface 54 (.int .i64 (k : Int))])
  | .inr s' => ∃ A n c, e = .returned (.tuple #[.slice A n c, .string (St (nameOf d)), .nilIface]) ∧ StoreAt w' A n c s'

set_option maxHeartbeats 1000000 in
set_option maxRecDepth 100000 in
theorem put_any (bl : List Bl) (d : List UInt8) (A B : Option Addr) (c cd : Nat) (w : World) (hL : Laid w) (hr : RowAt w A bl) (hg : AllGood w bl) (hn : bl.length ≤ 900) (hd : ∀ b ∈ bl, b.data.length ≤ 10000000)
    (hB : BytesAt w B d) (hcd : d.length ≤ cd) (hnd : B = none → cd = 0) (hdl : d.length ≤ 9223372036854775807) :
    Calls Tryd.prog 53 #[.slice A bl.length c, .slice B d.length cd] w fun e w' => PutAt (bl.map Bl.abs) d w w' e := by
  have HR := Lib.hid hr; have HD := Lib.hid hd; have HG := Lib.hid hg; have HB := Lib.hid hB; have HND := Lib.hid hnd; have HLL := Lib.hid hL
  clear hr hd hg hB hnd hL
  by_cases h1 : 1048576 < d.length
  · have hd1 : decide ((d.length : Int) > 1048576) = true := decide_eq_true (by omega)
    have HP := Lib.hid (show putS (bl.map Bl.abs) d = .inl 3 by rw [putS, if_pos h1])
    clear h1
    generalize d.length = m at *
    generalize bl.length = n at *
    go_enter Tryd.func53, Tryd.ntmps53
    go_wp2_with fail
    go_ret3
    exact ⟨Below.refl _ _, by rw [HP.out]; rfl⟩
  · have hd1 : decide ((d.length : Int) > 1048576) = false := decide_eq_false (by omega)
    have hdig := digOf_any d B cd w HLL.out hcd HB.out (by omega)
    have HDIG := Lib.hid hdig
    clear hdig
    have hm := h1
    clear h1
    generalize hdm : d.length = m at *
    generalize hbn : bl.length = n at *
    have HDM := Lib.hid hdm; have HBN := Lib.hid hbn
    clear hdm hbn
    go_enter Tryd.func53, Tryd.ntmps53
    go_wp2_with fail
    refine HDIG.out.mono ?_
    rintro e w1 ⟨rfl, hb1⟩
    have hb1a : Below w.heap.size w (w1.alloc (.cells #[.string (St (nameOf d))] 9)) := hb1.alloc hb1.size _
    have hs1a : (w1.alloc (.cells #[.string (St (nameOf d))] 9)).heap.size = w1.heap.size + 1 := by simp
    have hc7 : (w1.alloc (.cells #[.string (St (nameOf d))] 9)).cell? ⟨w1.heap.size, 0, none⟩ = some (.string (St (nameOf d))) := (World.cell?_alloc_new ..).trans rfl
    have hs1 := hb1.size
    go_wp2_with fail
    generalize w1.alloc (.cells #[.string (St (nameOf d))] 9) = wa at *
    have hfil := filter_any 86 #[] (fun _ => true) enters86 bl A c wa (ask_true _) (HR.out.below hb1a) (HG.out.below hb1a) (by rw [HBN.out]; omega) HD.out
    rw [show keepL (fun _ => true) bl = bl by simp [keepL], HBN.out] at hfil
    have HFIL := Lib.hid hfil
    clear hfil
    refine HFIL.out.mono ?_
    rintro e w2 ⟨v, bf, rfl, hb2, hab, hgf, hof⟩
    have hbfl : bf.length = n := by have := congrArg List.length hab; rw [List.length_map, List.length_map, HBN.out] at this; exact this
    have hbw2 := hb1a.trans (hb2.mono hb1a.size)
    have hc72 : w2.cell? ⟨w1.heap.size, 0, none⟩ = some (.string (St (nameOf d))) := (hb2.cell (p := ⟨w1.heap.size, 0, none⟩) (by show w1.heap.size < _; omega)).trans hc7
    have HAB := Lib.hid hab; have HGF := Lib.hid hgf; have HOF := Lib.hid hof; have HBFL := Lib.hid hbfl
    clear hab hgf hof hbfl HFIL HDIG
    have hpl := place_any bl (nameOf d) A c w2 (HR.out.below hbw2) (by rw [HBN.out]; omega)
    rw [HBN.out] at hpl
    have HPL := Lib.hid hpl
    clear hpl
    go_wp2_with fail
    refine HPL.out.mono ?_
    rintro e w3 ⟨rfl, hb3⟩
    have hbw3 := hbw2.trans (hb3.mono hbw2.size)
    have hb23 := hb2.trans (hb3.mono hb2.size)
    have hc73 : w3.cell? ⟨w1.heap.size, 0, none⟩ = some (.string (St (nameOf d))) := (hb23.cell (p := ⟨w1.heap.size, 0, none⟩) (by show w1.heap.size < _; omega)).trans hc7
    clear hc72 HPL
    have hpe : placeL bl (nameOf d) = placeS (bl.map Bl.abs) (nameOf d) := idxS_abs _ _
    by_cases hk : 0 ≤ placeL bl (nameOf d)
    · obtain ⟨k, hkk⟩ : ∃ k : Nat, placeL bl (nameOf d) = (k : Int) := ⟨(placeL bl (nameOf d)).toNat, by omega⟩
      have hkn : k < n := by
        rw [placeL, idxL] at hkk
        split at hkk
        · rename_i h; rw [HBN.out] at h; omega
        · omega
      have hput : putS (bl.map Bl.abs) d = if eqB (bl.getD k bl0).data d then .inr (bl.map Bl.abs) else .inl 6 := by
        rw [putS, if_neg (show ¬ 1048576 < d.length by rw [HDM.out]; exact hm), ← hpe, hkk, if_pos (by omega)]
        congr 2
        simp [List.getD, show k < bl.length by rw [HBN.out]; exact hkn, Bl.abs]
      have HPUT := Lib.hid hput
      obtain ⟨a, rfl, g1, g2⟩ := (HR.out.below hbw3) k (by rw [HBN.out]; exact hkn)
      have hgk := (HG.out _ (getD_mem bl k (by rw [HBN.out]; exact hkn))).below hbw3
      rw [hkk]
      clear hput hpe hk
      generalize bl.getD k bl0 = b at *
      have heq := eqb_any b.data d b.D B b.c cd w3 hgk.2.2 (HB.out.below hbw3)
      rw [HDM.out] at heq
      have HEQ := Lib.hid heq
      clear heq hkk hgk
      go_wp2_with fail
      refine HEQ.out.mono ?_
      rintro e w4 ⟨rfl, rfl⟩
      cases hq : eqB b.data d with
      | false =>
        have HPF := Lib.hid (show putS (bl.map Bl.abs) d = .inl 6 by rw [HPUT.out, hq]; rfl)
        clear hq HEQ HPUT
        go_wp2_with fail
        go_ret3
        exact ⟨hbw3, by rw [HPF.out]; rfl⟩
      | true =>
        have HPF := Lib.hid (show putS (bl.map Bl.abs) d = .inr (bl.map Bl.abs) by rw [HPUT.out, hq]; rfl)
        clear hq HEQ HPUT
        obtain ⟨A', c', rfl, hc1, hc2, hra⟩ := own_row HOF.out
        have HC2 := Lib.hid hc2
        clear hc2
        go_wp2_with fail
        go_quiet (fail)
        have hbf := below_drewN hbw3 nq
        have hb3' : Below w2.heap.size w2 (w4.drewN nq) := below_drewN hb3 nq
        generalize w4.drewN nq = w5 at *
        go_wp2_with fail
        go_ret3
        refine ⟨hbf, ?_⟩
        rw [HPF.out]
        exact ⟨A', bf.length, c', rfl, bf, HAB.out, rfl, hc1, HC2.out, hra.below hb3', fun x hx => ((HGF.out x hx).below hb3').1⟩
    · have hpn : ¬ 0 ≤ placeS (bl.map Bl.abs) (nameOf d) := by rw [← hpe]; exact hk
      have hml : (bl.map Bl.abs).length = n := by rw [List.length_map]; exact HBN.out
      have hput : putS (bl.map Bl.abs) d = if 256 ≤ n then .inl 14 else if 8388608 < total bl + m then .inl 5 else .inr ((bl.map Bl.abs).take (setAt (bl.map Bl.abs) (nameOf d)) ++ [(nameOf d, d)] ++ (bl.map Bl.abs).drop (setAt (bl.map Bl.abs) (nameOf d))) := by
        rw [putS, if_neg (show ¬ 1048576 < d.length by rw [HDM.out]; exact hm), if_neg hpn, hml, ← totalS_abs, HDM.out]
      have HPUT := Lib.hid hput
      have HML := Lib.hid hml
      generalize placeL bl (nameOf d) = r at *
      have hd6 : decide (r ≥ 0) = false := decide_eq_false (by omega)
      clear hput hpn hpe hml hk
      by_cases h256 : 256 ≤ n
      · have hd7 : decide ((n : Int) ≥ 256) = true := decide_eq_true (by omega)
        have HPF := Lib.hid (show putS (bl.map Bl.abs) d = .inl 14 by rw [HPUT.out, if_pos h256])
        clear HPUT h256
        go_wp2_with fail
        go_ret3
        exact ⟨hbw3, by rw [HPF.out]; rfl⟩
      · have hd7 : decide ((n : Int) ≥ 256) = false := decide_eq_false (by omega)
        have hsz := size_any bl A c w3 (HR.out.below hbw3) (by rw [HBN.out]; omega) HD.out
        rw [HBN.out] at hsz
        have HSZ := Lib.hid hsz
        have htot : total bl ≤ 9000000000 := by have := total_le bl HD.out; rw [HBN.out] at this; omega
        clear hsz
        have HPU2 := Lib.hid (show putS (bl.map Bl.abs) d = if 8388608 < total bl + m then .inl 5 else .inr ((bl.map Bl.abs).take (setAt (bl.map Bl.abs) (nameOf d)) ++ [(nameOf d, d)] ++ (bl.map Bl.abs).drop (setAt (bl.map Bl.abs) (nameOf d))) by rw [HPUT.out, if_neg h256])
        clear HPUT h256
        generalize total bl = tt at *
        go_wp2_with fail
        refine HSZ.out.mono ?_
        rintro e w4 ⟨rfl, hb4⟩
        have hbw4 := hbw3.trans (hb4.mono hbw3.size)
        have hb24 := hb3.trans (hb4.mono hb3.size)
        have hba4 := hb2.trans (hb24.mono hb2.size)
        have hc74 : w4.cell? ⟨w1.heap.size, 0, none⟩ = some (.string (St (nameOf d))) := (hba4.cell (p := ⟨w1.heap.size, 0, none⟩) (by show w1.heap.size < _; omega)).trans hc7
        have h14 : w1.heap.size < w4.heap.size := by have := hba4.size; omega
        clear hc73 HSZ
        by_cases h8 : 8388608 < tt + m
        · have hd8 : decide ((tt : Int) + (m : Int) > 8388608) = true := decide_eq_true (by omega)
          have HPF := Lib.hid (show putS (bl.map Bl.abs) d = .inl 5 by rw [HPU2.out, if_pos h8])
          clear HPU2 h8
          go_wp2_with fail
          go_ret3
          exact ⟨hbw4, by rw [HPF.out]; rfl⟩
        · have hd8 : decide ((tt : Int) + (m : Int) > 8388608) = false := decide_eq_false (by omega)
          have HPF := Lib.hid (show putS (bl.map Bl.abs) d = .inr ((bl.map Bl.abs).take (setAt (bl.map Bl.abs) (nameOf d)) ++ [(nameOf d, d)] ++ (bl.map Bl.abs).drop (setAt (bl.map Bl.abs) (nameOf d))) by rw [HPU2.out, if_neg h8])
          clear HPU2
          have hix := idx_any 91 #[.pointer (some ⟨w1.heap.size, 0, none⟩)] (fun x => gtB x (nameOf d)) enters91 bl A c w4 (ask_gt (nameOf d) w1.heap.size w4 h14 hc74) (HR.out.below hbw4) (by rw [HBN.out]; omega)
          rw [HBN.out] at hix
          have HIX := Lib.hid hix
          clear hix
          go_wp2_with fail
          refine HIX.out.mono ?_
          rintro e w5 ⟨rfl, hb5⟩
          have hbw5 := hbw4.trans (hb5.mono hbw4.size)
          have hb25 := hb24.trans (hb5.mono hb24.size)
          have hba5 := hb2.trans (hb25.mono hb2.size)
          have hc75 : ∀ W, Below wa.heap.size wa W → W.cell? ⟨w1.heap.size, 0, none⟩ = some (.string (St (nameOf d))) := fun W h => (h.cell (p := ⟨w1.heap.size, 0, none⟩) (by show w1.heap.size < _; omega)).trans hc7
          obtain ⟨j, hj, hjn⟩ : ∃ j : Nat, j = setAt (bl.map Bl.abs) (nameOf d) ∧ j ≤ n := by
            refine ⟨_, rfl, ?_⟩
            unfold setAt
            split
            · rw [HML.out]; exact Nat.le_refl _
            · rw [← idxS_abs, idxL]
              split
              · rename_i h; rw [HBN.out] at h; simp; omega
              · simp
          have HJ := Lib.hid hj
          have hd5 : Below w5.heap.size w5 w5.drew := (Below.refl _ _).drew
          have hap := fun W (h : Below w5.heap.size w5 W) => apart_any ⟨nameOf d, d, B, cd⟩ W ⟨by show d.length ≤ cd; rw [HDM.out]; exact hcd, HND.out, (HB.out.below hbw5).below h⟩ (by show d.length ≤ _; rw [HDM.out]; omega)
          simp only at hap
          rw [HDM.out] at hap
          have HAP := Lib.hid hap
          have k5 := hc75 w5.drew (hba5.trans (hd5.mono hba5.size))
          clear hap
          by_cases hneg : idxL (fun x => gtB x (nameOf d)) bl < 0
          · have hjn2 : j = n := by
              rw [HJ.out, setAt, ← idxS_abs, if_pos hneg]; exact HML.out
            have hd9 : decide (idxL (fun x => gtB x (nameOf d)) bl < 0) = true := decide_eq_true hneg
            generalize idxL (fun x => gtB x (nameOf d)) bl = r2 at *
            clear hj hneg HIX
            go_wp2_with fail
            obtain rfl : n = j := hjn2.symm
            generalize hnm : nameOf d = nm at *
            have HNM := Lib.hid hnm
            clear hnm
            go_region_with (first
              | (go_at_call 93; refine (HAP.out _ ?_).mono ?_; exact hd5; rintro e w6 ⟨hb6, b', hab', rfl, hg5⟩
                 have hb56 : Below w5.heap.size w5 w6 := hd5.trans (hb6.mono hd5.size)
                 have hba6 := hba5.trans (hb56.mono hba5.size)
                 have k6 := hc75 w6 hba6
                 have hb26 := hb25.trans (hb56.mono hb25.size)
                 have h16 : w1.heap.size < w6.heap.size := by have := hba6.size; omega
                 have k6a := fun o => (World.cell?_alloc_old w6 o ⟨w1.heap.size, 0, none⟩ (by show w1.heap.size ≠ _; omega)).trans k6
                 have hown6 := rowOwn_below HOF.out hb26
                 have hlt6 := hown6.lt)
              | (go_at_call 92; refine (insert_any bf b' v n wa.heap.size w6.heap.size _ ?_ ?_ (hown6.alloc _) ?_ ?_ ?_).mono ?_
                 · have := hba6.size; simp; omega
                 · rw [HBFL.out]; exact hjn
                 · exact heap_alloc_new w6 _
                 · intro e; have := (hlt6 _ e).2; omega
                 · rw [HBFL.out]; omega
                 rintro e w7 ⟨v', rfl, ho7, hg7⟩
                 have k7 : w7.cell? ⟨w1.heap.size, 0, none⟩ = some (.string (St nm)) := hg7.cell (k6a _) (by intro e; have := (hlt6 _ e.symm).1; simp only at this; omega)))
            all_goals
              have hal : Below w6.heap.size w6 (w6.alloc (.cells #[.string (St b'.name), .slice b'.D b'.data.length b'.c] 70)) := (Below.refl _ _).alloc (Nat.le_refl _) _
              have hbw6 := hbw5.trans (hb56.mono hbw5.size)
              have hb7 := (hbw6.trans (hal.mono hbw6.size)).grown hg7 (by have := hbw6.size; simp; omega) (fun k hk => by have := (hlt6 k hk).1; have := hb1a.size; omega)
              have hL8 : (bf.take n ++ [b'] ++ bf.drop n).length = bf.length + 1 := by have := HBFL.out; simp; omega
              have hgood : AllGood w7 (bf.take n ++ [b'] ++ bf.drop n) := fun x hx => by
                have hx5 : Good5 w6 x := by
                  rw [List.mem_append, List.mem_append] at hx
                  rcases hx with (hx | hx) | hx
                  · exact (HGF.out x (List.mem_of_mem_take hx)).below hb26
                  · obtain rfl : x = b' := by simpa using hx
                    exact hg5
                  · exact (HGF.out x (List.mem_of_mem_drop hx)).below hb26
                exact ((hx5.below hal).grown (hown6.alloc _) hg7).1
              have hmap : (bf.take n ++ [b'] ++ bf.drop n).map Bl.abs = (bl.map Bl.abs).take (setAt (bl.map Bl.abs) nm) ++ [(nm, d)] ++ (bl.map Bl.abs).drop (setAt (bl.map Bl.abs) nm) := by
                rw [← HJ.out, List.map_append, List.map_append, List.map_take, List.map_drop, HAB.out]
                congr 2
                rw [List.map_cons, hab']; rfl
              rw [← hL8] at ho7
              obtain ⟨A', c', rfl, hc1, hc2, hra⟩ := own_row ho7
              have HF1 := Lib.hid hb7; have HF2 := Lib.hid hgood; have HF3 := Lib.hid hmap; have HF4 := Lib.hid hra; have HF5 := Lib.hid hc2
              clear hb7 hgood hmap hra hc2 hbw6 hal ho7 hL8 hc75 k6 k6a hlt6 hg7 hown6 hg5 hab' hc7
              generalize (bf.take n ++ [b'] ++ bf.drop n) = L7 at *
              generalize hn7 : L7.length = n7 at *
              have HN7 := Lib.hid hn7
              clear hn7
              go_wp2_with fail
              go_ret3
              refine ⟨HF1.out, ?_⟩
              rw [HPF.out]
              exact ⟨A', n7, c', by rw [HNM.out]; rfl, L7, HF3.out, HN7.out, hc1, HF5.out, HF4.out, HF2.out⟩
          · have hjn2 : idxL (fun x => gtB x (nameOf d)) bl = (j : Int) := by
              have : j = (idxL (fun x => gtB x (nameOf d)) bl).toNat := by rw [HJ.out, setAt, ← idxS_abs, if_neg hneg]
              omega
            rw [hjn2]
            clear hj hjn2 hneg HIX
            have hd9 : decide ((j : Int) < 0) = false := decide_eq_false (by omega)
            go_wp2_with fail
            generalize hnm : nameOf d = nm at *
            have HNM := Lib.hid hnm
            clear hnm
            go_region_with (first
              | (go_at_call 93; refine (HAP.out _ ?_).mono ?_; exact hd5; rintro e w6 ⟨hb6, b', hab', rfl, hg5⟩
                 have hb56 : Below w5.heap.size w5 w6 := hd5.trans (hb6.mono hd5.size)
                 have hba6 := hba5.trans (hb56.mono hba5.size)
                 have k6 := hc75 w6 hba6
                 have hb26 := hb25.trans (hb56.mono hb25.size)
                 have h16 : w1.heap.size < w6.heap.size := by have := hba6.size; omega
                 have k6a := fun o => (World.cell?_alloc_old w6 o ⟨w1.heap.size, 0, none⟩ (by show w1.heap.size ≠ _; omega)).trans k6
                 have hown6 := rowOwn_below HOF.out hb26
                 have hlt6 := hown6.lt)
              | (go_at_call 92; refine (insert_any bf b' v j wa.heap.size w6.heap.size _ ?_ ?_ (hown6.alloc _) ?_ ?_ ?_).mono ?_
                 · have := hba6.size; simp; omega
                 · rw [HBFL.out]; exact hjn
                 · exact heap_alloc_new w6 _
                 · intro e; have := (hlt6 _ e).2; omega
                 · rw [HBFL.out]; omega
                 rintro e w7 ⟨v', rfl, ho7, hg7⟩
                 have k7 : w7.cell? ⟨w1.heap.size, 0, none⟩ = some (.string (St nm)) := hg7.cell (k6a _) (by intro e; have := (hlt6 _ e.symm).1; simp only at this; omega)))
            all_goals
              have hal : Below w6.heap.size w6 (w6.alloc (.cells #[.string (St b'.name), .slice b'.D b'.data.length b'.c] 70)) := (Below.refl _ _).alloc (Nat.le_refl _) _
              have hbw6 := hbw5.trans (hb56.mono hbw5.size)
              have hb7 := (hbw6.trans (hal.mono hbw6.size)).grown hg7 (by have := hbw6.size; simp; omega) (fun k hk => by have := (hlt6 k hk).1; have := hb1a.size; omega)
              have hL8 : (bf.take j ++ [b'] ++ bf.drop j).length = bf.length + 1 := by have := HBFL.out; simp; omega
              have hgood : AllGood w7 (bf.take j ++ [b'] ++ bf.drop j) := fun x hx => by
                have hx5 : Good5 w6 x := by
                  rw [List.mem_append, List.mem_append] at hx
                  rcases hx with (hx | hx) | hx
                  · exact (HGF.out x (List.mem_of_mem_take hx)).below hb26
                  · obtain rfl : x = b' := by simpa using hx
                    exact hg5
                  · exact (HGF.out x (List.mem_of_mem_drop hx)).below hb26
                exact ((hx5.below hal).grown (hown6.alloc _) hg7).1
              have hmap : (bf.take j ++ [b'] ++ bf.drop j).map Bl.abs = (bl.map Bl.abs).take (setAt (bl.map Bl.abs) nm) ++ [(nm, d)] ++ (bl.map Bl.abs).drop (setAt (bl.map Bl.abs) nm) := by
                rw [← HJ.out, List.map_append, List.map_append, List.map_take, List.map_drop, HAB.out]
                congr 2
                rw [List.map_cons, hab']; rfl
              rw [← hL8] at ho7
              obtain ⟨A', c', rfl, hc1, hc2, hra⟩ := own_row ho7
              have HF1 := Lib.hid hb7; have HF2 := Lib.hid hgood; have HF3 := Lib.hid hmap; have HF4 := Lib.hid hra; have HF5 := Lib.hid hc2
              clear hb7 hgood hmap hra hc2 hbw6 hal ho7 hL8 hc75 k6 k6a hlt6 hg7 hown6 hg5 hab' hc7
              generalize (bf.take j ++ [b'] ++ bf.drop j) = L7 at *
              generalize hn7 : L7.length = n7 at *
              have HN7 := Lib.hid hn7
              clear hn7
              go_wp2_with fail
              go_ret3
              refine ⟨HF1.out, ?_⟩
              rw [HPF.out]
              exact ⟨A', n7, c', by rw [HNM.out]; rfl, L7, HF3.out, HN7.out, hc1, HF5.out, HF4.out, HF2.out⟩
end Go.Proofs.YtbioclpobmgikaaDoor
