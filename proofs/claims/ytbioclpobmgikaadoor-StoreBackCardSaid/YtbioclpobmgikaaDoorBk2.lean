/- StoreBack: the law's walk. -/
import Derived.Test.YtbioclpobmgikaaDoorBk1
import Derived.Test.YtbioclpobmgikaaDoorVw2
namespace Go.Proofs.YtbioclpobmgikaaDoor
open Go.RowKit

set_option maxHeartbeats 400000 in
set_option maxRecDepth 100000 in
theorem bytes75_any (a : List UInt8) (A B : Option Addr) (c d : Nat) (w : World) (hA : BytesAt w A a) (hB : BytesAt w B a) :
    Calls Tryd.prog 75 #[.slice A a.length c, .slice B a.length d] w fun e w' => e = .returned (.bool true) ∧ w = w' := by
  have h1 := str_bytes w A a c hA
  have h2 := str_bytes w B a d hB
  have htl := St_toList
  clear hA hB
  generalize a.length = n at *
  go_enter Tryd.func75, Tryd.ntmps75
  go_wp2_with fail
  go_ret
  exact ⟨rfl, rfl⟩

/-- a store of these blobs, as a walk holds it -/
def BackAt (w : World) (v : Value) (es : List (List UInt8)) : Prop := ∃ A c bl, v = .slice A bl.length c ∧ bl.length ≤ c ∧ RowAt w A bl ∧ AllGood w bl ∧ Inv (bl.map Bl.abs) es ∧ ∀ x ∈ es, x.length ≤ 1048576
theorem BackAt.below {w w' : World} {v : Value} {es : List (List UInt8)} (h : BackAt w v es) (hb : Below w.heap.size w w') : BackAt w' v es := by
  obtain ⟨A, c, bl, h1, h2, h3, h4, h5, h6⟩ := h
  exact ⟨A, c, bl, h1, h2, h3.below hb, h4.below hb, h5, h6⟩
theorem BackAt.start (w : World) : BackAt w (.slice none 0 0) [] := ⟨none, 0, [], rfl, Nat.le_refl _, fun j hj => by simp at hj, fun x hx => (List.not_mem_nil hx).elim, Inv.nil, fun x hx => (List.not_mem_nil hx).elim⟩
/-- Put, to a store of blobs -/
theorem put_back (v : Value) (es : List (List UInt8)) (d : List UInt8) (B : Option Addr) (cd : Nat) (w : World) (hL : Laid w) (h : BackAt w v es) (hn : es.length < 12) (hB : BytesAt w B d) (hcd : d.length ≤ cd) (hnd : B = none → cd = 0) (hdl : d.length ≤ 9223372036854775807) :
    Calls Tryd.prog 53 #[v, .slice B d.length cd] w fun e w' => Below w.heap.size w w' ∧ ((∃ v', e = .returned (.tuple #[v', .string (St (nameOf d)), .nilIface]) ∧ BackAt w' v' (es ++ [d])) ∨ (∃ k : Nat, e = .returned (.tuple #[.slice none 0 0, .string ⟨#[]⟩, .iface 54 (.int .i64 (k : Int))]) ∧ Fails (es ++ [d]))) := by
  obtain ⟨A, c, bl, rfl, hc, hr, hg, hi, hs⟩ := h
  have hl := hi.len
  rw [List.length_map] at hl
  have hd : ∀ b ∈ bl, b.data.length ≤ 10000000 := fun b hb => Nat.le_trans (hs _ (hi.sub b.abs (List.mem_map_of_mem hb))) (by omega)
  refine (put_any bl d A B c cd w hL hr hg (by omega) hd hB hcd hnd hdl).mono ?_
  rintro e w' ⟨hb, hm⟩
  refine ⟨hb, ?_⟩
  rcases put_gen _ es d hi (by omega) with ⟨s', hp, hi', hd'⟩ | ⟨k, hp, _, hf⟩
  · rw [hp] at hm
    obtain ⟨A', n', c', rfl, bl', hab, rfl, h1, h2, h3, h4⟩ := hm
    refine .inl ⟨_, rfl, A', c', bl', rfl, h1, h3, h4, by rw [hab]; exact hi', fun x hx => ?_⟩
    rcases List.mem_append.1 hx with hx | hx
    · exact hs x hx
    · obtain rfl : x = d := by simpa using hx
      exact hd'
  · rw [hp] at hm
    exact .inr ⟨k, hm, hf⟩
theorem mem_take_rev (ps : List (List UInt8)) (k : Nat) (x : List UInt8) (h : x ∈ ps.reverse.take k) : x ∈ ps := List.mem_reverse.1 (List.mem_of_mem_take h)

set_option maxHeartbeats 4000000 in
set_option maxRecDepth 100000 in
theorem storeBack_walk (A : Option Addr) (ps : List (List UInt8)) (c : Nat) (w : World) (hL : Laid w) (hp : PartsC w A ps) (hlp : ∀ j, j < ps.length → (ps.getD j []).length ≤ 9223372036854775807) :
    Calls Tryd.prog 18 #[.slice A ps.length c] w fun e w' => e = .returned (.bool true) ∧ Below w.heap.size w w' := by
  have htl := St_toList
  have HP := Lib.hid hp; have HLL := Lib.hid hL; have HLP := Lib.hid hlp
  clear hp hL hlp
  generalize hl : ps.length = n at *
  have HL := Lib.hid hl
  clear hl
  go_enter Tryd.func18, Tryd.ntmps18
  go_wp2_with fail
  refine (alive22_any _ HLL.out).mono ?_
  rintro e w1 ⟨rfl, hb1⟩
  have HP1 := Lib.hid (HP.out.below hb1)
  have HLW := Lib.hid (fun W (h : Below w1.heap.size w1 W) => HLL.out.below (noted hb1 h))
  clear HP HLL
  by_cases h12 : 12 < n
  · have hd : decide ((n : Int) > 12) = true := decide_eq_true (by omega)
    go_wp2_with fail
    go_ret
    exact ⟨rfl, hb1⟩
  · have hd : decide ((n : Int) > 12) = false := decide_eq_false (by omega)
    have HCOL := Lib.hid (fun (hf : Fails ps) W (h : Below w1.heap.size w1 W) => collides_any ps A c W (HLW.out W h) (HP1.out.below h) (by rw [HL.out]; omega) hf)
    rw [HL.out] at HCOL
    go_wp2_with fail
    go_loopw [3, 4, 5, 6, 7, 8, 9, 10, 11, 12, 13, 25] (fun vs vt _ _ _ _ _ _ _ _ _ vi wr => ∃ k : Nat, k ≤ n ∧ vi = .int .i64 (k : Int) ∧ Below w1.heap.size w1 wr ∧ Hid (BackAt wr vs (ps.take k)) ∧ Hid (BackAt wr vt (ps.reverse.take k)) ∧ Hid (∀ j, j < k → (ps.getD j []).length ≤ 2000)) (fun _ _ _ _ _ _ _ _ _ _ _ v _ => n - (intOf v).toNat)
    case atStart => exact ⟨0, by omega, rfl, Below.refl _ _, Lib.hid (BackAt.start _), Lib.hid (BackAt.start _), Lib.hid (fun j hj => by omega)⟩
    case round =>
      obtain ⟨k, hk, rfl, hbel, HBS, HBT, HSM⟩ := hrel
      by_cases hlt : k < n
      · obtain ⟨a, rfl, B1, c1, g1, hc1, hn1, hy1⟩ := (HP1.out.below hbel) k (by rw [HL.out]; exact hlt)
        obtain ⟨a', ha', B2, c2, g2, hc2, hn2, hy2⟩ := (HP1.out.below hbel) (n - 1 - k) (by rw [HL.out]; omega)
        obtain rfl := Option.some.inj ha'
        have HTS := Lib.hid (take_snoc ps k (by rw [HL.out]; exact hlt))
        have HRS := Lib.hid (show ps.reverse.take (k + 1) = ps.reverse.take k ++ [ps.getD (n - 1 - k) []] by have := rev_snoc ps k (by rw [HL.out]; exact hlt); rwa [HL.out] at this)
        have hx2 := HLP.out (n - 1 - k) (by omega)
        have hx1 := HLP.out k hlt
        have hm1 := getD_memL ps k (by rw [HL.out]; exact hlt)
        have HSM2 := Lib.hid (fun (h : (ps.getD k []).length ≤ 2000) => show ∀ j, j < k + 1 → (ps.getD j []).length ≤ 2000 from fun j hj => by
          by_cases hjk : j = k
          · rw [hjk]; exact h
          · exact HSM.out j (by omega))
        have HTA := Lib.hid (fun (h : (ps.getD k []).length ≤ 2000) => show ∀ x ∈ ps.take k ++ [ps.getD k []], x.length ≤ 2000 from fun x hx => by
          rcases List.mem_append.1 hx with hx | hx
          · obtain ⟨j, hj, rfl⟩ := List.getElem_of_mem hx
            rw [List.length_take] at hj
            have := HSM.out j (by omega)
            rw [List.getElem_take]
            simpa [List.getD, List.getElem?_eq_getElem (show j < ps.length by omega)] using this
          · obtain rfl : x = ps.getD k [] := by simpa using hx
            exact h)
        have HFT := Lib.hid (fun (h : Fails (ps.take k ++ [ps.getD k []])) => show Fails ps from h.mono (fun x hx => by
          rw [← HTS.out] at hx; exact List.mem_of_mem_take hx))
        have HFR := Lib.hid (fun (h : Fails (ps.reverse.take k ++ [ps.getD (n - 1 - k) []])) => show Fails ps from h.mono (fun x hx => by
          rw [← HRS.out] at hx; exact mem_take_rev ps _ x hx))
        have HL1 := Lib.hid (show (ps.take k).length < 12 by rw [List.length_take]; omega)
        have HL2 := Lib.hid (show (ps.reverse.take k).length < 12 by rw [List.length_take]; omega)
        have e1 : (n : Int) - 1 - (k : Int) = ((n - 1 - k : Nat) : Int) := by omega
        have hjn : n - 1 - k < n := by omega
        have HJ := Lib.hid (rfl : n - 1 - k = n - 1 - k)
        clear HSM ha'
        generalize n - 1 - k = j at *
        generalize ps.getD k [] = x at *
        generalize ps.getD j [] = y at *
        by_cases h2 : 2000 < x.length
        · have hd2 : decide ((x.length : Int) > 2000) = true := decide_eq_true (by omega)
          generalize x.length = xl at *
          go_wp2_with fail
          go_ret
          exact ⟨rfl, noted hb1 hbel⟩
        · have hd2 : decide ((x.length : Int) > 2000) = false := decide_eq_false (by omega)
          have HY1 := Lib.hid hy1; have HY2 := Lib.hid hy2; have HN1 := Lib.hid hn1; have HN2 := Lib.hid hn2
          have hput1 := put_back _ (ps.take k) x B1 c1 wr (HLW.out _ hbel) HBS.out HL1.out hy1 hc1 hn1 (by omega)
          have HPUT1 := Lib.hid hput1
          have HPUT2 := Lib.hid (fun W (h : Below wr.heap.size wr W) => put_back _ (ps.reverse.take k) y B2 c2 W (HLW.out _ (noted hbel h)) (HBT.out.below h) HL2.out (HY2.out.below h) hc2 HN2.out (by omega))
          have HX := Lib.hid (show x.length ≤ 2000 by omega)
          have HTA1 := Lib.hid (HTA.out (by omega)); have HSM3 := Lib.hid (HSM2.out (by omega))
          have HG2 := Lib.hid (fun W (h : Below wr.heap.size wr W) => (h.cell (p := a.add j) (World.block_lt_of_cell? wr _ g2)).trans g2)
          clear hput1 hy1 hy2 hn1 hn2 g2 HTA HSM2 h2 HBS hm1
          generalize hxl : x.length = xl at *
          generalize hyl : y.length = yl at *
          have HXL := Lib.hid hxl; have HYL := Lib.hid hyl
          clear hxl hyl
          go_wp2_with fail
          refine HPUT1.out.mono ?_
          rintro e w2 ⟨hb2, hr2⟩
          have k2 := HG2.out w2 hb2
          have hbw2 := noted hbel hb2
          rcases hr2 with ⟨v1, rfl, hbk1⟩ | ⟨q, rfl, hf⟩
          · have HBK1 := Lib.hid hbk1
            have hsn : (St (nameOf y)).size = 71 := nameOf_length y
            clear hbk1 HPUT1 HFT
            go_wp2_with fail
            refine (HPUT2.out w2 hb2).mono ?_
            rintro e w3 ⟨hb3, hr3⟩
            have hbC := noted hbw2 hb3
            rcases hr3 with ⟨v2, rfl, hbk2⟩ | ⟨q, rfl, hf⟩
            · obtain ⟨D, dc, bl, rfl, hbc, hrw, hgd, hiv, hszz⟩ := HBK1.out.below hb3
              have hln := hiv.len
              rw [List.length_map, List.length_append, List.length_singleton] at hln
              have hln2 : bl.length ≤ 12 := by have := HL1.out; omega
              have hbd : ∀ b ∈ bl, b.data.length ≤ 10000000 := fun b hb => Nat.le_trans (HTA1.out _ (hiv.sub b.abs (List.mem_map_of_mem hb))) (by omega)
              have hbn : ∀ b ∈ bl, b.name.length ≤ 1000000 := fun b hb => by
                have h := hiv.nam b.abs (List.mem_map_of_mem hb)
                have h : b.name = nameOf b.data := h
                rw [h, nameOf_length]; omega
              have hget := get_any bl (nameOf x) D dc w3 (HLW.out _ hbC) hrw hgd (by omega) hbd (by rw [nameOf_length]; omega)
              have hgs := inv_get (bl.map Bl.abs) _ x hiv (by simp)
              have HCHK := Lib.hid (fun W (h : Below w3.heap.size w3 W) => check_any bl D dc W (HLW.out _ (noted hbC h)) (hrw.below h) (hgd.below h) (by omega) hbc hbd hbn)
              rw [inv_check _ _ hiv HTA1.out (by rw [List.length_append, List.length_singleton]; have := HL1.out; omega), show errV 0 = .nilIface from rfl] at HCHK
              have HGET := Lib.hid hget; have HGS := Lib.hid hgs
              have HBK3 := Lib.hid (show BackAt w3 (.slice D bl.length dc) (ps.take k ++ [x]) from ⟨D, dc, bl, rfl, hbc, hrw, hgd, hiv, hszz⟩)
              have HBKT := Lib.hid hbk2
              have HDIG := Lib.hid (fun W (h : Below wr.heap.size wr W) => digOf_any x B1 c1 W (HLW.out _ (noted hbel h)) (by rw [HXL.out]; exact hc1) (HY1.out.below h) (by rw [HXL.out]; have := HX.out; omega))
              rw [HXL.out] at HDIG
              have hb23 := noted hb2 hb3
              clear hget hgs hrw hgd hiv hbd hbn hbk2 HPUT2 HFR
              generalize bl.length = bn at *
              generalize hnx : nameOf x = nx at *
              have HNX := Lib.hid hnx
              clear hnx
              go_wp2_with fail
              refine HGET.out.mono ?_
              rintro e w4 ⟨hb4, hm⟩
              rw [HGS.out] at hm
              obtain ⟨E, ec, rfl, hE, _, _⟩ := hm
              have hb24 := noted hb23 hb4
              have HBY := Lib.hid (bytes75_any x E B1 ec c1 w4 hE (HY1.out.below hb24))
              rw [HXL.out] at HBY
              rw [HXL.out]
              clear HGET HGS hE
              go_wp2_with fail
              refine HBY.out.mono ?_
              rintro e w' ⟨rfl, rfl⟩
              go_wp2_with fail
              refine (HDIG.out w4 hb24).mono ?_
              rintro e w5 ⟨rfl, hb5⟩
              have hb35 := noted hb4 hb5
              go_wp2_with fail
              refine (HCHK.out w5 hb35).mono ?_
              rintro e w6 ⟨rfl, hb6⟩
              have hb36 := noted hb35 hb6
              have hbF := noted hbC hb36
              go_wp2_with fail
              go_roundw
              case rel => exact ⟨k + 1, by omega, by go_num, hbF, by rw [HTS.out]; exact Lib.hid (HBK3.out.below hb36), by rw [HRS.out]; exact Lib.hid (HBKT.out.below hb36), HSM3⟩
              case measure => simp [intOf]; omega
            · have HFA := Lib.hid (HFR.out hf)
              clear hf HFR HBK1 HPUT2
              go_wp2_with fail
              refine (HCOL.out HFA.out _ hbC).mono ?_
              rintro e wz ⟨rfl, hbz⟩
              go_wp2_with fail
              go_ret
              exact ⟨rfl, noted (noted hb1 hbC) hbz⟩
          · have HFA := Lib.hid (HFT.out hf)
            clear hf HFT HPUT1
            go_wp2_with fail
            refine (HPUT2.out w2 hb2).mono ?_
            rintro e w3 ⟨hb3, hr3⟩
            have hbC := noted hbw2 hb3
            rcases hr3 with ⟨v2, rfl, _⟩ | ⟨q2, rfl, _⟩
            · clear HPUT2
              go_wp2_with fail
              refine (HCOL.out HFA.out _ hbC).mono ?_
              rintro e wz ⟨rfl, hbz⟩
              go_wp2_with fail
              go_ret
              exact ⟨rfl, noted (noted hb1 hbC) hbz⟩
            · clear HPUT2
              go_wp2_with fail
              refine (HCOL.out HFA.out _ hbC).mono ?_
              rintro e wz ⟨rfl, hbz⟩
              go_wp2_with fail
              go_ret
              exact ⟨rfl, noted (noted hb1 hbC) hbz⟩
      · obtain rfl : k = n := by omega
        rw [List.take_of_length_le (by rw [HL.out]; exact Nat.le_refl _)] at HBS
        rw [List.take_of_length_le (by rw [List.length_reverse, HL.out]; exact Nat.le_refl _)] at HBT
        have hall : ∀ x ∈ ps, x.length ≤ 2000 := fun x hx => by
          obtain ⟨j, hj, rfl⟩ := List.getElem_of_mem hx
          have := HSM.out j (by rw [HL.out] at hj; exact hj)
          simpa [List.getD, List.getElem?_eq_getElem hj] using this
        have hbw := noted hb1 hbel
        obtain ⟨D, dc, bl, rfl, hbc, hrw, hgd, hiv, _⟩ := HBS.out
        obtain ⟨T, tc, bt, rfl, htc, hrt, hgt, hit, _⟩ := HBT.out
        have hln := hiv.len
        rw [List.length_map, HL.out] at hln
        have hbd : ∀ b ∈ bl, b.data.length ≤ 10000000 := fun b hb => Nat.le_trans (hall _ (hiv.sub b.abs (List.mem_map_of_mem hb))) (by omega)
        have hbn : ∀ b ∈ bl, b.name.length ≤ 1000000 := fun b hb => by
          have h := hiv.nam b.abs (List.mem_map_of_mem hb)
          have h : b.name = nameOf b.data := h
          rw [h, nameOf_length]; omega
        have hvw := view_any bl D dc wr (HLW.out _ hbel) hrw hgd (by omega) hbc hbd hbn
        have hc0 := inv_check _ _ hiv hall (by rw [HL.out]; omega)
        have hub := unview_back _ _ hiv hall (by rw [HL.out]; omega)
        have hst : bl.map Bl.abs = bt.map Bl.abs := inv_eq _ _ _ _ hiv hit (fun d => (List.mem_reverse).symm)
        have hsmall : ∀ x ∈ viewL (bl.map Bl.abs), x.name.length ≤ 1000000 ∧ x.data.length ≤ 1000000 := fun x hx => by
          rw [viewL] at hx
          rcases List.mem_cons.1 hx with rfl | hx
          · exact ⟨by simp [dirE, folder0], by simp [dirE]⟩
          · rcases List.mem_cons.1 hx with rfl | hx
            · exact ⟨by simp [dirE, folder1], by simp [dirE]⟩
            · obtain ⟨y, hy, rfl⟩ := List.mem_map.1 hx
              have h := hiv.nam y hy
              have h2 := hall _ (hiv.sub y hy)
              refine ⟨?_, ?_⟩
              · show (folderP ++ y.1.drop 7).length ≤ _
                rw [h, List.length_append, List.length_drop, nameOf_length]; simp [folderP]
              · show y.2.length ≤ _; omega
        have HSAME1 := Lib.hid (fun W (h : Below wr.heap.size wr W) => same22_any bl bt D T dc tc W (hrw.below h) (hgd.below h) (hrt.below h) (hgt.below h) (by omega))
        rw [decide_eq_true hst] at HSAME1
        have HSAME2 := Lib.hid (fun (bu : List Bl) U uc W (h : Below wr.heap.size wr W) (hru : RowAt W U bu) (hgu : AllGood W bu) => same22_any bl bu D U dc uc W (hrw.below h) (hgd.below h) hru hgu (by omega))
        have HVW := Lib.hid hvw; have HC0 := Lib.hid hc0; have HUB := Lib.hid hub; have HSMALL := Lib.hid hsmall
        clear hvw hc0 hub hst hsmall hrw hgd hiv hrt hgt hit hbd hbn hall HBS HBT HSM hbc htc
        generalize hs0 : bl.map Bl.abs = s at *
        have hslen : s.length ≤ 12 := by rw [← hs0, List.length_map]; omega
        clear hs0
        generalize hbl0 : bl.length = bn at *
        generalize bt.length = tn at *
        clear hbl0
        go_wp2_with fail
        refine HVW.out.mono ?_
        rintro e w2 ⟨hb2, hm⟩
        rcases hm with ⟨_, V, vc, lv, rfl, hlv, hgv, hrv, hvc⟩ | ⟨hne, _⟩
        · have hbw2 := noted hbel hb2
          have hll : lv.length = s.length + 2 := by
            have := congrArg List.length hlv
            rw [List.length_map] at this
            rw [this]; simp [viewL]
          have hun := unview_any lv V vc w2 (HLW.out _ hbw2) hrv hgv (by omega) (fun x hx => HSMALL.out x.e (by rw [← hlv]; exact List.mem_map_of_mem hx))
          rw [hlv, HUB.out] at hun
          have HUN := Lib.hid hun
          clear hun hgv hrv hll hlv hvc HVW
          generalize lv.length = ln at *
          go_wp2_with fail
          refine HUN.out.mono ?_
          rintro e w3 ⟨hb3, hm3⟩
          obtain ⟨U, un, uc, rfl, bu, hab, rfl, _, _, hru, hgu⟩ := hm3
          have hb23 := noted hb2 hb3
          have hs2 := fun W (h : Below w3.heap.size w3 W) => HSAME2.out bu U uc W (noted hb23 h) (hru.below h) (hgu.below h)
          rw [hab, decide_eq_true rfl] at hs2
          have HS2 := Lib.hid hs2
          clear hs2 hru hgu hab HUN HSAME2
          generalize bu.length = bun at *
          go_wp2_with fail
          refine (HSAME1.out w3 hb23).mono ?_
          rintro e w4 ⟨rfl, hb4⟩
          go_wp2_with fail
          refine (HS2.out w4 hb4).mono ?_
          rintro e w5 ⟨rfl, hb5⟩
          go_wp2_with fail
          go_ret
          exact ⟨rfl, noted hbw (noted hb23 (noted hb4 hb5))⟩
        · exact absurd HC0.out hne
end Go.Proofs.YtbioclpobmgikaaDoor
