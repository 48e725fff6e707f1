/- StoreChecks: the law's walk. -/
import Derived.Test.YtbioclpobmgikaaDoorG5
namespace Go.Proofs.YtbioclpobmgikaaDoor
open Go.RowKit

set_option maxHeartbeats 4000000 in
set_option maxRecDepth 100000 in
theorem storeChecks_walk (A : Option Addr) (bs : List Bl) (c : Nat) (B : Option Addr) (bt : List Bl) (d : Nat) (nm : List UInt8) (w : World) (hL : Laid w)
    (hr : RowAt w A bs) (hg : AllGood w bs) (hc : bs.length ≤ c) (hrt : RowAt w B bt) (hgt : AllGood w bt) (hd : bt.length ≤ d) (_ : nm.length ≤ 140737488351232) :
    Calls Tryd.prog 16 #[.slice A bs.length c, .slice B bt.length d, .string (St nm)] w fun e w' => e = .returned (.bool true) ∧ Below w.heap.size w w' := by
  have hl1 := fun W (h : Below w.heap.size w W) => long22_any bs A c 20 W (hr.below h) (by omega)
  have hl2 := fun W (h : Below w.heap.size w W) => long22_any bt B d 20 W (hrt.below h) (by omega)
  rw [show ((20 : Nat) : Int) = 20 from rfl] at hl1 hl2
  have HL1 := Lib.hid hl1; have HL2 := Lib.hid hl2
  have HR := Lib.hid hr; have HG := Lib.hid hg; have HRT := Lib.hid hrt; have HGT := Lib.hid hgt; have HLL := Lib.hid hL
  clear hr hg hrt hgt hL hl1 hl2
  have htl := St_toList
  have hszn : (St nm).size = nm.length := rfl
  generalize hbs : bs.length = n at *
  generalize hbt : bt.length = m at *
  have HBS := Lib.hid hbs; have HBT := Lib.hid hbt
  clear hbs hbt
  go_enter Tryd.func16, Tryd.ntmps16
  go_wp2_with fail
  refine (alive22_any _ HLL.out).mono ?_
  rintro e w1 ⟨rfl, hb1⟩
  go_wp2_with fail
  refine (HL1.out w1 hb1).mono ?_
  rintro e w2 ⟨r, rfl, hb2, hr1⟩
  have hb12 := noted hb1 hb2
  clear hb2 HL1
  cases r with
  | true =>
    go_wp2_with fail
    go_ret
    exact ⟨rfl, hb12⟩
  | false =>
    obtain ⟨hn20, hs1⟩ := hr1 rfl
    have HS1 := Lib.hid hs1
    clear hr1 hs1 hb1
    go_wp2_with fail
    refine (HL2.out w2 hb12).mono ?_
    rintro e w3 ⟨r, rfl, hb3, hr2⟩
    have hb13 := noted hb12 hb3
    clear hb3 HL2
    cases r with
    | true =>
      go_wp2_with fail
      go_ret
      exact ⟨rfl, hb13⟩
    | false =>
      obtain ⟨hm20, hs2⟩ := hr2 rfl
      have HS2 := Lib.hid hs2
      clear hr2 hs2 hb12
      by_cases h200 : 200 < nm.length
      · have hd2 : decide ((nm.length : Int) > 200) = true := decide_eq_true (by omega)
        go_wp2_with fail
        go_ret
        exact ⟨rfl, hb13⟩
      · have hd2 : decide ((nm.length : Int) > 200) = false := decide_eq_false (by omega)
        have hdoc := document_any bs A c w3 (HR.out.below hb13) (HG.out.below hb13) (by rw [HBS.out]; omega)
        rw [HBS.out] at hdoc
        have HDOC := Lib.hid hdoc
        have hnm : nm.length ≤ 200 := by omega
        clear hdoc h200
        generalize nm.length = nl at hd2 hszn
        go_wp2_with fail
        refine HDOC.out.mono ?_
        rintro e w4 ⟨v4, rfl, hb4, hown4⟩
        have hb14 := noted hb13 hb4
        obtain ⟨D, dc, rfl, hdn, hdz, hdl, hdoc⟩ := own_doc hown4
        have HDOC4 := Lib.hid hdoc
        clear hown4 hdoc HDOC hdz
        have hsd : ∀ x ∈ bs.map Bl.abs, x.2.length ≤ 3000 := fun x hx => by
          obtain ⟨b, hb, rfl⟩ := List.mem_map.1 hx
          exact (HS1.out b hb).1
        have hdd : ∀ b ∈ bs, b.data.length ≤ 10000000 := fun b hb => Nat.le_trans (HS1.out b hb).1 (by omega)
        have hget := get_any bs nm A c w4 (HLL.out.below hb14) (HR.out.below hb14) (HG.out.below hb14) (by rw [HBS.out]; omega) hdd (by omega)
        rw [HBS.out] at hget
        have HGET := Lib.hid hget
        have HSD := Lib.hid hsd; have HDD := Lib.hid hdd
        clear hget hsd hdd hb13 hb4
        go_wp2_with fail
        refine HGET.out.mono ?_
        rintro e w5 h5
        obtain ⟨hb5, G, gc, rfl, hG⟩ := h5.both
        have hb15 := noted hb14 hb5
        have HD5 := Lib.hid (HDOC4.out.below hb5)
        have hg22 := get22_any (bs.map Bl.abs) nm D dc w5 HD5.out (by rw [hdl]; omega) (fun x hx => Nat.le_trans (HSD.out x hx) (by omega))
        have HNL := Lib.hid (getN_lt (bs.map Bl.abs) nm)
        rw [hdl] at hg22
        have HG22 := Lib.hid hg22
        have HGB := Lib.hid hG
        clear h5 hg22 HDOC4 HGET hG hb14
        generalize hs0 : bs.map Bl.abs = s at *
        have HS0 := Lib.hid hs0
        clear hs0
        generalize hgn : getN s nm = gk at *
        generalize hgb : getB s nm = gd at *
        have HGN := Lib.hid hgn; have HGBB := Lib.hid hgb
        clear hgn hgb
        go_wp2_with fail
        refine HG22.out.mono ?_
        rintro e w6 ⟨h6, hb6⟩
        have h6 := h6.both
        rw [HGN.out, HGBB.out] at h6
        subst h6
        have hb16 := noted hb15 hb6
        have hcv := str_bytes w6 G gd gc (HGB.out.below hb6)
        have HNUM := Lib.hid (fun W => num_any gk HNL.out W)
        have hhas := has_any bs nm A c w6 (HR.out.below hb16) (by rw [HBS.out]; omega)
        rw [placeL_abs, HBS.out, HS0.out] at hhas
        have HHAS := Lib.hid hhas
        have HD6 := Lib.hid (HD5.out.below hb6)
        have HPL := Lib.hid (fun W (h : Below w6.heap.size w6 W) => place22_any s nm D dc W (HD6.out.below h) (by rw [hdl]; omega))
        rw [hdl] at HPL
        clear hhas HG22 HGB HD5 hb15 hb5 hb6
        generalize placeS s nm = p at *
        generalize hrp : decide (0 ≤ p) = rp at *
        have hrp2 : decide (p ≥ 0) = rp := hrp
        generalize gd.length = gl at *
        go_wp2_with fail
        refine (HNUM.out _).mono ?_
        rintro e w' ⟨rfl, rfl⟩
        go_wp2_with fail
        refine HHAS.out.mono ?_
        rintro e w7 ⟨rfl, hb7⟩
        have hb17 := noted hb16 hb7
        go_wp2_with fail
        refine (HPL.out w7 hb7).mono ?_
        rintro e w' ⟨rfl, rfl⟩
        have HD7 := Lib.hid (HD6.out.below hb7)
        clear HNUM HHAS HPL hb16 hb7 HD6 hcv HNL
        have hO0 := text_made w7 nm w7.heap.size (Nat.le_refl _)
        have hB0 : Below w7.heap.size w7 (w7.alloc (.cells #[.string (St nm)] 9)) := (Below.refl _ _).alloc (Nat.le_refl _) _
        have HRT7 := Lib.hid (HRT.out.below hb17)
        have HO0 := Lib.hid hO0
        clear hO0
        go_wp2_with fail
        go_loopw [12, 14, 66] (fun vl _ vi wr => ∃ k : Nat, k ≤ m ∧ vi = .int .i64 (k : Int) ∧ Below w7.heap.size w7 wr ∧ Hid (wr.ownsRow w7.heap.size 9 1 vl (1 + k) (Ss (nm :: (bt.map Bl.name).take k)))) (fun _ _ v _ => m - (intOf v).toNat)
        case atStart => exact ⟨0, by omega, rfl, hB0, HO0⟩
        case round =>
          clear HO0 hB0
          obtain ⟨k, hk, rfl, hbel, HOWN⟩ := hrel
          by_cases hlt : k < m
          · obtain ⟨b, rfl, g1, g2⟩ := HRT7.out.below hbel k (by rw [HBT.out]; exact hlt)
            have HNT := Lib.hid (names_take bt k (by rw [HBT.out]; exact hlt))
            generalize bt.getD k bl0 = x at *
            have hsz := hbel.size
            have htn := text_new (wr.alloc (.cells #[.string (St x.name), .slice x.D x.data.length x.c] 70)) x.name
            rw [show (wr.alloc (.cells #[.string (St x.name), .slice x.D x.data.length x.c] 70)).heap.size = wr.heap.size + 1 by simp] at htn
            have HTN := Lib.hid htn
            clear htn
            generalize x.data.length = xl at *
            have hown := HOWN.out
            go_wp2_with (refine wpList_append_texts rfl (.tmp 70) (.tmp 73) rfl w7.heap.size _ (1 + k) (nm :: (bt.map Bl.name).take k) rfl ((hown.alloc _).alloc _) (some ⟨wr.heap.size + 1, 0, none⟩) [x.name] 1 1 rfl rfl HTN.out (fun h => by cases h) (by omega) (by simp; omega) ?_; rintro v' w9 hown9 hg9 hn9)
            have hb9 := ((hbel.alloc hsz _).alloc (by simp; omega) _).grown hg9 (by simp; omega) (fun j hj => (hown.lt j hj).1)
            clear hn9
            go_roundw
            case rel => exact ⟨k + 1, by omega, by go_num, hb9, by rw [HNT.out]; exact Lib.hid hown9⟩
            case measure => simp [intOf]; omega
          · obtain rfl : k = m := by omega
            rw [List.take_of_length_le (by rw [List.length_map, HBT.out]; exact Nat.le_refl _)] at HOWN
            obtain ⟨N, nc, rfl, hnn, hnl, hnk, hnt⟩ := own_texts HOWN.out
            have hb18 := noted hb17 hbel
            have HNT := Lib.hid hnt
            have HD8 := Lib.hid (HD7.out.below hbel)
            have hR := HR.out.below hb18
            have hdr := drop_any bs nm A c wr (HR.out.below hb18) (HG.out.below hb18) (by rw [HBS.out]; omega) HDD.out
            rw [HBS.out, HS0.out] at hdr
            have HDR := Lib.hid hdr
            clear HOWN hnn hnt HD7 hR hdr hb17
            generalize hNS : nm :: bt.map Bl.name = ns at *
            clear hNS
            go_wp2_with fail
            refine HDR.out.mono ?_
            rintro e w9 h9
            obtain ⟨hb9, K1, k1c, kl1, rfl, hm1, hg1, hr1, _, _⟩ := h9.row
            have hb19 := noted hb18 hb9
            have hba := (Below.refl w9.heap.size w9).alloc (Nat.le_refl _) (.cells #[.string (St nm)] 9)
            have hkp := keep22_any s [nm] false D (some ⟨w9.heap.size, 0, none⟩) dc 1 (w9.alloc (.cells #[.string (St nm)] 9)) ((HD8.out.below hb9).below hba) (text_new w9 nm) (by rw [hdl]; omega) (by simp)
            rw [hdl, keep_drop, show [nm].length = 1 from rfl] at hkp
            have HKP := Lib.hid hkp; have HG1 := Lib.hid hg1; have HR1 := Lib.hid hr1; have HM1 := Lib.hid hm1
            have HBA := Lib.hid hba
            clear hkp hg1 hr1 hm1 h9 HDR hba
            go_wp2_with fail
            refine HKP.out.mono ?_
            rintro e w10 ⟨v10, rfl, hb10, hown10⟩
            have hb9x := noted HBA.out hb10
            obtain ⟨E, ec, rfl, _, _, _, hE⟩ := own_doc hown10
            have his := is22_any kl1 (keepS (fun x => !(eqB x nm)) s) K1 E k1c ec w10 (HR1.out.below hb9x) (HG1.out.below hb9x) hE (by
              have := congrArg List.length HM1.out
              rw [List.length_map] at this
              have := keepS_length (fun x => !(eqB x nm)) s
              omega)
            rw [HM1.out, decide_eq_true rfl] at his
            have HIS := Lib.hid his
            clear his hown10 hE HKP
            have hb1x := noted hb19 hb9x
            have hb8x := noted hb9 hb9x
            have hl1 : kl1.length ≤ 20 := by
              have := congrArg List.length HM1.out
              rw [List.length_map] at this
              have := keepS_length (fun x => !(eqB x nm)) s
              omega
            generalize kl1.length = kn1 at *
            generalize hks1 : keepS (fun x => !(eqB x nm)) s = ks1 at *
            clear hks1 HG1 HR1 HM1 hb19 hb9x hb10 HBA hb9
            go_wp2_with fail
            refine HIS.out.mono ?_
            rintro e w11 ⟨rfl, hb11⟩
            have hb1y := noted hb1x hb11
            have hb8y := noted hb8x hb11
            have hkp := keep_any bs ns A N c nc w11 (HR.out.below hb1y) (HG.out.below hb1y) (HNT.out.below hb8y) (by rw [HBS.out]; omega) HDD.out (by omega)
            rw [HBS.out, HS0.out, hnk] at hkp
            have HKP := Lib.hid hkp
            clear hkp HIS hb11 hb1x hb8x
            go_wp2_with fail
            refine HKP.out.mono ?_
            rintro e w12 h12
            obtain ⟨hb12, K2, k2c, kl2, rfl, hm2, hg2, hr2, _, _⟩ := h12.row
            have hb1z := noted hb1y hb12
            have hb8z := noted hb8y hb12
            have hkp2 := keep22_any s ns true D N dc nc w12 (HD8.out.below hb8z) (HNT.out.below hb8z) (by rw [hdl]; omega) (by omega)
            rw [hdl, keep_in, hnk] at hkp2
            have HKP2 := Lib.hid hkp2; have HG2 := Lib.hid hg2; have HR2 := Lib.hid hr2; have HM2 := Lib.hid hm2
            clear hkp2 hg2 hr2 hm2 h12 HKP hb12 hb1y hb8y
            go_wp2_with fail
            refine HKP2.out.mono ?_
            rintro e w13 ⟨v13, rfl, hb13, hown13⟩
            have hb1u := noted hb1z hb13
            have hb8u := noted hb8z hb13
            obtain ⟨F, fc, rfl, _, _, _, hF⟩ := own_doc hown13
            have his := is22_any kl2 (keepS (memT ns) s) K2 F k2c fc w13 (HR2.out.below hb13) (HG2.out.below hb13) hF (by
              have := congrArg List.length HM2.out
              rw [List.length_map] at this
              have := keepS_length (memT ns) s
              omega)
            rw [HM2.out, decide_eq_true rfl] at his
            have HIS := Lib.hid his
            have hl2 : kl2.length ≤ 20 := by
              have := congrArg List.length HM2.out
              rw [List.length_map] at this
              have := keepS_length (memT ns) s
              omega
            clear his hown13 hF HKP2 HG2 HR2 HM2 hb13 hb1z hb8z
            generalize kl2.length = kn2 at *
            generalize keepS (memT ns) s = ks2 at *
            go_wp2_with fail
            refine HIS.out.mono ?_
            rintro e w14 ⟨rfl, hb14⟩
            have hb1v := noted hb1u hb14
            have hb8v := noted hb8u hb14
            have hsm := same22_any bs bt A B c d w14 (HR.out.below hb1v) (HG.out.below hb1v) (HRT.out.below hb1v) (HGT.out.below hb1v) (by rw [HBS.out]; omega)
            rw [HBS.out, HBT.out, HS0.out] at hsm
            have HSM := Lib.hid hsm
            clear hsm HIS hb14 hb1u hb8u
            have HQ := Lib.hid (show decide (bt.map Bl.abs = s) = decide (s = bt.map Bl.abs) by
              rw [Bool.eq_iff_iff]
              simp only [decide_eq_true_eq]
              exact ⟨fun h => h.symm, fun h => h.symm⟩)
            generalize decide (s = bt.map Bl.abs) = rs at *
            go_wp2_with fail
            refine HSM.out.mono ?_
            rintro e w15 ⟨rfl, hb15⟩
            have hb1w := noted hb1v hb15
            have hb8w := noted hb8v hb15
            have his := is22_any bt s B D d dc w15 (HRT.out.below hb1w) (HGT.out.below hb1w) (HD8.out.below hb8w) (by rw [HBT.out]; omega)
            rw [HBT.out, hdl, HQ.out] at his
            have HIS := Lib.hid his
            clear his HSM hb15 hb1v hb8v HQ
            go_wp2_with fail
            refine HIS.out.mono ?_
            rintro e w16 ⟨rfl, hb16⟩
            have hb1p := noted hb1w hb16
            have hb8p := noted hb8w hb16
            have hck := check_any bs A c w16 (HLL.out.below hb1p) (HR.out.below hb1p) (HG.out.below hb1p) (by rw [HBS.out]; omega) (by rw [HBS.out]; exact hc) HDD.out (fun b hb => Nat.le_trans (HS1.out b hb).2 (by omega))
            rw [HBS.out, HS0.out] at hck
            have HCK := Lib.hid hck
            have HNUM := Lib.hid (fun W => num_any (checkS s) (checkS_lt s) W)
            have HCK2 := Lib.hid (fun W (h : Below wr.heap.size wr W) => check22_any s D dc W (HD8.out.below h) (by rw [hdl]; omega) (by rw [hdl]; exact hdn) (fun x hx => Nat.le_trans (HSD.out x hx) (by omega)))
            rw [hdl] at HCK2
            clear hck HIS hb16 hb1w hb8w
            generalize checkS s = ck at *
            go_wp2_with fail
            refine HCK.out.mono ?_
            rintro e w17 ⟨rfl, hb17⟩
            have hb1q := noted hb1p hb17
            have hb8q := noted hb8p hb17
            go_wp2_with fail
            refine (HNUM.out _).mono ?_
            rintro e w' ⟨rfl, rfl⟩
            go_wp2_with fail
            refine (HCK2.out w17 hb8q).mono ?_
            rintro e w18 ⟨rfl, hb18⟩
            go_wp2_with fail
            go_ret
            exact ⟨rfl, noted hb1q hb18⟩
end Go.Proofs.YtbioclpobmgikaaDoor
