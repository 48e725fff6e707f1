/- StoreViews: the law's walk. -/
import Derived.Test.YtbioclpobmgikaaDoorVw5
import Derived.Test.YtbioclpobmgikaaDoorVw6
namespace Go.Proofs.YtbioclpobmgikaaDoor
open Go.RowKit

def viewN (s : St2) : List Ent := if checkS s = 0 then viewL s else []
theorem viewN_length (s : St2) : (viewN s).length ≤ s.length + 2 := by
  unfold viewN
  split
  · simp [viewL]
  · simp
theorem ViewAt.both {s : St2} {w w' : World} {e : Ending} (h : ViewAt s w w' e) : Below w.heap.size w w' ∧ ∃ A c l, e = .returned (.tuple #[.slice A l.length c, errV (checkS s)]) ∧ l.map En.e = viewN s ∧ AllEGood w' l ∧ EntsAt w' A l := by
  obtain ⟨hb, h⟩ := h
  refine ⟨hb, ?_⟩
  rcases h with ⟨hz, A, c, l, h1, h2, h3, h4, _⟩ | ⟨hz, h1⟩
  · exact ⟨A, c, l, by rw [h1, hz]; rfl, by rw [viewN, if_pos hz]; exact h2, h3, h4⟩
  · exact ⟨none, 0, [], h1, by rw [viewN, if_neg hz]; rfl, fun x hx => (List.not_mem_nil hx).elim, fun j hj => by simp at hj⟩
theorem View22At.both {s : St2} {w w' : World} {e : Ending} (h : View22At s w w' e) : Below w.heap.size w w' ∧ ∃ A c, e = .returned (.tuple #[.slice A (viewN s).length c, .int .i64 (checkS s : Nat)]) ∧ DocsAt w' A (viewN s) := by
  obtain ⟨hb, h⟩ := h
  refine ⟨hb, ?_⟩
  rcases h with ⟨hz, A, c, h1, h2⟩ | ⟨hz, h1⟩
  · refine ⟨A, c, ?_, by rw [viewN, if_pos hz]; exact h2⟩
    rw [h1, hz, viewN, if_pos hz, show (viewL s).length = s.length + 2 by simp [viewL]]
    rfl
  · refine ⟨none, 0, ?_, fun j hj => by rw [viewN, if_neg hz] at hj; simp at hj⟩
    rw [h1, viewN, if_neg hz]; rfl
def uN (u : Nat ⊕ St2) : Nat := match u with | .inl k => k | .inr _ => 0
def uS (u : Nat ⊕ St2) : St2 := match u with | .inl _ => [] | .inr s => s
theorem UnviewAt.both {u : Nat ⊕ St2} {w w' : World} {e : Ending} (h : UnviewAt u w w' e) (hu : ∀ k, u = .inl k → k ≠ 0) : Below w.heap.size w w' ∧ ∃ A c bl, e = .returned (.tuple #[.slice A bl.length c, errV (uN u)]) ∧ bl.map Bl.abs = uS u ∧ RowAt w' A bl ∧ AllGood w' bl := by
  obtain ⟨hb, h⟩ := h
  refine ⟨hb, ?_⟩
  cases u with
  | inl k => exact ⟨none, 0, [], by rw [h, uN, errV_pos k (hu k rfl)]; rfl, rfl, fun j hj => by simp at hj, fun x hx => (List.not_mem_nil hx).elim⟩
  | inr s =>
    obtain ⟨A, n, c, rfl, bl, h1, rfl, _, _, h2, h3⟩ := h
    exact ⟨A, c, bl, rfl, h1, h2, h3⟩
theorem Unview22At.both {u : Nat ⊕ St2} {w w' : World} {e : Ending} (h : Unview22At u w w' e) : Below w.heap.size w w' ∧ ∃ A c, e = .returned (.tuple #[.slice A (uS u).length c, .int .i64 (uN u : Nat)]) ∧ DocAt w' A (uS u) := by
  obtain ⟨hb, h⟩ := h
  refine ⟨hb, ?_⟩
  cases u with
  | inl k => exact ⟨none, 0, h, fun j hj => by simp [uS] at hj⟩
  | inr s =>
    obtain ⟨A, c, rfl, h1, _⟩ := h
    exact ⟨some A, c, rfl, h1⟩
theorem uN_lt (l : List Ent) : uN (unviewFrom [] l) < 100 := by
  cases h : unviewFrom [] l with
  | inl k => exact (unview_err l [] k h).2
  | inr s => show 0 < 100; omega
theorem uS_len (l : List Ent) : (uS (unviewFrom [] l)).length ≤ l.length := by
  cases h : unviewFrom [] l with
  | inl k => simp [uS]
  | inr s =>
    have h2 : ∃ m, ∀ e ∈ l, e.data.length ≤ m := by
      clear h
      induction l with
      | nil => exact ⟨0, fun e he => by cases he⟩
      | cons a l ih =>
        obtain ⟨m, hm⟩ := ih
        refine ⟨m + a.data.length, fun e he => ?_⟩
        rcases List.mem_cons.1 he with rfl | he
        · omega
        · have := hm e he; omega
    obtain ⟨m, hm⟩ := h2
    have := (unview_small m l [] s hm (fun x hx => by cases hx) h).1
    simpa [uS] using this

set_option maxHeartbeats 4000000 in
set_option maxRecDepth 100000 in
theorem storeViews_walk (A : Option Addr) (bs : List Bl) (c : Nat) (B : Option Addr) (l : List En) (d : Nat) (w : World) (hL : Laid w)
    (hr : RowAt w A bs) (hg : AllGood w bs) (hc : bs.length ≤ c) (hrl : EntsAt w B l) (hgl : AllEGood w l) :
    Calls Tryd.prog 17 #[.slice A bs.length c, .slice B l.length d] w fun e w' => e = .returned (.bool true) ∧ Below w.heap.size w w' := by
  have hl1 := fun W (h : Below w.heap.size w W) => long22_any bs A c 20 W (hr.below h) (by omega)
  have hl2 := fun W (h : Below w.heap.size w W) => long20_any l B d 20 W (hrl.below h) (by omega)
  rw [show ((20 : Nat) : Int) = 20 from rfl] at hl1 hl2
  have HL1 := Lib.hid hl1; have HL2 := Lib.hid hl2
  have HR := Lib.hid hr; have HG := Lib.hid hg; have HRL := Lib.hid hrl; have HGL := Lib.hid hgl; have HLL := Lib.hid hL
  clear hr hg hrl hgl hL hl1 hl2
  generalize hbs : bs.length = n at *
  generalize hbl : l.length = m at *
  have HBS := Lib.hid hbs; have HBL := Lib.hid hbl
  clear hbs hbl
  go_enter Tryd.func17, Tryd.ntmps17
  go_wp2_with fail
  refine (alive22_any _ HLL.out).mono ?_
  rintro e w1 ⟨rfl, hb1⟩
  go_wp2_with fail
  refine (HL1.out w1 hb1).mono ?_
  rintro e w2 ⟨r, rfl, hb2, hr1⟩
  have hb12 := noted hb1 hb2
  clear hb2 HL1
  cases r with
  | true =>
    go_wp2_with fail
    go_ret
    exact ⟨rfl, hb12⟩
  | false =>
    obtain ⟨hn20, hs1⟩ := hr1 rfl
    have HS1 := Lib.hid hs1
    clear hr1 hs1 hb1
    go_wp2_with fail
    refine (HL2.out w2 hb12).mono ?_
    rintro e w3 ⟨r, rfl, hb3, hr2⟩
    have hb13 := noted hb12 hb3
    clear hb3 HL2
    cases r with
    | true =>
      go_wp2_with fail
      go_ret
      exact ⟨rfl, hb13⟩
    | false =>
      obtain ⟨hm20, hs2⟩ := hr2 rfl
      have HS2 := Lib.hid hs2
      clear hr2 hs2 hb12
      have hsd : ∀ x ∈ bs.map Bl.abs, x.2.length ≤ 3000 ∧ x.1.length ≤ 200 := fun x hx => by
        obtain ⟨b, hb, rfl⟩ := List.mem_map.1 hx
        exact HS1.out b hb
      have hvw := view_any bs A c w3 (HLL.out.below hb13) (HR.out.below hb13) (HG.out.below hb13) (by rw [HBS.out]; omega) (by rw [HBS.out]; exact hc) (fun b hb => Nat.le_trans (HS1.out b hb).1 (by omega)) (fun b hb => Nat.le_trans (HS1.out b hb).2 (by omega))
      have HDOC := Lib.hid (fun W (h : Below w.heap.size w W) => document_any bs A c W (HR.out.below h) (HG.out.below h) (by rw [HBS.out]; omega))
      rw [HBS.out] at hvw HDOC
      have hck := checkS_lt (bs.map Bl.abs)
      have hvl := viewN_length (bs.map Bl.abs)
      have hsl : (bs.map Bl.abs).length = n := by rw [List.length_map]; exact HBS.out
      rw [hsl] at hvl
      have HVW := Lib.hid hvw; have HSD := Lib.hid hsd; have HSL := Lib.hid hsl
      clear hvw hsd hsl
      generalize bs.map Bl.abs = s at *
      have HNUM := Lib.hid (fun W => num_any (checkS s) hck W)
      go_wp2_with fail
      refine HVW.out.mono ?_
      rintro e w4 h4
      obtain ⟨hb4, V, vc, lv, rfl, hlv, hgv, hrv⟩ := h4.both
      have hb14 := noted hb13 hb4
      have hll : lv.length = (viewN s).length := by rw [← hlv, List.length_map]
      have HRV := Lib.hid hrv; have HGV := Lib.hid hgv; have HLV := Lib.hid hlv
      clear h4 hrv hgv hlv HVW hck
      rw [hll]
      generalize hck : checkS s = ck at *
      have HCK := Lib.hid hck
      clear hck
      generalize hvn : (viewN s).length = vn at *
      have HVN := Lib.hid hvn
      clear hvn
      go_wp2_with fail
      refine (HDOC.out w4 hb14).mono ?_
      rintro e w5 ⟨v5, rfl, hb5, hown5⟩
      have hb15 := noted hb14 hb5
      obtain ⟨D, dc, rfl, hdn, _, _, hdoc⟩ := own_doc hown5
      have hv22 := view22_any s D dc w5 hdoc (by rw [HSL.out]; omega) (by rw [HSL.out]; exact hdn) (fun x hx => Nat.le_trans (HSD.out x hx).1 (by omega)) (fun x hx => Nat.le_trans (HSD.out x hx).2 (by omega))
      rw [HSL.out] at hv22
      have HV22 := Lib.hid hv22
      clear hv22 hown5 hdoc HDOC hdn
      go_wp2_with fail
      refine HV22.out.mono ?_
      rintro e w6 h6
      obtain ⟨hb6, E, ec, rfl, hE⟩ := h6.both
      have hb16 := noted hb15 hb6
      have hb46 := noted hb5 hb6
      have har := are_any lv V E vc ec w6 (HRV.out.below hb46) (HGV.out.below hb46) (by rw [HLV.out]; exact hE) (by rw [hll]; omega)
      rw [hll] at har
      have HAR := Lib.hid har
      rw [HCK.out, HVN.out]
      clear h6 hE har HV22 hb14 hb15 hb46 hb4 hb5 hb6
      go_wp2_with fail
      refine HAR.out.mono ?_
      rintro e w7 ⟨rfl, hb7⟩
      have hb17 := noted hb16 hb7
      go_wp2_with fail
      refine (HNUM.out _).mono ?_
      rintro e w' ⟨rfl, rfl⟩
      have hunv := unview_any l B d w7 (HLL.out.below hb17) (HRL.out.below hb17) (HGL.out.below hb17) (by rw [HBL.out]; omega) (fun x hx => ⟨Nat.le_trans (HS2.out x hx).1 (by omega), Nat.le_trans (HS2.out x hx).2.2.2.2 (by omega)⟩)
      have HDOCS := Lib.hid (fun W (h : Below w.heap.size w W) => documents_any l B d W (HRL.out.below h) (HGL.out.below h) (by rw [HBL.out]; omega))
      rw [HBL.out] at hunv HDOCS
      have HUNV := Lib.hid hunv
      have hul := uN_lt (l.map En.e)
      have husl := uS_len (l.map En.e)
      rw [List.length_map, HBL.out] at husl
      have HUE := Lib.hid (fun k (h : unviewFrom [] (l.map En.e) = .inl k) => (unview_err _ _ k h).1)
      have HU22 := Lib.hid (fun F fc W (hF : DocsAt W F (l.map En.e)) => unview22_any (l.map En.e) F fc W hF (by rw [List.length_map, HBL.out]; omega) (fun x hx => by
        obtain ⟨y, hy, rfl⟩ := List.mem_map.1 hx
        exact ⟨Nat.le_trans (HS2.out y hy).1 (by omega), Nat.le_trans (HS2.out y hy).2.2.2.2 (by omega)⟩))
      rw [List.length_map, HBL.out] at HU22
      clear hunv HAR HNUM
      generalize unviewFrom [] (l.map En.e) = U at *
      go_wp2_with fail
      refine HUNV.out.mono ?_
      rintro e w8 h8
      obtain ⟨hb8, T, tc, bt, rfl, hbt, hrt, hgt⟩ := h8.both HUE.out
      have hb18 := noted hb17 hb8
      have hbtl : bt.length = (uS U).length := by rw [← hbt, List.length_map]
      have HRT := Lib.hid hrt; have HGT := Lib.hid hgt; have HBT := Lib.hid hbt
      have HNUM := Lib.hid (fun W => num_any (uN U) hul W)
      clear h8 hrt hgt hbt HUNV
      rw [hbtl]
      generalize hun : uN U = un at *
      have HUNN := Lib.hid hun
      clear hun
      generalize hus : (uS U).length = us at *
      have HUS := Lib.hid hus
      clear hus
      go_wp2_with fail
      refine (HDOCS.out w8 hb18).mono ?_
      rintro e w9 ⟨v9, rfl, hb9, hown9⟩
      have hb19 := noted hb18 hb9
      obtain ⟨F, fc, rfl, _, _, _, hF⟩ := own_rec (d := ent0) Ent.len hown9
      have HU := Lib.hid (HU22.out F fc w9 hF)
      clear hown9 hF HU22 HDOCS
      go_wp2_with fail
      refine HU.out.mono ?_
      rintro e w10 h10
      obtain ⟨hb10, M, mc, rfl, hM⟩ := h10.both
      have hb1x := noted hb19 hb10
      have hb8x := noted hb9 hb10
      have his := is22_any bt (uS U) T M tc mc w10 (HRT.out.below hb8x) (HGT.out.below hb8x) hM (by rw [hbtl]; omega)
      rw [HBT.out, decide_eq_true rfl, hbtl, HUS.out] at his
      have HIS := Lib.hid his
      rw [HUS.out, HUNN.out]
      clear his h10 hM HU
      go_wp2_with fail
      refine HIS.out.mono ?_
      rintro e w11 ⟨rfl, hb11⟩
      go_wp2_with fail
      refine (HNUM.out _).mono ?_
      rintro e w' ⟨rfl, rfl⟩
      go_wp2_with fail
      go_ret
      exact ⟨rfl, noted hb1x hb11⟩
end Go.Proofs.YtbioclpobmgikaaDoor
