/- A store's view: the program's walk. -/
import Derived.Test.YtbioclpobmgikaaDoorEn1
import Derived.Laws.OwnMore
namespace Go.Proofs.YtbioclpobmgikaaDoor
open Go.RowKit

theorem checkFrom_zero (s : St2) : ∀ n i, checkFrom s n i = 0 → ∀ j, i ≤ j → j < i + n → checkAt s j = 0
  | 0, _, _, j, h1, h2 => by omega
  | n + 1, i, h, j, h1, h2 => by
    rw [checkFrom] at h
    split at h
    · rename_i h0
      by_cases hj : j = i
      · rw [hj]; exact h0
      · exact checkFrom_zero s n (i + 1) h j (by omega) (by omega)
    · rename_i h0; exact absurd h h0
theorem check_zero (s : St2) (h : checkS s = 0) : s.length ≤ 256 ∧ ∀ j, j < s.length → isName (s.getD j ([], [])).1 = true := by
  unfold checkS at h
  split at h
  · cases h
  · refine ⟨by omega, fun j hj => ?_⟩
    have := checkFrom_zero s _ _ h j (by omega) (by omega)
    unfold checkAt at this
    split at this
    · cases this
    · rename_i hn; simpa using hn
/-- .. in blocks of bytes -/
def EGood5 (w : World) (x : En) : Prop := EGood w x ∧ ∀ a, x.D = some a → ∃ cs, w.heap[a.block]? = some (.cells cs 5 (0, 0))
theorem EGood5.below {w w' : World} {x : En} (h : EGood5 w x) (hb : Below w.heap.size w w') : EGood5 w' x := ⟨h.1.below hb, fun a ha => by
  obtain ⟨cs, hc⟩ := h.2 a ha
  exact ⟨cs, (hb.block _ (Array.getElem?_eq_some_iff.1 hc).1).trans hc⟩⟩
theorem EGood5.grown {w w' : World} {x : En} {base n : Nat} {v : Value} {xs : List Value} (h : EGood5 w x) (ho : w.ownsRow base 140 12 v n xs) (hg : w.grownBy w' v.ownBlock) : EGood5 w' x := by
  have hne : ∀ a, x.D = some a → some a.block ≠ v.ownBlock := fun a ha => by
    obtain ⟨cs, hc⟩ := h.2 a ha
    rcases ho.2 with ⟨rfl, _⟩ | ⟨g, cap, cur, rfl, _, h3, _⟩
    · simp [Value.ownBlock]
    · simp only [Value.ownBlock]
      intro e
      injection e with e
      rw [e, h3] at hc
      injection hc with hc
      injection hc with _ hc
      cases hc
  refine ⟨⟨h.1.1, h.1.2.1, fun j hj => ?_⟩, fun a ha => ?_⟩
  · obtain ⟨a, ha, hc⟩ := h.1.2.2 j hj
    exact ⟨a, ha, hg.cell hc (by rw [add_block]; exact hne a ha)⟩
  · obtain ⟨cs, hc⟩ := h.2 a ha
    exact ⟨cs, (hg.block _ (Array.getElem?_eq_some_iff.1 hc).1 (hne a ha)).trans hc⟩
def AllEGood5 (w : World) (l : List En) : Prop := ∀ x ∈ l, EGood5 w x
theorem AllEGood5.below {w w' : World} {l : List En} (h : AllEGood5 w l) (hb : Below w.heap.size w w') : AllEGood5 w' l := fun x hx => (h x hx).below hb
/-- what View answers, as it lies -/
def ViewAt (s : St2) (w w' : World) (e : Ending) : Prop :=
  Below w.heap.size w w' ∧ ((checkS s = 0 ∧ ∃ A c l, e = .returned (.tuple #[.slice A l.length c, .nilIface]) ∧ l.map En.e = viewL s ∧ AllEGood w' l ∧ EntsAt w' A l ∧ l.length ≤ c) ∨
    (checkS s ≠ 0 ∧ e = .returned (.tuple #[.slice none 0 0, errV (checkS s)])))
theorem view_take (s : St2) (k : Nat) (h : k < s.length) : dirE folder0 :: dirE folder1 :: (s.take (k + 1)).map fileE = (dirE folder0 :: dirE folder1 :: (s.take k).map fileE) ++ [fileE (s.getD k ([], []))] := by
  rw [List.take_add_one, List.getElem?_eq_getElem h, List.map_append]
  simp only [List.getD, List.getElem?_eq_getElem h, Option.getD_some]
  rfl
theorem add_folder (b : List UInt8) (h : b.length ≤ 9223372036854775000) (w : World) : (Op.stringOp .add ⟨#[98, 108, 111, 98, 115, 47, 115, 104, 97, 50, 53, 54, 47]⟩ (St b)).run Tryd.prog w = .ok (.string (St (folderP ++ b))) w :=
  add_St folderP b (by simp [folderP]; omega) w

set_option maxHeartbeats 4000000 in
set_option maxRecDepth 100000 in
theorem view_any (bl : List Bl) (A : Option Addr) (c : Nat) (w : World) (hL : Laid w) (hr : RowAt w A bl) (hg : AllGood w bl) (hn : bl.length ≤ 1000) (hc : bl.length ≤ c) (hd : ∀ b ∈ bl, b.data.length ≤ 10000000) (hnm : ∀ b ∈ bl, b.name.length ≤ 1000000) :
    Calls Tryd.prog 68 #[.slice A bl.length c] w fun e w' => ViewAt (bl.map Bl.abs) w w' e := by
  have hck := check_any bl A c w hL hr hg hn hc hd hnm
  have HR := Lib.hid hr; have HD := Lib.hid hd; have HG := Lib.hid hg; have HNM := Lib.hid hnm
  clear hr hd hg hnm hL
  generalize hl : bl.length = n at *
  have HL := Lib.hid hl
  have HCK := Lib.hid hck
  clear hl hck
  generalize hs : bl.map Bl.abs = s at *
  have HS := Lib.hid hs
  clear hs
  by_cases hz : checkS s = 0
  · rw [hz, show errV 0 = .nilIface from rfl] at HCK
    have HZ := Lib.hid hz
    have hcz := check_zero s hz
    have hsl : s.length = n := by rw [← HS.out, List.length_map]; exact HL.out
    have HCZ := Lib.hid hcz.2
    have HSL := Lib.hid hsl
    clear hz hcz hsl
    go_enter Tryd.func68, Tryd.ntmps68
    go_wp2_with fail
    refine HCK.out.mono ?_
    rintro e w1 ⟨rfl, hb1⟩
    have hO0 := World.ownsRow_lit (base := w.heap.size) (e := 140) (size := 12) w1 ((⟨dirE folder0, none, 0⟩ : En).cells ++ (⟨dirE folder1, none, 0⟩ : En).cells).toArray 2 hb1.size (by unfold maxLen; omega) rfl
    have hB0 := hb1.alloc hb1.size (.cells ((⟨dirE folder0, none, 0⟩ : En).cells ++ (⟨dirE folder1, none, 0⟩ : En).cells).toArray 140)
    have HO0 := Lib.hid hO0; have HB0 := Lib.hid hB0
    clear hO0 hB0
    go_wp2_with fail
    go_loopw [5, 7, 8, 9, 20] (fun vo _ _ _ vi wr => ∃ (k : Nat) (l : List En), k ≤ n ∧ vi = .int .i64 (k : Int) ∧ Below w.heap.size w wr ∧ Hid (wr.ownsRow w.heap.size 140 12 vo (2 + k) (l.flatMap En.cells)) ∧ Hid (l.map En.e = dirE folder0 :: dirE folder1 :: (s.take k).map fileE) ∧ Hid (AllEGood5 wr l)) (fun _ _ _ _ v _ => n - (intOf v).toNat)
    case atStart => exact ⟨0, [⟨dirE folder0, none, 0⟩, ⟨dirE folder1, none, 0⟩], by omega, rfl, HB0.out, Lib.hid HO0.out, Lib.hid rfl, Lib.hid (fun x hx => by
      have : x = ⟨dirE folder0, none, 0⟩ ∨ x = ⟨dirE folder1, none, 0⟩ := by simpa using hx
      rcases this with rfl | rfl <;> exact ⟨⟨Nat.le_refl _, fun _ => rfl, fun j hj => by simp [dirE] at hj⟩, fun a ha => by cases ha⟩)⟩
    case round =>
      clear HO0 HB0
      obtain ⟨k, l, hk, rfl, hbel, HOWN, HM, HA⟩ := hrel
      by_cases hlt : k < n
      · obtain ⟨a, rfl, g1, g2⟩ := (HR.out.below hbel) k (by rw [HL.out]; exact hlt)
        have hmem := getD_mem bl k (by rw [HL.out]; exact hlt)
        have hdk := HD.out _ hmem
        have hnk := HNM.out _ hmem
        have HGK := Lib.hid ((HG.out _ hmem).below hbel)
        have hin := HCZ.out k (by rw [HSL.out]; exact hlt)
        have HVT := Lib.hid (view_take s k (by rw [HSL.out]; exact hlt))
        rw [show s.getD k ([], []) = (bl.getD k bl0).abs by rw [← HS.out]; exact abs_getD _ _ (by rw [HL.out]; exact hlt)] at hin HVT
        have hin : isName (bl.getD k bl0).name = true := hin
        have hsz := hbel.size
        clear hmem
        generalize bl.getD k bl0 = b at *
        have hbx : Below wr.heap.size wr (wr.alloc (.cells #[.string (St b.name), .slice b.D b.data.length b.c] 70)) := (Below.refl _ _).alloc (Nat.le_refl _) _
        have c1 : (wr.alloc (.cells #[.string (St b.name), .slice b.D b.data.length b.c] 70)).cell? ⟨wr.heap.size, 1, none⟩ = some (.slice b.D b.data.length b.c) := (World.cell?_alloc_new ..).trans rfl
        have hsh := short_any b.name (wr.alloc (.cells #[.string (St b.name), .slice b.D b.data.length b.c] 70)) (by omega)
        unfold ShortIs at hsh
        rw [if_pos hin] at hsh
        have HSH := Lib.hid hsh
        have HCL := Lib.hid (fun W (h : Below wr.heap.size wr W) => clone_any b.data b.D b.c W HGK.out.1 HGK.out.2.1 (HGK.out.2.2.below h) (by omega))
        have hfo := add_folder (b.name.drop 7) (by simp; omega)
        have hs2 : (wr.alloc (.cells #[.string (St b.name), .slice b.D b.data.length b.c] 70)).heap.size = wr.heap.size + 1 := by simp
        clear hsh hin HGK
        generalize hdl : b.data.length = dl at *
        have HDL := Lib.hid hdl
        clear hdl
        go_wp2_with fail
        generalize wr.alloc (.cells #[.string (St b.name), .slice b.D dl b.c] 70) = wi at *
        refine HSH.out.mono ?_
        rintro e w2 ⟨rfl, hb2⟩
        have c2 := (hb2.cell (p := ⟨wr.heap.size, 1, none⟩) (by show wr.heap.size < _; omega)).trans c1
        clear c1 g1 g2
        go_wp2_with fail
        have hb02 := noted hbx hb2
        refine (HCL.out w2 hb02).mono ?_
        rintro e w3 ⟨hb3, A', c', rfl, h1, h2, h3, h4⟩
        have hb03 := noted hb02 hb3
        have hbw3 := noted hbel hb03
        have hrn := rec_new En.cells en0 w3 140 ⟨fileE b.abs, A', c'⟩
        have hgn : EGood5 w3 ⟨fileE b.abs, A', c'⟩ := ⟨⟨h1, h2, h3⟩, fun a ha => (h4 a ha).2⟩
        have HRN := Lib.hid hrn; have HGN := Lib.hid hgn
        have hown := rowOwn_below HOWN.out hb03
        have HOW3 := Lib.hid hown
        have HLT := Lib.hid hown.lt
        have HSZ3 := Lib.hid hbw3.size
        clear hrn hgn h1 h2 h3 h4 hown c2 HOWN
        have hsz3 := HSZ3.out
        go_wp2_with (refine wpList_append_ents rfl (.tmp 33) (.tmp 40) rfl w.heap.size _ (2 + k) l rfl (HOW3.out.alloc _) ⟨w3.heap.size, 0, none⟩ [⟨fileE b.abs, A', c'⟩] 1 1 rfl rfl HRN.out (by omega) (by simp; omega) ?_; rintro v' w4 hown4 hg4)
        have hal : Below w3.heap.size w3 (w3.alloc (.cells (⟨fileE b.abs, A', c'⟩ : En).cells.toArray 140)) := (Below.refl _ _).alloc (Nat.le_refl _) _
        have hb4 := (hbw3.alloc hsz3 _).grown hg4 (by simp; omega) (fun j hj => (HLT.out j hj).1)
        go_roundw
        case rel =>
          refine ⟨k + 1, l ++ [⟨fileE b.abs, A', c'⟩], by omega, by go_num, hb4, Lib.hid hown4, Lib.hid ?_, Lib.hid (fun x hx => ?_)⟩
          · rw [List.map_append, HM.out, HVT.out]; rfl
          · rcases List.mem_append.1 hx with hx | hx
            · exact (((HA.out x hx).below hb03).below hal).grown (HOW3.out.alloc _) hg4
            · obtain rfl : x = ⟨fileE b.abs, A', c'⟩ := by simpa using hx
              exact (HGN.out.below hal).grown (HOW3.out.alloc _) hg4
        case measure => simp [intOf]; omega
      · obtain rfl : k = n := by omega
        rw [List.take_of_length_le (by rw [HSL.out]; exact Nat.le_refl _)] at HM
        obtain ⟨A', c', rfl, h1, h2, h3, h4⟩ := own_rec (d := en0) En.len HOWN.out
        have HF := Lib.hid h4
        have HC := Lib.hid h1
        clear h4 h1 h2 HOWN
        go_wp2_with fail
        go_ret2
        exact ⟨hbel, .inl ⟨HZ.out, A', c', l, by rw [h3]; rfl, HM.out, fun x hx => (HA.out x hx).1, HF.out, by rw [h3]; exact HC.out⟩⟩
  · rw [errV_pos _ hz] at HCK
    have HZ := Lib.hid hz
    have HZE := Lib.hid (errV_pos _ hz)
    clear hz
    generalize hcke : checkS s = ck at *
    have HCE := Lib.hid hcke
    clear hcke
    go_enter Tryd.func68, Tryd.ntmps68
    go_wp2_with fail
    refine HCK.out.mono ?_
    rintro e w1 ⟨rfl, hb1⟩
    go_wp2_with fail
    go_ret2
    exact ⟨hb1, .inr ⟨by rw [HCE.out]; exact HZ.out, by rw [HCE.out, HZE.out]; rfl⟩⟩
end Go.Proofs.YtbioclpobmgikaaDoor
