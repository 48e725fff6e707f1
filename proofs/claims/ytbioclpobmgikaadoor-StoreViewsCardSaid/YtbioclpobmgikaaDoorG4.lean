/- Stores side by side; what is kept of a store: walks. -/
import Derived.Test.YtbioclpobmgikaaDoorG3
import Derived.Test.YtbioclpobmgikaaDoorIds1
namespace Go.Proofs.YtbioclpobmgikaaDoor
open Go.RowKit

theorem pair_ext (x : List UInt8 × List UInt8) (a b : List UInt8) (h1 : a = x.1) (h2 : b = x.2) : (a, b) = x := by subst h1 h2; rfl
theorem st_ext (s t : St2) (hl : s.length = t.length) (h : ∀ j, j < s.length → s.getD j ([], []) = t.getD j ([], [])) : s = t := by
  apply List.ext_getElem hl
  intro j h1 h2
  have := h j h1
  simpa [List.getD, List.getElem?_eq_getElem h1, List.getElem?_eq_getElem h2] using this

set_option maxHeartbeats 4000000 in
set_option maxRecDepth 100000 in
theorem is22_any (bl : List Bl) (s : St2) (A B : Option Addr) (c d : Nat) (w : World) (hr : RowAt w A bl) (hg : AllGood w bl) (hB : DocAt w B s) (hn : bl.length ≤ 1000) :
    Calls Tryd.prog 60 #[.slice A bl.length c, .slice B s.length d] w fun e w' => e = .returned (.bool (decide (bl.map Bl.abs = s))) ∧ Below w.heap.size w w' := by
  have htl := St_toList
  have HR := Lib.hid hr; have HG := Lib.hid hg; have HB := Lib.hid hB
  clear hr hg hB
  generalize hl : bl.length = n at *
  generalize hm : s.length = m at *
  have HL := Lib.hid hl; have HM := Lib.hid hm
  clear hl hm
  by_cases hnm : n = m
  · have hne : ((n : Int) != (m : Int)) = false := by rw [bne_eq_false_iff_eq]; omega
    subst hnm
    go_enter Tryd.func60, Tryd.ntmps60
    go_wp2_with fail
    go_loopw [5, 13] (fun _ vi wr => ∃ k : Nat, k ≤ n ∧ vi = .int .i64 (k : Int) ∧ Hid (∀ j, j < k → (bl.getD j bl0).abs = s.getD j ([], [])) ∧ Below w.heap.size w wr) (fun _ v _ => n - (intOf v).toNat)
    case atStart => exact ⟨0, by omega, rfl, Lib.hid (fun j hj => by omega), Below.refl _ _⟩
    case round =>
      obtain ⟨k, hk, rfl, HF, hbel⟩ := hrel
      by_cases hlt : k < n
      · obtain ⟨a, rfl, g1, g2⟩ := HR.out.below hbel k (by rw [HL.out]; exact hlt)
        obtain ⟨b, rfl, g3, g4⟩ := HB.out.below hbel k (by rw [HM.out]; exact hlt)
        have hgk := (HG.out _ (getD_mem bl k (by rw [HL.out]; exact hlt))).below hbel
        have hcv : ∀ q, (convert 22 9 (.slice (bl.getD k bl0).D (bl.getD k bl0).data.length (bl.getD k bl0).c)).run Tryd.prog (wr.drewN q) = .ok (.string (St (bl.getD k bl0).data)) (wr.drewN q) := fun q => str_bytes _ _ _ _ (hgk.2.2.below (below_drewN (Below.refl _ _) q))
        have HNE := Lib.hid (fun (h : bl.map Bl.abs = s) => show (bl.getD k bl0).abs = s.getD k ([], []) by rw [← h, abs_getD _ _ (by rw [HL.out]; exact hlt)])
        have HF2 := Lib.hid (fun (h : (bl.getD k bl0).abs = s.getD k ([], [])) => show ∀ j, j < k + 1 → (bl.getD j bl0).abs = s.getD j ([], []) from fun j hj => by
          by_cases hjk : j = k
          · rw [hjk]; exact h
          · exact HF.out j (by omega))
        clear HF hgk
        generalize bl.getD k bl0 = x at *
        generalize s.getD k ([], []) = y at *
        obtain ⟨y1, y2⟩ := y
        simp only at g3 g4
        generalize x.data.length = dl at *
        have fin : ∀ (q1 q2 : Bool), (x.name == y1) = q1 → (x.data == y2) = q2 → (q1 = false ∨ q2 = false) → decide (bl.map Bl.abs = s) = false := fun q1 q2 h1 h2 h => by
          rw [decide_eq_false_iff_not]
          intro he
          have := HNE.out he
          simp only [Bl.abs, Prod.mk.injEq] at this
          rcases h with h | h
          · rw [h, beq_eq_false_iff_ne] at h1; exact h1 this.1
          · rw [h, beq_eq_false_iff_ne] at h2; exact h2 this.2
        have FIN := Lib.hid fin
        clear fin
        have hkw := (Below.refl wr.heap.size wr)
        cases hq1 : x.name == y1 with
        | false =>
          have HDEC := Lib.hid (FIN.out _ _ hq1 rfl (.inl rfl))
          clear FIN HNE HF2
          go_wp2_with fail
          go_quiet (fail)
          have hbf := below_drewN hbel nq
          generalize wr.drewN nq = w5 at *
          go_wp2_with fail
          go_ret
          exact ⟨by rw [HDEC.out]; rfl, hbf⟩
        | true =>
          cases hq2 : x.data == y2 with
          | false =>
            have HDEC := Lib.hid (FIN.out _ _ rfl hq2 (.inr rfl))
            clear FIN HNE HF2
            go_wp2_with fail
            go_quiet (fail)
            have hbf := below_drewN hbel nq
            generalize wr.drewN nq = w5 at *
            go_wp2_with fail
            go_ret
            exact ⟨by rw [HDEC.out]; rfl, hbf⟩
          | true =>
            have HF3 := Lib.hid (HF2.out (by
              rw [beq_iff_eq] at hq1 hq2
              simp only [Bl.abs, hq1, hq2]))
            clear FIN HNE HF2
            go_wp2_with fail
            go_quiet (fail)
            have hbf := below_drewN hbel nq
            generalize wr.drewN nq = w5 at *
            go_wp2_with fail
            go_roundw
            case rel => exact ⟨k + 1, by omega, by go_num, HF3, hbf⟩
            case measure => simp [intOf]; omega
      · obtain rfl : k = n := by omega
        have HDEC : Hid (decide (bl.map Bl.abs = s) = true) := Lib.hid (decide_eq_true (st_ext _ _ (by rw [List.length_map, HL.out, HM.out]) (fun j hj => by
          rw [List.length_map] at hj
          rw [abs_getD _ _ hj]; exact HF.out j (by rw [HL.out] at hj; exact hj))))
        go_wp2_with fail
        go_ret
        exact ⟨by rw [HDEC.out]; rfl, hbel⟩
  · have hne : ((n : Int) != (m : Int)) = true := by rw [bne_iff_ne]; omega
    have HDEC : Hid (decide (bl.map Bl.abs = s) = false) := Lib.hid (decide_eq_false (fun h => hnm (by rw [← HL.out, ← HM.out, ← h, List.length_map])))
    go_enter Tryd.func60, Tryd.ntmps60
    go_wp2_with fail
    go_ret
    exact ⟨by rw [HDEC.out]; rfl, Below.refl _ _⟩

set_option maxHeartbeats 1000000 in
set_option maxRecDepth 100000 in
theorem pair_any (x y : Bl) (w : World) (hx : Good w x) (hy : Good w y) :
    Calls Tryd.prog 99 #[.agg #[.string (St x.name), .slice x.D x.data.length x.c], .agg #[.string (St y.name), .slice y.D y.data.length y.c]] w fun e w' => e = .returned (.bool (decide (x.abs = y.abs))) ∧ Below w.heap.size w w' := by
  have htl := St_toList
  have hb2 : Below w.heap.size w ((w.alloc (.cells #[.string (St x.name), .slice x.D x.data.length x.c] 70)).alloc (.cells #[.string (St y.name), .slice y.D y.data.length y.c] 70)) := ((Below.refl _ _).alloc (Nat.le_refl _) _).alloc (by simp) _
  have hq := eqb_any x.data y.data x.D y.D x.c y.c _ (hx.2.2.below hb2) (hy.2.2.below hb2)
  have HQ := Lib.hid hq
  clear hq hx hy
  have hdec : decide (x.abs = y.abs) = (eqB x.name y.name && eqB x.data y.data) := by
    rw [Bool.eq_iff_iff]
    simp only [decide_eq_true_eq, Bool.and_eq_true, eqB_true, Bl.abs, Prod.mk.injEq]
  have HDEC := Lib.hid hdec
  clear hdec
  generalize x.data.length = xl at *
  generalize y.data.length = yl at *
  cases h1 : eqB x.name y.name with
  | false =>
    have HD : Hid (decide (x.abs = y.abs) = false) := Lib.hid (by rw [HDEC.out, h1]; rfl)
    clear HDEC
    unfold eqB at h1
    go_enter Tryd.func99, Tryd.ntmps99
    go_wp2_with fail
    go_ret
    exact ⟨by rw [HD.out]; rfl, hb2⟩
  | true =>
    have HD : Hid (decide (x.abs = y.abs) = eqB x.data y.data) := Lib.hid (by rw [HDEC.out, h1]; rfl)
    clear HDEC
    generalize eqB x.data y.data = r at *
    unfold eqB at h1
    go_enter Tryd.func99, Tryd.ntmps99
    go_wp2_with (go_at_call 88; refine HQ.out.mono ?_; rintro e w' ⟨rfl, rfl⟩)
    go_ret
    exact ⟨by rw [HD.out]; rfl, hb2⟩
theorem enters99 : ∀ args w, (callFunc 99 args).run Tryd.prog w = .ok (.enter 99 args) w := enters_of Tryd.func99 (by kernel_rfl) rfl

set_option maxHeartbeats 4000000 in
set_option maxRecDepth 100000 in
theorem same_any (bl bm : List Bl) (A B : Option Addr) (c d : Nat) (w : World) (hr : RowAt w A bl) (hg : AllGood w bl) (hB : RowAt w B bm) (hgB : AllGood w bm) (hn : bl.length ≤ 1000) :
    Calls Tryd.prog 98 #[.slice A bl.length c, .slice B bm.length d, .func (.func 99) #[] #[]] w fun e w' => e = .returned (.bool (decide (bl.map Bl.abs = bm.map Bl.abs))) ∧ Below w.heap.size w w' := by
  have HR := Lib.hid hr; have HG := Lib.hid hg; have HB := Lib.hid hB; have HGB := Lib.hid hgB
  have eg := enters99
  clear hr hg hB hgB
  generalize hl : bl.length = n at *
  generalize hm : bm.length = m at *
  have HL := Lib.hid hl; have HM := Lib.hid hm
  clear hl hm
  by_cases hnm : n = m
  · have hne : ((n : Int) != (m : Int)) = false := by rw [bne_eq_false_iff_eq]; omega
    subst hnm
    go_enter Tryd.func98, Tryd.ntmps98
    go_wp2_with fail
    go_loopw [7, 8, 9, 17] (fun _ _ _ vi wr => ∃ k : Nat, k ≤ n ∧ vi = .int .i64 (k : Int) ∧ Hid (∀ j, j < k → (bl.getD j bl0).abs = (bm.getD j bl0).abs) ∧ Below w.heap.size w wr) (fun _ _ _ v _ => n - (intOf v).toNat)
    case atStart => exact ⟨0, by omega, rfl, Lib.hid (fun j hj => by omega), Below.refl _ _⟩
    case round =>
      obtain ⟨k, hk, rfl, HF, hbel⟩ := hrel
      by_cases hlt : k < n
      · obtain ⟨a, rfl, g1, g2⟩ := HR.out.below hbel k (by rw [HL.out]; exact hlt)
        obtain ⟨b, rfl, g3, g4⟩ := HB.out.below hbel k (by rw [HM.out]; exact hlt)
        have hgx := (HG.out _ (getD_mem bl k (by rw [HL.out]; exact hlt))).below hbel
        have hgy := (HGB.out _ (getD_mem bm k (by rw [HM.out]; exact hlt))).below hbel
        have HNE := Lib.hid (fun (h : bl.map Bl.abs = bm.map Bl.abs) => show (bl.getD k bl0).abs = (bm.getD k bl0).abs by rw [← abs_getD _ _ (by rw [HL.out]; exact hlt), ← abs_getD _ _ (by rw [HM.out]; exact hlt), h])
        have HF2 := Lib.hid (fun (h : (bl.getD k bl0).abs = (bm.getD k bl0).abs) => show ∀ j, j < k + 1 → (bl.getD j bl0).abs = (bm.getD j bl0).abs from fun j hj => by
          by_cases hjk : j = k
          · rw [hjk]; exact h
          · exact HF.out j (by omega))
        clear HF
        generalize bl.getD k bl0 = x at *
        generalize bm.getD k bl0 = y at *
        have hb1 := (Below.refl wr.heap.size wr).alloc (Nat.le_refl _) (.cells #[.string (St x.name), .slice x.D x.data.length x.c] 70)
        have hb2 : Below wr.heap.size wr ((wr.alloc (.cells #[.string (St x.name), .slice x.D x.data.length x.c] 70)).alloc (.cells #[.string (St y.name), .slice y.D y.data.length y.c] 70)) := hb1.alloc (by simp) _
        have hne1 : (b.add (k * 2)).block ≠ wr.heap.size := by have := World.block_lt_of_cell? wr _ g3; omega
        have g3' := (hb1.cell (p := b.add (k * 2)) (World.block_lt_of_cell? wr _ g3)).trans g3
        have g4' := (hb1.cell (p := ⟨(b.add (k * 2)).block, (b.add (k * 2)).off + 1, none⟩) (World.block_lt_of_cell? wr _ g4)).trans g4
        have c0 : ((wr.alloc (.cells #[.string (St x.name), .slice x.D x.data.length x.c] 70)).alloc (.cells #[.string (St y.name), .slice y.D y.data.length y.c] 70)).cell? ⟨wr.heap.size, 0, none⟩ = some (.string (St x.name)) := by rw [World.cell?_alloc_old _ _ _ (by simp)]; exact (World.cell?_alloc_new ..).trans rfl
        have c1 : ((wr.alloc (.cells #[.string (St x.name), .slice x.D x.data.length x.c] 70)).alloc (.cells #[.string (St y.name), .slice y.D y.data.length y.c] 70)).cell? ⟨wr.heap.size, 1, none⟩ = some (.slice x.D x.data.length x.c) := by rw [World.cell?_alloc_old _ _ _ (by simp)]; exact (World.cell?_alloc_new ..).trans rfl
        have hp := pair_any x y _ (hgx.below hb2) (hgy.below hb2)
        have HP := Lib.hid hp
        have HBB := Lib.hid (hbel.trans (hb2.mono hbel.size))
        clear hp hgx hgy hb1 hb2
        by_cases hq : x.abs = y.abs
        · rw [decide_eq_true hq] at HP
          have HF3 := Lib.hid (HF2.out hq)
          clear HF2 HNE hq
          generalize x.data.length = xl at *
          generalize y.data.length = yl at *
          go_wp2_with (go_at_fn 99; refine HP.out.mono ?_; rintro e w2 ⟨rfl, hb2⟩)
          go_roundw
          case rel => exact ⟨k + 1, by omega, by go_num, HF3, HBB.out.trans (hb2.mono HBB.out.size)⟩
          case measure => simp [intOf]; omega
        · rw [decide_eq_false hq] at HP
          have HDEC := Lib.hid (show decide (bl.map Bl.abs = bm.map Bl.abs) = false from decide_eq_false (fun h => hq (HNE.out h)))
          clear HF2 HNE hq
          generalize x.data.length = xl at *
          generalize y.data.length = yl at *
          go_wp2_with (go_at_fn 99; refine HP.out.mono ?_; rintro e w2 ⟨rfl, hb2⟩)
          go_ret
          exact ⟨by rw [HDEC.out]; rfl, HBB.out.trans (hb2.mono HBB.out.size)⟩
      · obtain rfl : k = n := by omega
        have HDEC : Hid (decide (bl.map Bl.abs = bm.map Bl.abs) = true) := Lib.hid (decide_eq_true (st_ext _ _ (by rw [List.length_map, List.length_map, HL.out, HM.out]) (fun j hj => by
          rw [List.length_map] at hj
          rw [abs_getD _ _ hj, abs_getD _ _ (by rw [HM.out, ← HL.out]; exact hj)]; exact HF.out j (by rw [HL.out] at hj; exact hj))))
        go_wp2_with fail
        go_ret
        exact ⟨by rw [HDEC.out]; rfl, hbel⟩
  · have hne : ((n : Int) != (m : Int)) = true := by rw [bne_iff_ne]; omega
    have HDEC : Hid (decide (bl.map Bl.abs = bm.map Bl.abs) = false) := Lib.hid (decide_eq_false (fun h => hnm (by have := congrArg List.length h; rw [List.length_map, List.length_map, HL.out, HM.out] at this; exact this)))
    go_enter Tryd.func98, Tryd.ntmps98
    go_wp2_with fail
    go_ret
    exact ⟨by rw [HDEC.out]; rfl, Below.refl _ _⟩
set_option maxHeartbeats 1000000 in
set_option maxRecDepth 100000 in
theorem same22_any (bl bm : List Bl) (A B : Option Addr) (c d : Nat) (w : World) (hr : RowAt w A bl) (hg : AllGood w bl) (hB : RowAt w B bm) (hgB : AllGood w bm) (hn : bl.length ≤ 1000) :
    Calls Tryd.prog 64 #[.slice A bl.length c, .slice B bm.length d] w fun e w' => e = .returned (.bool (decide (bl.map Bl.abs = bm.map Bl.abs))) ∧ Below w.heap.size w w' := by
  have HS := Lib.hid (same_any bl bm A B c d w hr hg hB hgB hn)
  clear hr hg hB hgB
  generalize decide (bl.map Bl.abs = bm.map Bl.abs) = r at *
  generalize bl.length = n at *
  generalize bm.length = m at *
  go_enter Tryd.func64, Tryd.ntmps64
  go_wp2_with (go_at_call 98; refine HS.out.mono ?_; rintro e w2 ⟨rfl, hb2⟩)
  go_ret
  exact ⟨rfl, hb2⟩
end Go.Proofs.YtbioclpobmgikaaDoor
namespace Go.Proofs.YtbioclpobmgikaaDoor
open Go.RowKit

def keepS (p : List UInt8 → Bool) (s : St2) : St2 := s.filter fun x => p x.1
theorem keepL_abs (p : List UInt8 → Bool) (bl : List Bl) : (keepL p bl).map Bl.abs = keepS p (bl.map Bl.abs) := by
  unfold keepL keepS
  rw [List.filter_map]
  rfl
theorem keepS_take (p : List UInt8 → Bool) (s : St2) (k : Nat) (h : k < s.length) : keepS p (s.take (k + 1)) = keepS p (s.take k) ++ (if p (s.getD k ([], [])).1 then [s.getD k ([], [])] else []) := by
  rw [List.take_add_one, keepS, List.filter_append, ← keepS, List.getElem?_eq_getElem h]
  simp [List.getD, h, List.filter_cons]
theorem keepS_length (p : List UInt8 → Bool) (s : St2) : (keepS p s).length ≤ s.length := List.length_filter_le _ _
def memT (ts : List (List UInt8)) (x : List UInt8) : Bool := decide (x ∈ ts)
theorem memT_nil (x : List UInt8) : memT [] x = false := by simp [memT]
theorem memT_take (ts : List (List UInt8)) (x : List UInt8) (j : Nat) (h : j < ts.length) : memT (ts.take (j + 1)) x = (memT (ts.take j) x || eqB (ts.getD j []) x) := by
  rw [List.take_add_one, List.getElem?_eq_getElem h]
  rw [Bool.eq_iff_iff]
  simp only [memT, decide_eq_true_eq, List.mem_append, Bool.or_eq_true, eqB_true, List.getD, List.getElem?_eq_getElem h, Option.getD_some, Option.toList_some, List.mem_singleton]
  constructor
  · rintro (h | h)
    · exact .inl h
    · exact .inr h.symm
  · rintro (h | h)
    · exact .inl h
    · exact .inr h.symm
theorem own_base {w : World} {b b' n sz : Nat} {e : TypeId} {v : Value} {xs : List Value} (h : w.ownsRow b e sz v n xs) (hb : b' ≤ b) : w.ownsRow b' e sz v n xs :=
  ⟨h.1, h.2.imp id fun ⟨g, cap, cur, h1, h2, rest⟩ => ⟨g, cap, cur, h1, Nat.le_trans hb h2, rest⟩⟩
/-- what filters a store keeps, as it lies -/
def KeptAt (s : St2) (w w' : World) (e : Ending) : Prop :=
  ∃ v bl', e = .returned v ∧ Below w.heap.size w w' ∧ bl'.map Bl.abs = s ∧ AllGood5 w' bl' ∧ w'.ownsRow w.heap.size 70 2 v bl'.length (Row bl')

set_option maxHeartbeats 1000000 in
set_option maxRecDepth 100000 in
theorem drop_any (bl : List Bl) (nm : List UInt8) (A : Option Addr) (c : Nat) (w : World) (hr : RowAt w A bl) (hg : AllGood w bl) (hn : bl.length ≤ 1000) (hd : ∀ b ∈ bl, b.data.length ≤ 10000000) :
    Calls Tryd.prog 61 #[.slice A bl.length c, .string (St nm)] w fun e w' => KeptAt (keepS (fun x => !(eqB x nm)) (bl.map Bl.abs)) w w' e := by
  have hb0 : Below w.heap.size w (w.alloc (.cells #[.string (St nm)] 9)) := (Below.refl _ _).alloc (Nat.le_refl _) _
  have hf := filter_any 95 #[.pointer (some ⟨w.heap.size, 0, none⟩)] (fun x => !(eqB x nm)) enters95 bl A c (w.alloc (.cells #[.string (St nm)] 9)) (ask_ne nm w.heap.size _ (by simp) ((World.cell?_alloc_new ..).trans rfl)) (hr.below hb0) (hg.below hb0) hn hd
  rw [keepL_abs] at hf
  have HF := Lib.hid hf
  clear hf hr hg
  generalize bl.length = n at *
  generalize keepS (fun x => !(eqB x nm)) (bl.map Bl.abs) = ks at *
  go_enter Tryd.func61, Tryd.ntmps61
  go_wp2_with (go_at_call 85; refine HF.out.mono ?_; rintro e w2 ⟨v, bl', rfl, hb2, h1, h2, h3⟩)
  go_ret
  exact ⟨v, bl', rfl, hb0.trans (hb2.mono hb0.size), h1, h2, own_base h3 (by simp)⟩

set_option maxHeartbeats 1000000 in
set_option maxRecDepth 100000 in
theorem index_any (ts : List (List UInt8)) (nm : List UInt8) (A : Option Addr) (c : Nat) (w : World) (hr : TextsAt w A ts) (hn : ts.length ≤ 1000) :
    Calls Tryd.prog 115 #[.slice A ts.length c, .string (St nm)] w fun e w' => (∃ r : Int, e = .returned (.int .i64 r) ∧ decide (r ≥ 0) = memT ts nm) ∧ w = w' := by
  have htl := St_toList
  have HR := Lib.hid hr
  clear hr
  generalize hl : ts.length = n at *
  have HL := Lib.hid hl
  clear hl
  go_enter Tryd.func115, Tryd.ntmps115
  go_wp2_with fail
  go_loopw [5, 8] (fun _ vi wr => ∃ k : Nat, k ≤ n ∧ vi = .int .i64 (k : Int) ∧ Hid (memT (ts.take k) nm = false) ∧ wr = w) (fun _ v _ => n - (intOf v).toNat)
  case atStart => exact ⟨0, by omega, rfl, Lib.hid (by simp [memT]), rfl⟩
  case round =>
    obtain ⟨k, hk, rfl, HF, rfl⟩ := hrel
    by_cases hlt : k < n
    · obtain ⟨a, rfl, g1⟩ := HR.out k (by rw [HL.out]; exact hlt)
      have hmt := memT_take ts nm k (by rw [HL.out]; exact hlt)
      have HMT := Lib.hid hmt
      have HX := Lib.hid (show eqB (ts.getD k []) nm = true → memT ts nm = true from fun h => by
        rw [eqB_true] at h
        simp only [memT, decide_eq_true_eq]
        rw [← h]
        simp [List.getD, HL.out, hlt])
      clear hmt
      generalize ts.getD k [] = x at *
      cases hq : eqB x nm with
      | true =>
        have hq2 : (nm == x) = true := by rw [beq_iff_eq]; exact ((eqB_true _ _).1 hq).symm
        have HM := Lib.hid (HX.out hq)
        clear HX HMT hq
        go_wp2_with fail
        go_ret
        exact ⟨⟨(k : Int), rfl, by rw [HM.out]; exact decide_eq_true (by omega)⟩, rfl⟩
      | false =>
        have hq2 : (nm == x) = false := by rw [beq_eq_false_iff_ne]; exact fun e => (eqB_false _ _).1 hq e.symm
        have HF2 : Hid (memT (ts.take (k + 1)) nm = false) := Lib.hid (by rw [HMT.out, HF.out, hq]; rfl)
        clear HX HMT hq HF
        go_wp2_with fail
        go_roundw
        case rel => exact ⟨k + 1, by omega, by go_num, HF2, trivial⟩
        case measure => simp [intOf]; omega
    · obtain rfl : k = n := by omega
      rw [List.take_of_length_le (by rw [HL.out]; exact Nat.le_refl _)] at HF
      go_wp2_with fail
      go_ret
      exact ⟨⟨-1, rfl, by rw [HF.out]; rfl⟩, rfl⟩
set_option maxHeartbeats 1000000 in
set_option maxRecDepth 100000 in
theorem contains_any (ts : List (List UInt8)) (nm : List UInt8) (A : Option Addr) (c : Nat) (w : World) (hr : TextsAt w A ts) (hn : ts.length ≤ 1000) :
    Calls Tryd.prog 97 #[.slice A ts.length c, .string (St nm)] w fun e w' => e = .returned (.bool (memT ts nm)) ∧ w = w' := by
  have HX := Lib.hid (index_any ts nm A c w hr hn)
  clear hr
  generalize memT ts nm = m at *
  generalize ts.length = n at *
  go_enter Tryd.func97, Tryd.ntmps97
  go_wp2_with fail
  refine HX.out.mono ?_
  rintro e w2 ⟨⟨r, rfl, hm⟩, rfl⟩
  have HM := Lib.hid hm
  clear hm
  go_wp2_with fail
  go_ret
  exact ⟨by rw [← HM.out]; rfl, rfl⟩
theorem ask_in (ts : List (List UInt8)) (N : Option Addr) (nc B : Nat) (w : World) (hB : B < w.heap.size) (hc : w.cell? ⟨B, 0, none⟩ = some (.slice N ts.length nc)) (hT : TextsAt w N ts) (hn : ts.length ≤ 1000) :
    Asks 96 #[.pointer (some ⟨B, 0, none⟩)] (fun n => memT ts n) w := fun W b hb => by
  have h2 : W.cell? ⟨B, 0, none⟩ = some (.slice N ts.length nc) := (hb.cell (p := ⟨B, 0, none⟩) hB).trans hc
  have hBW : B < W.heap.size := Nat.lt_of_lt_of_le hB hb.size
  have hne : B ≠ W.heap.size := by omega
  have c2 := fun o => (World.cell?_alloc_old W o ⟨B, 0, none⟩ hne).trans h2
  have hba : Below W.heap.size W (W.alloc (.cells #[.string (St b.name), .slice b.D b.data.length b.c] 70)) := (Below.refl _ _).alloc (Nat.le_refl _) _
  have HC := Lib.hid (contains_any ts b.name N nc _ ((hT.below hb).below hba) hn)
  show Calls Tryd.prog 96 #[.agg #[.string (St b.name), .slice b.D b.data.length b.c], .pointer (some ⟨B, 0, none⟩)] W _
  clear hb hc h2 hT
  show Calls Tryd.prog 96 #[.agg #[.string (St b.name), .slice b.D b.data.length b.c], .pointer (some ⟨B, 0, none⟩)] W fun e w' => e = .returned (.bool (memT ts b.name)) ∧ Below W.heap.size W w'
  generalize memT ts b.name = m at *
  generalize ts.length = n at *
  generalize b.data.length = dl at *
  go_enter Tryd.func96, Tryd.ntmps96
  go_wp2_with (go_at_call 97; refine HC.out.mono ?_; rintro e w2 ⟨rfl, rfl⟩)
  go_ret
  exact ⟨rfl, hba⟩
theorem enters96 : ∀ args w, (callFunc 96 args).run Tryd.prog w = .ok (.enter 96 args) w := enters_of Tryd.func96 (by kernel_rfl) rfl

set_option maxHeartbeats 1000000 in
set_option maxRecDepth 100000 in
theorem keep_any (bl : List Bl) (ts : List (List UInt8)) (A N : Option Addr) (c nc : Nat) (w : World) (hr : RowAt w A bl) (hg : AllGood w bl) (hT : TextsAt w N ts) (hn : bl.length ≤ 1000) (hd : ∀ b ∈ bl, b.data.length ≤ 10000000) (hnt : ts.length ≤ 1000) :
    Calls Tryd.prog 63 #[.slice A bl.length c, .slice N ts.length nc] w fun e w' => KeptAt (keepS (memT ts) (bl.map Bl.abs)) w w' e := by
  have hb0 : Below w.heap.size w (w.alloc (.cells #[.slice N ts.length nc] 58)) := (Below.refl _ _).alloc (Nat.le_refl _) _
  have hf := filter_any 96 #[.pointer (some ⟨w.heap.size, 0, none⟩)] (fun x => memT ts x) enters96 bl A c (w.alloc (.cells #[.slice N ts.length nc] 58)) (ask_in ts N nc w.heap.size _ (by simp) ((World.cell?_alloc_new ..).trans rfl) (hT.below hb0) hnt) (hr.below hb0) (hg.below hb0) hn hd
  rw [keepL_abs, show keepS (fun x => memT ts x) (bl.map Bl.abs) = keepS (memT ts) (bl.map Bl.abs) from rfl] at hf
  have HF := Lib.hid hf
  clear hf hr hg hT
  generalize bl.length = n at *
  generalize ts.length = m at *
  generalize keepS (memT ts) (bl.map Bl.abs) = ks at *
  go_enter Tryd.func63, Tryd.ntmps63
  go_wp2_with (go_at_call 85; refine HF.out.mono ?_; rintro e w2 ⟨v, bl', rfl, hb2, h1, h2, h3⟩)
  go_ret
  exact ⟨v, bl', rfl, hb0.trans (hb2.mono hb0.size), h1, h2, own_base h3 (by simp)⟩
end Go.Proofs.YtbioclpobmgikaaDoor
namespace Go.Proofs.YtbioclpobmgikaaDoor
open Go.RowKit

set_option maxHeartbeats 4000000 in
set_option maxRecDepth 100000 in
theorem keep22_any (s : St2) (ts : List (List UInt8)) (among : Bool) (A N : Option Addr) (c nc : Nat) (w : World) (hr : DocAt w A s) (hT : TextsAt w N ts) (hn : s.length ≤ 1000) (hnt : ts.length ≤ 1000) :
    Calls Tryd.prog 62 #[.slice A s.length c, .slice N ts.length nc, .bool among] w fun e w' => ∃ v, e = .returned v ∧ Below w.heap.size w w' ∧ w'.ownsRow w.heap.size 134 2 v (keepS (fun x => memT ts x == among) s).length (RowS (keepS (fun x => memT ts x == among) s)) := by
  have htl := St_toList
  have HR := Lib.hid hr; have HT := Lib.hid hT
  clear hr hT
  generalize hl : s.length = n at *
  generalize hm : ts.length = m at *
  have HL := Lib.hid hl; have HM := Lib.hid hm
  clear hl hm
  have hO0 : (w.alloc (.cells #[] 134)).ownsRow w.heap.size 134 2 (.slice (some ⟨w.heap.size, 0, none⟩) 0 0) (keepS (fun x => memT ts x == among) (s.take 0)).length (RowS (keepS (fun x => memT ts x == among) (s.take 0))) := World.ownsRow_made w #[] 0 (Nat.le_refl _) (by unfold maxLen; omega) rfl
  have hB0 : Below w.heap.size w (w.alloc (.cells #[] 134)) := (Below.refl _ _).alloc (Nat.le_refl _) _
  have HO0 := Lib.hid hO0
  clear hO0
  go_enter Tryd.func62, Tryd.ntmps62
  go_wp2_with fail
  go_loopw [7, 9, 10, 12, 16, 22] (fun vo _ _ _ vi _ wr => ∃ k : Nat, k ≤ n ∧ vi = .int .i64 (k : Int) ∧ Below w.heap.size w wr ∧ Hid (wr.ownsRow w.heap.size 134 2 vo (keepS (fun x => memT ts x == among) (s.take k)).length (RowS (keepS (fun x => memT ts x == among) (s.take k))))) (fun _ _ _ _ v _ _ => n - (intOf v).toNat)
  case atStart => exact ⟨0, by omega, rfl, hB0, HO0⟩
  case round =>
    clear HO0 hB0
    obtain ⟨k, hk, rfl, hbel, HOWN⟩ := hrel
    by_cases hlt : k < n
    · obtain ⟨a, rfl, g1, g2⟩ := HR.out.below hbel k (by rw [HL.out]; exact hlt)
      have HKT := Lib.hid (keepS_take (fun x => memT ts x == among) s k (by rw [HL.out]; exact hlt))
      have HKL := Lib.hid (show (keepS (fun x => memT ts x == among) (s.take k)).length ≤ k from Nat.le_trans (keepS_length _ _) (by rw [List.length_take]; omega))
      have hd : decide ((k : Int) < (n : Int)) = true := decide_eq_true (by omega)
      generalize s.getD k ([], []) = x at *
      obtain ⟨xn, xd⟩ := x
      simp only at g1 g2
      have hsz := hbel.size
      have hbx := hbel.alloc hsz (.cells #[.string (St xn), .string (St xd)] 134)
      have hbx1 : Below wr.heap.size wr (wr.alloc (.cells #[.string (St xn), .string (St xd)] 134)) := (Below.refl _ _).alloc (Nat.le_refl _) _
      have c0 : (wr.alloc (.cells #[.string (St xn), .string (St xd)] 134)).cell? ⟨wr.heap.size, 0, none⟩ = some (.string (St xn)) := (World.cell?_alloc_new ..).trans rfl
      have c1 : (wr.alloc (.cells #[.string (St xn), .string (St xd)] 134)).cell? ⟨wr.heap.size, 1, none⟩ = some (.string (St xd)) := (World.cell?_alloc_new ..).trans rfl
      have hs2 : (wr.alloc (.cells #[.string (St xn), .string (St xd)] 134)).heap.size = wr.heap.size + 1 := by simp
      have HOWN2 := Lib.hid (HOWN.out.alloc (.cells #[.string (St xn), .string (St xd)] 134))
      have HTW := Lib.hid (HT.out.below hbx)
      clear HOWN
      go_wp2_with fail
      generalize wr.alloc (.cells #[.string (St xn), .string (St xd)] 134) = wi at *
      generalize hB : wr.heap.size = B at *
      go_loopw [10, 12, 22] (fun vis _ vj wr => ∃ j : Nat, j ≤ m ∧ vj = .int .i64 (j : Int) ∧ vis = .bool (memT (ts.take j) xn) ∧ wr = wi) (fun _ _ v _ => m - (intOf v).toNat)
      case atStart => exact ⟨0, by omega, rfl, rfl, rfl⟩
      case round =>
        obtain ⟨j, hj, rfl, rfl, rfl⟩ := hrel
        by_cases hjt : j < m
        · obtain ⟨b, rfl, g3⟩ := HTW.out j (by rw [HM.out]; exact hjt)
          have HMT := Lib.hid (memT_take ts xn j (by rw [HM.out]; exact hjt))
          generalize ts.getD j [] = y at *
          generalize hq1 : memT (ts.take j) xn = q1 at *
          generalize hq3 : memT (ts.take (j + 1)) xn = q3 at *
          have HQ3 := Lib.hid hq3
          clear hq3 hq1
          cases hq2 : eqB y xn with
          | true =>
            have hQ : q3 = true := by rw [HMT.out, hq2, Bool.or_true]
            have HQ := Lib.hid hQ
            clear hQ HMT
            unfold eqB at hq2
            cases q1 with
            | true =>
              go_wp2_with fail
              go_roundw
              case rel => exact ⟨j + 1, by omega, by go_num, by rw [HQ3.out, HQ.out], trivial⟩
              case measure => simp [intOf]; omega
            | false =>
              go_wp2_with fail
              go_roundw
              case rel => exact ⟨j + 1, by omega, by go_num, by rw [HQ3.out, HQ.out], trivial⟩
              case measure => simp [intOf]; omega
          | false =>
            have hQ : q3 = q1 := by rw [HMT.out, hq2, Bool.or_false]
            have HQ := Lib.hid hQ
            clear hQ HMT
            unfold eqB at hq2
            cases q1 with
            | true =>
              go_wp2_with fail
              go_roundw
              case rel => exact ⟨j + 1, by omega, by go_num, by rw [HQ3.out, HQ.out], trivial⟩
              case measure => simp [intOf]; omega
            | false =>
              go_wp2_with fail
              go_roundw
              case rel => exact ⟨j + 1, by omega, by go_num, by rw [HQ3.out, HQ.out], trivial⟩
              case measure => simp [intOf]; omega
        · obtain rfl : j = m := by omega
          rw [List.take_of_length_le (by rw [HM.out]; exact Nat.le_refl _)]
          have HKT2 := Lib.hid (show keepS (fun x => memT ts x == among) (s.take (k + 1)) = keepS (fun x => memT ts x == among) (s.take k) ++ (if (memT ts xn == among) = true then [(xn, xd)] else []) from HKT.out)
          clear HKT
          generalize memT ts xn = r at *
          cases hq : (r == among) with
          | true =>
            have HKT3 := Lib.hid (show keepS (fun x => memT ts x == among) (s.take (k + 1)) = keepS (fun x => memT ts x == among) (s.take k) ++ [(xn, xd)] by rw [HKT2.out, hq]; rfl)
            clear HKT2
            have hbn := doc_new wr (xn, xd)
            rw [hs2] at hbn
            have HBN := Lib.hid hbn
            clear hbn
            generalize keepS (fun x => memT ts x == among) (s.take k) = ks at *
            have hkl := HKL.out
            have hown := HOWN2.out
            go_wp2_with (refine wpList_append_docs rfl (.tmp 37) (.tmp 39) 76 Tryd.underlying76 rfl w.heap.size _ ks.length ks rfl (hown.alloc _) ⟨B + 1, 0, none⟩ [(xn, xd)] 1 1 rfl rfl HBN.out (by omega) (by simp; omega) ?_; rintro v' w4 hown4 hg4)
            have hb4 := (hbx.alloc (by omega) _).grown hg4 (by simp; omega) (fun j hj => (hown.lt j hj).1)
            go_roundw
            case rel => exact ⟨k + 1, by omega, by go_num, hb4, by rw [HKT3.out, List.length_append]; exact Lib.hid hown4⟩
            case measure => simp [intOf]; omega
          | false =>
            have HKT3 := Lib.hid (show keepS (fun x => memT ts x == among) (s.take (k + 1)) = keepS (fun x => memT ts x == among) (s.take k) by rw [HKT2.out, hq]; simp)
            clear HKT2
            go_wp2_with fail
            go_roundw
            case rel => exact ⟨k + 1, by omega, by go_num, hbx, by rw [HKT3.out]; exact HOWN2⟩
            case measure => simp [intOf]; omega
    · obtain rfl : k = n := by omega
      rw [List.take_of_length_le (by rw [HL.out]; exact Nat.le_refl _)] at HOWN
      go_wp2_with fail
      go_ret
      exact ⟨_, rfl, hbel, HOWN.out⟩
end Go.Proofs.YtbioclpobmgikaaDoor
