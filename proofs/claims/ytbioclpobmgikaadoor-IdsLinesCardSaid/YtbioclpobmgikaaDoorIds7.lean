/- The law of layer 25 on names behind others: its walk. -/
import Derived.Test.YtbioclpobmgikaaDoorIds6
namespace Go.Proofs.YtbioclpobmgikaaDoor
open Go.RowKit

theorem texts_eq (t : List (List UInt8)) (n m : Nat) (hn : t.length = n) (hnm : n = m) (A B : Option Addr) (c d : Nat) (w : World) (ha : TextsAt w A t) (hb : TextsAt w B t) (hm : n ≤ 100000) :
    Calls Tryd.prog 50 #[.slice A n c, .slice B m d] w fun e w' => e = .returned (.bool true) ∧ Below w.heap.size w w' := by
  subst hnm hn
  refine (texts_any t t A B c d w ha hb hm).mono ?_
  rintro e w' ⟨rfl, h⟩
  exact ⟨by simp, h⟩
theorem run_texts_from (w : World) (ad : Addr) (n c p : Nat) (hn : p < n) (hc : n ≤ c) : (Instr.sliceAt 58 (.slice (some ad) n c) (some (.int .i64 (p : Int))) none none).run Tryd.prog w = .ok (.slice (some (ad.add p)) (n - p) (c - p)) w := by
  have h1 : ¬ c = p := by omega
  have h2 : p ≤ n := by omega
  unfold Instr.sliceAt Instr.slice
  simp only [Sem.run_bind, run_underlying Tryd.underlying58]
  simp [Instr.sliceBounds, Instr.sliceBound, asIntOf, h1, h2, run_underlying Tryd.underlying58]
theorem run_texts_to (w : World) (ad : Addr) (n c p : Nat) (hc : p ≤ c) : (Instr.sliceAt 58 (.slice (some ad) n c) none (some (.int .i64 (p : Int))) none).run Tryd.prog w = .ok (.slice (some ad) p c) w := by
  unfold Instr.sliceAt Instr.slice
  simp only [Sem.run_bind, run_underlying Tryd.underlying58]
  simp [Instr.sliceBounds, Instr.sliceBound, asIntOf, hc, run_underlying Tryd.underlying58]
  exact fun _ => add_zero' ad
theorem TextsAt.to {w : World} {ad : Addr} {t : List (List UInt8)} (h : TextsAt w (some ad) t) (p : Nat) : TextsAt w (some ad) (t.take p) := fun j hj => by
  rw [List.length_take] at hj
  obtain ⟨a, ha, hc⟩ := h j (by omega)
  refine ⟨a, ha, ?_⟩
  rw [hc]
  simp [List.getD, show j < p by omega]
theorem add_add (ad : Addr) (p j : Nat) : (ad.add p).add j = ad.add (p + j) := by
  unfold Addr.add
  split <;> split <;> simp_all
  omega
theorem TextsAt.from {w : World} {ad : Addr} {t : List (List UInt8)} (h : TextsAt w (some ad) t) (p : Nat) : TextsAt w (some (ad.add p)) (t.drop p) := fun j hj => by
  rw [List.length_drop] at hj
  obtain ⟨a, ha, hc⟩ := h (p + j) (by omega)
  obtain rfl := Option.some.inj ha
  refine ⟨_, rfl, ?_⟩
  rw [add_add, hc]
  simp [List.getD]
theorem own_made (w : World) (t : List UInt8) (base : Nat) (h : base ≤ w.heap.size) : (w.alloc (.cells #[.string (St t)] 9)).ownsRow base 9 1 (.slice (some ⟨w.heap.size, 0, none⟩) 1 1) 1 (Ss [t]) :=
  ⟨rfl, .inr ⟨w.heap.size, 1, #[.string (St t)], rfl, h, heap_alloc_new w _, Nat.le_refl _, by unfold maxLen; omega, rfl, rfl⟩⟩

set_option maxHeartbeats 1000000 in
set_option maxRecDepth 100000 in
theorem idsGrow_walk (A : Option Addr) (a : List (List UInt8)) (c : Nat) (B : Option Addr) (b : List (List UInt8)) (d : Nat) (w : World) (hL : Laid w)
    (hTa : TextsAt w A a) (hna : A = none → c = 0) (hma : c ≤ maxLen) (hca : a.length ≤ c) (hTb : TextsAt w B b) (hnb : B = none → d = 0) (hmb : d ≤ maxLen) (hcb : b.length ≤ d) :
    Calls Tryd.prog 13 #[.slice A a.length c, .slice B b.length d] w fun e w' => e = .returned (.bool true) ∧ Below w.heap.size w w' := by
  have hla := fun w' (h : Below w.heap.size w w') => long_any25 a A c w' (hTa.below h) (by omega)
  have hlb := fun w' (h : Below w.heap.size w w') => long_any25 b B d w' (hTb.below h) (by omega)
  have HTA := Lib.hid hTa; have HTB := Lib.hid hTb; have HLA := Lib.hid hla; have HLB := Lib.hid hlb
  clear hTa hTb hla hlb hma hca hmb hcb
  generalize ha : a.length = la at *
  generalize hb : b.length = lb at *
  have HA := Lib.hid ha; have HB := Lib.hid hb
  clear ha hb
  go_enter Tryd.func13, Tryd.ntmps13
  go_wp2_with fail
  refine (alive25_any _ hL).mono ?_
  rintro e w1 ⟨rfl, hb1⟩
  go_wp2_with fail
  refine (HLA.out w1 hb1).mono ?_
  rintro e w' ⟨r, rfl, rfl, hra⟩
  cases r with
  | true =>
    go_wp2_with fail
    go_ret
    exact ⟨rfl, hb1⟩
  | false =>
    have HRA := Lib.hid (hra rfl)
    clear hra
    go_wp2_with fail
    refine (HLB.out w1 hb1).mono ?_
    rintro e w' ⟨r, rfl, rfl, hrb⟩
    cases r with
    | true =>
      go_wp2_with fail
      go_ret
      exact ⟨rfl, hb1⟩
    | false =>
      have HRB := Lib.hid (hrb rfl)
      clear hrb HLA HLB
      by_cases h0 : la = 0
      · have hq : ((la : Int) == 0) = true := by rw [beq_iff_eq]; omega
        go_wp2_with fail
        go_ret
        exact ⟨rfl, hb1⟩
      · have hq : ((la : Int) == 0) = false := by rw [beq_eq_false_iff_ne]; omega
        have hla21 : la ≤ 21 := HRA.out.1
        have hlb21 : lb ≤ 21 := HRB.out.1
        have hlenA : ∀ j, j < a.length → (a.getD j []).length ≤ 100000 := fun j hj => Nat.le_trans (HRA.out.2 j (by have := HA.out; omega)) (by omega)
        have hlenB : ∀ j, j < b.length → (b.getD j []).length ≤ 100000 := fun j hj => Nat.le_trans (HRB.out.2 j (by have := HB.out; omega)) (by omega)
        have hlenAB : ∀ j, j < (a ++ b).length → ((a ++ b).getD j []).length ≤ 100000 := fun j hj => by
          rw [List.length_append] at hj
          rcases Nat.lt_or_ge j a.length with h | h
          · have := hlenA j h
            simpa [List.getD, List.getElem?_append, h] using this
          · have := hlenB (j - a.length) (by omega)
            simpa [List.getD, List.getElem?_append, show ¬ j < a.length by omega] using this
        have hTa1 := HTA.out.below hb1
        have hTb1 := HTB.out.below hb1
        have hO0 : (w1.alloc (.cells #[] 9)).ownsRow w1.heap.size 9 1 (.slice (some ⟨w1.heap.size, 0, none⟩) 0 0) 0 (Ss []) := World.ownsRow_made w1 #[] 0 (Nat.le_refl _) (by unfold maxLen; omega) rfl
        have HLENA := Lib.hid hlenA; have HLENB := Lib.hid hlenB; have HLENAB := Lib.hid hlenAB; have HTA1 := Lib.hid hTa1; have HTB1 := Lib.hid hTb1
        clear hlenA hlenB hlenAB hTa1 hTb1 HTA HTB HRA HRB
        go_wp2_with (first
          | (refine wpList_append_texts rfl (.tmp 22) (.tmp 23) rfl w1.heap.size _ 0 [] rfl hO0 A a la c HA.out rfl (HTA1.out.alloc _) hna (by omega) (by simp) ?_; rintro v3 w3 ho3 hg3 hn3; have hb3 := ((Below.refl w1.heap.size w1).alloc (Nat.le_refl _) (.cells #[] 9)).grown hg3 (by simp) (fun k hk => (hO0.lt k hk).1); rw [Nat.zero_add, List.nil_append] at ho3; clear hO0 hg3 hn3; obtain ⟨A3, c3, rfl, hn3, hc3, _, _⟩ := own_texts ho3)
          | (refine wpList_append_texts rfl (.tmp 24) (.tmp 25) rfl w1.heap.size _ la a rfl ho3 B b lb d HB.out rfl (HTB1.out.below hb3) hnb (by omega) hb3.size ?_; rintro v4 w4 ho4 hg4 hn4; have hb4 := hb3.grown hg4 hb3.size (fun k hk => (ho3.lt k hk).1); clear ho3 hg4 hn4; obtain ⟨A4, c4, rfl, hn4, hc4, hl4, hT4⟩ := own_texts ho4))
        have hbw4 := hb1.trans (hb4.mono hb1.size)
        obtain ⟨p, hp⟩ : ∃ p, p + 1 = la := ⟨la - 1, by omega⟩
        have hpos : 0 < (a ++ b).length := by rw [hl4]; omega
        obtain ⟨a4, rfl, _⟩ := hT4 0 hpos
        have hch := fun W (h : Below w4.heap.size w4 W) => chainIds_any a A c W (hL.below (hbw4.trans (h.mono hbw4.size))) (HTA1.out.below (hb4.trans (h.mono hb4.size))) (by rw [HA.out]; omega) HLENA.out
        have hcall := fun W (h : Below w4.heap.size w4 W) => chainIds_any (a ++ b) (some a4) c4 W (hL.below (hbw4.trans (h.mono hbw4.size))) (hT4.below h) (by rw [hl4]; omega) HLENAB.out
        have htop := fun W (h : Below w4.heap.size w4 W) => top_any a A c W (hL.below (hbw4.trans (h.mono hbw4.size))) (HTA1.out.below (hb4.trans (h.mono hb4.size))) (by rw [HA.out]; omega) HLENA.out
        rw [HA.out] at hch htop
        rw [hl4] at hcall
        have htl : (topL a).length ≤ 100000 := by
          rw [topL]
          split
          · simp
          · exact chainAt_len a 100000 (by omega) HLENA.out _
        have hfront := chains_front a b
        have hbehind := chains_behind a b (by rw [HA.out]; exact h0)
        rw [HA.out, HB.out] at hfront hbehind
        rw [show la - 1 = p by omega] at hbehind
        have hlenZ : ∀ j, j < ([topL a] ++ b).length → (([topL a] ++ b).getD j []).length ≤ 100000 := fun j hj => by
          cases j with
          | zero => exact htl
          | succ j =>
            rw [List.length_append, List.length_singleton] at hj
            simpa [List.getD] using HLENB.out j (by omega)
        have HCH := Lib.hid hch; have HCALL := Lib.hid hcall; have HTOP := Lib.hid htop; have HFRONT := Lib.hid hfront; have HBEHIND := Lib.hid hbehind; have HLENZ := Lib.hid hlenZ; have HP := Lib.hid hp
        have HTB4 := Lib.hid (HTB1.out.below hb4)
        clear hch hcall htop hfront hbehind hlenZ htl hp hpos hT4 ho4 HTA1 HTB1 HLENA HLENB HLENAB hb3 hb4
        generalize topL a = tp at *
        generalize hn1 : la + lb = n1 at *
        have HN1 := Lib.hid hn1
        clear hn1
        refine (HCH.out w4 (Below.refl _ _)).mono ?_
        rintro e w5 ⟨v5, rfl, hb5, ho5⟩
        obtain ⟨A5, c5, rfl, _, hc5, hl5, hT5⟩ := own_texts ho5
        have HT5 := Lib.hid hT5
        clear hT5 ho5
        go_wp2_with fail
        refine (HCALL.out w5 hb5).mono ?_
        rintro e w6 ⟨v6, rfl, hb6, ho6⟩
        obtain ⟨A6, c6, rfl, _, hc6, hl6, hT6⟩ := own_texts ho6
        obtain ⟨a6, rfl, _⟩ := hT6 0 (by rw [hl6]; have := HN1.out; omega)
        have HT6 := Lib.hid hT6
        have hb6' := hb5.trans (hb6.mono hb5.size)
        clear hT6 ho6
        go_wp2_with fail
        refine (HTOP.out w6 hb6').mono ?_
        rintro e w7 ⟨rfl, hb7⟩
        have hb7' := hb6'.trans (hb7.mono hb6'.size)
        have hO7 := own_made w7 tp w7.heap.size (Nat.le_refl _)
        have hT7 := (HTB4.out.below hb7').alloc (.cells #[.string (St tp)] 9)
        have HO7 := Lib.hid hO7; have HT7 := Lib.hid hT7
        clear hO7 hT7
        go_wp2_with (refine wpList_append_texts rfl (.tmp 33) (.tmp 34) rfl w7.heap.size _ 1 [tp] rfl HO7.out B b lb d HB.out rfl HT7.out hnb (by omega) (by simp) ?_; rintro v8 w8 ho8 hg8 hn8; have hb8 := ((Below.refl w7.heap.size w7).alloc (Nat.le_refl _) (.cells #[.string (St tp)] 9)).grown hg8 (by simp) (fun k hk => (HO7.out.lt k hk).1); clear hg8 hn8; obtain ⟨A8, c8, rfl, hn8, hc8, hl8, hT8⟩ := own_texts ho8)
        have hb8' := hb7'.trans (hb8.mono hb7'.size)
        have hcz := chainIds_any ([tp] ++ b) A8 c8 w8 (hL.below (hbw4.trans (hb8'.mono hbw4.size))) hT8 (by rw [hl8]; omega) HLENZ.out
        rw [hl8] at hcz
        have HCZ := Lib.hid hcz
        clear hcz hT8 ho8 HO7 HT7
        generalize hn2 : 1 + lb = n2 at *
        have hone : (1 : Int) + (lb : Int) = (n2 : Int) := by omega
        have HN2 := Lib.hid hn2
        clear hn2
        refine HCZ.out.mono ?_
        rintro e w9 ⟨v9, rfl, hb9, ho9⟩
        obtain ⟨A9, c9, rfl, _, hc9, hl9, hT9⟩ := own_texts ho9
        have hb69 := (hb7.trans (hb8.mono hb7.size)).trans (hb9.mono (Nat.le_trans hb7.size hb8.size))
        have hb9' := hb8'.trans (hb9.mono hb8'.size)
        have hfin := hbw4.trans (hb9'.mono hbw4.size)
        have hT5' := (HT5.out.below hb6).below hb69
        have hT6' := HT6.out.below hb69
        have hX := texts_eq (chainsTo a la) la la (chainsTo_length _ _) rfl (some a6) A5 c6 c5 w9 (by have := hT6'.to la; rwa [HFRONT.out] at this) hT5' (by omega)
        have hZ := fun W (h : Below w9.heap.size w9 W) => texts_eq (chainsTo ([tp] ++ b) n2) (n1 - p) n2 (by rw [chainsTo_length]; have := HN1.out; have := HN2.out; have := HP.out; omega) (by have := HN1.out; have := HN2.out; have := HP.out; omega) (some (a6.add p)) A9 (c6 - p) c9 W (by
          have h1 := (hT6'.below h).from p
          rw [HBEHIND.out] at h1
          exact h1) (hT9.below h) (by have := HN1.out; omega)
        have hs1 := fun w => run_texts_to w a6 n1 c6 la (by have := HN1.out; omega)
        have hs2 := fun w => run_texts_from w a6 n1 c6 p (by have := HN1.out; have := HP.out; omega) hc6
        have e1 : (la : Int) - 1 = (p : Int) := by have := HP.out; omega
        have HX := Lib.hid hX; have HZ := Lib.hid hZ
        clear hX hZ hT5' hT6' hT9 ho9 HCZ HTOP HCALL HCH
        go_wp2_with fail
        refine HX.out.mono ?_
        rintro e w10 ⟨rfl, hb10⟩
        go_wp2_with fail
        refine (HZ.out _ hb10).mono ?_
        rintro e w11 ⟨rfl, hb11⟩
        have hfin2 := hfin.trans ((hb10.trans (hb11.mono hb10.size)).mono hfin.size)
        go_wp2_with fail
        go_ret
        exact ⟨rfl, hfin2⟩
end Go.Proofs.YtbioclpobmgikaaDoor
