/- Base64 with its filler, back; the law of layer 2 that each pair undoes itself: its walk. -/
import Derived.Test.YtbioclpobmgikaaC8b
namespace Go.Proofs.Ytbioclpobmgikaa
open Go.RowKit

theorem trim1_snoc (t : List UInt8) : trim1 (t ++ [61]) = t := by
  unfold trim1 Lib.trimSuffix Lib.hasSuffix
  rw [if_pos (List.isSuffixOf_iff_suffix.2 ⟨t, rfl⟩)]
  simp
theorem trim1_stay (s : List UInt8) (h : ∀ t, s ≠ t ++ [61]) : trim1 s = s := by
  unfold trim1 Lib.trimSuffix Lib.hasSuffix
  rw [if_neg]
  intro hs
  obtain ⟨t, ht⟩ := List.isSuffixOf_iff_suffix.1 hs
  exact h t ht.symm
theorem trim1_cases (s : List UInt8) : (∃ t, s = t ++ [61] ∧ trim1 s = t) ∨ trim1 s = s := by
  by_cases h : ∃ t, s = t ++ [61]
  · obtain ⟨t, rfl⟩ := h
    exact .inl ⟨t, rfl, trim1_snoc t⟩
  · exact .inr (trim1_stay s fun t ht => h ⟨t, ht⟩)
theorem signs_fill (way : Bool) (l : List UInt8) : ∀ c ∈ signs (alW way) (sx 0 0 l), c ≠ 61 := by
  intro c hc h
  subst h
  simp only [signs, List.mem_map] at hc
  obtain ⟨n, hn, h61⟩ := hc
  have := at_ix way n (sx_lt l 0 0 (by omega) (by omega) n hn)
  rw [h61, no_fill] at this
  cases this
theorem ubase_base (l : List UInt8) : ubase (baseL l) = some l := by
  have hs : ∀ t, signs alP (sx 0 0 l) ≠ t ++ [61] := fun t ht => signs_fill false l 61 (by show 61 ∈ signs alP (sx 0 0 l); rw [ht]; simp) rfl
  have hl := base_len l
  have hd : dx false 0 0 (signs alP (sx 0 0 l)) = some l := dx_sx false l
  have h4 : (baseL l).length % 4 = 0 := by omega
  rw [ubase, if_pos h4, ← hd]
  congr 1
  have hp : padN (sx 0 0 l).length = 0 ∨ padN (sx 0 0 l).length = 1 ∨ padN (sx 0 0 l).length = 2 := by
    rw [sx_len l 0 0 (by omega), padN]; omega
  rw [baseL]
  rcases hp with h | h | h
  · rw [h, List.replicate_zero, List.append_nil, trim1_stay _ hs, trim1_stay _ hs]
  · rw [h, show List.replicate 1 (61 : UInt8) = [61] from rfl, trim1_snoc, trim1_stay _ hs]
  · rw [h, show List.replicate 2 (61 : UInt8) = [61] ++ [61] from rfl, ← List.append_assoc, trim1_snoc, trim1_snoc]
theorem ubase_back (s l : List UInt8) (h : ubase s = some l) : baseL l = s := by
  unfold ubase at h
  split at h
  · rename_i h4
    have hb : signs alP (sx 0 0 l) = trim1 (trim1 s) := dx_back false _ _ h
    have hlen : (sx 0 0 l).length = (trim1 (trim1 s)).length := by rw [← hb, signs_length]
    obtain ⟨k, hk, hsk⟩ : ∃ k, k ≤ 2 ∧ s = trim1 (trim1 s) ++ List.replicate k 61 := by
      rcases trim1_cases s with ⟨t, h1, h2⟩ | h2
      · rcases trim1_cases t with ⟨u, h3, h5⟩ | h5
        · exact ⟨2, by omega, by rw [h2, h5, h1, h3, List.append_assoc]; rfl⟩
        · exact ⟨1, by omega, by rw [h2, h5, h1]; rfl⟩
      · rw [h2, h2]
        exact ⟨0, by omega, by simp⟩
    have hsl := congrArg List.length hsk
    rw [List.length_append, List.length_replicate] at hsl
    rw [baseL, hb, hlen, show padN (trim1 (trim1 s)).length = k by rw [padN]; omega]
    exact hsk.symm
  · cases h

set_option maxHeartbeats 1000000 in
set_option maxRecDepth 100000 in
theorem codecBack_walk (A : Option Addr) (b : List UInt8) (c : Nat) (s : List UInt8) (w : World) (hA : BytesAt w A b) (_ : s.length ≤ 140737488351232) :
    Calls Try.prog 6 #[.slice A b.length c, .string (St s)] w fun e w' => e = .returned (.bool true) ∧ Below w.heap.size w w' := by
  have htl := St_toList
  have HA := Lib.hid hA
  clear hA
  have hss : (St s).size = s.length := rfl
  generalize hlb : b.length = lb at *
  generalize hls : s.length = ls at *
  have HLB := Lib.hid hlb; have HLS := Lib.hid hls
  clear hlb hls
  go_enter Try.func6, Try.ntmps6
  go_wp2_with fail
  refine (alive2_any w).mono ?_
  rintro e w1 ⟨rfl, hb1⟩
  by_cases h1 : 2000 < lb
  · have hd : decide ((lb : Int) > 2000) = true := decide_eq_true (by omega)
    go_wp2_with fail
    go_ret
    exact ⟨rfl, hb1⟩
  · have hd : decide ((lb : Int) > 2000) = false := decide_eq_false (by omega)
    by_cases h2 : 2000 < ls
    · have hd2 : decide ((ls : Int) > 2000) = true := decide_eq_true (by omega)
      go_wp2_with fail
      go_ret
      exact ⟨rfl, hb1⟩
    · have hd2 : decide ((ls : Int) > 2000) = false := decide_eq_false (by omega)
      have hxb := fun W (h : BytesAt W A b) => hex_any b A c W h (by rw [HLB.out]; omega)
      have bsb := fun W (h : BytesAt W A b) => base_any b A c W h (by rw [HLB.out]; omega)
      have urb := fun W (h : BytesAt W A b) => url_any b A c W h (by rw [HLB.out]; omega)
      have uxb := fun W => unhex_any (hexL b) W (by rw [hexL_length, HLB.out]; omega)
      have ubb := fun W => unbase_any (baseL b) W (by rw [base_len, HLB.out]; omega)
      have uub := fun W => unurl_any (urlL b) W (by rw [url_len, HLB.out]; omega)
      have uxs := fun W => unhex_any s W (by rw [HLS.out]; omega)
      have ubs := fun W => unbase_any s W (by rw [HLS.out]; omega)
      have uus := fun W => unurl_any s W (by rw [HLS.out]; omega)
      unfold UnhexAt at uxb uxs
      unfold FoundAt at ubb uub ubs uus
      rw [unhexL_hexL b] at uxb
      rw [ubase_base b] at ubb
      rw [show dx true 0 0 (urlL b) = some b from dx_sx true b] at uub
      simp only [] at uxb ubb uub
      rw [HLB.out] at hxb bsb urb uxb ubb uub
      have hbw := HA.out.below hb1
      have HBK := Lib.hid hbw; have HBB := Lib.hid hb1
      have HXB := Lib.hid hxb; have BSB := Lib.hid bsb; have URB := Lib.hid urb; have UXB := Lib.hid uxb; have UBB := Lib.hid ubb; have UUB := Lib.hid uub; have UXS := Lib.hid uxs; have UBS := Lib.hid ubs; have UUS := Lib.hid uus
      have HL2 := Lib.hid (show ls ≤ 2000 by omega)
      clear hxb bsb urb uxb ubb uub uxs ubs uus hbw hb1 h1 h2
      generalize hexL b = xb at *
      generalize baseL b = yb at *
      generalize urlL b = zb at *
      go_wp2_with fail
      refine (HXB.out w1 HBK.out).mono ?_
      rintro e w2 ⟨rfl, n2⟩
      have HBK := Lib.hid (HBK.out.below n2)
      have HBB := Lib.hid (HBB.out.trans (n2.mono HBB.out.size))
      clear n2
      go_wp2_with fail
      refine (UXB.out w2).mono ?_
      rintro e w3 ⟨n3, AX, cX, rfl, _, _, hX⟩
      have HBK := Lib.hid (HBK.out.below n3)
      have HBB := Lib.hid (HBB.out.trans (n3.mono HBB.out.size))
      clear n3
      have HX := Lib.hid hX
      clear hX
      go_wp2_with fail
      refine (BSB.out w3 HBK.out).mono ?_
      rintro e w4 ⟨rfl, n4⟩
      have HBK := Lib.hid (HBK.out.below n4)
      have HX := Lib.hid (HX.out.below n4)
      have HBB := Lib.hid (HBB.out.trans (n4.mono HBB.out.size))
      clear n4
      go_wp2_with fail
      refine (UBB.out w4).mono ?_
      rintro e w5 ⟨n5, AY, cY, rfl, _, _, hY⟩
      have HBK := Lib.hid (HBK.out.below n5)
      have HX := Lib.hid (HX.out.below n5)
      have HBB := Lib.hid (HBB.out.trans (n5.mono HBB.out.size))
      clear n5
      have HY := Lib.hid hY
      clear hY
      go_wp2_with fail
      refine (URB.out w5 HBK.out).mono ?_
      rintro e w6 ⟨rfl, n6⟩
      have HBK := Lib.hid (HBK.out.below n6)
      have HX := Lib.hid (HX.out.below n6)
      have HY := Lib.hid (HY.out.below n6)
      have HBB := Lib.hid (HBB.out.trans (n6.mono HBB.out.size))
      clear n6
      go_wp2_with fail
      refine (UUB.out w6).mono ?_
      rintro e w7 ⟨n7, AZ, cZ, rfl, _, _, hZ⟩
      have HBK := Lib.hid (HBK.out.below n7)
      have HX := Lib.hid (HX.out.below n7)
      have HY := Lib.hid (HY.out.below n7)
      have HBB := Lib.hid (HBB.out.trans (n7.mono HBB.out.size))
      clear n7
      have HZ := Lib.hid hZ
      clear hZ
      go_wp2_with fail
      have hq := eqb_any b b AX A cX c w7 HX.out HBK.out
      rw [HLB.out, beq_self_eq_true] at hq
      refine hq.mono ?_
      clear hq
      rintro e w8 ⟨rfl, rfl⟩
      go_wp2_with fail
      have hq := eqb_any b b AY A cY c w8 HY.out HBK.out
      rw [HLB.out, beq_self_eq_true] at hq
      refine hq.mono ?_
      clear hq
      rintro e w9 ⟨rfl, rfl⟩
      go_wp2_with fail
      have hq := eqb_any b b AZ A cZ c w9 HZ.out HBK.out
      rw [HLB.out, beq_self_eq_true] at hq
      refine hq.mono ?_
      clear hq
      rintro e w10 ⟨rfl, rfl⟩
      clear HX HY HZ HBK
      go_wp2_with fail
      refine (UXS.out w10).mono ?_
      rintro e w11 ⟨n11, he⟩
      have HBB := Lib.hid (HBB.out.trans (n11.mono HBB.out.size))
      clear n11
      cases ho : unhexL s with
      | none =>
        rw [ho] at he
        simp only at he
        subst he
        clear ho
        go_wp2_with fail
        refine (UBS.out w11).mono ?_
        rintro e w12 ⟨n12, he⟩
        have HBB := Lib.hid (HBB.out.trans (n12.mono HBB.out.size))
        clear n12
        cases ho : ubase s with
        | none =>
          rw [ho] at he
          simp only at he
          subst he
          clear ho
          go_wp2_with fail
          refine (UUS.out w12).mono ?_
          rintro e w13 ⟨n13, he⟩
          have HBB := Lib.hid (HBB.out.trans (n13.mono HBB.out.size))
          clear n13
          cases ho : dx true 0 0 s with
          | none =>
            rw [ho] at he
            simp only at he
            subst he
            clear ho
            go_wp2_with fail
            go_ret
            exact ⟨rfl, HBB.out⟩
          | some z =>
            rw [ho] at he
            simp only at he
            obtain ⟨AZ, cZ, rfl, _, _, hZ⟩ := he
            have hb := (show urlL z = s from dx_back true s z ho)
            have hlZ : z.length ≤ 2000 := by have := url_len z; rw [hb, HLS.out] at this; have := HL2.out; omega
            have hcZ := fun W (h : BytesAt W AZ z) => url_any z AZ cZ W h (by omega)
            rw [hb] at hcZ
            have KZ := Lib.hid hcZ; have HZ := Lib.hid hZ
            clear hcZ hZ hb ho
            generalize z.length = lZ at *
            go_wp2_with fail
            refine (KZ.out w13 HZ.out).mono ?_
            rintro e w14 ⟨rfl, n14⟩
            have HZ := Lib.hid (HZ.out.below n14)
            have HBB := Lib.hid (HBB.out.trans (n14.mono HBB.out.size))
            clear n14
            go_wp2_with fail
            go_ret
            exact ⟨rfl, HBB.out⟩
        | some y =>
          rw [ho] at he
          simp only at he
          obtain ⟨AY, cY, rfl, _, _, hY⟩ := he
          have hb := ubase_back s y ho
          have hlY : y.length ≤ 2000 := by have := base_len y; rw [hb, HLS.out] at this; have := HL2.out; omega
          have hcY := fun W (h : BytesAt W AY y) => base_any y AY cY W h (by omega)
          rw [hb] at hcY
          have KY := Lib.hid hcY; have HY := Lib.hid hY
          clear hcY hY hb ho
          generalize y.length = lY at *
          go_wp2_with fail
          refine (UUS.out w12).mono ?_
          rintro e w13 ⟨n13, he⟩
          have HY := Lib.hid (HY.out.below n13)
          have HBB := Lib.hid (HBB.out.trans (n13.mono HBB.out.size))
          clear n13
          cases ho : dx true 0 0 s with
          | none =>
            rw [ho] at he
            simp only at he
            subst he
            clear ho
            go_wp2_with fail
            refine (KY.out w13 HY.out).mono ?_
            rintro e w14 ⟨rfl, n14⟩
            have HY := Lib.hid (HY.out.below n14)
            have HBB := Lib.hid (HBB.out.trans (n14.mono HBB.out.size))
            clear n14
            go_wp2_with fail
            go_ret
            exact ⟨rfl, HBB.out⟩
          | some z =>
            rw [ho] at he
            simp only at he
            obtain ⟨AZ, cZ, rfl, _, _, hZ⟩ := he
            have hb := (show urlL z = s from dx_back true s z ho)
            have hlZ : z.length ≤ 2000 := by have := url_len z; rw [hb, HLS.out] at this; have := HL2.out; omega
            have hcZ := fun W (h : BytesAt W AZ z) => url_any z AZ cZ W h (by omega)
            rw [hb] at hcZ
            have KZ := Lib.hid hcZ; have HZ := Lib.hid hZ
            clear hcZ hZ hb ho
            generalize z.length = lZ at *
            go_wp2_with fail
            refine (KY.out w13 HY.out).mono ?_
            rintro e w14 ⟨rfl, n14⟩
            have HY := Lib.hid (HY.out.below n14)
            have HZ := Lib.hid (HZ.out.below n14)
            have HBB := Lib.hid (HBB.out.trans (n14.mono HBB.out.size))
            clear n14
            go_wp2_with fail
            refine (KZ.out w14 HZ.out).mono ?_
            rintro e w15 ⟨rfl, n15⟩
            have HY := Lib.hid (HY.out.below n15)
            have HZ := Lib.hid (HZ.out.below n15)
            have HBB := Lib.hid (HBB.out.trans (n15.mono HBB.out.size))
            clear n15
            go_wp2_with fail
            go_ret
            exact ⟨rfl, HBB.out⟩
      | some x =>
        rw [ho] at he
        simp only at he
        obtain ⟨AX, cX, rfl, _, _, hX⟩ := he
        have hb := hexL_unhexL s x ho
        have hlX : x.length ≤ 2000 := by have := hexL_length x; rw [hb, HLS.out] at this; have := HL2.out; omega
        have hcX := fun W (h : BytesAt W AX x) => hex_any x AX cX W h (by omega)
        rw [hb] at hcX
        have KX := Lib.hid hcX; have HX := Lib.hid hX
        clear hcX hX hb ho
        generalize x.length = lX at *
        go_wp2_with fail
        refine (UBS.out w11).mono ?_
        rintro e w12 ⟨n12, he⟩
        have HX := Lib.hid (HX.out.below n12)
        have HBB := Lib.hid (HBB.out.trans (n12.mono HBB.out.size))
        clear n12
        cases ho : ubase s with
        | none =>
          rw [ho] at he
          simp only at he
          subst he
          clear ho
          go_wp2_with fail
          refine (UUS.out w12).mono ?_
          rintro e w13 ⟨n13, he⟩
          have HX := Lib.hid (HX.out.below n13)
          have HBB := Lib.hid (HBB.out.trans (n13.mono HBB.out.size))
          clear n13
          cases ho : dx true 0 0 s with
          | none =>
            rw [ho] at he
            simp only at he
            subst he
            clear ho
            go_wp2_with fail
            refine (KX.out w13 HX.out).mono ?_
            rintro e w14 ⟨rfl, n14⟩
            have HX := Lib.hid (HX.out.below n14)
            have HBB := Lib.hid (HBB.out.trans (n14.mono HBB.out.size))
            clear n14
            go_wp2_with fail
            go_ret
            exact ⟨rfl, HBB.out⟩
          | some z =>
            rw [ho] at he
            simp only at he
            obtain ⟨AZ, cZ, rfl, _, _, hZ⟩ := he
            have hb := (show urlL z = s from dx_back true s z ho)
            have hlZ : z.length ≤ 2000 := by have := url_len z; rw [hb, HLS.out] at this; have := HL2.out; omega
            have hcZ := fun W (h : BytesAt W AZ z) => url_any z AZ cZ W h (by omega)
            rw [hb] at hcZ
            have KZ := Lib.hid hcZ; have HZ := Lib.hid hZ
            clear hcZ hZ hb ho
            generalize z.length = lZ at *
            go_wp2_with fail
            refine (KX.out w13 HX.out).mono ?_
            rintro e w14 ⟨rfl, n14⟩
            have HX := Lib.hid (HX.out.below n14)
            have HZ := Lib.hid (HZ.out.below n14)
            have HBB := Lib.hid (HBB.out.trans (n14.mono HBB.out.size))
            clear n14
            go_wp2_with fail
            refine (KZ.out w14 HZ.out).mono ?_
            rintro e w15 ⟨rfl, n15⟩
            have HX := Lib.hid (HX.out.below n15)
            have HZ := Lib.hid (HZ.out.below n15)
            have HBB := Lib.hid (HBB.out.trans (n15.mono HBB.out.size))
            clear n15
            go_wp2_with fail
            go_ret
            exact ⟨rfl, HBB.out⟩
        | some y =>
          rw [ho] at he
          simp only at he
          obtain ⟨AY, cY, rfl, _, _, hY⟩ := he
          have hb := ubase_back s y ho
          have hlY : y.length ≤ 2000 := by have := base_len y; rw [hb, HLS.out] at this; have := HL2.out; omega
          have hcY := fun W (h : BytesAt W AY y) => base_any y AY cY W h (by omega)
          rw [hb] at hcY
          have KY := Lib.hid hcY; have HY := Lib.hid hY
          clear hcY hY hb ho
          generalize y.length = lY at *
          go_wp2_with fail
          refine (UUS.out w12).mono ?_
          rintro e w13 ⟨n13, he⟩
          have HX := Lib.hid (HX.out.below n13)
          have HY := Lib.hid (HY.out.below n13)
          have HBB := Lib.hid (HBB.out.trans (n13.mono HBB.out.size))
          clear n13
          cases ho : dx true 0 0 s with
          | none =>
            rw [ho] at he
            simp only at he
            subst he
            clear ho
            go_wp2_with fail
            refine (KX.out w13 HX.out).mono ?_
            rintro e w14 ⟨rfl, n14⟩
            have HX := Lib.hid (HX.out.below n14)
            have HY := Lib.hid (HY.out.below n14)
            have HBB := Lib.hid (HBB.out.trans (n14.mono HBB.out.size))
            clear n14
            go_wp2_with fail
            refine (KY.out w14 HY.out).mono ?_
            rintro e w15 ⟨rfl, n15⟩
            have HX := Lib.hid (HX.out.below n15)
            have HY := Lib.hid (HY.out.below n15)
            have HBB := Lib.hid (HBB.out.trans (n15.mono HBB.out.size))
            clear n15
            go_wp2_with fail
            go_ret
            exact ⟨rfl, HBB.out⟩
          | some z =>
            rw [ho] at he
            simp only at he
            obtain ⟨AZ, cZ, rfl, _, _, hZ⟩ := he
            have hb := (show urlL z = s from dx_back true s z ho)
            have hlZ : z.length ≤ 2000 := by have := url_len z; rw [hb, HLS.out] at this; have := HL2.out; omega
            have hcZ := fun W (h : BytesAt W AZ z) => url_any z AZ cZ W h (by omega)
            rw [hb] at hcZ
            have KZ := Lib.hid hcZ; have HZ := Lib.hid hZ
            clear hcZ hZ hb ho
            generalize z.length = lZ at *
            go_wp2_with fail
            refine (KX.out w13 HX.out).mono ?_
            rintro e w14 ⟨rfl, n14⟩
            have HX := Lib.hid (HX.out.below n14)
            have HY := Lib.hid (HY.out.below n14)
            have HZ := Lib.hid (HZ.out.below n14)
            have HBB := Lib.hid (HBB.out.trans (n14.mono HBB.out.size))
            clear n14
            go_wp2_with fail
            refine (KY.out w14 HY.out).mono ?_
            rintro e w15 ⟨rfl, n15⟩
            have HX := Lib.hid (HX.out.below n15)
            have HY := Lib.hid (HY.out.below n15)
            have HZ := Lib.hid (HZ.out.below n15)
            have HBB := Lib.hid (HBB.out.trans (n15.mono HBB.out.size))
            clear n15
            go_wp2_with fail
            refine (KZ.out w15 HZ.out).mono ?_
            rintro e w16 ⟨rfl, n16⟩
            have HX := Lib.hid (HX.out.below n16)
            have HY := Lib.hid (HY.out.below n16)
            have HZ := Lib.hid (HZ.out.below n16)
            have HBB := Lib.hid (HBB.out.trans (n16.mono HBB.out.size))
            clear n16
            go_wp2_with fail
            go_ret
            exact ⟨rfl, HBB.out⟩
end Go.Proofs.Ytbioclpobmgikaa
