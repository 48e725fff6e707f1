/- The law of layer 2 on sizes: its walk. -/
import Derived.Test.YtbioclpobmgikaaC4
namespace Go.Proofs.Ytbioclpobmgikaa
open Go.RowKit

theorem own_bytes {w : World} {base n : Nat} {v : Value} {t : List UInt8} (h : w.ownsRow base 5 1 v n (Bs t)) : ∃ A c, v = .slice A n c ∧ (A = none → c = 0) ∧ n ≤ c ∧ t.length = n ∧ BytesAt w A t := by
  have hl : t.length = n := by have := h.1; rw [Bs_length] at this; omega
  rcases h.2 with ⟨rfl, h0⟩ | ⟨g, cap, cur, rfl, _, _, h4, _⟩
  · subst h0
    exact ⟨none, 0, rfl, fun _ => rfl, Nat.le_refl _, hl, fun j hj => by omega⟩
  · exact ⟨some ⟨g, 0, none⟩, cap, rfl, fun h => (by cases h), h4, hl, fun j hj => ⟨_, rfl, h.cells (g := g) rfl j _ (Bs_get _ _ hj)⟩⟩

set_option maxHeartbeats 1000000 in
set_option maxRecDepth 100000 in
theorem codecSizes_walk (A : Option Addr) (a : List UInt8) (c : Nat) (B : Option Addr) (b : List UInt8) (d : Nat) (w : World) (hA : BytesAt w A a) (hna : A = none → c = 0) (hB : BytesAt w B b) (hnb : B = none → d = 0) :
    Calls Try.prog 4 #[.slice A a.length c, .slice B b.length d] w fun e w' => e = .returned (.bool true) ∧ Below w.heap.size w w' := by
  have htl : ∀ l, (St l).toList = l := fun l => ByteArray.toList_mk l
  have HA := Lib.hid hA; have HB := Lib.hid hB
  clear hA hB
  generalize hla : a.length = la at *
  generalize hlb : b.length = lb at *
  have HLA := Lib.hid hla; have HLB := Lib.hid hlb
  clear hla hlb
  go_enter Try.func4, Try.ntmps4
  go_wp2_with fail
  refine (alive2_any w).mono ?_
  rintro e w1 ⟨rfl, hb1⟩
  by_cases h1 : 2000 < la
  · have hd : decide ((la : Int) > 2000) = true := decide_eq_true (by omega)
    go_wp2_with fail
    go_ret
    exact ⟨rfl, hb1⟩
  · have hd : decide ((la : Int) > 2000) = false := decide_eq_false (by omega)
    by_cases h2 : 2000 < lb
    · have hd2 : decide ((lb : Int) > 2000) = true := decide_eq_true (by omega)
      go_wp2_with fail
      go_ret
      exact ⟨rfl, hb1⟩
    · have hd2 : decide ((lb : Int) > 2000) = false := decide_eq_false (by omega)
      have hA1 := HA.out.below hb1
      have hB1 := HB.out.below hb1
      have hO0 : (w1.alloc (.cells #[] 5)).ownsRow w1.heap.size 5 1 (.slice (some ⟨w1.heap.size, 0, none⟩) 0 0) ([] : List UInt8).length (Bs []) := World.ownsRow_made w1 #[] 0 (Nat.le_refl _) (by unfold maxLen; omega) rfl
      have HA1 := Lib.hid hA1; have HB1 := Lib.hid hB1
      clear hA1 hB1 HA HB
      go_wp2_with (first
        | (refine wpList_append_bytes rfl (.tmp 16) (.tmp 17) rfl w1.heap.size _ [] rfl hO0 A a c (by rw [HLA.out]; rfl) (HA1.out.alloc _) hna (by rw [HLA.out]; simp; omega) (by simp) ?_; rintro v3 w3 ho3 hg3 hn3; have hb3 := ((Below.refl w1.heap.size w1).alloc (Nat.le_refl _) (.cells #[] 5)).grown hg3 (by simp) (fun k hk => (hO0.lt k hk).1); rw [List.length_nil, Nat.zero_add, show Bs [] ++ Bs a = Bs a from rfl] at ho3; clear hO0 hg3 hn3)
        | (refine wpList_append_bytes rfl (.tmp 18) (.tmp 19) rfl w1.heap.size _ a rfl ho3 B b d (by rw [HLB.out]; rfl) (HB1.out.below hb3) hnb (by rw [HLA.out, HLB.out]; omega) hb3.size ?_; rintro v4 w4 ho4 hg4 hn4; have hb4 := hb3.grown hg4 hb3.size (fun k hk => (ho3.lt k hk).1); clear ho3 hg4 hn4))
      rw [show Bs a ++ Bs b = Bs (a ++ b) by simp [Bs], HLA.out, HLB.out] at ho4
      obtain ⟨A4, c4, rfl, _, _, hl4, hT4⟩ := own_bytes ho4
      have hbw4 := hb1.trans (hb4.mono hb1.size)
      have hxa := fun W (h : Below w4.heap.size w4 W) => hex_any a A c W (HA1.out.below (hb4.trans (h.mono hb4.size))) (by rw [HLA.out]; omega)
      have hxb := fun W (h : Below w4.heap.size w4 W) => hex_any b B d W (HB1.out.below (hb4.trans (h.mono hb4.size))) (by rw [HLB.out]; omega)
      have hxc := fun W (h : Below w4.heap.size w4 W) => hex_any (a ++ b) A4 c4 W (hT4.below h) (by rw [hl4]; omega)
      have bsa := fun W (h : Below w4.heap.size w4 W) => base_any a A c W (HA1.out.below (hb4.trans (h.mono hb4.size))) (by rw [HLA.out]; omega)
      have bsb := fun W (h : Below w4.heap.size w4 W) => base_any b B d W (HB1.out.below (hb4.trans (h.mono hb4.size))) (by rw [HLB.out]; omega)
      have bsc := fun W (h : Below w4.heap.size w4 W) => base_any (a ++ b) A4 c4 W (hT4.below h) (by rw [hl4]; omega)
      have ura := fun W (h : Below w4.heap.size w4 W) => url_any a A c W (HA1.out.below (hb4.trans (h.mono hb4.size))) (by rw [HLA.out]; omega)
      have urb := fun W (h : Below w4.heap.size w4 W) => url_any b B d W (HB1.out.below (hb4.trans (h.mono hb4.size))) (by rw [HLB.out]; omega)
      have urc := fun W (h : Below w4.heap.size w4 W) => url_any (a ++ b) A4 c4 W (hT4.below h) (by rw [hl4]; omega)
      rw [HLA.out] at hxa bsa ura
      rw [HLB.out] at hxb bsb urb
      rw [hl4] at hxc bsc urc
      have lxa : (St (hexL a)).size = 2 * la := by rw [St_size, hexL_length, HLA.out]
      have lba : (St (baseL a)).size = (la + 2) / 3 * 4 := by rw [St_size, base_len, HLA.out]
      have lua : (St (urlL a)).size = (la * 8 + 5) / 6 := by rw [St_size, url_len, HLA.out]
      have lxb : (St (hexL b)).size = 2 * lb := by rw [St_size, hexL_length, HLB.out]
      have lbb : (St (baseL b)).size = (lb + 2) / 3 * 4 := by rw [St_size, base_len, HLB.out]
      have lub : (St (urlL b)).size = (lb * 8 + 5) / 6 := by rw [St_size, url_len, HLB.out]
      have adx := add_St (hexL a) (hexL b) (by have h1 := lxa; have h2 := lxb; rw [St_size] at h1 h2; omega)
      have adb := add_St (baseL a) (baseL b) (by have h1 := lba; have h2 := lbb; rw [St_size] at h1 h2; omega)
      have adu := add_St (urlL a) (urlL b) (by have h1 := lua; have h2 := lub; rw [St_size] at h1 h2; omega)
      rw [← hexL_append] at adx
      have APB := Lib.hid (fun h => base_app a b h); have APU := Lib.hid (fun h => url_app a b h)
      have HXA := Lib.hid hxa; have HXB := Lib.hid hxb; have HXC := Lib.hid hxc; have BSA := Lib.hid bsa; have BSB := Lib.hid bsb; have BSC := Lib.hid bsc; have URA := Lib.hid ura; have URB := Lib.hid urb; have URC := Lib.hid urc
      have q1 : ((2 * la : Nat) : Int) = 2 * (la : Int) := by omega
      have q2 : (((la + 2) / 3 * 4 : Nat) : Int) = ((la : Int) + 2) / 3 * 4 := by omega
      have q3 : (((la * 8 + 5) / 6 : Nat) : Int) = ((la : Int) * 8 + 5) / 6 := by omega
      rw [HLA.out] at APB APU
      have HBW := Lib.hid hbw4
      have hz : Below w4.heap.size w4 w4 := Below.refl _ _
      clear hxa hxb hxc bsa bsb bsc ura urb urc lxb lbb lub hT4 ho4 hl4 HA1 HB1 hb3 hb4 hbw4
      generalize hexL (a ++ b) = xc at *
      generalize hexL a = xa at *
      generalize hexL b = xb at *
      generalize baseL (a ++ b) = bc at *
      generalize baseL a = ba at *
      generalize baseL b = bb at *
      generalize urlL (a ++ b) = uc at *
      generalize urlL a = ua at *
      generalize urlL b = ub at *
      generalize la + lb = lc at *
      generalize w4 = v0 at *
      refine (HXA.out v0 hz).mono ?_
      rintro e v1 ⟨rfl, k1⟩
      go_wp2_with fail
      refine (BSA.out v1 k1).mono ?_
      rintro e v2 ⟨rfl, n2⟩
      have k2 := k1.trans (n2.mono k1.size)
      go_wp2_with fail
      refine (URA.out v2 k2).mono ?_
      rintro e v3 ⟨rfl, n3⟩
      have k3 := k2.trans (n3.mono k2.size)
      go_wp2_with fail
      refine (HXA.out v3 k3).mono ?_
      rintro e v4 ⟨rfl, n4⟩
      have k4 := k3.trans (n4.mono k3.size)
      go_wp2_with fail
      refine (HXB.out v4 k4).mono ?_
      rintro e v5 ⟨rfl, n5⟩
      have k5 := k4.trans (n5.mono k4.size)
      go_wp2_with fail
      refine (HXC.out v5 k5).mono ?_
      rintro e v6 ⟨rfl, n6⟩
      have k6 := k5.trans (n6.mono k5.size)
      by_cases h3 : la % 3 = 0
      · have e3 : ((la : Int) % 3 != 0) = false := by rw [bne_eq_false_iff_eq]; omega
        have apb := APB.out h3
        have apu := APU.out h3
        rw [apb] at adb
        rw [apu] at adu
        go_wp2_with fail
        refine (BSA.out v6 k6).mono ?_
        rintro e v7 ⟨rfl, n7⟩
        have k7 := k6.trans (n7.mono k6.size)
        go_wp2_with fail
        refine (BSB.out v7 k7).mono ?_
        rintro e v8 ⟨rfl, n8⟩
        have k8 := k7.trans (n8.mono k7.size)
        go_wp2_with fail
        refine (BSC.out v8 k8).mono ?_
        rintro e v9 ⟨rfl, n9⟩
        have k9 := k8.trans (n9.mono k8.size)
        go_wp2_with fail
        refine (URA.out v9 k9).mono ?_
        rintro e v10 ⟨rfl, n10⟩
        have k10 := k9.trans (n10.mono k9.size)
        go_wp2_with fail
        refine (URB.out v10 k10).mono ?_
        rintro e v11 ⟨rfl, n11⟩
        have k11 := k10.trans (n11.mono k10.size)
        go_wp2_with fail
        refine (URC.out v11 k11).mono ?_
        rintro e v12 ⟨rfl, n12⟩
        have k12 := k11.trans (n12.mono k11.size)
        have hf := HBW.out.trans (k12.mono HBW.out.size)
        go_wp2_with fail
        go_ret
        exact ⟨rfl, hf⟩
      · have e3 : ((la : Int) % 3 != 0) = true := by rw [bne_iff_ne]; omega
        have hf := HBW.out.trans (k6.mono HBW.out.size)
        go_wp2_with fail
        go_ret
        exact ⟨rfl, hf⟩
end Go.Proofs.Ytbioclpobmgikaa
