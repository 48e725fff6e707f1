/- The walk of the document's base64. -/
import Derived.Test.YtbioclpobmgikaaC7a
namespace Go.Proofs.Ytbioclpobmgikaa
open Go.RowKit

def bbL (way : Bool) (l : List UInt8) : List UInt8 := if way then urlL l else baseL l
theorem bbL_nil (way : Bool) : bbL way [] = [] := by cases way <;> rfl
theorem bbL_app (way : Bool) (a b : List UInt8) (h : a.length % 3 = 0) : bbL way a ++ bbL way b = bbL way (a ++ b) := by
  cases way
  · exact base_app a b h
  · exact url_app a b h
theorem bbL_len (way : Bool) (l : List UInt8) : (bbL way l).length ≤ 4 * l.length := by
  cases way
  · show (baseL l).length ≤ _
    rw [base_len]; omega
  · show (urlL l).length ≤ _
    rw [url_len]; omega
def fill (way : Bool) (m : Nat) : Nat := if way then 0 else 3 - m
theorem bbL_chunk (way : Bool) (ch : List UInt8) (h : ch.length = 1 ∨ ch.length = 2 ∨ ch.length = 3) : bbL way ch = signs (alW way) (groups ch (ch.length + 1)) ++ List.replicate (fill way ch.length) 61 := by
  rw [groups_sx ch h]
  cases way
  · show baseL ch = signs alP _ ++ List.replicate (3 - ch.length) 61
    rw [baseL, sx_len ch 0 0 (by omega), padN]
    congr 2
    omega
  · show urlL ch = signs alU _ ++ List.replicate 0 61
    simp [urlL]

theorem bit_nat (y : Nat) (h : y < 256) : bits .and .i64 (y : Int) 1 = ((y % 2 : Nat) : Int) := by
  have := bits_mask .i64 63 (by decide) (fun n h0 h1 => by rw [IntKind.wrap_i64]; omega) 1 (by decide) (y : Int) (by omega) (by omega)
  rw [show ((2 : Int) ^ 1 - 1) = 1 by decide, show ((2 : Int) ^ 1) = 2 by decide] at this
  rw [this]; omega
theorem bit_at (x : UInt8) (t : Nat) : bits .and .i64 ((x.toNat : Int) / 2 ^ (7 - t)) 1 = ((x.toNat / 2 ^ (7 - t) % 2 : Nat) : Int) := by
  rw [← bit_nat (x.toNat / 2 ^ (7 - t)) (Nat.lt_of_le_of_lt (Nat.div_le_self _ _) x.toNat_lt)]
  simp

set_option maxHeartbeats 1000000 in
set_option maxRecDepth 100000 in
theorem bbase_any (way : Bool) (l : List UInt8) (A : Option Addr) (c : Nat) (w : World) (hby : BytesAt w A l) (hbig : l.length ≤ 1000000) :
    Calls Try.prog 11 #[.slice A l.length c, .bool way] w fun e w' => e = .returned (.string (St (bbL way l))) ∧ Below w.heap.size w w' := by
  have HBY := Lib.hid hby
  clear hby
  have hO : (w.alloc (.cells #[] 5)).ownsRow w.heap.size 5 1 (.slice (some ⟨w.heap.size, 0, none⟩) 0 0) 0 (Bs []) := World.ownsRow_made w #[] 0 (Nat.le_refl _) (by unfold maxLen; omega) rfl
  have hb0 : Below w.heap.size w (w.alloc (.cells #[] 5)) := (Below.refl _ _).alloc (Nat.le_refl _) _
  go_enter Try.func11, Try.ntmps11
  go_wp2_with fail
  go_loopw [5, 6, 7, 8, 9, 10, 11, 12, 13] (fun vo vi _ _ _ _ _ _ _ wr => ∃ (i : Nat) (o : List UInt8), i % 3 = 0 ∧ i ≤ l.length + 2 ∧ vi = .int .i64 (i : Int) ∧ Hid (o = bbL way (l.take i)) ∧ Below w.heap.size w wr ∧ wr.ownsRow w.heap.size 5 1 vo o.length (Bs o)) (fun _ v _ _ _ _ _ _ _ _ => l.length + 2 - (intOf v).toNat)
  case atStart => exact ⟨0, [], rfl, by omega, rfl, Lib.hid (bbL_nil way).symm, hb0, hO⟩
  case round =>
    clear hO hb0
    obtain ⟨i, o, hi3, hi, rfl, HO, hbel, hown⟩ := hrel
    have hol : o.length ≤ 4 * 1000000 := by
      have h := HO.out
      have h2 := bbL_len way (l.take i)
      rw [← h] at h2
      have h3 : (l.take i).length ≤ l.length := by rw [List.length_take]; omega
      omega
    by_cases hlt : i < l.length
    · have hT : Two w (wr.alloc (.cells #[] 3)) u5 o (.slice (some ⟨wr.heap.size, 0, none⟩) 0 0) [] := ⟨hbel.alloc hbel.size _, hown.alloc _, World.ownsRow_made wr #[] 0 hbel.size (by unfold maxLen; omega) rfl⟩
      obtain ⟨ch, hch⟩ : ∃ ch, ch = (l.drop i).take 3 := ⟨_, rfl⟩
      obtain ⟨m, hm⟩ : ∃ m, m = ch.length := ⟨_, rfl⟩
      have hml : m = 3 ∧ i + 3 ≤ l.length ∨ (m = 1 ∨ m = 2) ∧ i + m = l.length := by
        rw [hm, hch, List.length_take, List.length_drop]; omega
      have hat : ∀ r, r < m → at8 ch r = at8 l (i + r) := fun r hr => by
        have : r < 3 := by omega
        simp [hch, at8, List.getD, this]
      have htk : l.take (i + 3) = l.take i ++ ch := by rw [hch, List.take_add]
      have HCH := Lib.hid hch; have HM := Lib.hid hm; have HAT := Lib.hid hat; have HTK := Lib.hid htk
      clear hch hm hat htk hbel hown
      generalize hn : l.length = n at *
      have HN := Lib.hid hn
      clear hn
      go_wp2_with fail
      clear hlt
      go_loopw [7, 8, 9] (fun vb vk _ wr => ∃ r, r ≤ m ∧ vk = .int .i64 ((i + r : Nat) : Int) ∧ Two w wr u5 o vb (cbits (ch.take r))) (fun _ v _ _ => i + m - (intOf v).toNat)
      case atStart => exact ⟨0, by omega, rfl, hT⟩
      case round =>
        clear hT
        obtain ⟨r, hr, rfl, hT⟩ := hrel
        by_cases hrm : r < m
        · obtain ⟨a, rfl, hc⟩ := HBY.out (i + r) (by have := HN.out; omega)
          have gc : ∀ w', Below w.heap.size w w' → w'.cell? (a.add (i + r)) = some (.int .u8 ((at8 l (i + r)).toNat : Int)) := fun w' hb => (hb.cell (p := a.add (i + r)) (World.block_lt_of_cell? w _ hc)).trans hc
          have hcb : cbits (ch.take (r + 1)) = cbits (ch.take r) ++ bitsOf (at8 l (i + r)) := by rw [cbits_snoc ch r (by have := HM.out; omega), HAT.out r hrm]
          have hcl : (cbits (ch.take r)).length = 8 * r := by rw [cbits_length, List.length_take, Nat.min_eq_left (by have := HM.out; omega)]
          have GC := Lib.hid gc; have HCB := Lib.hid hcb
          clear gc hc hcb
          have hx8 := (at8 l (i + r)).toNat_lt
          generalize at8 l (i + r) = x at *
          generalize cbits (ch.take r) = cb at *
          have hd1 : decide (((i + r : Nat) : Int) < (i : Int) + 3) = true := decide_eq_true (by omega)
          have hd2 : decide (((i + r : Nat) : Int) < (n : Int)) = true := decide_eq_true (by omega)
          have hkr : i + r < n := by omega
          generalize hk : i + r = k at *
          have HK := Lib.hid hk
          clear hk
          go_wp2_with fail
          go_loopw [7, 9] (fun vb vj wr => ∃ t : Nat, t ≤ 8 ∧ vj = .int .i64 (7 - (t : Int)) ∧ Two w wr u5 o vb (cb ++ (bitsOf x).take t)) (fun _ v _ => (intOf v + 1).toNat)
          case atStart => exact ⟨0, by omega, rfl, by simpa using hT⟩
          case round =>
            clear hT
            obtain ⟨t, ht, rfl, hT⟩ := hrel
            by_cases ht8 : t < 8
            · have g := GC.out wr hT.below
              have e1 : IntKind.i64.wrap (x.toNat : Int) = (x.toNat : Int) := IntWalk.i64_in _ (by omega)
              have h7 : (t : Int) ≤ 7 := by omega
              have hbt := bit_at x t
              have HBN := Lib.hid (bitsOf_take x t ht8)
              have hcl2 : (cb ++ (bitsOf x).take t).length ≤ 1000 := by rw [List.length_append, List.length_take, hcl]; omega
              generalize x.toNat / 2 ^ (7 - t) % 2 = bt at *
              go_wp2_with (refine wpList_bit rfl (.tmp 39) (.tmp 48) rfl _ o _ (cb ++ (bitsOf x).take t) bt _ rfl rfl rfl hT hcl2 ?_; rintro v6 w6 hT6)
              go_roundw
              case rel =>
                refine ⟨t + 1, by omega, by go_num, ?_⟩
                rw [HBN.out, ← List.append_assoc]
                exact hT6
              case measure => simp [intOf]; omega
            · obtain rfl : t = 8 := by omega
              have hT' : Two w wr u5 o u7 (cb ++ bitsOf x) := by rw [List.take_of_length_le (by rw [bitsOf_length]; omega)] at hT; exact hT
              clear hT
              go_wp2_with fail
              go_roundw
              case rel =>
                refine ⟨r + 1, by omega, by have := HK.out; go_num, ?_⟩
                rw [HCB.out]
                exact hT'
              case measure => have := HK.out; simp [intOf]; omega
        · obtain rfl : r = m := by omega
          rw [List.take_of_length_le (by rw [← HM.out]; exact Nat.le_refl _)] at hT
          have hcl : (cbits ch).length = 8 * r := by rw [cbits_length, ← HM.out]
          have hr123 : r = 1 ∨ r = 2 ∨ r = 3 := by omega
          have hr5 : 8 * r + (6 - 2 * r) = 6 * (r + 1) := by omega
          have HCL := Lib.hid hcl
          clear hcl
          generalize hk : i + r = k at *
          have HK := Lib.hid hk
          rcases hml with ⟨h0, h3⟩ | ⟨h0, h3⟩
          · have hd1 : decide ((k : Int) < (i : Int) + 3) = false := decide_eq_false (by omega)
            have HL := Lib.hid (show k ≤ n by omega)
            clear h0 h3 hk
            go_wp2_with fail
            go_loopg [7] (6 - 2 * r) (fun g v wr => ∃ j, j + g = 6 - 2 * r ∧ Two w wr u5 o v (cbits ch ++ List.replicate j 0)) 
            case atStart => exact ⟨0, by omega, by simpa using hT⟩
            case round =>
              clear hT
              obtain ⟨j, hj, hT⟩ := hrel
              have hlen : (cbits ch ++ List.replicate j 0).length = 8 * r + j := by rw [List.length_append, HCL.out, List.length_replicate]
              obtain ⟨Ab, cb, rfl, hcb, hcell⟩ := hT.cell
              have HCELL := Lib.hid hcell
              clear hcell
              rw [hlen] at hT hcb ⊢
              have HLEN := Lib.hid hlen
              clear hlen
              by_cases hg : gk = 0
              · obtain rfl : j = 6 - 2 * r := by omega
                have ht : (((8 * r + (6 - 2 * r) : Nat) : Int) % 6 != 0) = false := by rw [bne_eq_false_iff_eq]; omega
                have hpd : cbits ch ++ List.replicate (6 - 2 * r) 0 = padded ch := by rw [padded, ← HM.out]
                have HPL := Lib.hid (padded_lt ch)
                rw [hpd] at hT HCELL HLEN
                rw [hr5] at *
                have HBC := Lib.hid (bbL_chunk way ch (by rw [← HM.out]; exact hr123))
                have HGS := Lib.hid (groups_succ ch)
                have HGL := Lib.hid (groups_length ch)
                clear hpd hcb hr5 hg hj
                generalize groups ch = gs at *
                generalize padded ch = P at *
                go_wp2_with fail
                go_loopw [5, 10, 11, 12, 13] (fun vo vn vk _ _ wr => ∃ g : Nat, g ≤ r + 1 ∧ vn = .int .i64 (g : Int) ∧ vk = .int .i64 ((6 * g : Nat) : Int) ∧ Two w wr vo (o ++ signs (alW way) (gs g)) (.slice Ab (6 * (r + 1)) cb) P) (fun _ v _ _ _ _ => r + 1 - (intOf v).toNat)
                case atStart => exact ⟨0, by omega, rfl, rfl, by rw [show gs 0 = [] from List.eq_nil_of_length_eq_zero (HGL.out 0)]; simpa [signs] using hT⟩
                case round =>
                  clear hT ht
                  obtain ⟨g, hg, rfl, rfl, hT⟩ := hrel
                  rename World => wr
                  by_cases hgr : g < r + 1
                  · have hd3 : decide (6 * g < 6 * (r + 1)) = true := decide_eq_true (by omega)
                    have hg6 : 6 * g + 6 ≤ 6 * (r + 1) := by omega
                    have hg4 : g ≤ 3 := by omega
                    generalize 6 * (r + 1) = N6 at *
                    generalize hs : 6 * g = s at *
                    have hs24 : s ≤ 24 := by omega
                    have HS := Lib.hid hs
                    clear hs hd1
                    go_wp2_with fail
                    go_loopw [12, 13] (fun vv vj wr => ∃ q : Nat, q ≤ 6 ∧ vv = .int .i64 ((bv P s q : Nat) : Int) ∧ vj = .int .i64 (q : Int) ∧ Two w wr u5 (o ++ signs (alW way) (gs g)) (.slice Ab N6 cb) P) (fun _ v _ => 6 - (intOf v).toNat)
                    case atStart => exact ⟨0, by omega, rfl, rfl, hT⟩
                    case round =>
                      clear hT
                      obtain ⟨q, hq, rfl, rfl, hT⟩ := hrel
                      have hbl := bv_lt P HPL.out s q
                      by_cases hq6 : q < 6
                      · obtain ⟨Ac, cc, hvc, hcc, hcell⟩ := hT.cell
                        obtain ⟨ap, hap, gp⟩ := hcell (s + q) (by rw [HLEN.out]; omega)
                        obtain rfl : Ab = some ap := by injection hvc with e1; rw [e1, hap]
                        have hpb : P.getD (s + q) 0 < 2 := by
                          rw [List.getD_eq_getElem?_getD]
                          cases hge : P[s + q]? with
                          | none => simp
                          | some z => simpa using HPL.out z (List.mem_of_getElem? hge)
                        have HB2 := Lib.hid (show bv P s (q + 1) = bv P s q * 2 + P.getD (s + q) 0 from rfl)
                        have hb64 : bv P s q < 64 := Nat.lt_of_lt_of_le hbl (Nat.le_trans (Nat.pow_le_pow_right (by decide) hq) (by decide))
                        clear hcell hvc hcc hap hbl
                        generalize P.getD (s + q) 0 = z at *
                        generalize bv P s q = y at *
                        have hsq : s + q < N6 := by omega
                        go_wp2_with fail
                        go_roundw
                        case rel => exact ⟨q + 1, by omega, by rw [HB2.out]; go_num, by go_num, hT⟩
                        case measure => simp [intOf]; omega
                      · obtain rfl : q = 6 := by omega
                        have HG1 := Lib.hid (HGS.out g)
                        have hon : (o ++ signs (alW way) (gs g)).length ≤ 100000000 := by rw [List.length_append, signs_length, HGL.out]; omega
                        rw [show ((6 : Nat) : Int) = 6 from rfl]
                        have hsa := fun w => sign_any (bv P s 6) hbl way w
                        rw [HS.out] at HG1
                        have HSA := Lib.hid hsa
                        clear hsa hbl
                        generalize bv P s 6 = y at *
                        go_wp2_with (first
                          | (refine (HSA.out _).mono ?_; rintro e2 w2 ⟨rfl, rfl⟩)
                          | (refine wpList_byte rfl (.tmp 76) (.tmp 80) rfl _ (o ++ signs (alW way) (gs g)) _ P (at8 (alW way) y) _ rfl rfl rfl hT hon ?_; rintro v6 w6 hT6))
                        go_roundw
                        case rel =>
                          refine ⟨g + 1, by omega, by go_num, by have := HS.out; go_num, ?_⟩
                          rw [HG1.out, signs_append, ← List.append_assoc]
                          exact hT6
                        case measure => simp [intOf]; omega
                  · obtain rfl : g = r + 1 := by omega
                    have hd3 : decide (6 * (r + 1) < 6 * (r + 1)) = false := decide_eq_false (by omega)
                    have hol2 : (o ++ signs (alW way) (gs (r + 1))).length ≤ 4 * 1000000 + 4 := by rw [List.length_append, signs_length, HGL.out]; omega
                    have hbc := HBC.out
                    rw [← HM.out] at hbc
                    have HBD := Lib.hid hbc
                    clear hbc HBC hd1 HGL HGS HAT HCL
                    generalize signs (alW way) (gs (r + 1)) = sg at *
                    generalize 6 * (r + 1) = N6 at *
                    go_wp2_with fail
                    go_loopw [5, 10] (fun vo vn wr => ∃ z : Nat, z ≤ fill way r ∧ vn = .int .i64 ((r + 1 + z : Nat) : Int) ∧ Two w wr vo (o ++ sg ++ List.replicate z 61) (.slice Ab N6 cb) P) (fun _ v _ => 4 - (intOf v).toNat)
                    case atStart => exact ⟨0, by omega, rfl, by simpa using hT⟩
                    case round =>
                      clear hT
                      obtain ⟨z, hz, rfl, hT⟩ := hrel
                      have hol3 : (o ++ sg ++ List.replicate z 61).length ≤ 100000000 := by
                        have : fill way r ≤ 3 := by unfold fill; split <;> omega
                        rw [List.length_append, List.length_replicate]; omega
                      have hend : z = fill way r → Hid (o ++ sg ++ List.replicate z 61 = bbL way (l.take (i + 3))) := fun e => by
                        show o ++ sg ++ List.replicate z 61 = bbL way (l.take (i + 3))
                        rw [HTK.out, ← bbL_app way _ ch (by rw [List.length_take, HN.out, Nat.min_eq_left (by have := HL.out; have := HK.out; omega)]; exact hi3), ← HO.out, HBD.out, e, List.append_assoc]
                      have HEND := Lib.hid hend
                      clear hend
                      generalize hz2 : r + 1 + z = z2 at *
                      have HZ2 := Lib.hid hz2
                      clear hz2
                      by_cases hzf : z < fill way r
                      · have hway : way = false := by cases way; rfl; simp [fill] at hzf
                        subst hway
                        have hz4 : z2 < 4 := by have := HZ2.out; simp [fill] at hzf; omega
                        have hd4 : decide ((z2 : Int) < 4) = true := decide_eq_true (by omega)
                        have HZF := Lib.hid hzf
                        clear hzf hz
                        go_wp2_with (refine wpList_byte rfl (.tmp 92) (.tmp 93) rfl _ (o ++ sg ++ List.replicate z 61) _ P 61 _ rfl rfl rfl hT hol3 ?_; rintro v6 w6 hT6)
                        go_roundw
                        case rel =>
                          refine ⟨z + 1, by have := HZF.out; omega, by have := HZ2.out; go_num, ?_⟩
                          rw [List.replicate_succ', ← List.append_assoc]
                          exact hT6
                        case measure => simp [intOf]; omega
                      · have hze : z = fill way r := by omega
                        have HE := HEND.out hze
                        by_cases hz4 : z2 < 4
                        · have hway : way = true := by
                            cases way
                            · have := HZ2.out; simp [fill] at hze; omega
                            · rfl
                          subst hway
                          have hd4 : decide ((z2 : Int) < 4) = true := decide_eq_true (by omega)
                          clear hze hzf hz
                          go_wp2_with fail
                          go_roundw
                          case rel => exact ⟨i + 3, _, by omega, by have := HL.out; have := HK.out; omega, by go_num, HE, hT.below, hT.out⟩
                          case measure => have := HL.out; have := HK.out; simp [intOf]; omega
                        · have hd4 : decide ((z2 : Int) < 4) = false := decide_eq_false (by omega)
                          clear hze hzf hz
                          go_wp2_with fail
                          go_roundw
                          case rel => exact ⟨i + 3, _, by omega, by have := HL.out; have := HK.out; omega, by go_num, HE, hT.below, hT.out⟩
                          case measure => have := HL.out; have := HK.out; simp [intOf]; omega
              · first
                | (exfalso; omega)
                | (have ht : (((8 * r + j : Nat) : Int) % 6 != 0) = true := by rw [bne_iff_ne]; omega
                   have hl1000 : (cbits ch ++ List.replicate j 0).length ≤ 1000 := by rw [HLEN.out]; omega
                   go_wp2_with (refine wpList_bit rfl (.tmp 54) (.tmp 55) rfl _ o _ (cbits ch ++ List.replicate j 0) 0 _ rfl rfl rfl hT hl1000 ?_; rintro v6 w6 hT6)
                   go_roundg (gk - 1)
                   case measure => omega
                   case rel =>
                     refine ⟨j + 1, by omega, ?_⟩
                     rw [List.replicate_succ', ← List.append_assoc]
                     exact hT6)
          · have hd1 : decide ((k : Int) < (i : Int) + 3) = true := decide_eq_true (by omega)
            have hd2 : decide (k < n) = false := decide_eq_false (by omega)
            have HL := Lib.hid (show k ≤ n by omega)
            clear h0 h3 hk
            go_wp2_with fail
            go_loopg [7] (6 - 2 * r) (fun g v wr => ∃ j, j + g = 6 - 2 * r ∧ Two w wr u5 o v (cbits ch ++ List.replicate j 0)) 
            case atStart => exact ⟨0, by omega, by simpa using hT⟩
            case round =>
              clear hT
              obtain ⟨j, hj, hT⟩ := hrel
              have hlen : (cbits ch ++ List.replicate j 0).length = 8 * r + j := by rw [List.length_append, HCL.out, List.length_replicate]
              obtain ⟨Ab, cb, rfl, hcb, hcell⟩ := hT.cell
              have HCELL := Lib.hid hcell
              clear hcell
              rw [hlen] at hT hcb ⊢
              have HLEN := Lib.hid hlen
              clear hlen
              by_cases hg : gk = 0
              · obtain rfl : j = 6 - 2 * r := by omega
                have ht : (((8 * r + (6 - 2 * r) : Nat) : Int) % 6 != 0) = false := by rw [bne_eq_false_iff_eq]; omega
                have hpd : cbits ch ++ List.replicate (6 - 2 * r) 0 = padded ch := by rw [padded, ← HM.out]
                have HPL := Lib.hid (padded_lt ch)
                rw [hpd] at hT HCELL HLEN
                rw [hr5] at *
                have HBC := Lib.hid (bbL_chunk way ch (by rw [← HM.out]; exact hr123))
                have HGS := Lib.hid (groups_succ ch)
                have HGL := Lib.hid (groups_length ch)
                clear hpd hcb hr5 hg hj
                generalize groups ch = gs at *
                generalize padded ch = P at *
                go_wp2_with fail
                go_loopw [5, 10, 11, 12, 13] (fun vo vn vk _ _ wr => ∃ g : Nat, g ≤ r + 1 ∧ vn = .int .i64 (g : Int) ∧ vk = .int .i64 ((6 * g : Nat) : Int) ∧ Two w wr vo (o ++ signs (alW way) (gs g)) (.slice Ab (6 * (r + 1)) cb) P) (fun _ v _ _ _ _ => r + 1 - (intOf v).toNat)
                case atStart => exact ⟨0, by omega, rfl, rfl, by rw [show gs 0 = [] from List.eq_nil_of_length_eq_zero (HGL.out 0)]; simpa [signs] using hT⟩
                case round =>
                  clear hT ht
                  obtain ⟨g, hg, rfl, rfl, hT⟩ := hrel
                  rename World => wr
                  by_cases hgr : g < r + 1
                  · have hd3 : decide (6 * g < 6 * (r + 1)) = true := decide_eq_true (by omega)
                    have hg6 : 6 * g + 6 ≤ 6 * (r + 1) := by omega
                    have hg4 : g ≤ 3 := by omega
                    generalize 6 * (r + 1) = N6 at *
                    generalize hs : 6 * g = s at *
                    have hs24 : s ≤ 24 := by omega
                    have HS := Lib.hid hs
                    clear hs hd1
                    go_wp2_with fail
                    go_loopw [12, 13] (fun vv vj wr => ∃ q : Nat, q ≤ 6 ∧ vv = .int .i64 ((bv P s q : Nat) : Int) ∧ vj = .int .i64 (q : Int) ∧ Two w wr u5 (o ++ signs (alW way) (gs g)) (.slice Ab N6 cb) P) (fun _ v _ => 6 - (intOf v).toNat)
                    case atStart => exact ⟨0, by omega, rfl, rfl, hT⟩
                    case round =>
                      clear hT
                      obtain ⟨q, hq, rfl, rfl, hT⟩ := hrel
                      have hbl := bv_lt P HPL.out s q
                      by_cases hq6 : q < 6
                      · obtain ⟨Ac, cc, hvc, hcc, hcell⟩ := hT.cell
                        obtain ⟨ap, hap, gp⟩ := hcell (s + q) (by rw [HLEN.out]; omega)
                        obtain rfl : Ab = some ap := by injection hvc with e1; rw [e1, hap]
                        have hpb : P.getD (s + q) 0 < 2 := by
                          rw [List.getD_eq_getElem?_getD]
                          cases hge : P[s + q]? with
                          | none => simp
                          | some z => simpa using HPL.out z (List.mem_of_getElem? hge)
                        have HB2 := Lib.hid (show bv P s (q + 1) = bv P s q * 2 + P.getD (s + q) 0 from rfl)
                        have hb64 : bv P s q < 64 := Nat.lt_of_lt_of_le hbl (Nat.le_trans (Nat.pow_le_pow_right (by decide) hq) (by decide))
                        clear hcell hvc hcc hap hbl
                        generalize P.getD (s + q) 0 = z at *
                        generalize bv P s q = y at *
                        have hsq : s + q < N6 := by omega
                        go_wp2_with fail
                        go_roundw
                        case rel => exact ⟨q + 1, by omega, by rw [HB2.out]; go_num, by go_num, hT⟩
                        case measure => simp [intOf]; omega
                      · obtain rfl : q = 6 := by omega
                        have HG1 := Lib.hid (HGS.out g)
                        have hon : (o ++ signs (alW way) (gs g)).length ≤ 100000000 := by rw [List.length_append, signs_length, HGL.out]; omega
                        rw [show ((6 : Nat) : Int) = 6 from rfl]
                        have hsa := fun w => sign_any (bv P s 6) hbl way w
                        rw [HS.out] at HG1
                        have HSA := Lib.hid hsa
                        clear hsa hbl
                        generalize bv P s 6 = y at *
                        go_wp2_with (first
                          | (refine (HSA.out _).mono ?_; rintro e2 w2 ⟨rfl, rfl⟩)
                          | (refine wpList_byte rfl (.tmp 76) (.tmp 80) rfl _ (o ++ signs (alW way) (gs g)) _ P (at8 (alW way) y) _ rfl rfl rfl hT hon ?_; rintro v6 w6 hT6))
                        go_roundw
                        case rel =>
                          refine ⟨g + 1, by omega, by go_num, by have := HS.out; go_num, ?_⟩
                          rw [HG1.out, signs_append, ← List.append_assoc]
                          exact hT6
                        case measure => simp [intOf]; omega
                  · obtain rfl : g = r + 1 := by omega
                    have hd3 : decide (6 * (r + 1) < 6 * (r + 1)) = false := decide_eq_false (by omega)
                    have hol2 : (o ++ signs (alW way) (gs (r + 1))).length ≤ 4 * 1000000 + 4 := by rw [List.length_append, signs_length, HGL.out]; omega
                    have hbc := HBC.out
                    rw [← HM.out] at hbc
                    have HBD := Lib.hid hbc
                    clear hbc HBC hd1 HGL HGS HAT HCL
                    generalize signs (alW way) (gs (r + 1)) = sg at *
                    generalize 6 * (r + 1) = N6 at *
                    go_wp2_with fail
                    go_loopw [5, 10] (fun vo vn wr => ∃ z : Nat, z ≤ fill way r ∧ vn = .int .i64 ((r + 1 + z : Nat) : Int) ∧ Two w wr vo (o ++ sg ++ List.replicate z 61) (.slice Ab N6 cb) P) (fun _ v _ => 4 - (intOf v).toNat)
                    case atStart => exact ⟨0, by omega, rfl, by simpa using hT⟩
                    case round =>
                      clear hT
                      obtain ⟨z, hz, rfl, hT⟩ := hrel
                      have hol3 : (o ++ sg ++ List.replicate z 61).length ≤ 100000000 := by
                        have : fill way r ≤ 3 := by unfold fill; split <;> omega
                        rw [List.length_append, List.length_replicate]; omega
                      have hend : z = fill way r → Hid (o ++ sg ++ List.replicate z 61 = bbL way (l.take (i + 3))) := fun e => by
                        show o ++ sg ++ List.replicate z 61 = bbL way (l.take (i + 3))
                        rw [HTK.out, ← bbL_app way _ ch (by rw [List.length_take, HN.out, Nat.min_eq_left (by have := HL.out; have := HK.out; omega)]; exact hi3), ← HO.out, HBD.out, e, List.append_assoc]
                      have HEND := Lib.hid hend
                      clear hend
                      generalize hz2 : r + 1 + z = z2 at *
                      have HZ2 := Lib.hid hz2
                      clear hz2
                      by_cases hzf : z < fill way r
                      · have hway : way = false := by cases way; rfl; simp [fill] at hzf
                        subst hway
                        have hz4 : z2 < 4 := by have := HZ2.out; simp [fill] at hzf; omega
                        have hd4 : decide ((z2 : Int) < 4) = true := decide_eq_true (by omega)
                        have HZF := Lib.hid hzf
                        clear hzf hz
                        go_wp2_with (refine wpList_byte rfl (.tmp 92) (.tmp 93) rfl _ (o ++ sg ++ List.replicate z 61) _ P 61 _ rfl rfl rfl hT hol3 ?_; rintro v6 w6 hT6)
                        go_roundw
                        case rel =>
                          refine ⟨z + 1, by have := HZF.out; omega, by have := HZ2.out; go_num, ?_⟩
                          rw [List.replicate_succ', ← List.append_assoc]
                          exact hT6
                        case measure => simp [intOf]; omega
                      · have hze : z = fill way r := by omega
                        have HE := HEND.out hze
                        by_cases hz4 : z2 < 4
                        · have hway : way = true := by
                            cases way
                            · have := HZ2.out; simp [fill] at hze; omega
                            · rfl
                          subst hway
                          have hd4 : decide ((z2 : Int) < 4) = true := decide_eq_true (by omega)
                          clear hze hzf hz
                          go_wp2_with fail
                          go_roundw
                          case rel => exact ⟨i + 3, _, by omega, by have := HL.out; have := HK.out; omega, by go_num, HE, hT.below, hT.out⟩
                          case measure => have := HL.out; have := HK.out; simp [intOf]; omega
                        · have hd4 : decide ((z2 : Int) < 4) = false := decide_eq_false (by omega)
                          clear hze hzf hz
                          go_wp2_with fail
                          go_roundw
                          case rel => exact ⟨i + 3, _, by omega, by have := HL.out; have := HK.out; omega, by go_num, HE, hT.below, hT.out⟩
                          case measure => have := HL.out; have := HK.out; simp [intOf]; omega
              · first
                | (exfalso; omega)
                | (have ht : (((8 * r + j : Nat) : Int) % 6 != 0) = true := by rw [bne_iff_ne]; omega
                   have hl1000 : (cbits ch ++ List.replicate j 0).length ≤ 1000 := by rw [HLEN.out]; omega
                   go_wp2_with (refine wpList_bit rfl (.tmp 54) (.tmp 55) rfl _ o _ (cbits ch ++ List.replicate j 0) 0 _ rfl rfl rfl hT hl1000 ?_; rintro v6 w6 hT6)
                   go_roundg (gk - 1)
                   case measure => omega
                   case rel =>
                     refine ⟨j + 1, by omega, ?_⟩
                     rw [List.replicate_succ', ← List.append_assoc]
                     exact hT6)
    · rw [List.take_of_length_le (by omega)] at HO
      have hcv : (convert 22 9 u5).run Try.prog wr = .ok (.string (St o)) wr := by
        rcases hown.2 with ⟨rfl, h0⟩ | ⟨g, cap, cur, rfl, _⟩
        · have := str_bytes wr none o 0 (fun j hj => by omega)
          rwa [h0] at this
        · exact str_bytes wr _ o _ (fun j hj => ⟨_, rfl, hown.cells (g := g) rfl j _ (Bs_get _ _ hj)⟩)
      generalize l.length = n at *
      go_wp2_with fail
      go_ret
      exact ⟨by rw [← HO.out]; rfl, hbel⟩
end Go.Proofs.Ytbioclpobmgikaa
