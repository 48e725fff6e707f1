/- The walk of the program's decode, and of Unbase and Unurl. -/
import Derived.Test.YtbioclpobmgikaaC8a
namespace Go.Proofs.Ytbioclpobmgikaa
open Go.RowKit

/-- what a function answers that finds bytes, or none -/
def FoundAt (o : Option (List UInt8)) (w w' : World) (e : Ending) : Prop :=
  Below w.heap.size w w' ∧ match o with
  | none => e = .returned (.tuple #[.slice none 0 0, .iface 48 (.int .i64 2)])
  | some b => ∃ A c, e = .returned (.tuple #[.slice A b.length c, .nilIface]) ∧ b.length ≤ c ∧ (A = none → c = 0) ∧ BytesAt w' A b
theorem or_add6 (h x : Nat) (hx : x < 64) : bits .or .u64 (IntKind.u64.wrap ((h : Int) * 64)) (x : Int) = ((h * 64 % 18446744073709551616 + x : Nat) : Int) := by
  rw [IntKind.wrap_u64, bits_join .u64 64 (by decide) wraps_u64 6 _ _ (by omega) (by omega) (by omega) (by omega) (by omega) (by omega)]
  omega
theorem u64_low (x : Int) (h0 : 0 ≤ x) (h : x < 18446744073709551616) : bits .and .u64 x 0 = 0 ∧ bits .and .u64 x 3 = x % 4 ∧ bits .and .u64 x 15 = x % 16 := by
  have h2 := bits_mask .u64 64 (by decide) wraps_u64 0 (by decide) x h0 (by omega)
  have h3 := bits_mask .u64 64 (by decide) wraps_u64 2 (by decide) x h0 (by omega)
  have h4 := bits_mask .u64 64 (by decide) wraps_u64 4 (by decide) x h0 (by omega)
  rw [show ((2 : Int) ^ 0 - 1) = 0 by decide, show ((2 : Int) ^ 0) = 1 by decide] at h2
  rw [show ((2 : Int) ^ 2 - 1) = 3 by decide, show ((2 : Int) ^ 2) = 4 by decide] at h3
  rw [show ((2 : Int) ^ 4 - 1) = 15 by decide, show ((2 : Int) ^ 4) = 16 by decide] at h4
  exact ⟨by omega, h3, h4⟩
theorem run_at (s : List UInt8) (k : Nat) (h : k < s.length) (w : World) :
    (Instr.index 9 (.string (St s)) (.int .i64 (k : Int))).run Try.prog w = .ok (.int .u8 ((at8 s k).toNat : Int)) w := by
  rw [run_index_string w 9 _ _ _ Try.underlying9, dif_pos (by rw [St_size]; omega)]
  congr 3
  simp only [Int.toNat_natCast, at8, List.getD, List.getElem?_eq_getElem h, Option.getD_some]
  rfl
theorem found_row {w : World} {base : Nat} {v : Value} {t : List UInt8} (h : w.ownsRow base 5 1 v t.length (Bs t)) : ∃ A c, v = .slice A t.length c ∧ t.length ≤ c ∧ (A = none → c = 0) ∧ BytesAt w A t := by
  rcases h.2 with ⟨rfl, h0⟩ | ⟨g, cap, cur, rfl, _, _, h4, _⟩
  · exact ⟨none, 0, by rw [h0], by omega, fun _ => rfl, fun j hj => by omega⟩
  · exact ⟨some ⟨g, 0, none⟩, cap, rfl, h4, fun h => (by cases h), fun j hj => ⟨_, rfl, h.cells (g := g) rfl j _ (Bs_get _ _ hj)⟩⟩

set_option maxHeartbeats 400000 in
set_option maxRecDepth 100000 in
theorem decode_any (way : Bool) (s : List UInt8) (w : World) (hbig : s.length ≤ 1000000) :
    Calls Try.prog 28 #[.string (St s), .string (St (alW way))] w fun e w' => FoundAt (dx way 0 0 s) w w' e := by
  have hsz : (St s).size = s.length := rfl
  have hcall : ∀ (c : UInt8) (w : World), Calls Try.prog 25 #[.string (St (alW way)), .int .u8 (c.toNat : Int)] w fun e w' => e = .returned (.int .i64 ((ix way c).elim (-1) (fun n => (n : Int)))) ∧ w' = w := fun c w => by
    have := Try.strings_IndexByte (St (alW way)) (c.toNat : Int) w
    rw [show (c.toNat : Int).toNat.toUInt8 = c by simp, show (St (alW way)).data.toList = alW way from rfl, ix_idx] at this
    exact this
  have HC := Lib.hid hcall
  clear hcall
  generalize hal : St (alW way) = al at *
  clear hal
  go_enter Try.func28, Try.ntmps28
  go_wp2_with fail
  go_loopw [6, 7, 8, 9, 10, 13] (fun vo vh vb _ _ vi wr => ∃ (k b h : Nat) (r : List UInt8), k ≤ s.length ∧ vi = .int .i64 (k : Int) ∧ vb = .int .i64 (b : Int) ∧ vh = .int .u64 (h : Int) ∧ h < 18446744073709551616 ∧ (b = 0 ∨ b = 2 ∨ b = 4 ∨ b = 6) ∧ r.length ≤ k ∧
    Hid (dx way 0 0 s = (dx way b (h % 2 ^ b) (s.drop k)).map (r ++ ·)) ∧ Below w.heap.size w wr ∧ wr.ownsRow w.heap.size 5 1 vo r.length (Bs r)) (fun _ _ _ _ _ v _ => s.length - (intOf v).toNat)
  case atStart => exact ⟨0, 0, 0, [], by omega, rfl, rfl, rfl, by omega, by omega, by simp, Lib.hid (by simp), Below.refl _ _, ⟨rfl, .inl ⟨rfl, rfl⟩⟩⟩
  case round =>
    obtain ⟨k, b, h, r, hk, rfl, rfl, rfl, hh, hb, hrl, HU, hbel, hown⟩ := hrel
    by_cases hlt : k < s.length
    · have hi := run_at s k hlt
      have HD := Lib.hid (drop_at s k hlt)
      generalize at8 s k = c at *
      generalize hdr : s.drop (k + 1) = dr at *
      have HDR := Lib.hid hdr
      clear hdr
      generalize hn : s.length = n at *
      have HN := Lib.hid hn
      clear hn
      go_wp2_with fail
      refine (HC.out c wr).mono ?_
      rintro e w2 ⟨rfl, rfl⟩
      rw [HD.out, dx] at HU
      clear hi
      cases hc : ix way c with
      | none =>
        rw [hc] at HU
        simp only [Option.elim_none]
        go_wp2_with fail
        go_ret2
        refine ⟨hbel, ?_⟩
        rw [HU.out]
        rfl
      | some v =>
        rw [hc] at HU
        have hv := (ix_at way c v hc).1
        have hx0 : decide ((v : Int) < 0) = false := decide_eq_false (by omega)
        have e1 : IntKind.u64.wrap (v : Int) = (v : Int) := by rw [IntKind.wrap_u64]; omega
        have hor := or_add6 h v hv
        obtain ⟨h', hh'⟩ : ∃ h', h' = h * 64 % 18446744073709551616 + v := ⟨_, rfl⟩
        have hh2 : h' < 18446744073709551616 := by omega
        rw [← hh'] at hor
        have HH' := Lib.hid hh'
        clear hh'
        simp only [Option.elim_some]
        have hq := HU.out
        rw [Option.bind_some] at hq
        have HQ := Lib.hid hq
        clear hq HU
        have hwz := hbel.size
        rcases hb with rfl | rfl | rfl | rfl
        · rw [show ((0 : Nat) : Int) = 0 from rfl]
          go_wp2_with fail
          go_roundw
          case rel =>
            refine ⟨k + 1, 6, h', r, by omega, by go_num, rfl, rfl, hh2, by omega, by omega, ?_, hbel, hown⟩
            have hq := HQ.out
            rw [if_pos rfl] at hq
            rw [show h' % 2 ^ 6 = v by have := HH'.out; omega, HDR.out]
            exact hq
          case measure => simp [intOf]; omega
        · rw [show ((2 : Nat) : Int) = 2 from rfl]
          obtain ⟨y, hy⟩ : ∃ y, y = UInt8.ofNat ((h % 2 ^ 2 * 64 + v) / 2 ^ (2 - 2)) := ⟨_, rfl⟩
          have hyv : (h' : Int) % 256 = (y.toNat : Int) := by
            have := HH'.out
            have : y.toNat = (h % 2 ^ 2 * 64 + v) / 2 ^ (2 - 2) % 256 := by rw [hy]; simp
            omega
          have HY := Lib.hid hy
          clear hy
          go_wp2_with (refine wpList_append_bytes rfl (.tmp 35) (.tmp 40) rfl w.heap.size _ r rfl (hown.alloc _) (some ⟨w2.heap.size, 0, none⟩) [y] 1 rfl (bytes_new _ _ _ (by rw [← hyv])) (fun h => by cases h) (by simp; omega) (by simp; omega) ?_; rintro v' w3 hown' hgrow hnil)
          clear hyv
          go_roundw
          case rel =>
            refine ⟨k + 1, 2 - 2, h', r ++ [y], by omega, by go_num, rfl, rfl, hh2, by omega, by simp; omega, ?_, (hbel.alloc hwz _).grown hgrow (by simp; omega) (fun k hk => (hown.lt k hk).1), by simpa [Bs] using hown'⟩
            have hq := HQ.out
            rw [if_neg (by decide), ← HY.out] at hq
            rw [show h' % 2 ^ (2 - 2) = (h % 2 ^ 2 * 64 + v) % 2 ^ (2 - 2) by have := HH'.out; omega, HDR.out]
            show dx way 0 0 s = _
            rw [hq]
            cases dx way (2 - 2) ((h % 2 ^ 2 * 64 + v) % 2 ^ (2 - 2)) dr <;> simp
          case measure => simp [intOf]; omega
        · rw [show ((4 : Nat) : Int) = 4 from rfl]
          obtain ⟨y, hy⟩ : ∃ y, y = UInt8.ofNat ((h % 2 ^ 4 * 64 + v) / 2 ^ (4 - 2)) := ⟨_, rfl⟩
          have hyv : (h' : Int) / 4 % 256 = (y.toNat : Int) := by
            have := HH'.out
            have : y.toNat = (h % 2 ^ 4 * 64 + v) / 2 ^ (4 - 2) % 256 := by rw [hy]; simp
            omega
          have HY := Lib.hid hy
          clear hy
          go_wp2_with (refine wpList_append_bytes rfl (.tmp 35) (.tmp 40) rfl w.heap.size _ r rfl (hown.alloc _) (some ⟨w2.heap.size, 0, none⟩) [y] 1 rfl (bytes_new _ _ _ (by rw [← hyv])) (fun h => by cases h) (by simp; omega) (by simp; omega) ?_; rintro v' w3 hown' hgrow hnil)
          clear hyv
          go_roundw
          case rel =>
            refine ⟨k + 1, 4 - 2, h', r ++ [y], by omega, by go_num, rfl, rfl, hh2, by omega, by simp; omega, ?_, (hbel.alloc hwz _).grown hgrow (by simp; omega) (fun k hk => (hown.lt k hk).1), by simpa [Bs] using hown'⟩
            have hq := HQ.out
            rw [if_neg (by decide), ← HY.out] at hq
            rw [show h' % 2 ^ (4 - 2) = (h % 2 ^ 4 * 64 + v) % 2 ^ (4 - 2) by have := HH'.out; omega, HDR.out]
            show dx way 0 0 s = _
            rw [hq]
            cases dx way (4 - 2) ((h % 2 ^ 4 * 64 + v) % 2 ^ (4 - 2)) dr <;> simp
          case measure => simp [intOf]; omega
        · rw [show ((6 : Nat) : Int) = 6 from rfl]
          obtain ⟨y, hy⟩ : ∃ y, y = UInt8.ofNat ((h % 2 ^ 6 * 64 + v) / 2 ^ (6 - 2)) := ⟨_, rfl⟩
          have hyv : (h' : Int) / 16 % 256 = (y.toNat : Int) := by
            have := HH'.out
            have : y.toNat = (h % 2 ^ 6 * 64 + v) / 2 ^ (6 - 2) % 256 := by rw [hy]; simp
            omega
          have HY := Lib.hid hy
          clear hy
          go_wp2_with (refine wpList_append_bytes rfl (.tmp 35) (.tmp 40) rfl w.heap.size _ r rfl (hown.alloc _) (some ⟨w2.heap.size, 0, none⟩) [y] 1 rfl (bytes_new _ _ _ (by rw [← hyv])) (fun h => by cases h) (by simp; omega) (by simp; omega) ?_; rintro v' w3 hown' hgrow hnil)
          clear hyv
          go_roundw
          case rel =>
            refine ⟨k + 1, 6 - 2, h', r ++ [y], by omega, by go_num, rfl, rfl, hh2, by omega, by simp; omega, ?_, (hbel.alloc hwz _).grown hgrow (by simp; omega) (fun k hk => (hown.lt k hk).1), by simpa [Bs] using hown'⟩
            have hq := HQ.out
            rw [if_neg (by decide), ← HY.out] at hq
            rw [show h' % 2 ^ (6 - 2) = (h % 2 ^ 6 * 64 + v) % 2 ^ (6 - 2) by have := HH'.out; omega, HDR.out]
            show dx way 0 0 s = _
            rw [hq]
            cases dx way (6 - 2) ((h % 2 ^ 6 * 64 + v) % 2 ^ (6 - 2)) dr <;> simp
          case measure => simp [intOf]; omega
    · obtain rfl : k = s.length := by omega
      rw [List.drop_of_length_le (Nat.le_refl _), dx] at HU
      obtain ⟨A, c, rfl, hc1, hc2, hc3⟩ := found_row hown
      have hc2' := Lib.hid hc2
      clear hc2 hown
      obtain ⟨m0, m3, m15⟩ := u64_low (h : Int) (by omega) (by omega)
      generalize s.length = n at *
      rcases hb with rfl | rfl | rfl | rfl
      · rw [show ((0 : Nat) : Int) = 0 from rfl]
        have hz : h % 2 ^ 0 = 0 := by omega
        have HZ := Lib.hid hz
        clear hz
        go_wp2_with fail
        go_ret2
        refine ⟨hbel, ?_⟩
        rw [HU.out, HZ.out, if_neg (by decide), Option.map_some, List.append_nil]
        exact ⟨A, c, rfl, hc1, hc2'.out, hc3⟩
      · rw [show ((2 : Nat) : Int) = 2 from rfl]
        by_cases hz : h % 2 ^ 2 = 0
        · have hd : ((h : Int) % 4 != 0) = false := by rw [bne_eq_false_iff_eq]; omega
          have HZ := Lib.hid hz
          clear hz
          go_wp2_with fail
          go_ret2
          refine ⟨hbel, ?_⟩
          rw [HU.out, HZ.out, if_neg (by decide), Option.map_some, List.append_nil]
          exact ⟨A, c, rfl, hc1, hc2'.out, hc3⟩
        · have hd : ((h : Int) % 4 != 0) = true := by rw [bne_iff_ne]; omega
          have HZ := Lib.hid hz
          clear hz
          go_wp2_with fail
          go_ret2
          refine ⟨hbel, ?_⟩
          rw [HU.out, if_pos (Or.inr HZ.out)]
          rfl
      · rw [show ((4 : Nat) : Int) = 4 from rfl]
        by_cases hz : h % 2 ^ 4 = 0
        · have hd : ((h : Int) % 16 != 0) = false := by rw [bne_eq_false_iff_eq]; omega
          have HZ := Lib.hid hz
          clear hz
          go_wp2_with fail
          go_ret2
          refine ⟨hbel, ?_⟩
          rw [HU.out, HZ.out, if_neg (by decide), Option.map_some, List.append_nil]
          exact ⟨A, c, rfl, hc1, hc2'.out, hc3⟩
        · have hd : ((h : Int) % 16 != 0) = true := by rw [bne_iff_ne]; omega
          have HZ := Lib.hid hz
          clear hz
          go_wp2_with fail
          go_ret2
          refine ⟨hbel, ?_⟩
          rw [HU.out, if_pos (Or.inr HZ.out)]
          rfl
      · rw [show ((6 : Nat) : Int) = 6 from rfl]
        go_wp2_with fail
        go_ret2
        refine ⟨hbel, ?_⟩
        rw [HU.out, if_pos (Or.inl (by decide))]
        rfl

set_option maxHeartbeats 400000 in
set_option maxRecDepth 100000 in
theorem unurl_any (s : List UInt8) (w : World) (hbig : s.length ≤ 1000000) :
    Calls Try.prog 18 #[.string (St s)] w fun e w' => FoundAt (dx true 0 0 s) w w' e := by
  have h := decode_any true s w hbig
  have H := Lib.hid h
  clear h
  generalize dx true 0 0 s = o at *
  go_enter Try.func18, Try.ntmps18
  go_wp2_with fail
  refine H.out.mono ?_
  rintro e w1 ⟨hb, he⟩
  cases o with
  | none =>
    simp only at he
    subst he
    go_wp2_with fail
    go_ret2
    exact ⟨hb, rfl⟩
  | some b =>
    simp only at he
    obtain ⟨A, c, rfl, h1, h2, h3⟩ := he
    have H2 := Lib.hid h2
    clear h2
    go_wp2_with fail
    go_ret2
    exact ⟨hb, A, c, rfl, h1, H2.out, h3⟩
/-- a text without its last sign, if that is the filler -/
def trim1 (s : List UInt8) : List UInt8 := Lib.trimSuffix s [61]
/-- what the program's Unbase finds -/
def ubase (s : List UInt8) : Option (List UInt8) := if s.length % 4 = 0 then dx false 0 0 (trim1 (trim1 s)) else none
theorem trim1_len (s : List UInt8) : (trim1 s).length ≤ s.length := by
  unfold trim1 Lib.trimSuffix
  split
  · rw [List.length_take]; omega
  · omega

set_option maxHeartbeats 400000 in
set_option maxRecDepth 100000 in
theorem unbase_any (s : List UInt8) (w : World) (hbig : s.length ≤ 1000000) :
    Calls Try.prog 16 #[.string (St s)] w fun e w' => FoundAt (ubase s) w w' e := by
  have hsz : (St s).size = s.length := rfl
  have htl := St_toList
  by_cases h4 : s.length % 4 = 0
  · have hd : ((s.length : Int) % 4 != 0) = false := by rw [bne_eq_false_iff_eq]; omega
    have h1 : ∀ (s : List UInt8), s.length ≤ 1000000 → ∀ w, Calls Try.prog 27 #[.string (St s), .string (St [61])] w fun e w' => e = .returned (.string (St (trim1 s))) ∧ w' = w := fun s hs w => Try.strings_TrimSuffix (St s) (St [61]) w (by rw [St_size]; omega)
    have h := decode_any false (trim1 (trim1 s)) w (by have := trim1_len s; have := trim1_len (trim1 s); omega)
    rw [show dx false 0 0 (trim1 (trim1 s)) = ubase s by rw [ubase, if_pos h4]] at h
    have H := Lib.hid h; have H1 := Lib.hid (h1 s hbig); have H2 := Lib.hid (h1 (trim1 s) (by have := trim1_len s; omega))
    clear h h1 h4
    generalize trim1 (trim1 s) = u at *
    generalize trim1 s = t at *
    generalize ubase s = o at *
    generalize s.length = n at *
    go_enter Try.func16, Try.ntmps16
    go_wp2_with fail
    refine (H1.out w).mono ?_
    rintro e w1 ⟨rfl, rfl⟩
    go_wp2_with fail
    refine (H2.out w1).mono ?_
    rintro e w1 ⟨rfl, rfl⟩
    go_wp2_with fail
    refine H.out.mono ?_
    rintro e w1 ⟨hb, he⟩
    cases o with
    | none =>
      simp only at he
      subst he
      go_wp2_with fail
      go_ret2
      exact ⟨hb, rfl⟩
    | some b =>
      simp only at he
      obtain ⟨A, c, rfl, h1, h2, h3⟩ := he
      have H2 := Lib.hid h2
      clear h2
      go_wp2_with fail
      go_ret2
      exact ⟨hb, A, c, rfl, h1, H2.out, h3⟩
  · have hd : ((s.length : Int) % 4 != 0) = true := by rw [bne_iff_ne]; omega
    have HN := Lib.hid (show ubase s = none by rw [ubase, if_neg h4])
    clear h4
    go_enter Try.func16, Try.ntmps16
    go_wp2_with fail
    go_ret2
    refine ⟨Below.refl _ _, ?_⟩
    rw [HN.out]
    rfl

set_option maxHeartbeats 400000 in
set_option maxRecDepth 100000 in
theorem eqb_any (a b : List UInt8) (A B : Option Addr) (c d : Nat) (w : World) (hA : BytesAt w A a) (hB : BytesAt w B b) :
    Calls Try.prog 19 #[.slice A a.length c, .slice B b.length d] w fun e w' => e = .returned (.bool (a == b)) ∧ w' = w := by
  have h1 := str_bytes w A a c hA
  have h2 := str_bytes w B b d hB
  clear hA hB
  generalize a.length = n at *
  generalize b.length = m at *
  go_enter Try.func19, Try.ntmps19
  go_wp2_with fail
  go_ret
  show Ending.returned (.bool ((St a).toList == (St b).toList)) = _ ∧ _
  rw [St_toList, St_toList]
  exact ⟨rfl, rfl⟩
end Go.Proofs.Ytbioclpobmgikaa
