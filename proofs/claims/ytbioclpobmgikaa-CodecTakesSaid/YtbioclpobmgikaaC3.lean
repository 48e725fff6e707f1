/- Base64 by plain lists, six bits a sign; the walk of the program's encode. -/
import Derived.Test.YtbioclpobmgikaaC2
namespace Go.Proofs.Ytbioclpobmgikaa
open Go.RowKit

/-- the signs' numbers of bytes; b bits are held, p of them -/
def sx : Nat → Nat → List UInt8 → List Nat
  | b, p, [] => if b = 0 then [] else if b = 2 then [p * 16] else [p * 4]
  | b, p, x :: t => if b = 0 then x.toNat / 4 :: sx 2 (x.toNat % 4) t else if b = 2 then (p * 16 + x.toNat / 16) :: sx 4 (x.toNat % 16) t else (p * 4 + x.toNat / 64) :: x.toNat % 64 :: sx 0 0 t
theorem sx0 (p : Nat) (x : UInt8) (t : List UInt8) : sx 0 p (x :: t) = x.toNat / 4 :: sx 2 (x.toNat % 4) t := by rw [sx]; rfl
theorem sx2 (p : Nat) (x : UInt8) (t : List UInt8) : sx 2 p (x :: t) = (p * 16 + x.toNat / 16) :: sx 4 (x.toNat % 16) t := by rw [sx]; rfl
theorem sx4 (p : Nat) (x : UInt8) (t : List UInt8) : sx 4 p (x :: t) = (p * 4 + x.toNat / 64) :: x.toNat % 64 :: sx 0 0 t := by rw [sx]; rfl
def signs (al : List UInt8) (ns : List Nat) : List UInt8 := ns.map fun n => at8 al n
theorem signs_append (al : List UInt8) (a b : List Nat) : signs al (a ++ b) = signs al a ++ signs al b := by simp [signs]
theorem signs_length (al : List UInt8) (a : List Nat) : (signs al a).length = a.length := by simp [signs]
theorem drop_at (l : List UInt8) (k : Nat) (h : k < l.length) : l.drop k = at8 l k :: l.drop (k + 1) := by
  rw [List.drop_eq_getElem_cons h]
  simp [at8, List.getD, h]
theorem run_letter (al : List UInt8) (ha : al.length = 64) (e : Nat) (h : e < 64) (v : Int) (hv : v = (e : Int)) (w : World) :
    (Instr.index 9 (.string (St al)) (.int .u64 v)).run Try.prog w = .ok (.int .u8 ((at8 al e).toNat : Int)) w := by
  subst hv
  have h2 : e < al.length := by omega
  rw [run_index_string w 9 _ _ _ Try.underlying9, dif_pos (by rw [St_size]; omega)]
  congr 3
  simp only [Int.toNat_natCast, at8, List.getD, List.getElem?_eq_getElem h2, Option.getD_some]
  rfl
theorem u64_low6 (x : Int) (h0 : 0 ≤ x) (h : x < 18446744073709551616) : bits .and .u64 x 63 = x % 64 := by
  have := bits_mask .u64 64 (by decide) wraps_u64 6 (by decide) x h0 (by omega)
  rwa [show ((2 : Int) ^ 6 - 1) = 63 by decide, show ((2 : Int) ^ 6) = 64 by decide] at this
theorem or_add8 (h x : Nat) (hx : x < 256) : bits .or .u64 (IntKind.u64.wrap ((h : Int) * 256)) (x : Int) = ((h * 256 % 18446744073709551616 + x : Nat) : Int) := by
  rw [IntKind.wrap_u64, bits_join .u64 64 (by decide) wraps_u64 8 _ _ (by omega) (by omega) (by omega) (by omega) (by omega) (by omega)]
  omega

set_option maxHeartbeats 400000 in
set_option maxRecDepth 100000 in
theorem enc_any (al l : List UInt8) (A : Option Addr) (c : Nat) (w : World) (hal : al.length = 64) (hby : BytesAt w A l) (hbig : l.length ≤ 1000000) :
    Calls Try.prog 22 #[.slice A l.length c, .string (St al)] w fun e w' => e = .returned (.string (St (signs al (sx 0 0 l)))) ∧ Below w.heap.size w w' := by
  have HBY := Lib.hid hby
  clear hby
  have hst := Blt.start w
  go_enter Try.func22, Try.ntmps22
  go_wp2_with fail
  go_loopw [6, 7, 9, 12] (fun vh vb _ v wr => ∃ (k b h : Nat) (t : List Nat), k ≤ l.length ∧ v = .int .i64 (k : Int) ∧ vb = .int .i64 (b : Int) ∧ vh = .int .u64 (h : Int) ∧ h < 18446744073709551616 ∧ (b = 0 ∨ b = 2 ∨ b = 4) ∧ Blt w wr w.heap.size (signs al t) ∧ t.length ≤ 2 * k ∧
    t ++ sx b (h % 2 ^ b) (l.drop k) = sx 0 0 l) (fun _ _ _ v _ => l.length - (intOf v).toNat)
  case atStart => exact ⟨0, 0, 0, [], by omega, rfl, rfl, rfl, by omega, by omega, hst, by simp, by simp⟩
  case round =>
    clear hst
    obtain ⟨k, b, h, t, hk, rfl, rfl, rfl, hh, hb, hB, htl, heq⟩ := hrel
    have HEQ := Lib.hid heq
    clear heq
    by_cases hlt : k < l.length
    · obtain ⟨a, rfl, hc⟩ := HBY.out k hlt
      have gc : wr.cell? (a.add k) = some (.int .u8 ((at8 l k).toNat : Int)) := (hB.below.cell (p := a.add k) (World.block_lt_of_cell? w _ hc)).trans hc
      have hx8 := (at8 l k).toNat_lt
      have HD := Lib.hid (drop_at l k hlt)
      clear hc
      generalize at8 l k = x at *
      generalize hdr : l.drop (k + 1) = dr at *
      have HDR := Lib.hid hdr
      clear hdr
      generalize hn : l.length = n at *
      have hor := or_add8 h x.toNat hx8
      obtain ⟨h', hh'⟩ : ∃ h', h' = h * 256 % 18446744073709551616 + x.toNat := ⟨_, rfl⟩
      have hh2 : h' < 18446744073709551616 := by omega
      rw [← hh'] at hor
      have HH' := Lib.hid hh'
      clear hh'
      rcases hb with rfl | rfl | rfl
      · rw [show ((0 : Nat) : Int) = 0 from rfl]
        go_wp2_with fail
        go_loopw [7] (fun v wr => (v = .int .i64 8 ∧ Blt w wr w.heap.size (signs al (t))) ∨ (v = .int .i64 2 ∧ Blt w wr w.heap.size (signs al (t ++ [h' / 4 % 64])))) (fun v _ => (intOf v).toNat)
        case atStart => exact Or.inl ⟨rfl, hB⟩
        case round =>
          clear hB gc
          rcases hrel with ⟨rfl, hB⟩ | ⟨rfl, hB⟩
          · have hlow : bits .and .u64 ((h' : Int) / 4) 63 = (h' : Int) / 4 % 64 := u64_low6 _ (by omega) (by omega)
            have hix := run_letter al hal (h' / 4 % 64) (by omega) ((h' : Int) / 4 % 64) (by omega)
            go_wp2_with fail
            refine (putByte w wr w.heap.size _ (at8 al (h' / 4 % 64)) hB (by rw [signs_length]; simp; omega)).mono ?_
            rintro e w3 ⟨rfl, hB3⟩
            rw [show signs al (t) ++ [at8 al (h' / 4 % 64)] = signs al (t ++ [h' / 4 % 64]) by simp [signs]] at hB3
            go_wp2_with fail
            go_roundw
            case rel => exact Or.inr ⟨rfl, hB3⟩
            case measure => simp [intOf]
          · go_wp2_with fail
            go_roundw
            case rel =>
              refine ⟨k + 1, 2, h', t ++ [h' / 4 % 64], by omega, by go_num, rfl, rfl, hh2, by omega, hB, by simp; omega, ?_⟩
              have hq := HEQ.out
              rw [HD.out, sx0] at hq
              rw [← hq]
              have hx' := HH'.out
              rw [List.append_assoc]
              simp only [List.cons_append, List.nil_append]
              congr 1
              rw [HDR.out, show h' / 4 % 64 = x.toNat / 4 by omega, show h' % 2 ^ 2 = x.toNat % 4 by omega]
            case measure => simp [intOf]; omega
      · rw [show ((2 : Nat) : Int) = 2 from rfl]
        go_wp2_with fail
        go_loopw [7] (fun v wr => (v = .int .i64 10 ∧ Blt w wr w.heap.size (signs al (t))) ∨ (v = .int .i64 4 ∧ Blt w wr w.heap.size (signs al (t ++ [h' / 16 % 64])))) (fun v _ => (intOf v).toNat)
        case atStart => exact Or.inl ⟨rfl, hB⟩
        case round =>
          clear hB gc
          rcases hrel with ⟨rfl, hB⟩ | ⟨rfl, hB⟩
          · have hlow : bits .and .u64 ((h' : Int) / 16) 63 = (h' : Int) / 16 % 64 := u64_low6 _ (by omega) (by omega)
            have hix := run_letter al hal (h' / 16 % 64) (by omega) ((h' : Int) / 16 % 64) (by omega)
            go_wp2_with fail
            refine (putByte w wr w.heap.size _ (at8 al (h' / 16 % 64)) hB (by rw [signs_length]; simp; omega)).mono ?_
            rintro e w3 ⟨rfl, hB3⟩
            rw [show signs al (t) ++ [at8 al (h' / 16 % 64)] = signs al (t ++ [h' / 16 % 64]) by simp [signs]] at hB3
            go_wp2_with fail
            go_roundw
            case rel => exact Or.inr ⟨rfl, hB3⟩
            case measure => simp [intOf]
          · go_wp2_with fail
            go_roundw
            case rel =>
              refine ⟨k + 1, 4, h', t ++ [h' / 16 % 64], by omega, by go_num, rfl, rfl, hh2, by omega, hB, by simp; omega, ?_⟩
              have hq := HEQ.out
              rw [HD.out, sx2] at hq
              rw [← hq]
              have hx' := HH'.out
              rw [List.append_assoc]
              simp only [List.cons_append, List.nil_append]
              congr 1
              rw [HDR.out, show h' / 16 % 64 = h % 2 ^ 2 * 16 + x.toNat / 16 by omega, show h' % 2 ^ 4 = x.toNat % 16 by omega]
            case measure => simp [intOf]; omega
      · rw [show ((4 : Nat) : Int) = 4 from rfl]
        go_wp2_with fail
        go_loopw [7] (fun v wr => (v = .int .i64 12 ∧ Blt w wr w.heap.size (signs al (t))) ∨ (v = .int .i64 6 ∧ Blt w wr w.heap.size (signs al (t ++ [h' / 64 % 64]))) ∨ (v = .int .i64 0 ∧ Blt w wr w.heap.size (signs al (t ++ [h' / 64 % 64, h' % 64])))) (fun v _ => (intOf v).toNat)
        case atStart => exact Or.inl ⟨rfl, hB⟩
        case round =>
          clear hB gc
          rcases hrel with ⟨rfl, hB⟩ | ⟨rfl, hB⟩ | ⟨rfl, hB⟩
          · have hlow : bits .and .u64 ((h' : Int) / 64) 63 = (h' : Int) / 64 % 64 := u64_low6 _ (by omega) (by omega)
            have hix := run_letter al hal (h' / 64 % 64) (by omega) ((h' : Int) / 64 % 64) (by omega)
            go_wp2_with fail
            refine (putByte w wr w.heap.size _ (at8 al (h' / 64 % 64)) hB (by rw [signs_length]; simp; omega)).mono ?_
            rintro e w3 ⟨rfl, hB3⟩
            rw [show signs al (t) ++ [at8 al (h' / 64 % 64)] = signs al (t ++ [h' / 64 % 64]) by simp [signs]] at hB3
            go_wp2_with fail
            go_roundw
            case rel => exact Or.inr (Or.inl ⟨rfl, hB3⟩)
            case measure => simp [intOf]
          · have hlow : bits .and .u64 ((h' : Int)) 63 = (h' : Int) % 64 := u64_low6 _ (by omega) (by omega)
            have hix := run_letter al hal (h' % 64) (by omega) ((h' : Int) % 64) (by omega)
            go_wp2_with fail
            refine (putByte w wr w.heap.size _ (at8 al (h' % 64)) hB (by rw [signs_length]; simp; omega)).mono ?_
            rintro e w3 ⟨rfl, hB3⟩
            rw [show signs al (t ++ [h' / 64 % 64]) ++ [at8 al (h' % 64)] = signs al (t ++ [h' / 64 % 64, h' % 64]) by simp [signs]] at hB3
            go_wp2_with fail
            go_roundw
            case rel => exact Or.inr (Or.inr ⟨rfl, hB3⟩)
            case measure => simp [intOf]
          · go_wp2_with fail
            go_roundw
            case rel =>
              refine ⟨k + 1, 0, h', t ++ [h' / 64 % 64, h' % 64], by omega, by go_num, rfl, rfl, hh2, by omega, hB, by simp; omega, ?_⟩
              have hq := HEQ.out
              rw [HD.out, sx4] at hq
              rw [← hq]
              have hx' := HH'.out
              rw [List.append_assoc]
              simp only [List.cons_append, List.nil_append]
              congr 1
              rw [HDR.out, show h' / 64 % 64 = h % 2 ^ 4 * 4 + x.toNat / 64 by omega, show h' % 64 = x.toNat % 64 by omega, show h' % 2 ^ 0 = 0 by omega]
            case measure => simp [intOf]; omega
    · obtain rfl : k = l.length := by omega
      have hq := HEQ.out
      rw [List.drop_of_length_le (Nat.le_refl _), sx] at hq
      have hsz := hB.below.size
      clear HEQ
      rcases hb with rfl | rfl | rfl
      · rw [if_pos rfl, List.append_nil] at hq
        have HQ := Lib.hid hq
        rw [show ((0 : Nat) : Int) = 0 from rfl]
        clear hq hlt hk
        generalize l.length = n at *
        go_wp2_with fail
        refine (Try.Builder_String_any _ _ (signs al t) _ hB.is hsz).mono ?_
        rintro e w2 ⟨rfl, hb2⟩
        have hb3 := hB.below.trans hb2
        go_wp2_with fail
        go_ret
        exact ⟨by rw [← HQ.out]; rfl, hb3⟩
      · rw [if_neg (by decide), if_pos rfl] at hq
        have hq2 : signs al t ++ [at8 al (h % 2 ^ 2 * 16)] = signs al (sx 0 0 l) := by rw [← hq, signs_append]; rfl
        have HQ := Lib.hid hq2
        clear hq2
        rw [show ((2 : Nat) : Int) = 2 from rfl]
        clear hq hlt hk
        generalize l.length = n at *
        have hlow : bits .and .u64 (IntKind.u64.wrap ((h : Int) * 16)) 63 = (h : Int) % 4 * 16 := by
          rw [IntKind.wrap_u64, u64_low6 _ (by omega) (by omega)]; omega
        have hix := run_letter al hal (h % 2 ^ 2 * 16) (by omega) ((h : Int) % 4 * 16) (by omega)
        generalize h % 2 ^ 2 * 16 = e at *
        go_wp2_with fail
        refine (putByte w wr w.heap.size _ (at8 al e) hB (by rw [signs_length]; omega)).mono ?_
        rintro e2 w3 ⟨rfl, hB3⟩
        have hsz := hB3.below.size
        go_wp2_with fail
        refine (Try.Builder_String_any _ _ (signs al t ++ [at8 al e]) _ hB3.is hsz).mono ?_
        rintro e w2 ⟨rfl, hb2⟩
        have hb3 := hB3.below.trans hb2
        go_wp2_with fail
        go_ret
        exact ⟨by rw [← HQ.out]; rfl, hb3⟩
      · rw [if_neg (by decide), if_neg (by decide)] at hq
        have hq2 : signs al t ++ [at8 al (h % 2 ^ 4 * 4)] = signs al (sx 0 0 l) := by rw [← hq, signs_append]; rfl
        have HQ := Lib.hid hq2
        clear hq2
        rw [show ((4 : Nat) : Int) = 4 from rfl]
        clear hq hlt hk
        generalize l.length = n at *
        have hlow : bits .and .u64 (IntKind.u64.wrap ((h : Int) * 4)) 63 = (h : Int) % 16 * 4 := by
          rw [IntKind.wrap_u64, u64_low6 _ (by omega) (by omega)]; omega
        have hix := run_letter al hal (h % 2 ^ 4 * 4) (by omega) ((h : Int) % 16 * 4) (by omega)
        generalize h % 2 ^ 4 * 4 = e at *
        go_wp2_with fail
        refine (putByte w wr w.heap.size _ (at8 al e) hB (by rw [signs_length]; omega)).mono ?_
        rintro e2 w3 ⟨rfl, hB3⟩
        have hsz := hB3.below.size
        go_wp2_with fail
        refine (Try.Builder_String_any _ _ (signs al t ++ [at8 al e]) _ hB3.is hsz).mono ?_
        rintro e w2 ⟨rfl, hb2⟩
        have hb3 := hB3.below.trans hb2
        go_wp2_with fail
        go_ret
        exact ⟨by rw [← HQ.out]; rfl, hb3⟩
end Go.Proofs.Ytbioclpobmgikaa
