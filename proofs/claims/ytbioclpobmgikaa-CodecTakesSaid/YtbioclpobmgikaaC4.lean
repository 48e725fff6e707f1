/- Base64: the program's two ways, by plain lists; the laws' fixed fact, and the law on sizes: walks. -/
import Derived.Test.YtbioclpobmgikaaC3
namespace Go.Proofs.Ytbioclpobmgikaa
open Go.RowKit

def alP : List UInt8 := [65, 66, 67, 68, 69, 70, 71, 72, 73, 74, 75, 76, 77, 78, 79, 80, 81, 82, 83, 84, 85, 86, 87, 88, 89, 90, 97, 98, 99, 100, 101, 102, 103, 104, 105, 106, 107, 108, 109, 110, 111, 112, 113, 114, 115, 116, 117, 118, 119, 120, 121, 122, 48, 49, 50, 51, 52, 53, 54, 55, 56, 57, 43, 47]
def alU : List UInt8 := [65, 66, 67, 68, 69, 70, 71, 72, 73, 74, 75, 76, 77, 78, 79, 80, 81, 82, 83, 84, 85, 86, 87, 88, 89, 90, 97, 98, 99, 100, 101, 102, 103, 104, 105, 106, 107, 108, 109, 110, 111, 112, 113, 114, 115, 116, 117, 118, 119, 120, 121, 122, 48, 49, 50, 51, 52, 53, 54, 55, 56, 57, 45, 95]
def urlL (l : List UInt8) : List UInt8 := signs alU (sx 0 0 l)
def padN (n : Nat) : Nat := (4 - n % 4) % 4
def baseL (l : List UInt8) : List UInt8 := signs alP (sx 0 0 l) ++ List.replicate (padN (sx 0 0 l).length) 61
theorem sx_p (p q : Nat) (l : List UInt8) : sx 0 p l = sx 0 q l := by cases l <;> rfl
theorem sx_len : ∀ (l : List UInt8) (b p : Nat), (b = 0 ∨ b = 2 ∨ b = 4) → (sx b p l).length = (8 * l.length + b + 5) / 6
  | [], b, p, h => by rcases h with rfl | rfl | rfl <;> rfl
  | x :: t, b, p, h => by
    rcases h with rfl | rfl | rfl
    · rw [sx0, List.length_cons, sx_len t 2 _ (by omega), List.length_cons]; omega
    · rw [sx2, List.length_cons, sx_len t 4 _ (by omega), List.length_cons]; omega
    · rw [sx4, List.length_cons, List.length_cons, sx_len t 0 _ (by omega), List.length_cons]; omega
theorem sx_app : ∀ (a b : List UInt8) (p : Nat), a.length % 3 = 0 → sx 0 p (a ++ b) = sx 0 p a ++ sx 0 0 b
  | [], b, p, _ => by rw [List.nil_append, sx_p p 0 b]; rfl
  | [_], _, _, h => by simp at h
  | [_, _], _, _, h => by simp at h
  | x :: y :: z :: t, b, p, h => by
    simp only [List.cons_append]
    rw [sx0, sx2, sx4, sx0, sx2, sx4, sx_app t b 0 (by simp at h; omega)]
    simp
theorem padN_zero (l : List UInt8) (h : l.length % 3 = 0) : padN (sx 0 0 l).length = 0 := by
  rw [sx_len l 0 0 (by omega), padN]; omega
theorem url_len (l : List UInt8) : (urlL l).length = (l.length * 8 + 5) / 6 := by
  rw [urlL, signs_length, sx_len l 0 0 (by omega)]; congr 1; omega
theorem base_len (l : List UInt8) : (baseL l).length = (l.length + 2) / 3 * 4 := by
  rw [baseL, List.length_append, List.length_replicate, signs_length, padN, sx_len l 0 0 (by omega)]; omega
theorem url_app (a b : List UInt8) (h : a.length % 3 = 0) : urlL a ++ urlL b = urlL (a ++ b) := by
  rw [urlL, urlL, urlL, sx_app a b 0 h, signs_append]
theorem base_app (a b : List UInt8) (h : a.length % 3 = 0) : baseL a ++ baseL b = baseL (a ++ b) := by
  have hl : (sx 0 0 (a ++ b)).length % 4 = (sx 0 0 b).length % 4 := by
    rw [sx_len _ 0 0 (by omega), sx_len _ 0 0 (by omega), List.length_append]
    obtain ⟨q, hq⟩ : ∃ q, a.length = 3 * q := ⟨a.length / 3, by omega⟩
    rw [hq, show 8 * (3 * q + b.length) + 0 + 5 = 8 * b.length + 0 + 5 + 6 * (4 * q) by omega, Nat.add_mul_div_left _ _ (by omega)]
    omega
  rw [baseL, baseL, baseL, padN_zero a h, sx_app a b 0 h, signs_append]
  rw [sx_app a b 0 h] at hl
  simp only [List.replicate_zero, List.append_nil, List.append_assoc]
  rw [padN, padN, hl]

set_option maxHeartbeats 400000 in
set_option maxRecDepth 100000 in
theorem url_any (l : List UInt8) (A : Option Addr) (c : Nat) (w : World) (hby : BytesAt w A l) (hbig : l.length ≤ 1000000) :
    Calls Try.prog 12 #[.slice A l.length c] w fun e w' => e = .returned (.string (St (urlL l))) ∧ Below w.heap.size w w' := by
  have h := enc_any alU l A c w rfl hby hbig
  have H := Lib.hid h
  clear h hby
  go_enter Try.func12, Try.ntmps12
  go_wp2_with fail
  refine H.out.mono ?_
  rintro e w1 ⟨rfl, hb1⟩
  go_wp2_with fail
  go_ret
  exact ⟨rfl, hb1⟩
theorem repeat_fill (c : Nat) : Lib.repeatL [61] c = List.replicate c 61 := by
  induction c with
  | zero => rfl
  | succ c ih => rw [Lib.repeatL, ih]; rfl

set_option maxHeartbeats 400000 in
set_option maxRecDepth 100000 in
theorem base_any (l : List UInt8) (A : Option Addr) (c : Nat) (w : World) (hby : BytesAt w A l) (hbig : l.length ≤ 1000000) :
    Calls Try.prog 10 #[.slice A l.length c] w fun e w' => e = .returned (.string (St (baseL l))) ∧ Below w.heap.size w w' := by
  have h := enc_any alP l A c w rfl hby hbig
  have hsl : (signs alP (sx 0 0 l)).length = (sx 0 0 l).length := signs_length _ _
  have hsl2 := sx_len l 0 0 (by omega)
  have hadd := add_St (signs alP (sx 0 0 l)) (List.replicate (padN (sx 0 0 l).length) 61) (by rw [hsl, hsl2, List.length_replicate, padN]; omega)
  rw [show signs alP (sx 0 0 l) ++ List.replicate (padN (sx 0 0 l).length) 61 = baseL l from rfl] at hadd
  have hsz : (St (signs alP (sx 0 0 l))).size = (sx 0 0 l).length := hsl
  have hpn : ((4 : Int) - ((sx 0 0 l).length : Int) % 4) % 4 = (padN (sx 0 0 l).length : Nat) := by rw [padN]; omega
  have hpb : padN (sx 0 0 l).length < 4 := by rw [padN]; omega
  have hrep : ∀ w, Calls Try.prog 23 #[.string (St [61]), .int .i64 (padN (sx 0 0 l).length : Nat)] w fun e w' => e = .returned (.string (St (List.replicate (padN (sx 0 0 l).length) 61))) ∧ Below w.heap.size w w' := fun w => by
    have := Try.strings_Repeat (St [61]) (padN (sx 0 0 l).length) w (by omega) (by rw [St_size]; simp; omega)
    rw [show (St [61]).data.toList = [61] from rfl, repeat_fill] at this
    exact this
  have HREP := Lib.hid hrep; have H := Lib.hid h
  clear h hby hrep hsl hsl2
  generalize signs alP (sx 0 0 l) = s at *
  generalize baseL l = res at *
  generalize (sx 0 0 l).length = m at *
  go_enter Try.func10, Try.ntmps10
  go_wp2_with fail
  refine H.out.mono ?_
  rintro e w1 ⟨rfl, hb1⟩
  go_wp2_with fail
  refine (HREP.out _).mono ?_
  rintro e w2 ⟨rfl, hb2⟩
  go_wp2_with fail
  go_ret
  exact ⟨rfl, hb1.trans (hb2.mono hb1.size)⟩

set_option maxHeartbeats 400000 in
set_option maxRecDepth 100000 in
theorem alive2_any (w : World) : Calls Try.prog 7 #[] w fun e w' => e = .returned (.bool true) ∧ Below w.heap.size w w' := by
  have htl : ∀ l, (St l).toList = l := fun l => ByteArray.toList_mk l
  have hb0 : Below w.heap.size w (w.alloc (.cells #[.int .u8 102, .int .u8 111] 5)) := (Below.refl _ _).alloc (Nat.le_refl _) _
  have hby : ∀ W, Below (w.alloc (.cells #[.int .u8 102, .int .u8 111] 5)).heap.size (w.alloc (.cells #[.int .u8 102, .int .u8 111] 5)) W → BytesAt W (some ⟨w.heap.size, 0, none⟩) [102, 111] := fun W h => BytesAt.below (fun j hj => by
    have hj2 : j < 2 := by simpa using hj
    refine ⟨_, rfl, ?_⟩
    rw [show (⟨w.heap.size, 0, none⟩ : Addr).add j = ⟨w.heap.size, j, none⟩ by unfold Addr.add; split <;> simp_all, World.cell?_alloc_new]
    obtain rfl | rfl : j = 0 ∨ j = 1 := by omega
    · rfl
    · rfl) h
  have h1 := hex_any [102, 111] (some ⟨w.heap.size, 0, none⟩) 2 _ (hby _ (Below.refl _ _)) (by simp)
  have h2 := fun W h => base_any [102, 111] (some ⟨w.heap.size, 0, none⟩) 2 W (hby W h) (by simp)
  have h3 := fun W h => url_any [102, 111] (some ⟨w.heap.size, 0, none⟩) 2 W (hby W h) (by simp)
  rw [show hexL [102, 111] = [54, 54, 54, 102] by decide] at h1
  rw [show baseL [102, 111] = [90, 109, 56, 61] by decide] at h2
  rw [show urlL [102, 111] = [90, 109, 56] by decide] at h3
  have H1 := Lib.hid h1; have H2 := Lib.hid h2; have H3 := Lib.hid h3
  clear h1 h2 h3 hby
  go_enter Try.func7, Try.ntmps7
  go_wp2_with fail
  refine H1.out.mono ?_
  rintro e w1 ⟨rfl, hb1⟩
  go_wp2_with fail
  refine (H2.out w1 hb1).mono ?_
  rintro e w2 ⟨rfl, hb2⟩
  have hb2' := hb1.trans (hb2.mono hb1.size)
  go_wp2_with fail
  refine (H3.out w2 hb2').mono ?_
  rintro e w3 ⟨rfl, hb3⟩
  have hb3' := hb0.trans ((hb2'.trans (hb3.mono hb2'.size)).mono hb0.size)
  go_wp2_with fail
  go_ret
  exact ⟨rfl, hb3'⟩
end Go.Proofs.Ytbioclpobmgikaa
