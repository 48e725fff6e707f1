/- The document's digest, by plain arithmetic: it is the program's. -/
import Derived.Test.YtbioclpobmgikaaDoorM2
import Derived.Test.YtbioclpobmgikaaDoorM4
namespace Go.Proofs.YtbioclpobmgikaaDoor
open Go.RowKit

theorem chor (e f g : W) : (e &&& f ||| ~~~ e &&& g) = ch e f g := by
  unfold ch
  ext i hi
  simp only [BitVec.getElem_or, BitVec.getElem_and, BitVec.getElem_xor, BitVec.getElem_not]
  cases e[i] <;> cases f[i] <;> cases g[i] <;> rfl
theorem major (a b c : W) : (a &&& b ||| a &&& c ||| b &&& c) = maj a b c := by
  unfold maj
  ext i hi
  simp only [BitVec.getElem_or, BitVec.getElem_and, BitVec.getElem_xor]
  cases a[i] <;> cases b[i] <;> cases c[i] <;> rfl
theorem chor_eq (e f g : W) : bits .or .u32 (bits .and .u32 (e.toNat : Int) (f.toNat : Int)) (bits .and .u32 (bits .xor .u32 4294967295 (e.toNat : Int)) (g.toNat : Int)) = ((ch e f g).toNat : Int) := by
  rw [u32_not, u32_and, u32_and, u32_or, chor]
theorem major_eq (a b c : W) : bits .or .u32 (bits .or .u32 (bits .and .u32 (a.toNat : Int) (b.toNat : Int)) (bits .and .u32 (a.toNat : Int) (c.toNat : Int))) (bits .and .u32 (b.toNat : Int) (c.toNat : Int)) = ((maj a b c).toNat : Int) := by
  rw [u32_and, u32_and, u32_and, u32_or, u32_or, major]
theorem tor_eq (x : S8) (k w : W) : ((x.h.toNat : Int) + bits .xor .u32 (bits .xor .u32 ((rotr x.e 6).toNat : Int) ((rotr x.e 11).toNat : Int)) ((rotr x.e 25).toNat : Int) +
    bits .or .u32 (bits .and .u32 (x.e.toNat : Int) (x.f.toNat : Int)) (bits .and .u32 (bits .xor .u32 IntKind.u32.max (x.e.toNat : Int)) (x.g.toNat : Int)) + (k.toNat : Int) + (w.toNat : Int)) % 4294967296 = ((x.t k w).toNat : Int) := by
  rw [show IntKind.u32.max = 4294967295 by decide, big1_eq, chor_eq, sum5]; rfl
theorem uor_eq (x : S8) : (bits .xor .u32 (bits .xor .u32 ((rotr x.a 2).toNat : Int) ((rotr x.a 13).toNat : Int)) ((rotr x.a 22).toNat : Int) +
    bits .or .u32 (bits .or .u32 (bits .and .u32 (x.a.toNat : Int) (x.b.toNat : Int)) (bits .and .u32 (x.a.toNat : Int) (x.c.toNat : Int))) (bits .and .u32 (x.b.toNat : Int) (x.c.toNat : Int))) % 4294967296 = ((x.u).toNat : Int) := by
  rw [big0_eq, major_eq, sum_w]; rfl

/-- j bytes of number k of a block's schedule -/
def bep (blk : List UInt8) (k : Nat) : Nat → Nat
  | 0 => 0
  | j + 1 => bep blk k j * 256 + (at8 blk (4 * k + j)).toNat
theorem bep_lt (blk : List UInt8) (k j : Nat) : bep blk k j < 256 ^ j := by
  induction j with
  | zero => simp [bep]
  | succ j ih => have := (at8 blk (4 * k + j)).toNat_lt; rw [bep, Nat.pow_succ]; omega
theorem bep_lt3 (blk : List UInt8) (k j : Nat) (h : j ≤ 3) : bep blk k j < 16777216 :=
  Nat.lt_of_lt_of_le (bep_lt blk k j) (Nat.pow_le_pow_right (by omega) h)
theorem bep_four (blk : List UInt8) (k : Nat) (h : k < 16) : BitVec.ofNat 32 (bep blk k 4) = wnext blk (wl blk k) k := by
  unfold wnext
  rw [if_pos h]
  unfold be32
  have e : bep blk k 4 = (at8 blk (4 * k)).toNat * 16777216 + (at8 blk (4 * k + 1)).toNat * 65536 + (at8 blk (4 * k + 2)).toNat * 256 + (at8 blk (4 * k + 3)).toNat := by
    simp only [bep, Nat.add_zero]
    omega
  rw [e]
theorem wz_at (blk : List UInt8) (k : Nat) (h : k < 64) : (wz blk k).set k 0 = wz blk k := by
  unfold wz
  rw [show 64 - k = (64 - (k + 1)) + 1 by omega, List.replicate_succ, List.set_append]
  simp [wl_length]
/-- the array as bytes of number k come in -/
def wp (blk : List UInt8) (k j : Nat) : List W := (wz blk k).set k (BitVec.ofNat 32 (bep blk k j))
theorem wp_zero (blk : List UInt8) (k : Nat) (h : k < 64) : wp blk k 0 = wz blk k := wz_at blk k h
theorem wp_four (blk : List UInt8) (k : Nat) (h : k < 16) : wp blk k 4 = wz blk (k + 1) := by
  rw [wp, bep_four blk k h, wz_step blk k (by omega)]
theorem wp_length (blk : List UInt8) (k j : Nat) (h : k ≤ 64) : (wp blk k j).length = 64 := by rw [wp, List.length_set, wz_length blk k h]
theorem wp_at (blk : List UInt8) (k j : Nat) (h : k < 64) : at32 (wp blk k j) k = BitVec.ofNat 32 (bep blk k j) := by
  simp [wp, at32, wz_length blk k (by omega), h]
theorem wp_step (blk : List UInt8) (k j : Nat) : (wp blk k j).set k (BitVec.ofNat 32 (bep blk k (j + 1))) = wp blk k (j + 1) := by
  simp [wp, List.set_set]
theorem bep_step (blk : List UInt8) (k j : Nat) (h : j < 4) : ((BitVec.ofNat 32 (bep blk k j) : W).toNat : Int) * 256 + ((at8 blk (4 * k + j)).toNat : Int) = ((BitVec.ofNat 32 (bep blk k (j + 1)) : W).toNat : Int) ∧ (BitVec.ofNat 32 (bep blk k j) : W).toNat < 16777216 := by
  have h1 := bep_lt3 blk k j (by omega)
  have h2 := (at8 blk (4 * k + j)).toNat_lt
  rw [BitVec.toNat_ofNat, BitVec.toNat_ofNat, bep]
  omega

/-- a text's block b -/
def blkAt (T : List UInt8) (b : Nat) : List UInt8 := (T.drop (64 * b)).take 64
theorem blkAt_at (T : List UInt8) (b j : Nat) (h : j < 64) : at8 (blkAt T b) j = at8 T (64 * b + j) := by
  simp [blkAt, at8, List.getD, h, List.getElem?_drop]
theorem feedN_step (b : Nat) (s : S8) (T : List UInt8) (h : 64 * b + 64 ≤ T.length) : feedN (b + 1) s T = comp (feedN b s T) (blkAt T b) := by
  have e := feedN_append b 1 s (T.take (64 * b)) (T.drop (64 * b)) (by simp; omega)
  have e2 := feedN_whole b s (T.take (64 * b)) (T.drop (64 * b)) (by simp; omega)
  rw [List.take_append_drop] at e e2
  rw [e, ← e2]
  rfl

/-- what the digest's byte i is -/
def outB (s : S8) (i : Nat) : UInt8 := UInt8.ofNat ((at32 s.l (i / 4)).toNat / 2 ^ (24 - 8 * (i % 4)))
def outp (s : S8) (i : Nat) : List UInt8 := s.out.take i ++ List.replicate (32 - i) 0
theorem out_at (s : S8) : ∀ i, i < 32 → s.out[i]? = some (outB s i) := by
  intro i hi
  obtain ⟨a, b, c, d, e, f, g, h⟩ := s
  have hs : ∀ n : Nat, n < 8 → ∀ j : Nat, j < 4 → (S8.out ⟨a, b, c, d, e, f, g, h⟩)[4 * n + j]? = some (outB ⟨a, b, c, d, e, f, g, h⟩ (4 * n + j)) := by
    intro n hn j hj
    obtain rfl | rfl | rfl | rfl | rfl | rfl | rfl | rfl : n = 0 ∨ n = 1 ∨ n = 2 ∨ n = 3 ∨ n = 4 ∨ n = 5 ∨ n = 6 ∨ n = 7 := by omega
    all_goals
      obtain rfl | rfl | rfl | rfl : j = 0 ∨ j = 1 ∨ j = 2 ∨ j = 3 := by omega
      all_goals simp [S8.out, S8.l, out4, outB, at32]
  have := hs (i / 4) (by omega) (i % 4) (by omega)
  rwa [show 4 * (i / 4) + i % 4 = i by omega] at this
theorem outp_length (s : S8) (i : Nat) (h : i ≤ 32) : (outp s i).length = 32 := by
  have : s.out.length = 32 := out_length s
  simp [outp]; omega
theorem outp_step (s : S8) (i : Nat) (h : i < 32) : (outp s i).set i (outB s i) = outp s (i + 1) := by
  have hl : s.out.length = 32 := out_length s
  have ho := out_at s i h
  unfold outp
  rw [show 32 - i = (32 - (i + 1)) + 1 by omega, List.replicate_succ, List.set_append]
  rw [List.take_add_one, ho]
  simp [hl, show min i 32 = i by omega]
theorem outp_zero (s : S8) : outp s 0 = List.replicate 32 0 := by simp [outp]
theorem outp_full (s : S8) : outp s 32 = s.out := by
  have hl : s.out.length = 32 := out_length s
  simp [outp, List.take_of_length_le (Nat.le_of_eq hl)]
theorem Bs_set (l : List UInt8) (i : Nat) (x : UInt8) : (Bs l).set i (.int .u8 (x.toNat : Int)) = Bs (l.set i x) := by
  simp [Bs, List.map_set]

/-- the constants, i of which are laid -/
def kp (i : Nat) : List W := Kc.take i ++ List.replicate (64 - i) 0
def sp (i : Nat) : List W := H0.l.take i ++ List.replicate (8 - i) 0
theorem kp_length : ∀ i, i ≤ 64 → (kp i).length = 64 := by
  intro i h
  have : Kc.length = 64 := rfl
  simp [kp]; omega
theorem sp_length : ∀ i, i ≤ 8 → (sp i).length = 8 := by
  intro i h
  have : H0.l.length = 8 := rfl
  simp [sp]; omega
theorem kp_step (i : Nat) (h : i < 64) : (kp i).set i (at32 Kc i) = kp (i + 1) := by
  have hl : Kc.length = 64 := rfl
  unfold kp
  rw [show 64 - i = (64 - (i + 1)) + 1 by omega, List.replicate_succ, List.set_append, List.take_add_one]
  have e : Kc[i]? = some (at32 Kc i) := by simp [at32, hl, h]
  rw [e]
  simp [hl, show min i 64 = i by omega]
theorem sp_step (i : Nat) (h : i < 8) : (sp i).set i (at32 H0.l i) = sp (i + 1) := by
  have hl : H0.l.length = 8 := rfl
  unfold sp
  rw [show 8 - i = (8 - (i + 1)) + 1 by omega, List.replicate_succ, List.set_append, List.take_add_one]
  have e : H0.l[i]? = some (at32 H0.l i) := by simp [at32, hl, h]
  rw [e]
  simp [hl, show min i 8 = i by omega]
theorem kp_full : kp 64 = Kc := by rfl
theorem sp_full : sp 8 = H0.l := by rfl
theorem kp_zero : kp 0 = List.replicate 64 0 := rfl
theorem sp_zero : sp 0 = List.replicate 8 0 := rfl
theorem sum4' (a b c d : W) : a + b + c + d = a + c + b + d := by rw [BitVec.add_assoc a b c, BitVec.add_comm b c, ← BitVec.add_assoc]
end Go.Proofs.YtbioclpobmgikaaDoor
