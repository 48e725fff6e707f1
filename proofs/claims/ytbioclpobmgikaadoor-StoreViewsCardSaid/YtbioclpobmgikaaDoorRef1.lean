/- The document's constants: the walks of primes, above, cube, square. -/
import Derived.Test.YtbioclpobmgikaaDoorM5
import Derived.Test.YtbioclpobmgikaaDoorSha6
namespace Go.Proofs.YtbioclpobmgikaaDoor
open Go.RowKit

theorem u64_in (a : Nat) (h : a < 18446744073709551616) : IntKind.u64.wrap (a : Int) = (a : Int) := by
  rw [IntKind.wrap_u64]; omega
theorem mask64 (a : Nat) (h : a < 18446744073709551616) : bits .and .u64 (a : Int) 4294967295 = ((a % 4294967296 : Nat) : Int) := by
  have e : ((BitVec.ofInt 64 (a : Int) &&& BitVec.ofInt 64 4294967295).toNat : Nat) = a % 4294967296 := by
    rw [BitVec.toNat_and]
    have h1 : (BitVec.ofInt 64 (a : Int)).toNat = a := by simp; omega
    have h2 : (BitVec.ofInt 64 4294967295).toNat = 2 ^ 32 - 1 := by decide
    rw [h1, h2, Nat.and_two_pow_sub_one_eq_mod]
  change IntKind.u64.wrap (((BitVec.ofInt 64 (a : Int) &&& BitVec.ofInt 64 4294967295).toNat : Nat) : Int) = _
  rw [e, u64_in _ (by omega)]
theorem root_u32 (r : Nat) (h : r < 18446744073709551616) : bits .and .u64 (r : Int) 4294967295 % 4294967296 = ((BitVec.ofNat 32 r : W).toNat : Int) := by
  rw [mask64 r h, BitVec.toNat_ofNat]; omega
theorem pow4 (n i : Nat) : n * 4 ^ (i + 1) = 4 * (n * 4 ^ i) := by rw [Nat.pow_succ, ← Nat.mul_assoc, Nat.mul_comm]
theorem sq5 (k n : Nat) (h : k * k ≤ n) (hn : n < 20) : k < 5 := by
  rcases Nat.lt_or_ge k 5 with h5 | h5
  · exact h5
  · have := Nat.mul_le_mul h5 h5; omega

set_option maxHeartbeats 1000000 in
set_option maxRecDepth 100000 in
theorem square_any (n r : Nat) (hn : n < 20) (hr : isSquare n r) (w : World) :
    Calls Tryd.prog 78 #[.int .u64 (n : Int)] w fun e w' => e = .returned (.int .u32 ((BitVec.ofNat 32 r : W).toNat : Int)) ∧ w = w' := by
  go_enter Tryd.func78, Tryd.ntmps78
  go_wp2_with fail
  go_loopw [3] (fun v wr => ∃ k : Nat, v = .int .u64 (k : Int) ∧ k * k ≤ n ∧ w = wr) (fun v _ => n + 1 - (intOf v).toNat)
  case atStart => exact ⟨0, rfl, by omega, rfl⟩
  case round =>
    obtain ⟨k, rfl, hk, rfl⟩ := hrel
    have h5 := sq5 k n hk hn
    have e1 : ((k : Int) + 1) * ((k : Int) + 1) = (((k + 1) * (k + 1) : Nat) : Int) := by simp
    have hb : (k + 1) * (k + 1) ≤ 5 * 5 := Nat.mul_le_mul h5 h5
    have hkk : k ≤ k * k := by
      cases k with
      | zero => omega
      | succ k => exact Nat.le_mul_of_pos_left _ (by omega)
    generalize hq : (k + 1) * (k + 1) = q at *
    have e2 : IntKind.u64.wrap (q : Int) = (q : Int) := u64_in _ (by omega)
    by_cases hlt : q ≤ n
    · go_wp2_with fail
      go_roundw
      case rel => exact ⟨k + 1, by go_num, by omega, trivial⟩
      case measure => simp [intOf]; omega
    · have e3 : (k : Int) * (k : Int) = ((k * k : Nat) : Int) := by simp
      have hrest : n - k * k ≤ 2 * k := by
        have : (k + 1) * (k + 1) = k * k + 2 * k + 1 := by rw [Nat.add_mul, Nat.mul_add]; omega
        omega
      generalize hs : k * k = s at *
      have e4 : IntKind.u64.wrap (s : Int) = (s : Int) := u64_in _ (by omega)
      have e5 : (n : Int) - (s : Int) = ((n - s : Nat) : Int) := by omega
      generalize hd : n - s = d at *
      have e6 : IntKind.u64.wrap (d : Int) = (d : Int) := u64_in _ (by omega)
      go_wp2_with fail
      have h0 : k * k + d = n := by omega
      clear e1 e2 e3 e4 e5 e6 hb hq hlt hkk hk
      go_loopw [6, 5, 4] (fun i v u wr => ∃ i' a b : Nat, i = .int .i64 (i' : Int) ∧ v = .int .u64 (b : Int) ∧ u = .int .u64 (a : Int) ∧ i' ≤ 32 ∧ a * a + b = n * 4 ^ i' ∧ b ≤ 2 * a ∧ a < 5 * 2 ^ i' ∧ w = wr) (fun i _ _ _ => 32 - (intOf i).toNat)
      case atStart => exact ⟨0, k, d, rfl, rfl, rfl, by omega, by simpa using h0, hrest, by simpa using h5, rfl⟩
      case round =>
        clear h0 hrest h5
        obtain ⟨i, a, b, rfl, rfl, rfl, hi, hab, hb, ha, rfl⟩ := hrel
        have hp : a < 21474836480 := Nat.lt_of_lt_of_le ha (Nat.mul_le_mul_left 5 (Nat.pow_le_pow_right (by omega) hi))
        by_cases hlt : i < 32
        · have hst := sq_step a b _ hab hb
          by_cases hc : 2 * (2 * a) + 1 ≤ 4 * b
          · go_wp2_with fail
            go_roundw
            case rel => exact ⟨i + 1, 2 * a + 1, 4 * b - (2 * (2 * a) + 1), by go_num, by go_num, by go_num, by omega, by rw [(hst.1 hc).1, pow4], (hst.1 hc).2, by rw [Nat.pow_succ]; omega, trivial⟩
            case measure => simp [intOf]; omega
          · go_wp2_with fail
            go_roundw
            case rel => exact ⟨i + 1, 2 * a, 4 * b, by go_num, by go_num, by go_num, by omega, by rw [(hst.2 hc).1, pow4], (hst.2 hc).2, by rw [Nat.pow_succ]; omega, trivial⟩
            case measure => simp [intOf]; omega
        · obtain rfl : i = 32 := by omega
          have he := sq_end a b _ hab hb
          obtain rfl : r = a := isSquare_unique n r a hr he
          go_wp2_with fail
          go_ret
          exact ⟨ret_i (root_u32 r (by omega)), rfl⟩

end Go.Proofs.YtbioclpobmgikaaDoor
