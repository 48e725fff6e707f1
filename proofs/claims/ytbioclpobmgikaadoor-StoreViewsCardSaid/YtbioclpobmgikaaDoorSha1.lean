/- The leaf functions of SHA-256 in the program: a number turned right by so many bits. -/
import Derived.Test.YtbioclpobmgikaaDoorProg
import Derived.Test.YtbioclpobmgikaaDoorM1
import Derived.WalkKit
import Derived.WalkSpells
import Derived.WalkLawsBesides
namespace Go.Proofs.YtbioclpobmgikaaDoor
open Go.RowKit

theorem rot_amount (n : Nat) (h : 0 < n) (h2 : n < 32) : bits .and .u64 (IntKind.u64.wrap (-(n : Int))) 31 = ((32 - n : Nat) : Int) := by
  have : ∀ n : Fin 32, 0 < n.val → bits .and .u64 (IntKind.u64.wrap (-(n.val : Int))) 31 = ((32 - n.val : Nat) : Int) := by decide +kernel
  exact this ⟨n, h2⟩ h

theorem rot_eq (x : W) (n : Nat) (h2 : n < 32) : bits .or .u32 ((x.toNat : Int) * 2 ^ (32 - n) % 4294967296) ((x.toNat : Int) / 2 ^ (32 - (32 - n))) = ((rotr x n).toNat : Int) := by
  rw [show 32 - (32 - n) = n by omega, ← IntKind.wrap_u32, u32_shl, u32_shr, u32_or]; rfl

theorem right_eq (x : W) (n : Nat) : bits .or .u32 ((x.toNat : Int) / 2 ^ n) ((x.toNat : Int) * 2 ^ (32 - n) % 4294967296) = ((rotr x n).toNat : Int) := by
  rw [← IntKind.wrap_u32, u32_shl, u32_shr, u32_or, BitVec.or_comm]; rfl

theorem ret_i {k : IntKind} {a b : Int} (h : a = b) : Ending.returned (.int k a) = .returned (.int k b) := by rw [h]

set_option maxHeartbeats 400000 in
theorem rot_any (x : W) (n : Nat) (w : World) (h : 0 < n) (h2 : n < 32) :
    Calls Tryd.prog 116 #[.int .u32 x.toNat, .int .i64 (-(n : Int))] w fun e w' => e = .returned (.int .u32 (rotr x n).toNat) ∧ w = w' := by
  have hr := rot_amount n h h2
  go_enter Tryd.func116, Tryd.ntmps116
  go_wp2
  go_ret
  exact ⟨ret_i (rot_eq x n h2), rfl⟩

set_option maxHeartbeats 400000 in
theorem turn_any (x : W) (n : Nat) (w : World) (h : 0 < n) (h2 : n < 32) :
    Calls Tryd.prog 106 #[.int .u32 x.toNat, .int .i64 (n : Int)] w fun e w' => e = .returned (.int .u32 (rotr x n).toNat) ∧ w = w' := by
  go_enter Tryd.func106, Tryd.ntmps106
  go_wp2_with (go_at_call 116; refine (rot_any x n _ h h2).mono ?_; rintro e w' ⟨rfl, rfl⟩)
  go_ret
  exact ⟨rfl, rfl⟩

set_option maxHeartbeats 400000 in
theorem right_any (x : W) (n : Nat) (w : World) (h2 : n < 32) :
    Calls Tryd.prog 79 #[.int .u32 x.toNat, .int .u64 (n : Int)] w fun e w' => e = .returned (.int .u32 (rotr x n).toNat) ∧ w = w' := by
  go_enter Tryd.func79, Tryd.ntmps79
  go_wp2
  go_ret
  exact ⟨ret_i (right_eq x n), rfl⟩

/-- the same, the amount a number as the walk spells it -/
theorem turn_k (x : W) (k : Int) (w : World) (h : 0 < k) (h2 : k < 32) :
    Calls Tryd.prog 106 #[.int .u32 x.toNat, .int .i64 k] w fun e w' => e = .returned (.int .u32 (rotr x k.toNat).toNat) ∧ w = w' := by
  obtain ⟨n, rfl⟩ := Int.eq_ofNat_of_zero_le (show 0 ≤ k by omega)
  exact turn_any x n w (by omega) (by omega)
theorem right_k (x : W) (k : Int) (w : World) (h : 0 ≤ k) (h2 : k < 32) :
    Calls Tryd.prog 79 #[.int .u32 x.toNat, .int .u64 k] w fun e w' => e = .returned (.int .u32 (rotr x k.toNat).toNat) ∧ w = w' := by
  obtain ⟨n, rfl⟩ := Int.eq_ofNat_of_zero_le (show 0 ≤ k by omega)
  exact right_any x n w (by omega)
end Go.Proofs.YtbioclpobmgikaaDoor
