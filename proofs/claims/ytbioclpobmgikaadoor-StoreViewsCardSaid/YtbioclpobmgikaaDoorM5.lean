/- A number's third power, limb by limb: what the limbs are worth. -/
import Derived.Test.YtbioclpobmgikaaDoorM4
namespace Go.Proofs.YtbioclpobmgikaaDoor

theorem len5 (l : List Nat) (h : l.length = 5) : ∃ n0 n1 n2 n3 n4, l = [n0, n1, n2, n3, n4] := by
  match l, h with
  | [n0, n1, n2, n3, n4], _ => exact ⟨n0, n1, n2, n3, n4, rfl⟩
theorem val_five (n0 n1 n2 n3 n4 : Nat) : val [n0, n1, n2, n3, n4] = n0 + n1 * 4294967296 + n2 * 18446744073709551616 + n3 * 79228162514264337593543950336 + n4 * 340282366920938463463374607431768211456 := rfl

theorem val_step0 (L : List Nat) (ci a0 a1 : Nat) (hL : Lim L) (hz : ∀ t, 1 < t → atn L t = 0) : val (rowStep L ci [a0, a1, 0, 0, 0] 0) = val L + (ci * a0 + ci * a1 * 4294967296) := by
  obtain ⟨n0, n1, n2, n3, n4, rfl⟩ := len5 L hL.1
  have h2 : n2 = 0 := hz 2 (by omega)
  have h3 : n3 = 0 := hz 3 (by omega)
  have h4 : n4 = 0 := hz 4 (by omega)
  simp only [rowStep, inn, innStep, innN, atn, List.set, List.getD_cons_zero, List.getD_cons_succ, val_five, show (0 : Nat) < 4 by omega, show (0 : Nat) < 3 by omega, if_true, Nat.zero_add, Nat.add_zero]
  generalize ci * a0 = p
  generalize ci * a1 = q
  omega
theorem val_step1 (L : List Nat) (ci a0 a1 : Nat) (hL : Lim L) (hz : ∀ t, 2 < t → atn L t = 0) : val (rowStep L ci [a0, a1, 0, 0, 0] 1) = val L + (ci * a0 + ci * a1 * 4294967296) * 4294967296 := by
  obtain ⟨n0, n1, n2, n3, n4, rfl⟩ := len5 L hL.1
  have h3 : n3 = 0 := hz 3 (by omega)
  have h4 : n4 = 0 := hz 4 (by omega)
  simp only [rowStep, inn, innStep, innN, atn, List.set, List.getD_cons_zero, List.getD_cons_succ, val_five, show (1 : Nat) < 4 by omega, show (1 : Nat) < 3 by omega, if_true, Nat.add_zero]
  generalize ci * a0 = p
  generalize ci * a1 = q
  omega
theorem val_step2 (L : List Nat) (ci a0 a1 : Nat) (hL : Lim L) (hz : ∀ t, 3 < t → atn L t = 0) : val (rowStep L ci [a0, a1, 0, 0, 0] 2) = val L + (ci * a0 + ci * a1 * 4294967296) * 18446744073709551616 := by
  obtain ⟨n0, n1, n2, n3, n4, rfl⟩ := len5 L hL.1
  have h4 : n4 = 0 := hz 4 (by omega)
  simp only [rowStep, inn, innStep, innN, atn, List.set, List.getD_cons_zero, List.getD_cons_succ, val_five, show (2 : Nat) < 4 by omega, show (2 : Nat) < 3 by omega, if_true, Nat.add_zero]
  generalize ci * a0 = p
  generalize ci * a1 = q
  omega
theorem val_step3 (L : List Nat) (a0 a1 : Nat) (hL : Lim L) : val (rowStep L 0 [a0, a1, 0, 0, 0] 3) = val L := by
  have hl := hL.2
  obtain ⟨n0, n1, n2, n3, n4, rfl⟩ := len5 L hL.1
  have h3 : n3 < 4294967296 := hl 3
  have h4 : n4 < 4294967296 := hl 4
  simp only [rowStep, inn, innStep, innN, atn, List.set, List.getD_cons_zero, List.getD_cons_succ, val_five, show (3 : Nat) < 4 by omega, show ¬ (3 : Nat) < 3 by omega, if_true, if_false, Nat.add_zero, Nat.zero_mul]
  omega
theorem val_step4 (L : List Nat) (a0 a1 : Nat) (hL : Lim L) : val (rowStep L 0 [a0, a1, 0, 0, 0] 4) = val L := by
  have hl := hL.2
  obtain ⟨n0, n1, n2, n3, n4, rfl⟩ := len5 L hL.1
  have h4 : n4 < 4294967296 := hl 4
  simp only [rowStep, inn, innStep, innN, atn, List.set, List.getD_cons_zero, List.getD_cons_succ, val_five, show ¬ (4 : Nat) < 4 by omega, show ¬ (4 : Nat) < 3 by omega, if_false, Nat.add_zero, Nat.zero_mul]
  omega
theorem row_arith (c0 c1 c2 a0 a1 B C : Nat) (h : C = B * B) : c0 * a0 + c0 * a1 * B + (c1 * a0 + c1 * a1 * B) * B + (c2 * a0 + c2 * a1 * B) * C = (c0 + c1 * B + c2 * C) * (a0 + a1 * B) := by
  subst h
  simp only [Nat.add_mul, Nat.mul_add]
  simp only [Nat.mul_comm, Nat.mul_left_comm, Nat.add_assoc, Nat.add_left_comm]
theorem row_succ (c a : List Nat) (i : Nat) : row c a (i + 1) = rowStep (row c a i) (atn c i) a i := rfl
theorem val_row (c : List Nat) (a0 a1 : Nat) (hc : Lim c) (ha : Lim [a0, a1, 0, 0, 0]) (h : val c < 79228162514264337593543950336) : val (row c [a0, a1, 0, 0, 0] 5) = val c * (a0 + a1 * 4294967296) := by
  have hl := row_lim c [a0, a1, 0, 0, 0] hc ha
  have h3 : atn c 3 = 0 := by unfold val at h; omega
  have h4 : atn c 4 = 0 := by unfold val at h; omega
  have e0 := val_step0 _ (atn c 0) a0 a1 (hl 0 (by omega)).1 (fun t ht => (hl 0 (by omega)).2 t (by omega))
  have e1 := val_step1 _ (atn c 1) a0 a1 (hl 1 (by omega)).1 (fun t ht => (hl 1 (by omega)).2 t (by omega))
  have e2 := val_step2 _ (atn c 2) a0 a1 (hl 2 (by omega)).1 (fun t ht => (hl 2 (by omega)).2 t (by omega))
  have e3 := val_step3 _ a0 a1 (hl 3 (by omega)).1
  have e4 := val_step4 _ a0 a1 (hl 4 (by omega)).1
  have r1 := row_succ c [a0, a1, 0, 0, 0] 0
  have r2 := row_succ c [a0, a1, 0, 0, 0] 1
  have r3 := row_succ c [a0, a1, 0, 0, 0] 2
  have r4 := row_succ c [a0, a1, 0, 0, 0] 3
  have r5 := row_succ c [a0, a1, 0, 0, 0] 4
  have e5 : val (row c [a0, a1, 0, 0, 0] 0) = 0 := by simp [val, row, atn]
  have e6 : val c = atn c 0 + atn c 1 * 4294967296 + atn c 2 * 18446744073709551616 := by unfold val; omega
  have e := row_arith (atn c 0) (atn c 1) (atn c 2) a0 a1 4294967296 18446744073709551616 (by decide)
  rw [e5, Nat.zero_add] at e0
  rw [h4] at r5
  rw [h3] at r4
  rw [← r1] at e0
  rw [← r2, e0] at e1
  rw [← r3, e1] at e2
  rw [← r4, e2] at e3
  rw [← r5, e3, e, ← e6] at e4
  exact e4

theorem lim_start (x : Nat) (hx : x < 68719476736) : Lim [x % 4294967296, x / 4294967296, 0, 0, 0] :=
  ⟨rfl, fun i => by
    unfold atn
    rcases i with _ | _ | _ | _ | _ | i <;> simp <;> omega⟩
theorem lim_one : Lim [1, 0, 0, 0, 0] :=
  ⟨rfl, fun i => by
    unfold atn
    rcases i with _ | _ | _ | _ | _ | i <;> simp⟩
def xs (x : Nat) : List Nat := [x % 4294967296, x / 4294967296, 0, 0, 0]
theorem pw_lim (x : Nat) (hx : x < 68719476736) : ∀ k, Lim (pw (xs x) k) := by
  intro k
  induction k with
  | zero => exact lim_one
  | succ k ih => exact (row_lim _ _ ih (lim_start x hx) 5 (by omega)).1
theorem pw_val (x : Nat) (hx : x < 68719476736) : val (pw (xs x) 3) = x * x * x := by
  have e : x % 4294967296 + x / 4294967296 * 4294967296 = x := by omega
  have v1 : val (pw (xs x) 1) = x := by
    have hb : val (pw (xs x) 0) = 1 := by simp [val, pw, atn]
    have := val_row _ _ _ (pw_lim x hx 0) (lim_start x hx) (by omega)
    rw [e, hb, Nat.one_mul] at this
    exact this
  have v2 : val (pw (xs x) 2) = x * x := by
    rw [show pw (xs x) 2 = row (pw (xs x) 1) (xs x) 5 from rfl]
    have hb : val (pw (xs x) 1) < 79228162514264337593543950336 := by omega
    have := val_row _ _ _ (pw_lim x hx 1) (lim_start x hx) hb
    rw [e, v1] at this
    exact this
  have hb : x * x ≤ 68719476735 * 68719476735 := Nat.mul_le_mul (by omega) (by omega)
  have hb : val (pw (xs x) 2) < 79228162514264337593543950336 := by rw [v2]; omega
  have := val_row _ _ _ (pw_lim x hx 2) (lim_start x hx) hb
  rw [e, v2] at this
  exact this
/-- the law's last question -/
theorem above_eq (l : List Nat) (n : Nat) (hl : Lim l) (hn : n < 4294967296) :
    (decide (0 < atn l 4) || (decide (n < atn l 3) || (decide (atn l 3 = n) && (decide (0 < atn l 2) || decide (0 < atn l 1) || decide (0 < atn l 0))))) = decide (n * 79228162514264337593543950336 < val l) := by
  have h0 := hl.2 0; have h1 := hl.2 1; have h2 := hl.2 2; have h3 := hl.2 3
  unfold val
  generalize atn l 0 = c0 at *; generalize atn l 1 = c1 at *; generalize atn l 2 = c2 at *; generalize atn l 3 = c3 at *; generalize atn l 4 = c4 at *
  rw [Bool.eq_iff_iff]
  simp only [Bool.or_eq_true, Bool.and_eq_true, decide_eq_true_eq]
  omega
end Go.Proofs.YtbioclpobmgikaaDoor
