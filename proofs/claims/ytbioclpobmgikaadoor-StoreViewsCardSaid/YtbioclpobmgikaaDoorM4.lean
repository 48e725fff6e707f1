/- The document's constants, by plain arithmetic: primes, roots. -/
import Derived.Test.YtbioclpobmgikaaDoorM1
namespace Go.Proofs.YtbioclpobmgikaaDoor

/-- the primes among 2 .. k + 1 -/
def pr : Nat → List Nat
  | 0 => []
  | k + 1 => if (pr k).all (fun p => (k + 2) % p != 0) then pr k ++ [k + 2] else pr k
def pr64 : List Nat := [2, 3, 5, 7, 11, 13, 17, 19, 23, 29, 31, 37, 41, 43, 47, 53, 59, 61, 67, 71, 73, 79, 83, 89, 97, 101, 103, 107, 109, 113, 127, 131,
  137, 139, 149, 151, 157, 163, 167, 173, 179, 181, 191, 193, 197, 199, 211, 223, 227, 229, 233, 239, 241, 251, 257, 263, 269, 271, 277, 281, 283, 293, 307, 311]
def isP (l : List Nat) (n : Nat) : Bool := l.all (fun p => n % p != 0)
/-- the same, a number at a time from k on -/
def prFrom : Nat → Nat → List Nat → List Nat
  | 0, _, l => l
  | n + 1, k, l => prFrom n (k + 1) (if isP l (k + 2) then l ++ [k + 2] else l)
theorem prFrom_pr (n : Nat) : ∀ k, prFrom n k (pr k) = pr (k + n) := by
  induction n with
  | zero => intro k; rfl
  | succ n ih => intro k; rw [prFrom, show k + (n + 1) = (k + 1) + n by omega, ← ih]; rfl
theorem pr_309 : pr 309 = pr64.take 63 := by
  have h := prFrom_pr 309 0
  rw [Nat.zero_add] at h
  rw [← h]
  decide +kernel
theorem pr_310 : pr 310 = pr64 := by
  rw [show pr 310 = if (pr 309).all (fun p => (309 + 2) % p != 0) then pr 309 ++ [309 + 2] else pr 309 from rfl, pr_309]
  decide +kernel
theorem pr_mono (k : Nat) : (pr k).length ≤ (pr (k + 1)).length := by
  rw [pr]
  split <;> simp
theorem pr_le (k d : Nat) : (pr k).length ≤ (pr (k + d)).length := by
  induction d with
  | zero => exact Nat.le_refl _
  | succ d ih => exact Nat.le_trans ih (pr_mono _)
theorem pr_lt (k : Nat) (h : k < 310) : (pr k).length < 64 := by
  have := pr_le k (309 - k)
  rw [show k + (309 - k) = 309 by omega, pr_309] at this
  exact Nat.lt_of_le_of_lt this (by decide)

/-- the roots: of n by 2^96 the third, of n by 2^64 the second -/
def cubeR : List Nat := [5411319704, 6194414737, 7344290767, 8215976869, 9551921755, 10098905585, 11043570340, 11460697813, 12214315672, 13195500289, 13492127166, 14311783875, 14809980276, 15046980094, 15499789991, 16133124468, 16720292289, 16907126662, 17444216262, 17784676812, 17950125167, 18429019306, 18734950876, 19175934170, 19734090066, 20001703533, 20132865992, 20390182855, 20516441075, 20764397895, 21588763473, 21813078375, 22141143685, 22248366392, 22769593852, 22871018771, 23170020180, 23461497531, 23651862830, 23931792517, 24205322401, 24295138891, 24734567280, 24820601251, 24990902297, 25075189284, 25569408389, 26045227120, 26200031510, 26276752392, 26428864332, 26653801653, 26727943347, 27092625994, 27306805839, 27517677555, 27725365998, 27793908591, 27997534228, 28131656200, 28198240250, 28526537963, 28973835255, 29099129074]
def squareR : List Nat := [6074000999, 7439101573, 9603838834, 11363415354, 14244795007, 15485724812, 17708603819, 18721328409]
def isCube (n r : Nat) : Prop := r * r * r ≤ n * 79228162514264337593543950336 ∧ n * 79228162514264337593543950336 < (r + 1) * (r + 1) * (r + 1)
def isSquare (n r : Nat) : Prop := r * r ≤ n * 18446744073709551616 ∧ n * 18446744073709551616 < (r + 1) * (r + 1)
instance (n r : Nat) : Decidable (isCube n r) := by unfold isCube; infer_instance
instance (n r : Nat) : Decidable (isSquare n r) := by unfold isSquare; infer_instance
/-- element i; a definition of its own, which no rule opens -/
def atn (l : List Nat) (i : Nat) : Nat := l.getD i 0
theorem cubes : ∀ i, i < 64 → isCube (atn pr64 i) (atn cubeR i) ∧ BitVec.ofNat 32 (atn cubeR i) = at32 Kc i := by decide +kernel
theorem squares : ∀ i, i < 8 → isSquare (atn pr64 i) (atn squareR i) ∧ BitVec.ofNat 32 (atn squareR i) = at32 H0.l i := by decide +kernel
theorem pr64_small : ∀ i, i < 64 → atn pr64 i < 312 := by decide +kernel
theorem pr64_8 : ∀ i, i < 8 → atn pr64 i < 20 := by decide +kernel

theorem cube_mono (a b : Nat) (h : a < b) : (a + 1) * (a + 1) * (a + 1) ≤ b * b * b :=
  Nat.mul_le_mul (Nat.mul_le_mul h h) h
theorem square_mono (a b : Nat) (h : a < b) : (a + 1) * (a + 1) ≤ b * b := Nat.mul_le_mul h h
theorem isCube_unique (n a b : Nat) (ha : isCube n a) (hb : isCube n b) : a = b := by
  have h1 := cube_mono a b; have h2 := cube_mono b a
  have := ha.1; have := ha.2; have := hb.1; have := hb.2
  rcases Nat.lt_trichotomy a b with h | h | h
  · have := h1 h; omega
  · exact h
  · have := h2 h; omega
theorem isSquare_unique (n a b : Nat) (ha : isSquare n a) (hb : isSquare n b) : a = b := by
  have h1 := square_mono a b; have h2 := square_mono b a
  have := ha.1; have := ha.2; have := hb.1; have := hb.2
  rcases Nat.lt_trichotomy a b with h | h | h
  · have := h1 h; omega
  · exact h
  · have := h2 h; omega
/-- a step of the second root: root * root + rest stays the number -/
theorem sq_step (a r m : Nat) (h : a * a + r = m) (hr : r ≤ 2 * a) :
    (2 * (2 * a) + 1 ≤ 4 * r → (2 * a + 1) * (2 * a + 1) + (4 * r - (2 * (2 * a) + 1)) = 4 * m ∧ 4 * r - (2 * (2 * a) + 1) ≤ 2 * (2 * a + 1)) ∧
    (¬ 2 * (2 * a) + 1 ≤ 4 * r → (2 * a) * (2 * a) + 4 * r = 4 * m ∧ 4 * r ≤ 2 * (2 * a)) := by
  have e1 : (2 * a + 1) * (2 * a + 1) = 4 * (a * a) + 4 * a + 1 := by
    rw [Nat.add_mul, Nat.mul_add, show 2 * a * (2 * a) = 4 * (a * a) by rw [Nat.mul_mul_mul_comm]]; omega
  have e2 : (2 * a) * (2 * a) = 4 * (a * a) := by rw [Nat.mul_mul_mul_comm]
  rw [e1, e2]
  generalize a * a = q at *
  omega
theorem sq_end (a r m : Nat) (h : a * a + r = m) (hr : r ≤ 2 * a) : a * a ≤ m ∧ m < (a + 1) * (a + 1) := by
  have e1 : (a + 1) * (a + 1) = a * a + 2 * a + 1 := by rw [Nat.add_mul, Nat.mul_add]; omega
  rw [e1]; omega

/-! ### A number's third power, limb by limb -/
def B32 : Nat := 4294967296
/-- a step of the inner loop: limbs, what is carried -/
def innStep (ci : Nat) (a : List Nat) (i j : Nat) (p : List Nat × Nat) : List Nat × Nat :=
  (p.1.set (i + j) ((atn p.1 (i + j) + ci * atn a j + p.2) % 4294967296), (atn p.1 (i + j) + ci * atn a j + p.2) / 4294967296)
def inn (L : List Nat) (ci : Nat) (a : List Nat) (i : Nat) : Nat → List Nat × Nat
  | 0 => (L, 0)
  | j + 1 => innStep ci a i j (inn L ci a i j)
def innN (i : Nat) : Nat := if i < 4 then 2 else 1
def rowStep (L : List Nat) (ci : Nat) (a : List Nat) (i : Nat) : List Nat :=
  if i < 3 then (inn L ci a i (innN i)).1.set (i + 2) (atn (inn L ci a i (innN i)).1 (i + 2) + (inn L ci a i (innN i)).2) else (inn L ci a i (innN i)).1
def row (c a : List Nat) : Nat → List Nat
  | 0 => [0, 0, 0, 0, 0]
  | i + 1 => rowStep (row c a i) (atn c i) a i
def pw (a : List Nat) : Nat → List Nat
  | 0 => [1, 0, 0, 0, 0]
  | k + 1 => row (pw a k) a 5
def Lim (l : List Nat) : Prop := l.length = 5 ∧ ∀ i, atn l i < 4294967296
def val (l : List Nat) : Nat := atn l 0 + atn l 1 * 4294967296 + atn l 2 * 18446744073709551616 + atn l 3 * 79228162514264337593543950336 + atn l 4 * 340282366920938463463374607431768211456

theorem atn_set (l : List Nat) (i j v : Nat) (h : i < l.length) : atn (l.set i v) j = if i = j then v else atn l j := by
  unfold atn
  rw [List.getD_eq_getElem?_getD, List.getD_eq_getElem?_getD, List.getElem?_set]
  split <;> simp_all
theorem Lim.set {l : List Nat} (h : Lim l) (i v : Nat) (hi : i < 5) (hv : v < 4294967296) : Lim (l.set i v) := by
  refine ⟨by rw [List.length_set]; exact h.1, fun j => ?_⟩
  rw [atn_set _ _ _ _ (by rw [h.1]; exact hi)]
  split
  · exact hv
  · exact h.2 j
theorem step_bound (n c a r : Nat) (hn : n < 4294967296) (hc : c < 4294967296) (ha : a < 4294967296) (hr : r < 4294967296) : c * a ≤ 18446744065119617025 ∧ n + c * a + r ≤ 18446744073709551615 := by
  have : c * a ≤ 4294967295 * 4294967295 := Nat.mul_le_mul (by omega) (by omega)
  omega
theorem inn_lim (L : List Nat) (ci : Nat) (a : List Nat) (i : Nat) (hL : Lim L) (hc : ci < 4294967296) (ha : Lim a) : ∀ j, i + j ≤ 5 → Lim (inn L ci a i j).1 ∧ (inn L ci a i j).2 < 4294967296 := by
  intro j
  induction j with
  | zero => intro _; exact ⟨hL, by simp [inn]⟩
  | succ j ih =>
    intro hj
    obtain ⟨h1, h2⟩ := ih (by omega)
    have := step_bound _ _ _ _ (h1.2 (i + j)) hc (ha.2 j) h2
    exact ⟨h1.set _ _ (by omega) (by omega), by simp only [inn, innStep]; omega⟩
theorem inn_far (L : List Nat) (ci : Nat) (a : List Nat) (i t : Nat) (hL : Lim L) (hc : ci < 4294967296) (ha : Lim a) : ∀ j, i + j ≤ 5 → i + j ≤ t → atn (inn L ci a i j).1 t = atn L t := by
  intro j
  induction j with
  | zero => intro _ _; rfl
  | succ j ih =>
    intro hj ht
    simp only [inn, innStep]
    rw [atn_set _ _ _ _ (by rw [(inn_lim L ci a i hL hc ha j (by omega)).1.1]; omega), if_neg (by omega), ih (by omega) (by omega)]
theorem innN_le (i : Nat) (h : i < 5) : i + innN i ≤ 5 := by unfold innN; split <;> omega
theorem rowStep_lim (L : List Nat) (ci : Nat) (a : List Nat) (i : Nat) (hL : Lim L) (hc : ci < 4294967296) (ha : Lim a) (hi : i < 5) (hz : ∀ t, i + 1 < t → atn L t = 0) :
    Lim (rowStep L ci a i) ∧ ∀ t, i + 2 < t → atn (rowStep L ci a i) t = 0 := by
  have h := inn_lim L ci a i hL hc ha (innN i) (innN_le i hi)
  unfold rowStep
  split
  · have e : innN i = 2 := by unfold innN; rw [if_pos (by omega)]
    rw [e] at h ⊢
    have hf := fun t => inn_far L ci a i t hL hc ha 2 (by omega)
    rw [hf (i + 2) (by omega), hz (i + 2) (by omega), Nat.zero_add]
    refine ⟨h.1.set _ _ (by omega) h.2, fun t ht => ?_⟩
    rw [atn_set _ _ _ _ (by rw [h.1.1]; omega), if_neg (by omega), hf t (by omega), hz t (by omega)]
  · refine ⟨h.1, fun t ht => ?_⟩
    have hl := h.1.1
    unfold atn
    rw [List.getD_eq_getElem?_getD, List.getElem?_eq_none (by omega)]
    rfl
theorem row_lim (c a : List Nat) (hc : Lim c) (ha : Lim a) : ∀ i, i ≤ 5 → Lim (row c a i) ∧ ∀ t, i + 1 < t → atn (row c a i) t = 0 := by
  intro i
  induction i with
  | zero =>
    intro _
    have hz : ∀ t, atn [0, 0, 0, 0, 0] t = 0 := fun t => by
      unfold atn
      rcases t with _ | _ | _ | _ | _ | t <;> simp
    exact ⟨⟨rfl, fun t => by rw [row, hz]; decide⟩, fun t _ => hz t⟩
  | succ i ih =>
    intro hi
    obtain ⟨h1, h2⟩ := ih (by omega)
    exact rowStep_lim _ _ _ _ h1 (hc.2 i) ha (by omega) h2
end Go.Proofs.YtbioclpobmgikaaDoor
