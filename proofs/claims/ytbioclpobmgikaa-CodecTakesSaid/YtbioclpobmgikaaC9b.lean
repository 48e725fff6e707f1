/- The document's base64 back, bit by bit, by plain lists. -/
import Derived.Test.YtbioclpobmgikaaC7b
import Derived.Test.YtbioclpobmgikaaC8c
namespace Go.Proofs.Ytbioclpobmgikaa
open Go.RowKit

/-- what the program finds in a text -/
def decL (way : Bool) (s : List UInt8) : Option (List UInt8) := if way then dx true 0 0 s else ubase s
theorem decL_bb (way : Bool) (l : List UInt8) : decL way (bbL way l) = some l := by
  cases way
  · exact ubase_base l
  · exact dx_sx true l
theorem decL_back (way : Bool) (s l : List UInt8) (h : decL way s = some l) : bbL way l = s := by
  cases way
  · exact ubase_back s l h
  · exact dx_back true s l h
theorem bbL_form (way : Bool) (l : List UInt8) : ∃ p, bbL way l = signs (alW way) (sx 0 0 l) ++ List.replicate p 61 := by
  cases way
  · exact ⟨_, rfl⟩
  · exact ⟨0, by simp [bbL, urlL, alW]⟩
theorem at8_mem (s : List UInt8) (i : Nat) (h : i < s.length) : at8 s i ∈ s := by
  simp [at8, List.getD, h]
theorem bb_sign (way : Bool) (s l : List UInt8) (h : s = bbL way l) (i : Nat) (hi : i < s.length) (hc : at8 s i ≠ 61) : ∃ n, n < 64 ∧ at8 (alW way) n = at8 s i := by
  have hm := at8_mem s i hi
  obtain ⟨p, hp⟩ := bbL_form way l
  generalize at8 s i = c at *
  rw [h, hp, List.mem_append] at hm
  rcases hm with hm | hm
  · simp only [signs, List.mem_map] at hm
    obtain ⟨n, hn, hc2⟩ := hm
    exact ⟨n, sx_lt l 0 0 (by omega) (by omega) n hn, hc2⟩
  · rw [List.mem_replicate] at hm
    exact absurd hm.2 hc
theorem signs_inj (way : Bool) : ∀ (a b : List Nat), (∀ n ∈ a, n < 64) → (∀ n ∈ b, n < 64) → signs (alW way) a = signs (alW way) b → a = b
  | [], [], _, _, _ => rfl
  | [], _ :: _, _, _, h => by simp [signs] at h
  | _ :: _, [], _, _, h => by simp [signs] at h
  | x :: a, y :: b, ha, hb, h => by
    rw [signs_cons, signs_cons] at h
    injection h with h1 h2
    have e1 := at_ix way x (ha x (by simp))
    have e2 := at_ix way y (hb y (by simp))
    rw [h1, e2] at e1
    injection e1 with e1
    rw [e1, signs_inj way a b (fun n hn => ha n (by simp [hn])) (fun n hn => hb n (by simp [hn])) h2]
theorem signs_no61 (way : Bool) (a : List Nat) (ha : ∀ n ∈ a, n < 64) : ∀ c ∈ signs (alW way) a, c ≠ 61 := by
  intro c hc h
  subst h
  simp only [signs, List.mem_map] at hc
  obtain ⟨n, hn, h61⟩ := hc
  have := at_ix way n (ha n hn)
  rw [h61, no_fill] at this
  cases this
theorem vs_eq (way : Bool) (s l : List UInt8) (vs : List Nat) (i : Nat) (h : s = bbL way l) (hv : ∀ n ∈ vs, n < 64) (hs : signs (alW way) vs = s.take i) (hi : i ≤ s.length) (hend : i = s.length ∨ at8 s i = 61) : vs = sx 0 0 l := by
  obtain ⟨p, hp⟩ := bbL_form way l
  have hx : ∀ n ∈ sx 0 0 l, n < 64 := sx_lt l 0 0 (by omega) (by omega)
  have hlen := congrArg List.length (h.trans hp)
  rw [List.length_append, List.length_replicate, signs_length] at hlen
  have h1 : i ≤ (sx 0 0 l).length := by
    apply Nat.le_of_not_lt
    intro hlt
    refine signs_no61 way vs hv 61 ?_ rfl
    rw [hs, h, hp]
    rw [List.mem_take_iff_getElem]
    refine ⟨(sx 0 0 l).length, by rw [List.length_append, signs_length, List.length_replicate]; omega, ?_⟩
    rw [List.getElem_append_right (by rw [signs_length]; exact Nat.le_refl _)]
    simp
  have h2 : i = (sx 0 0 l).length := by
    apply Nat.le_antisymm h1
    apply Nat.le_of_not_lt
    intro hlt
    rcases hend with hend | hend
    · omega
    · refine signs_no61 way _ hx 61 ?_ rfl
      rw [← hend, h, hp]
      have h3 : i < (signs (alW way) (sx 0 0 l)).length := by rw [signs_length]; exact hlt
      simp only [at8, List.getD, List.getElem?_append_left h3, List.getElem?_eq_getElem h3, Option.getD_some]
      exact List.getElem_mem h3
  apply signs_inj way _ _ hv hx
  rw [hs, h, hp, h2]
  rw [show (sx 0 0 l).length = (signs (alW way) (sx 0 0 l)).length from (signs_length _ _).symm, List.take_left]

/-- six bits of a number, and of numbers -/
def six (v : Nat) : List Nat := (List.range 6).map fun r => v / 2 ^ (5 - r) % 2
theorem six_length (v : Nat) : (six v).length = 6 := by simp [six]
theorem six_take (v r : Nat) (h : r < 6) : (six v).take (r + 1) = (six v).take r ++ [v / 2 ^ (5 - r) % 2] := by
  rw [List.take_add_one]
  congr 1
  simp [six, h]
theorem six_eq (v : Nat) : six v = [v / 32 % 2, v / 16 % 2, v / 8 % 2, v / 4 % 2, v / 2 % 2, v % 2] := by
  simp [six, List.range, List.range.loop]
def flat6 (vs : List Nat) : List Nat := vs.flatMap six
theorem flat6_length (vs : List Nat) : (flat6 vs).length = 6 * vs.length := by
  induction vs with
  | nil => rfl
  | cons v vs ih => rw [flat6, List.flatMap_cons, List.length_append, six_length, ← flat6, ih, List.length_cons]; omega
theorem flat6_snoc (vs : List Nat) (v : Nat) : flat6 (vs ++ [v]) = flat6 vs ++ six v := by simp [flat6]
theorem flat6_lt (vs : List Nat) : ∀ n ∈ flat6 vs, n < 2 := by
  intro n hn
  simp only [flat6, List.mem_flatMap, six, List.mem_map] at hn
  obtain ⟨x, _, r, _, rfl⟩ := hn
  exact Nat.mod_lt _ (by omega)
theorem flat6_sx : ∀ l : List UInt8, ∃ z, flat6 (sx 0 0 l) = cbits l ++ List.replicate z 0
  | [] => ⟨0, rfl⟩
  | [x] => ⟨4, by
    have hx := x.toNat_lt
    have h2 : sx 0 0 [x] = [x.toNat / 4, x.toNat % 4 * 16] := by rw [sx0, sx]; rfl
    rw [h2]
    simp only [flat6, cbits, List.flatMap_cons, List.flatMap_nil, six_eq, bitsOf_eq, List.cons_append, List.nil_append, List.append_nil, List.replicate, List.cons.injEq, and_true]
    refine ⟨?_, ?_, ?_, ?_, ?_, ?_, ?_, ?_, ?_, ?_, ?_, ?_⟩ <;> first | omega | trivial⟩
  | [x, y] => ⟨2, by
    have hx := x.toNat_lt
    have hy := y.toNat_lt
    have h2 : sx 0 0 [x, y] = [x.toNat / 4, x.toNat % 4 * 16 + y.toNat / 16, y.toNat % 16 * 4] := by rw [sx0, sx2, sx]; rfl
    rw [h2]
    simp only [flat6, cbits, List.flatMap_cons, List.flatMap_nil, six_eq, bitsOf_eq, List.cons_append, List.nil_append, List.append_nil, List.replicate, List.cons.injEq, and_true]
    refine ⟨?_, ?_, ?_, ?_, ?_, ?_, ?_, ?_, ?_, ?_, ?_, ?_, ?_, ?_, ?_, ?_, ?_, ?_⟩ <;> first | omega | trivial⟩
  | x :: y :: z :: t => by
    obtain ⟨p, ih⟩ := flat6_sx t
    refine ⟨p, ?_⟩
    have hx := x.toNat_lt
    have hy := y.toNat_lt
    have hz := z.toNat_lt
    rw [sx0, sx2, sx4]
    rw [flat6] at ih
    rw [cbits] at ih
    simp only [flat6, cbits, List.flatMap_cons, ih, six_eq, bitsOf_eq, List.cons_append, List.nil_append, List.cons.injEq, and_true]
    refine ⟨?_, ?_, ?_, ?_, ?_, ?_, ?_, ?_, ?_, ?_, ?_, ?_, ?_, ?_, ?_, ?_, ?_, ?_, ?_, ?_, ?_, ?_, ?_, ?_⟩ <;> first | omega | trivial
theorem bv8 (b : List Nat) (s : Nat) : bv b s 8 = ((((((b.getD s 0 * 2 + b.getD (s + 1) 0) * 2 + b.getD (s + 2) 0) * 2 + b.getD (s + 3) 0) * 2 + b.getD (s + 4) 0) * 2 + b.getD (s + 5) 0) * 2 + b.getD (s + 6) 0) * 2 + b.getD (s + 7) 0 := by
  simp [bv]
theorem getD_bits (x : UInt8) (t : List Nat) (j : Nat) : (bitsOf x ++ t).getD (8 + j) 0 = t.getD j 0 := by
  rw [bitsOf_eq, show 8 + j = j + 1 + 1 + 1 + 1 + 1 + 1 + 1 + 1 by omega]
  simp only [List.cons_append, List.nil_append, List.getD_cons_succ]
theorem bv_cbits (R : List Nat) : ∀ (l : List UInt8) (k : Nat), k < l.length → bv (cbits l ++ R) (8 * k) 8 = (at8 l k).toNat
  | [], k, h => by simp at h
  | x :: l, 0, _ => by
    have hx := x.toNat_lt
    rw [bv8, cbits, List.flatMap_cons, bitsOf_eq]
    simp only [List.cons_append, List.nil_append, Nat.mul_zero, Nat.zero_add, List.getD_cons_succ, List.getD_cons_zero]
    show _ = x.toNat
    omega
  | x :: l, k + 1, h => by
    have ih := bv_cbits R l k (by simpa using h)
    rw [bv8] at ih ⊢
    rw [show at8 (x :: l) (k + 1) = at8 l k from rfl, ← ih, show cbits (x :: l) ++ R = bitsOf x ++ (cbits l ++ R) by simp [cbits], show 8 * (k + 1) = 8 + 8 * k by omega]
    simp only [Nat.add_assoc, getD_bits]
/-- the bytes of bits -/
def bytesOf (b : List Nat) (k : Nat) : List UInt8 := (List.range k).map fun i => UInt8.ofNat (bv b (8 * i) 8)
theorem bytesOf_length (b : List Nat) (k : Nat) : (bytesOf b k).length = k := by simp [bytesOf]
theorem bytesOf_succ (b : List Nat) (k : Nat) : bytesOf b (k + 1) = bytesOf b k ++ [UInt8.ofNat (bv b (8 * k) 8)] := by simp [bytesOf, List.range_succ]
theorem bytesOf_sx (l : List UInt8) (k : Nat) (h1 : 8 * k ≤ (flat6 (sx 0 0 l)).length) (h2 : ¬ 8 * k + 8 ≤ (flat6 (sx 0 0 l)).length) : bytesOf (flat6 (sx 0 0 l)) k = l := by
  have hk : k = l.length := by
    rw [flat6_length, sx_len l 0 0 (by omega)] at h1 h2
    omega
  subst hk
  obtain ⟨z, hz⟩ := flat6_sx l
  rw [hz]
  apply List.ext_getElem
  · exact bytesOf_length _ _
  · intro i h3 h4
    simp only [bytesOf, List.getElem_map, List.getElem_range]
    rw [bv_cbits _ l i h4]
    simp [at8, List.getD, h4]
end Go.Proofs.Ytbioclpobmgikaa
