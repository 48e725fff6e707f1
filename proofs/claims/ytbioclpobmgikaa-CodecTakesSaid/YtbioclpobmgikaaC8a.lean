/- Base64 back, by plain lists: what the program's decode finds, and that it undoes base64. -/
import Derived.Test.YtbioclpobmgikaaC6
import Derived.Lib.Strings
namespace Go.Proofs.Ytbioclpobmgikaa
open Go.RowKit

/-- a sign's number -/
def ix (way : Bool) (c : UInt8) : Option Nat := if Lib.indexByte (alW way) c < 0 then none else some (Lib.indexByte (alW way) c).toNat
theorem ix_idx (way : Bool) (c : UInt8) : Lib.indexByte (alW way) c = (ix way c).elim (-1) (fun n => (n : Int)) := by
  have := Lib.indexByte_ge (alW way) c
  unfold ix
  split
  · simp only [Option.elim_none]; omega
  · simp only [Option.elim_some]; omega
theorem ix_at (way : Bool) (c : UInt8) : ∀ n, ix way c = some n → n < 64 ∧ at8 (alW way) n = c :=
  all_bytes (p := fun c => ∀ n, ix way c = some n → n < 64 ∧ at8 (alW way) n = c) (by
    have h : ∀ way : Bool, ∀ m : Fin 256, (ix way (UInt8.ofNat m.val)).elim true (fun n => decide (n < 64) && at8 (alW way) n == UInt8.ofNat m.val) = true := by decide +kernel
    intro m n hn
    have := h way m
    rw [hn] at this
    simpa using this) c
theorem at_ix (way : Bool) (n : Nat) (h : n < 64) : ix way (at8 (alW way) n) = some n :=
  (show ∀ way : Bool, ∀ m : Fin 64, ix way (at8 (alW way) m.val) = some m.val by decide +kernel) way ⟨n, h⟩
theorem no_fill (way : Bool) : ix way 61 = none := by cases way <;> decide +kernel
/-- the bytes of signs; b bits are held, p of them -/
def dx (way : Bool) : Nat → Nat → List UInt8 → Option (List UInt8)
  | b, p, [] => if 6 ≤ b ∨ p ≠ 0 then none else some []
  | b, p, c :: t => (ix way c).bind fun v => if b = 0 then dx way 6 v t else (dx way (b - 2) ((p * 64 + v) % 2 ^ (b - 2)) t).map (UInt8.ofNat ((p * 64 + v) / 2 ^ (b - 2)) :: ·)
theorem sx_lt : ∀ (l : List UInt8) (b p : Nat), (b = 0 ∨ b = 2 ∨ b = 4) → p < 2 ^ b → ∀ n ∈ sx b p l, n < 64
  | [], b, p, h, hp, n, hn => by
    rcases h with rfl | rfl | rfl
    · simp [sx] at hn
    · simp [sx] at hn; omega
    · simp [sx] at hn; omega
  | x :: t, b, p, h, hp, n, hn => by
    have hx := x.toNat_lt
    rcases h with rfl | rfl | rfl
    · rw [sx0, List.mem_cons] at hn
      rcases hn with rfl | hn
      · omega
      · exact sx_lt t 2 _ (by omega) (by omega) n hn
    · rw [sx2, List.mem_cons] at hn
      rcases hn with rfl | hn
      · omega
      · exact sx_lt t 4 _ (by omega) (by omega) n hn
    · rw [sx4, List.mem_cons, List.mem_cons] at hn
      rcases hn with rfl | rfl | hn
      · omega
      · omega
      · exact sx_lt t 0 _ (by omega) (by omega) n hn
theorem signs_cons (al : List UInt8) (n : Nat) (t : List Nat) : signs al (n :: t) = at8 al n :: signs al t := rfl
theorem dx_cons (way : Bool) (b p n : Nat) (t : List UInt8) (h : n < 64) : dx way b p (at8 (alW way) n :: t) = if b = 0 then dx way 6 n t else (dx way (b - 2) ((p * 64 + n) % 2 ^ (b - 2)) t).map (UInt8.ofNat ((p * 64 + n) / 2 ^ (b - 2)) :: ·) := by
  rw [dx, at_ix way n h]; rfl
theorem u8_eq (x : UInt8) (n : Nat) (h : n = x.toNat) : UInt8.ofNat n = x := by subst h; simp
theorem dx_sx (way : Bool) : ∀ l : List UInt8, dx way 0 0 (signs (alW way) (sx 0 0 l)) = some l
  | [] => by simp [sx, signs, dx]
  | [x] => by
    have hx := x.toNat_lt
    rw [sx0, sx, if_neg (by decide), if_pos rfl, signs_cons, signs_cons, dx_cons way _ _ _ _ (by omega), if_pos rfl, dx_cons way _ _ _ _ (by omega), if_neg (by decide)]
    simp only [signs, List.map_nil, dx]
    rw [if_neg (by omega)]
    simp only [Option.map_some]
    rw [u8_eq x _ (by omega)]
  | [x, y] => by
    have hx := x.toNat_lt
    have hy := y.toNat_lt
    rw [sx0, sx2, sx, if_neg (by decide), if_neg (by decide), signs_cons, signs_cons, signs_cons, dx_cons way _ _ _ _ (by omega), if_pos rfl, dx_cons way _ _ _ _ (by omega), if_neg (by decide), dx_cons way _ _ _ _ (by omega), if_neg (by decide)]
    simp only [signs, List.map_nil, dx]
    rw [if_neg (by omega)]
    simp only [Option.map_some]
    rw [u8_eq x _ (by omega), u8_eq y _ (by omega)]
  | x :: y :: z :: t => by
    have hx := x.toNat_lt
    have hy := y.toNat_lt
    have hz := z.toNat_lt
    rw [sx0, sx2, sx4, signs_cons, signs_cons, signs_cons, signs_cons, dx_cons way _ _ _ _ (by omega), if_pos rfl, dx_cons way _ _ _ _ (by omega), if_neg (by decide), dx_cons way _ _ _ _ (by omega), if_neg (by decide), dx_cons way _ _ _ _ (by omega), if_neg (by decide)]
    rw [show ((((x.toNat / 4 * 64 + (x.toNat % 4 * 16 + y.toNat / 16)) % 2 ^ (6 - 2)) * 64 + (y.toNat % 16 * 4 + z.toNat / 64)) % 2 ^ (6 - 2 - 2) * 64 + z.toNat % 64) % 2 ^ (6 - 2 - 2 - 2) = 0 by omega, dx_sx way t]
    simp only [Option.map_some]
    rw [u8_eq x _ (by omega), u8_eq y _ (by omega), u8_eq z _ (by omega)]
theorem dx_back (way : Bool) : ∀ (s l : List UInt8), dx way 0 0 s = some l → signs (alW way) (sx 0 0 l) = s
  | [], l, h => by
    simp [dx] at h; subst h; rfl
  | [a], l, h => by
    rw [dx] at h
    cases ha : ix way a with
    | none => rw [ha] at h; cases h
    | some u => rw [ha] at h; simp [dx] at h
  | [a, b], l, h => by
    rw [dx] at h
    cases ha : ix way a with
    | none => rw [ha] at h; cases h
    | some u =>
      rw [ha, Option.bind_some, if_pos rfl, dx] at h
      cases hb : ix way b with
      | none => rw [hb] at h; cases h
      | some v =>
        obtain ⟨hu, hua⟩ := ix_at way a u ha
        obtain ⟨hv, hvb⟩ := ix_at way b v hb
        rw [hb, Option.bind_some, if_neg (by decide), dx] at h
        split at h
        · cases h
        · rename_i hz
          simp only [Option.map_some] at h
          injection h with h
          subst h
          have hn : (UInt8.ofNat ((u * 64 + v) / 2 ^ (6 - 2))).toNat = (u * 64 + v) / 2 ^ (6 - 2) := by simp; omega
          rw [sx0, sx, hn, if_neg (by decide), if_pos rfl]
          simp only [signs, List.map_cons, List.map_nil]
          rw [show (u * 64 + v) / 2 ^ (6 - 2) / 4 = u by omega, show (u * 64 + v) / 2 ^ (6 - 2) % 4 * 16 = v by omega, hua, hvb]
  | [a, b, c], l, h => by
    rw [dx] at h
    cases ha : ix way a with
    | none => rw [ha] at h; cases h
    | some u =>
      rw [ha, Option.bind_some, if_pos rfl, dx] at h
      cases hb : ix way b with
      | none => rw [hb] at h; cases h
      | some v =>
        rw [hb, Option.bind_some, if_neg (by decide), dx] at h
        cases hc : ix way c with
        | none => rw [hc] at h; cases h
        | some q =>
          obtain ⟨hu, hua⟩ := ix_at way a u ha
          obtain ⟨hv, hvb⟩ := ix_at way b v hb
          obtain ⟨hq, hqc⟩ := ix_at way c q hc
          rw [hc, Option.bind_some, if_neg (by decide), dx] at h
          split at h
          · cases h
          · rename_i hz
            simp only [Option.map_some] at h
            injection h with h
            subst h
            have hn : (UInt8.ofNat ((u * 64 + v) / 2 ^ (6 - 2))).toNat = (u * 64 + v) / 2 ^ (6 - 2) := by simp; omega
            have hm : (UInt8.ofNat (((u * 64 + v) % 2 ^ (6 - 2) * 64 + q) / 2 ^ (6 - 2 - 2))).toNat = ((u * 64 + v) % 2 ^ (6 - 2) * 64 + q) / 2 ^ (6 - 2 - 2) := by simp; omega
            rw [sx0, sx2, sx, hn, hm, if_neg (by decide), if_neg (by decide)]
            simp only [signs, List.map_cons, List.map_nil]
            have e1 : (u * 64 + v) / 2 ^ (6 - 2) / 4 = u := by omega
            have e2 : (u * 64 + v) / 2 ^ (6 - 2) % 4 * 16 + ((u * 64 + v) % 2 ^ (6 - 2) * 64 + q) / 2 ^ (6 - 2 - 2) / 16 = v := by omega
            have e3 : ((u * 64 + v) % 2 ^ (6 - 2) * 64 + q) / 2 ^ (6 - 2 - 2) % 16 * 4 = q := by omega
            rw [e1, e2, e3, hua, hvb, hqc]
  | a :: b :: c :: d :: t, l, h => by
    rw [dx] at h
    cases ha : ix way a with
    | none => rw [ha] at h; cases h
    | some u =>
      rw [ha, Option.bind_some, if_pos rfl, dx] at h
      cases hb : ix way b with
      | none => rw [hb] at h; cases h
      | some v =>
        rw [hb, Option.bind_some, if_neg (by decide), dx] at h
        cases hc : ix way c with
        | none => rw [hc] at h; cases h
        | some q =>
          rw [hc, Option.bind_some, if_neg (by decide), dx] at h
          cases hd : ix way d with
          | none => rw [hd] at h; cases h
          | some r =>
            obtain ⟨hu, hua⟩ := ix_at way a u ha
            obtain ⟨hv, hvb⟩ := ix_at way b v hb
            obtain ⟨hq, hqc⟩ := ix_at way c q hc
            obtain ⟨hr, hrd⟩ := ix_at way d r hd
            rw [hd, Option.bind_some, if_neg (by decide)] at h
            rw [show (((u * 64 + v) % 2 ^ (6 - 2) * 64 + q) % 2 ^ (6 - 2 - 2) * 64 + r) % 2 ^ (6 - 2 - 2 - 2) = 0 by omega, show 6 - 2 - 2 - 2 = 0 from rfl] at h
            cases ht : dx way 0 0 t with
            | none => rw [ht] at h; cases h
            | some l2 =>
              rw [ht] at h
              simp only [Option.map_some] at h
              injection h with h
              subst h
              have ih := dx_back way t l2 ht
              have hn : (UInt8.ofNat ((u * 64 + v) / 2 ^ (6 - 2))).toNat = (u * 64 + v) / 2 ^ (6 - 2) := by simp; omega
              have hm : (UInt8.ofNat (((u * 64 + v) % 2 ^ (6 - 2) * 64 + q) / 2 ^ (6 - 2 - 2))).toNat = ((u * 64 + v) % 2 ^ (6 - 2) * 64 + q) / 2 ^ (6 - 2 - 2) := by simp; omega
              have hk : (UInt8.ofNat ((((u * 64 + v) % 2 ^ (6 - 2) * 64 + q) % 2 ^ (6 - 2 - 2) * 64 + r) / 2 ^ 0)).toNat = ((u * 64 + v) % 2 ^ (6 - 2) * 64 + q) % 2 ^ (6 - 2 - 2) * 64 + r := by simp; omega
              rw [sx0, sx2, sx4, hn, hm, hk]
              simp only [signs_cons]
              rw [ih]
              have e1 : (u * 64 + v) / 2 ^ (6 - 2) / 4 = u := by omega
              have e2 : (u * 64 + v) / 2 ^ (6 - 2) % 4 * 16 + ((u * 64 + v) % 2 ^ (6 - 2) * 64 + q) / 2 ^ (6 - 2 - 2) / 16 = v := by omega
              have e3 : ((u * 64 + v) % 2 ^ (6 - 2) * 64 + q) / 2 ^ (6 - 2 - 2) % 16 * 4 + (((u * 64 + v) % 2 ^ (6 - 2) * 64 + q) % 2 ^ (6 - 2 - 2) * 64 + r) / 64 = q := by omega
              have e4 : (((u * 64 + v) % 2 ^ (6 - 2) * 64 + q) % 2 ^ (6 - 2 - 2) * 64 + r) % 64 = r := by omega
              rw [e1, e2, e3, e4, hua, hvb, hqc, hrd]
end Go.Proofs.Ytbioclpobmgikaa
