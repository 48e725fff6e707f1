/- Plain facts: a text taken block by block; what is held of it. -/
import Derived.Test.YtbioclpobmgikaaDoorM1
namespace Go.Proofs.YtbioclpobmgikaaDoor
open Go.RowKit

def feedN : Nat → S8 → List UInt8 → S8
  | 0, s, _ => s
  | k + 1, s, l => feedN k (comp s (l.take 64)) (l.drop 64)
/-- the whole blocks of a text, taken -/
def feed (s : S8) (l : List UInt8) : S8 := feedN (l.length / 64) s l

theorem feedN_append (j k : Nat) : ∀ (s : S8) (a b : List UInt8), a.length = 64 * j → feedN (j + k) s (a ++ b) = feedN k (feedN j s a) b := by
  induction j with
  | zero =>
    intro s a b h
    have : a = [] := List.eq_nil_of_length_eq_zero (by omega)
    subst this
    simp [feedN]
  | succ j ih =>
    intro s a b h
    rw [show j + 1 + k = (j + k) + 1 by omega]
    simp only [feedN]
    rw [List.take_append_of_le_length (by omega), List.drop_append_of_le_length (by omega)]
    exact ih _ _ _ (by simp; omega)
theorem feedN_whole (k : Nat) : ∀ (s : S8) (a b : List UInt8), a.length = 64 * k → feedN k s (a ++ b) = feedN k s a := by
  induction k with
  | zero => intros; rfl
  | succ k ih =>
    intro s a b h
    simp only [feedN]
    rw [List.take_append_of_le_length (by omega), List.drop_append_of_le_length (by omega)]
    exact ih _ _ _ (by simp; omega)
theorem feed_append (s : S8) (a b : List UInt8) (h : a.length % 64 = 0) : feed s (a ++ b) = feed (feed s a) b := by
  unfold feed
  rw [List.length_append, show (a.length + b.length) / 64 = a.length / 64 + b.length / 64 by omega]
  exact feedN_append _ _ _ _ _ (by omega)
theorem feed_short (s : S8) (a : List UInt8) (h : a.length < 64) : feed s a = s := by
  unfold feed
  rw [show a.length / 64 = 0 by omega]
  rfl
theorem feed_block (s : S8) (a : List UInt8) (h : a.length = 64) : feed s a = comp s a := by
  unfold feed
  rw [h]
  show feedN 1 s a = _
  simp only [feedN]
  rw [List.take_of_length_le (by omega)]

/-- the whole blocks of a text, and what stands behind them -/
def whole (l : List UInt8) : List UInt8 := l.take (l.length / 64 * 64)
def rest (l : List UInt8) : List UInt8 := l.drop (l.length / 64 * 64)
theorem whole_rest (l : List UInt8) : whole l ++ rest l = l := List.take_append_drop _ _
theorem whole_length (l : List UInt8) : (whole l).length % 64 = 0 := by simp [whole]; omega
theorem rest_length (l : List UInt8) : (rest l).length = l.length % 64 := by simp [rest]; omega
theorem feed_more (s : S8) (l c : List UInt8) : feed s (l ++ c) = feed (feed s l) (rest l ++ c) := by
  have h : feed s l = feed s (whole l) := by
    rw [← whole_rest l, feed_append _ _ _ (whole_length l), whole_rest]
    exact feed_short _ _ (by rw [rest_length]; omega)
  rw [h, ← feed_append _ _ _ (whole_length l), ← List.append_assoc, whole_rest]
theorem rest_more (l c : List UInt8) (h : l.length % 64 + c.length < 64) : rest (l ++ c) = rest l ++ c := by
  unfold rest
  rw [List.length_append, show (l.length + c.length) / 64 * 64 = l.length / 64 * 64 by omega, List.drop_append_of_le_length (by omega)]
theorem rest_full (l c : List UInt8) (h : l.length % 64 + c.length = 64) : rest (l ++ c) = [] := by
  apply List.eq_nil_of_length_eq_zero
  rw [rest_length, List.length_append]
  omega

/-- a hash's numbers, what it holds: those of this text -/
structure Rep (l : List UInt8) (s : S8) (held : List UInt8) : Prop where
  st : s = feed H0 l
  len : held.length = 64
  keeps : held.take (l.length % 64) = rest l

/-- bytes laid over others -/
def over (held : List UInt8) (at_ : Nat) (c : List UInt8) : List UInt8 := held.take at_ ++ (c ++ held.drop (at_ + c.length))
theorem over_length (held : List UInt8) (i : Nat) (c : List UInt8) (h : i + c.length ≤ held.length) : (over held i c).length = held.length := by
  simp [over]; omega

theorem Rep.some {l : List UInt8} {s : S8} {held : List UInt8} (h : Rep l s held) (c : List UInt8) (hc : l.length % 64 + c.length < 64) : Rep (l ++ c) s (over held (l.length % 64) c) := by
  have hl := h.len
  refine ⟨?_, by rw [over_length _ _ _ (by omega), hl], ?_⟩
  · rw [feed_more, ← h.st, feed_short _ _ (by rw [List.length_append, rest_length]; omega)]
  · rw [rest_more _ _ hc, ← h.keeps, List.length_append, show (l.length + c.length) % 64 = l.length % 64 + c.length by omega]
    unfold over
    rw [← List.append_assoc, List.take_append_of_le_length (by simp; omega), List.take_of_length_le (by simp; omega)]
theorem Rep.full {l : List UInt8} {s : S8} {held : List UInt8} (h : Rep l s held) (c : List UInt8) (hc : l.length % 64 + c.length = 64) :
    Rep (l ++ c) (comp s (over held (l.length % 64) c)) (over held (l.length % 64) c) := by
  have hl := h.len
  have ho : over held (l.length % 64) c = rest l ++ c := by
    unfold over
    rw [h.keeps, List.drop_of_length_le (by omega), List.append_nil]
  refine ⟨?_, by rw [over_length _ _ _ (by omega), hl], ?_⟩
  · rw [feed_more, ← h.st, ho, feed_block _ _ (by rw [List.length_append, rest_length]; omega)]
  · rw [rest_full _ _ hc, List.length_append, show (l.length + c.length) % 64 = 0 by omega, List.take_zero]
theorem Rep.new : Rep [] H0 (List.replicate 64 0) := ⟨by simp [feed, feedN], by simp, by simp [rest]⟩

/-- how many noughts fill a text of n bytes -/
def zpad (n : Nat) : Nat := (119 - n % 64) % 64
theorem zpad_spec (n : Nat) : (n + 1 + zpad n) % 64 = 56 := by unfold zpad; omega
/-- a text's length in bits, eight bytes -/
def len8 (n : Nat) : List UInt8 := (List.range 8).map fun i => UInt8.ofNat (n * 8 / 2 ^ (56 - 8 * i))
def pad (l : List UInt8) : List UInt8 := l ++ (128 :: List.replicate (zpad l.length) 0) ++ len8 l.length
/-- a number's four bytes -/
def out4 (x : W) : List UInt8 := [UInt8.ofNat (x.toNat / 16777216), UInt8.ofNat (x.toNat / 65536), UInt8.ofNat (x.toNat / 256), UInt8.ofNat x.toNat]
def S8.out (s : S8) : List UInt8 := s.l.flatMap out4
/-- THE DIGEST. -/
def sha (l : List UInt8) : List UInt8 := (feed H0 (pad l)).out
theorem out_length (s : S8) : s.out.length = 32 := by simp [S8.out, S8.l, out4]
theorem sha_length (l : List UInt8) : (sha l).length = 32 := out_length _

end Go.Proofs.YtbioclpobmgikaaDoor
