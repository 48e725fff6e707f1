/- Hexadecimal, and which texts are names: plain facts. -/
import Derived.Test.YtbioclpobmgikaaDoorM3
import Derived.Lib.Strings
import Derived.Lib.Bytealg
namespace Go.Proofs.YtbioclpobmgikaaDoor
open Go.RowKit

/-- a list's bytes as a text -/
def St (l : List UInt8) : ByteArray := ⟨l.toArray⟩
theorem St_list (l : List UInt8) : (St l).data.toList = l := rfl
theorem St_size (l : List UInt8) : (St l).size = l.length := rfl
theorem St_append (a b : List UInt8) : St a ++ St b = St (a ++ b) := by
  apply ByteArray.ext
  simp [St]
theorem St_of (s : ByteArray) : St s.data.toList = s := rfl
theorem St_inj {a b : List UInt8} (h : St a = St b) : a = b := congrArg (fun s : ByteArray => s.data.toList) h
theorem St_eq (a b : List UInt8) : decide (St a = St b) = decide (a = b) := by
  rw [decide_eq_decide]
  exact ⟨St_inj, fun h => by rw [h]⟩

/-- a figure's sign, and a sign's figure -/
def hx (n : Nat) : UInt8 := if n < 10 then UInt8.ofNat (48 + n) else UInt8.ofNat (87 + n)
def hv (c : UInt8) : Option Nat := if 48 ≤ c.toNat ∧ c.toNat ≤ 57 then some (c.toNat - 48) else if 97 ≤ c.toNat ∧ c.toNat ≤ 102 then some (c.toNat - 87) else none
def figs : List UInt8 := [48, 49, 50, 51, 52, 53, 54, 55, 56, 57, 97, 98, 99, 100, 101, 102]
theorem all_bytes {p : UInt8 → Prop} (h : ∀ n : Fin 256, p (UInt8.ofNat n.val)) (c : UInt8) : p c := by
  have := h ⟨c.toNat, c.toNat_lt⟩
  simpa using this
theorem idx_fig (c : UInt8) : Lib.indexByte figs c = (hv c).elim (-1) (fun n => (n : Int)) :=
  all_bytes (p := fun c => Lib.indexByte figs c = (hv c).elim (-1) (fun n => (n : Int))) (by decide +kernel) c
theorem hv_lt (c : UInt8) (n : Nat) (h : hv c = some n) : n < 16 := by
  unfold hv at h
  split at h
  · injection h with h; omega
  · split at h
    · injection h with h; omega
    · cases h
theorem hv_hx (n : Nat) (h : n < 16) : hv (hx n) = some n :=
  (show ∀ m : Fin 16, hv (hx m.val) = some m.val by decide +kernel) ⟨n, h⟩
theorem hx_hv (c : UInt8) : ∀ n, hv c = some n → hx n = c :=
  all_bytes (p := fun c => ∀ n, hv c = some n → hx n = c) (by
    have h : ∀ m : Fin 256, (hv (UInt8.ofNat m.val)).elim true (fun n => hx n == UInt8.ofNat m.val) = true := by decide +kernel
    intro m n hn
    have := h m
    rw [hn] at this
    simpa using this) c
theorem fig_hx (n : Nat) (h : n < 16) : figs[n]? = some (hx n) :=
  (show ∀ m : Fin 16, figs[m.val]? = some (hx m.val) by decide +kernel) ⟨n, h⟩

/-- bytes as hexadecimal -/
def hexL (l : List UInt8) : List UInt8 := l.flatMap fun x => [hx (x.toNat / 16), hx (x.toNat % 16)]
theorem hexL_nil : hexL [] = [] := rfl
theorem hexL_cons (x : UInt8) (l : List UInt8) : hexL (x :: l) = hx (x.toNat / 16) :: hx (x.toNat % 16) :: hexL l := rfl
theorem hexL_append (a b : List UInt8) : hexL (a ++ b) = hexL a ++ hexL b := by simp [hexL]
theorem hexL_length (l : List UInt8) : (hexL l).length = 2 * l.length := by
  induction l with
  | nil => rfl
  | cons x l ih => rw [hexL_cons]; simp [ih]; omega
theorem hexL_snoc (l : List UInt8) (k : Nat) (h : k < l.length) : hexL (l.take (k + 1)) = hexL (l.take k) ++ [hx ((at8 l k).toNat / 16), hx ((at8 l k).toNat % 16)] := by
  rw [List.take_add_one, hexL_append]
  simp [h, hexL, at8]

/-- the bytes of a hexadecimal text -/
def unhexL : List UInt8 → Option (List UInt8)
  | [] => some []
  | [_] => none
  | a :: b :: t => (hv a).bind fun x => (hv b).bind fun y => (unhexL t).bind fun r => some (UInt8.ofNat (16 * x + y) :: r)
theorem unhexL_hexL (l : List UInt8) : unhexL (hexL l) = some l := by
  induction l with
  | nil => rfl
  | cons x l ih =>
    have h := x.toNat_lt
    rw [hexL_cons, unhexL, hv_hx _ (by omega), hv_hx _ (by omega), ih]
    simp only [Option.bind_some]
    rw [show 16 * (x.toNat / 16) + x.toNat % 16 = x.toNat by omega]
    simp
theorem hexL_unhexL : ∀ (f b : List UInt8), unhexL f = some b → hexL b = f := by
  intro f
  induction f using unhexL.induct with
  | case1 => intro b h; simp only [unhexL] at h; injection h with h; subst h; rfl
  | case2 => intro b h; simp [unhexL] at h
  | case3 a c t ih =>
    intro b h
    rw [unhexL] at h
    cases h1 : hv a with
    | none => rw [h1] at h; simp at h
    | some x =>
      cases h2 : hv c with
      | none => rw [h1, h2] at h; simp at h
      | some y =>
        cases h3 : unhexL t with
        | none => rw [h1, h2, h3] at h; simp at h
        | some r =>
          rw [h1, h2, h3] at h
          simp only [Option.bind_some] at h
          injection h with h
          subst h
          have l1 := hv_lt a x h1
          have l2 := hv_lt c y h2
          rw [hexL_cons, ih r h3]
          have e : (UInt8.ofNat (16 * x + y)).toNat = 16 * x + y := by simp; omega
          rw [e, show (16 * x + y) / 16 = x by omega, show (16 * x + y) % 16 = y by omega, hx_hv a x h1, hx_hv c y h2]
theorem unhexL_iff : ∀ f : List UInt8, (unhexL f).isSome = (f.length % 2 == 0 && f.all fun c => (hv c).isSome) := by
  intro f
  induction f using unhexL.induct with
  | case1 => rfl
  | case2 => simp [unhexL]
  | case3 a c t ih =>
    rw [unhexL]
    simp only [List.length_cons, List.all_cons]
    rw [show (t.length + 1 + 1) % 2 = t.length % 2 by omega]
    cases h1 : hv a with
    | none => simp
    | some x =>
      cases h2 : hv c with
      | none => simp
      | some y =>
        cases h3 : unhexL t with
        | none => rw [h3] at ih; simp only [Option.bind_some, Option.bind_none, Option.isSome_none, Option.isSome_some, Bool.true_and] at ih ⊢; exact ih
        | some r => rw [h3] at ih; simp only [Option.bind_some, Option.isSome_some, Bool.true_and] at ih ⊢; exact ih
theorem unhexL_length (f b : List UInt8) (h : unhexL f = some b) : f.length = 2 * b.length := by
  rw [← hexL_unhexL f b h, hexL_length]
/-- its first pairs -/
theorem unhexL_pair (a b : UInt8) (t : List UInt8) : unhexL (a :: b :: t) = (hv a).bind fun x => (hv b).bind fun y => (unhexL t).bind fun r => some (UInt8.ofNat (16 * x + y) :: r) := by rw [unhexL]

/-- 'sha256:' -/
def nameP : List UInt8 := [115, 104, 97, 50, 53, 54, 58]
def nameOf (l : List UInt8) : List UInt8 := nameP ++ hexL (sha l)
theorem nameOf_length (l : List UInt8) : (nameOf l).length = 71 := by simp [nameOf, hexL_length, sha_length, nameP]
/-- is it a name? -/
def isName (l : List UInt8) : Bool := l.length == 71 && (l.take 7 == nameP && (l.drop 7).all fun c => (hv c).isSome)
/-- the digest of a name -/
def parseL (l : List UInt8) : Option (List UInt8) := if Lib.hasPrefix l nameP then (unhexL (l.drop 7)).bind fun b => if b.length = 32 then some b else none else none
theorem prefix_iff (l : List UInt8) : Lib.hasPrefix l nameP = true ↔ l.take 7 = nameP := by
  unfold Lib.hasPrefix
  rw [List.isPrefixOf_iff_prefix, List.prefix_iff_eq_take]
  exact ⟨fun h => h.symm, fun h => h.symm⟩
theorem prefix_split (l : List UInt8) (h : Lib.hasPrefix l nameP = true) : l = nameP ++ l.drop 7 := by
  rw [← (prefix_iff l).1 h, List.take_append_drop]
theorem parse_isSome (l : List UInt8) : (parseL l).isSome = isName l := by
  unfold parseL isName
  by_cases h : Lib.hasPrefix l nameP = true
  · have ht := (prefix_iff l).1 h
    have hl : l.length = 7 + (l.drop 7).length := by
      conv => lhs; rw [prefix_split l h]
      simp [nameP]; omega
    rw [if_pos h, ht]
    simp only [beq_self_eq_true, Bool.true_and]
    generalize l.drop 7 = f at *
    have hi := unhexL_iff f
    cases hu : unhexL f with
    | none =>
      rw [hu] at hi
      simp only [Option.bind_none, Option.isSome_none] at hi ⊢
      by_cases h71 : l.length = 71
      · have : f.length % 2 = 0 := by omega
        rw [this] at hi
        simp only [beq_self_eq_true, Bool.true_and] at hi
        rw [← hi, Bool.and_false]
      · rw [beq_eq_false_iff_ne.2 h71, Bool.false_and]
    | some b =>
      rw [hu] at hi
      have hb := unhexL_length f b hu
      simp only [Option.bind_some, Option.isSome_some] at hi ⊢
      have ha : (f.all fun c => (hv c).isSome) = true := by
        rw [eq_comm, Bool.and_eq_true] at hi
        exact hi.2
      rw [ha, Bool.and_true]
      by_cases h32 : b.length = 32
      · rw [if_pos h32, show l.length = 71 by omega]; rfl
      · rw [if_neg h32, beq_eq_false_iff_ne.2 (by omega)]; rfl
  · rw [if_neg h]
    have ht : (l.take 7 == nameP) = false := by
      rw [beq_eq_false_iff_ne]
      exact fun e => h ((prefix_iff l).2 e)
    rw [ht]
    simp
theorem parse_name (l b : List UInt8) (h : parseL l = some b) : l = nameP ++ hexL b ∧ b.length = 32 := by
  unfold parseL at h
  by_cases hp : Lib.hasPrefix l nameP = true
  · rw [if_pos hp] at h
    cases hu : unhexL (l.drop 7) with
    | none => rw [hu] at h; simp at h
    | some c =>
      rw [hu] at h
      simp only [Option.bind_some] at h
      by_cases h32 : c.length = 32
      · rw [if_pos h32] at h
        injection h with h
        subst h
        exact ⟨by rw [hexL_unhexL _ _ hu]; exact prefix_split l hp, h32⟩
      · rw [if_neg h32] at h; cases h
  · rw [if_neg hp] at h; cases h
theorem parse_of_name (b : List UInt8) (h : b.length = 32) : parseL (nameP ++ hexL b) = some b := by
  unfold parseL
  have hp : Lib.hasPrefix (nameP ++ hexL b) nameP = true := by rw [prefix_iff]; rfl
  rw [if_pos hp, show (nameP ++ hexL b).drop 7 = hexL b from rfl, unhexL_hexL]
  simp [h]
theorem hexL_inj {a b : List UInt8} (h : hexL a = hexL b) : a = b := by
  have := unhexL_hexL a
  rw [h, unhexL_hexL] at this
  exact (Option.some.inj this).symm
theorem nameOf_parse (l : List UInt8) : parseL (nameOf l) = some (sha l) := parse_of_name _ (sha_length l)
theorem nameOf_is (l : List UInt8) : isName (nameOf l) = true := by rw [← parse_isSome, nameOf_parse]; rfl
/-- a name is a blob's just where its digest is -/
theorem name_eq_iff (n l b : List UInt8) (h : parseL n = some b) : n = nameOf l ↔ b = sha l := by
  obtain ⟨rfl, _⟩ := parse_name n b h
  unfold nameOf
  constructor
  · intro e
    exact hexL_inj (List.append_cancel_left e)
  · rintro rfl; rfl
end Go.Proofs.YtbioclpobmgikaaDoor
