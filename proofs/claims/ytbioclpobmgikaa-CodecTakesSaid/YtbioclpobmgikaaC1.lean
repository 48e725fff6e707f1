/- Bytes in slices and texts; hexadecimal by plain lists. -/
import Derived.WalkKit
import Derived.IntWalk
import Derived.StillTailTactics
import Derived.Lib.Hide
import Derived.Laws.AppendOwn
import Derived.Laws.AppendOwnNone
import Derived.Laws.Rows
import Derived.Laws.IdiomStrings
import Derived.Laws.Concat
import Derived.Lib.Strings
import Derived.Lib.Bytealg
import Derived.BigRegion
import Derived.BigQuiet
import Derived.Test.YtbioclpobmgikaaChecked
namespace Go.Proofs.Ytbioclpobmgikaa
open Go.RowKit

/-- element i; a definition of its own, which no rule opens -/
def at8 (l : List UInt8) (i : Nat) : UInt8 := l.getD i 0
def Bs (l : List UInt8) : List Value := l.map fun x => Value.int .u8 (x.toNat : Int)
theorem Bs_length (l : List UInt8) : (Bs l).length = l.length := by simp [Bs]
theorem Bs_get (l : List UInt8) (i : Nat) (h : i < l.length) : (Bs l)[i]? = some (.int .u8 ((at8 l i).toNat : Int)) := by
  simp [Bs, at8, h]
theorem info5 : (Try.prog.info? 5).map (·.size) = some 1 := by kernel_rfl
theorem Bs_mem (l : List UInt8) : ∀ v ∈ Bs l, v.oneCell' = true := by
  intro v hv
  simp only [Bs, List.mem_map] at hv
  obtain ⟨x, _, rfl⟩ := hv
  rfl
/-- a slice's bytes -/
def BytesAt (w : World) (A : Option Addr) (l : List UInt8) : Prop := ∀ j, j < l.length → ∃ a, A = some a ∧ w.cell? (a.add j) = some (.int .u8 ((at8 l j).toNat : Int))
theorem add_block (a : Addr) (j : Nat) : (a.add j).block = a.block := by unfold Addr.add; split <;> rfl
theorem BytesAt.below {w w' : World} {A : Option Addr} {l : List UInt8} (h : BytesAt w A l) (hb : Below w.heap.size w w') : BytesAt w' A l := fun j hj => by
  obtain ⟨a, rfl, hc⟩ := h j hj
  exact ⟨a, rfl, (hb.cell (p := a.add j) (World.block_lt_of_cell? w _ hc)).trans hc⟩
theorem info5' : (Try.prog.info? 5).map (fun i => (i.zero, i.size, i.bytes)) = some (some (.int .u8 0), 1, 1) := by kernel_rfl
theorem zero5 : ∃ i, Try.prog.info? 5 = some i ∧ i.zero = some (.int .u8 0) ∧ i.size = 1 ∧ i.bytes = 1 := by
  have h := info5'
  cases hi : Try.prog.info? 5 with
  | none => rw [hi] at h; cases h
  | some i => rw [hi] at h; simp at h; exact ⟨i, rfl, h.1, h.2.1, h.2.2⟩
/-- bytes are appended, from wherever they lie -/
theorem wpList_append_bytes {w : World} {ops : Array Oper} {rest : List Oper} {o : Oper} {a : Act} {Q : Exit → Act → World → Prop} (hgd : o.guard = none) (s x : Operand)
    (ho : o.op = .call { callee := .builtin .append, args := #[s, x], argTypes := #[22, 22] })
    (base : Nat) (v : Value) (t : List UInt8) (hs : a.eval s = v) (hown : w.ownsRow base 5 1 v t.length (Bs t))
    (A : Option Addr) (bs : List UInt8) (c : Nat) (hx : a.eval x = .slice A bs.length c) (hby : BytesAt w A bs) (hn : A = none → c = 0)
    (h63 : t.length + bs.length ≤ 140737488355328) (hbase : base ≤ w.heap.size)
    (h : ∀ v' w', w'.ownsRow base 5 1 v' (t.length + bs.length) (Bs t ++ Bs bs) → w.grownBy w' v.ownBlock → (v' = .slice none 0 0 ↔ v = .slice none 0 0 ∧ bs.length = 0) → wpList Try.prog ops Q rest (a.put o.dst v') w') :
    wpList Try.prog ops Q (o :: rest) a w := by
  obtain ⟨i0, hi0, hz0, hz1, hz2⟩ := zero5
  cases A with
  | some ad =>
    exact wpList_append_own w hgd s x 22 ho base 5 i0 _ 1 1 Try.underlying22 hi0 hz0 hz1 hz2 rfl (by decide) v _ _ hs hown ad bs.length c (Bs bs) hx (by rw [Bs_length]; omega)
      (fun j u hu => by
        have hj : j < bs.length := by rw [← Bs_length]; exact (List.getElem?_eq_some_iff.1 hu).1
        obtain ⟨a', ha, hc⟩ := hby j hj
        obtain rfl := Option.some.inj ha
        rw [hc, ← hu, Bs_get _ _ hj]) (Bs_mem _) (by unfold maxLen; omega) (by omega) hbase h
  | none =>
    obtain rfl := hn rfl
    have h0 : bs.length = 0 := by
      cases bs with
      | nil => rfl
      | cons b t => obtain ⟨a', ha, _⟩ := hby 0 (by simp); cases ha
    rw [h0] at hx
    have hbs : bs = [] := List.length_eq_zero_iff.1 h0
    refine wpList_append_own_none hgd s x 22 ho base 5 i0 1 Try.underlying22 hi0 v _ _ hs hown hx (h v w (by rw [hbs]; simpa [Bs] using hown) (World.grownBy.refl _ _) (by simp [h0]))
theorem BytesAt.alloc {w : World} {A : Option Addr} {l : List UInt8} (h : BytesAt w A l) (o : Obj) : BytesAt (w.alloc o) A l := h.below ((Below.refl _ _).alloc (Nat.le_refl _) _)
theorem bytes_new (w : World) (x : UInt8) (v : Int) (h : v = (x.toNat : Int)) : BytesAt (w.alloc (.cells #[.int .u8 v] 5)) (some ⟨w.heap.size, 0, none⟩) [x] := fun j hj => by
  subst h
  have : j = 0 := by simp at hj; exact hj
  subst this
  refine ⟨_, rfl, ?_⟩
  rw [show (⟨w.heap.size, 0, none⟩ : Addr).add 0 = ⟨w.heap.size, 0, none⟩ from rfl, World.cell?_alloc_new]
  rfl
/-- a list's bytes as a text -/
def St (l : List UInt8) : ByteArray := ⟨l.toArray⟩
theorem St_list (l : List UInt8) : (St l).data.toList = l := rfl
theorem St_size (l : List UInt8) : (St l).size = l.length := rfl
theorem St_append (a b : List UInt8) : St a ++ St b = St (a ++ b) := by
  apply ByteArray.ext
  simp [St]
theorem St_inj {a b : List UInt8} (h : St a = St b) : a = b := congrArg (fun s : ByteArray => s.data.toList) h
/-- a figure's sign, and a sign's figure -/
def hx (n : Nat) : UInt8 := if n < 10 then UInt8.ofNat (48 + n) else UInt8.ofNat (87 + n)
def hv (c : UInt8) : Option Nat := if 48 ≤ c.toNat ∧ c.toNat ≤ 57 then some (c.toNat - 48) else if 97 ≤ c.toNat ∧ c.toNat ≤ 102 then some (c.toNat - 87) else none
def figs : List UInt8 := [48, 49, 50, 51, 52, 53, 54, 55, 56, 57, 97, 98, 99, 100, 101, 102]
theorem all_bytes {p : UInt8 → Prop} (h : ∀ n : Fin 256, p (UInt8.ofNat n.val)) (c : UInt8) : p c := by
  have := h ⟨c.toNat, c.toNat_lt⟩
  simpa using this
theorem idx_fig (c : UInt8) : Lib.indexByte figs c = (hv c).elim (-1) (fun n => (n : Int)) :=
  all_bytes (p := fun c => Lib.indexByte figs c = (hv c).elim (-1) (fun n => (n : Int))) (by decide +kernel) c
theorem hv_lt (c : UInt8) (n : Nat) (h : hv c = some n) : n < 16 := by
  unfold hv at h
  split at h
  · injection h with h; omega
  · split at h
    · injection h with h; omega
    · cases h
theorem hv_hx (n : Nat) (h : n < 16) : hv (hx n) = some n :=
  (show ∀ m : Fin 16, hv (hx m.val) = some m.val by decide +kernel) ⟨n, h⟩
theorem hx_hv (c : UInt8) : ∀ n, hv c = some n → hx n = c :=
  all_bytes (p := fun c => ∀ n, hv c = some n → hx n = c) (by
    have h : ∀ m : Fin 256, (hv (UInt8.ofNat m.val)).elim true (fun n => hx n == UInt8.ofNat m.val) = true := by decide +kernel
    intro m n hn
    have := h m
    rw [hn] at this
    simpa using this) c
theorem fig_hx (n : Nat) (h : n < 16) : figs[n]? = some (hx n) :=
  (show ∀ m : Fin 16, figs[m.val]? = some (hx m.val) by decide +kernel) ⟨n, h⟩
/-- bytes as hexadecimal -/
def hexL (l : List UInt8) : List UInt8 := l.flatMap fun x => [hx (x.toNat / 16), hx (x.toNat % 16)]
theorem hexL_nil : hexL [] = [] := rfl
theorem hexL_cons (x : UInt8) (l : List UInt8) : hexL (x :: l) = hx (x.toNat / 16) :: hx (x.toNat % 16) :: hexL l := rfl
theorem hexL_append (a b : List UInt8) : hexL (a ++ b) = hexL a ++ hexL b := by simp [hexL]
theorem hexL_length (l : List UInt8) : (hexL l).length = 2 * l.length := by
  induction l with
  | nil => rfl
  | cons x l ih => rw [hexL_cons]; simp [ih]; omega
theorem hexL_snoc (l : List UInt8) (k : Nat) (h : k < l.length) : hexL (l.take (k + 1)) = hexL (l.take k) ++ [hx ((at8 l k).toNat / 16), hx ((at8 l k).toNat % 16)] := by
  rw [List.take_add_one, hexL_append]
  simp [h, hexL, at8]
/-- the bytes of a hexadecimal text -/
def unhexL : List UInt8 → Option (List UInt8)
  | [] => some []
  | [_] => none
  | a :: b :: t => (hv a).bind fun x => (hv b).bind fun y => (unhexL t).bind fun r => some (UInt8.ofNat (16 * x + y) :: r)
theorem unhexL_hexL (l : List UInt8) : unhexL (hexL l) = some l := by
  induction l with
  | nil => rfl
  | cons x l ih =>
    have h := x.toNat_lt
    rw [hexL_cons, unhexL, hv_hx _ (by omega), hv_hx _ (by omega), ih]
    simp only [Option.bind_some]
    rw [show 16 * (x.toNat / 16) + x.toNat % 16 = x.toNat by omega]
    simp
theorem hexL_unhexL : ∀ (f b : List UInt8), unhexL f = some b → hexL b = f := by
  intro f
  induction f using unhexL.induct with
  | case1 => intro b h; simp only [unhexL] at h; injection h with h; subst h; rfl
  | case2 => intro b h; simp [unhexL] at h
  | case3 a c t ih =>
    intro b h
    rw [unhexL] at h
    cases h1 : hv a with
    | none => rw [h1] at h; simp at h
    | some x =>
      cases h2 : hv c with
      | none => rw [h1, h2] at h; simp at h
      | some y =>
        cases h3 : unhexL t with
        | none => rw [h1, h2, h3] at h; simp at h
        | some r =>
          rw [h1, h2, h3] at h
          simp only [Option.bind_some] at h
          injection h with h
          subst h
          have l1 := hv_lt a x h1
          have l2 := hv_lt c y h2
          rw [hexL_cons, ih r h3]
          have e : (UInt8.ofNat (16 * x + y)).toNat = 16 * x + y := by simp; omega
          rw [e, show (16 * x + y) / 16 = x by omega, show (16 * x + y) % 16 = y by omega, hx_hv a x h1, hx_hv c y h2]
theorem unhexL_iff : ∀ f : List UInt8, (unhexL f).isSome = (f.length % 2 == 0 && f.all fun c => (hv c).isSome) := by
  intro f
  induction f using unhexL.induct with
  | case1 => rfl
  | case2 => simp [unhexL]
  | case3 a c t ih =>
    rw [unhexL]
    simp only [List.length_cons, List.all_cons]
    rw [show (t.length + 1 + 1) % 2 = t.length % 2 by omega]
    cases h1 : hv a with
    | none => simp
    | some x =>
      cases h2 : hv c with
      | none => simp
      | some y =>
        cases h3 : unhexL t with
        | none => rw [h3] at ih; simp only [Option.bind_some, Option.bind_none, Option.isSome_none, Option.isSome_some, Bool.true_and] at ih ⊢; exact ih
        | some r => rw [h3] at ih; simp only [Option.bind_some, Option.isSome_some, Bool.true_and] at ih ⊢; exact ih
theorem unhexL_length (f b : List UInt8) (h : unhexL f = some b) : f.length = 2 * b.length := by
  rw [← hexL_unhexL f b h, hexL_length]
/-- its first pairs -/
theorem unhexL_pair (a b : UInt8) (t : List UInt8) : unhexL (a :: b :: t) = (hv a).bind fun x => (hv b).bind fun y => (unhexL t).bind fun r => some (UInt8.ofNat (16 * x + y) :: r) := by rw [unhexL]
/-- texts, one behind the other -/
theorem add_St (a b : List UInt8) (h : a.length + b.length ≤ 9223372036854775807) (w : World) : (Op.stringOp .add (St a) (St b)).run Try.prog w = .ok (.string (St (a ++ b))) w := by
  rw [run_string_add_sum w (St a) (St b) h, St_append]
theorem owned_ne {w : World} {base : Nat} {v : Value} {n B : Nat} {xs : List Value} {cs : Array Value} {t : TypeId} {fr : Nat × Nat} (h : w.ownsRow base 5 1 v n xs) (hB : w.heap[B]? = some (.cells cs t fr)) (ht : t ≠ 5) : v.ownBlock ≠ some B := by
  rcases h.2 with ⟨rfl, _⟩ | ⟨g, cap, cur, rfl, _, hg, _⟩
  · simp [Value.ownBlock]
  · intro e
    simp [Value.ownBlock] at e
    subst e
    rw [hg] at hB
    injection hB with hB
    injection hB with _ hB
    exact ht hB.symm
theorem str_bytes (w : World) (A : Option Addr) (l : List UInt8) (c : Nat) (h : BytesAt w A l) : (convert 22 9 (.slice A l.length c)).run Try.prog w = .ok (.string (St l)) w := by
  cases A with
  | some a =>
    exact run_convert_bytes_back w 22 9 5 a c l Try.underlying22 Try.underlying5 Try.underlying9 (fun j hj => by
      obtain ⟨a', ha, hc⟩ := h j hj
      obtain rfl := Option.some.inj ha
      rw [hc]
      simp [at8, List.getD, hj])
  | none =>
    have : l = [] := by
      cases l with
      | nil => rfl
      | cons b t => obtain ⟨a', ha, _⟩ := h 0 (by simp); cases ha
    subst this
    rw [run_convert_bytes_nil w 22 5 Try.underlying22 Try.underlying5 _ _ 9 Try.underlying9]
    rfl
end Go.Proofs.Ytbioclpobmgikaa
