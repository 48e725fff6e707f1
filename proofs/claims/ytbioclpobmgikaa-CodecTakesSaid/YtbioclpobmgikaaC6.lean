/- Bits in a row; the document's sign: walks. -/
import Derived.Test.YtbioclpobmgikaaC5
namespace Go.Proofs.Ytbioclpobmgikaa
open Go.RowKit

def alW (way : Bool) : List UInt8 := if way then alU else alP
theorem alW_length (way : Bool) : (alW way).length = 64 := by cases way <;> rfl
theorem sign_low : ∀ n : Fin 64, n.val < 26 → ((65 : Int) + (n.val : Int) = ((at8 alP n.val).toNat : Int) ∧ at8 alU n.val = at8 alP n.val) := by decide +kernel
theorem sign_mid : ∀ n : Fin 64, ¬ n.val < 26 → n.val < 52 → ((97 : Int) + (n.val : Int) - 26 = ((at8 alP n.val).toNat : Int) ∧ at8 alU n.val = at8 alP n.val) := by decide +kernel
theorem sign_num : ∀ n : Fin 64, ¬ n.val < 52 → n.val < 62 → ((48 : Int) + (n.val : Int) - 52 = ((at8 alP n.val).toNat : Int) ∧ at8 alU n.val = at8 alP n.val) := by decide +kernel

set_option maxHeartbeats 400000 in
set_option maxRecDepth 100000 in
theorem sign_any (n : Nat) (h : n < 64) (way : Bool) (w : World) : Calls Try.prog 24 #[.int .i64 (n : Int), .bool way] w fun e w' => e = .returned (.int .u8 ((at8 (alW way) n).toNat : Int)) ∧ w = w' := by
  by_cases h1 : n < 26
  · obtain ⟨e1, e2⟩ := sign_low ⟨n, h⟩ h1
    have hr : at8 (alW way) n = at8 alP n := by cases way; rfl; exact e2
    rw [hr]
    have hd : decide ((n : Int) < 26) = true := decide_eq_true (by omega)
    simp only at e1 e2
    clear e2 hr
    generalize at8 alP n = s at *
    go_enter Try.func24, Try.ntmps24
    go_wp2_with fail
    go_ret
    exact ⟨rfl, rfl⟩
  · have hd : decide ((n : Int) < 26) = false := decide_eq_false (by omega)
    by_cases h2 : n < 52
    · obtain ⟨e1, e2⟩ := sign_mid ⟨n, h⟩ h1 h2
      have hr : at8 (alW way) n = at8 alP n := by cases way; rfl; exact e2
      rw [hr]
      have hd2 : decide ((n : Int) < 52) = true := decide_eq_true (by omega)
      simp only at e1 e2
      clear e2 hr
      generalize at8 alP n = s at *
      go_enter Try.func24, Try.ntmps24
      go_wp2_with fail
      go_ret
      exact ⟨rfl, rfl⟩
    · have hd2 : decide ((n : Int) < 52) = false := decide_eq_false (by omega)
      by_cases h3 : n < 62
      · obtain ⟨e1, e2⟩ := sign_num ⟨n, h⟩ h2 h3
        have hr : at8 (alW way) n = at8 alP n := by cases way; rfl; exact e2
        rw [hr]
        have hd3 : decide ((n : Int) < 62) = true := decide_eq_true (by omega)
        simp only at e1 e2
        clear e2 hr
        generalize at8 alP n = s at *
        go_enter Try.func24, Try.ntmps24
        go_wp2_with fail
        go_ret
        exact ⟨rfl, rfl⟩
      · by_cases h4 : n = 62
        · subst h4
          cases way
          · go_enter Try.func24, Try.ntmps24
            go_wp2_with fail
            go_ret
            exact ⟨rfl, rfl⟩
          · go_enter Try.func24, Try.ntmps24
            go_wp2_with fail
            go_ret
            exact ⟨rfl, rfl⟩
        · obtain rfl : n = 63 := by omega
          cases way
          · go_enter Try.func24, Try.ntmps24
            go_wp2_with fail
            go_ret
            exact ⟨rfl, rfl⟩
          · go_enter Try.func24, Try.ntmps24
            go_wp2_with fail
            go_ret
            exact ⟨rfl, rfl⟩

/-- numbers in a row -/
def Ns (l : List Nat) : List Value := l.map fun n : Nat => Value.int .i64 (n : Int)
theorem Ns_length (l : List Nat) : (Ns l).length = l.length := by simp [Ns]
theorem Ns_get (l : List Nat) (j : Nat) (h : j < l.length) : (Ns l)[j]? = some (.int .i64 ((l.getD j 0 : Nat) : Int)) := by simp [Ns, List.getD, h]
theorem Ns_mem (l : List Nat) : ∀ v ∈ Ns l, v.oneCell' = true := by
  intro v hv
  simp only [Ns, List.mem_map] at hv
  obtain ⟨x, _, rfl⟩ := hv
  rfl
theorem info3' : (Try.prog.info? 3).map (fun i => (i.zero, i.size, i.bytes)) = some (some (.int .i64 0), 1, 8) := by kernel_rfl
theorem zero3 : ∃ i, Try.prog.info? 3 = some i ∧ i.zero = some (.int .i64 0) ∧ i.size = 1 ∧ i.bytes = 8 := by
  have h := info3'
  cases hi : Try.prog.info? 3 with
  | none => rw [hi] at h; cases h
  | some i => rw [hi] at h; simp at h; exact ⟨i, rfl, h.1, h.2.1, h.2.2⟩
/-- bytes, and bits, in two rows of a call's own -/
structure Two (w wr : World) (vo : Value) (o : List UInt8) (vb : Value) (b : List Nat) : Prop where
  below : Below w.heap.size w wr
  out : wr.ownsRow w.heap.size 5 1 vo o.length (Bs o)
  bits : wr.ownsRow w.heap.size 3 1 vb b.length (Ns b)
theorem two_ne {w : World} {base n m : Nat} {vo vb : Value} {xs ys : List Value} (h : w.ownsRow base 5 1 vo n xs) (k : w.ownsRow base 3 1 vb m ys) : vo.ownBlock = none ∨ vo.ownBlock ≠ vb.ownBlock := by
  rcases h.2 with ⟨rfl, _⟩ | ⟨g, cap, cur, rfl, _, hg, _⟩
  · exact .inl rfl
  · right
    rcases k.2 with ⟨rfl, _⟩ | ⟨g', cap', cur', rfl, _, hg', _⟩
    · simp [Value.ownBlock]
    · intro e
      simp [Value.ownBlock] at e
      subst e
      rw [hg] at hg'
      injection hg' with hg'
      injection hg' with _ hg'
      cases hg'
theorem two_ne' {w : World} {base n m : Nat} {vo vb : Value} {xs ys : List Value} (h : w.ownsRow base 5 1 vo n xs) (k : w.ownsRow base 3 1 vb m ys) : vb.ownBlock = none ∨ vb.ownBlock ≠ vo.ownBlock := by
  rcases two_ne h k with h1 | h1
  · rcases k.2 with ⟨rfl, _⟩ | ⟨g', cap', cur', rfl, _⟩
    · exact .inl rfl
    · right; rw [h1]; simp [Value.ownBlock]
  · exact .inr (Ne.symm h1)
theorem owns_alloc {w : World} {base n : Nat} {e : TypeId} {v : Value} {xs : List Value} (h : w.ownsRow base e 1 v n xs) (ob : Obj) : (w.alloc ob).ownsRow base e 1 v n xs := h.alloc ob

/-- a bit is appended -/
theorem wpList_bit {w wr : World} {ops : Array Oper} {rest : List Oper} {o : Oper} {a : Act} {Q : Exit → Act → World → Prop} (hgd : o.guard = none) (s x : Operand)
    (ho : o.op = .call { callee := .builtin .append, args := #[s, x], argTypes := #[44, 44] }) (vo : Value) (ol : List UInt8) (vb : Value) (b : List Nat) (n : Nat) (v : Int) (hv : v = (n : Int)) (hs : a.eval s = vb)
    (hx : a.eval x = .slice (some ⟨wr.heap.size, 0, none⟩) 1 1) (h : Two w wr vo ol vb b) (hb : b.length ≤ 1000)
    (hk : ∀ v' w', Two w w' vo ol v' (b ++ [n]) → wpList Try.prog ops Q rest (a.put o.dst v') w') : wpList Try.prog ops Q (o :: rest) a (wr.alloc (.cells #[.int .i64 v] 3)) := by
  subst hv
  obtain ⟨i0, hi0, hz0, hz1, hz2⟩ := zero3
  have hsz := h.below.size
  refine wpList_append_own _ hgd s x 44 ho w.heap.size 3 i0 _ 1 8 Try.underlying44 hi0 hz0 hz1 hz2 rfl (by decide) vb _ _ hs (h.bits.alloc _) ⟨wr.heap.size, 0, none⟩ 1 1 (Ns [n]) hx (by simp [Ns])
    (fun j u hu => ?_) (Ns_mem _) (by unfold maxLen; omega) (by omega) (by simp; omega) ?_
  · have hj : j = 0 := by have := (List.getElem?_eq_some_iff.1 hu).1; simp [Ns] at this; exact this
    subst hj
    rw [show (⟨wr.heap.size, 0, none⟩ : Addr).add 0 = ⟨wr.heap.size, 0, none⟩ from rfl, World.cell?_alloc_new, ← hu]
    rfl
  · intro v' w' h1 h2 _
    refine hk v' w' ⟨(h.below.alloc hsz _).grown h2 (by simp; omega) (fun k hk => (h.bits.lt k hk).1), (h.out.alloc _).kept h2 (two_ne h.out h.bits), ?_⟩
    simpa [Ns] using h1
/-- a byte is appended -/
theorem wpList_byte {w wr : World} {ops : Array Oper} {rest : List Oper} {o : Oper} {a : Act} {Q : Exit → Act → World → Prop} (hgd : o.guard = none) (s x : Operand)
    (ho : o.op = .call { callee := .builtin .append, args := #[s, x], argTypes := #[22, 22] }) (vo : Value) (ol : List UInt8) (vb : Value) (b : List Nat) (n : UInt8) (v : Int) (hv : v = (n.toNat : Int)) (hs : a.eval s = vo)
    (hx : a.eval x = .slice (some ⟨wr.heap.size, 0, none⟩) 1 1) (h : Two w wr vo ol vb b) (hb : ol.length ≤ 100000000)
    (hk : ∀ v' w', Two w w' v' (ol ++ [n]) vb b → wpList Try.prog ops Q rest (a.put o.dst v') w') : wpList Try.prog ops Q (o :: rest) a (wr.alloc (.cells #[.int .u8 v] 5)) := by
  subst hv
  have hsz := h.below.size
  refine wpList_append_bytes hgd s x ho w.heap.size vo ol hs (h.out.alloc _) (some ⟨wr.heap.size, 0, none⟩) [n] 1 hx (bytes_new _ _ _ rfl) (fun h => by cases h) (by simp; omega) (by simp; omega) ?_
  intro v' w' h1 h2 _
  refine hk v' w' ⟨(h.below.alloc hsz _).grown h2 (by simp; omega) (fun k hk => (h.out.lt k hk).1), ?_, (h.bits.alloc _).kept h2 (two_ne' h.out h.bits)⟩
  simpa [Bs] using h1
theorem Two.cell {w wr : World} {vo vb : Value} {o : List UInt8} {b : List Nat} (h : Two w wr vo o vb b) : ∃ A c, vb = .slice A b.length c ∧ b.length ≤ c ∧ ∀ j, j < b.length → ∃ a, A = some a ∧ wr.cell? (a.add j) = some (.int .i64 ((b.getD j 0 : Nat) : Int)) := by
  rcases h.bits.2 with ⟨hv, h0⟩ | ⟨g, cap, cur, hv, _, _, h4, _⟩
  · exact ⟨none, 0, by rw [hv, h0], by omega, fun j hj => by omega⟩
  · exact ⟨some ⟨g, 0, none⟩, cap, hv, h4, fun j hj => ⟨_, rfl, h.bits.cells (g := g) (by rw [hv]; rfl) j _ (Ns_get _ _ hj)⟩⟩
end Go.Proofs.Ytbioclpobmgikaa
