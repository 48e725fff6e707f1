/- Entries in rows: the program's and the document's. -/
import Derived.Test.YtbioclpobmgikaaDoorG5
import Derived.Test.YtbioclpobmgikaaDoorG3
namespace Go.Proofs.YtbioclpobmgikaaDoor
open Go.RowKit

/-- an entry as it lies -/
structure En where
  e : Ent
  D : Option Addr
  c : Nat
def ent0 : Ent := ⟨[], 0, 0, 0, 0, 0, [], [], [], 0, 0, []⟩
def en0 : En := ⟨ent0, none, 0⟩
def En.cells (x : En) : List Value := [.string (St x.e.name), .int .u8 (x.e.kind.toNat : Int), .int .i64 x.e.mode, .int .i64 x.e.uid, .int .i64 x.e.gid, .int .i64 x.e.time, .string (St x.e.link), .string (St x.e.user), .string (St x.e.group), .int .i64 x.e.major, .int .i64 x.e.minor, .slice x.D x.e.data.length x.c]
def Ent.cells (x : Ent) : List Value := [.string (St x.name), .int .u8 (x.kind.toNat : Int), .int .i64 x.mode, .int .i64 x.uid, .int .i64 x.gid, .int .i64 x.time, .string (St x.link), .string (St x.user), .string (St x.group), .int .i64 x.major, .int .i64 x.minor, .string (St x.data)]
theorem flat_length {α : Type} (f : α → List Value) (m : Nat) (hf : ∀ x, (f x).length = m) : ∀ l : List α, (l.flatMap f).length = l.length * m
  | [] => by simp
  | x :: l => by rw [List.flatMap_cons, List.length_append, hf, flat_length f m hf l, List.length_cons, Nat.succ_mul]; omega
theorem flat_get {α : Type} (f : α → List Value) (m : Nat) (d : α) (hf : ∀ x, (f x).length = m) : ∀ (l : List α) (j i : Nat), j < l.length → i < m → (l.flatMap f)[j * m + i]? = (f (l.getD j d))[i]?
  | [], j, i, h, _ => by simp at h
  | x :: l, 0, i, _, hi => by
    rw [List.flatMap_cons, Nat.zero_mul, Nat.zero_add, List.getElem?_append_left (by rw [hf]; exact hi)]
    rfl
  | x :: l, j + 1, i, h, hi => by
    rw [List.flatMap_cons, List.getElem?_append_right (by rw [hf, Nat.succ_mul]; omega), hf, show (j + 1) * m + i - m = j * m + i by rw [Nat.succ_mul]; omega]
    exact flat_get f m d hf l j i (by simpa using h) hi
/-- records lie at an address -/
def RecAt {α : Type} (f : α → List Value) (d : α) (w : World) (A : Option Addr) (l : List α) : Prop := ∀ j, j < l.length → ∃ a, A = some a ∧ ∀ i u, (f (l.getD j d))[i]? = some u → w.cell? (a.add (j * 12 + i)) = some u
theorem RecAt.below {α : Type} {f : α → List Value} {d : α} {w w' : World} {A : Option Addr} {l : List α} (h : RecAt f d w A l) (hb : Below w.heap.size w w') : RecAt f d w' A l := fun j hj => by
  obtain ⟨a, rfl, h1⟩ := h j hj
  exact ⟨a, rfl, fun i u hu => (hb.cell (p := a.add (j * 12 + i)) (World.block_lt_of_cell? w _ (h1 i u hu))).trans (h1 i u hu)⟩
theorem RecAt.cells {α : Type} {f : α → List Value} {d : α} {w : World} {a : Addr} {l : List α} (hf : ∀ x, (f x).length = 12) (h : RecAt f d w (some a) l) : ∀ j u, (l.flatMap f)[j]? = some u → w.cell? (a.add j) = some u := fun j u hu => by
  have hj : j < l.length * 12 := by rw [← flat_length f 12 hf]; exact (List.getElem?_eq_some_iff.1 hu).1
  have e : j = j / 12 * 12 + j % 12 := by omega
  obtain ⟨a', ha, h1⟩ := h (j / 12) (by omega)
  obtain rfl := Option.some.inj ha
  rw [e]
  refine h1 _ u ?_
  rw [← flat_get f 12 d hf l (j / 12) (j % 12) (by omega) (by omega), ← e]
  exact hu
theorem rec_new {α : Type} (f : α → List Value) (d : α) (w : World) (t : TypeId) (x : α) : RecAt f d (w.alloc (.cells (f x).toArray t)) (some ⟨w.heap.size, 0, none⟩) [x] := fun j hj => by
  have : j = 0 := by simp at hj; exact hj
  subst this
  refine ⟨_, rfl, fun i u hu => ?_⟩
  have h : (w.alloc (.cells (f x).toArray t)).heap[w.heap.size]? = some (.cells (f x).toArray t) := heap_alloc_new w _
  rw [add_lit', cell_of_row _ _ _ _ _ _ h, List.getElem?_toArray, Nat.zero_mul, Nat.zero_add, Nat.zero_add]
  exact hu
/-- records of a call's own, as they lie -/
theorem own_rec {α : Type} {f : α → List Value} {d : α} (hf : ∀ x, (f x).length = 12) {w : World} {base n : Nat} {t : TypeId} {v : Value} {l : List α} (h : w.ownsRow base t 12 v n (l.flatMap f)) : ∃ A c, v = .slice A n c ∧ n ≤ c ∧ (A = none → c = 0) ∧ l.length = n ∧ RecAt f d w A l := by
  have hl : l.length = n := by have := h.1; rw [flat_length f 12 hf] at this; omega
  rcases h.2 with ⟨rfl, h0⟩ | ⟨g, cap, cur, rfl, _, _, h4, _⟩
  · exact ⟨none, 0, by rw [h0], by omega, fun _ => rfl, hl, fun j hj => by omega⟩
  · refine ⟨some ⟨g, 0, none⟩, cap, rfl, h4, fun h => (by cases h), hl, fun j hj => ⟨_, rfl, fun i u hu => ?_⟩⟩
    refine h.cells (g := g) rfl _ u ?_
    have hi : i < 12 := by rw [← hf (l.getD j d)]; exact (List.getElem?_eq_some_iff.1 hu).1
    rw [flat_get f 12 d hf l j i hj hi]
    exact hu
theorem En.len (x : En) : x.cells.length = 12 := rfl
theorem Ent.len (x : Ent) : x.cells.length = 12 := rfl
theorem En.mem (l : List En) : ∀ v ∈ l.flatMap En.cells, v.oneCell' = true := by
  intro v hv
  obtain ⟨x, _, hx⟩ := List.mem_flatMap.1 hv
  simp only [En.cells, List.mem_cons, List.not_mem_nil, or_false] at hx
  rcases hx with rfl | rfl | rfl | rfl | rfl | rfl | rfl | rfl | rfl | rfl | rfl | rfl <;> rfl
theorem Ent.mem (l : List Ent) : ∀ v ∈ l.flatMap Ent.cells, v.oneCell' = true := by
  intro v hv
  obtain ⟨x, _, hx⟩ := List.mem_flatMap.1 hv
  simp only [Ent.cells, List.mem_cons, List.not_mem_nil, or_false] at hx
  rcases hx with rfl | rfl | rfl | rfl | rfl | rfl | rfl | rfl | rfl | rfl | rfl | rfl <;> rfl
theorem add_field (a : Addr) (j i : Nat) (hi : 0 < i) : a.add (j * 12 + i) = ⟨(a.add (j * 12)).block, (a.add (j * 12)).off + i, none⟩ := by
  unfold Addr.add
  rw [if_neg (by omega)]
  split
  · rename_i h; have : j = 0 := by omega
    subst this; simp
  · simp only [Addr.mk.injEq, and_true, true_and]; omega
/-- the cells of one record, as a walk asks for them -/
theorem RecAt.each {α : Type} {f : α → List Value} {d : α} {w : World} {A : Option Addr} {l : List α} (h : RecAt f d w A l) (j : Nat) (hj : j < l.length) {v0 v1 v2 v3 v4 v5 v6 v7 v8 v9 v10 v11 : Value} (hv : f (l.getD j d) = [v0, v1, v2, v3, v4, v5, v6, v7, v8, v9, v10, v11]) :
    ∃ a, A = some a ∧ w.cell? (a.add (j * 12)) = some v0 ∧ w.cell? ⟨(a.add (j * 12)).block, (a.add (j * 12)).off + 1, none⟩ = some v1 ∧ w.cell? ⟨(a.add (j * 12)).block, (a.add (j * 12)).off + 2, none⟩ = some v2 ∧ w.cell? ⟨(a.add (j * 12)).block, (a.add (j * 12)).off + 3, none⟩ = some v3 ∧ w.cell? ⟨(a.add (j * 12)).block, (a.add (j * 12)).off + 4, none⟩ = some v4 ∧ w.cell? ⟨(a.add (j * 12)).block, (a.add (j * 12)).off + 5, none⟩ = some v5 ∧ w.cell? ⟨(a.add (j * 12)).block, (a.add (j * 12)).off + 6, none⟩ = some v6 ∧ w.cell? ⟨(a.add (j * 12)).block, (a.add (j * 12)).off + 7, none⟩ = some v7 ∧ w.cell? ⟨(a.add (j * 12)).block, (a.add (j * 12)).off + 8, none⟩ = some v8 ∧ w.cell? ⟨(a.add (j * 12)).block, (a.add (j * 12)).off + 9, none⟩ = some v9 ∧ w.cell? ⟨(a.add (j * 12)).block, (a.add (j * 12)).off + 10, none⟩ = some v10 ∧ w.cell? ⟨(a.add (j * 12)).block, (a.add (j * 12)).off + 11, none⟩ = some v11 := by
  obtain ⟨a, ha, h1⟩ := h j hj
  rw [hv] at h1
  refine ⟨a, ha, h1 0 v0 rfl, ?_, ?_, ?_, ?_, ?_, ?_, ?_, ?_, ?_, ?_, ?_⟩
  all_goals rw [← add_field _ _ _ (by omega)]
  · exact h1 1 v1 rfl
  · exact h1 2 v2 rfl
  · exact h1 3 v3 rfl
  · exact h1 4 v4 rfl
  · exact h1 5 v5 rfl
  · exact h1 6 v6 rfl
  · exact h1 7 v7 rfl
  · exact h1 8 v8 rfl
  · exact h1 9 v9 rfl
  · exact h1 10 v10 rfl
  · exact h1 11 v11 rfl
/-- an entry's bytes lie in the world -/
def EGood (w : World) (x : En) : Prop := x.e.data.length ≤ x.c ∧ (x.D = none → x.c = 0) ∧ BytesAt w x.D x.e.data
theorem EGood.below {w w' : World} {x : En} (h : EGood w x) (hb : Below w.heap.size w w') : EGood w' x := ⟨h.1, h.2.1, h.2.2.below hb⟩
def AllEGood (w : World) (l : List En) : Prop := ∀ x ∈ l, EGood w x
theorem AllEGood.below {w w' : World} {l : List En} (h : AllEGood w l) (hb : Below w.heap.size w w') : AllEGood w' l := fun x hx => (h x hx).below hb
abbrev EntsAt := RecAt En.cells en0
abbrev DocsAt := RecAt Ent.cells ent0

theorem info140' : (Tryd.prog.info? 140).map (fun i => (i.zero, i.size, i.bytes)) = some (some (.agg en0.cells.toArray), 12, 144) := by kernel_rfl
theorem zero140 : ∃ i, Tryd.prog.info? 140 = some i ∧ i.zero = some (.agg en0.cells.toArray) ∧ i.size = 12 ∧ i.bytes = 144 := by
  have h := info140'
  cases hi : Tryd.prog.info? 140 with
  | none => rw [hi] at h; cases h
  | some i => rw [hi] at h; simp at h; exact ⟨i, rfl, h.1, h.2.1, h.2.2⟩
theorem info142' : (Tryd.prog.info? 142).map (fun i => (i.zero, i.size, i.bytes)) = some (some (.agg ent0.cells.toArray), 12, 136) := by kernel_rfl
theorem zero142 : ∃ i, Tryd.prog.info? 142 = some i ∧ i.zero = some (.agg ent0.cells.toArray) ∧ i.size = 12 ∧ i.bytes = 136 := by
  have h := info142'
  cases hi : Tryd.prog.info? 142 with
  | none => rw [hi] at h; cases h
  | some i => rw [hi] at h; simp at h; exact ⟨i, rfl, h.1, h.2.1, h.2.2⟩
/-- entries are appended to a list of a call's own -/
theorem wpList_append_ents {w : World} {ops : Array Oper} {rest : List Oper} {o : Oper} {a : Act} {Q : Exit → Act → World → Prop} (hgd : o.guard = none) (s x : Operand)
    (ho : o.op = .call { callee := .builtin .append, args := #[s, x], argTypes := #[91, 91] })
    (base : Nat) (v : Value) (n : Nat) (bl : List En) (hs : a.eval s = v) (hown : w.ownsRow base 140 12 v n (bl.flatMap En.cells))
    (ad : Addr) (nb : List En) (m c : Nat) (hm : nb.length = m) (hx : a.eval x = .slice (some ad) m c) (hr : EntsAt w (some ad) nb)
    (h63 : n + m ≤ 100000) (hbase : base ≤ w.heap.size)
    (h : ∀ v' w', w'.ownsRow base 140 12 v' (n + m) ((bl ++ nb).flatMap En.cells) → w.grownBy w' v.ownBlock → wpList Tryd.prog ops Q rest (a.put o.dst v') w') :
    wpList Tryd.prog ops Q (o :: rest) a w := by
  subst hm
  obtain ⟨i0, hi0, hz0, hz1, hz2⟩ := zero140
  exact wpList_append_own w hgd s x 91 ho base 140 i0 _ 12 144 Tryd.underlying91 hi0 hz0 hz1 hz2 rfl (by decide) v _ _ hs hown ad nb.length c (nb.flatMap En.cells) hx (by rw [flat_length _ 12 En.len])
    (hr.cells En.len) (En.mem _) (by unfold maxLen; omega) (by omega) hbase (fun v' w' h1 h2 _ => h v' w' (by rw [List.flatMap_append]; exact h1) h2)
theorem wpList_append_docents {w : World} {ops : Array Oper} {rest : List Oper} {o : Oper} {a : Act} {Q : Exit → Act → World → Prop} (hgd : o.guard = none) (s x : Operand)
    (ho : o.op = .call { callee := .builtin .append, args := #[s, x], argTypes := #[95, 95] })
    (base : Nat) (v : Value) (n : Nat) (bl : List Ent) (hs : a.eval s = v) (hown : w.ownsRow base 142 12 v n (bl.flatMap Ent.cells))
    (ad : Addr) (nb : List Ent) (m c : Nat) (hm : nb.length = m) (hx : a.eval x = .slice (some ad) m c) (hr : DocsAt w (some ad) nb)
    (h63 : n + m ≤ 100000) (hbase : base ≤ w.heap.size)
    (h : ∀ v' w', w'.ownsRow base 142 12 v' (n + m) ((bl ++ nb).flatMap Ent.cells) → w.grownBy w' v.ownBlock → wpList Tryd.prog ops Q rest (a.put o.dst v') w') :
    wpList Tryd.prog ops Q (o :: rest) a w := by
  subst hm
  obtain ⟨i0, hi0, hz0, hz1, hz2⟩ := zero142
  exact wpList_append_own w hgd s x 95 ho base 142 i0 _ 12 136 Tryd.underlying95 hi0 hz0 hz1 hz2 rfl (by decide) v _ _ hs hown ad nb.length c (nb.flatMap Ent.cells) hx (by rw [flat_length _ 12 Ent.len])
    (hr.cells Ent.len) (Ent.mem _) (by unfold maxLen; omega) (by omega) hbase (fun v' w' h1 h2 _ => h v' w' (by rw [List.flatMap_append]; exact h1) h2)
theorem en_mem (l : List En) (j : Nat) (h : j < l.length) : l.getD j en0 ∈ l := by simp [List.getD, h]
end Go.Proofs.YtbioclpobmgikaaDoor
