/- What the walk of the document's digest keeps. -/
import Derived.Test.YtbioclpobmgikaaDoorM6
import Derived.Test.YtbioclpobmgikaaDoorRef3
import Derived.Test.YtbioclpobmgikaaDoorLaw03b
namespace Go.Proofs.YtbioclpobmgikaaDoor
open Go.RowKit

theorem info24 : (Tryd.prog.info? 24).map (·.size) = some 32 := by kernel_rfl

/-- while the constants are laid -/
structure ConAt (w1 wr : World) (i : Nat) : Prop where
  below : Below w1.heap.size w1 wr
  s : wr.heap[w1.heap.size]? = some (.cells (U (sp (min i 8))).toArray 109)
  k : wr.heap[w1.heap.size + 1]? = some (.cells (U (kp i)).toArray 110)
theorem ConAt.next {w1 wr w' : World} {i : Nat} (h : ConAt w1 wr i) (hb : Below wr.heap.size wr w') : ConAt w1 w' i :=
  ⟨h.below.trans (hb.mono h.below.size), (hb.block _ (Array.getElem?_eq_some_iff.1 h.s).1).trans h.s, (hb.block _ (Array.getElem?_eq_some_iff.1 h.k).1).trans h.k⟩
theorem ConAt.setK {w1 wr : World} {i : Nat} (h : ConAt w1 wr i) (hi : i < 64) (x : W) (hx : x = at32 Kc i) :
    (wr.setCell ⟨w1.heap.size + 1, i, none⟩ (.int .u32 (x.toNat : Int))).heap[w1.heap.size + 1]? = some (.cells (U (kp (i + 1))).toArray 110) ∧
    (wr.setCell ⟨w1.heap.size + 1, i, none⟩ (.int .u32 (x.toNat : Int))).heap[w1.heap.size]? = some (.cells (U (sp (min i 8))).toArray 109) ∧
    Below w1.heap.size w1 (wr.setCell ⟨w1.heap.size + 1, i, none⟩ (.int .u32 (x.toNat : Int))) := by
  subst hx
  refine ⟨?_, ?_, h.below.setCell (by simp) _⟩
  · rw [heap_setCell_same _ _ _ _ _ _ h.k, List.setIfInBounds_toArray, U_set, kp_step i hi]
  · rw [heap_setCell_other _ _ _ _ (by simp)]; exact h.s
theorem ConAt.setS {w1 wr : World} {i : Nat} (hk : wr.heap[w1.heap.size + 1]? = some (.cells (U (kp (i + 1))).toArray 110)) (hs : wr.heap[w1.heap.size]? = some (.cells (U (sp (min i 8))).toArray 109)) (hb : Below w1.heap.size w1 wr) (hi : i < 8) (x : W) (hx : x = at32 H0.l i) :
    ConAt w1 (wr.setCell ⟨w1.heap.size, i, none⟩ (.int .u32 (x.toNat : Int))) (i + 1) := by
  subst hx
  refine ⟨hb.setCell (by simp) _, ?_, ?_⟩
  · rw [heap_setCell_same _ _ _ _ _ _ hs, List.setIfInBounds_toArray, U_set, show min i 8 = i by omega, show min (i + 1) 8 = i + 1 by omega, sp_step i hi]
  · rw [heap_setCell_other _ _ _ _ (by simp)]; exact hk
theorem ConAt.noS {w1 wr : World} {i : Nat} (hk : wr.heap[w1.heap.size + 1]? = some (.cells (U (kp (i + 1))).toArray 110)) (hs : wr.heap[w1.heap.size]? = some (.cells (U (sp (min i 8))).toArray 109)) (hb : Below w1.heap.size w1 wr) (hi : ¬ i < 8) :
    ConAt w1 wr (i + 1) := ⟨hb, by rw [show min (i + 1) 8 = min i 8 by omega]; exact hs, hk⟩

theorem ConAt.start (w1 : World) (zs : Array Value) : ConAt w1 (((w1.alloc (.cells (U (sp 0)).toArray 109)).alloc (.cells zs 110)).setRow (w1.heap.size + 1) (U (kp 0)).toArray) 0 := by
  refine ⟨below_setRow (((Below.refl _ _).alloc (Nat.le_refl _) _).alloc (by simp) _) (by omega) _, ?_, setRow_heap _ _ _ _ _ (0, 0) (heap_alloc2_new w1 _ _)⟩
  rw [setRow_other _ _ _ _ (by omega)]
  exact heap_alloc2_old w1 _ _

/-- bytes that a walk gathers in a row of its own -/
structure Own (B : Nat) (w wr : World) (t : List UInt8) (n : Nat) (v : Value) : Prop where
  below : Below B w wr
  own : wr.ownsRow B 5 1 v t.length (Bs t)
  len : t.length = n
  form : ∃ g c, v = .slice (some ⟨g, 0, none⟩) n c ∧ n ≤ c
theorem Own.start {B : Nat} {w : World} (h : B ≤ w.heap.size) : Own B w (w.alloc (.cells #[] 5)) [] 0 (.slice (some ⟨w.heap.size, 0, none⟩) 0 0) :=
  ⟨(Below.refl _ _).alloc h _, World.ownsRow_made w #[] 0 h (by unfold maxLen; omega) rfl, rfl, ⟨_, _, rfl, Nat.le_refl _⟩⟩
theorem Own.grow {B n : Nat} {w wr w' w1 : World} {t bs : List UInt8} {v v1 : Value} (h : Own B w wr t n v) (hb : Below wr.heap.size wr w') (hg : w'.grownBy w1 v.ownBlock) (ho : w1.ownsRow B 5 1 v1 (t.length + bs.length) (Bs t ++ Bs bs))
    (hnil : v1 = .slice none 0 0 ↔ v = .slice none 0 0 ∧ bs.length = 0) : Own B w w1 (t ++ bs) (n + bs.length) v1 := by
  have hlt := h.own.lt
  have hl := h.len
  have hB : B ≤ wr.heap.size := by
    obtain ⟨g, c, hv, _⟩ := h.form
    have := hlt g (by rw [hv]; rfl)
    omega
  refine ⟨(h.below.trans (hb.mono hB)).grown hg (Nat.le_trans hB hb.size) (fun k hk => (hlt k hk).1), by simpa [Bs] using ho, by simp [hl], ?_⟩
  rcases ho.2 with ⟨h1, _⟩ | ⟨g, cap, cur, h1, _, _, h4, _⟩
  · obtain ⟨g, c, hv, _⟩ := h.form
    have := (hnil.1 h1).1
    rw [hv] at this
    cases this
  · exact ⟨g, cap, by rw [h1, hl], by rw [← hl]; exact h4⟩
theorem Own.bytes {B n : Nat} {w wr : World} {t : List UInt8} {v : Value} (h : Own B w wr t n v) : ∃ g c, v = .slice (some ⟨g, 0, none⟩) n c ∧ n ≤ c ∧ B ≤ g ∧ BytesAt wr (some ⟨g, 0, none⟩) t := by
  obtain ⟨g, c, rfl, hc⟩ := h.form
  exact ⟨g, c, rfl, hc, (h.own.lt g rfl).1, fun j hj => ⟨_, rfl, h.own.cells (g := g) rfl j _ (Bs_get _ _ hj)⟩⟩
theorem BytesAt.alloc {w : World} {A : Option Addr} {l : List UInt8} (h : BytesAt w A l) (o : Obj) : BytesAt (w.alloc o) A l := h.below ((Below.refl _ _).alloc (Nat.le_refl _) _)
theorem bytes_new (w : World) (x : UInt8) (v : Int) (h : v = (x.toNat : Int)) : BytesAt (w.alloc (.cells #[.int .u8 v] 5)) (some ⟨w.heap.size, 0, none⟩) [x] := fun j hj => by
  subst h
  have : j = 0 := by simp at hj; exact hj
  subst this
  refine ⟨_, rfl, ?_⟩
  rw [show (⟨w.heap.size, 0, none⟩ : Addr).add 0 = ⟨w.heap.size, 0, none⟩ from rfl, World.cell?_alloc_new]
  rfl

/-- the state, behind b blocks -/
structure BlkAt (w wr : World) (n1 : Nat) (T : List UInt8) (b : Nat) : Prop where
  grown : w.grownBy wr (some n1)
  s : wr.heap[n1]? = some (.cells (U (feedN b H0 T).l).toArray 109)

/-- the schedule's array, behind a world -/
structure ScAt (wr w' : World) (X : List W) : Prop where
  below : Below wr.heap.size wr w'
  row : w'.heap[wr.heap.size]? = some (.cells (U X).toArray 110)
theorem ScAt.start (wr : World) (zs : Array Value) : ScAt wr ((wr.alloc (.cells zs 110)).setRow wr.heap.size (U (List.replicate 64 0)).toArray) (List.replicate 64 0) :=
  ⟨below_setRow ((Below.refl _ _).alloc (Nat.le_refl _) _) (Nat.le_refl _) _, setRow_heap _ _ _ _ _ (0, 0) (heap_alloc_new wr _)⟩
theorem ScAt.drewN {wr w' : World} {X : List W} (h : ScAt wr w' X) (n : Nat) : ScAt wr (w'.drewN n) X := ⟨below_drewN h.below n, h.row⟩
theorem ScAt.drew {wr w' : World} {X : List W} (h : ScAt wr w' X) : ScAt wr w'.drew X := ⟨h.below.drew, h.row⟩
theorem ScAt.set {wr w' : World} {X : List W} (h : ScAt wr w' X) (i : Nat) (x : W) (v : Int) (hv : v = (x.toNat : Int)) : ScAt wr (w'.setCell ⟨wr.heap.size, i, none⟩ (.int .u32 v)) (X.set i x) := by
  subst hv
  refine ⟨h.below.setCell (Nat.le_refl _) _, ?_⟩
  rw [heap_setCell_same _ _ _ _ _ _ h.row, List.setIfInBounds_toArray, U_set]
theorem ScAt.get {wr w' : World} {X : List W} (h : ScAt wr w' X) (hl : X.length = 64) (i : Nat) (hi : i < 64) : w'.cell? ⟨wr.heap.size, i, none⟩ = some (.int .u32 ((at32 X i).toNat : Int)) := by
  rw [cell_of_row _ _ _ _ _ _ h.row, List.getElem?_toArray]
  exact U_get _ _ (by rw [hl]; exact hi)
/-- while the state is added -/
structure AdAt (wB w' : World) (n1 sb : Nat) (S x : S8) (i : Nat) : Prop where
  grown : wB.grownBy w' (some n1)
  row : w'.heap[sb]? = some (.cells (U x.l).toArray 108)
  s : w'.heap[n1]? = some (.cells (U (mix S x i)).toArray 109)
theorem AdAt.set {wB w' : World} {n1 sb : Nat} {S x : S8} {i : Nat} (h : AdAt wB w' n1 sb S x i) (hne : n1 ≠ sb) (hi : i < 8) :
    AdAt wB (w'.setCell ⟨n1, i, none⟩ (.int .u32 (((at32 S.l i).toNat + (at32 x.l i).toNat : Int) % 4294967296))) n1 sb S x (i + 1) := by
  refine ⟨grownBy.setCell h.grown _, ?_, ?_⟩
  · rw [heap_setCell_other _ _ _ _ (by simp; omega)]; exact h.row
  · have := mix_set S x [] i hi
    rw [List.append_nil, List.append_nil] at this
    rw [heap_setCell_same _ _ _ _ _ _ h.s, this]
/-- while the digest is laid -/
structure OuAt (wB w' : World) (n1 : Nat) (S : S8) (i : Nat) : Prop where
  below : Below wB.heap.size wB w'
  row : w'.heap[wB.heap.size]? = some (.cells (Bs (outp S i)).toArray 24)
  s : w'.heap[n1]? = some (.cells (U S.l).toArray 109)
theorem OuAt.start (wB : World) (n1 : Nat) (S : S8) (zs : Array Value) (h : wB.heap[n1]? = some (.cells (U S.l).toArray 109)) : OuAt wB ((wB.alloc (.cells zs 24)).setRow wB.heap.size (Bs (List.replicate 32 0)).toArray) n1 S 0 := by
  have hn : n1 < wB.heap.size := (Array.getElem?_eq_some_iff.1 h).1
  refine ⟨below_setRow ((Below.refl _ _).alloc (Nat.le_refl _) _) (Nat.le_refl _) _, ?_, ?_⟩
  · rw [outp_zero]; exact setRow_heap _ _ _ _ _ (0, 0) (heap_alloc_new wB _)
  · rw [setRow_other _ _ _ _ (by omega)]; exact (heap_alloc_old wB _ hn).trans h
theorem OuAt.set {wB w' : World} {n1 : Nat} {S : S8} {i : Nat} (h : OuAt wB w' n1 S i) (hi : i < 32) (v : Int) (hv : v = ((outB S i).toNat : Int)) : OuAt wB (w'.setCell ⟨wB.heap.size, i, none⟩ (.int .u8 v)) n1 S (i + 1) := by
  subst hv
  have hn : n1 ≠ wB.heap.size := by
    intro e
    have h1 := h.row
    rw [← e, h.s] at h1
    injection h1 with h1
    injection h1 with h1 h2
    cases h2
  refine ⟨h.below.setCell (Nat.le_refl _) _, ?_, ?_⟩
  · rw [heap_setCell_same _ _ _ _ _ _ h.row, List.setIfInBounds_toArray, Bs_set, outp_step S i hi]
  · rw [heap_setCell_other _ _ _ _ (by simpa using hn)]; exact h.s
theorem outB_val (S : S8) (i : Nat) : ((outB S i).toNat : Int) = ((at32 S.l (i / 4)).toNat : Int) / 2 ^ (24 - 8 * (i % 4)) % 256 := by
  have h : ((outB S i).toNat : Int) = ((at32 S.l (i / 4)).toNat : Int) / ((2 ^ (24 - 8 * (i % 4)) : Nat) : Int) % 256 := by rw [outB]; simp
  rwa [Int.natCast_pow] at h
theorem out_idx (i : Nat) (h : i < 32) : (i : Int) / 4 < 8 ∧ ((i : Int) / 4).toNat = i / 4 ∧ (0 : Int) ≤ (i : Int) / 4 ∧ (0 : Int) ≤ (i : Int) % 4 ∧ (i : Int) % 4 < 4 ∧ (24 - (i : Int) % 4 * 8).toNat = 24 - 8 * (i % 4) ∧ (i : Int) % 4 * 8 ≤ 24 := by omega

theorem idx3 (q k j M : Nat) (hq : q + 64 ≤ M) (hM : M ≤ 1000073) (hk : k < 16) (hj : j < 4) :
    IntKind.i64.wrap (4 * (k : Int)) = 4 * (k : Int) ∧ IntKind.i64.wrap ((q : Int) + 4 * (k : Int)) = (q : Int) + 4 * (k : Int) ∧ IntKind.i64.wrap ((q : Int) + 4 * (k : Int) + (j : Int)) = (q : Int) + 4 * (k : Int) + (j : Int) ∧
    ((q : Int) + 4 * (k : Int) + (j : Int)).toNat = q + 4 * k + j ∧ 0 ≤ (q : Int) + 4 * (k : Int) + (j : Int) ∧ (q : Int) + 4 * (k : Int) + (j : Int) < (M : Int) :=
  ⟨IntWalk.i64_in _ (by omega), IntWalk.i64_in _ (by omega), IntWalk.i64_in _ (by omega), by omega, by omega, by omega⟩

theorem tor_eq2 (x : S8) (k w : W) : (((x.h.toNat : Int) + bits .xor .u32 (bits .xor .u32 ((rotr x.e 6).toNat : Int) ((rotr x.e 11).toNat : Int)) ((rotr x.e 25).toNat : Int) +
    bits .or .u32 (bits .and .u32 (x.e.toNat : Int) (x.f.toNat : Int)) (bits .and .u32 (bits .xor .u32 (if IntKind.u32.signed = true then -1 else IntKind.u32.max) (x.e.toNat : Int)) (x.g.toNat : Int)) + (k.toNat : Int)) % 4294967296 + (w.toNat : Int)) % 4294967296 = ((x.t k w).toNat : Int) := by
  rw [show (if IntKind.u32.signed = true then -1 else IntKind.u32.max) = 4294967295 by decide, big1_eq, chor_eq, sum4, sum_w]; rfl
theorem right_q (x : W) (k : Int) (w : World) (n : Nat) (h : 0 ≤ k) (h2 : k < 32) :
    Calls Tryd.prog 79 #[.int .u32 x.toNat, .int .u64 k] (w.drewN n) fun e w' => e = .returned (.int .u32 (rotr x k.toNat).toNat) ∧ ∃ m, w' = w.drewN m :=
  (right_k x k _ h h2).mono fun _ _ ⟨he, hw⟩ => ⟨he, n, hw.symm⟩
end Go.Proofs.YtbioclpobmgikaaDoor
