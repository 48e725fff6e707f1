/- A hash is made, and written to. -/
import Derived.Test.YtbioclpobmgikaaDoorM2
import Derived.Test.YtbioclpobmgikaaDoorSha3
import Derived.BigRegion
namespace Go.Proofs.YtbioclpobmgikaaDoor
open Go.RowKit

theorem info5 : (Tryd.prog.info? 5).map (·.size) = some 1 := by kernel_rfl

theorem Bs_mem (l : List UInt8) : ∀ v ∈ Bs l, v.oneCell' = true := by
  intro v hv
  simp only [Bs, List.mem_map] at hv
  obtain ⟨x, _, rfl⟩ := hv
  rfl

/-- a hash's cells -/
def hcells (s : S8) (held : List UInt8) (n : Nat) : List Value := U s.l ++ (Bs held ++ [.int .i64 (n : Int)])
theorem hcells_length (s : S8) (held : List UInt8) (n : Nat) (h : held.length = 64) : (hcells s held n).length = 73 := by simp [hcells, U_length, Bs_length, l_length, h]
theorem hcells_n (s : S8) (held : List UInt8) (n : Nat) (h : held.length = 64) : (hcells s held n)[72]? = some (.int .i64 (n : Int)) := by
  unfold hcells
  rw [List.getElem?_append_right (by simp [U_length, l_length]), List.getElem?_append_right (by simp [U_length, l_length, Bs_length, h])]
  simp [U_length, l_length, Bs_length, h]
theorem hcells_held (s : S8) (held : List UInt8) (n j : Nat) (h : held.length = 64) (hj : j < 64) : (hcells s held n)[8 + j]? = some (.int .u8 ((at8 held j).toNat : Int)) := by
  unfold hcells
  rw [List.getElem?_append_right (by simp [U_length, l_length]), List.getElem?_append_left (by simp [U_length, l_length, Bs_length, h]; omega)]
  rw [U_length, l_length, Nat.add_sub_cancel_left]
  exact Bs_get _ _ (by omega)
theorem hcells_set (s : S8) (held : List UInt8) (n m : Nat) (h : held.length = 64) : (hcells s held n).set 72 (.int .i64 (m : Int)) = hcells s held m := by
  unfold hcells
  rw [List.set_append_right _ _ (by simp [U_length, l_length]), List.set_append_right _ _ (by simp [U_length, l_length, Bs_length, h])]
  simp [U_length, l_length, Bs_length, h]
theorem hcells_over (s : S8) (held : List UInt8) (n i : Nat) (c : List UInt8) (h : held.length = 64) (hi : i + c.length ≤ 64) :
    (hcells s held n).take (8 + i) ++ (Bs c ++ (hcells s held n).drop (8 + i + (Bs c).length)) = hcells s (over held i c) n := by
  unfold hcells over
  rw [Bs_length, List.take_append, U_length, l_length, List.take_of_length_le (by simp [U_length, l_length]), List.drop_append, U_length, l_length, List.drop_of_length_le (by simp only [U_length, l_length]; omega)]
  rw [show 8 + i - 8 = i by omega, show 8 + i + c.length - 8 = i + c.length by omega]
  rw [List.take_append_of_le_length (by rw [Bs_length]; omega), List.drop_append_of_le_length (by rw [Bs_length]; omega)]
  simp [Bs]

/-- the hash in block hb is that of this text -/
def HashAt (w : World) (hb : Nat) (l : List UInt8) : Prop := ∃ s held, Rep l s held ∧ w.heap[hb]? = some (.cells (hcells s held l.length).toArray 118)
theorem HashAt.of_block {w w' : World} {hb : Nat} {l : List UInt8} (h : HashAt w hb l) (e : w'.heap[hb]? = w.heap[hb]?) : HashAt w' hb l := by
  obtain ⟨s, held, h1, h2⟩ := h
  exact ⟨s, held, h1, e.trans h2⟩

/-- a slice's bytes -/
def BytesAt (w : World) (A : Option Addr) (l : List UInt8) : Prop := ∀ j, j < l.length → ∃ a, A = some a ∧ w.cell? (a.add j) = some (.int .u8 ((at8 l j).toNat : Int))
/-- they don't lie in this block -/
def NotIn (A : Option Addr) (hb : Nat) : Prop := ∀ a, A = some a → a.block ≠ hb

theorem add_block (a : Addr) (j : Nat) : (a.add j).block = a.block := by unfold Addr.add; split <;> rfl

theorem Laid.of_grown {w w' : World} {hb : Nat} (h : Laid w) (hg : w.grownBy w' (some hb)) (hhb : 1 < hb) : Laid w' := by
  exact ⟨fun j hj => hg.cell (h.k j hj) (by simp; omega), fun j hj => hg.cell (h.s j hj) (by simp; omega)⟩

theorem grownBy.trans {a b c : World} {row : Option Nat} (h : a.grownBy b row) (k : b.grownBy c row) : a.grownBy c row :=
  ⟨k.os.trans h.os, k.tape.trans h.tape, k.output.trans h.output, Nat.le_trans h.size k.size, fun i hi hne => (k.block i (Nat.lt_of_lt_of_le hi h.size) hne).trans (h.block i hi hne)⟩
theorem grownBy.refl (a : World) (row : Option Nat) : a.grownBy a row := ⟨rfl, rfl, rfl, Nat.le_refl _, fun _ _ _ => rfl⟩
theorem grownBy.drew {a b : World} {row : Option Nat} (h : a.grownBy b row) : a.grownBy b.drew row := ⟨h.os, h.tape, h.output, h.size, h.block⟩
theorem grownBy.setRow {a b : World} {g : Nat} (h : a.grownBy b (some g)) (cs : Array Value) : a.grownBy (b.setRow g cs) (some g) :=
  ⟨h.os, h.tape, h.output, by simpa using h.size, fun k hk hne => by rw [setRow_other b g k cs (fun e => hne (by rw [e]))]; exact h.block k hk hne⟩
theorem grownBy.setCell {a b : World} {g o : Nat} (h : a.grownBy b (some g)) (v : Value) : a.grownBy (b.setCell ⟨g, o, none⟩ v) (some g) :=
  ⟨h.os, h.tape, h.output, by simpa [World.setCell] using h.size, fun k hk hne => by rw [heap_setCell_other b _ k v (fun e => hne (by rw [e]))]; exact h.block k hk hne⟩

theorem BytesAt.grown {w w' : World} {A : Option Addr} {l : List UInt8} {hb : Nat} (h : BytesAt w A l) (hn : NotIn A hb) (hg : w.grownBy w' (some hb)) : BytesAt w' A l := fun j hj => by
  obtain ⟨a, rfl, hc⟩ := h j hj
  exact ⟨a, rfl, hg.cell hc (by rw [add_block]; simpa using hn a rfl)⟩

theorem run_sliceAt_held (w : World) (hb N : Nat) : (Instr.sliceAt 116 (.pointer (some ⟨hb, 8, none⟩)) (some (.int .i64 ((N : Int) % 64))) none none).run Tryd.prog w =
    .ok (.slice (some ⟨hb, 8 + N % 64, none⟩) (64 - N % 64) (64 - N % 64)) w := by
  have h0 : (0 : Int) ≤ (N : Int) % 64 ∧ (N : Int) % 64 ≤ 64 := by omega
  have h1 : ((N : Int) % 64).toNat = N % 64 := by omega
  have h2 : ¬ 64 = N % 64 := by omega
  have hs : (sizeOf 5).run Tryd.prog w = .ok 1 w := by
    cases hq : Tryd.prog.info? 5 with
    | none => have := info5; simp [hq] at this
    | some q => have := info5; simp [hq] at this; simp [sizeOf, typeInfo, hq, this]
  unfold Instr.sliceAt
  simp only [Sem.run_bind, run_underlying Tryd.underlying116]
  simp [Instr.sureAddr, Instr.sliceBounds, Instr.sliceBound, asIntOf, h0, h1, h2, hs, Addr.add]

theorem run_sliceAt_from (w : World) (ad : Addr) (M c C : Nat) (hC : C ≤ M) : (Instr.sliceAt 22 (.slice (some ad) M c) (some (.int .i64 (C : Int))) none none).run Tryd.prog w =
    .ok (.slice (if c = C then some ad else some (ad.add C)) (M - C) (c - C)) w := by
  have hs : (sizeOf 5).run Tryd.prog w = .ok 1 w := by
    cases hq : Tryd.prog.info? 5 with
    | none => have := info5; simp [hq] at this
    | some q => have := info5; simp [hq] at this; simp [sizeOf, typeInfo, hq, this]
  unfold Instr.sliceAt Instr.slice
  simp only [Sem.run_bind, run_underlying Tryd.underlying22]
  simp [Instr.sliceBounds, Instr.sliceBound, asIntOf, hC, hs, run_underlying Tryd.underlying22]
theorem BytesAt.from {w : World} {ad : Addr} {l : List UInt8} {c C : Nat} (h : BytesAt w (some ad) l) (hc : l.length ≤ c) : BytesAt w (if c = C then some ad else some (ad.add C)) (l.drop C) := fun j hj => by
  rw [List.length_drop] at hj
  rw [if_neg (by omega)]
  obtain ⟨a, ha, hcell⟩ := h (C + j) (by omega)
  obtain rfl : ad = a := Option.some.inj ha
  refine ⟨ad.add C, rfl, ?_⟩
  rw [show (ad.add C).add j = ad.add (C + j) by unfold Addr.add; split <;> split <;> simp_all; omega]
  rw [hcell]
  simp [at8]
theorem NotIn.from {ad : Addr} {hb c C : Nat} (h : NotIn (some ad) hb) : NotIn (if c = C then some ad else some (ad.add C)) hb := fun a ha => by
  have h := h ad rfl
  split at ha <;> obtain rfl := Option.some.inj ha
  · exact h
  · rw [add_block]; exact h

/-- of a hash that is written to, between rounds: c of the bytes are taken -/
def lenOf : Value → Nat | .slice _ n _ => n | _ => 0
structure WriteAt (w wr : World) (hb : Nat) (l bs : List UInt8) (A : Option Addr) (k : Nat) (v : Value) : Prop where
  hash : HashAt wr hb (l ++ bs.take k)
  grown : w.grownBy wr (some hb)
  sl : ∃ A' c', v = .slice A' (bs.length - k) c' ∧ bs.length - k ≤ c' ∧ BytesAt w A' (bs.drop k) ∧ (k < bs.length → NotIn A' hb)

set_option maxHeartbeats 1000000 in
set_option maxRecDepth 100000 in
theorem write_any (hb : Nat) (l bs : List UInt8) (A : Option Addr) (c : Nat) (w : World) (hL : Laid w) (hh : HashAt w hb l) (h1 : 1 < hb) (hbs : BytesAt w A bs) (hni : 0 < bs.length → NotIn A hb) (hc : bs.length ≤ c)
    (hbig : l.length + bs.length ≤ 4611686018427387904) :
    Calls Tryd.prog 23 #[.pointer (some ⟨hb, 0, none⟩), .slice A bs.length c] w fun e w' => e = .returned (.int .i64 ((l.length + bs.length : Nat) : Int)) ∧ HashAt w' hb (l ++ bs) ∧ w.grownBy w' (some hb) := by
  have hs : WriteAt w w hb l bs A 0 (.slice A bs.length c) := ⟨by simpa using hh, grownBy.refl _ _, A, c, rfl, by simpa using hc, by simpa using hbs, hni⟩
  clear hh hbs hni hc
  go_enter Tryd.func23, Tryd.ntmps23
  go_wp2
  go_loopw [1, 5, 6] (fun v a b wr => ∃ k : Nat, k ≤ bs.length ∧ WriteAt w wr hb l bs A k v) (fun v _ _ _ => lenOf v)
  case atStart => exact ⟨0, by omega, hs⟩
  case round =>
    clear hs
    obtain ⟨k, hk, ⟨s, held, hrep, hrow⟩, hgr, A', c', rfl, hc', hb', hn'⟩ := hrel
    have hN : (l ++ bs.take k).length = l.length + k := by simp; omega
    rw [hN] at hrow
    by_cases hlt : k < bs.length
    · have hn' := hn' hlt
      have hheld := hrep.len
      have gn : wr.cell? ⟨hb, 72, none⟩ = some (.int .i64 ((l.length + k : Nat) : Int)) := by
        rw [cell_of_row _ _ _ _ _ _ hrow]; simpa using hcells_n s held (l.length + k) hheld
      have hm : 0 < bs.length - k := by omega
      have HROW := Lib.hid hrow
      clear hrow
      generalize hNe : l.length + k = N at *
      generalize hMe : bs.length - k = M at *
      have HN := Lib.hid hNe; have HM := Lib.hid hMe; have HNl := Lib.hid hN
      clear hNe hMe hN
      have hNb : N ≤ 4611686018427387904 := by have := HN.out; omega
      have hsl := run_sliceAt_held
      obtain ⟨ad, rfl, _⟩ := hb' 0 (by rw [List.length_drop]; have := HM.out; omega)
      obtain ⟨cc, hcc⟩ : ∃ cc, cc = (bs.drop k).take (min M (64 - N % 64)) := ⟨_, rfl⟩
      have hcl : cc.length = min M (64 - N % 64) := by rw [hcc, List.length_take, List.length_drop, HM.out]; omega
      have hsrc : ∀ j v, (Bs cc)[j]? = some v → wr.cell? (ad.add j) = some v := fun j v hv => by
        have hj : j < cc.length := by rw [← Bs_length]; exact (List.getElem?_eq_some_iff.1 hv).1
        have hj2 : j < (bs.drop k).length := by rw [List.length_drop, HM.out]; omega
        obtain ⟨a, ha, hc⟩ := hb'.grown hn' hgr j hj2
        obtain rfl : ad = a := Option.some.inj ha
        rw [hc, ← hv, Bs_get _ _ hj]
        congr 4
        rw [hcc, at8, at8, List.getD_eq_getElem?_getD, List.getD_eq_getElem?_getD, List.getElem?_take, if_pos (by omega)]
      have HCC := Lib.hid hcc; have HCL := Lib.hid hcl; have HS := Lib.hid hsrc
      clear hcc hcl hsrc
      go_wp2_with (refine wpList_copy_own rfl (.tmp 21) (.tmp 22) 22 22 rfl 5 Tryd.underlying22 info5 hb (8 + N % 64) _ _ ad _ _ rfl rfl _ 118 HROW.out (Bs cc) (by rw [Bs_length]; exact HCL.out) HS.out (by rw [List.size_toArray, hcells_length _ _ _ hheld, Bs_length, HCL.out]; omega) (Bs_mem _) ?_)
      have hcc2 : N % 64 + cc.length ≤ 64 := by have := HCL.out; omega
      have hcm : cc.length ≤ M := by have := HCL.out; omega
      have hcp : 0 < cc.length := by have := HCL.out; omega
      rw [hcells_over s held N (N % 64) cc hheld hcc2]
      have hrow := setRow_heap wr hb _ (hcells s (over held (N % 64) cc) N).toArray 118 (0, 0) HROW.out
      have hgr := grownBy.setRow hgr (hcells s (over held (N % 64) cc) N).toArray
      have hol : (over held (N % 64) cc).length = 64 := by rw [over_length _ _ _ (by omega), hheld]
      clear gn HROW HS hsl
      generalize wr.setRow hb (hcells s (over held (N % 64) cc) N).toArray = w2 at hrow hgr ⊢
      have gn : w2.cell? ⟨hb, 72, none⟩ = some (.int .i64 (N : Int)) := by
        rw [cell_of_row _ _ _ _ _ _ hrow]; simpa using hcells_n s _ N hol
      have gf := frozen_of_row _ _ 72 _ _ hrow
      have HROW := Lib.hid hrow
      obtain ⟨A2, hA2⟩ : ∃ A2, A2 = (if c' = cc.length then some ad else some (ad.add cc.length)) := ⟨_, rfl⟩
      have hsl : ∀ w', (Instr.sliceAt 22 (.slice (some ad) M c') (some (.int .i64 (cc.length : Int))) none none).run Tryd.prog w' = .ok (.slice A2 (M - cc.length) (c' - cc.length)) w' := fun w' => by rw [hA2]; exact run_sliceAt_from w' ad M c' _ hcm
      have hb2 : BytesAt w A2 ((bs.drop k).drop cc.length) := by rw [hA2]; exact hb'.from (by rw [List.length_drop, HM.out]; exact hc')
      have hn2 : NotIn A2 hb := by rw [hA2]; exact hn'.from
      have hsum : IntKind.i64.wrap ((N : Int) + (cc.length : Int)) = (N : Int) + (cc.length : Int) := IntWalk.i64_in _ (by omega)
      clear hA2 hb' hn' hrow
      rw [Bs_length]
      go_region
      clear hsl hsum
      have htk : l ++ bs.take (k + cc.length) = (l ++ bs.take k) ++ cc := by
        rw [List.append_assoc, List.take_add, HCC.out]
        congr 2
        rw [List.length_take, List.length_drop, HM.out, List.take_eq_take_iff, List.length_drop, HM.out]
        omega
      have hlen : N % 64 = (l ++ bs.take k).length % 64 := by rw [HNl.out]
      have hrow4 := heap_setCell_same w2 hb 72 _ 118 (.int .i64 ((N + cc.length : Nat) : Int)) HROW.out
      rw [List.setIfInBounds_toArray, hcells_set s _ N (N + cc.length) hol] at hrow4
      have hgr4 := grownBy.setCell (o := 72) hgr (.int .i64 ((N + cc.length : Nat) : Int))
      rw [Int.natCast_add] at hrow4 hgr4
      have hgr4 := grownBy.drew hgr4
      have hrow4 : (w2.setCell ⟨hb, 72, none⟩ (.int .i64 ((N : Int) + (cc.length : Int)))).drew.heap[hb]? = _ := hrow4
      generalize (w2.setCell ⟨hb, 72, none⟩ (.int .i64 ((N : Int) + (cc.length : Int)))).drew = w4 at hrow4 hgr4 ⊢
      have hsl4 : ∃ A' c'', Value.slice A2 (M - cc.length) (c' - cc.length) = .slice A' (bs.length - (k + cc.length)) c'' ∧ bs.length - (k + cc.length) ≤ c'' ∧ BytesAt w A' (bs.drop (k + cc.length)) ∧ (k + cc.length < bs.length → NotIn A' hb) := by
        refine ⟨A2, c' - cc.length, ?_, ?_, ?_, fun _ => hn2⟩
        · rw [← HM.out, Nat.sub_sub]
        · have := HM.out; omega
        · rw [← List.drop_drop]; exact hb2
      have HTK := Lib.hid htk; have HLEN := Lib.hid hlen; have HSL := Lib.hid hsl4
      clear htk hlen hsl4 hb2 hn2 gn gf HROW hgr
      by_cases hfull : N % 64 + cc.length = 64
      · have hfb : ((N : Int) % 64 + (cc.length : Int) == 64) = true := by rw [beq_iff_eq]; omega
        have HF := Lib.hid hfull
        clear hfull
        go_wp2_with fail
        refine wp_region_still_tail 6 (by kernel_rfl) (by kernel_rfl) ?_
        have hgr := grownBy.drew hgr4
        have hrow : w4.drew.heap[hb]? = _ := hrow4
        change wpStill _ _ w4.drew (fun a' => wpList _ _ _ _ a' w4.drew) _ _
        generalize w4.drew = w5 at hrow hgr ⊢
        have HROW := Lib.hid hrow
        have hL5 := hL.of_grown hgr h1
        have hheld5 : Hid (∀ j, j < 64 → w5.cell? ⟨hb, 8 + j, none⟩ = some (.int .u8 ((at8 (over held (N % 64) cc) j).toNat : Int))) := fun j hj => by
          rw [cell_of_row _ _ _ _ _ _ hrow, List.getElem?_toArray]; exact hcells_held _ _ _ j hol hj
        clear hrow hrow4 hgr4
        simp only [List.take_succ_cons, List.take_zero, List.drop_succ_cons, List.drop_zero]
        repeat still_step
        refine wpStill_nil ?_
        go_wp2_with (go_at_call 80; refine (take_any hb hb 8 s _ 118 (over held (N % 64) cc) _ hL5 HROW.out hheld5.out).mono ?_; rintro e w6 ⟨rfl, hg6, hrow6⟩)
        go_roundw
        case rel =>
          have hN6 : (l ++ bs.take (k + cc.length)).length = N + cc.length := by rw [HTK.out, List.length_append, HNl.out]
          refine ⟨k + cc.length, by have := HM.out; omega, ⟨comp s (over held (N % 64) cc), over held (N % 64) cc, ?_, ?_⟩, grownBy.trans hgr hg6, HSL.out⟩
          · rw [HTK.out, HLEN.out]; exact hrep.full cc (by rw [← HLEN.out]; exact HF.out)
          · rw [hN6]; exact hrow6
        case measure => simp only [lenOf]; omega
      · have hfb : ((N : Int) % 64 + (cc.length : Int) == 64) = false := by rw [beq_eq_false_iff_ne]; omega
        have HF := Lib.hid hfull
        clear hfull
        go_wp2_with fail
        go_roundw
        case rel =>
          have hN6 : (l ++ bs.take (k + cc.length)).length = N + cc.length := by rw [HTK.out, List.length_append, HNl.out]
          refine ⟨k + cc.length, by have := HM.out; omega, ⟨s, over held (N % 64) cc, ?_, ?_⟩, hgr4, HSL.out⟩
          · rw [HTK.out, HLEN.out]; exact hrep.some cc (by rw [← HLEN.out]; have := HF.out; omega)
          · rw [hN6]; exact hrow4
        case measure => simp only [lenOf]; omega
    · obtain rfl : k = bs.length := by omega
      have gn : wr.cell? ⟨hb, 72, none⟩ = some (.int .i64 ((l.length + bs.length : Nat) : Int)) := by
        rw [cell_of_row _ _ _ _ _ _ hrow]; simpa using hcells_n s held (l.length + bs.length) hrep.len
      have HROW := Lib.hid hrow
      have HT := Lib.hid hN
      clear hrow hN hlt
      rw [Nat.sub_self] at hc' ⊢
      rw [List.take_length] at hrep
      generalize hNe : l.length + bs.length = N at *
      have HN := Lib.hid hNe
      clear hNe
      go_wp2
      go_ret
      exact ⟨ret_i (by rw [HN.out]), ⟨s, held, hrep, by rw [List.length_append, HN.out]; exact HROW.out⟩, hgr⟩

/-- what a nil hash answers -/
theorem write_nil (A : Option Addr) (n c : Nat) (w : World) : Calls Tryd.prog 23 #[.pointer none, .slice A n c] w fun e w' => e = .returned (.int .i64 0) ∧ w = w' := by
  go_enter Tryd.func23, Tryd.ntmps23
  go_wp2
  go_ret
  exact ⟨rfl, rfl⟩
theorem len_nil (w : World) : Calls Tryd.prog 24 #[.pointer none] w fun e w' => e = .returned (.int .i64 0) ∧ w = w' := by
  go_enter Tryd.func24, Tryd.ntmps24
  go_wp2
  go_ret
  exact ⟨rfl, rfl⟩
theorem len_any (hb : Nat) (l : List UInt8) (w : World) (hh : HashAt w hb l) : Calls Tryd.prog 24 #[.pointer (some ⟨hb, 0, none⟩)] w fun e w' => e = .returned (.int .i64 (l.length : Int)) ∧ w = w' := by
  obtain ⟨s, held, hrep, hrow⟩ := hh
  have gn : w.cell? ⟨hb, 72, none⟩ = some (.int .i64 ((l.length : Nat) : Int)) := by
    rw [cell_of_row _ _ _ _ _ _ hrow]; simpa using hcells_n s held l.length hrep.len
  clear hrow
  go_enter Tryd.func24, Tryd.ntmps24
  go_wp2
  go_ret
  exact ⟨rfl, rfl⟩
theorem new_any (w : World) (hL : Laid w) : Calls Tryd.prog 22 #[] w fun e w' => e = .returned (.pointer (some ⟨w.heap.size, 0, none⟩)) ∧ HashAt w' w.heap.size [] ∧ Below w.heap.size w w' := by
  have c0 : w.cell? ⟨0, 0, none⟩ = some (.int .u32 (H0.a.toNat : Int)) := hL.s 0 (by omega)
  have c1 : w.cell? ⟨0, 1, none⟩ = some (.int .u32 (H0.b.toNat : Int)) := hL.s 1 (by omega)
  have c2 : w.cell? ⟨0, 2, none⟩ = some (.int .u32 (H0.c.toNat : Int)) := hL.s 2 (by omega)
  have c3 : w.cell? ⟨0, 3, none⟩ = some (.int .u32 (H0.d.toNat : Int)) := hL.s 3 (by omega)
  have c4 : w.cell? ⟨0, 4, none⟩ = some (.int .u32 (H0.e.toNat : Int)) := hL.s 4 (by omega)
  have c5 : w.cell? ⟨0, 5, none⟩ = some (.int .u32 (H0.f.toNat : Int)) := hL.s 5 (by omega)
  have c6 : w.cell? ⟨0, 6, none⟩ = some (.int .u32 (H0.g.toNat : Int)) := hL.s 6 (by omega)
  have c7 : w.cell? ⟨0, 7, none⟩ = some (.int .u32 (H0.h.toNat : Int)) := hL.s 7 (by omega)
  go_enter Tryd.func22, Tryd.ntmps22
  go_wp2
  go_ret
  refine ⟨rfl, ⟨H0, List.replicate 64 0, Rep.new, (heap_alloc_new w _).trans ?_⟩, (Below.refl _ _).alloc (Nat.le_refl _) _⟩
  exact congrArg some (congrArg (fun c => Obj.cells c 118) (by kernel_rfl))
end Go.Proofs.YtbioclpobmgikaaDoor
