/- Blobs filtered and found: walks. -/
import Derived.Test.YtbioclpobmgikaaDoorSt2
namespace Go.Proofs.YtbioclpobmgikaaDoor
open Go.RowKit

theorem info70' : (Tryd.prog.info? 70).map (fun i => (i.zero, i.size, i.bytes)) = some (some (.agg #[.string ⟨#[]⟩, .slice none 0 0]), 2, 40) := by kernel_rfl
theorem zero70 : ∃ i, Tryd.prog.info? 70 = some i ∧ i.zero = some (.agg #[.string ⟨#[]⟩, .slice none 0 0]) ∧ i.size = 2 ∧ i.bytes = 40 := by
  have h := info70'
  cases hi : Tryd.prog.info? 70 with
  | none => rw [hi] at h; cases h
  | some i => rw [hi] at h; simp at h; exact ⟨i, rfl, h.1, h.2.1, h.2.2⟩
theorem add_odd (a : Addr) (q : Nat) : a.add (2 * q + 1) = ⟨(a.add (q * 2)).block, (a.add (q * 2)).off + 1, none⟩ := by
  unfold Addr.add
  rw [if_neg (by omega)]
  split
  · rename_i h; have : q = 0 := by omega
    subst this; rfl
  · simp only [Addr.mk.injEq, and_true, true_and]; omega
theorem RowAt.cells {w : World} {a : Addr} {bl : List Bl} (h : RowAt w (some a) bl) : ∀ j u, (Row bl)[j]? = some u → w.cell? (a.add j) = some u := fun j u hu => by
  have hj : j < bl.length * 2 := by rw [← Row_length]; exact (List.getElem?_eq_some_iff.1 hu).1
  obtain ⟨q, rfl | rfl⟩ : ∃ q, j = 2 * q ∨ j = 2 * q + 1 := ⟨j / 2, by omega⟩
  · obtain ⟨a', ha, h1, _⟩ := h q (by omega)
    obtain rfl := Option.some.inj ha
    rw [show 2 * q = q * 2 by omega, h1, ← hu]
    exact (Row_get bl q (by omega)).1.symm
  · obtain ⟨a', ha, _, h1⟩ := h q (by omega)
    obtain rfl := Option.some.inj ha
    rw [add_odd, h1, ← hu]
    exact (Row_get bl q (by omega)).2.symm
/-- blobs are appended to a row of a call's own -/
theorem wpList_append_blobs {w : World} {ops : Array Oper} {rest : List Oper} {o : Oper} {a : Act} {Q : Exit → Act → World → Prop} (hgd : o.guard = none) (s x : Operand) (t : TypeId) (ht : Tryd.prog.underlying t = some (.slice 70))
    (ho : o.op = .call { callee := .builtin .append, args := #[s, x], argTypes := #[t, t] })
    (base : Nat) (v : Value) (bl : List Bl) (hs : a.eval s = v) (hown : w.ownsRow base 70 2 v bl.length (Row bl))
    (ad : Addr) (nb : List Bl) (m c : Nat) (hm : nb.length = m) (hx : a.eval x = .slice (some ad) m c) (hr : RowAt w (some ad) nb)
    (h63 : bl.length + m ≤ 1000000) (hbase : base ≤ w.heap.size)
    (h : ∀ v' w', w'.ownsRow base 70 2 v' (bl ++ nb).length (Row (bl ++ nb)) → w.grownBy w' v.ownBlock → wpList Tryd.prog ops Q rest (a.put o.dst v') w') :
    wpList Tryd.prog ops Q (o :: rest) a w := by
  subst hm
  obtain ⟨i0, hi0, hz0, hz1, hz2⟩ := zero70
  exact wpList_append_own w hgd s x t ho base 70 i0 _ 2 40 ht hi0 hz0 hz1 hz2 rfl (by decide) v _ _ hs hown ad nb.length c (Row nb) hx (by rw [Row_length])
    hr.cells (Row_mem _) (by unfold maxLen; omega) (by omega) hbase (fun v' w' h1 h2 _ => h v' w' (by rw [List.length_append, Row_append]; exact h1) h2)
theorem blob_new (w : World) (b : Bl) : RowAt (w.alloc (.cells #[.string (St b.name), .slice b.D b.data.length b.c] 70)) (some ⟨w.heap.size, 0, none⟩) [b] := fun j hj => by
  have : j = 0 := by simp at hj; exact hj
  subst this
  refine ⟨_, rfl, ?_, ?_⟩
  · rw [show (⟨w.heap.size, 0, none⟩ : Addr).add (0 * 2) = ⟨w.heap.size, 0, none⟩ from rfl, World.cell?_alloc_new]; rfl
  · show (w.alloc _).cell? ⟨w.heap.size, 0 + 1, none⟩ = _
    rw [World.cell?_alloc_new]; rfl
theorem rowOwn_below {w w' : World} {base n sz : Nat} {e : TypeId} {v : Value} {xs : List Value} (h : w.ownsRow base e sz v n xs) (hb : Below w.heap.size w w') : w'.ownsRow base e sz v n xs := by
  refine ⟨h.1, ?_⟩
  rcases h.2 with hn | ⟨g, cap, cur, h1, h2, h3, rest⟩
  · exact .inl hn
  · exact .inr ⟨g, cap, cur, h1, h2, (hb.block _ (Array.getElem?_eq_some_iff.1 h3).1).trans h3, rest⟩
/-- a row of a call's own, as it lies -/
theorem own_row {w : World} {base : Nat} {v : Value} {bl : List Bl} (h : w.ownsRow base 70 2 v bl.length (Row bl)) : ∃ A c, v = .slice A bl.length c ∧ bl.length ≤ c ∧ (A = none → c = 0) ∧ RowAt w A bl := by
  rcases h.2 with ⟨rfl, h0⟩ | ⟨g, cap, cur, rfl, _, _, h4, _⟩
  · exact ⟨none, 0, by rw [h0], by omega, fun _ => rfl, fun j hj => by omega⟩
  · refine ⟨some ⟨g, 0, none⟩, cap, rfl, h4, fun h => (by cases h), fun j hj => ⟨_, rfl, ?_, ?_⟩⟩
    · rw [show j * 2 = 2 * j by omega]
      exact h.cells (g := g) rfl _ _ (Row_get bl j hj).1
    · rw [← add_odd]
      exact h.cells (g := g) rfl _ _ (Row_get bl j hj).2
theorem AllGood5.append {w : World} {a b : List Bl} (h1 : AllGood5 w a) (h2 : AllGood5 w b) : AllGood5 w (a ++ b) := fun x hx => by
  rw [List.mem_append] at hx
  exact hx.elim (h1 x) (h2 x)
/-- what is asked of a function value over blobs: it looks at the name -/
def Asks (g : Nat) (lb : Array Value) (p : List UInt8 → Bool) (w : World) : Prop :=
  ∀ (W : World) (b : Bl), Below w.heap.size w W → Calls Tryd.prog g (#[.agg #[.string (St b.name), .slice b.D b.data.length b.c]] ++ lb) W fun e w' => e = .returned (.bool (p b.name)) ∧ Below W.heap.size W w'
def keepL (p : List UInt8 → Bool) (bl : List Bl) : List Bl := bl.filter fun b => p b.name
theorem keepL_take (p : List UInt8 → Bool) (bl : List Bl) (k : Nat) (h : k < bl.length) : keepL p (bl.take (k + 1)) = keepL p (bl.take k) ++ (if p (bl.getD k bl0).name then [bl.getD k bl0] else []) := by
  rw [List.take_add_one, keepL, List.filter_append, ← keepL, List.getElem?_eq_getElem h]
  simp [List.getD, h, List.filter_cons]

set_option maxHeartbeats 1000000 in
set_option maxRecDepth 100000 in
theorem filter_any (g : Nat) (lb : Array Value) (p : List UInt8 → Bool) (eg : ∀ args w, (callFunc g args).run Tryd.prog w = .ok (.enter g args) w) (bl : List Bl) (A : Option Addr) (c : Nat) (w : World)
    (hp : Asks g lb p w) (hr : RowAt w A bl) (hg : AllGood w bl) (hn : bl.length ≤ 1000) (hd : ∀ b ∈ bl, b.data.length ≤ 10000000) :
    Calls Tryd.prog 85 #[.slice A bl.length c, .func (.func g) #[] lb] w fun e w' => ∃ v bl', e = .returned v ∧ Below w.heap.size w w' ∧ bl'.map Bl.abs = (keepL p bl).map Bl.abs ∧ AllGood5 w' bl' ∧ w'.ownsRow w.heap.size 70 2 v bl'.length (Row bl') := by
  have HR := Lib.hid hr; have HD := Lib.hid hd; have HG := Lib.hid hg; have HP := Lib.hid hp
  clear hr hd hg hp
  generalize hl : bl.length = n at *
  have HL := Lib.hid hl
  clear hl
  go_enter Tryd.func85, Tryd.ntmps85
  go_wp2_with fail
  go_loopw [5, 7, 10] (fun vo _ vi wr => ∃ (k : Nat) (bo : List Bl), k ≤ n ∧ vi = .int .i64 (k : Int) ∧ bo.length ≤ k ∧ Hid (bo.map Bl.abs = (keepL p (bl.take k)).map Bl.abs) ∧ Hid (AllGood5 wr bo) ∧ Below w.heap.size w wr ∧ wr.ownsRow w.heap.size 70 2 vo bo.length (Row bo)) (fun _ _ v _ => n - (intOf v).toNat)
  case atStart => exact ⟨0, [], by omega, rfl, by simp, Lib.hid rfl, Lib.hid (fun b hb => by cases hb), Below.refl _ _, ⟨rfl, .inl ⟨rfl, rfl⟩⟩⟩
  case round =>
    obtain ⟨k, bo, hk, rfl, hbk, HM, HA, hbel, hown⟩ := hrel
    by_cases hlt : k < n
    · obtain ⟨a, rfl, g1, g2⟩ := HR.out.below hbel k (by rw [HL.out]; exact hlt)
      have hmem := getD_mem bl k (by rw [HL.out]; exact hlt)
      have hdk := HD.out _ hmem
      have HGK := Lib.hid (HG.out _ hmem)
      have HT := Lib.hid (keepL_take p bl k (by rw [HL.out]; exact hlt))
      clear hmem
      generalize bl.getD k bl0 = b at *
      have hwz := hbel.size
      have hba : Below w.heap.size w (wr.alloc (.cells #[.string (St b.name), .slice b.D b.data.length b.c] 70)) := hbel.alloc hwz _
      have hcall := HP.out _ b hba
      have hown1 : (wr.alloc (.cells #[.string (St b.name), .slice b.D b.data.length b.c] 70)).ownsRow w.heap.size 70 2 u5 bo.length (Row bo) := hown.alloc _
      have HA1 := Lib.hid (HA.out.below ((Below.refl _ _).alloc (Nat.le_refl _) (.cells #[.string (St b.name), .slice b.D b.data.length b.c] 70)))
      have c0 : (wr.alloc (.cells #[.string (St b.name), .slice b.D b.data.length b.c] 70)).cell? ⟨wr.heap.size, 0, none⟩ = some (.string (St b.name)) := (World.cell?_alloc_new ..).trans rfl
      have c1 : (wr.alloc (.cells #[.string (St b.name), .slice b.D b.data.length b.c] 70)).cell? ⟨wr.heap.size, 1, none⟩ = some (.slice b.D b.data.length b.c) := (World.cell?_alloc_new ..).trans rfl
      have hlt1 : wr.heap.size < (wr.alloc (.cells #[.string (St b.name), .slice b.D b.data.length b.c] 70)).heap.size := by simp
      have C0 := Lib.hid c0; have C1 := Lib.hid c1; have HBA := Lib.hid hba; have HOW := Lib.hid hown1; have HLT := Lib.hid hlt1
      clear c0 c1 hba hown1 hown hlt1 HA
      cases hq : p b.name with
      | true =>
        rw [hq] at hcall
        have HCALL := Lib.hid hcall
        clear hcall
        go_wp2_with (first
          | (go_at_fn g; refine HCALL.out.mono ?_; rintro e w2 ⟨rfl, hb2⟩
             have k0 := (hb2.cell (p := ⟨wr.heap.size, 0, none⟩) HLT.out).trans C0.out
             have k1 := (hb2.cell (p := ⟨wr.heap.size, 1, none⟩) HLT.out).trans C1.out)
          | (go_at_call 93; refine (apart_any b _ (HGK.out.below (HBA.out.trans (hb2.mono HBA.out.size))) (by omega)).mono ?_; rintro e w3 ⟨hb3, b', hab, rfl, hgb⟩
             have hbw2 := HBA.out.trans (hb2.mono HBA.out.size)
             have hbw3 := hbw2.trans (hb3.mono hbw2.size)
             have hown3 := rowOwn_below (rowOwn_below HOW.out hb2) hb3
             have hsz3 := hbw3.size)
          | (refine wpList_append_blobs rfl (.tmp 17) (.tmp 20) 68 Tryd.underlying68 rfl w.heap.size _ bo rfl (hown3.alloc _) ⟨w3.heap.size, 0, none⟩ [b'] 1 1 rfl rfl (blob_new w3 b') (by omega) (by simp; omega) ?_
             rintro v' w4 hown4 hg4
             have hb4 := (hbw3.alloc hsz3 (.cells #[.string (St b'.name), .slice b'.D b'.data.length b'.c] 70)).grown hg4 (by simp; omega) (fun k hk => (hown3.lt k hk).1)))
        go_roundw
        case rel =>
          refine ⟨k + 1, bo ++ [b'], by omega, by go_num, by simp; omega, Lib.hid ?_, Lib.hid ?_, hb4, hown4⟩
          · rw [HT.out, hq, if_pos rfl, List.map_append, List.map_append, HM.out]
            simp [hab]
          · have hal := (Below.refl w3.heap.size w3).alloc (Nat.le_refl _) (.cells #[.string (St b'.name), .slice b'.D b'.data.length b'.c] 70)
            exact AllGood5.append (fun x hx => ((((HA1.out x hx).below hb2).below hb3).below hal).grown (hown3.alloc _) hg4) (fun x hx => by
              obtain rfl : x = b' := by simpa using hx
              exact (hgb.below hal).grown (hown3.alloc _) hg4)
        case measure => simp [intOf]; omega
      | false =>
        rw [hq] at hcall
        have HCALL := Lib.hid hcall
        clear hcall
        go_wp2_with (go_at_fn g; refine HCALL.out.mono ?_; rintro e w2 ⟨rfl, hb2⟩)
        go_roundw
        case rel =>
          refine ⟨k + 1, bo, by omega, by go_num, by omega, Lib.hid ?_, Lib.hid (HA1.out.below hb2), HBA.out.trans (hb2.mono HBA.out.size), rowOwn_below HOW.out hb2⟩
          rw [HT.out, hq, if_neg (by decide), List.append_nil]; exact HM.out
        case measure => simp [intOf]; omega
    · obtain rfl : k = n := by omega
      rw [List.take_of_length_le (by rw [HL.out]; exact Nat.le_refl _)] at HM
      go_wp2_with fail
      go_ret
      exact ⟨_, bo, rfl, hbel, HM.out, HA.out, hown⟩
end Go.Proofs.YtbioclpobmgikaaDoor
