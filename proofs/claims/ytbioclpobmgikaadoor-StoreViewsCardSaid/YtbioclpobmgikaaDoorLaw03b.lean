/- The walk of the law on parts. -/
import Derived.Test.YtbioclpobmgikaaDoorLaw03
import Derived.Laws.AppendOwnNone
namespace Go.Proofs.YtbioclpobmgikaaDoor
open Go.RowKit

theorem info5' : (Tryd.prog.info? 5).map (fun i => (i.zero, i.size, i.bytes)) = some (some (.int .u8 0), 1, 1) := by kernel_rfl

/-- between the rounds: the hash, and the bytes that were gathered -/
structure PartAt (w wr : World) (hb : Nat) (t : List UInt8) (v : Value) : Prop where
  below : Below w.heap.size w wr
  lt : hb < wr.heap.size
  hash : HashAt wr hb t
  own : wr.ownsRow (hb + 1) 5 1 v t.length (Bs t)
  nn : ∃ g c, v = .slice (some ⟨g, 0, none⟩) t.length c ∧ t.length ≤ c
theorem PartAt.next {w wr w' : World} {hb : Nat} {t : List UInt8} {v : Value} (h : PartAt w wr hb t v) (hb' : Below wr.heap.size wr w') : PartAt w w' hb t v := by
  have hle := hb'.size
  refine ⟨h.below.trans (hb'.mono h.below.size), Nat.lt_of_lt_of_le h.lt hle, h.hash.of_block (hb'.block _ h.lt), ?_, h.nn⟩
  refine ⟨h.own.1, ?_⟩
  rcases h.own.2 with hn | ⟨g, cap, cur, h1, h2, h3, rest⟩
  · exact .inl hn
  · exact .inr ⟨g, cap, cur, h1, h2, (hb'.block _ (Array.getElem?_eq_some_iff.1 h3).1).trans h3, rest⟩
theorem PartAt.bytes {w wr : World} {hb : Nat} {t : List UInt8} {v : Value} (h : PartAt w wr hb t v) : ∃ g c, v = .slice (some ⟨g, 0, none⟩) t.length c ∧ t.length ≤ c ∧ BytesAt wr (some ⟨g, 0, none⟩) t := by
  obtain ⟨g, c, rfl, hc⟩ := h.nn
  exact ⟨g, c, rfl, hc, fun j hj => ⟨_, rfl, h.own.cells (g := g) rfl j _ (Bs_get _ _ hj)⟩⟩

/-- what the append leaves -/
theorem PartAt.grow {w wr w1 : World} {hb : Nat} {t bs : List UInt8} {v v1 : Value} (h : PartAt w wr hb t v) (hg : wr.grownBy w1 v.ownBlock) (ho : w1.ownsRow (hb + 1) 5 1 v1 (t.length + bs.length) (Bs t ++ Bs bs))
    (hnil : v1 = .slice none 0 0 ↔ v = .slice none 0 0 ∧ bs.length = 0) (hw : w.heap.size ≤ hb) :
    Below w.heap.size w w1 ∧ hb < w1.heap.size ∧ HashAt w1 hb t ∧ w1.ownsRow (hb + 1) 5 1 v1 (t ++ bs).length (Bs (t ++ bs)) ∧ ∃ g c, v1 = .slice (some ⟨g, 0, none⟩) (t ++ bs).length c ∧ (t ++ bs).length ≤ c := by
  have hlt := h.own.lt
  refine ⟨h.below.grown hg h.below.size (fun k hk => by have := hlt k hk; omega), Nat.lt_of_lt_of_le h.lt hg.size, h.hash.of_block (hg.block _ h.lt (fun e => by have := hlt hb e.symm; omega)), ?_, ?_⟩
  · simpa [Bs] using ho
  · rcases ho.2 with ⟨h1, _⟩ | ⟨g, cap, cur, h1, _, _, h4, _⟩
    · obtain ⟨g, c, hv, _⟩ := h.nn
      have := (hnil.1 h1).1
      rw [hv] at this
      cases this
    · exact ⟨g, cap, by simpa using h1, by simpa using h4⟩

theorem zero5 : ∃ i, Tryd.prog.info? 5 = some i ∧ i.zero = some (.int .u8 0) ∧ i.size = 1 ∧ i.bytes = 1 := by
  have h := info5'
  cases hi : Tryd.prog.info? 5 with
  | none => rw [hi] at h; cases h
  | some i => rw [hi] at h; simp at h; exact ⟨i, rfl, h.1, h.2.1, h.2.2⟩

/-- bytes are appended, from wherever they lie -/
theorem wpList_append_bytes {w : World} {ops : Array Oper} {rest : List Oper} {o : Oper} {a : Act} {Q : Exit → Act → World → Prop} (hgd : o.guard = none) (s x : Operand)
    (ho : o.op = .call { callee := .builtin .append, args := #[s, x], argTypes := #[22, 22] })
    (base : Nat) (v : Value) (t : List UInt8) (hs : a.eval s = v) (hown : w.ownsRow base 5 1 v t.length (Bs t))
    (A : Option Addr) (bs : List UInt8) (c : Nat) (hx : a.eval x = .slice A bs.length c) (hby : BytesAt w A bs) (hn : A = none → c = 0)
    (h63 : t.length + bs.length ≤ 140737488355328) (hbase : base ≤ w.heap.size)
    (h : ∀ v' w', w'.ownsRow base 5 1 v' (t.length + bs.length) (Bs t ++ Bs bs) → w.grownBy w' v.ownBlock → (v' = .slice none 0 0 ↔ v = .slice none 0 0 ∧ bs.length = 0) → wpList Tryd.prog ops Q rest (a.put o.dst v') w') :
    wpList Tryd.prog ops Q (o :: rest) a w := by
  obtain ⟨i0, hi0, hz0, hz1, hz2⟩ := zero5
  cases A with
  | some ad =>
    exact wpList_append_own w hgd s x 22 ho base 5 i0 _ 1 1 Tryd.underlying22 hi0 hz0 hz1 hz2 rfl (by decide) v _ _ hs hown ad bs.length c (Bs bs) hx (by rw [Bs_length]; omega)
      (fun j u hu => by
        have hj : j < bs.length := by rw [← Bs_length]; exact (List.getElem?_eq_some_iff.1 hu).1
        obtain ⟨a', ha, hc⟩ := hby j hj
        obtain rfl := Option.some.inj ha
        rw [hc, ← hu, Bs_get _ _ hj]) (Bs_mem _) (by unfold maxLen; omega) (by omega) hbase h
  | none =>
    obtain rfl := hn rfl
    have h0 : bs.length = 0 := by
      cases bs with
      | nil => rfl
      | cons b t => obtain ⟨a', ha, _⟩ := hby 0 (by simp); cases ha
    rw [h0] at hx
    have hbs : bs = [] := List.length_eq_zero_iff.1 h0
    refine wpList_append_own_none hgd s x 22 ho base 5 i0 1 Tryd.underlying22 hi0 v _ _ hs hown hx (h v w (by rw [hbs]; simpa [Bs] using hown) (World.grownBy.refl _ _) (by simp [h0]))

set_option maxHeartbeats 1000000 in
set_option maxRecDepth 100000 in
theorem shaParts_walk (A : Option Addr) (ps : List (List UInt8)) (c : Nat) (w : World) (hL : Laid w) (hps : PartsAt w A ps) (hnil : PartsNil w A ps.length) (_ : c ≤ maxLen) (hc : ps.length ≤ c) :
    Calls Tryd.prog 5 #[.slice A ps.length c] w fun e w' => e = .returned (.bool true) ∧ Below w.heap.size w w' := by
  have hg := guard25
  have HP := Lib.hid hps
  have HPN := Lib.hid hnil
  clear hps hnil
  obtain ⟨i0, hi0, hz0, hz1, hz2⟩ := zero5
  go_enter Tryd.func5, Tryd.ntmps5
  go_wp2_with fail
  refine (alive_any _ hL).mono ?_
  rintro e w1 ⟨rfl, hb1⟩
  generalize hln : ps.length = n at *
  have HLN := Lib.hid hln
  clear hln
  by_cases hbig : 40 < n
  · go_wp2_with fail
    go_ret
    exact ⟨rfl, hb1⟩
  · go_wp2_with fail
    refine (new_any _ (hL.below hb1)).mono ?_
    rintro e w2 ⟨rfl, hh, hb2⟩
    have hlt2 : w1.heap.size < w2.heap.size := by obtain ⟨_, _, _, hr⟩ := hh; exact (Array.getElem?_eq_some_iff.1 hr).1
    have hb2 := hb1.trans (hb2.mono hb1.size)
    have hsz := hL.size
    have hge := hb1.size
    have hP0 : PartAt w (w2.alloc (.cells #[] 5)) w1.heap.size [] (.slice (some ⟨w2.heap.size, 0, none⟩) 0 0) := by
      refine ⟨hb2.alloc hb2.size _, by simp; omega, hh.of_block (heap_alloc_old w2 _ hlt2), World.ownsRow_made w2 #[] 0 (by omega) (by unfold maxLen; omega) rfl, ⟨w2.heap.size, 0, rfl, Nat.le_refl _⟩⟩
    have HP0 := Lib.hid hP0
    clear hP0
    generalize w1.heap.size = hb at *
    clear hb1 hh hb2
    go_wp2_with fail
    go_loopw [16, 4] (fun i v wr => ∃ k : Nat, k ≤ n ∧ i = .int .i64 k ∧ (ps.take k).flatten.length ≤ 500 * k ∧ PartAt w wr hb (ps.take k).flatten v) (fun i _ _ => n - (intOf i).toNat)
    case atStart => exact ⟨0, by omega, rfl, by simp, by simpa using HP0.out⟩
    case round =>
      clear HP0
      obtain ⟨k, hk, rfl, hlen, hP⟩ := hrel
      obtain ⟨vg, vc, rfl, hvc⟩ := hP.nn
      by_cases hlt : k < n
      · obtain ⟨a, rfl, A', c', hcell, hc', hby⟩ := HP.out k (by rw [HLN.out]; exact hlt)
        have hnone : A' = none → c' = 0 := fun e => HPN.out k hlt a rfl _ c' (e ▸ hcell)
        have g : wr.cell? (a.add k) = some (.slice A' (ps.getD k []).length c') := (hP.below.cell (p := a.add k) (World.block_lt_of_cell? w _ hcell)).trans hcell
        have hft := flatten_take ps k (by rw [HLN.out]; exact hlt)
        have HFT := Lib.hid hft
        clear hft hcell
        generalize ps.getD k [] = bs at *
        by_cases hbl : 500 < bs.length
        · go_wp2_with fail
          go_ret
          exact ⟨rfl, hP.below⟩
        · have hPh := Lib.hid hP
          generalize (ps.take k).flatten = t at *
          go_wp2_with (refine wpList_append_bytes rfl (.tmp 23) (.tmp 24) rfl (hb + 1) _ t rfl hP.own A' bs c' rfl (hby.below hP.below) hnone (by omega) (by have := hP.lt; omega) ?_; rintro v1 w3 ho3 hg3 hn3)
          obtain ⟨hb3, hlt3, hh3, ho3, g3, c3, rfl, hc3⟩ := hP.grow hg3 ho3 hn3 (by omega)
          clear hn3 hg3 hP g
          have hL3 := hL.below hb3
          have hby3 := hby.below hb3
          have hni : 0 < bs.length → NotIn A' hb := fun hp => hby.notIn (by omega) hp
          have hbt : t.length ≤ 500 * k := hlen
          have hap : (t ++ bs).length = t.length + bs.length := List.length_append
          have hnew : ∀ w4, w3.grownBy w4 (some hb) → HashAt w4 hb (t ++ bs) → PartAt w w4 hb (t ++ bs) (.slice (some ⟨g3, 0, none⟩) (t ++ bs).length c3) := fun w4 hg4 hh4 => ⟨hb3.grown hg4 hb3.size (fun k hk => by cases hk; omega), Nat.lt_of_lt_of_le hlt3 hg4.size, hh4, ho3.kept hg4 (Or.inr (by simp [Value.ownBlock]; have := (ho3.lt g3 rfl).1; omega)), ⟨g3, c3, rfl, hc3⟩⟩
          have HNEW := Lib.hid hnew; have HAP := Lib.hid hap
          clear hnew hap
          go_wp2_with fail
          refine (write_any hb t bs A' c' w3 hL3 hh3 (by omega) hby3 hni hc' (by omega)).mono ?_
          rintro e w4 ⟨rfl, hh4, hg4⟩
          have hP4 := HNEW.out w4 hg4 hh4
          clear HNEW hg4 hL3 hby3 hni hh3 ho3
          generalize hq : t ++ bs = q at *
          have HQ := Lib.hid hq
          clear hq
          have hl1 : t.length + bs.length = q.length := HAP.out.symm
          have hqs := sha_length q
          have hne : ∀ w, (binOp .neq 25 (.agg (Bs (sha q)).toArray) (.agg (Bs (sha q)).toArray)).run Tryd.prog w = .ok (.bool false) w := fun w => by rw [neq_sum w _ _ hqs hqs]; simp
          rw [hl1]
          clear hh4 hqs
          go_wp2_with fail
          refine (len_any hb q w4 hP4.hash).mono ?_
          rintro e w' ⟨rfl, rfl⟩
          go_wp2_with fail
          refine (sum_any hb q w4 (hL.below hP4.below) hP4.hash (by omega)).mono ?_
          rintro e w5 ⟨rfl, hb5⟩
          have hP5 := hP4.next hb5
          obtain ⟨g5, c5, hv5, hc5, hy5⟩ := hP5.bytes
          injection hv5 with hv5 _ hv6
          obtain rfl : c3 = c5 := hv6
          injection hv5 with hv5
          injection hv5 with hv5
          obtain rfl : g3 = g5 := hv5
          have hL5 := hL.below hP5.below
          have h61 : q.length ≤ 2305843009213693951 := by omega
          have HP5 := Lib.hid hP5; have HL5 := Lib.hid hL5; have HY5 := Lib.hid hy5
          clear hP4 hP5 hL5 hy5 hb5 hb3
          generalize hcs : (Bs (sha q)).toArray = cs at *
          have HCS := Lib.hid hcs
          clear hcs
          go_wp2_with fail
          refine (of_one q (some ⟨g3, 0, none⟩) c3 _ w5 HL5.out rfl hc3 HY5.out h61).mono ?_
          rintro e w6 ⟨rfl, hb6⟩
          have hP6 := HP5.out.next hb6
          rw [HCS.out]
          clear HP5 HL5 HY5 hb6
          go_wp2_with fail
          go_roundw
          case rel => exact ⟨k + 1, by omega, by go_num, by rw [HFT.out]; omega, by rw [HFT.out]; exact hP6⟩
          case measure => simp [intOf]; omega
      · obtain rfl : k = n := by omega
        have htk : ps.take k = ps := by rw [← HLN.out, List.take_length]
        rw [htk] at hP hlen
        have hL3 := hL.below hP.below
        have h61 : ps.flatten.length ≤ 2305843009213693951 := by omega
        have hof := of_any ps A c wr hL3 (fun j hj => by
          obtain ⟨a, ha, A', c', h1, h2, h3⟩ := HP.out j hj
          exact ⟨a, ha, A', c', (hP.below.cell (p := a.add j) (World.block_lt_of_cell? w _ h1)).trans h1, h2, h3.below hP.below⟩) h61 (by rw [HLN.out]; omega)
        rw [HLN.out] at hof
        have hP' := hP
        clear hP
        generalize ps.flatten = q at *
        have hqs := sha_length q
        have hne : ∀ w, (binOp .eql 25 (.agg (Bs (sha q)).toArray) (.agg (Bs (sha q)).toArray)).run Tryd.prog w = .ok (.bool true) w := fun w => by rw [eql_sum w _ _ hqs hqs]; simp
        have HOF := Lib.hid hof
        clear hof hqs
        go_wp2_with fail
        refine HOF.out.mono ?_
        rintro e w3 ⟨rfl, hb3⟩
        have hP3 := hP'.next hb3
        have hL4 := hL.below hP3.below
        go_wp2_with fail
        refine (sum_any hb q w3 hL4 hP3.hash h61).mono ?_
        rintro e w4 ⟨rfl, hb4⟩
        have hP4 := hP3.next hb4
        have hL5 := hL.below hP4.below
        generalize hcs : (Bs (sha q)).toArray = cs at *
        have HCS := Lib.hid hcs
        clear hcs HOF
        go_wp2_with fail
        refine (sum_any hb q w4 hL5 hP4.hash h61).mono ?_
        rintro e w5 ⟨rfl, hb5⟩
        have hP5 := hP4.next hb5
        have hL6 := hL.below hP5.below
        rw [HCS.out]
        go_wp2_with fail
        refine (sum_any hb q w5 hL6 hP5.hash h61).mono ?_
        rintro e w6 ⟨rfl, hb6⟩
        have hP6 := hP5.next hb6
        rw [HCS.out]
        go_wp2_with fail
        go_ret
        exact ⟨rfl, hP6.below⟩
end Go.Proofs.YtbioclpobmgikaaDoor
