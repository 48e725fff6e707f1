/- The walk of the document's Unbase. -/
import Derived.Test.YtbioclpobmgikaaC9a
import Derived.Test.YtbioclpobmgikaaC9b
namespace Go.Proofs.Ytbioclpobmgikaa
open Go.RowKit

/-- a bit is appended to many -/
theorem wpList_bit2 {w wr : World} {ops : Array Oper} {rest : List Oper} {o : Oper} {a : Act} {Q : Exit → Act → World → Prop} (hgd : o.guard = none) (s x : Operand)
    (ho : o.op = .call { callee := .builtin .append, args := #[s, x], argTypes := #[44, 44] }) (vo : Value) (ol : List UInt8) (vb : Value) (b : List Nat) (n : Nat) (v : Int) (hv : v = (n : Int)) (hs : a.eval s = vb)
    (hx : a.eval x = .slice (some ⟨wr.heap.size, 0, none⟩) 1 1) (h : Two w wr vo ol vb b) (hb : b.length ≤ 100000)
    (hk : ∀ v' w', Two w w' vo ol v' (b ++ [n]) → wpList Try.prog ops Q rest (a.put o.dst v') w') : wpList Try.prog ops Q (o :: rest) a (wr.alloc (.cells #[.int .i64 v] 3)) := by
  subst hv
  obtain ⟨i0, hi0, hz0, hz1, hz2⟩ := zero3
  have hsz := h.below.size
  refine wpList_append_own _ hgd s x 44 ho w.heap.size 3 i0 _ 1 8 Try.underlying44 hi0 hz0 hz1 hz2 rfl (by decide) vb _ _ hs (h.bits.alloc _) ⟨wr.heap.size, 0, none⟩ 1 1 (Ns [n]) hx (by simp [Ns])
    (fun j u hu => ?_) (Ns_mem _) (by unfold maxLen; omega) (by omega) (by simp; omega) ?_
  · have hj : j = 0 := by have := (List.getElem?_eq_some_iff.1 hu).1; simp [Ns] at this; exact this
    subst hj
    rw [show (⟨wr.heap.size, 0, none⟩ : Addr).add 0 = ⟨wr.heap.size, 0, none⟩ from rfl, World.cell?_alloc_new, ← hu]
    rfl
  · intro v' w' h1 h2 _
    refine hk v' w' ⟨(h.below.alloc hsz _).grown h2 (by simp; omega) (fun k hk => (h.bits.lt k hk).1), (h.out.alloc _).kept h2 (two_ne h.out h.bits), ?_⟩
    simpa [Ns] using h1
theorem sign_q (n : Nat) (h : n < 64) (way : Bool) (w : World) (m : Nat) : Calls Try.prog 24 #[.int .i64 (n : Int), .bool way] (w.drewN m) fun e w' => e = .returned (.int .u8 ((at8 (alW way) n).toNat : Int)) ∧ ∃ m', w' = w.drewN m' :=
  (sign_any n h way _).mono fun _ _ ⟨h1, h2⟩ => ⟨h1, m, h2.symm⟩
theorem Two.drewN {w wr : World} {vo vb : Value} {o : List UInt8} {b : List Nat} (h : Two w wr vo o vb b) (n : Nat) : Two w (wr.drewN n) vo o vb b := ⟨below_drewN h.below n, h.out, h.bits⟩
theorem six_bit (v : Nat) (h : v < 64) (t : Nat) : bits .and .i64 ((v : Int) / 2 ^ (5 - t)) 1 = ((v / 2 ^ (5 - t) % 2 : Nat) : Int) := by
  rw [← bit_nat (v / 2 ^ (5 - t)) (Nat.lt_of_le_of_lt (Nat.div_le_self _ _) (by omega))]
  simp

set_option maxHeartbeats 1000000 in
set_option maxRecDepth 100000 in
theorem unbaser_any (way : Bool) (s : List UInt8) (w : World) (hbig : s.length ≤ 1000) :
    Calls Try.prog 17 #[.string (St s), .bool way] w fun e w' => RefAt (decL way s) w w' e := by
  have hsz : (St s).size = s.length := rfl
  have htl := St_toList
  have hT : Two w (w.alloc (.cells #[] 3)) (.slice none 0 0) [] (.slice (some ⟨w.heap.size, 0, none⟩) 0 0) [] := ⟨(Below.refl _ _).alloc (Nat.le_refl _) _, ⟨rfl, .inl ⟨rfl, rfl⟩⟩, World.ownsRow_made w #[] 0 (Nat.le_refl _) (by unfold maxLen; omega) rfl⟩
  go_enter Try.func17, Try.ntmps17
  go_wp2_with fail
  go_loopw [6, 7, 8, 9, 10] (fun vb vi _ _ _ wr => ∃ (i : Nat) (vs : List Nat), i ≤ s.length ∧ vi = .int .i64 (i : Int) ∧ Hid (vs.length = i ∧ (∀ n ∈ vs, n < 64) ∧ signs (alW way) vs = s.take i) ∧ Two w wr (.slice none 0 0) [] vb (flat6 vs)) (fun _ v _ _ _ _ => s.length - (intOf v).toNat)
  case atStart => exact ⟨0, [], by omega, rfl, Lib.hid ⟨rfl, fun n hn => by simp at hn, rfl⟩, hT⟩
  case round =>
    clear hT
    obtain ⟨i, vs, hi, rfl, HV, hT⟩ := hrel
    by_cases hlt : i < s.length
    · have hix := run_at s i hlt
      have HDR := Lib.hid (show s.take (i + 1) = s.take i ++ [at8 s i] by rw [List.take_add_one]; simp [at8, List.getD, hlt])
      by_cases hc : at8 s i = 61
      · have HC := Lib.hid hc
        rw [hc] at hix
        have hix61 : ∀ w, (Instr.index 9 (.string (St s)) (.int .i64 (i : Int))).run Try.prog w = .ok (.int .u8 61) w := fun w => hix w
        clear hix hc HDR
        have HEND := Lib.hid (show i = s.length ∨ at8 s i = 61 from .inr HC.out)
        have hil : i ≤ 1000 := by omega
        generalize hn : s.length = n at *
        have HN := Lib.hid hn
        clear hn
        go_wp2_with fail
        clear hix61 hlt
        have hT0 : Two w (wr.alloc (.cells #[] 5)) (.slice (some ⟨wr.heap.size, 0, none⟩) 0 0) [] u6 (flat6 vs) := ⟨hT.below.alloc hT.below.size _, World.ownsRow_made wr #[] 0 hT.below.size (by unfold maxLen; omega) rfl, hT.bits.alloc _⟩
        have hlen : (flat6 vs).length = 6 * i := by rw [flat6_length, HV.out.1]
        have HPL := Lib.hid (flat6_lt vs)
        obtain ⟨Ab, cb, rfl, hcb, hcell⟩ := hT.cell
        rw [hlen] at hT0 ⊢
        clear hT hcell hcb
        generalize hP : flat6 vs = P at *
        have HP := Lib.hid hP
        have HLEN := Lib.hid hlen
        clear hP hlen
        have hN6 : 6 * i ≤ 6000 := by omega
        generalize hN : 6 * i = N at *
        clear hN
        generalize wr.alloc (.cells #[] 5) = wz at *
        go_loopw [11, 12, 13, 14] (fun vo vk _ _ wr => ∃ k : Nat, 8 * k ≤ N ∧ vk = .int .i64 ((8 * k : Nat) : Int) ∧ Two w wr vo (bytesOf P k) (.slice Ab N cb) P) (fun _ v _ _ _ => N - (intOf v).toNat)
        case atStart => exact ⟨0, by omega, rfl, hT0⟩
        case round =>
          clear hT0
          obtain ⟨k, hk, rfl, hT⟩ := hrel
          by_cases h8 : 8 * k + 8 ≤ N
          · have hok : (bytesOf P k).length ≤ 100000000 := by rw [bytesOf_length]; omega
            have HBK := Lib.hid (bytesOf_succ P k)
            generalize hs8 : 8 * k = q8 at *
            have HS := Lib.hid hs8
            clear hs8
            have hd : decide ((q8 : Int) + 8 ≤ (N : Int)) = true := decide_eq_true (by omega)
            generalize bytesOf P k = ob at *
            go_wp2_with fail
            go_loopw [13, 14] (fun vv vj wr => ∃ q : Nat, q ≤ 8 ∧ vv = .int .i64 ((bv P q8 q : Nat) : Int) ∧ vj = .int .i64 (q : Int) ∧ Two w wr u11 ob (.slice Ab N cb) P) (fun _ v _ => 8 - (intOf v).toNat)
            case atStart => exact ⟨0, by omega, rfl, rfl, hT⟩
            case round =>
              clear hT
              obtain ⟨q, hq, rfl, rfl, hT⟩ := hrel
              have hbl := bv_lt P HPL.out q8 q
              by_cases hq8 : q < 8
              · obtain ⟨Ac, cc, hvc, hcc, hcell⟩ := hT.cell
                obtain ⟨ap, hap, gp⟩ := hcell (q8 + q) (by rw [HLEN.out]; omega)
                obtain rfl : Ab = some ap := by injection hvc with e1; rw [e1, hap]
                have hpb : P.getD (q8 + q) 0 < 2 := by
                  rw [List.getD_eq_getElem?_getD]
                  cases hge : P[q8 + q]? with
                  | none => simp
                  | some z => simpa using HPL.out z (List.mem_of_getElem? hge)
                have HB2 := Lib.hid (show bv P q8 (q + 1) = bv P q8 q * 2 + P.getD (q8 + q) 0 from rfl)
                have hb64 : bv P q8 q < 256 := Nat.lt_of_lt_of_le hbl (Nat.le_trans (Nat.pow_le_pow_right (by decide) hq) (by decide))
                clear hcell hvc hcc hap hbl
                generalize P.getD (q8 + q) 0 = z at *
                generalize bv P q8 q = y at *
                have hsq : q8 + q < N := by omega
                go_wp2_with fail
                go_roundw
                case rel => exact ⟨q + 1, by omega, by rw [HB2.out]; go_num, by go_num, hT⟩
                case measure => simp [intOf]; omega
              · obtain rfl : q = 8 := by omega
                rw [show ((8 : Nat) : Int) = 8 from rfl]
                generalize bv P q8 8 = y at *
                obtain ⟨x, hx⟩ : ∃ x, x = UInt8.ofNat y := ⟨_, rfl⟩
                rw [← hx] at HBK
                have e1 : IntKind.u8.wrap (y : Int) = (x.toNat : Int) := by
                  rw [IntKind.wrap_u8, hx]
                  have : (UInt8.ofNat y).toNat = y % 256 := by simp
                  omega
                clear hx hbl
                go_wp2_with (refine wpList_byte rfl (.tmp 74) (.tmp 77) rfl _ ob _ P x _ rfl rfl rfl hT hok ?_; rintro v6 w6 hT6)
                go_roundw
                case rel => exact ⟨k + 1, by have := HS.out; omega, by have := HS.out; go_num, by rw [HBK.out]; exact hT6⟩
                case measure => simp [intOf]; omega
          · have hd : decide (((8 * k : Nat) : Int) + 8 ≤ (N : Int)) = false := decide_eq_false (by omega)
            have hobk : (bytesOf P k).length ≤ 1000000 := by rw [bytesOf_length]; omega
            have HFIN := Lib.hid (fun l (h : s = bbL way l) => (show bytesOf P k = l by
              have h1 := vs_eq way s l vs i h HV.out.2.1 HV.out.2.2 (by rw [HN.out]; exact hi) (by rw [HN.out]; exact HEND.out)
              rw [← HP.out, h1]
              exact bytesOf_sx l k (by rw [← h1, HP.out, HLEN.out]; exact hk) (by rw [← h1, HP.out, HLEN.out]; exact h8)))
            obtain ⟨A, c, hv, hc1, hc2, hc3⟩ := found_row hT.out
            subst hv
            have hbel := hT.below
            clear hT
            generalize bytesOf P k = ob at *
            have HC2 := Lib.hid hc2
            have HCALL := Lib.hid (bbase_any way ob A c wr hc3 hobk)
            clear hc2
            go_wp2_with fail
            refine HCALL.out.mono ?_
            rintro e w2 ⟨rfl, n2⟩
            have hb2 := hbel.trans (n2.mono hbel.size)
            have hc4 := hc3.below n2
            by_cases heq : bbL way ob = s
            · have hd5 : (@BEq.beq (List UInt8) List.instBEq (bbL way ob) s) = true := by rw [heq]; simp
              have HU := Lib.hid (show decL way s = some ob by rw [← heq]; exact decL_bb way ob)
              clear heq
              go_wp2_with fail
              go_ret2
              refine ⟨hb2, ?_⟩
              rw [HU.out]
              exact ⟨A, c, rfl, hc1, HC2.out, hc4⟩
            · have hd5 : (@BEq.beq (List UInt8) List.instBEq (bbL way ob) s) = false := by rw [beq_eq_false_iff_ne]; exact heq
              have HU := Lib.hid (show decL way s = none by
                cases h : decL way s with
                | none => rfl
                | some b =>
                  have h1 := decL_back way s b h
                  exact absurd (by rw [HFIN.out b h1.symm]; exact h1) heq)
              clear heq
              go_wp2_with fail
              go_ret2
              refine ⟨hb2, ?_⟩
              rw [HU.out]
              rfl
      · have HBS := Lib.hid (fun l (h : s = bbL way l) => bb_sign way s l h i hlt hc)
        have HC := Lib.hid hc
        have hcu : ((at8 s i).toNat : Int) != 61 := by
          rw [bne_iff_ne]
          intro e
          apply hc
          apply UInt8.toNat.inj
          have : (at8 s i).toNat = 61 := by omega
          rw [this]; rfl
        generalize at8 s i = c at *
        have hil : i ≤ 1000 := by omega
        generalize hn : s.length = n at *
        have HN := Lib.hid hn
        clear hn hc
        go_wp2_with fail
        have hd : decide (i < n) = true := decide_eq_true hlt
        clear hcu
        go_loopw [8, 9] (fun vv vm wr => ∃ (m : Nat) (v : Int), m ≤ 64 ∧ vm = .int .i64 (m : Int) ∧ vv = .int .i64 v ∧ Hid ((v = -1 ∧ ∀ n, n < m → at8 (alW way) n ≠ c) ∨ ∃ n, n < m ∧ v = (n : Int) ∧ at8 (alW way) n = c) ∧ Two w wr (.slice none 0 0) [] u6 (flat6 vs)) (fun _ v _ => 64 - (intOf v).toNat)
        case atStart => exact ⟨0, -1, by omega, rfl, rfl, Lib.hid (.inl ⟨rfl, fun n hn => by omega⟩), hT⟩
        case round =>
          clear hT
          obtain ⟨m, v, hm, rfl, rfl, HF, hT⟩ := hrel
          by_cases hm2 : m < 64
          · go_wp2_with fail
            go_quiet ((go_at_call 24; exact sign_q m hm2 way _ _))
            have hT2 := hT.drewN nq
            generalize wr.drewN nq = w2 at *
            clear hT
            by_cases heq : at8 (alW way) m = c
            · have HEQ := Lib.hid heq
              have hcu : (((at8 (alW way) m).toNat : Int) == (c.toNat : Int)) = true := by rw [heq]; simp
              clear heq
              rw [hcu]
              go_wp2_with fail
              go_roundw
              case rel => exact ⟨m + 1, m, by omega, by go_num, rfl, Lib.hid (.inr ⟨m, by omega, rfl, HEQ.out⟩), hT2⟩
              case measure => simp [intOf]; omega
            · have HEQ := Lib.hid heq
              have hcu : (((at8 (alW way) m).toNat : Int) == (c.toNat : Int)) = false := by
                rw [beq_eq_false_iff_ne]
                intro e
                apply heq
                apply UInt8.toNat.inj
                omega
              clear heq
              rw [hcu]
              go_wp2_with fail
              go_roundw
              case rel =>
                refine ⟨m + 1, v, by omega, by go_num, rfl, Lib.hid ?_, hT2⟩
                rcases HF.out with ⟨h1, h2⟩ | ⟨n', h1, h2, h3⟩
                · refine .inl ⟨h1, fun n hn => ?_⟩
                  by_cases hnm : n = m
                  · rw [hnm]; exact HEQ.out
                  · exact h2 n (by omega)
                · exact .inr ⟨n', by omega, h2, h3⟩
              case measure => simp [intOf]; omega
          · obtain rfl : m = 64 := by omega
            rw [show ((64 : Nat) : Int) = 64 from rfl]
            rcases HF.out with ⟨rfl, hno⟩ | ⟨v', hv64, rfl, hat⟩
            · have HNO := Lib.hid (show decL way s = none by
                cases h : decL way s with
                | none => rfl
                | some l =>
                  obtain ⟨n', h1, h2⟩ := HBS.out l (decL_back way s l h).symm
                  exact absurd h2 (hno n' h1))
              clear hno
              have hbel := hT.below
              go_wp2_with fail
              go_ret2
              refine ⟨hbel, ?_⟩
              rw [HNO.out]
              rfl
            · have HAT := Lib.hid hat
              have hv0 : decide ((v' : Int) < 0) = false := decide_eq_false (by omega)
              have hfl : (flat6 vs).length ≤ 6000 := by rw [flat6_length, HV.out.1]; omega
              have HSN := Lib.hid (flat6_snoc vs v')
              generalize flat6 vs = fb at *
              clear hat hix
              go_wp2_with fail
              go_loopw [6, 10] (fun vb vj wr => ∃ t : Nat, t ≤ 6 ∧ vj = .int .i64 (5 - (t : Int)) ∧ Two w wr (.slice none 0 0) [] vb (fb ++ (six v').take t)) (fun _ v _ => (intOf v + 1).toNat)
              case atStart => exact ⟨0, by omega, rfl, by simpa using hT⟩
              case round =>
                clear hT
                obtain ⟨t, ht, rfl, hT⟩ := hrel
                by_cases ht6 : t < 6
                · have h5 : (t : Int) ≤ 5 := by omega
                  have hbt := six_bit v' hv64 t
                  have HBN := Lib.hid (six_take v' t ht6)
                  have hcl2 : (fb ++ (six v').take t).length ≤ 100000 := by rw [List.length_append, List.length_take]; omega
                  generalize v' / 2 ^ (5 - t) % 2 = bt at *
                  go_wp2_with (refine wpList_bit2 rfl (.tmp 46) (.tmp 51) rfl _ _ _ (fb ++ (six v').take t) bt _ rfl rfl rfl hT hcl2 ?_; rintro v6 w6 hT6)
                  go_roundw
                  case rel =>
                    refine ⟨t + 1, by omega, by go_num, ?_⟩
                    rw [HBN.out, ← List.append_assoc]
                    exact hT6
                  case measure => simp [intOf]; omega
                · obtain rfl : t = 6 := by omega
                  have hT' : Two w wr (.slice none 0 0) [] u6 (fb ++ six v') := by rw [List.take_of_length_le (by rw [six_length]; omega)] at hT; exact hT
                  clear hT
                  go_wp2_with fail
                  go_roundw
                  case rel =>
                    refine ⟨i + 1, vs ++ [v'], by omega, by go_num, Lib.hid ⟨by rw [List.length_append, HV.out.1]; rfl, fun n hn => ?_, ?_⟩, by rw [HSN.out]; exact hT'⟩
                    · rw [List.mem_append] at hn
                      rcases hn with hn | hn
                      · exact HV.out.2.1 n hn
                      · simp at hn; omega
                    · rw [signs_append, HV.out.2.2, HDR.out, ← HAT.out]; rfl
                  case measure => simp [intOf]; omega
    · have hin : i = s.length := by omega
      have HEND := Lib.hid (show i = s.length ∨ at8 s i = 61 from .inl hin)
      have hil : i ≤ 1000 := by omega
      clear hin
      generalize hn : s.length = n at *
      have HN := Lib.hid hn
      clear hn
      go_wp2_with fail
      clear hlt
      have hT0 : Two w (wr.alloc (.cells #[] 5)) (.slice (some ⟨wr.heap.size, 0, none⟩) 0 0) [] u6 (flat6 vs) := ⟨hT.below.alloc hT.below.size _, World.ownsRow_made wr #[] 0 hT.below.size (by unfold maxLen; omega) rfl, hT.bits.alloc _⟩
      have hlen : (flat6 vs).length = 6 * i := by rw [flat6_length, HV.out.1]
      have HPL := Lib.hid (flat6_lt vs)
      obtain ⟨Ab, cb, rfl, hcb, hcell⟩ := hT.cell
      rw [hlen] at hT0 ⊢
      clear hT hcell hcb
      generalize hP : flat6 vs = P at *
      have HP := Lib.hid hP
      have HLEN := Lib.hid hlen
      clear hP hlen
      have hN6 : 6 * i ≤ 6000 := by omega
      generalize hN : 6 * i = N at *
      clear hN
      generalize wr.alloc (.cells #[] 5) = wz at *
      go_loopw [11, 12, 13, 14] (fun vo vk _ _ wr => ∃ k : Nat, 8 * k ≤ N ∧ vk = .int .i64 ((8 * k : Nat) : Int) ∧ Two w wr vo (bytesOf P k) (.slice Ab N cb) P) (fun _ v _ _ _ => N - (intOf v).toNat)
      case atStart => exact ⟨0, by omega, rfl, hT0⟩
      case round =>
        clear hT0
        obtain ⟨k, hk, rfl, hT⟩ := hrel
        by_cases h8 : 8 * k + 8 ≤ N
        · have hok : (bytesOf P k).length ≤ 100000000 := by rw [bytesOf_length]; omega
          have HBK := Lib.hid (bytesOf_succ P k)
          generalize hs8 : 8 * k = q8 at *
          have HS := Lib.hid hs8
          clear hs8
          have hd : decide ((q8 : Int) + 8 ≤ (N : Int)) = true := decide_eq_true (by omega)
          generalize bytesOf P k = ob at *
          go_wp2_with fail
          go_loopw [13, 14] (fun vv vj wr => ∃ q : Nat, q ≤ 8 ∧ vv = .int .i64 ((bv P q8 q : Nat) : Int) ∧ vj = .int .i64 (q : Int) ∧ Two w wr u11 ob (.slice Ab N cb) P) (fun _ v _ => 8 - (intOf v).toNat)
          case atStart => exact ⟨0, by omega, rfl, rfl, hT⟩
          case round =>
            clear hT
            obtain ⟨q, hq, rfl, rfl, hT⟩ := hrel
            have hbl := bv_lt P HPL.out q8 q
            by_cases hq8 : q < 8
            · obtain ⟨Ac, cc, hvc, hcc, hcell⟩ := hT.cell
              obtain ⟨ap, hap, gp⟩ := hcell (q8 + q) (by rw [HLEN.out]; omega)
              obtain rfl : Ab = some ap := by injection hvc with e1; rw [e1, hap]
              have hpb : P.getD (q8 + q) 0 < 2 := by
                rw [List.getD_eq_getElem?_getD]
                cases hge : P[q8 + q]? with
                | none => simp
                | some z => simpa using HPL.out z (List.mem_of_getElem? hge)
              have HB2 := Lib.hid (show bv P q8 (q + 1) = bv P q8 q * 2 + P.getD (q8 + q) 0 from rfl)
              have hb64 : bv P q8 q < 256 := Nat.lt_of_lt_of_le hbl (Nat.le_trans (Nat.pow_le_pow_right (by decide) hq) (by decide))
              clear hcell hvc hcc hap hbl
              generalize P.getD (q8 + q) 0 = z at *
              generalize bv P q8 q = y at *
              have hsq : q8 + q < N := by omega
              go_wp2_with fail
              go_roundw
              case rel => exact ⟨q + 1, by omega, by rw [HB2.out]; go_num, by go_num, hT⟩
              case measure => simp [intOf]; omega
            · obtain rfl : q = 8 := by omega
              rw [show ((8 : Nat) : Int) = 8 from rfl]
              generalize bv P q8 8 = y at *
              obtain ⟨x, hx⟩ : ∃ x, x = UInt8.ofNat y := ⟨_, rfl⟩
              rw [← hx] at HBK
              have e1 : IntKind.u8.wrap (y : Int) = (x.toNat : Int) := by
                rw [IntKind.wrap_u8, hx]
                have : (UInt8.ofNat y).toNat = y % 256 := by simp
                omega
              clear hx hbl
              go_wp2_with (refine wpList_byte rfl (.tmp 74) (.tmp 77) rfl _ ob _ P x _ rfl rfl rfl hT hok ?_; rintro v6 w6 hT6)
              go_roundw
              case rel => exact ⟨k + 1, by have := HS.out; omega, by have := HS.out; go_num, by rw [HBK.out]; exact hT6⟩
              case measure => simp [intOf]; omega
        · have hd : decide (((8 * k : Nat) : Int) + 8 ≤ (N : Int)) = false := decide_eq_false (by omega)
          have hobk : (bytesOf P k).length ≤ 1000000 := by rw [bytesOf_length]; omega
          have HFIN := Lib.hid (fun l (h : s = bbL way l) => (show bytesOf P k = l by
            have h1 := vs_eq way s l vs i h HV.out.2.1 HV.out.2.2 (by rw [HN.out]; exact hi) (by rw [HN.out]; exact HEND.out)
            rw [← HP.out, h1]
            exact bytesOf_sx l k (by rw [← h1, HP.out, HLEN.out]; exact hk) (by rw [← h1, HP.out, HLEN.out]; exact h8)))
          obtain ⟨A, c, hv, hc1, hc2, hc3⟩ := found_row hT.out
          subst hv
          have hbel := hT.below
          clear hT
          generalize bytesOf P k = ob at *
          have HC2 := Lib.hid hc2
          have HCALL := Lib.hid (bbase_any way ob A c wr hc3 hobk)
          clear hc2
          go_wp2_with fail
          refine HCALL.out.mono ?_
          rintro e w2 ⟨rfl, n2⟩
          have hb2 := hbel.trans (n2.mono hbel.size)
          have hc4 := hc3.below n2
          by_cases heq : bbL way ob = s
          · have hd5 : (@BEq.beq (List UInt8) List.instBEq (bbL way ob) s) = true := by rw [heq]; simp
            have HU := Lib.hid (show decL way s = some ob by rw [← heq]; exact decL_bb way ob)
            clear heq
            go_wp2_with fail
            go_ret2
            refine ⟨hb2, ?_⟩
            rw [HU.out]
            exact ⟨A, c, rfl, hc1, HC2.out, hc4⟩
          · have hd5 : (@BEq.beq (List UInt8) List.instBEq (bbL way ob) s) = false := by rw [beq_eq_false_iff_ne]; exact heq
            have HU := Lib.hid (show decL way s = none by
              cases h : decL way s with
              | none => rfl
              | some b =>
                have h1 := decL_back way s b h
                exact absurd (by rw [HFIN.out b h1.symm]; exact h1) heq)
            clear heq
            go_wp2_with fail
            go_ret2
            refine ⟨hb2, ?_⟩
            rw [HU.out]
            rfl
end Go.Proofs.Ytbioclpobmgikaa
