/- The walk of the document's Unhex. -/
import Derived.Test.YtbioclpobmgikaaDoorEn3
import Derived.Deep.RegionWith
namespace Go.Proofs.YtbioclpobmgikaaDoor
open Go.RowKit

/-- what a function of the document's answers that finds bytes, or none -/
def RefAt (o : Option (List UInt8)) (w w' : World) (e : Ending) : Prop :=
  Below w.heap.size w w' ∧ match o with
  | none => e = .returned (.tuple #[.slice none 0 0, .bool false])
  | some b => ∃ A c, e = .returned (.tuple #[.slice A b.length c, .bool true]) ∧ b.length ≤ c ∧ (A = none → c = 0) ∧ BytesAt w' A b
theorem hexL_pair (b : List UInt8) : ∀ k, k < b.length → ((hexL b).drop (2 * k)).take 2 = hexL [at8 b k] := by
  induction b with
  | nil => intro k h; simp at h
  | cons x b ih =>
    intro k h
    cases k with
    | zero => rfl
    | succ k =>
      have := ih k (by simp at h; omega)
      rw [hexL_cons, show 2 * (k + 1) = 2 * k + 1 + 1 by omega, List.drop_succ_cons, List.drop_succ_cons, this]
      rfl
theorem run_pair (s : List UInt8) (i : Nat) (h : i + 1 < s.length) (w : World) :
    (Instr.slice 9 (.string (St s)) (some (.int .i64 (i : Int))) (some (.int .i64 ((i : Int) + 2))) none).run Tryd.prog w = .ok (.string (St ((s.drop i).take 2))) w := by
  rw [run_slice_string w 9 _ _ _ _ _ Tryd.underlying9 (by omega) (by omega) (by rw [St_size]; omega)]
  congr 2
  rw [show (i : Int).toNat = i by omega, show ((i : Int) + 2).toNat = i + 2 by omega]
  apply ByteArray.ext
  simp [St]
theorem take_more (b : List UInt8) (k : Nat) (h : k < b.length) : b.take k ++ [at8 b k] = b.take (k + 1) := by
  rw [List.take_add_one]
  simp [at8, List.getD, h]

set_option maxHeartbeats 400000 in
set_option maxRecDepth 100000 in
theorem unhexr_any (s : List UInt8) (w : World) (hbig : s.length ≤ 1000) :
    Calls Tryd.prog 102 #[.string (St s)] w fun e w' => RefAt (unhexL s) w w' e := by
  have hsz : (St s).size = s.length := rfl
  have htl := St_toList
  have hO : (w.alloc (.cells #[] 5)).ownsRow w.heap.size 5 1 (.slice (some ⟨w.heap.size, 0, none⟩) 0 0) 0 (Bs []) := World.ownsRow_made w #[] 0 (Nat.le_refl _) (by unfold maxLen; omega) rfl
  have hb0 : Below w.heap.size w (w.alloc (.cells #[] 5)) := (Below.refl _ _).alloc (Nat.le_refl _) _
  go_enter Tryd.func102, Tryd.ntmps102
  go_wp2_with fail
  go_loopw [4, 5, 6] (fun vo vi _ wr => ∃ (k : Nat) (o : List UInt8), 2 * k ≤ s.length + 1 ∧ vi = .int .i64 ((2 * k : Nat) : Int) ∧ o.length ≤ 512 * k ∧ Hid (∀ b, unhexL s = some b → o = b.take k) ∧ Below w.heap.size w wr ∧ wr.ownsRow w.heap.size 5 1 vo o.length (Bs o)) (fun _ v _ _ => s.length + 2 - (intOf v).toNat)
  case atStart => exact ⟨0, [], by omega, rfl, by simp, Lib.hid (fun b _ => rfl), hb0, hO⟩
  case round =>
    clear hO hb0
    obtain ⟨k, o, hk, rfl, hol, HO, hbel, hown⟩ := hrel
    by_cases hlt : 2 * k + 1 < s.length
    · have hsl := run_pair s (2 * k) hlt
      have HP := Lib.hid (fun b (h : unhexL s = some b) => hexL_pair b k (by have := hexL_unhexL s b h; have := hexL_length b; rw [hexL_unhexL s b h] at this; omega))
      have HL := Lib.hid (fun b (h : unhexL s = some b) => (show k < b.length by have := hexL_length b; rw [hexL_unhexL s b h] at this; omega))
      generalize hpr : (s.drop (2 * k)).take 2 = pr at *
      have HPR := Lib.hid hpr
      generalize hn : s.length = n at *
      have HN := Lib.hid hn
      clear hn hpr
      have hk5 : k ≤ 501 := by omega
      generalize hi : 2 * k = i at *
      have HI := Lib.hid hi
      clear hi
      have hd : decide ((i : Int) + 1 < (n : Int)) = true := decide_eq_true (by omega)
      go_wp2_with fail
      go_loopw [4, 6] (fun vo vn wr => ∃ (m : Nat) (o2 : List UInt8), m ≤ 256 ∧ vn = .int .i64 (m : Int) ∧ o2.length ≤ 512 * k + m ∧ Hid (∀ b, unhexL s = some b → o2 = b.take k ++ (if (at8 b k).toNat < m then [at8 b k] else [])) ∧ Below w.heap.size w wr ∧ wr.ownsRow w.heap.size 5 1 vo o2.length (Bs o2)) (fun _ v _ => 256 - (intOf v).toNat)
      case atStart => exact ⟨0, o, by omega, rfl, hol, Lib.hid (fun b h => by rw [HO.out b h]; simp), hbel, hown⟩
      case round =>
        clear hbel hown hol
        obtain ⟨m, o2, hm, rfl, hol, HO2, hbel, hown⟩ := hrel
        by_cases hm2 : m < 256
        · obtain ⟨x, rfl⟩ : ∃ x : UInt8, m = x.toNat := ⟨UInt8.ofNat m, by simp; omega⟩
          have e1 : IntKind.u8.wrap (x.toNat : Int) = (x.toNat : Int) := by rw [IntKind.wrap_u8]; omega
          have e2 : IntKind.i64.wrap ((i : Int) + 2) = (i : Int) + 2 := IntWalk.i64_in _ (by omega)
          go_wp2_with fail
          go_region_with (go_at_call 30; refine (hexr_any [x] _ _ _ ?_ (by simp)).mono ?_; exact bytes_new _ _ _ rfl; rintro e w' ⟨rfl, hb'⟩)
          have hwz := hbel.size
          have hbx : Below w.heap.size w w' := ((hbel.alloc hwz (.cells #[.int .u8 (x.toNat : Int)] 5)).drew).trans (hb'.mono (by simp; omega))
          have hown' : w'.ownsRow w.heap.size 5 1 u4 o2.length (Bs o2) := owns_below (w := (wr.alloc (.cells #[.int .u8 (x.toNat : Int)] 5)).drew) (hown.alloc (.cells #[.int .u8 (x.toNat : Int)] 5)) hb'
          clear hb' hown hbel e2 hwz
          by_cases heq : hexL [x] = pr
          · have hd5 : (@BEq.beq (List UInt8) List.instBEq (hexL [x]) pr) = true := by rw [heq]; simp
            have HEQ := Lib.hid heq
            clear heq
            rw [hd5]
            have hwz := hbx.size
            go_wp2_with (refine wpList_append_bytes rfl (.tmp 29) (.tmp 32) rfl w.heap.size _ o2 rfl (hown'.alloc _) (some ⟨w'.heap.size, 0, none⟩) [x] 1 rfl (bytes_new _ _ _ rfl) (fun h => by cases h) (by simp; omega) (by simp; omega) ?_; rintro v6 w6 ho6 hg6 hn6; have hb6 := (hbx.alloc hwz (.cells #[.int .u8 (x.toNat : Int)] 5)).grown hg6 (by simp; omega) (fun k hk => (hown'.lt k hk).1); clear hg6 hn6)
            go_roundw
            case rel =>
              refine ⟨x.toNat + 1, o2 ++ [x], by omega, by go_num, by simp; omega, Lib.hid (fun b h => ?_), hb6, by simpa [Bs] using ho6⟩
              have hx : at8 b k = x := by
                have h1 := HP.out b h
                rw [hexL_unhexL s b h, HPR.out, ← HEQ.out] at h1
                have h2 := hexL_inj h1
                injection h2 with h2
                exact h2.symm
              rw [HO2.out b h, hx, if_neg (by omega), if_pos (by omega)]
              simp
            case measure => simp [intOf]; omega
          · have hd5 : (@BEq.beq (List UInt8) List.instBEq (hexL [x]) pr) = false := by rw [beq_eq_false_iff_ne]; exact heq
            have HEQ := Lib.hid heq
            clear heq
            rw [hd5]
            go_wp2_with fail
            go_roundw
            case rel =>
              refine ⟨x.toNat + 1, o2, by omega, by go_num, by omega, Lib.hid (fun b h => ?_), hbx, hown'⟩
              have hx : at8 b k ≠ x := by
                have h1 := HP.out b h
                rw [hexL_unhexL s b h, HPR.out] at h1
                intro e
                rw [e] at h1
                exact HEQ.out h1.symm
              have hx2 : (at8 b k).toNat ≠ x.toNat := fun e => hx (UInt8.toNat.inj e)
              rw [HO2.out b h]
              congr 1
              by_cases h3 : (at8 b k).toNat < x.toNat
              · rw [if_pos h3, if_pos (by omega)]
              · rw [if_neg h3, if_neg (by omega)]
            case measure => simp [intOf]; omega
        · obtain rfl : m = 256 := by omega
          rw [show ((256 : Nat) : Int) = 256 from rfl]
          go_wp2_with fail
          go_roundw
          case rel =>
            refine ⟨k + 1, o2, by have := HI.out; omega, by have := HI.out; go_num, by omega, Lib.hid (fun b h => ?_), hbel, hown⟩
            rw [HO2.out b h, if_pos (by have := (at8 b k).toNat_lt; omega), take_more b k (HL.out b h)]
          case measure => simp [intOf]; omega
    · have HEND := Lib.hid (fun b (h : unhexL s = some b) => (show o = b by
        have hl := hexL_length b
        rw [hexL_unhexL s b h] at hl
        rw [HO.out b h, List.take_of_length_le (by omega)]))
      have hd : decide (((2 * k : Nat) : Int) + 1 < (s.length : Int)) = false := decide_eq_false (by omega)
      obtain ⟨A, c, rfl, hc1, hc2, hc3, _⟩ := found_row hown
      have HC2 := Lib.hid hc2
      have hcall := hexr_any o A c wr hc3 (by omega)
      have HCALL := Lib.hid hcall
      clear hown hc2 hcall
      generalize s.length = n at *
      go_wp2_with fail
      refine HCALL.out.mono ?_
      rintro e w2 ⟨rfl, n2⟩
      have hb2 := hbel.trans (n2.mono hbel.size)
      have hc4 := hc3.below n2
      by_cases heq : hexL o = s
      · have hd5 : (@BEq.beq (List UInt8) List.instBEq (hexL o) s) = true := by rw [heq]; simp
        have HU := Lib.hid (show unhexL s = some o by rw [← heq]; exact unhexL_hexL o)
        clear heq
        go_wp2_with fail
        go_ret2
        refine ⟨hb2, ?_⟩
        rw [HU.out]
        exact ⟨A, c, rfl, hc1, HC2.out, hc4⟩
      · have hd5 : (@BEq.beq (List UInt8) List.instBEq (hexL o) s) = false := by rw [beq_eq_false_iff_ne]; exact heq
        have HU := Lib.hid (show unhexL s = none by
          cases h : unhexL s with
          | none => rfl
          | some b => exact absurd (by rw [HEND.out b h]; exact hexL_unhexL s b h) heq)
        clear heq
        go_wp2_with fail
        go_ret2
        refine ⟨hb2, ?_⟩
        rw [HU.out]
        rfl
end Go.Proofs.YtbioclpobmgikaaDoor
