/- The laws of layer 3 against the document's answer: their walks. -/
import Derived.Test.YtbioclpobmgikaaDoorLaw03b
import Derived.Test.YtbioclpobmgikaaDoorRef4
import Derived.Test.YtbioclpobmgikaaDoorHex4
import Derived.OpenShut
namespace Go.Proofs.YtbioclpobmgikaaDoor
open Go.RowKit

set_option maxHeartbeats 4000000 in
set_option maxRecDepth 100000 in
theorem shaTells_walk (A : Option Addr) (l : List UInt8) (c : Nat) (w : World) (hL : Laid w) (hby : BytesAt w A l) (hn : A = none → c = 0) (_ : c ≤ maxLen) (_ : l.length ≤ c) :
    Calls Tryd.prog 3 #[.slice A l.length c] w fun e w' => e = .returned (.bool true) ∧ Below w.heap.size w w' := by
  have hg := guard25
  have HBY := Lib.hid hby
  have htl := St_toList
  clear hby
  go_enter Tryd.func3, Tryd.ntmps3
  go_wp2_with fail
  refine (alive_any _ hL).mono ?_
  rintro e w1 ⟨rfl, hb1⟩
  by_cases hbig : 400 < l.length
  · generalize l.length = n at *
    go_wp2_with fail
    go_ret
    exact ⟨rfl, hb1⟩
  · have hO0 : Own w1.heap.size w1 (w1.alloc (.cells #[] 5)) [] 0 (.slice (some ⟨w1.heap.size, 0, none⟩) 0 0) := Own.start (Nat.le_refl _)
    have hd : decide ((l.length : Int) > 400) = false := decide_eq_false (by omega)
    go_wp2_with (refine wpList_append_bytes rfl (.tmp 9) (.tmp 10) rfl w1.heap.size _ [] rfl hO0.own A l c rfl (BytesAt.alloc (HBY.out.below hb1) _) hn (by simp; omega) (by simp) ?_; rintro v3 w3 ho3 hg3 hn3; have hO3 := hO0.grow (Below.refl _ _) hg3 ho3 hn3; clear hO0 ho3 hg3 hn3; rw [List.nil_append, Nat.zero_add] at hO3; obtain ⟨g3, c3, rfl, hc3⟩ := hO3.form)
    have hby3 : BytesAt w3 (some ⟨g3, 0, none⟩) l := fun j hj => ⟨_, rfl, hO3.own.cells (g := g3) rfl j _ (Bs_get _ _ hj)⟩
    have hb3 := hb1.trans (hO3.below.mono hb1.size)
    have hby3A := HBY.out.below hb3
    have hL3 := hL.below hb3
    clear hO3
    have H3 := Lib.hid hby3; have H3A := Lib.hid hby3A; have HL3 := Lib.hid hL3
    clear hby3 hby3A hL3
    refine (of_one l (some ⟨g3, 0, none⟩) c3 _ w3 HL3.out rfl hc3 H3.out (by omega)).mono ?_
    rintro e w4 ⟨rfl, hb4⟩
    have hr := ref_any l A c w4 (H3A.out.below hb4) hn (by omega)
    have hq := fun w => eql_sum w (sha l) (sha l) (sha_length l) (sha_length l)
    have hc3 := fun w' (h : Below w4.heap.size w4 w') => str_bytes w' (some ⟨g3, 0, none⟩) l c3 ((H3.out.below hb4).below h)
    have hcA := fun w' (h : Below w4.heap.size w4 w') => str_bytes w' A l c ((H3A.out.below hb4).below h)
    have HR := Lib.hid hr; have HC3 := Lib.hid hc3; have HCA := Lib.hid hcA
    clear hr hc3 hcA
    rw [beq_self_eq_true] at hq
    generalize (Bs (sha l)).toArray = cs at *
    go_wp2_with fail
    refine HR.out.mono ?_
    rintro e w5 ⟨rfl, hb5⟩
    have k3 := HC3.out w5 hb5
    have kA := HCA.out w5 hb5
    have hbel := hb3.trans ((hb4.mono hb3.size).trans (hb5.mono (Nat.le_trans hb3.size hb4.size)))
    generalize l.length = n at *
    go_wp2_with fail
    go_ret
    exact ⟨rfl, hbel⟩

set_option maxHeartbeats 4000000 in
set_option maxRecDepth 100000 in
theorem shaEdges_walk (x m : Int) (w : World) (hL : Laid w) (hx : (Lit.int .u8 x).wf = true) (_ : (Lit.int .i64 m).wf = true) :
    Calls Tryd.prog 4 #[.int .u8 x, .int .i64 m] w fun e w' => e = .returned (.bool true) ∧ Below w.heap.size w w' := by
  have hg := guard25
  obtain ⟨b, rfl⟩ : ∃ b : UInt8, x = (b.toNat : Int) := ⟨UInt8.ofNat x.toNat, by
    have := bounds_u8 hx
    simp; omega⟩
  clear hx
  obtain ⟨n, hn300, hn⟩ : ∃ n : Nat, n < 300 ∧ wrap64 ((IntKind.u64.wrap m).tmod 300) = (n : Int) := by
    have h0 : 0 ≤ IntKind.u64.wrap m := by
      rw [show IntKind.u64.wrap m = m % 18446744073709551616 from rfl]; omega
    rw [Int.tmod_eq_emod_of_nonneg h0]
    refine ⟨(IntKind.u64.wrap m % 300).toNat, by omega, ?_⟩
    unfold wrap64
    omega
  go_enter Tryd.func4, Tryd.ntmps4
  go_wp2_with fail
  refine (alive_any _ hL).mono ?_
  rintro e w1 ⟨rfl, hb1⟩
  have hO0 : Own w1.heap.size w1 (w1.alloc (.cells #[] 5)) [] 0 (.slice (some ⟨w1.heap.size, 0, none⟩) 0 0) := Own.start (Nat.le_refl _)
  go_wp2_with fail
  rw [hn]
  clear hn
  generalize IntKind.u64.wrap m = um at *
  go_loopw [13, 5] (fun i v wr => ∃ k : Nat, k ≤ n ∧ i = .int .i64 (k : Int) ∧ Own w1.heap.size w1 wr (List.replicate k b) k v) (fun i _ _ => n - (intOf i).toNat)
  case atStart => exact ⟨0, by omega, rfl, hO0⟩
  case round =>
    clear hO0
    obtain ⟨k, hk, rfl, hO⟩ := hrel
    by_cases hlt : k < n
    · have hrep : List.replicate k b ++ [b] = List.replicate (k + 1) b := by rw [List.replicate_succ']
      have HREP := Lib.hid hrep
      clear hrep
      obtain ⟨g5, c5, rfl, hc5⟩ := hO.form
      have htl := hO.len
      generalize List.replicate k b = t at *
      go_wp2_with (refine wpList_append_bytes rfl (.tmp 15) (.tmp 17) rfl w1.heap.size _ t rfl (hO.own.alloc _) (some ⟨wr.heap.size, 0, none⟩) [b] 1 rfl (bytes_new _ _ _ rfl) (fun h => by cases h) (by simp; omega) (by have := hO.below.size; simp; omega) ?_; rintro v6 w6 ho6 hg6 hn6; have hO6 := hO.grow ((Below.refl _ _).alloc (Nat.le_refl _) _) hg6 ho6 hn6; clear ho6 hg6 hn6; rw [List.length_singleton] at hO6)
      go_roundw
      case rel => exact ⟨k + 1, by omega, by go_num, by rw [← HREP.out]; exact hO6⟩
      case measure => simp [intOf]; omega
    · obtain rfl : k = n := by omega
      obtain ⟨g3, c3, rfl, hc3⟩ := hO.form
      have hln : (List.replicate k b).length = k := by simp
      have hby3 : BytesAt wr (some ⟨g3, 0, none⟩) (List.replicate k b) := fun j hj => ⟨_, rfl, hO.own.cells (g := g3) rfl j _ (Bs_get _ _ hj)⟩
      have hb3 := hb1.trans (hO.below.mono hb1.size)
      have hL3 := hL.below hb3
      clear hO
      generalize List.replicate k b = l at *
      have h1 := of_one l (some ⟨g3, 0, none⟩) c3 _ wr hL3 rfl (by omega) hby3 (by omega)
      have h2 := fun w' (h : Below wr.heap.size wr w') => ref_any l (some ⟨g3, 0, none⟩) c3 w' (hby3.below h) (fun h => by cases h) (by omega)
      have hq := fun w => eql_sum w (sha l) (sha l) (sha_length l) (sha_length l)
      rw [beq_self_eq_true] at hq
      rw [hln] at h1 h2
      have H1 := Lib.hid h1; have H2 := Lib.hid h2
      clear h1 h2 hby3 hL3 hlt hk
      generalize (Bs (sha l)).toArray = cs at *
      go_wp2_with fail
      refine H1.out.mono ?_
      rintro e w4 ⟨rfl, hb4⟩
      go_wp2_with fail
      refine (H2.out w4 hb4).mono ?_
      rintro e w5 ⟨rfl, hb5⟩
      have hbel := hb3.trans ((hb4.mono hb3.size).trans (hb5.mono (Nat.le_trans hb3.size hb4.size)))
      go_wp2_with fail
      go_ret
      exact ⟨rfl, hbel⟩
end Go.Proofs.YtbioclpobmgikaaDoor
