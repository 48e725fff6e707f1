/- The fixed fact of layer 22: its walk. -/
import Derived.Test.YtbioclpobmgikaaDoorSt8
import Derived.Lib.SlBytesConst
namespace Go.Proofs.YtbioclpobmgikaaDoor
open Go.RowKit

theorem addr_zero (a : Addr) : a.add 0 = a := rfl
theorem sha_a : sha [97] = [202, 151, 129, 18, 202, 27, 189, 202, 250, 194, 49, 179, 154, 35, 220, 77, 167, 134, 239, 248, 20, 124, 78, 114, 185, 128, 119, 133, 175, 238, 72, 187] := by decide +kernel
theorem sha_b : sha [98] = [62, 35, 232, 22, 0, 57, 89, 74, 51, 137, 79, 101, 100, 225, 177, 52, 139, 189, 122, 0, 136, 212, 44, 74, 203, 115, 238, 174, 213, 156, 0, 157] := by decide +kernel
def nA : List UInt8 := nameOf [97]
def nB : List UInt8 := nameOf [98]
theorem nA_nB : eqB nA nB = false ∧ eqB nB nA = false ∧ gtB nA nB = true ∧ gtB nB nA = false := by
  unfold nA nB nameOf
  rw [sha_a, sha_b]
  decide +kernel
theorem put1 : putS [] [97] = .inr [(nA, [97])] := rfl
theorem put2 : putS [(nA, [97])] [98] = .inr [(nB, [98]), (nA, [97])] := by
  obtain ⟨h1, h2, h3, h4⟩ := nA_nB
  unfold putS placeS setAt
  rw [show nameOf [98] = nB from rfl]
  simp [idxS, totalS, List.findIdx_cons, h1, h3]
theorem put3 : putS [] [98] = .inr [(nB, [98])] := rfl
theorem put4 : putS [(nB, [98])] [97] = .inr [(nB, [98]), (nA, [97])] := by
  obtain ⟨h1, h2, h3, h4⟩ := nA_nB
  unfold putS placeS setAt
  rw [show nameOf [97] = nA from rfl]
  simp [idxS, totalS, List.findIdx_cons, h2, h4]
/-- Put, where the answer is known to be a store -/
theorem put_ok (bl : List Bl) (d : List UInt8) (s s' : St2) (hs : bl.map Bl.abs = s) (hput : putS s d = .inr s') (A B : Option Addr) (c cd : Nat) (w : World) (hL : Laid w) (hr : RowAt w A bl) (hg : AllGood w bl) (hn : bl.length ≤ 900) (hd : ∀ b ∈ bl, b.data.length ≤ 10000000)
    (hB : BytesAt w B d) (hcd : d.length ≤ cd) (hnd : B = none → cd = 0) (hdl : d.length ≤ 9223372036854775807) :
    Calls Tryd.prog 53 #[.slice A bl.length c, .slice B d.length cd] w fun e w' => ∃ A' c' bl', e = .returned (.tuple #[.slice A' s'.length c', .string (St (nameOf d)), .nilIface]) ∧ Below w.heap.size w w' ∧ bl'.map Bl.abs = s' ∧ s'.length ≤ c' ∧ (A' = none → c' = 0) ∧ RowAt w' A' bl' ∧ AllGood w' bl' := by
  refine (put_any bl d A B c cd w hL hr hg hn hd hB hcd hnd hdl).mono ?_
  rintro e w' ⟨hb, hm⟩
  rw [hs, hput] at hm
  obtain ⟨A', n', c', rfl, bl', hab, rfl, h1, h2, h3, h4⟩ := hm
  have : s'.length = bl'.length := by rw [← hab, List.length_map]
  exact ⟨A', c', bl', by rw [this], hb, hab, by omega, h2, h3, h4⟩

theorem conv_one (w : World) (x : Int) : (convert 22 22 (.slice (some ⟨w.heap.size, 0, none⟩) 1 1)).run Tryd.prog (w.alloc (.cells #[.int .u8 x] 5)) = .ok (.slice (some ⟨w.heap.size, 0, none⟩) 1 1) (w.alloc (.cells #[.int .u8 x] 5 (1, 2))) :=
  Lib.run_convert_bytes_const w 22 5 #[.int .u8 x] 1 1 Tryd.underlying22 Tryd.underlying5
theorem bytes_one (w : World) (x : UInt8) : BytesAt (w.alloc (.cells #[.int .u8 (x.toNat : Int)] 5 (1, 2))) (some ⟨w.heap.size, 0, none⟩) [x] := fun j hj => by
  have : j = 0 := by simp at hj; exact hj
  subst this
  refine ⟨_, rfl, ?_⟩
  have h : (w.alloc (.cells #[.int .u8 (x.toNat : Int)] 5 (1, 2))).heap[w.heap.size]? = some (.cells #[.int .u8 (x.toNat : Int)] 5 (1, 2)) := heap_alloc_new w _
  rw [add_lit', World.cell?, h]
  rfl

set_option maxHeartbeats 1000000 in
set_option maxRecDepth 100000 in
theorem alive22_any (w : World) (hL : Laid w) : Calls Tryd.prog 52 #[] w fun e w' => e = .returned (.bool true) ∧ Below w.heap.size w w' := by
  have HL := Lib.hid hL
  clear hL
  have hcv := conv_one
  have hdl : ∀ s : St2, s = [(nB, [98]), (nA, [97])] ∨ s = [(nA, [97])] ∨ s = [(nB, [98])] → ∀ bl : List Bl, bl.map Bl.abs = s → bl.length ≤ 2 ∧ ∀ b ∈ bl, b.data.length ≤ 10000000 := fun s hs bl hab => by
    have hl : bl.length = s.length := by rw [← hab, List.length_map]
    refine ⟨by rcases hs with rfl | rfl | rfl <;> simp at hl <;> omega, fun b hb => ?_⟩
    have : b.abs ∈ s := by rw [← hab]; exact List.mem_map_of_mem hb
    rcases hs with rfl | rfl | rfl
    · simp only [List.mem_cons, List.not_mem_nil, or_false] at this
      rcases this with h | h <;> (have := congrArg (fun x => x.2.length) h; simp only [Bl.abs, List.length_cons, List.length_nil] at this; omega)
    · simp only [List.mem_cons, List.not_mem_nil, or_false] at this
      have := congrArg (fun x => x.2.length) this; simp only [Bl.abs, List.length_cons, List.length_nil] at this; omega
    · simp only [List.mem_cons, List.not_mem_nil, or_false] at this
      have := congrArg (fun x => x.2.length) this; simp only [Bl.abs, List.length_cons, List.length_nil] at this; omega
  have HDL := Lib.hid hdl
  clear hdl
  have p1 := fun W (h : Below w.heap.size w W) => put_ok [] [97] [] _ rfl put1 none (some ⟨W.heap.size, 0, none⟩) 0 1 (W.alloc (.cells #[.int .u8 97] 5 (1, 2))) (HL.out.below (h.alloc h.size _)) (fun j hj => by simp at hj) (fun b hb => by cases hb) (by simp) (fun b hb => by cases hb) (bytes_one _ 97) (by simp) (fun h => by cases h) (by simp)
  have p2 := fun W (h : Below w.heap.size w W) bl (hab : bl.map Bl.abs = [(nA, [97])]) A c (hr : RowAt W A bl) (hg : AllGood W bl) => put_ok bl [98] _ _ hab put2 A (some ⟨W.heap.size, 0, none⟩) c 1 (W.alloc (.cells #[.int .u8 98] 5 (1, 2))) (HL.out.below (h.alloc h.size _)) (hr.below ((Below.refl _ _).alloc (Nat.le_refl _) _)) (hg.below ((Below.refl _ _).alloc (Nat.le_refl _) _)) (by have := (HDL.out _ (.inr (.inl rfl)) bl hab).1; omega) (HDL.out _ (.inr (.inl rfl)) bl hab).2 (bytes_one _ 98) (by simp) (fun h => by cases h) (by simp)
  have p3 := fun W (h : Below w.heap.size w W) => put_ok [] [98] [] _ rfl put3 none (some ⟨W.heap.size, 0, none⟩) 0 1 (W.alloc (.cells #[.int .u8 98] 5 (1, 2))) (HL.out.below (h.alloc h.size _)) (fun j hj => by simp at hj) (fun b hb => by cases hb) (by simp) (fun b hb => by cases hb) (bytes_one _ 98) (by simp) (fun h => by cases h) (by simp)
  have p4 := fun W (h : Below w.heap.size w W) bl (hab : bl.map Bl.abs = [(nB, [98])]) A c (hr : RowAt W A bl) (hg : AllGood W bl) => put_ok bl [97] _ _ hab put4 A (some ⟨W.heap.size, 0, none⟩) c 1 (W.alloc (.cells #[.int .u8 97] 5 (1, 2))) (HL.out.below (h.alloc h.size _)) (hr.below ((Below.refl _ _).alloc (Nat.le_refl _) _)) (hg.below ((Below.refl _ _).alloc (Nat.le_refl _) _)) (by have := (HDL.out _ (.inr (.inr rfl)) bl hab).1; omega) (HDL.out _ (.inr (.inr rfl)) bl hab).2 (bytes_one _ 97) (by simp) (fun h => by cases h) (by simp)
  rw [show nameOf [97] = nA from rfl] at p1 p4
  rw [show nameOf [98] = nB from rfl] at p2 p3
  have P1 := Lib.hid p1; have P2 := Lib.hid p2; have P3 := Lib.hid p3; have P4 := Lib.hid p4
  clear p1 p2 p3 p4
  go_enter Tryd.func52, Tryd.ntmps52
  go_wp2_with fail
  refine (P1.out w (Below.refl _ _)).mono ?_
  rintro e w1 ⟨A1, c1, b1, rfl, hb1, ha1, hc1, hn1, hr1, hg1⟩
  have hbw1 := ((Below.refl w.heap.size w).alloc (Nat.le_refl _) (.cells #[.int .u8 97] 5 (1, 2))).trans (hb1.mono (by simp))
  have HA1 := Lib.hid ha1; have HN1 := Lib.hid hn1
  have hl1 : b1.length = 1 := by have := congrArg List.length ha1; simpa using this
  have q2 := P2.out w1 hbw1 b1 ha1 A1 c1 hr1 hg1
  rw [hl1] at q2
  have Q2 := Lib.hid q2
  clear ha1 hn1 q2 hr1 hg1 hb1
  go_wp2_with fail
  refine Q2.out.mono ?_
  rintro e w2 ⟨A2, c2, b2, rfl, hb2, ha2, hc2, hn2, hr2, hg2⟩
  have hbw2 := (hbw1.alloc hbw1.size (.cells #[.int .u8 98] 5 (1, 2))).trans (hb2.mono (by have := hbw1.size; simp; omega))
  have HA2 := Lib.hid ha2; have HN2 := Lib.hid hn2; have HR2 := Lib.hid hr2
  clear ha2 hn2 hr2 hg2 hb2 Q2
  go_wp2_with fail
  refine (P3.out w2 hbw2).mono ?_
  rintro e w3 ⟨A3, c3, b3, rfl, hb3, ha3, hc3, hn3, hr3, hg3⟩
  have hb23 := ((Below.refl w2.heap.size w2).alloc (Nat.le_refl _) (.cells #[.int .u8 98] 5 (1, 2))).trans (hb3.mono (by simp))
  have hbw3 := hbw2.trans (hb23.mono hbw2.size)
  have HA3 := Lib.hid ha3; have HN3 := Lib.hid hn3
  have hl3 : b3.length = 1 := by have := congrArg List.length ha3; simpa using this
  have q4 := P4.out w3 hbw3 b3 ha3 A3 c3 hr3 hg3
  rw [hl3] at q4
  have Q4 := Lib.hid q4
  clear ha3 hn3 q4 hr3 hg3 hb3
  go_wp2_with fail
  refine Q4.out.mono ?_
  rintro e w4 ⟨A4, c4, b4, rfl, hb4, ha4, hc4, hn4, hr4, hg4⟩
  have hb34 := ((Below.refl w3.heap.size w3).alloc (Nat.le_refl _) (.cells #[.int .u8 97] 5 (1, 2))).trans (hb4.mono (by simp))
  have hbw4 := hbw3.trans (hb34.mono hbw3.size)
  have hb24 := hb23.trans (hb34.mono hb23.size)
  have hr2 := HR2.out.below hb24
  have ha2 := HA2.out
  have key : ∀ (bl : List Bl), bl.map Bl.abs = [(nB, [98]), (nA, [97])] → bl.length = 2 ∧ (bl.getD 0 bl0).name = nB ∧ (bl.getD 1 bl0).name = nA := fun bl h => by
    match bl, h with
    | [x, y], h =>
      simp only [List.map_cons, List.map_nil, List.cons.injEq, and_true, Bl.abs, Prod.mk.injEq] at h
      exact ⟨rfl, h.1.1, h.2.1⟩
    | [], h => simp at h
    | [x], h => simp at h
    | x :: y :: z :: t, h => simp at h
  obtain ⟨l2, n20, n21⟩ := key b2 ha2
  obtain ⟨l4, n40, n41⟩ := key b4 ha4
  obtain ⟨a2, rfl, g20, _⟩ := hr2 0 (by omega)
  obtain ⟨a2', e2, g21, _⟩ := hr2 1 (by omega)
  obtain rfl := Option.some.inj e2
  obtain ⟨a4, rfl, g40, _⟩ := hr4 0 (by omega)
  obtain ⟨a4', e4, g41, _⟩ := hr4 1 (by omega)
  obtain rfl := Option.some.inj e4
  rw [n20] at g20; rw [n21] at g21; rw [n40] at g40; rw [n41] at g41
  rw [Nat.zero_mul, addr_zero] at g20 g40
  rw [Nat.one_mul] at g21 g41
  have g23 : w4.cell? ⟨a2.block, a2.off + 2, none⟩ = some (.string (St nA)) := g21
  have g43 : w4.cell? ⟨a4.block, a4.off + 2, none⟩ = some (.string (St nA)) := g41
  have HBW := Lib.hid hbw4
  have hne := nA_nB.1
  clear key hr2 ha2 n20 n21 n40 n41 hr4 ha4 hg4 hn4 hb4 hb34 hbw4 hb24 hb23 hbw3 Q4 P1 P2 P3 P4 HDL HR2 HA2 HN2 HA3 HN3 HA1 HN1 hcv l2 l4 e2 e4
  have htl := St_toList
  generalize nA = xa at *
  generalize nB = xb at *
  unfold eqB at hne
  go_wp2_with fail
  go_quiet (fail)
  have hbf := below_drewN HBW.out nq
  generalize w4.drewN nq = w5 at *
  go_wp2_with fail
  go_ret
  exact ⟨rfl, hbf⟩
end Go.Proofs.YtbioclpobmgikaaDoor
