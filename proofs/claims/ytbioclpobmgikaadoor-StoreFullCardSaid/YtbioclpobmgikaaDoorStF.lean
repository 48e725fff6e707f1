/- StoreFull: the law's walk. -/
import Derived.Test.YtbioclpobmgikaaDoorSp1
namespace Go.Proofs.YtbioclpobmgikaaDoor
open Go.RowKit

def fullNm (i : Nat) : List UInt8 := [97, UInt8.ofNat (97 + i / 16), UInt8.ofNat (97 + i % 16)]
def fullBl (i : Nat) : Bl := ⟨fullNm i, [], none, 0⟩
def fullL (k : Nat) : List Bl := (List.range k).map fullBl
theorem fullL_length (k : Nat) : (fullL k).length = k := by simp [fullL]
theorem fullL_succ (k : Nat) : fullL (k + 1) = fullL k ++ [fullBl k] := by simp [fullL, List.range_succ]
theorem fullL_mem (k : Nat) (b : Bl) (h : b ∈ fullL k) : ∃ i, b = fullBl i := by
  obtain ⟨i, _, rfl⟩ := List.mem_map.1 h
  exact ⟨i, rfl⟩
theorem fullL_good (w : World) (k : Nat) : AllGood w (fullL k) := fun b hb => by
  obtain ⟨i, rfl⟩ := fullL_mem k b hb
  exact ⟨Nat.le_refl _, fun _ => rfl, fun j hj => by simp [fullBl] at hj⟩
theorem full_place (s : St2) (k : Nat) (d : List UInt8) (h : s = (fullL k).map Bl.abs) : ¬ 0 ≤ placeS s (nameOf d) := by
  intro hp
  obtain ⟨j, _, hj, hn, hm, _⟩ := place_hit _ _ hp
  generalize s.getD j ([], []) = x at *
  subst h
  obtain ⟨b, hb, rfl⟩ := List.mem_map.1 hm
  obtain ⟨i, rfl⟩ := fullL_mem k b hb
  have := congrArg List.length hn
  rw [nameOf_length] at this
  simp [fullBl, Bl.abs, fullNm] at this
theorem full_total (k : Nat) : totalS ((fullL k).map Bl.abs) = 0 := by
  have : ∀ l : St2, (∀ x ∈ l, x.2 = []) → totalS l = 0 := by
    intro l
    induction l with
    | nil => intro _; rfl
    | cons a l ih =>
      intro h
      have h1 := h a (by simp)
      have h2 := ih fun x hx => h x (by simp [hx])
      rw [totalS, List.map_cons, List.sum_cons, ← totalS, h2, h1]; rfl
  refine this _ fun x hx => ?_
  obtain ⟨b, hb, rfl⟩ := List.mem_map.1 hx
  obtain ⟨i, rfl⟩ := fullL_mem k b hb
  rfl
theorem full_put1 (d : List UInt8) (hd : d.length = 2) : putS ((fullL 256).map Bl.abs) d = .inl 14 := by
  unfold putS
  rw [if_neg (by omega), if_neg (full_place _ 256 d rfl), if_pos (by rw [List.length_map, fullL_length]; omega)]
theorem full_put2 (d : List UInt8) (hd : d.length = 2) : ∃ s, putS ((fullL 255).map Bl.abs) d = .inr s ∧ s.length = 256 ∧ 0 ≤ placeS s (nameOf d) := by
  refine ⟨ins ((fullL 255).map Bl.abs) (nameOf d) d, ?_, ?_, ?_⟩
  · unfold putS
    rw [if_neg (by omega), if_neg (full_place _ 255 d rfl), if_neg (by rw [List.length_map, fullL_length]; omega), if_neg (by rw [full_total]; omega)]
    rfl
  · rw [ins_length, List.length_map, fullL_length]
  · exact place_mem _ _ (nameOf d, d) ((ins_mem _ _ _ _).2 (.inl rfl)) rfl
theorem u8_ofNat (n : Nat) (h : n < 256) : ((UInt8.ofNat n).toNat : Int) = (n : Int) := by
  rw [UInt8.toNat_ofNat_of_lt' h]
def u8I (v : Int) : UInt8 := UInt8.ofNat (v % 256).toNat
theorem u8I_val (v : Int) : ((u8I v).toNat : Int) = v % 256 := by
  unfold u8I
  rw [u8_ofNat _ (by omega)]; omega
theorem bytes_alloc (w : World) (cs : List Value) (l : List UInt8) (h : cs = Bs l) : BytesAt (w.alloc (.cells cs.toArray 5)) (some ⟨w.heap.size, 0, none⟩) l := fun j hj => by
  subst h
  refine ⟨_, rfl, ?_⟩
  have h : (w.alloc (.cells (Bs l).toArray 5)).heap[w.heap.size]? = some (.cells (Bs l).toArray 5) := heap_alloc_new w _
  rw [add_lit', cell_of_row _ _ _ _ _ _ h, Nat.zero_add, List.getElem?_toArray]
  exact Bs_get _ _ hj
theorem full_conv (w : World) (k : Nat) (hk : k < 256) (x y : Int) (hx : x = 97 + (k : Int) / 16) (hy : y = 97 + (k : Int) % 16) :
    (convert 22 9 (.slice (some ⟨w.heap.size, 0, none⟩) 3 3)).run Tryd.prog (w.alloc (.cells #[.int .u8 97, .int .u8 x, .int .u8 y] 5)) = .ok (.string (St (fullNm k))) (w.alloc (.cells #[.int .u8 97, .int .u8 x, .int .u8 y] 5)) :=
  str_bytes _ _ (fullNm k) 3 (bytes_alloc w [.int .u8 97, .int .u8 x, .int .u8 y] (fullNm k) (by
    simp only [fullNm, Bs, List.map_cons, List.map_nil]
    rw [u8_ofNat _ (by omega), u8_ofNat _ (by omega), hx, hy]
    congr 4 <;> omega))
theorem run_blobs_to (w : World) (a : Addr) (n c p : Nat) (hc : p ≤ c) : (Instr.sliceAt 68 (.slice (some a) n c) none (some (.int .i64 (p : Int))) none).run Tryd.prog w = .ok (.slice (some a) p c) w := by
  unfold Instr.sliceAt Instr.slice
  simp only [Sem.run_bind, run_underlying Tryd.underlying68]
  simp [Instr.sliceBounds, Instr.sliceBound, asIntOf, hc, run_underlying Tryd.underlying68]
  exact fun _ => addr_zero a
theorem RowAt.to {w : World} {A : Option Addr} {bl : List Bl} (h : RowAt w A bl) (p : Nat) : RowAt w A (bl.take p) := fun j hj => by
  rw [List.length_take] at hj
  obtain ⟨a, ha, h1, h2⟩ := h j (by omega)
  have e : (bl.take p).getD j bl0 = bl.getD j bl0 := by simp [List.getD, show j < p by omega]
  rw [e]
  exact ⟨a, ha, h1, h2⟩
theorem fullL_take : (fullL 256).take 255 = fullL 255 := by
  rw [fullL_succ 255, List.take_append_of_le_length (by rw [fullL_length]; omega), List.take_of_length_le (by rw [fullL_length]; omega)]

set_option maxHeartbeats 4000000 in
set_option maxRecDepth 100000 in
theorem storeFull_walk (first : Int) (w : World) (hL : Laid w) :
    Calls Tryd.prog 15 #[.int .i64 first] w fun e w' => e = .returned (.bool true) ∧ Below w.heap.size w w' := by
  have hconv := full_conv
  go_enter Tryd.func15, Tryd.ntmps15
  go_wp2_with fail
  refine (alive22_any _ hL).mono ?_
  rintro e w1 ⟨rfl, hb1⟩
  go_wp2_with fail
  go_loopw [3, 4, 14] (fun vs _ vi wr => ∃ k : Nat, k ≤ 256 ∧ vi = .int .i64 (k : Int) ∧ Below w1.heap.size w1 wr ∧ wr.ownsRow w1.heap.size 70 2 vs (fullL k).length (Row (fullL k))) (fun _ _ v _ => 256 - (intOf v).toNat)
  case atStart => exact ⟨0, by omega, rfl, Below.refl _ _, ⟨rfl, .inl ⟨rfl, rfl⟩⟩⟩
  case round =>
    obtain ⟨k, hk, rfl, hbel, hown⟩ := hrel
    by_cases hlt : k < 256
    · have hcv := fun W => hconv W k hlt _ _ rfl rfl
      have HC := Lib.hid hconv
      have hsz := hbel.size
      have hfl := fullL_length k
      clear hconv
      have hbn := blob_new (wr.alloc (.cells #[.int .u8 97, .int .u8 (97 + (k : Int) / 16), .int .u8 (97 + (k : Int) % 16)] 5)) (fullBl k)
      rw [show (wr.alloc (.cells #[.int .u8 97, .int .u8 (97 + (k : Int) / 16), .int .u8 (97 + (k : Int) % 16)] 5)).heap.size = wr.heap.size + 1 by simp] at hbn
      have HBN := Lib.hid hbn
      clear hbn
      go_wp2_with (refine wpList_append_blobs rfl (.tmp 17) (.tmp 29) 68 Tryd.underlying68 rfl w1.heap.size _ (fullL k) rfl ((hown.alloc _).alloc _) ⟨wr.heap.size + 1, 0, none⟩ [fullBl k] 1 1 rfl rfl HBN.out (by omega) (by simp; omega) ?_; rintro v' w4 hown4 hg4)
      have hb4 := ((hbel.alloc hsz _).alloc (by simp; omega) _).grown hg4 (by simp; omega) (fun j hj => (hown.lt j hj).1)
      go_roundw
      case rel => exact ⟨k + 1, by omega, by go_num, hb4, by rw [fullL_succ]; exact hown4⟩
      case measure => simp [intOf]; omega
    · obtain rfl : k = 256 := by omega
      clear hconv
      have hsz := hbel.size
      have hw := hb1.trans (hbel.mono hb1.size)
      obtain ⟨A, c, rfl, hc1, hc2, hr⟩ := own_row hown
      have hby := bytes_alloc wr [.int .u8 (first % 256), .int .u8 (first / 256 % 256)] [u8I first, u8I (first / 256)] (by simp only [Bs, List.map_cons, List.map_nil, u8I_val])
      have hdl : [u8I first, u8I (first / 256)].length = 2 := rfl
      generalize [u8I first, u8I (first / 256)] = d at *
      have hgd := fun W k => fullL_good W k
      have hdd : ∀ k, ∀ b ∈ fullL k, b.data.length ≤ 10000000 := fun k b hb => by
        obtain ⟨i, rfl⟩ := fullL_mem k b hb
        simp [fullBl]
      have hp1 := fun W A c (hL : Laid W) (hr : RowAt W A (fullL 256)) hB => put_any (fullL 256) d A (some ⟨wr.heap.size, 0, none⟩) c 2 W hL hr (hgd _ _) (by rw [fullL_length]; omega) (hdd 256) hB (by omega) (fun h => by cases h) (by omega)
      have hp2 := fun W A c (hL : Laid W) (hr : RowAt W A (fullL 255)) hB => put_any (fullL 255) d A (some ⟨wr.heap.size, 0, none⟩) c 2 W hL hr (hgd _ _) (by rw [fullL_length]; omega) (hdd 255) hB (by omega) (fun h => by cases h) (by omega)
      rw [hdl, fullL_length] at hp1 hp2
      have HP1 := Lib.hid hp1; have HP2 := Lib.hid hp2; have HBY := Lib.hid hby
      have HF1 := Lib.hid (full_put1 d hdl); have HF2 := Lib.hid (full_put2 d hdl)
      have hbw := hw.alloc hw.size (.cells #[.int .u8 (first % 256), .int .u8 (first / 256 % 256)] 5)
      clear hp1 hp2 hby hown hgd hdd
      rw [fullL_length] at hc1 ⊢
      obtain ⟨a, rfl, _⟩ := hr 0 (by rw [fullL_length]; omega)
      have HR := Lib.hid hr
      clear hr
      go_wp2_with fail
      have hr2 := HR.out.below ((Below.refl wr.heap.size wr).alloc (Nat.le_refl _) (.cells #[.int .u8 (first % 256), .int .u8 (first / 256 % 256)] 5))
      generalize wr.alloc (.cells #[.int .u8 (first % 256), .int .u8 (first / 256 % 256)] 5) = w2 at *
      have HR2 := Lib.hid hr2
      clear hr2
      have hL2 := hL.below hbw
      have hs := fun w => run_blobs_to w a 256 c 255 (by omega)
      rw [show ((255 : Nat) : Int) = 255 from rfl] at hs
      refine (HP1.out w2 (some a) c hL2 HR2.out HBY.out).mono ?_
      rintro e w3 ⟨hb3, hm⟩
      rw [HF1.out] at hm
      subst hm
      go_wp2_with fail
      have hr3 := HR2.out.to 255
      rw [fullL_take] at hr3
      refine (HP2.out w3 (some a) c (hL2.below hb3) (hr3.below hb3) (HBY.out.below hb3)).mono ?_
      rintro e w4 ⟨hb4, hm⟩
      obtain ⟨s, hs1, hs2, hs3⟩ := HF2.out
      rw [hs1] at hm
      obtain ⟨A', n', c', rfl, bl, hab, rfl, hc1', hc2', hr', hg'⟩ := hm
      have hbl : bl.length = 256 := by rw [← hs2, ← hab, List.length_map]
      have hbw4 := hbw.trans ((hb3.trans (hb4.mono hb3.size)).mono hbw.size)
      have hhas := has_any bl (nameOf d) A' c' w4 hr' (by omega)
      rw [show placeL bl (nameOf d) = placeS (bl.map Bl.abs) (nameOf d) from idxS_abs _ _, hab, decide_eq_true hs3, hbl] at hhas
      have HHAS := Lib.hid hhas
      have HI := Lib.hid (fun W => numIs_any 14 14 (by omega) W)
      clear hhas hr' hg' hr3 HP1 HP2 HF1 HF2 HR HR2 HBY hs1 hs2 hs3 hab hc1' hc2'
      rw [hbl]
      generalize nameOf d = nm at *
      go_wp2_with fail
      refine (HI.out _).mono ?_
      rintro e w5 ⟨rfl, rfl⟩
      go_wp2_with fail
      refine HHAS.out.mono ?_
      rintro e w6 ⟨rfl, hb6⟩
      go_wp2_with fail
      go_ret
      exact ⟨rfl, hbw4.trans (hb6.mono hbw4.size)⟩
end Go.Proofs.YtbioclpobmgikaaDoor
