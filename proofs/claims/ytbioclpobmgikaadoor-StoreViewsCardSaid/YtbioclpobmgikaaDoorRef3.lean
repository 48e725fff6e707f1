/- The document's constants: the walks of cube and primes. -/
import Derived.Test.YtbioclpobmgikaaDoorRef2
import Derived.Laws.AppendOwn
namespace Go.Proofs.YtbioclpobmgikaaDoor
open Go.RowKit

set_option maxHeartbeats 1000000 in
set_option maxRecDepth 100000 in
theorem cube_any (n r : Nat) (hn : n < 4096) (hr : isCube n r) (w : World) :
    Calls Tryd.prog 77 #[.int .u64 (n : Int)] w fun e w' => e = .returned (.int .u32 ((BitVec.ofNat 32 r : W).toNat : Int)) ∧ Below w.heap.size w w' := by
  obtain ⟨N, hN⟩ : ∃ N, N = n * 79228162514264337593543950336 := ⟨_, rfl⟩
  have hst : N < 68719476736 * 68719476736 * 68719476736 := by omega
  have hu : ∀ l, l * l * l ≤ N → N < (l + 1) * (l + 1) * (l + 1) → r = l := fun l h1 h2 => isCube_unique n r l hr ⟨by rw [← hN]; exact h1, by rw [← hN]; exact h2⟩
  have hab : ∀ (m : Nat) (w : World), m < 68719476736 → Calls Tryd.prog 104 #[.int .u64 (m : Int), .int .u64 (n : Int)] w fun e w' => e = .returned (.bool (decide (N < m * m * m))) ∧ Below w.heap.size w w' := fun m w h => by
    rw [hN]; exact above_any m n h (by omega) w
  have HAB := Lib.hid hab; have HU := Lib.hid hu
  clear hab hu hN hr
  go_enter Tryd.func77, Tryd.ntmps77
  go_wp2_with fail
  go_loopw [3, 4] (fun u v wr => ∃ l p j : Nat, u = .int .u64 (l : Int) ∧ v = .int .u64 ((l + p : Nat) : Int) ∧ p = 2 ^ j ∧ l + p ≤ 68719476736 ∧ l * l * l ≤ N ∧ N < (l + p) * (l + p) * (l + p) ∧ Below w.heap.size w wr) (fun u v _ => (intOf v).toNat - (intOf u).toNat)
  case atStart => exact ⟨0, 68719476736, 36, rfl, rfl, by decide, by omega, by omega, by rw [Nat.zero_add]; exact hst, Below.refl _ _⟩
  case round =>
    obtain ⟨l, p, j, rfl, rfl, hp, hle, h1, h2, hb⟩ := hrel
    rw [Int.natCast_add]
    cases j with
    | zero =>
      obtain rfl : p = 1 := hp
      obtain rfl : r = l := HU.out l h1 h2
      rw [show ((1 : Nat) : Int) = 1 from rfl]
      go_wp2_with fail
      go_ret
      exact ⟨ret_i (root_u32 r (by omega)), hb⟩
    | succ j =>
      obtain ⟨q, hq⟩ : ∃ q, q = 2 ^ j := ⟨_, rfl⟩
      have hpq : p = q + q := by rw [hp, hq, Nat.pow_succ]; omega
      have hq0 : 0 < q := by rw [hq]; exact Nat.two_pow_pos j
      have HQ := Lib.hid hq
      clear hp hq
      subst hpq
      have e1 : ((l : Int) + ((l : Int) + ((q + q : Nat) : Int))) / 2 = ((l + q : Nat) : Int) := by omega
      have ec : ((q + q : Nat) : Int) = (q : Int) + (q : Int) := by omega
      generalize hm : l + q = m at *
      rw [ec] at e1 ⊢
      go_wp2_with fail
      refine (HAB.out m wr (by omega)).mono ?_
      rintro e w2 ⟨rfl, hb2⟩
      have hb2 := hb.trans (hb2.mono hb.size)
      by_cases hlt : N < m * m * m
      · rw [decide_eq_true hlt]
        go_wp2_with fail
        go_roundw
        case rel => exact ⟨l, q, j, rfl, by go_num, HQ.out, by omega, h1, by rw [hm]; exact hlt, hb2⟩
        case measure => simp [intOf]; omega
      · rw [decide_eq_false hlt]
        have hmm : l + (q + q) = m + q := by omega
        rw [hmm] at h2
        go_wp2_with fail
        go_roundw
        case rel => exact ⟨m, q, j, rfl, by go_num, HQ.out, by omega, by omega, h2, hb2⟩
        case measure => simp [intOf]; omega

theorem pr_mem (k : Nat) : ∀ p ∈ pr k, 2 ≤ p ∧ p < k + 2 := by
  induction k with
  | zero => intro p hp; simp [pr] at hp
  | succ k ih =>
    intro p hp
    rw [pr] at hp
    split at hp
    · rw [List.mem_append] at hp
      rcases hp with hp | hp
      · have := ih p hp; omega
      · simp at hp; omega
    · have := ih p hp; omega
theorem atn_mem (l : List Nat) (i : Nat) (h : i < l.length) : atn l i ∈ l := by
  simp [atn, h]
theorem info112 : (Tryd.prog.info? 112).map (fun i => (i.zero, i.size, i.bytes)) = some (some (.int .u64 0), 1, 8) := by kernel_rfl
theorem zero112 : ∃ i, Tryd.prog.info? 112 = some i ∧ i.zero = some (.int .u64 0) ∧ i.size = 1 ∧ i.bytes = 8 := by
  have h := info112
  cases hi : Tryd.prog.info? 112 with
  | none => rw [hi] at h; cases h
  | some i => rw [hi] at h; simp at h; exact ⟨i, rfl, h.1, h.2.1, h.2.2⟩

structure PrAt (w wr : World) (l : List Nat) (v : Value) : Prop where
  below : Below w.heap.size w wr
  own : wr.ownsRow w.heap.size 112 1 v l.length (N64 l)
  form : ∃ g c, v = .slice (some ⟨g, 0, none⟩) l.length c

theorem take_all (l : List Nat) (t : Nat) (f : Nat → Bool) (h : t < l.length) : (l.take (t + 1)).all f = ((l.take t).all f && f (atn l t)) := by
  rw [List.take_add_one, List.all_append]
  simp [h, atn]

set_option maxHeartbeats 1000000 in
set_option maxRecDepth 100000 in
theorem primes_any (w : World) :
    Calls Tryd.prog 76 #[.int .i64 64] w fun e w' => ∃ g c, e = .returned (.slice (some ⟨g, 0, none⟩) 64 c) ∧ 64 ≤ c ∧ w.heap.size ≤ g ∧ Below w.heap.size w w' ∧ ∀ i, i < 64 → w'.cell? ⟨g, i, none⟩ = some (.int .u64 ((atn pr64 i : Nat) : Int)) := by
  obtain ⟨i0, hi0, hz0, hz1, hz2⟩ := zero112
  have hst : PrAt w (w.alloc (.cells #[] 112)) (pr 0) (.slice (some ⟨w.heap.size, 0, none⟩) 0 0) :=
    ⟨(Below.refl _ _).alloc (Nat.le_refl _) _, World.ownsRow_made w #[] 0 (Nat.le_refl _) (by unfold maxLen; omega) rfl, ⟨_, _, rfl⟩⟩
  have HS := Lib.hid hst
  clear hst
  go_enter Tryd.func76, Tryd.ntmps76
  go_wp2_with fail
  go_loopw [3, 4] (fun v u wr => ∃ k : Nat, k ≤ 310 ∧ u = .int .u64 ((k + 2 : Nat) : Int) ∧ PrAt w wr (pr k) v) (fun _ u _ => 312 - (intOf u).toNat)
  case atStart => exact ⟨0, by omega, rfl, HS.out⟩
  case round =>
    clear HS
    obtain ⟨k, hk, rfl, hp⟩ := hrel
    obtain ⟨g, c, rfl⟩ := hp.form
    by_cases hlt : k < 310
    · have hl := pr_lt k hlt
      have hmem := pr_mem k
      have hnext : pr (k + 1) = if (pr k).all (fun p => (k + 2) % p != 0) then pr k ++ [k + 2] else pr k := rfl
      have HN := Lib.hid hnext
      clear hnext
      generalize pr k = l at *
      generalize hm : k + 2 = m at *
      generalize hln : l.length = n at *
      have HLN := Lib.hid hln
      clear hln
      have hd : decide ((n : Int) < 64) = true := decide_eq_true (by omega)
      go_wp2_with fail
      go_loopw [17, 5] (fun v ok wr2 => ∃ t : Nat, t ≤ n ∧ v = .int .i64 (t : Int) ∧ ok = .bool true ∧ (l.take t).all (fun p => m % p != 0) = true ∧ wr = wr2) (fun v _ _ => n - (intOf v).toNat)
      case atStart => exact ⟨0, by omega, rfl, rfl, by simp, rfl⟩
      case round =>
        obtain ⟨t, ht, rfl, rfl, hall, rfl⟩ := hrel
        by_cases htl : t < n
        · have hcell : wr.cell? ⟨g, t, none⟩ = some (.int .u64 ((atn l t : Nat) : Int)) := by
            have := hp.own.cells (g := g) rfl t _ (N64_get l t (by rw [HLN.out]; exact htl))
            rwa [show (⟨g, 0, none⟩ : Addr).add t = ⟨g, t, none⟩ by unfold Addr.add; split <;> simp_all] at this
          have hpm := hmem _ (atn_mem l t (by rw [HLN.out]; exact htl))
          have hta := take_all l t (fun p => m % p != 0) (by rw [HLN.out]; exact htl)
          have HTA := Lib.hid hta
          have hqm := atn_mem l t (by rw [HLN.out]; exact htl)
          clear hta
          generalize atn l t = q at *
          by_cases hq : m % q = 0
          · have hmod : (m : Int) % (q : Int) = 0 := by rw [← Int.natCast_emod, hq]; rfl
            have hno : ¬ (l.all fun p => m % p != 0) = true := by
              rw [List.all_eq_true]
              intro h
              have := h q hqm
              simp [hq] at this
            have HNO := Lib.hid hno
            clear hno hq
            go_wp2_with fail
            go_roundw
            case rel => exact ⟨k + 1, by omega, by go_num, by rw [HN.out, if_neg HNO.out]; rw [← HLN.out] at hp ⊢; exact hp⟩
            case measure => simp [intOf]; omega
          · have hmod : (m : Int) % (q : Int) = ((m % q : Nat) : Int) := (Int.natCast_emod m q).symm
            generalize m % q = z at *
            go_wp2_with fail
            go_roundw
            case rel => exact ⟨t + 1, by omega, by go_num, rfl, by rw [HTA.out, hall]; simpa using hq, trivial⟩
            case measure => simp [intOf]; omega
        · obtain rfl : t = n := by omega
          rw [List.take_of_length_le (by rw [HLN.out]; exact Nat.le_refl _)] at hall
          have hN2 : pr (k + 1) = l ++ [m] := by rw [HN.out, if_pos hall]
          have HN2 := Lib.hid hN2
          have hown : ∀ o, (wr.alloc o).ownsRow w.heap.size 112 1 (.slice (some ⟨g, 0, none⟩) t c) t (N64 l) := fun o => by
            have := hp.own.alloc o
            rwa [HLN.out] at this
          clear hall HN hN2
          go_wp2_with (refine wpList_append_own _ rfl _ _ 106 rfl w.heap.size 112 i0 (.int .u64 0) 1 8 Tryd.underlying106 hi0 hz0 hz1 hz2 rfl (by decide) _ _ _ rfl (hown _) ⟨wr.heap.size, 0, none⟩ 1 1 [.int .u64 (m : Int)] rfl rfl (cell_one_new _ _ _) (fun u hu => by simp at hu; subst hu; rfl) (by unfold maxLen; omega) (by omega) (by have := hp.below.size; simp; omega) ?_; rintro v1 w3 ho3 hg3 hn3)
          have hg3 := hg3
          have hb3 : Below w.heap.size w w3 := (hp.below.alloc hp.below.size _).grown hg3 (by have := hp.below.size; simp; omega) (fun k hk => (hp.own.lt k hk).1)
          have hpr3 : PrAt w w3 (l ++ [m]) v1 := by
            refine ⟨hb3, ?_, ?_⟩
            · rw [List.length_append, HLN.out]; simpa [N64] using ho3
            · rcases ho3.2 with ⟨h1, h2⟩ | ⟨g', cap, cur, h1, _⟩
              · omega
              · exact ⟨g', cap, by rw [List.length_append, HLN.out]; exact h1⟩
          clear ho3 hg3 hn3
          go_wp2_with fail
          go_roundw
          case rel => exact ⟨k + 1, by omega, by go_num, by rw [HN2.out]; exact hpr3⟩
          case measure => simp [intOf]; omega
    · obtain rfl : k = 310 := by omega
      rw [pr_310] at hp
      have hl : (pr 310).length = 64 := by rw [pr_310]; rfl
      rw [hl]
      rw [show pr64.length = 64 from rfl] at hp
      have hc : 64 ≤ c := by
        rcases hp.own.2 with ⟨h1, _⟩ | ⟨g', cap, cur, h1, _, _, h2, _⟩
        · cases h1
        · injection h1 with _ _ h1
          omega
      have hcell : ∀ i, i < 64 → wr.cell? ⟨g, i, none⟩ = some (.int .u64 ((atn pr64 i : Nat) : Int)) := fun i hi => by
        have := hp.own.cells (g := g) rfl i _ (N64_get pr64 i hi)
        rwa [show (⟨g, 0, none⟩ : Addr).add i = ⟨g, i, none⟩ by unfold Addr.add; split <;> simp_all] at this
      have hgl := (hp.own.lt g rfl).1
      have hbel := hp.below
      clear hp hlt hk
      go_wp2_with fail
      go_ret
      exact ⟨g, c, rfl, hc, hgl, hbel, hcell⟩
end Go.Proofs.YtbioclpobmgikaaDoor
