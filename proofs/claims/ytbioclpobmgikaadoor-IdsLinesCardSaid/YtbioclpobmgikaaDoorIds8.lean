/- Old ids one behind the other: the walk; how long an argument's parts are. -/
import Derived.Test.YtbioclpobmgikaaDoorIds7
import Derived.SizedLaws
import Derived.Deep.Slices
namespace Go.Proofs.YtbioclpobmgikaaDoor
open Go.ChangeShapes Go.WideShapes Go.ChangeAt Go.RowKit

theorem weights_all {H : Type} {e : TypeId} {n : Nat} : ∀ (l : List (DataW H)) (i : Nat) (d : DataW H), l[i]? = some d → n ∈ d.weights Tryd.prog e → n ∈ DataW.weightsAll Tryd.prog e l
  | [], _, _, h, _ => by simp at h
  | x :: r, 0, d, h, hn => by
    simp only [List.getElem?_cons_zero, Option.some.injEq] at h
    subst h
    simp only [DataW.weightsAll, List.mem_append]
    exact Or.inl hn
  | x :: r, i + 1, d, h, hn => by
    simp only [List.getElem?_cons_succ] at h
    simp only [DataW.weightsAll, List.mem_append]
    exact Or.inr (weights_all r i d h hn)
theorem bytes5 : Tryd.prog.bytesOf 5 = 1 := by kernel_rfl
/-- how long an argument's parts are -/
theorem parts_len {H : Type} {enc : TypeId × Value → H} {W : World} {base : Nat} {spare : Nat → Bool} {held : Bool} {a : Option Addr} {len cap : Nat} {d : DataW H} {ps : List MemPlace}
    (h : DataW.Trod enc Tryd.prog W base spare held 31 (.slice a len cap) d ps) (hsz : ∀ n ∈ d.weights Tryd.prog 31, n ≤ 140737488351232) :
    ∀ j, j < len → ∀ a', a = some a' → ∀ A' l' c', W.cell? (a'.add j) = some (.slice A' l' c') → l' ≤ 140737488351232 := by
  intro j hj a' ha A' l' c' hcell
  obtain ⟨fuel, hf⟩ := h
  rcases Deep.open_slice1 Tryd.underlying31 (by kernel_rfl) hf with ⟨hcs, _⟩ | ⟨x, l, c, m, n, V, D, Pl, hcs, _, hl, hm, hmm, hd, hx⟩
  · simp [Value.cells] at hcs
    omega
  · simp [Value.cells] at hcs
    obtain ⟨hcs, rfl, rfl⟩ := hcs
    rw [ha] at hcs
    obtain rfl := Option.some.inj hcs
    have hlm : len ≤ m := by rw [hmm]; split <;> omega
    obtain ⟨hc, ht⟩ := hx j (by omega)
    rw [hcell] at hc
    obtain hv := Option.some.inj hc
    rw [← hv] at ht
    have hd1 : d = .slice ((List.range len).map D) ((List.range (m - len)).map fun j => D (len + j)) := congrArg Prod.fst hd
    rcases open_ints Tryd.underlying22 Tryd.underlying5 (by kernel_rfl) ht with ⟨hcs, _⟩ | ⟨y, ly, cy, zs, hcs, _, hly, hmy, hz, hdy, _, _⟩
    · simp at hcs
      omega
    · simp at hcs
      obtain ⟨rfl, rfl, rfl⟩ := hcs
      have hzl : l' ≤ zs.length := by rw [hz]; split <;> omega
      have hdj : D j = .slice (lits .u8 (zs.take l')) (lits .u8 (zs.drop l')) := congrArg Prod.fst hdy
      have hmem : (l' + (zs.length - l')) * 1 ∈ d.weights Tryd.prog 31 := by
        rw [hd1, DataW.weights, Tryd.underlying31]
        simp only [List.mem_cons, List.mem_append]
        refine Or.inr (Or.inl (weights_all _ j (D j) (by simp [hj]) ?_))
        rw [hdj, DataW.weights, Tryd.underlying22]
        simp only [bytes5, List.mem_cons]
        left
        simp [lits]
        omega
      have := hsz _ hmem
      omega
set_option maxHeartbeats 4000000 in
set_option maxRecDepth 100000 in
theorem old_big (p c b : List UInt8) (A : Option Addr) (cap : Nat) (w : World) (hL : Laid w) (hbB : BytesAt w A b) (hbig : p.length + c.length + b.length ≤ 140737488355000) :
    Calls Tryd.prog 42 #[.string (St p), .string (St c), .slice A b.length cap] w fun e w' => e = .returned (.string (St (oldL p c b))) ∧ Below w.heap.size w w' := by
  obtain ⟨w1, c1, hcv1, hb1, hby1, hc1⟩ := bytes_of_text p w
  obtain ⟨w2, c2, hcv2, hb2, hby2, hc2⟩ := bytes_of_text c w1
  have hcv1 := hcv1 9 Tryd.underlying9
  have hcv2 := hcv2 9 Tryd.underlying9
  have hby12 := hby1.below hb2
  have hbB2 := (hbB.below hb1).below hb2
  have hbel2 := hb1.trans (hb2.mono hb1.size)
  obtain ⟨v1, hv1⟩ : ∃ v1, v1 = Value.slice (some ⟨w.heap.size, 0, none⟩) p.length c1 := ⟨_, rfl⟩
  obtain ⟨v2, hv2⟩ : ∃ v2, v2 = Value.slice (some ⟨w1.heap.size, 0, none⟩) c.length c2 := ⟨_, rfl⟩
  obtain ⟨v3, hv3⟩ : ∃ v3, v3 = Value.slice A b.length cap := ⟨_, rfl⟩
  have hb3 : Below w2.heap.size w2 (w2.alloc (.cells #[v1, v2, v3] 22)) := (Below.refl _ _).alloc (Nat.le_refl _) _
  have hb4 : Below w2.heap.size w2 ((w2.alloc (.cells #[v1, v2, v3] 22)).alloc (.cells #[.int .u8 10] 5)) := hb3.alloc (by simp) _
  have hr4 : ((w2.alloc (.cells #[v1, v2, v3] 22)).alloc (.cells #[.int .u8 10] 5)).heap[w2.heap.size]? = some (.cells #[v1, v2, v3] 22) := heap_alloc2_old w2 _ _
  have hP : Lib.PartsAt ((w2.alloc (.cells #[v1, v2, v3] 22)).alloc (.cells #[.int .u8 10] 5)) ⟨w2.heap.size, 0, none⟩ [v1, v2, v3] [p, c, b] := by
    refine ⟨rfl, fun i v hv => ?_, fun i v l hv hl => ?_⟩
    · rw [show (⟨w2.heap.size, 0, none⟩ : Addr).add i = ⟨w2.heap.size, i, none⟩ by unfold Addr.add; split <;> simp_all, cell_of_row _ _ _ _ _ _ hr4]
      simpa using hv
    · match i, hv, hl with
      | 0, hv, hl => simp at hv hl; rw [← hv, ← hl, hv1]; exact holds_bytes (by rw [← hv1]; exact hby12.below hb4)
      | 1, hv, hl => simp at hv hl; rw [← hv, ← hl, hv2]; exact holds_bytes (by rw [← hv2]; exact hby2.below hb4)
      | 2, hv, hl => simp at hv hl; rw [← hv, ← hl, hv3]; exact holds_bytes (by rw [← hv3]; exact hbB2.below hb4)
      | i + 3, hv, _ => simp at hv
  have hS : Lib.HoldsBytes ((w2.alloc (.cells #[v1, v2, v3] 22)).alloc (.cells #[.int .u8 10] 5)) (.slice (some ⟨w2.heap.size + 1, 0, none⟩) 1 1) [10] := by
    have := bytes_new (w2.alloc (.cells #[v1, v2, v3] 22)) 10 10 rfl
    rw [show (w2.alloc (.cells #[v1, v2, v3] 22)).heap.size = w2.heap.size + 1 by simp] at this
    exact holds_bytes this
  have hj := Tryd.bytes_Join_many w2.heap.size 0 3 3 [v1, v2, v3] [p, c, b] (.slice (some ⟨w2.heap.size + 1, 0, none⟩) 1 1) [10] _ rfl (by omega) hP (Nat.le_refl _) hS (by omega) (by simp [Lib.lens]; omega)
  rw [join3] at hj
  have hb4' := hbel2.trans (hb4.mono hbel2.size)
  have hlq := oldQ_length p c b
  have hoL : oldL p c b = (nameOf (oldQ p c b)).drop 7 := rfl
  subst hv1 hv2 hv3
  have HJ := Lib.hid hj; have HB := Lib.hid hb4'; have HQ := Lib.hid hlq; have HOL := Lib.hid hoL
  clear hj hb4' hlq hoL hP hS hr4 hb3 hb4 hbel2 hbB2 hby12 hby1 hby2 hc1 hc2 hb1 hb2 hbB
  generalize oldL p c b = r at *
  generalize oldQ p c b = q at *
  go_enter Tryd.func42, Tryd.ntmps42
  go_wp2_with fail
  refine HJ.out.mono ?_
  rintro e w5 ⟨v', rfl, hf, hb5⟩
  obtain ⟨A5, c5, rfl, hc5, hby5⟩ := fresh_bytes hf
  have hb5' := HB.out.trans (hb5.mono HB.out.size)
  have hd := digOf_any q A5 c5 w5 (hL.below hb5') hc5 hby5 (by have := HQ.out; omega)
  have hs := fun w => short_any (nameOf q) w (by rw [nameOf_length]; omega)
  have HD := Lib.hid hd; have HS := Lib.hid hs; have HB5 := Lib.hid hb5'
  clear hd hs hf hb5 hb5' hby5 hc5
  generalize q.length = m at *
  go_wp2_with fail
  refine HD.out.mono ?_
  rintro e w6 ⟨rfl, hb6⟩
  have hb6' := HB5.out.trans (hb6.mono HB5.out.size)
  go_wp2_with fail
  refine (HS.out _).mono ?_
  rintro e w7 ⟨hs, hb7⟩
  have hb7' := hb6'.trans (hb7.mono hb6'.size)
  rw [ShortIs, nameOf_is, if_pos rfl, ← HOL.out] at hs
  obtain rfl := hs
  go_wp2_with fail
  go_ret
  exact ⟨rfl, hb7'⟩

/-- old ids, one behind the other -/
def parentAt (cs ps : List (List UInt8)) : Nat → List UInt8
  | 0 => []
  | k + 1 => oldL (parentAt cs ps k) (cs.getD k []) (ps.getD k [])
def lineTo (cs ps : List (List UInt8)) (k : Nat) : List (List UInt8) := (List.range k).map fun i => parentAt cs ps (i + 1)
theorem lineTo_length (cs ps : List (List UInt8)) (k : Nat) : (lineTo cs ps k).length = k := by simp [lineTo]
theorem lineTo_succ (cs ps : List (List UInt8)) (k : Nat) : lineTo cs ps (k + 1) = lineTo cs ps k ++ [parentAt cs ps (k + 1)] := by simp [lineTo, List.range_succ]
theorem lineTo_get (cs ps : List (List UInt8)) (k j : Nat) (h : j < k) : (lineTo cs ps k).getD j [] = parentAt cs ps (j + 1) := by simp [lineTo, List.getD, h]
theorem parentAt_len (cs ps : List (List UInt8)) (k : Nat) : (parentAt cs ps k).length ≤ 64 := by
  cases k with
  | zero => simp [parentAt]
  | succ k => rw [parentAt, oldL_length]; omega

set_option maxHeartbeats 2000000 in
set_option maxRecDepth 100000 in
theorem line_any (cs ps : List (List UInt8)) (A B : Option Addr) (c d n : Nat) (w : World) (hL : Laid w) (hcs : cs.length = n) (hps : ps.length = n) (hA : TextsAt w A cs) (hB : PartsAt w B ps) (hn : n ≤ 10000)
    (hlc : ∀ j, j < n → (cs.getD j []).length ≤ 1000) (hlp : ∀ j, j < n → (ps.getD j []).length ≤ 140737488351232) :
    Calls Tryd.prog 51 #[.slice A n c, .slice B n d] w fun e w' => Below w.heap.size w w' ∧ ∃ v, e = .returned (.tuple #[v, .nilIface]) ∧ w'.ownsRow w.heap.size 9 1 v n (Ss (lineTo cs ps n)) := by
  have HA := Lib.hid hA; have HB := Lib.hid hB; have HCS := Lib.hid hcs; have HPS := Lib.hid hps; have HLC := Lib.hid hlc; have HLP := Lib.hid hlp
  clear hA hB hcs hps hlc hlp
  have hne : ((n : Int) != (n : Int)) = false := by rw [bne_eq_false_iff_eq]
  go_enter Tryd.func51, Tryd.ntmps51
  go_wp2_with fail
  clear hne
  go_loopw [6, 7, 8, 9, 18] (fun o p _ _ v wr => ∃ k : Nat, k ≤ n ∧ v = .int .i64 (k : Int) ∧ p = .string (St (parentAt cs ps k)) ∧ Below w.heap.size w wr ∧ wr.ownsRow w.heap.size 9 1 o k (Ss (lineTo cs ps k))) (fun _ _ _ _ v _ => n - (intOf v).toNat)
  case atStart => exact ⟨0, by omega, rfl, rfl, Below.refl _ _, ⟨rfl, .inl ⟨rfl, rfl⟩⟩⟩
  case round =>
    obtain ⟨k, hk, rfl, rfl, hbel, hown⟩ := hrel
    by_cases hlt : k < n
    · obtain ⟨a, rfl, hca⟩ := HA.out k (by rw [HCS.out]; exact hlt)
      obtain ⟨b, rfl, A', c', hcb, hc', hby⟩ := HB.out k (by rw [HPS.out]; exact hlt)
      have ga : wr.cell? (a.add k) = some (.string (St (cs.getD k []))) := (hbel.cell (p := a.add k) (World.block_lt_of_cell? w _ hca)).trans hca
      have gb : wr.cell? (b.add k) = some (.slice A' (ps.getD k []).length c') := (hbel.cell (p := b.add k) (World.block_lt_of_cell? w _ hcb)).trans hcb
      have hpl := parentAt_len cs ps k
      have hcl := HLC.out k hlt
      have hpl2 := HLP.out k hlt
      have hwz := hbel.size
      have ho := old_big (parentAt cs ps k) (cs.getD k []) (ps.getD k []) A' c' wr (hL.below hbel) (hby.below hbel) (by omega)
      have hs1 := lineTo_succ cs ps k
      have hq : oldL (parentAt cs ps k) (cs.getD k []) (ps.getD k []) = parentAt cs ps (k + 1) := rfl
      rw [hq] at ho
      have HO := Lib.hid ho; have HS1 := Lib.hid hs1
      clear hca hcb hby ho hs1 hq hpl hcl hpl2
      generalize cs.getD k [] = ct at *
      generalize (ps.getD k []).length = pl at *
      generalize parentAt cs ps k = pt at *
      generalize hnx : parentAt cs ps (k + 1) = nx at *
      have HNX := Lib.hid hnx
      clear hnx
      go_wp2_with fail
      refine HO.out.mono ?_
      rintro e w2 ⟨rfl, hb2⟩
      have hbel2 := hbel.trans (hb2.mono hwz)
      have hown2 := owns_below hown hb2
      have hwz2 := hbel2.size
      clear ga gb hown
      go_wp2_with (refine wpList_append_texts rfl (.tmp 30) (.tmp 32) rfl w.heap.size _ k (lineTo cs ps k) rfl (hown2.alloc _) (some ⟨w2.heap.size, 0, none⟩) [nx] 1 1 rfl rfl (text_new w2 nx) (fun h => by cases h) (by omega) (by simp; omega) ?_; rintro v' w3 hown' hgrow hnil; have hb3 := (hbel2.alloc hwz2 (.cells #[.string (St nx)] 9)).grown hgrow (by simp; omega) (fun k hk => (hown2.lt k hk).1))
      go_roundw
      case rel => exact ⟨k + 1, by omega, by go_num, by rw [HNX.out], hb3, by rw [HS1.out]; exact hown'⟩
      case measure => simp [intOf]; omega
    · obtain rfl : k = n := by omega
      go_wp2_with fail
      go_ret2
      exact ⟨hbel, _, rfl, hown⟩

set_option maxHeartbeats 2000000 in
set_option maxRecDepth 100000 in
theorem line_bad (A B : Option Addr) (c d n m : Nat) (w : World) (hnm : n ≠ m) :
    Calls Tryd.prog 51 #[.slice A n c, .slice B m d] w fun e w' => Below w.heap.size w w' ∧ e = .returned (.tuple #[.slice none 0 0, .iface 54 (.int .i64 15)]) := by
  have hne : ((n : Int) != (m : Int)) = true := by rw [bne_iff_ne]; omega
  go_enter Tryd.func51, Tryd.ntmps51
  go_wp2_with fail
  go_ret2
  exact ⟨Below.refl _ _, rfl⟩
end Go.Proofs.YtbioclpobmgikaaDoor
