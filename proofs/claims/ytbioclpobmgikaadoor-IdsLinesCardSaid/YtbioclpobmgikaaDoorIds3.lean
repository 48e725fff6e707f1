/- Old ids: the walks of the program's function and the document's. -/
import Derived.Test.YtbioclpobmgikaaDoorIds2
namespace Go.Proofs.YtbioclpobmgikaaDoor
open Go.RowKit

def oldQ (p c b : List UInt8) : List UInt8 := p ++ [10] ++ c ++ [10] ++ b
def oldL (p c b : List UInt8) : List UInt8 := (nameOf (oldQ p c b)).drop 7
theorem oldL_length (p c b : List UInt8) : (oldL p c b).length = 64 := by simp [oldL, nameOf_length]
theorem oldL_name (p c b : List UInt8) : isName (nameP ++ oldL p c b) = true := by
  have : nameP ++ oldL p c b = nameOf (oldQ p c b) := by rw [oldL, nameOf]; rfl
  rw [this]
  exact nameOf_is _
theorem oldQ_length (p c b : List UInt8) : (oldQ p c b).length = p.length + c.length + b.length + 2 := by simp [oldQ]; omega
theorem add_line (a : List UInt8) (h : a.length ≤ 9223372036854775800) (w : World) : (Op.stringOp .add (St a) ⟨#[10]⟩).run Tryd.prog w = .ok (.string (St (a ++ [10]))) w :=
  add_St a [10] (by simp; omega) w

set_option maxHeartbeats 4000000 in
set_option maxRecDepth 100000 in
theorem oldRef_any (p c b : List UInt8) (w : World) (hbig : p.length + c.length + b.length ≤ 900000) :
    Calls Tryd.prog 43 #[.string (St p), .string (St c), .string (St b)] w fun e w' => e = .returned (.string (St (oldL p c b))) ∧ Below w.heap.size w w' := by
  obtain ⟨w1, cc, hcv, hb1, hby, hc⟩ := bytes_of_text (oldQ p c b) w
  have hcv := hcv 9 Tryd.underlying9
  have ha1 := add_line p (by omega)
  have ha2 := add_St (p ++ [10]) c (by simp; omega)
  have ha3 := add_line (p ++ [10] ++ c) (by simp; omega)
  have ha4 := add_St (p ++ [10] ++ c ++ [10]) b (by simp; omega)
  rw [show p ++ [10] ++ c ++ [10] ++ b = oldQ p c b from rfl] at ha4
  have hd := ref5_any _ _ cc w1 hby (fun h => by cases h) (by rw [oldQ_length]; omega)
  have hr := run_rest7 (nameOf (oldQ p c b)) (by rw [nameOf_length]; omega)
  rw [show (nameOf (oldQ p c b)).drop 7 = oldL p c b from rfl] at hr
  have HD := Lib.hid hd
  clear hd hby hc
  generalize oldL p c b = r at *
  generalize oldQ p c b = q at *
  generalize nameOf q = nq at *
  generalize p ++ [10] = s1 at *
  generalize s1 ++ c = s2 at *
  generalize s2 ++ [10] = s3 at *
  generalize q.length = n at *
  go_enter Tryd.func43, Tryd.ntmps43
  go_wp2_with fail
  refine HD.out.mono ?_
  rintro e w2 ⟨rfl, hb2⟩
  go_wp2_with fail
  go_ret
  exact ⟨rfl, hb1.trans (hb2.mono hb1.size)⟩

theorem holds_bytes {w : World} {A : Option Addr} {l : List UInt8} {c : Nat} (h : BytesAt w A l) : Lib.HoldsBytes w (.slice A l.length c) l := by
  refine ⟨A, c, rfl, fun e => ?_, fun a ha i x hx => ?_⟩
  · cases l with
    | nil => rfl
    | cons b t =>
      obtain ⟨a, ha, _⟩ := h 0 (by simp)
      rw [e] at ha
      cases ha
  · have hi := (List.getElem?_eq_some_iff.1 hx).1
    obtain ⟨a', ha', hc⟩ := h i hi
    rw [ha] at ha'
    obtain rfl := Option.some.inj ha'
    rw [hc]
    simp [at8, List.getD, hx]
theorem fresh_bytes {B : Nat} {w : World} {v : Value} {l : List UInt8} (h : Lib.FreshBytes B w v l) : ∃ A c, v = .slice A l.length c ∧ l.length ≤ c ∧ BytesAt w A l := by
  obtain ⟨g, cap, zs, rfl, _, h1, _, hz, h01, hbs, hcell, _⟩ := h
  refine ⟨some ⟨g, 0, none⟩, cap, rfl, h1, fun j hj => ⟨_, rfl, ?_⟩⟩
  rw [show (⟨g, 0, none⟩ : Addr).add j = ⟨g, j, none⟩ by unfold Addr.add; split <;> simp_all, hcell j (by omega)]
  have hjz : j < zs.length := by omega
  have e : at8 l j = UInt8.ofNat (zs[j]).toNat := by
    conv => lhs; rw [← hbs]
    simp [at8, List.getD, Lib.bytesOf, hjz, hj]
  have hb := h01 _ (List.getElem_mem hjz)
  rw [e]
  congr 2
  simp [List.getD, hjz]
  omega
theorem join3 (p c b : List UInt8) : Lib.join [p, c, b] [10] = oldQ p c b := by
  simp [Lib.join, List.intercalate, oldQ]

set_option maxHeartbeats 4000000 in
set_option maxRecDepth 100000 in
theorem old_any (p c b : List UInt8) (A : Option Addr) (cap : Nat) (w : World) (hL : Laid w) (hbB : BytesAt w A b) (hbig : p.length + c.length + b.length ≤ 70368744170000) :
    Calls Tryd.prog 42 #[.string (St p), .string (St c), .slice A b.length cap] w fun e w' => e = .returned (.string (St (oldL p c b))) ∧ Below w.heap.size w w' := by
  obtain ⟨w1, c1, hcv1, hb1, hby1, hc1⟩ := bytes_of_text p w
  obtain ⟨w2, c2, hcv2, hb2, hby2, hc2⟩ := bytes_of_text c w1
  have hcv1 := hcv1 9 Tryd.underlying9
  have hcv2 := hcv2 9 Tryd.underlying9
  have hby12 := hby1.below hb2
  have hbB2 := (hbB.below hb1).below hb2
  have hbel2 := hb1.trans (hb2.mono hb1.size)
  obtain ⟨v1, hv1⟩ : ∃ v1, v1 = Value.slice (some ⟨w.heap.size, 0, none⟩) p.length c1 := ⟨_, rfl⟩
  obtain ⟨v2, hv2⟩ : ∃ v2, v2 = Value.slice (some ⟨w1.heap.size, 0, none⟩) c.length c2 := ⟨_, rfl⟩
  obtain ⟨v3, hv3⟩ : ∃ v3, v3 = Value.slice A b.length cap := ⟨_, rfl⟩
  have hb3 : Below w2.heap.size w2 (w2.alloc (.cells #[v1, v2, v3] 22)) := (Below.refl _ _).alloc (Nat.le_refl _) _
  have hb4 : Below w2.heap.size w2 ((w2.alloc (.cells #[v1, v2, v3] 22)).alloc (.cells #[.int .u8 10] 5)) := hb3.alloc (by simp) _
  have hr4 : ((w2.alloc (.cells #[v1, v2, v3] 22)).alloc (.cells #[.int .u8 10] 5)).heap[w2.heap.size]? = some (.cells #[v1, v2, v3] 22) := heap_alloc2_old w2 _ _
  have hP : Lib.PartsAt ((w2.alloc (.cells #[v1, v2, v3] 22)).alloc (.cells #[.int .u8 10] 5)) ⟨w2.heap.size, 0, none⟩ [v1, v2, v3] [p, c, b] := by
    refine ⟨rfl, fun i v hv => ?_, fun i v l hv hl => ?_⟩
    · rw [show (⟨w2.heap.size, 0, none⟩ : Addr).add i = ⟨w2.heap.size, i, none⟩ by unfold Addr.add; split <;> simp_all, cell_of_row _ _ _ _ _ _ hr4]
      simpa using hv
    · match i, hv, hl with
      | 0, hv, hl => simp at hv hl; rw [← hv, ← hl, hv1]; exact holds_bytes (by rw [← hv1]; exact hby12.below hb4)
      | 1, hv, hl => simp at hv hl; rw [← hv, ← hl, hv2]; exact holds_bytes (by rw [← hv2]; exact hby2.below hb4)
      | 2, hv, hl => simp at hv hl; rw [← hv, ← hl, hv3]; exact holds_bytes (by rw [← hv3]; exact hbB2.below hb4)
      | i + 3, hv, _ => simp at hv
  have hS : Lib.HoldsBytes ((w2.alloc (.cells #[v1, v2, v3] 22)).alloc (.cells #[.int .u8 10] 5)) (.slice (some ⟨w2.heap.size + 1, 0, none⟩) 1 1) [10] := by
    have := bytes_new (w2.alloc (.cells #[v1, v2, v3] 22)) 10 10 rfl
    rw [show (w2.alloc (.cells #[v1, v2, v3] 22)).heap.size = w2.heap.size + 1 by simp] at this
    exact holds_bytes this
  have hj := Tryd.bytes_Join_many w2.heap.size 0 3 3 [v1, v2, v3] [p, c, b] (.slice (some ⟨w2.heap.size + 1, 0, none⟩) 1 1) [10] _ rfl (by omega) hP (Nat.le_refl _) hS (by omega) (by simp [Lib.lens]; omega)
  rw [join3] at hj
  have hb4' := hbel2.trans (hb4.mono hbel2.size)
  have hlq := oldQ_length p c b
  have hoL : oldL p c b = (nameOf (oldQ p c b)).drop 7 := rfl
  subst hv1 hv2 hv3
  have HJ := Lib.hid hj; have HB := Lib.hid hb4'; have HQ := Lib.hid hlq; have HOL := Lib.hid hoL
  clear hj hb4' hlq hoL hP hS hr4 hb3 hb4 hbel2 hbB2 hby12 hby1 hby2 hc1 hc2 hb1 hb2 hbB
  generalize oldL p c b = r at *
  generalize oldQ p c b = q at *
  go_enter Tryd.func42, Tryd.ntmps42
  go_wp2_with fail
  refine HJ.out.mono ?_
  rintro e w5 ⟨v', rfl, hf, hb5⟩
  obtain ⟨A5, c5, rfl, hc5, hby5⟩ := fresh_bytes hf
  have hb5' := HB.out.trans (hb5.mono HB.out.size)
  have hd := digOf_any q A5 c5 w5 (hL.below hb5') hc5 hby5 (by have := HQ.out; omega)
  have hs := fun w => short_any (nameOf q) w (by rw [nameOf_length]; omega)
  have HD := Lib.hid hd; have HS := Lib.hid hs; have HB5 := Lib.hid hb5'
  clear hd hs hf hb5 hb5' hby5 hc5
  generalize q.length = m at *
  go_wp2_with fail
  refine HD.out.mono ?_
  rintro e w6 ⟨rfl, hb6⟩
  have hb6' := HB5.out.trans (hb6.mono HB5.out.size)
  go_wp2_with fail
  refine (HS.out _).mono ?_
  rintro e w7 ⟨hs, hb7⟩
  have hb7' := hb6'.trans (hb7.mono hb6'.size)
  rw [ShortIs, nameOf_is, if_pos rfl, ← HOL.out] at hs
  obtain rfl := hs
  go_wp2_with fail
  go_ret
  exact ⟨rfl, hb7'⟩
end Go.Proofs.YtbioclpobmgikaaDoor
