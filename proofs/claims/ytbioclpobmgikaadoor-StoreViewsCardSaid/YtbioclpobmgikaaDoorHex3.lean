/- The bytes of a hexadecimal text: the program's walk. -/
import Derived.Test.YtbioclpobmgikaaDoorHex2
import Derived.Laws.Strings3
namespace Go.Proofs.YtbioclpobmgikaaDoor
open Go.RowKit

theorem idx_q (c : UInt8) (w : World) (n : Nat) :
    Calls Tryd.prog 110 #[.string ⟨#[48, 49, 50, 51, 52, 53, 54, 55, 56, 57, 97, 98, 99, 100, 101, 102]⟩, .int .u8 (c.toNat : Int)] (w.drewN n) fun e w' => e = .returned (.int .i64 ((hv c).elim (-1) fun n => (n : Int))) ∧ ∃ m, w' = w.drewN m := by
  refine (Tryd.strings_IndexByte _ _ _).mono ?_
  rintro e w' ⟨rfl, rfl⟩
  refine ⟨?_, n, rfl⟩
  have e1 : (c.toNat : Int).toNat.toUInt8 = c := by simp
  rw [e1, show (⟨#[48, 49, 50, 51, 52, 53, 54, 55, 56, 57, 97, 98, 99, 100, 101, 102]⟩ : ByteArray).data.toList = figs from rfl, idx_fig]
/-- the text behind its first two signs -/
theorem run_rest2 (a b : UInt8) (t : List UInt8) (w : World) : (Instr.slice 9 (.string (St (a :: b :: t))) (some (.int .i64 2)) none none).run Tryd.prog w = .ok (.string (St t)) w := by
  rw [run_slice_string_from_if w 9 _ _ _ Tryd.underlying9]
  rw [if_pos (by simp [St_size]; omega)]
  congr 2
  apply ByteArray.ext
  have hs : (St (a :: b :: t)).size = t.length + 2 := rfl
  rw [hs]
  simp [St]
theorem run_sign0 (a b : UInt8) (t : List UInt8) (w : World) : (Instr.index 9 (.string (St (a :: b :: t))) (.int .i64 0)).run Tryd.prog w = .ok (.int .u8 (a.toNat : Int)) w := by
  rw [run_index_string w 9 _ _ _ Tryd.underlying9, dif_pos (by simp [St_size]; omega)]
  rfl
theorem run_sign1 (a b : UInt8) (t : List UInt8) (w : World) : (Instr.index 9 (.string (St (a :: b :: t))) (.int .i64 1)).run Tryd.prog w = .ok (.int .u8 (b.toNat : Int)) w := by
  rw [run_index_string w 9 _ _ _ Tryd.underlying9, dif_pos (by simp [St_size]; omega)]
  rfl
theorem St_toList (l : List UInt8) : (St l).toList = l := ByteArray.toList_mk l
def strLen : Value → Nat | .string s => s.size | _ => 0

theorem fig_byte (x y : Nat) (hx : x < 16) (hy : y < 16) : bits .or .i64 ((x : Int) * 16) (y : Int) % 256 = ((UInt8.ofNat (16 * x + y)).toNat : Int) := by
  have : ∀ x y : Fin 16, bits .or .i64 ((x.val : Int) * 16) (y.val : Int) % 256 = ((UInt8.ofNat (16 * x.val + y.val)).toNat : Int) := by decide +kernel
  exact this ⟨x, hx⟩ ⟨y, hy⟩
/-- what Unhex answers -/
def UnhexAt (w w' : World) (f : List UInt8) (e : Ending) : Prop :=
  Below w.heap.size w w' ∧ match unhexL f with
  | none => e = .returned (.tuple #[.slice none 0 0, .iface 54 (.int .i64 2)])
  | some b => ∃ A c, e = .returned (.tuple #[.slice A b.length c, .nilIface]) ∧ b.length ≤ c ∧ (A = none → c = 0) ∧ BytesAt w' A b

set_option maxHeartbeats 4000000 in
set_option maxRecDepth 100000 in
theorem unhex_any (f : List UInt8) (w : World) (hbig : f.length ≤ 70368744177664) :
    Calls Tryd.prog 83 #[.string (St f)] w fun e w' => UnhexAt w w' f e := by
  have hsz : (St f).size = f.length := rfl
  have htl := St_toList
  by_cases hpar : f.length % 2 = 0
  · have hp : ((f.length : Int) % 2 != 0) = false := by rw [bne_eq_false_iff_eq]; omega
    go_enter Tryd.func83, Tryd.ntmps83
    go_wp2_with fail
    clear hp
    go_loopw [0, 4, 5, 6] (fun v o _ _ wr => ∃ s r : List UInt8, v = .string (St s) ∧ s.length % 2 = 0 ∧ s.length + 2 * r.length = f.length ∧ unhexL f = (unhexL s).map (r ++ ·) ∧ Below w.heap.size w wr ∧ wr.ownsRow w.heap.size 5 1 o r.length (Bs r)) (fun v _ _ _ _ => strLen v)
    case atStart => exact ⟨f, [], rfl, hpar, rfl, by simp, Below.refl _ _, ⟨rfl, .inl ⟨rfl, rfl⟩⟩⟩
    case round =>
      obtain ⟨s, r, rfl, hs2, hsr, hu, hbel, hown⟩ := hrel
      have HU := Lib.hid hu
      clear hu
      match s, hs2, hsr, HU with
      | [], _, hsr, HU =>
        have HR := Lib.hid hsr
        clear hsr
        go_wp2_with fail
        go_ret2
        refine ⟨hbel, ?_⟩
        rw [HU.out]
        simp only [unhexL, Option.map_some, List.append_nil]
        rcases hown.2 with ⟨rfl, h0⟩ | ⟨g, cap, cur, rfl, _, _, h4, _⟩
        · exact ⟨none, 0, by rw [h0]; rfl, by omega, fun _ => rfl, fun j hj => by omega⟩
        · exact ⟨_, cap, rfl, h4, fun h => (by cases h), fun j hj => ⟨_, rfl, hown.cells (g := g) rfl j _ (Bs_get _ _ hj)⟩⟩
      | [a], hs2, _, _ => simp at hs2
      | a :: b :: t, hs2, hsr, HU =>
        have hi0 := run_sign0 a b t
        have hi1 := run_sign1 a b t
        have hsl := run_rest2 a b t
        have hup := unhexL_pair a b t
        have HR := Lib.hid hsr; have HS2 := Lib.hid hs2; have HUP := Lib.hid hup
        clear hsr hs2 hup
        go_wp2_with fail
        go_quiet ((go_at_call 110; exact idx_q _ _ _))
        have hbel := below_drewN hbel nq
        have hown : (wr.drewN nq).ownsRow w.heap.size 5 1 u4 r.length (Bs r) := hown
        generalize wr.drewN nq = w2 at *
        rw [HUP.out] at HU
        cases ha : hv a with
        | none =>
          rw [ha] at HU
          simp only [Option.elim_none]
          go_wp2_with fail
          go_ret2
          refine ⟨hbel, ?_⟩
          rw [HU.out]
          rfl
        | some x =>
          have hx := hv_lt a x ha
          have hx0 : decide ((x : Int) < 0) = false := decide_eq_false (by omega)
          rw [ha] at HU
          cases hb : hv b with
          | none =>
            rw [hb] at HU
            simp only [Option.elim_none, Option.elim_some]
            go_wp2_with fail
            go_ret2
            refine ⟨hbel, ?_⟩
            rw [HU.out]
            rfl
          | some y =>
            have hy := hv_lt b y hb
            have hy0 : decide ((y : Int) < 0) = false := decide_eq_false (by omega)
            rw [hb] at HU
            simp only [Option.elim_some]
            have hbs := hbel.size
            go_wp2_with (refine wpList_append_bytes rfl (.tmp 29) (.tmp 35) rfl w.heap.size _ r rfl (hown.alloc _) (some ⟨w2.heap.size, 0, none⟩) [UInt8.ofNat (16 * x + y)] 1 rfl (bytes_new _ _ _ (fig_byte x y hx hy)) (fun h => by cases h) (by have := HR.out; simp at this ⊢; omega) (by simp; omega) ?_; rintro v' w3 hown' hgrow hnil)
            clear hi0 hi1 hsl hx0 hy0
            go_roundw
            case rel =>
              refine ⟨t, r ++ [UInt8.ofNat (16 * x + y)], rfl, by have := HS2.out; simp at this ⊢; omega, by have := HR.out; simp at this ⊢; omega, ?_, ?_, ?_⟩
              · rw [HU.out]
                simp only [Option.bind_some]
                cases unhexL t <;> simp
              · exact (hbel.alloc hbs _).grown hgrow (by simp; omega) (fun k hk => (hown.lt k hk).1)
              · simpa [Bs] using hown'
            case measure => simp only [strLen, St_size, List.length_cons]; omega
  · have hp : ((f.length : Int) % 2 != 0) = true := by rw [bne_iff_ne]; omega
    have hn : unhexL f = none := by
      have := unhexL_iff f
      rw [beq_eq_false_iff_ne.2 hpar, Bool.false_and] at this
      simpa using this
    have HN := Lib.hid hn
    clear hn
    go_enter Tryd.func83, Tryd.ntmps83
    go_wp2_with fail
    go_ret2
    refine ⟨Below.refl _ _, ?_⟩
    rw [HN.out]
    rfl
end Go.Proofs.YtbioclpobmgikaaDoor
