/- Hexadecimal: the walks of both functions of the program, and of the document's. -/
import Derived.Test.YtbioclpobmgikaaC1
import Derived.Test.YtbioclpobmgikaaShelf
import Derived.Laws.Strings3
import Derived.Lib.VarintBits
import Derived.WalkSmall
namespace Go.Proofs.Ytbioclpobmgikaa
open Go.RowKit


theorem size40 : (Try.prog.info? 40).map (·.size) = some 2 := by kernel_rfl
theorem lies40 : liesAt Try.prog Try.prog.depth 40 (2 / Try.prog.cellsOf 40) 0 40 1 = true := by kernel_rfl

set_option maxHeartbeats 1000000 in
set_option maxRecDepth 100000 in
theorem copied_used (b : Nat) (w : World) (h0 : w.cell? ⟨b, 0, none⟩ = some (.pointer (some ⟨b, 0, none⟩))) :
    Calls Try.prog 29 #[.pointer (some ⟨b, 0, none⟩)] w fun e w' => e = .returned (.tuple #[]) ∧ w = w' := by
  obtain ⟨j, hj, _⟩ := Option.map_eq_some_iff.1 size40
  go_enter Try.func29, Try.ntmps29
  go_wp2
  rw [Lib.run_neq_ptr_same w _ Try.underlying38 hj]
  go_wp2
  go_end0
  exact ⟨rfl, rfl⟩
set_option maxHeartbeats 1000000 in
set_option maxRecDepth 100000 in
theorem copied_fresh (b : Nat) (w : World) (h0 : w.cell? ⟨b, 0, none⟩ = some (.pointer none)) (hsh : w.shape? b = some (40, 2)) (hfz : w.frozen? ⟨b, 0, none⟩ = false) :
    Calls Try.prog 29 #[.pointer (some ⟨b, 0, none⟩)] w fun e w' => e = .returned (.tuple #[]) ∧ w' = w.setCell ⟨b, 0, none⟩ (.pointer (some ⟨b, 0, none⟩)) := by
  obtain ⟨j, hj, hjs⟩ := Option.map_eq_some_iff.1 size40
  go_enter Try.func29, Try.ntmps29
  go_wp2
  rw [Lib.run_to_unsafe w ⟨b, 0, none⟩ Try.underlying38 Try.underlying62 hj (by rw [hjs]; decide) hsh (Nat.zero_lt_succ 1)]
  simp only [Result.andThen]
  rw [Oper.upon_value]
  go_wp2
  rw [run_callFunc_extern Try.func38 (by kernel_rfl) (by kernel_rfl) (by kernel_rfl) (e := Extern.AbiNoEscape.same) (by kernel_rfl)]
  rw [Lib.run_noEscape]
  simp only [Result.andThen]
  rw [Oper.upon_value]
  go_wp2
  rw [Lib.run_from_unsafe w ⟨b, 0, none⟩ Try.underlying62 Try.underlying38 hj hsh lies40]
  simp only [Result.andThen]
  rw [Oper.upon_value]
  go_wp2
  go_end0
  exact ⟨rfl, rfl⟩
theorem copied (B b : Nat) (bs : List Value) (w : World) (h : Lib.IsBuilder 40 5 B b bs w) :
    Calls Try.prog 29 #[.pointer (some ⟨b, 0, none⟩)] w fun e w' => e = .returned (.tuple #[]) ∧ Lib.BuilderAt 40 5 B b (.pointer (some ⟨b, 0, none⟩)) bs w' ∧ Below B w w' := by
  rcases h with h | h
  · refine (copied_fresh b w h.cell0 h.shape h.frozen0).mono ?_
    rintro e w' ⟨rfl, rfl⟩
    exact ⟨rfl, h.used _, (Below.refl B w).setCell (p := ⟨b, 0, none⟩) h.1 _⟩
  · refine (copied_used b w h.cell0).mono ?_
    rintro e w' ⟨rfl, rfl⟩
    exact ⟨rfl, h, Below.refl B _⟩

/-- a builder of this call's holds these bytes -/
structure Blt (w wr : World) (b : Nat) (t : List UInt8) : Prop where
  is : Lib.IsBuilder 40 5 w.heap.size b (Bs t) wr
  below : Below w.heap.size w wr

set_option maxHeartbeats 2000000 in
set_option maxRecDepth 100000 in
theorem putByte (w wr : World) (b : Nat) (t : List UInt8) (x : UInt8) (h : Blt w wr b t) (hlen : t.length + 1 ≤ 140737488355328) :
    Calls Try.prog 20 #[.pointer (some ⟨b, 0, none⟩), .int .u8 (x.toNat : Int)] wr fun e w' => e = .returned .nilIface ∧ Blt w w' b (t ++ [x]) := by
  have hbel := h.below
  go_enter Try.func20, Try.ntmps20
  go_wp2_with (go_at_call 29; refine (copied _ b _ _ h.is).mono ?_)
  rintro e w1 ⟨rfl, h1, hb1⟩
  have hs1 := hbel.trans hb1
  obtain ⟨hB, v, hbk, hown, hne⟩ := h1
  rw [Bs_length] at hown
  have c0 : w1.cell? ⟨b, 0, none⟩ = some (.pointer (some ⟨b, 0, none⟩)) := by rw [Lib.cell_of_heap hbk]; rfl
  have c1 : w1.cell? ⟨b, 1, none⟩ = some v := by rw [Lib.cell_of_heap hbk]; rfl
  have HB := Lib.hid hbk
  clear hbk
  have hlt : b < w1.heap.size := (Array.getElem?_eq_some_iff.1 HB.out).1
  go_wp2_with (refine wpList_append_bytes rfl (.tmp 11) (.tmp 13) rfl w.heap.size _ t rfl (hown.alloc _) (some ⟨w1.heap.size, 0, none⟩) [x] 1 rfl (bytes_new _ _ _ rfl) (fun h => by cases h) (by simp; omega) (by have := hs1.size; simp; omega) ?_; rintro v' w2 hown' hgrow hnil; obtain ⟨g, cap, rfl⟩ : ∃ g cap, v' = Value.slice (some ⟨g, 0, none⟩) (t.length + 1) cap := (by
    rcases hown'.2 with ⟨_, h0⟩ | ⟨g, cap, cur, hv, _⟩
    · simp at h0
    · exact ⟨g, cap, hv⟩); have hb2 : w2.heap[b]? = some (.cells #[.pointer (some ⟨b, 0, none⟩), v] 40 (0, 0)) := (by
    rw [hgrow.block b (by simp; omega) (fun e => hne e.symm), Lib.alloc_old w1 _ b hlt]
    exact HB.out); have d0 : w2.cell? ⟨b, 0, none⟩ = some (.pointer (some ⟨b, 0, none⟩)) := (by rw [Lib.cell_of_heap hb2]; rfl); have d1 : w2.cell? ⟨b, 1, none⟩ = some v := (by rw [Lib.cell_of_heap hb2]; rfl); have f1 : w2.frozen? ⟨b, 1, none⟩ = false := Lib.frozen_of_heap hb2 1; have H2 := Lib.hid hb2; clear hb2)
  go_ret
  refine ⟨rfl, .inr ?_, ?_⟩
  · exact Lib.BuilderAt.put (T := 40) (e := 5) hB H2.out (bs' := Bs (t ++ [x])) (by simpa [Bs] using hown') (by decide)
  · exact ((hs1.alloc hs1.size _).grown hgrow (by have := hs1.size; simp; omega) (fun k hk => (hown.lt k hk).1)).setCell (p := ⟨b, 1, none⟩) hB _

theorem run_fig (n : Nat) (h : n < 16) (v : Int) (hv : v = (n : Int)) (w : World) :
    (Instr.index 9 (.string ⟨#[48, 49, 50, 51, 52, 53, 54, 55, 56, 57, 97, 98, 99, 100, 101, 102]⟩) (.int .u8 v)).run Try.prog w = .ok (.int .u8 ((hx n).toNat : Int)) w := by
  subst hv
  rw [run_index_string w 9 _ _ _ Try.underlying9]
  have hs : (⟨#[48, 49, 50, 51, 52, 53, 54, 55, 56, 57, 97, 98, 99, 100, 101, 102]⟩ : ByteArray).size = 16 := rfl
  rw [dif_pos (by rw [hs]; omega)]
  have hf := fig_hx n h
  congr 3
  have : (⟨#[48, 49, 50, 51, 52, 53, 54, 55, 56, 57, 97, 98, 99, 100, 101, 102]⟩ : ByteArray) = ⟨figs.toArray⟩ := rfl
  simp only [this, ByteArray.getElem_eq_getElem_data, List.getElem_toArray, Int.toNat_natCast]
  rw [List.getElem?_eq_some_iff] at hf
  rw [hf.2]
theorem u8_low (x : Nat) (h : x < 256) : bits .and .u8 (x : Int) 15 = (x : Int) % 16 := bits_mask .u8 8 (by decide) wraps_u8 4 (by decide) x (by omega) (by omega)

theorem Blt.start (w : World) : Blt w (w.alloc (.cells #[.pointer none, .slice none 0 0] 40)) w.heap.size [] :=
  ⟨.inl ⟨Nat.le_refl _, .slice none 0 0, heap_alloc_new w _, ⟨rfl, .inl ⟨rfl, rfl⟩⟩, by simp [Value.ownBlock]⟩, (Below.refl _ _).alloc (Nat.le_refl _) _⟩

set_option maxHeartbeats 2000000 in
set_option maxRecDepth 100000 in
theorem hex_any (l : List UInt8) (A : Option Addr) (c : Nat) (w : World) (hby : BytesAt w A l) (hbig : l.length ≤ 70368744177664) :
    Calls Try.prog 8 #[.slice A l.length c] w fun e w' => e = .returned (.string (St (hexL l))) ∧ Below w.heap.size w w' := by
  have HBY := Lib.hid hby
  clear hby
  have hst := Blt.start w
  go_enter Try.func8, Try.ntmps8
  go_wp2_with fail
  go_loopw [5, 8] (fun _ v wr => ∃ k : Nat, k ≤ l.length ∧ v = .int .i64 (k : Int) ∧ Blt w wr w.heap.size (hexL (l.take k))) (fun _ v _ => l.length - (intOf v).toNat)
  case atStart => exact ⟨0, by omega, rfl, hst⟩
  case round =>
    clear hst
    obtain ⟨k, hk, rfl, hB⟩ := hrel
    by_cases hlt : k < l.length
    · have hsn := hexL_snoc l k hlt
      have hln : (hexL (l.take k)).length = 2 * k := by rw [hexL_length]; simp; omega
      have HSN := Lib.hid hsn
      clear hsn
      obtain ⟨a, rfl, hc⟩ := HBY.out k hlt
      have gc : wr.cell? (a.add k) = some (.int .u8 ((at8 l k).toNat : Int)) := (hB.below.cell (p := a.add k) (World.block_lt_of_cell? w _ hc)).trans hc
      have hx8 := (at8 l k).toNat_lt
      clear hc
      generalize at8 l k = x at *
      generalize hexL (l.take k) = t at *
      have hi1 := run_fig (x.toNat / 16) (by omega) ((x.toNat : Int) / 16) (by omega)
      have hi2 := run_fig (x.toNat % 16) (by omega) ((x.toNat : Int) % 16) (by omega)
      have hlow := u8_low x.toNat hx8
      generalize l.length = n at *
      go_wp2_with fail
      refine (putByte w wr w.heap.size t _ hB (by omega)).mono ?_
      rintro e w1 ⟨rfl, hB1⟩
      clear gc
      go_wp2_with fail
      refine (putByte w w1 w.heap.size _ _ hB1 (by simp; omega)).mono ?_
      rintro e w2 ⟨rfl, hB2⟩
      go_wp2_with fail
      go_roundw
      case rel => exact ⟨k + 1, by omega, by go_num, by rw [HSN.out]; simpa using hB2⟩
      case measure => simp [intOf]; omega
    · obtain rfl : k = l.length := by omega
      rw [List.take_length] at hB
      clear hlt hk
      generalize l.length = n at *
      have hsz := hB.below.size
      go_wp2_with fail
      refine (Try.Builder_String_any _ _ (hexL l) _ hB.is hsz).mono ?_
      rintro e w2 ⟨rfl, hb2⟩
      have hb3 := hB.below.trans hb2
      go_wp2_with fail
      go_ret
      exact ⟨rfl, hb3⟩

theorem idx_q (c : UInt8) (w : World) (n : Nat) :
    Calls Try.prog 25 #[.string ⟨#[48, 49, 50, 51, 52, 53, 54, 55, 56, 57, 97, 98, 99, 100, 101, 102]⟩, .int .u8 (c.toNat : Int)] (w.drewN n) fun e w' => e = .returned (.int .i64 ((hv c).elim (-1) fun n => (n : Int))) ∧ ∃ m, w' = w.drewN m := by
  refine (Try.strings_IndexByte _ _ _).mono ?_
  rintro e w' ⟨rfl, rfl⟩
  refine ⟨?_, n, rfl⟩
  have e1 : (c.toNat : Int).toNat.toUInt8 = c := by simp
  rw [e1, show (⟨#[48, 49, 50, 51, 52, 53, 54, 55, 56, 57, 97, 98, 99, 100, 101, 102]⟩ : ByteArray).data.toList = figs from rfl, idx_fig]
/-- the text behind its first two signs -/
theorem run_rest2 (a b : UInt8) (t : List UInt8) (w : World) : (Instr.slice 9 (.string (St (a :: b :: t))) (some (.int .i64 2)) none none).run Try.prog w = .ok (.string (St t)) w := by
  rw [run_slice_string_from_if w 9 _ _ _ Try.underlying9]
  rw [if_pos (by simp [St_size]; omega)]
  congr 2
  apply ByteArray.ext
  have hs : (St (a :: b :: t)).size = t.length + 2 := rfl
  rw [hs]
  simp [St]
theorem run_sign0 (a b : UInt8) (t : List UInt8) (w : World) : (Instr.index 9 (.string (St (a :: b :: t))) (.int .i64 0)).run Try.prog w = .ok (.int .u8 (a.toNat : Int)) w := by
  rw [run_index_string w 9 _ _ _ Try.underlying9, dif_pos (by simp [St_size]; omega)]
  rfl
theorem run_sign1 (a b : UInt8) (t : List UInt8) (w : World) : (Instr.index 9 (.string (St (a :: b :: t))) (.int .i64 1)).run Try.prog w = .ok (.int .u8 (b.toNat : Int)) w := by
  rw [run_index_string w 9 _ _ _ Try.underlying9, dif_pos (by simp [St_size]; omega)]
  rfl
theorem St_toList (l : List UInt8) : (St l).toList = l := ByteArray.toList_mk l
def strLen : Value → Nat | .string s => s.size | _ => 0

theorem fig_byte (x y : Nat) (hx : x < 16) (hy : y < 16) : bits .or .i64 ((x : Int) * 16) (y : Int) % 256 = ((UInt8.ofNat (16 * x + y)).toNat : Int) := by
  have : ∀ x y : Fin 16, bits .or .i64 ((x.val : Int) * 16) (y.val : Int) % 256 = ((UInt8.ofNat (16 * x.val + y.val)).toNat : Int) := by decide +kernel
  exact this ⟨x, hx⟩ ⟨y, hy⟩
/-- what Unhex answers -/
def UnhexAt (w w' : World) (f : List UInt8) (e : Ending) : Prop :=
  Below w.heap.size w w' ∧ match unhexL f with
  | none => e = .returned (.tuple #[.slice none 0 0, .iface 48 (.int .i64 2)])
  | some b => ∃ A c, e = .returned (.tuple #[.slice A b.length c, .nilIface]) ∧ b.length ≤ c ∧ (A = none → c = 0) ∧ BytesAt w' A b

set_option maxHeartbeats 4000000 in
set_option maxRecDepth 100000 in
theorem unhex_any (f : List UInt8) (w : World) (hbig : f.length ≤ 70368744177664) :
    Calls Try.prog 13 #[.string (St f)] w fun e w' => UnhexAt w w' f e := by
  have hsz : (St f).size = f.length := rfl
  have htl := St_toList
  by_cases hpar : f.length % 2 = 0
  · have hp : ((f.length : Int) % 2 != 0) = false := by rw [bne_eq_false_iff_eq]; omega
    go_enter Try.func13, Try.ntmps13
    go_wp2_with fail
    clear hp
    go_loopw [0, 4, 5, 6] (fun v o _ _ wr => ∃ s r : List UInt8, v = .string (St s) ∧ s.length % 2 = 0 ∧ s.length + 2 * r.length = f.length ∧ unhexL f = (unhexL s).map (r ++ ·) ∧ Below w.heap.size w wr ∧ wr.ownsRow w.heap.size 5 1 o r.length (Bs r)) (fun v _ _ _ _ => strLen v)
    case atStart => exact ⟨f, [], rfl, hpar, rfl, by simp, Below.refl _ _, ⟨rfl, .inl ⟨rfl, rfl⟩⟩⟩
    case round =>
      obtain ⟨s, r, rfl, hs2, hsr, hu, hbel, hown⟩ := hrel
      have HU := Lib.hid hu
      clear hu
      match s, hs2, hsr, HU with
      | [], _, hsr, HU =>
        have HR := Lib.hid hsr
        clear hsr
        go_wp2_with fail
        go_ret2
        refine ⟨hbel, ?_⟩
        rw [HU.out]
        simp only [unhexL, Option.map_some, List.append_nil]
        rcases hown.2 with ⟨rfl, h0⟩ | ⟨g, cap, cur, rfl, _, _, h4, _⟩
        · exact ⟨none, 0, by rw [h0]; rfl, by omega, fun _ => rfl, fun j hj => by omega⟩
        · exact ⟨_, cap, rfl, h4, fun h => (by cases h), fun j hj => ⟨_, rfl, hown.cells (g := g) rfl j _ (Bs_get _ _ hj)⟩⟩
      | [a], hs2, _, _ => simp at hs2
      | a :: b :: t, hs2, hsr, HU =>
        have hi0 := run_sign0 a b t
        have hi1 := run_sign1 a b t
        have hsl := run_rest2 a b t
        have hup := unhexL_pair a b t
        have HR := Lib.hid hsr; have HS2 := Lib.hid hs2; have HUP := Lib.hid hup
        clear hsr hs2 hup
        go_wp2_with fail
        go_quiet ((go_at_call 25; exact idx_q _ _ _))
        have hbel := below_drewN hbel nq
        have hown : (wr.drewN nq).ownsRow w.heap.size 5 1 u4 r.length (Bs r) := hown
        generalize wr.drewN nq = w2 at *
        rw [HUP.out] at HU
        cases ha : hv a with
        | none =>
          rw [ha] at HU
          simp only [Option.elim_none]
          go_wp2_with fail
          go_ret2
          refine ⟨hbel, ?_⟩
          rw [HU.out]
          rfl
        | some x =>
          have hx := hv_lt a x ha
          have hx0 : decide ((x : Int) < 0) = false := decide_eq_false (by omega)
          rw [ha] at HU
          cases hb : hv b with
          | none =>
            rw [hb] at HU
            simp only [Option.elim_none, Option.elim_some]
            go_wp2_with fail
            go_ret2
            refine ⟨hbel, ?_⟩
            rw [HU.out]
            rfl
          | some y =>
            have hy := hv_lt b y hb
            have hy0 : decide ((y : Int) < 0) = false := decide_eq_false (by omega)
            rw [hb] at HU
            simp only [Option.elim_some]
            have hbs := hbel.size
            go_wp2_with (refine wpList_append_bytes rfl (.tmp 29) (.tmp 35) rfl w.heap.size _ r rfl (hown.alloc _) (some ⟨w2.heap.size, 0, none⟩) [UInt8.ofNat (16 * x + y)] 1 rfl (bytes_new _ _ _ (fig_byte x y hx hy)) (fun h => by cases h) (by have := HR.out; simp at this ⊢; omega) (by simp; omega) ?_; rintro v' w3 hown' hgrow hnil)
            clear hi0 hi1 hsl hx0 hy0
            go_roundw
            case rel =>
              refine ⟨t, r ++ [UInt8.ofNat (16 * x + y)], rfl, by have := HS2.out; simp at this ⊢; omega, by have := HR.out; simp at this ⊢; omega, ?_, ?_, ?_⟩
              · rw [HU.out]
                simp only [Option.bind_some]
                cases unhexL t <;> simp
              · exact (hbel.alloc hbs _).grown hgrow (by simp; omega) (fun k hk => (hown.lt k hk).1)
              · simpa [Bs] using hown'
            case measure => simp only [strLen, St_size, List.length_cons]; omega
  · have hp : ((f.length : Int) % 2 != 0) = true := by rw [bne_iff_ne]; omega
    have hn : unhexL f = none := by
      have := unhexL_iff f
      rw [beq_eq_false_iff_ne.2 hpar, Bool.false_and] at this
      simpa using this
    have HN := Lib.hid hn
    clear hn
    go_enter Try.func13, Try.ntmps13
    go_wp2_with fail
    go_ret2
    refine ⟨Below.refl _ _, ?_⟩
    rw [HN.out]
    rfl



theorem hx_low (v : Nat) (h : v < 16) (h2 : v < 10) : (48 : Int) + (v : Int) = ((hx v).toNat : Int) := by
  have : ∀ v : Fin 16, v.val < 10 → (48 : Int) + (v.val : Int) = ((hx v.val).toNat : Int) := by decide +kernel
  exact this ⟨v, h⟩ h2
theorem hx_high (v : Nat) (h : v < 16) (h2 : ¬ v < 10) : (97 : Int) + (v : Int) - 10 = ((hx v).toNat : Int) := by
  have : ∀ v : Fin 16, ¬ v.val < 10 → (97 : Int) + (v.val : Int) - 10 = ((hx v.val).toNat : Int) := by decide +kernel
  exact this ⟨v, h⟩ h2

set_option maxHeartbeats 4000000 in
set_option maxRecDepth 100000 in
theorem hexr_any (l : List UInt8) (A : Option Addr) (c : Nat) (w : World) (hby : BytesAt w A l) (hbig : l.length ≤ 70368744170000) :
    Calls Try.prog 9 #[.slice A l.length c] w fun e w' => e = .returned (.string (St (hexL l))) ∧ Below w.heap.size w w' := by
  have HBY := Lib.hid hby
  clear hby
  have hO : (w.alloc (.cells #[] 5)).ownsRow w.heap.size 5 1 (.slice (some ⟨w.heap.size, 0, none⟩) 0 0) 0 (Bs []) := World.ownsRow_made w #[] 0 (Nat.le_refl _) (by unfold maxLen; omega) rfl
  have hb0 : Below w.heap.size w (w.alloc (.cells #[] 5)) := (Below.refl _ _).alloc (Nat.le_refl _) _
  go_enter Try.func9, Try.ntmps9
  go_wp2_with fail
  go_loopw [3, 4, 6] (fun o v _ wr => ∃ k : Nat, k ≤ l.length ∧ v = .int .i64 (k : Int) ∧ Below w.heap.size w wr ∧ wr.ownsRow w.heap.size 5 1 o (2 * k) (Bs (hexL (l.take k)))) (fun _ v _ _ => l.length - (intOf v).toNat)
  case atStart => exact ⟨0, by omega, rfl, hb0, hO⟩
  case round =>
    clear hO hb0
    obtain ⟨k, hk, rfl, hbel, hown⟩ := hrel
    by_cases hlt : k < l.length
    · have hsn := hexL_snoc l k hlt
      have hln : (hexL (l.take k)).length = 2 * k := by rw [hexL_length]; simp; omega
      have HSN := Lib.hid hsn; have HLN := Lib.hid hln
      clear hsn hln
      obtain ⟨a, rfl, hc⟩ := HBY.out k hlt
      have gc : ∀ w', Below w.heap.size w w' → w'.cell? (a.add k) = some (.int .u8 ((at8 l k).toNat : Int)) := fun w' hb => (hb.cell (p := a.add k) (World.block_lt_of_cell? w _ hc)).trans hc
      have hx8 := (at8 l k).toNat_lt
      have GC := Lib.hid gc
      clear hc gc
      generalize at8 l k = x at *
      generalize hexL (l.take k) = t at *
      generalize l.length = n at *
      have g := GC.out wr hbel
      have e1 : IntKind.i64.wrap (x.toNat : Int) = (x.toNat : Int) := IntWalk.i64_in _ (by omega)
      have e2 : IntKind.i64.wrap ((x.toNat : Int).tdiv 16) = (x.toNat : Int) / 16 := by rw [Int.tdiv_eq_ediv_of_nonneg (by omega)]; exact IntWalk.i64_in _ (by omega)
      have e3 : (x.toNat : Int).tmod 16 = (x.toNat : Int) % 16 := Int.tmod_eq_emod_of_nonneg (by omega)
      go_wp2_with fail
      go_region
      clear e1 e2 e3 g
      have hb2 : Below w.heap.size w (wr.alloc (.cells #[.int .i64 ((x.toNat : Int) / 16), .int .i64 ((x.toNat : Int) % 16)] 3)).drew := (hbel.alloc hbel.size _).drew
      have hown2 : (wr.alloc (.cells #[.int .i64 ((x.toNat : Int) / 16), .int .i64 ((x.toNat : Int) % 16)] 3)).drew.ownsRow w.heap.size 5 1 u3 (2 * k) (Bs t) := hown.alloc _
      have hrow2 : (wr.alloc (.cells #[.int .i64 ((x.toNat : Int) / 16), .int .i64 ((x.toNat : Int) % 16)] 3)).drew.heap[wr.heap.size]? = some (.cells #[.int .i64 ((x.toNat : Int) / 16), .int .i64 ((x.toNat : Int) % 16)] 3) := heap_alloc_new wr _
      have hwB := hbel.size
      generalize (wr.alloc (.cells #[.int .i64 ((x.toNat : Int) / 16), .int .i64 ((x.toNat : Int) % 16)] 3)).drew = w4 at *
      generalize wr.heap.size = B at *
      clear hbel hown
      go_wp2_with fail
      go_loopw [28, 3, 6] (fun j o _ wr => ∃ q : Nat, q ≤ 2 ∧ j = .int .i64 (q : Int) ∧ Below w.heap.size w wr ∧ wr.ownsRow w.heap.size 5 1 o (2 * k + q) (Bs (t ++ [hx (x.toNat / 16), hx (x.toNat % 16)].take q)) ∧ wr.heap[B]? = some (.cells #[.int .i64 ((x.toNat : Int) / 16), .int .i64 ((x.toNat : Int) % 16)] 3)) (fun j _ _ _ => 2 - (intOf j).toNat)
      case atStart => exact ⟨0, by omega, rfl, hb2, by simpa using hown2, hrow2⟩
      case round =>
        clear hb2 hown2 hrow2
        obtain ⟨q, hq, rfl, hbel, hown, hrow⟩ := hrel
        rename World => w5
        by_cases hq2 : q < 2
        · obtain ⟨v, hv16, hcell, hnx⟩ : ∃ v : Nat, v < 16 ∧ w5.cell? ⟨B, q, none⟩ = some (.int .i64 (v : Int)) ∧ [hx (x.toNat / 16), hx (x.toNat % 16)].take (q + 1) = [hx (x.toNat / 16), hx (x.toNat % 16)].take q ++ [hx v] := by
            obtain rfl | rfl : q = 0 ∨ q = 1 := by omega
            · exact ⟨x.toNat / 16, by omega, by rw [cell_of_row _ _ _ _ _ _ hrow]; simp, rfl⟩
            · exact ⟨x.toNat % 16, by omega, by rw [cell_of_row _ _ _ _ _ _ hrow]; simp, rfl⟩
          have hln : (t ++ [hx (x.toNat / 16), hx (x.toNat % 16)].take q).length = 2 * k + q := by have := HLN.out; simp; omega
          have HNX := Lib.hid hnx; have HLQ := Lib.hid hln
          clear hnx hln
          have hne := owned_ne hown hrow (by decide)
          have HROW := Lib.hid hrow
          clear hrow
          generalize htq : t ++ [hx (x.toNat / 16), hx (x.toNat % 16)].take q = tq at *
          have HTQ := Lib.hid htq
          clear htq
          have hwz := hbel.size
          have hBw : B < w5.heap.size := (Array.getElem?_eq_some_iff.1 HROW.out).1
          have hown' : w5.ownsRow w.heap.size 5 1 u3 tq.length (Bs tq) := by rw [HLQ.out]; exact hown
          clear hown
          by_cases hv10 : v < 10
          · have hd : decide ((v : Int) < 10) = true := decide_eq_true (by omega)
            have hxv := hx_low v hv16 hv10
            go_wp2_with (refine wpList_append_bytes rfl (.tmp 34) (.tmp 38) rfl w.heap.size _ tq rfl (hown'.alloc _) (some ⟨w5.heap.size, 0, none⟩) [hx v] 1 rfl (bytes_new _ _ _ rfl) (fun h => by cases h) (by have := HLQ.out; simp; omega) (by simp; omega) ?_; rintro v6 w6 ho6 hg6 hn6; have hw6 := (hbel.alloc hbel.size (.cells #[.int .u8 ((hx v).toNat : Int)] 5)).grown hg6 (by simp; omega) (fun k hk => (hown'.lt k hk).1); have hr6 : w6.heap[B]? = some (.cells #[.int .i64 ((x.toNat : Int) / 16), .int .i64 ((x.toNat : Int) % 16)] 3) := (by rw [hg6.block B (by simp; omega) (fun e => hne e.symm), Lib.alloc_old w5 _ B hBw]; exact HROW.out); clear hg6 hn6; have HR6 := Lib.hid hr6; clear hr6)
            go_roundw
            case rel =>
              refine ⟨q + 1, by omega, by go_num, hw6, ?_, HR6.out⟩
              rw [HNX.out, ← List.append_assoc, HTQ.out, ← Nat.add_assoc, ← HLQ.out]
              simpa [Bs] using ho6
            case measure => simp [intOf]; omega
          · have hd : decide ((v : Int) < 10) = false := decide_eq_false (by omega)
            have hxv := hx_high v hv16 hv10
            go_wp2_with (refine wpList_append_bytes rfl (.tmp 40) (.tmp 45) rfl w.heap.size _ tq rfl (hown'.alloc _) (some ⟨w5.heap.size, 0, none⟩) [hx v] 1 rfl (bytes_new _ _ _ rfl) (fun h => by cases h) (by have := HLQ.out; simp; omega) (by simp; omega) ?_; rintro v6 w6 ho6 hg6 hn6; have hw6 := (hbel.alloc hbel.size (.cells #[.int .u8 ((hx v).toNat : Int)] 5)).grown hg6 (by simp; omega) (fun k hk => (hown'.lt k hk).1); have hr6 : w6.heap[B]? = some (.cells #[.int .i64 ((x.toNat : Int) / 16), .int .i64 ((x.toNat : Int) % 16)] 3) := (by rw [hg6.block B (by simp; omega) (fun e => hne e.symm), Lib.alloc_old w5 _ B hBw]; exact HROW.out); clear hg6 hn6; have HR6 := Lib.hid hr6; clear hr6)
            go_roundw
            case rel =>
              refine ⟨q + 1, by omega, by go_num, hw6, ?_, HR6.out⟩
              rw [HNX.out, ← List.append_assoc, HTQ.out, ← Nat.add_assoc, ← HLQ.out]
              simpa [Bs] using ho6
            case measure => simp [intOf]; omega
        · obtain rfl : q = 2 := by omega
          rw [show ((2 : Nat) : Int) = 2 from rfl]
          have hown' : w5.ownsRow w.heap.size 5 1 u3 (2 * (k + 1)) (Bs (hexL (l.take (k + 1)))) := by rw [HSN.out, show 2 * (k + 1) = 2 * k + 2 by omega]; exact hown
          clear hown hrow
          go_wp2_with fail
          go_roundw
          case rel => exact ⟨k + 1, by omega, by go_num, hbel, hown'⟩
          case measure => simp [intOf]; omega
    · obtain rfl : k = l.length := by omega
      rw [List.take_length] at hown
      clear hk hlt
      have hcv : (convert 22 9 u3).run Try.prog wr = .ok (.string (St (hexL l))) wr := by
        have hl : 2 * l.length = (hexL l).length := (hexL_length l).symm
        rw [hl] at hown
        rcases hown.2 with ⟨rfl, h0⟩ | ⟨g, cap, cur, rfl, _⟩
        · have := str_bytes wr none (hexL l) 0 (fun j hj => by omega)
          rwa [h0] at this
        · exact str_bytes wr _ (hexL l) _ (fun j hj => ⟨_, rfl, hown.cells (g := g) rfl j _ (Bs_get _ _ hj)⟩)
      generalize l.length = n at *
      go_wp2_with fail
      go_ret
      exact ⟨rfl, hbel⟩
end Go.Proofs.Ytbioclpobmgikaa
