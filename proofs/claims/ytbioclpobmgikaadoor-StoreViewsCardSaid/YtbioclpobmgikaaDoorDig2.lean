/- The digest of a name: the program's walks. -/
import Derived.Test.YtbioclpobmgikaaDoorDig1
import Derived.Laws.ResultCell
namespace Go.Proofs.YtbioclpobmgikaaDoor
open Go.RowKit

theorem agg25 (w : World) : (isAgg 25).run Tryd.prog w = .ok true w := by
  unfold isAgg
  rw [Sem.run_bind, run_underlying Tryd.underlying25 w]
  rfl
theorem sizeOf25 (w : World) : (sizeOf 25).run Tryd.prog w = .ok 32 w := by
  have hi : (Tryd.prog.info? 25).map (·.size) = some 32 := info25
  cases hq : Tryd.prog.info? 25 with
  | none => simp [hq] at hi
  | some i => simp [hq] at hi; simp [sizeOf, typeInfo, hq, hi]
theorem run_loadVar_bytes (w : World) (a : Addr) (b : List UInt8) (hb : BytesAt w (some a) b) (hl : b.length = 32) : (loadVar 25 a).run Tryd.prog w = .ok (.agg (Bs b).toArray) w := by
  have h := run_loadCells_list (P := Tryd.prog) w a (Bs b) (fun j v hv => by
    have hj : j < b.length := by rw [← Bs_length]; exact (List.getElem?_eq_some_iff.1 hv).1
    obtain ⟨a', ha, hc⟩ := hb j hj
    obtain rfl := Option.some.inj ha
    rw [hc, ← hv, Bs_get _ _ hj])
  rw [Bs_length, hl] at h
  simp only [loadVar, Sem.run_bind, agg25, sizeOf25, Result.andThen_ok, if_true, h, Sem.run_pure]
theorem wpList_load_bytes {ops : Array Oper} {rest : List Oper} {o : Oper} {act : Act} {w : World} {Q : Exit → Act → World → Prop} (hgd : o.guard = none) (x : Operand) (ho : o.op = .load 25 x) (a : Addr) (b : List UInt8)
    (hx : act.eval x = .pointer (some a)) (hb : BytesAt w (some a) b) (hl : b.length = 32) (h : wpList Tryd.prog ops Q rest (act.put o.dst (.agg (Bs b).toArray)) w) : wpList Tryd.prog ops Q (o :: rest) act w :=
  wpList_plain hgd fun _ hK => by
    unfold Oper.wp execOp
    simp only [ho, hx, Instr.loadAt, Instr.sureAddr, Sem.run_bind, Sem.run_pure, Result.andThen_ok, run_loadVar_bytes w a b hb hl]
    exact hK _ _ h
theorem run_array25 (w : World) (a : Addr) (c : Nat) : (Instr.arrayAt 25 (.slice (some a) 32 c)).run Tryd.prog w = .ok (.pointer (some a)) w := by
  simp [Instr.arrayAt, Sem.run_bind, run_underlying Tryd.underlying25 w]

/-- what Parse answers -/
def ParseIs (n : List UInt8) (e : Ending) : Prop :=
  match parseL n with
  | none => e = .returned (.tuple #[.agg (Bs (List.replicate 32 0)).toArray, .iface 54 (.int .i64 2)])
  | some b => e = .returned (.tuple #[.agg (Bs b).toArray, .nilIface])

theorem results_row_tmp {P : Program} {fn : Func} {p u : Tmp} {ty : TypeId} (h : fn.results = #[.cell p ty, .tmp u]) (tmps : Array Value) (w : World) (g : Nat) (t : TypeId) (cs : Array Value) (fr : Nat × Nat) (d : TypeDesc)
    (hp : tmps.getD p undef = .pointer (some ⟨g, 0, none⟩)) (hg : w.heap[g]? = some (.cells cs t fr))
    (hu : P.underlying ty = some d) (hd : (match d with | .struct _ | .array _ _ => true | _ => false) = true) (hi : (P.info? ty).map (·.size) = some cs.size) :
    (results fn tmps).run P w = .ok (.tuple #[.agg cs, tmps.getD u undef]) w := by
  have hp' : tmps[p]?.getD undef = .pointer (some ⟨g, 0, none⟩) := by simpa using hp
  simp [results, h, hp', asAddr, run_loadVar_row w g t ty cs fr d hg hu hd hi]

set_option maxHeartbeats 4000000 in
set_option maxRecDepth 100000 in
theorem parse_any (n : List UInt8) (w : World) (hbig : n.length ≤ 70368744177664) :
    Calls Tryd.prog 36 #[.string (St n)] w fun e w' => ParseIs n e ∧ Below w.heap.size w w' := by
  have hcut := fun w => Tryd.strings_CutPrefix (St n) ⟨#[115, 104, 97, 50, 53, 54, 58]⟩ w
  have hlf : (Lib.trimPrefix n nameP).length ≤ 70368744177664 := by unfold Lib.trimPrefix; split; (simp; omega); omega
  have hun := fun w => unhex_any (Lib.trimPrefix n nameP) w hlf
  have hcut : ∀ w, Calls Tryd.prog 82 #[.string (St n), .string ⟨#[115, 104, 97, 50, 53, 54, 58]⟩] w fun e w' => e = .returned (.tuple #[.string (St (Lib.trimPrefix n nameP)), .bool (Lib.hasPrefix n nameP)]) ∧ w' = w := hcut
  have hpl : parseL n = if Lib.hasPrefix n nameP then (unhexL (Lib.trimPrefix n nameP)).bind fun b => if b.length = 32 then some b else none else none := by
    unfold parseL Lib.trimPrefix
    split <;> rfl
  have HC := Lib.hid hcut; have HU := Lib.hid hun; have HP := Lib.hid hpl
  clear hcut hun hpl hlf
  generalize Lib.trimPrefix n nameP = f at *
  have hr0 := heap_alloc_new w (.cells (Bs (List.replicate 32 0)).toArray 25)
  have hb0 : Below w.heap.size w (w.alloc (.cells (Bs (List.replicate 32 0)).toArray 25)) := (Below.refl _ _).alloc (Nat.le_refl _) _
  have HR0 := Lib.hid hr0
  clear hr0
  go_enter Tryd.func36, Tryd.ntmps36
  go_wp2_with fail
  refine (HC.out _).mono ?_
  rintro e w' ⟨rfl, rfl⟩
  go_wp2_with fail
  refine (HU.out _).mono ?_
  rintro e w1 ⟨hb1, hm⟩
  have hbel : Below w.heap.size w w1 := hb0.trans (hb1.mono hb0.size)
  have hres : w1.heap[w.heap.size]? = some (.cells (Bs (List.replicate 32 0)).toArray 25) := (hb1.block _ (by simp)).trans HR0.out
  have HR := Lib.hid hres; have HB := Lib.hid hbel
  clear hbel hres hb1 hb0 HR0
  cases hp : Lib.hasPrefix n nameP with
  | false =>
    have PN : parseL n = none := by rw [HP.out, hp]; rfl
    have PN := Lib.hid PN
    clear HP
    cases hu : unhexL f with
    | none =>
      rw [hu] at hm
      obtain rfl := hm
      go_wp2_with (refine wpList_store_row rfl 25 (.tmp 2) (.tmp 29) rfl _ _ rfl rfl 25 _ HR.out (by kernel_rfl) (by kernel_rfl) (by kernel_rfl) ?_)
      have hrow := setRow_heap w1 w.heap.size (Bs (List.replicate 32 0)).toArray (Bs (List.replicate 32 0)).toArray 25 (0, 0) HR.out
      exact bodyPost_ret (results_row_tmp rfl _ _ w.heap.size 25 _ (0, 0) _ rfl hrow Tryd.underlying25 rfl info25) rfl ⟨by rw [ParseIs, PN.out]; rfl, below_setRow HB.out (Nat.le_refl _) _⟩
    | some b =>
      rw [hu] at hm
      obtain ⟨A, c, rfl, _⟩ := hm
      go_wp2_with (refine wpList_store_row rfl 25 (.tmp 2) (.tmp 29) rfl _ _ rfl rfl 25 _ HR.out (by kernel_rfl) (by kernel_rfl) (by kernel_rfl) ?_)
      have hrow := setRow_heap w1 w.heap.size (Bs (List.replicate 32 0)).toArray (Bs (List.replicate 32 0)).toArray 25 (0, 0) HR.out
      exact bodyPost_ret (results_row_tmp rfl _ _ w.heap.size 25 _ (0, 0) _ rfl hrow Tryd.underlying25 rfl info25) rfl ⟨by rw [ParseIs, PN.out]; rfl, below_setRow HB.out (Nat.le_refl _) _⟩
  | true =>
    cases hu : unhexL f with
    | none =>
      have PN : parseL n = none := by rw [HP.out, hp, hu]; rfl
      have PN := Lib.hid PN
      clear HP
      rw [hu] at hm
      obtain rfl := hm
      go_wp2_with (refine wpList_store_row rfl 25 (.tmp 2) (.tmp 29) rfl _ _ rfl rfl 25 _ HR.out (by kernel_rfl) (by kernel_rfl) (by kernel_rfl) ?_)
      have hrow := setRow_heap w1 w.heap.size (Bs (List.replicate 32 0)).toArray (Bs (List.replicate 32 0)).toArray 25 (0, 0) HR.out
      exact bodyPost_ret (results_row_tmp rfl _ _ w.heap.size 25 _ (0, 0) _ rfl hrow Tryd.underlying25 rfl info25) rfl ⟨by rw [ParseIs, PN.out]; rfl, below_setRow HB.out (Nat.le_refl _) _⟩
    | some b =>
      rw [hu] at hm
      obtain ⟨A, c, rfl, hc, _, hby⟩ := hm
      have HBY := Lib.hid hby
      clear hby
      by_cases h32 : b.length = 32
      · have PN : parseL n = some b := by rw [HP.out, hp, hu]; simp [h32]
        have PN := Lib.hid PN
        clear HP
        obtain ⟨a, rfl, _⟩ := HBY.out 0 (by omega)
        have har := run_array25
        have H3 := Lib.hid h32
        have hcs : (Bs b).toArray.size = 32 := by rw [List.size_toArray, Bs_length, h32]
        have H1 := Lib.hid (all_oneCell_toArray (Bs_mem b))
        have i25 : (Tryd.prog.info? 25).map (·.size) = some (Bs b).toArray.size := by rw [hcs]; exact info25
        have HI := Lib.hid i25; have HZ := Lib.hid (show (Bs (List.replicate 32 0)).toArray.size = (Bs b).toArray.size by rw [hcs]; rfl)
        clear hcs i25
        go_wp2_with (first
          | (refine wpList_load_bytes rfl (.tmp 32) rfl a b rfl HBY.out H3.out ?_)
          | (refine wpList_store_row rfl 25 (.tmp 2) (.tmp 33) rfl _ _ rfl rfl 25 _ HR.out HI.out HZ.out H1.out ?_))
        have hrow := setRow_heap w1 w.heap.size (Bs (List.replicate 32 0)).toArray (Bs b).toArray 25 (0, 0) HR.out
        exact bodyPost_ret (results_row_tmp rfl _ _ w.heap.size 25 _ (0, 0) _ rfl hrow Tryd.underlying25 rfl HI.out) rfl ⟨by rw [ParseIs, PN.out]; rfl, below_setRow HB.out (Nat.le_refl _) _⟩
      · have PN : parseL n = none := by rw [HP.out, hp, hu]; simp [h32]
        have PN := Lib.hid PN
        have hne : ((b.length : Int) != 32) = true := by rw [bne_iff_ne]; omega
        clear HP
        go_wp2_with (refine wpList_store_row rfl 25 (.tmp 2) (.tmp 29) rfl _ _ rfl rfl 25 _ HR.out (by kernel_rfl) (by kernel_rfl) (by kernel_rfl) ?_)
        have hrow := setRow_heap w1 w.heap.size (Bs (List.replicate 32 0)).toArray (Bs (List.replicate 32 0)).toArray 25 (0, 0) HR.out
        exact bodyPost_ret (results_row_tmp rfl _ _ w.heap.size 25 _ (0, 0) _ rfl hrow Tryd.underlying25 rfl info25) rfl ⟨by rw [ParseIs, PN.out]; rfl, below_setRow HB.out (Nat.le_refl _) _⟩
end Go.Proofs.YtbioclpobmgikaaDoor
