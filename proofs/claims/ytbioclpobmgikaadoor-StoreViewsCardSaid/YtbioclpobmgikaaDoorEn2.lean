/- Entries looked at: the law's bounds, the document's form: walks. -/
import Derived.Test.YtbioclpobmgikaaDoorEn1
namespace Go.Proofs.YtbioclpobmgikaaDoor
open Go.RowKit

/-- entries that a law looks at -/
def Small (x : En) : Prop := x.e.name.length ≤ 600 ∧ x.e.link.length ≤ 600 ∧ x.e.user.length ≤ 600 ∧ x.e.group.length ≤ 600 ∧ x.e.data.length ≤ 3000

set_option maxHeartbeats 1000000 in
set_option maxRecDepth 100000 in
theorem long20_any (l : List En) (A : Option Addr) (c m : Nat) (w : World) (hr : EntsAt w A l) (hm : m ≤ 100) :
    Calls Tryd.prog 67 #[.slice A l.length c, .int .i64 (m : Int)] w fun e w' => ∃ r : Bool, e = .returned (.bool r) ∧ Below w.heap.size w w' ∧ (r = false → l.length ≤ m ∧ ∀ x ∈ l, Small x) := by
  have HR := Lib.hid hr
  clear hr
  generalize hl : l.length = n at *
  have HL := Lib.hid hl
  clear hl
  by_cases hmn : m < n
  · have hd : decide ((n : Int) > (m : Int)) = true := decide_eq_true (by omega)
    go_enter Tryd.func67, Tryd.ntmps67
    go_wp2_with fail
    go_ret
    exact ⟨true, rfl, Below.refl _ _, fun h => by cases h⟩
  · have hd : decide ((n : Int) > (m : Int)) = false := decide_eq_false (by omega)
    go_enter Tryd.func67, Tryd.ntmps67
    go_wp2_with fail
    go_loopw [6, 13] (fun _ vi wr => ∃ k : Nat, k ≤ n ∧ vi = .int .i64 (k : Int) ∧ Hid (∀ j, j < k → Small (l.getD j en0)) ∧ Below w.heap.size w wr) (fun _ v _ => n - (intOf v).toNat)
    case atStart => exact ⟨0, by omega, rfl, Lib.hid (fun j hj => by omega), Below.refl _ _⟩
    case round =>
      obtain ⟨k, hk, rfl, HF, hbel⟩ := hrel
      by_cases hlt : k < n
      · obtain ⟨a, rfl, g0, g1, g2, g3, g4, g5, g6, g7, g8, g9, g10, g11⟩ := (HR.out.below hbel).each k (by rw [HL.out]; exact hlt) rfl
        have HF2 := Lib.hid (fun (h : Small (l.getD k en0)) => show ∀ j, j < k + 1 → Small (l.getD j en0) from fun j hj => by
          by_cases hjk : j = k
          · rw [hjk]; exact h
          · exact HF.out j (by omega))
        clear HF
        generalize l.getD k en0 = x at *
        have hb2 := hbel.alloc hbel.size (.cells x.cells.toArray 140)
        have HB2 := Lib.hid hb2
        clear hb2
        have s1 : (St x.e.name).size = x.e.name.length := rfl
        have s2 : (St x.e.link).size = x.e.link.length := rfl
        have s3 : (St x.e.user).size = x.e.user.length := rfl
        have s4 : (St x.e.group).size = x.e.group.length := rfl
        by_cases h1 : 600 < x.e.name.length
        · have d1 : decide ((x.e.name.length : Int) > 600) = true := decide_eq_true (by omega)
          clear HF2
          go_wp2_with fail
          go_ret
          exact ⟨true, rfl, HB2.out, fun h => by cases h⟩
        · have d1 : decide ((x.e.name.length : Int) > 600) = false := decide_eq_false (by omega)
          by_cases h2 : 600 < x.e.link.length
          · have d2 : decide ((x.e.link.length : Int) > 600) = true := decide_eq_true (by omega)
            clear HF2
            go_wp2_with fail
            go_ret
            exact ⟨true, rfl, HB2.out, fun h => by cases h⟩
          · have d2 : decide ((x.e.link.length : Int) > 600) = false := decide_eq_false (by omega)
            by_cases h3 : 600 < x.e.user.length
            · have d3 : decide ((x.e.user.length : Int) > 600) = true := decide_eq_true (by omega)
              clear HF2
              go_wp2_with fail
              go_ret
              exact ⟨true, rfl, HB2.out, fun h => by cases h⟩
            · have d3 : decide ((x.e.user.length : Int) > 600) = false := decide_eq_false (by omega)
              by_cases h4 : 600 < x.e.group.length
              · have d4 : decide ((x.e.group.length : Int) > 600) = true := decide_eq_true (by omega)
                clear HF2
                go_wp2_with fail
                go_ret
                exact ⟨true, rfl, HB2.out, fun h => by cases h⟩
              · have d4 : decide ((x.e.group.length : Int) > 600) = false := decide_eq_false (by omega)
                by_cases h5 : 3000 < x.e.data.length
                · have d5 : decide ((x.e.data.length : Int) > 3000) = true := decide_eq_true (by omega)
                  clear HF2
                  go_wp2_with fail
                  go_ret
                  exact ⟨true, rfl, HB2.out, fun h => by cases h⟩
                · have d5 : decide ((x.e.data.length : Int) > 3000) = false := decide_eq_false (by omega)
                  have HF3 := Lib.hid (HF2.out ⟨by omega, by omega, by omega, by omega, by omega⟩)
                  clear HF2
                  go_wp2_with fail
                  go_roundw
                  case rel => exact ⟨k + 1, by omega, by go_num, HF3, HB2.out⟩
                  case measure => simp [intOf]; omega
      · obtain rfl : k = n := by omega
        go_wp2_with fail
        go_ret
        refine ⟨false, rfl, hbel, fun _ => ⟨by omega, fun x hx => ?_⟩⟩
        obtain ⟨j, hj, rfl⟩ := List.getElem_of_mem hx
        have := HF.out j (by rw [HL.out] at hj; exact hj)
        simpa [List.getD, List.getElem?_eq_getElem hj] using this

def eqE (x y : Ent) : Bool := eqB x.name y.name && (x.kind == y.kind && (x.mode == y.mode && (x.uid == y.uid && (x.gid == y.gid && (x.time == y.time && (eqB x.link y.link && (eqB x.user y.user && (eqB x.group y.group && (x.major == y.major && (x.minor == y.minor && eqB x.data y.data))))))))))
theorem part9 (xs : Array Value) (o : Nat) (v : Value) (w : World) (h : xs[o]? = some v) : (part 9 xs o).run Tryd.prog w = .ok v w := by
  simp [part, h, sizeOf, typeInfo]
theorem part5 (xs : Array Value) (o : Nat) (v : Value) (w : World) (h : xs[o]? = some v) : (part 5 xs o).run Tryd.prog w = .ok v w := by
  simp [part, h, sizeOf, typeInfo]
theorem part3 (xs : Array Value) (o : Nat) (v : Value) (w : World) (h : xs[o]? = some v) : (part 3 xs o).run Tryd.prog w = .ok v w := by
  simp [part, h, sizeOf, typeInfo]
theorem eqF9 (xs ys : Array Value) (f : Field) (fs : List Field) (hn : f.name ≠ "_") (ht : f.type = 9) (a b : List UInt8) (w : World) (ha : xs[f.offset]? = some (.string (St a))) (hb : ys[f.offset]? = some (.string (St b))) (r : Bool) (hr : (Op.eqFields 9999 xs ys fs).run Tryd.prog w = .ok r w) :
    (Op.eqFields 9999 xs ys (f :: fs)).run Tryd.prog w = .ok (eqB a b && r) w := by
  rw [Op.eqFields, if_pos hn, ht]
  have h : (Op.equalIn 9999 9 (.string (St a)) (.string (St b))).run Tryd.prog w = .ok (eqB a b) w := by
    rw [show (Op.equalIn 9999 9) = Op.equalIn (9998 + 1) 9 from rfl, run_equalIn_string w 9998 9 _ _ Tryd.underlying9, St_toList, St_toList]; rfl
  cases hq : eqB a b <;> simp [Sem.run_bind, part9 _ _ _ _ ha, part9 _ _ _ _ hb, h, hq, hr]
theorem eqF3 (xs ys : Array Value) (f : Field) (fs : List Field) (hn : f.name ≠ "_") (ht : f.type = 3) (a b : Int) (w : World) (ha : xs[f.offset]? = some (.int .i64 a)) (hb : ys[f.offset]? = some (.int .i64 b)) (r : Bool) (hr : (Op.eqFields 9999 xs ys fs).run Tryd.prog w = .ok r w) :
    (Op.eqFields 9999 xs ys (f :: fs)).run Tryd.prog w = .ok ((a == b) && r) w := by
  rw [Op.eqFields, if_pos hn, ht]
  have h : (Op.equalIn 9999 3 (.int .i64 a) (.int .i64 b)).run Tryd.prog w = .ok (a == b) w := by
    rw [show (Op.equalIn 9999 3) = Op.equalIn (9998 + 1) 3 from rfl, run_equalIn_int w 9998 3 _ _ _ _ Tryd.underlying3]
  cases hq : a == b <;> simp [Sem.run_bind, part3 _ _ _ _ ha, part3 _ _ _ _ hb, h, hq, hr]
theorem eqF5 (xs ys : Array Value) (f : Field) (fs : List Field) (hn : f.name ≠ "_") (ht : f.type = 5) (a b : UInt8) (w : World) (ha : xs[f.offset]? = some (.int .u8 (a.toNat : Int))) (hb : ys[f.offset]? = some (.int .u8 (b.toNat : Int))) (r : Bool) (hr : (Op.eqFields 9999 xs ys fs).run Tryd.prog w = .ok r w) :
    (Op.eqFields 9999 xs ys (f :: fs)).run Tryd.prog w = .ok ((a == b) && r) w := by
  rw [Op.eqFields, if_pos hn, ht]
  have he : ((a.toNat : Int) == (b.toNat : Int)) = (a == b) := by
    rw [Bool.eq_iff_iff, beq_iff_eq, beq_iff_eq]
    constructor
    · intro h; exact UInt8.toNat_inj.1 (by omega)
    · rintro rfl; rfl
  have h : (Op.equalIn 9999 5 (.int .u8 (a.toNat : Int)) (.int .u8 (b.toNat : Int))).run Tryd.prog w = .ok (a == b) w := by
    rw [show (Op.equalIn 9999 5) = Op.equalIn (9998 + 1) 5 from rfl, run_equalIn_int w 9998 5 _ _ _ _ Tryd.underlying5, he]
  cases hq : a == b <;> simp [Sem.run_bind, part5 _ _ _ _ ha, part5 _ _ _ _ hb, h, hq, hr]
set_option maxRecDepth 100000 in
theorem neq_ent (x y : Ent) (w : World) : (binOp .neq 142 (.agg x.cells.toArray) (.agg y.cells.toArray)).run Tryd.prog w = .ok (.bool (!(eqE x y))) w := by
  rw [run_neq_struct, show (Op.equalIn 10000 142) = Op.equalIn (9999 + 1) 142 from rfl, run_equalIn_struct w 9999 142 _ _ (by kernel_rfl) (by kernel_rfl)]
  have key : (Op.eqFields 9999 x.cells.toArray y.cells.toArray (Tryd.prog.fieldsOf 142).toList).run Tryd.prog w = .ok (eqE x y) w := by
    rw [Program.fieldsOf, Tryd.underlying142]
    unfold eqE
    show (Op.eqFields 9999 x.cells.toArray y.cells.toArray [_, _, _, _, _, _, _, _, _, _, _, _]).run Tryd.prog w = _
    refine eqF9 _ _ _ _ (by decide) rfl _ _ _ rfl rfl _ ?_
    refine eqF5 _ _ _ _ (by decide) rfl _ _ _ rfl rfl _ ?_
    refine eqF3 _ _ _ _ (by decide) rfl _ _ _ rfl rfl _ ?_
    refine eqF3 _ _ _ _ (by decide) rfl _ _ _ rfl rfl _ ?_
    refine eqF3 _ _ _ _ (by decide) rfl _ _ _ rfl rfl _ ?_
    refine eqF3 _ _ _ _ (by decide) rfl _ _ _ rfl rfl _ ?_
    refine eqF9 _ _ _ _ (by decide) rfl _ _ _ rfl rfl _ ?_
    refine eqF9 _ _ _ _ (by decide) rfl _ _ _ rfl rfl _ ?_
    refine eqF9 _ _ _ _ (by decide) rfl _ _ _ rfl rfl _ ?_
    refine eqF3 _ _ _ _ (by decide) rfl _ _ _ rfl rfl _ ?_
    refine eqF3 _ _ _ _ (by decide) rfl _ _ _ rfl rfl _ ?_
    rw [← Bool.and_true (eqB x.data y.data)]
    exact eqF9 _ _ _ _ (by decide) rfl _ _ _ rfl rfl _ rfl
  rw [key]
  rfl
theorem eqE_true (x y : Ent) : eqE x y = true ↔ x = y := by
  obtain ⟨a0, a1, a2, a3, a4, a5, a6, a7, a8, a9, a10, a11⟩ := x
  obtain ⟨b0, b1, b2, b3, b4, b5, b6, b7, b8, b9, b10, b11⟩ := y
  unfold eqE
  simp only [Bool.and_eq_true, eqB_true, beq_iff_eq, Ent.mk.injEq]
theorem guard142 : Tryd.prog.eqGuardType Tryd.prog.depth 142 = false := by kernel_rfl
theorem info142s : (Tryd.prog.info? 142).map (·.size) = some 12 := by kernel_rfl
set_option maxHeartbeats 1000000 in
set_option maxRecDepth 100000 in
theorem document20_any (x : En) (w : World) (hg : EGood w x) :
    Calls Tryd.prog 101 #[.agg x.cells.toArray] w fun e w' => e = .returned (.agg x.e.cells.toArray) ∧ Below w.heap.size w w' := by
  have hb2 : ∀ zs, Below w.heap.size w ((w.alloc (.cells x.cells.toArray 140)).alloc (.cells zs 142)) := fun zs => ((Below.refl _ _).alloc (Nat.le_refl _) _).alloc (by simp) _
  have hcv := fun zs => str_bytes _ x.D x.e.data x.c (hg.2.2.below (hb2 zs))
  have hs1 : (w.alloc (.cells x.cells.toArray 140)).heap.size = w.heap.size + 1 := by simp
  have hres : ∀ zs, ((w.alloc (.cells x.cells.toArray 140)).alloc (.cells zs 142)).heap[w.heap.size + 1]? = some (.cells zs 142 (0, 0)) := fun zs => by
    have := heap_alloc_new (w.alloc (.cells x.cells.toArray 140)) (.cells zs 142)
    rwa [hs1] at this
  have hall : x.e.cells.toArray.all (·.oneCell') = true := all_oneCell_toArray (fun v hv => Ent.mem [x.e] v (by simpa using hv))
  have HB2 := Lib.hid hb2; have HRES := Lib.hid hres; have HALL := Lib.hid hall
  clear hb2 hg hres hall
  obtain ⟨⟨n, k, mo, ui, gi, ti, li, us, gr, ma, mi, da⟩, D, c⟩ := x
  simp only [En.cells, Ent.cells] at hcv HB2 HRES HALL hs1 ⊢
  generalize da.length = dl at *
  go_enter Tryd.func101, Tryd.ntmps101
  go_wp2_with (refine wpList_store_row rfl 142 (.tmp 2) (.tmp 28) rfl _ _ rfl rfl 142 _ (HRES.out _) info142s rfl HALL.out ?_)
  have hrow := setRow_heap _ (w.heap.size + 1) _ #[.string (St n), .int .u8 (k.toNat : Int), .int .i64 mo, .int .i64 ui, .int .i64 gi, .int .i64 ti, .string (St li), .string (St us), .string (St gr), .int .i64 ma, .int .i64 mi, .string (St da)] 142 (0, 0) (HRES.out #[.string ⟨#[]⟩, .int .u8 0, .int .i64 0, .int .i64 0, .int .i64 0, .int .i64 0, .string ⟨#[]⟩, .string ⟨#[]⟩, .string ⟨#[]⟩, .int .i64 0, .int .i64 0, .string ⟨#[]⟩])
  exact bodyPost_ret (results_cell_row rfl _ _ (w.heap.size + 1) 142 _ (0, 0) _ rfl hrow Tryd.underlying142 rfl info142s) rfl ⟨rfl, below_setRow (HB2.out _) (by omega) _⟩

set_option maxHeartbeats 1000000 in
set_option maxRecDepth 100000 in
theorem documents_any (l : List En) (A : Option Addr) (c : Nat) (w : World) (hr : EntsAt w A l) (hg : AllEGood w l) (hn : l.length ≤ 1000) :
    Calls Tryd.prog 73 #[.slice A l.length c] w fun e w' => ∃ v, e = .returned v ∧ Below w.heap.size w w' ∧ w'.ownsRow w.heap.size 142 12 v l.length ((l.map En.e).flatMap Ent.cells) := by
  have HR := Lib.hid hr; have HG := Lib.hid hg
  clear hr hg
  generalize hl : l.length = n at *
  have HL := Lib.hid hl
  clear hl
  have hO0 : (w.alloc (.cells #[] 142)).ownsRow w.heap.size 142 12 (.slice (some ⟨w.heap.size, 0, none⟩) 0 0) 0 (([] : List Ent).flatMap Ent.cells) := World.ownsRow_made w #[] 0 (Nat.le_refl _) (by unfold maxLen; omega) rfl
  have hB0 : Below w.heap.size w (w.alloc (.cells #[] 142)) := (Below.refl _ _).alloc (Nat.le_refl _) _
  have HO0 := Lib.hid hO0
  clear hO0
  go_enter Tryd.func73, Tryd.ntmps73
  go_wp2_with fail
  go_loopw [3, 5, 9] (fun vo _ vi wr => ∃ k : Nat, k ≤ n ∧ vi = .int .i64 (k : Int) ∧ Below w.heap.size w wr ∧ Hid (wr.ownsRow w.heap.size 142 12 vo k (((l.map En.e).take k).flatMap Ent.cells))) (fun _ _ v _ => n - (intOf v).toNat)
  case atStart => exact ⟨0, by omega, rfl, hB0, HO0⟩
  case round =>
    clear HO0 hB0
    obtain ⟨k, hk, rfl, hbel, HOWN⟩ := hrel
    by_cases hlt : k < n
    · obtain ⟨a, rfl, g0, g1, g2, g3, g4, g5, g6, g7, g8, g9, g10, g11⟩ := (HR.out.below hbel).each k (by rw [HL.out]; exact hlt) rfl
      have hgk := (HG.out _ (en_mem l k (by rw [HL.out]; exact hlt))).below hbel
      have HT := Lib.hid (show (l.map En.e).take (k + 1) = (l.map En.e).take k ++ [(l.getD k en0).e] by
        rw [List.take_add_one, List.getElem?_map, List.getElem?_eq_getElem (show k < l.length by rw [HL.out]; exact hlt)]
        simp [List.getD, HL.out, hlt])
      have hsz := hbel.size
      generalize l.getD k en0 = x at *
      have hbx : Below wr.heap.size wr (wr.alloc (.cells x.cells.toArray 140)) := (Below.refl _ _).alloc (Nat.le_refl _) _
      have HDO := Lib.hid (show Calls Tryd.prog 101 #[.agg #[.string (St x.e.name), .int .u8 (x.e.kind.toNat : Int), .int .i64 x.e.mode, .int .i64 x.e.uid, .int .i64 x.e.gid, .int .i64 x.e.time, .string (St x.e.link), .string (St x.e.user), .string (St x.e.group), .int .i64 x.e.major, .int .i64 x.e.minor, .slice x.D x.e.data.length x.c]] (wr.alloc (.cells x.cells.toArray 140)) fun e w' => e = .returned (.agg #[.string (St x.e.name), .int .u8 (x.e.kind.toNat : Int), .int .i64 x.e.mode, .int .i64 x.e.uid, .int .i64 x.e.gid, .int .i64 x.e.time, .string (St x.e.link), .string (St x.e.user), .string (St x.e.group), .int .i64 x.e.major, .int .i64 x.e.minor, .string (St x.e.data)]) ∧ Below (wr.alloc (.cells x.cells.toArray 140)).heap.size (wr.alloc (.cells x.cells.toArray 140)) w' from document20_any x _ (hgk.below hbx))
      have HBX := Lib.hid hbx; have HOW2 := Lib.hid (HOWN.out.alloc (.cells x.cells.toArray 140))
      clear hgk hbx HOWN
      go_wp2_with (first
        | (go_at_call 101; refine HDO.out.mono ?_; rintro e w2 ⟨rfl, hb2⟩
           have hb02 := noted HBX.out hb2
           have hbw2 := noted hbel hb02
           have hsz2 := hbw2.size
           have HRN := Lib.hid (rec_new Ent.cells ent0 w2 142 x.e)
           have HOW3 := Lib.hid (rowOwn_below HOW2.out hb2))
        | (refine wpList_append_docents rfl (.tmp 13) (.tmp 16) rfl w.heap.size _ k ((l.map En.e).take k) rfl (HOW3.out.alloc _) ⟨w2.heap.size, 0, none⟩ [x.e] 1 1 rfl rfl HRN.out (by omega) (by simp; omega) ?_; rintro v' w4 hown4 hg4))
      have hb4 := (hbw2.alloc hsz2 _).grown hg4 (by simp; omega) (fun j hj => (HOW3.out.lt j hj).1)
      go_roundw
      case rel => exact ⟨k + 1, by omega, by go_num, hb4, by rw [HT.out]; exact Lib.hid hown4⟩
      case measure => simp [intOf]; omega
    · obtain rfl : k = n := by omega
      rw [List.take_of_length_le (by rw [List.length_map, HL.out]; exact Nat.le_refl _)] at HOWN
      go_wp2_with fail
      go_ret
      exact ⟨_, rfl, hbel, HOWN.out⟩

end Go.Proofs.YtbioclpobmgikaaDoor
