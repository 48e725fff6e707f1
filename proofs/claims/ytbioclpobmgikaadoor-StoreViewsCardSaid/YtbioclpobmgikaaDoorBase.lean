/- What the rows of this seat share: what the listed variables give the walks, how arguments are opened. -/
import Derived.Test.YtbioclpobmgikaaDoorRows
import Derived.Test.YtbioclpobmgikaaDoorTie
import Derived.Test.YtbioclpobmgikaaDoorSha6
import Derived.ProofKit
import Derived.LaidMore
import Derived.OpenShut
import Derived.Stop.Joined
import Derived.Stop.LaidErr
import Derived.Lib.LaidTab
import Derived.SizedLaws
import Derived.ChangeOld
import Derived.Deep.Slices
import Derived.Lib.SmallJoins
import Derived.SevenTiedAt
namespace Go.Proofs.YtbioclpobmgikaaDoor
open Go.ChangeShapes Go.WideShapes Go.ChangeAt Go.RowKit

theorem own : ownKnob Tryd.prog.godebug = none := by kernel_rfl
theorem laidOut : laidOutB Tryd.prog = true := by kernel_rfl
def laidL : List (String × DataW Unit) := [("crossdock/sha.first", Rows.laid_crossdock_sha_first), ("crossdock/sha.constants", Rows.laid_crossdock_sha_constants)]

/-- The door's own heap meets the condition. -/
theorem door_met (os : Os) (args : Array Value) : laidMetH Tryd.prog laidL ((World.doorLaid Tryd.prog 400 os).forCall (fun _ _ => 0) ⟨#[], args, []⟩).memory :=
  laidMetH_of_parts3 (fuel := 8) (laidMet_of_run' 8 (by kernel_rfl) (by kernel_rfl)) (by kernel_rfl) (by kernel_rfl)

theorem first_data : (Rows.laid_crossdock_sha_first : DataW Unit) = Lib.tabData .u32 (H0.l.map fun x => (x.toNat : Int)) := by kernel_rfl
theorem constants_data : (Rows.laid_crossdock_sha_constants : DataW Unit) = Lib.tabData .u32 (Kc.map fun x => (x.toNat : Int)) := by kernel_rfl

theorem of_laid {W : World} (h : laidMetH Tryd.prog laidL W) : Laid W := by
  rw [MakeChecks.laidMetH_plain _ _ _ (by kernel_rfl)] at h
  unfold laidL at h
  rw [first_data, constants_data] at h
  have h0 := Lib.tabIs_of_head (g := 0) (t := 115) (e := 108) (n := 8) (by kernel_rfl) (by kernel_rfl) Tryd.underlying115 Tryd.underlying108 (by kernel_rfl) (by kernel_rfl) h
  have h1 := Lib.tabIs_of_head (g := 1) (t := 110) (e := 108) (n := 64) (by kernel_rfl) (by kernel_rfl) Tryd.underlying110 Tryd.underlying108 (by kernel_rfl) (by kernel_rfl) h.tail
  refine ⟨fun j hj => ?_, fun j hj => ?_⟩
  · rw [h1.cell (by kernel_rfl) j (by rw [List.length_map]; exact hj)]
    congr 2
    simp [at32, List.getD, show j < Kc.length from hj]
  · rw [h0.cell (by kernel_rfl) j (by rw [List.length_map]; exact hj)]
    congr 2
    simp [at32, List.getD, show j < H0.l.length from hj]

/-- an argument of bytes, opened -/
theorem open_bytes {H : Type} {enc : TypeId × Value → H} {W : World} {base : Nat} {spare : Nat → Bool} {held : Bool} {a : Option Addr} {len cap : Nat} {d : DataW H} {ps : List MemPlace}
    (h : DataW.Trod enc Tryd.prog W base spare held 22 (.slice a len cap) d ps) : ∃ bs : List UInt8, bs.length = len ∧ len ≤ cap ∧ cap ≤ maxLen ∧ (a = none → cap = 0) ∧ BytesAt W a bs := by
  obtain ⟨fuel, hf⟩ := h
  rcases open_ints Tryd.underlying22 Tryd.underlying5 (by kernel_rfl) hf with ⟨hcs, _⟩ | ⟨x, l, c, zs, hcs, _, hl, hm, hz, _, hcell, hwz⟩
  · simp [Value.cells] at hcs
    obtain ⟨rfl, rfl, rfl⟩ := hcs
    exact ⟨[], rfl, by omega, by unfold maxLen; omega, fun _ => rfl, fun j hj => by simp at hj⟩
  · simp [Value.cells] at hcs
    obtain ⟨rfl, rfl, rfl⟩ := hcs
    have hzl : len ≤ zs.length := by rw [hz]; split <;> omega
    refine ⟨(zs.take len).map fun z => UInt8.ofNat z.toNat, by simp; omega, hl, hm, fun h => (by cases h), fun j hj => ⟨x, rfl, ?_⟩⟩
    have hj' : j < len := by simp at hj; omega
    rw [hcell j (by omega)]
    congr 2
    have hw := hwz (zs.getD j 0) (by rw [List.getD_eq_getElem?_getD, List.getElem?_eq_getElem (by omega)]; exact List.getElem_mem _)
    have hb := bounds_u8 hw
    simp only [at8, List.getD_eq_getElem?_getD, List.getElem?_map, List.getElem?_take, if_pos hj', List.getElem?_eq_getElem (show j < zs.length by omega), Option.getD_some, Option.map_some] at hb ⊢
    simp
    omega
/-- an argument of parts, opened -/
theorem open_parts {H : Type} {enc : TypeId × Value → H} {W : World} {base : Nat} {spare : Nat → Bool} {held : Bool} {a : Option Addr} {len cap : Nat} {d : DataW H} {ps : List MemPlace}
    (h : DataW.Trod enc Tryd.prog W base spare held 31 (.slice a len cap) d ps) : ∃ bs : List (List UInt8), bs.length = len ∧ len ≤ cap ∧ cap ≤ maxLen ∧ PartsNil W a len ∧ PartsAt W a bs := by
  obtain ⟨fuel, hf⟩ := h
  rcases Deep.open_slice1 Tryd.underlying31 (by kernel_rfl) hf with ⟨hcs, _⟩ | ⟨x, l, c, m, n, V, D, Pl, hcs, _, hl, hm, hmm, _, hx⟩
  · simp [Value.cells] at hcs
    obtain ⟨rfl, rfl, rfl⟩ := hcs
    exact ⟨[], rfl, by omega, by unfold maxLen; omega, fun j hj => by omega, fun j hj => by simp at hj⟩
  · simp [Value.cells] at hcs
    obtain ⟨rfl, rfl, rfl⟩ := hcs
    have hlm : len ≤ m := by rw [hmm]; split <;> omega
    have each : ∀ i, ∃ bs : List UInt8, i < len → ∃ A' c', W.cell? (x.add i) = some (.slice A' bs.length c') ∧ bs.length ≤ c' ∧ BytesAt W A' bs := by
      intro i
      by_cases hi : i < len
      · obtain ⟨hc, ht⟩ := hx i (by omega)
        obtain ⟨A', l', c', hv⟩ := Joins.slice_form Tryd.underlying22 ht
        obtain hv : V i = .slice A' l' c' := by simpa using hv
        rw [hv] at hc ht
        obtain ⟨bs, rfl, h1, _, _, h2⟩ := open_bytes (W := W) (base := base) (spare := spare) (held := held) (a := A') (len := l') (cap := c') ⟨n, by simpa [Value.cells] using ht⟩
        exact ⟨bs, fun _ => ⟨A', c', hc, h1, h2⟩⟩
      · exact ⟨[], fun h => absurd h hi⟩
    have hnil : PartsNil W (some x) len := fun i hi a ha l' c' hcell => by
      obtain rfl := Option.some.inj ha
      obtain ⟨hc, ht⟩ := hx i (by omega)
      rw [hcell] at hc
      rw [← Option.some.inj hc] at ht
      obtain ⟨bs, _, _, _, hn, _⟩ := open_bytes (W := W) (base := base) (spare := spare) (held := held) (a := none) (len := l') (cap := c') ⟨n, by simpa [Value.cells] using ht⟩
      exact hn rfl
    refine ⟨(List.range len).map fun i => (each i).choose, by simp, hl, hm, hnil, fun j hj => ⟨x, rfl, ?_⟩⟩
    have hj' : j < len := by simpa using hj
    have := (each j).choose_spec hj'
    rw [show ((List.range len).map fun i => (each i).choose).getD j [] = (each j).choose by simp [List.getD, hj']]
    exact this
end Go.Proofs.YtbioclpobmgikaaDoor
