/- Entries side by side: the law's walk. -/
import Derived.Test.YtbioclpobmgikaaDoorEn2
import Derived.Deep.RegionWith
namespace Go.Proofs.YtbioclpobmgikaaDoor
open Go.RowKit

set_option maxHeartbeats 1000000 in
set_option maxRecDepth 100000 in
theorem are_any (l : List En) (A B : Option Addr) (c d : Nat) (w : World) (hr : EntsAt w A l) (hg : AllEGood w l) (hB : DocsAt w B (l.map En.e)) (hn : l.length ≤ 1000) :
    Calls Tryd.prog 70 #[.slice A l.length c, .slice B l.length d] w fun e w' => e = .returned (.bool true) ∧ Below w.heap.size w w' := by
  have HR := Lib.hid hr; have HG := Lib.hid hg; have HB := Lib.hid hB
  clear hr hg hB
  have hgd := guard142
  generalize hl : l.length = n at *
  have HL := Lib.hid hl
  clear hl
  go_enter Tryd.func70, Tryd.ntmps70
  go_wp2_with fail
  go_loopw [5, 13] (fun _ vi wr => ∃ k : Nat, k ≤ n ∧ vi = .int .i64 (k : Int) ∧ Below w.heap.size w wr) (fun _ v _ => n - (intOf v).toNat)
  case atStart => exact ⟨0, by omega, rfl, Below.refl _ _⟩
  case round =>
    obtain ⟨k, hk, rfl, hbel⟩ := hrel
    by_cases hlt : k < n
    · have hbd : Below w.heap.size w wr.drew := hbel.drew
      obtain ⟨a, rfl, g0, g1, g2, g3, g4, g5, g6, g7, g8, g9, g10, g11⟩ := (HR.out.below hbd).each k (by rw [HL.out]; exact hlt) rfl
      have hgk := (HG.out _ (en_mem l k (by rw [HL.out]; exact hlt))).below hbel
      have HBK := Lib.hid (fun W (h : Below w.heap.size w W) => (HB.out.below h).each k (by rw [List.length_map, HL.out]; exact hlt) (show Ent.cells ((l.map En.e).getD k ent0) = _ by rw [show (l.map En.e).getD k ent0 = (l.getD k en0).e by simp [List.getD, HL.out, hlt]]; rfl))
      generalize l.getD k en0 = x at *
      obtain ⟨b, rfl, q0, q1, q2, q3, q4, q5, q6, q7, q8, q9, q10, q11⟩ := HBK.out _ hbd
      have HDO := Lib.hid (fun W (h : Below wr.heap.size wr W) => show Calls Tryd.prog 101 #[.agg #[.string (St x.e.name), .int .u8 (x.e.kind.toNat : Int), .int .i64 x.e.mode, .int .i64 x.e.uid, .int .i64 x.e.gid, .int .i64 x.e.time, .string (St x.e.link), .string (St x.e.user), .string (St x.e.group), .int .i64 x.e.major, .int .i64 x.e.minor, .slice x.D x.e.data.length x.c]] W fun e w' => e = .returned (.agg #[.string (St x.e.name), .int .u8 (x.e.kind.toNat : Int), .int .i64 x.e.mode, .int .i64 x.e.uid, .int .i64 x.e.gid, .int .i64 x.e.time, .string (St x.e.link), .string (St x.e.user), .string (St x.e.group), .int .i64 x.e.major, .int .i64 x.e.minor, .string (St x.e.data)]) ∧ Below W.heap.size W w' from document20_any x W (hgk.below h))
      have hq : ∀ w, (binOp .neq 142 (.agg #[.string (St x.e.name), .int .u8 (x.e.kind.toNat : Int), .int .i64 x.e.mode, .int .i64 x.e.uid, .int .i64 x.e.gid, .int .i64 x.e.time, .string (St x.e.link), .string (St x.e.user), .string (St x.e.group), .int .i64 x.e.major, .int .i64 x.e.minor, .string (St x.e.data)]) (.agg #[.string (St x.e.name), .int .u8 (x.e.kind.toNat : Int), .int .i64 x.e.mode, .int .i64 x.e.uid, .int .i64 x.e.gid, .int .i64 x.e.time, .string (St x.e.link), .string (St x.e.user), .string (St x.e.group), .int .i64 x.e.major, .int .i64 x.e.minor, .string (St x.e.data)])).run Tryd.prog w = .ok (.bool false) w := fun w => by
        have h := neq_ent x.e x.e w
        rw [(eqE_true _ _).2 rfl] at h
        exact h
      have HBD := Lib.hid hbd; have HDR := Lib.hid (show Below wr.heap.size wr wr.drew from (Below.refl _ _).drew)
      clear hgk hbd
      go_wp2_with fail
      go_region_with (go_at_call 101; refine (HDO.out _ ?_).mono ?_; exact HDR.out; rintro e w2 ⟨rfl, hb2⟩; have hbw2 := noted HBD.out hb2; obtain ⟨b', hb', k0, k1, k2, k3, k4, k5, k6, k7, k8, k9, k10, k11⟩ := HBK.out w2 hbw2; obtain rfl := Option.some.inj hb')
      all_goals
        clear k0 k1 k2 k3 k4 k5 k6 k7 k8 k9 k10 k11 q0 q1 q2 q3 q4 q5 q6 q7 q8 q9 q10 q11 g0 g1 g2 g3 g4 g5 g6 g7 g8 g9 g10 g11 hq
        go_wp2_with fail
        go_roundw
        case rel => exact ⟨k + 1, by omega, by go_num, hbw2⟩
        case measure => simp [intOf]; omega
    · obtain rfl : k = n := by omega
      go_wp2_with fail
      go_ret
      exact ⟨rfl, hbel⟩
end Go.Proofs.YtbioclpobmgikaaDoor
