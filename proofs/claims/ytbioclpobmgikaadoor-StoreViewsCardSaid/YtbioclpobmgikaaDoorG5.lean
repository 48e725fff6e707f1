/- Is a store right: walks. -/
import Derived.Test.YtbioclpobmgikaaDoorG4
import Derived.Test.YtbioclpobmgikaaDoorG3
namespace Go.Proofs.YtbioclpobmgikaaDoor
open Go.RowKit

theorem errV_pos (k : Nat) (h : k ≠ 0) : errV k = .iface 54 (.int .i64 (k : Int)) := by rw [errV, if_neg h]
theorem checkS_many (s : St2) (h : 256 < s.length) : checkS s = 14 := by rw [checkS, if_pos h]

set_option maxHeartbeats 2000000 in
set_option maxRecDepth 100000 in
theorem check_any (bl : List Bl) (A : Option Addr) (c : Nat) (w : World) (hL : Laid w) (hr : RowAt w A bl) (hg : AllGood w bl) (hn : bl.length ≤ 1000) (hc : bl.length ≤ c) (hd : ∀ b ∈ bl, b.data.length ≤ 10000000) (hnm : ∀ b ∈ bl, b.name.length ≤ 1000000) :
    Calls Tryd.prog 65 #[.slice A bl.length c] w fun e w' => e = .returned (errV (checkS (bl.map Bl.abs))) ∧ Below w.heap.size w w' := by
  have htl := St_toList
  have HR := Lib.hid hr; have HD := Lib.hid hd; have HG := Lib.hid hg; have HLL := Lib.hid hL; have HNM := Lib.hid hnm
  clear hr hd hg hL hnm
  generalize hl : bl.length = n at *
  have HL := Lib.hid hl
  clear hl
  by_cases h256 : 256 < n
  · have hd1 : decide ((n : Int) > 256) = true := decide_eq_true (by omega)
    have HP := Lib.hid (checkS_many (bl.map Bl.abs) (by rw [List.length_map, HL.out]; exact h256))
    clear h256
    go_enter Tryd.func65, Tryd.ntmps65
    go_wp2_with fail
    go_ret
    exact ⟨by rw [HP.out]; rfl, Below.refl _ _⟩
  · have hd1 : decide ((n : Int) > 256) = false := decide_eq_false (by omega)
    go_enter Tryd.func65, Tryd.ntmps65
    go_wp2_with fail
    go_loopw [3, 4, 11] (fun _ _ vi wr => ∃ k : Nat, k ≤ n ∧ vi = .int .i64 (k : Int) ∧ Hid (∀ j, j < k → checkAt (bl.map Bl.abs) j = 0) ∧ Below w.heap.size w wr) (fun _ _ v _ => n - (intOf v).toNat)
    case atStart => exact ⟨0, by omega, rfl, Lib.hid (fun j hj => by omega), Below.refl _ _⟩
    case round =>
      obtain ⟨k, hk, rfl, HF, hbel⟩ := hrel
      by_cases hlt : k < n
      · obtain ⟨a, rfl, g1, g2⟩ := HR.out.below hbel k (by rw [HL.out]; exact hlt)
        have hmem := getD_mem bl k (by rw [HL.out]; exact hlt)
        have hdk := HD.out _ hmem
        have hnk := HNM.out _ hmem
        have HGK := Lib.hid ((HG.out _ hmem).below hbel)
        have HCA := Lib.hid (show checkAt (bl.map Bl.abs) k = if isName (bl.getD k bl0).name = false then 2 else if 0 < k ∧ Op.bytesLess (bl.getD (k - 1) bl0).name (bl.getD k bl0).name = false then 1 else if 1048576 < (bl.getD k bl0).data.length then 3 else if (bl.getD k bl0).name ≠ nameOf (bl.getD k bl0).data then 6 else if 8388608 < total (bl.take (k + 1)) then 5 else 0 by
          unfold checkAt
          rw [abs_getD _ _ (by rw [HL.out]; exact hlt), abs_getD _ _ (by rw [HL.out]; omega), totalS_abs, List.map_take]
          rfl)
        have HHIT := Lib.hid (fun (h : checkAt (bl.map Bl.abs) k ≠ 0) => checkS_hit (bl.map Bl.abs) k (by rw [List.length_map, HL.out]; omega) (by rw [List.length_map, HL.out]; exact hlt) h HF.out)
        have HF2 := Lib.hid (fun (h : checkAt (bl.map Bl.abs) k = 0) => show ∀ j, j < k + 1 → checkAt (bl.map Bl.abs) j = 0 from fun j hj => by
          by_cases hjk : j = k
          · rw [hjk]; exact h
          · exact HF.out j (by omega))
        have HPREV := Lib.hid (fun (p : Nat) (hp : p + 1 = k) => (HR.out.below hbel) p (by rw [HL.out]; omega))
        clear HF hmem
        have hsz := hbel.size
        generalize hb : bl.getD k bl0 = b at *
        have HBK := Lib.hid hb
        clear hb
        have hbx : Below wr.heap.size wr (wr.alloc (.cells #[.string (St b.name), .slice b.D b.data.length b.c] 70)) := (Below.refl _ _).alloc (Nat.le_refl _) _
        have hbwx := hbel.alloc hsz (.cells #[.string (St b.name), .slice b.D b.data.length b.c] 70)
        have c0 : (wr.alloc (.cells #[.string (St b.name), .slice b.D b.data.length b.c] 70)).cell? ⟨wr.heap.size, 0, none⟩ = some (.string (St b.name)) := (World.cell?_alloc_new ..).trans rfl
        have c1 : (wr.alloc (.cells #[.string (St b.name), .slice b.D b.data.length b.c] 70)).cell? ⟨wr.heap.size, 1, none⟩ = some (.slice b.D b.data.length b.c) := (World.cell?_alloc_new ..).trans rfl
        have hs2 : (wr.alloc (.cells #[.string (St b.name), .slice b.D b.data.length b.c] 70)).heap.size = wr.heap.size + 1 := by simp
        have HVER := Lib.hid (fun W (h : Below w.heap.size w W) (h2 : Below wr.heap.size wr W) => verify_any b.name b.data b.D b.c W (HLL.out.below h) (HGK.out.2.2.below h2) HGK.out.1 (by omega) (by omega))
        have HSIZ := Lib.hid (fun W (h : Below w.heap.size w W) => size_any (bl.take (k + 1)) (some a) c W ((HR.out.below h).to (k + 1)) (by rw [List.length_take, HL.out]; omega) (fun x hx => HD.out x (List.mem_of_mem_take hx)))
        have hs := fun w => run_blobs_to w a n c (k + 1) (by omega)
        rw [show ((k + 1 : Nat) : Int) = (k : Int) + 1 by omega] at hs
        have HS := Lib.hid hs
        have HIS := Lib.hid (is_any b.name (wr.alloc (.cells #[.string (St b.name), .slice b.D b.data.length b.c] 70)) (by omega))
        have hlt2 : (k : Int) < (n : Int) := by omega
        generalize hdl : b.data.length = dl at *
        have HDL := Lib.hid hdl
        clear hs hdl
        go_wp2_with fail
        generalize wr.alloc (.cells #[.string (St b.name), .slice b.D dl b.c] 70) = wi at *
        have C0 := Lib.hid (fun W (h : Below wi.heap.size wi W) => (h.cell (p := ⟨wr.heap.size, 0, none⟩) (by show wr.heap.size < _; omega)).trans c0)
        have C1 := Lib.hid (fun W (h : Below wi.heap.size wi W) => (h.cell (p := ⟨wr.heap.size, 1, none⟩) (by show wr.heap.size < _; omega)).trans c1)
        have HBW := Lib.hid (fun W (h : Below wi.heap.size wi W) => hbwx.trans (h.mono hbwx.size))
        have HBX := Lib.hid (fun W (h : Below wi.heap.size wi W) => hbx.trans (h.mono hbx.size))
        clear c0 c1 hbx hbwx g1 g2
        refine HIS.out.mono ?_
        rintro e w1 ⟨rfl, hb1⟩
        cases hnm : isName b.name with
        | false =>
          have HP := Lib.hid (show checkS (bl.map Bl.abs) = 2 by
            have h2 : checkAt (bl.map Bl.abs) k = 2 := by rw [HCA.out, if_pos hnm]
            rw [HHIT.out (by rw [h2]; decide), h2])
          clear HCA HHIT HF2 HPREV HVER HSIZ hnm
          go_wp2_with fail
          go_ret
          exact ⟨by rw [HP.out]; rfl, HBW.out _ hb1⟩
        | true =>
          have HCA2 := Lib.hid (show checkAt (bl.map Bl.abs) k = if 0 < k ∧ Op.bytesLess (bl.getD (k - 1) bl0).name b.name = false then 1 else if 1048576 < dl then 3 else if b.name ≠ nameOf b.data then 6 else if 8388608 < total (bl.take (k + 1)) then 5 else 0 by rw [HCA.out, if_neg (by rw [hnm]; decide)])
          clear HCA hnm
          have k0 := C0.out w1 hb1
          by_cases hk0 : k = 0
          · have hdk0 : decide ((k : Int) > 0) = false := decide_eq_false (by omega)
            have hdk1 : decide (0 < k) = false := decide_eq_false (by omega)
            have HCA3 := Lib.hid (show checkAt (bl.map Bl.abs) k = if 1048576 < dl then 3 else if b.name ≠ nameOf b.data then 6 else if 8388608 < total (bl.take (k + 1)) then 5 else 0 by rw [HCA2.out, if_neg (by omega)])
            clear HCA2 hk0
            go_wp2_with fail
            go_quiet (fail)
            clear k0
            have hb2 := below_drewN hb1 nq
            have k0 := C0.out _ hb2
            have k1 := C1.out _ hb2
            generalize w1.drewN nq = w2 at *
            clear hb1
            by_cases h3 : 1048576 < dl
            · have hd3 : decide ((dl : Int) > 1048576) = true := decide_eq_true (by omega)
              have HP := Lib.hid (show checkS (bl.map Bl.abs) = 3 by
                have h2 : checkAt (bl.map Bl.abs) k = 3 := by rw [HCA3.out, if_pos h3]
                rw [HHIT.out (by rw [h2]; decide), h2])
              clear HCA3 HHIT HF2 HPREV HVER HSIZ h3
              go_wp2_with fail
              go_ret
              exact ⟨by rw [HP.out]; rfl, HBW.out _ hb2⟩
            · have hd3 : decide ((dl : Int) > 1048576) = false := decide_eq_false (by omega)
              have HCA4 := Lib.hid (show checkAt (bl.map Bl.abs) k = if b.name ≠ nameOf b.data then 6 else if 8388608 < total (bl.take (k + 1)) then 5 else 0 by rw [HCA3.out, if_neg h3])
              have hve := HVER.out w2 (HBW.out _ hb2) (HBX.out _ hb2)
              clear HCA3 HVER h3
              by_cases hv : b.name = nameOf b.data
              · have hv0 : verifyN b.name b.data = 0 := (verifyN_zero _ _).2 hv
                rw [hv0, show errV 0 = .nilIface from rfl] at hve
                have HVE := Lib.hid hve
                have HCA5 := Lib.hid (show checkAt (bl.map Bl.abs) k = if 8388608 < total (bl.take (k + 1)) then 5 else 0 by rw [HCA4.out, if_neg (by simpa using hv)])
                clear hve HCA4 hv hv0
                go_wp2_with fail
                refine HVE.out.mono ?_
                rintro e w3 ⟨rfl, hb3⟩
                have hb23 := hb2.trans (hb3.mono hb2.size)
                have hsi := HSIZ.out w3 (HBW.out _ hb23)
                have htot : total (bl.take (k + 1)) ≤ 10000000 * (bl.take (k + 1)).length := total_le _ (fun x hx => HD.out x (List.mem_of_mem_take hx))
                have hlen : (bl.take (k + 1)).length = k + 1 := by rw [List.length_take, HL.out]; omega
                rw [hlen] at hsi htot
                have htot2 : total (bl.take (k + 1)) ≤ 10000000000 := by omega
                have HSI := Lib.hid hsi
                have hs := HS.out
                clear hsi htot hlen HSIZ k0 k1
                generalize total (bl.take (k + 1)) = tt at *
                by_cases h8 : 8388608 < tt
                · have hd8 : decide ((tt : Int) > 8388608) = true := decide_eq_true (by omega)
                  have HP := Lib.hid (show checkS (bl.map Bl.abs) = 5 by
                    have h2 : checkAt (bl.map Bl.abs) k = 5 := by rw [HCA5.out, if_pos h8]
                    rw [HHIT.out (by rw [h2]; decide), h2])
                  clear HCA5 HHIT HF2 HPREV h8
                  go_wp2_with fail
                  refine HSI.out.mono ?_
                  rintro e w4 ⟨rfl, hb4⟩
                  have hb24 := hb23.trans (hb4.mono hb23.size)
                  go_wp2_with fail
                  go_ret
                  exact ⟨by rw [HP.out]; rfl, HBW.out _ hb24⟩
                · have hd8 : decide ((tt : Int) > 8388608) = false := decide_eq_false (by omega)
                  have HF3 := Lib.hid (HF2.out (by rw [HCA5.out, if_neg h8]))
                  clear HCA5 HHIT HF2 HPREV h8
                  go_wp2_with fail
                  refine HSI.out.mono ?_
                  rintro e w4 ⟨rfl, hb4⟩
                  have hb24 := hb23.trans (hb4.mono hb23.size)
                  go_wp2_with fail
                  go_roundw
                  case rel => exact ⟨k + 1, by omega, by go_num, HF3, HBW.out _ hb24⟩
                  case measure => simp [intOf]; omega
              · have hv0 : verifyN b.name b.data ≠ 0 := fun h => hv ((verifyN_zero _ _).1 h)
                rw [errV_pos _ hv0] at hve
                have HVE := Lib.hid hve
                have HP := Lib.hid (show checkS (bl.map Bl.abs) = 6 by
                  have h2 : checkAt (bl.map Bl.abs) k = 6 := by rw [HCA4.out, if_pos (by simpa using hv)]
                  rw [HHIT.out (by rw [h2]; decide), h2])
                clear hve HCA4 hv HHIT HF2 HPREV HSIZ
                generalize verifyN b.name b.data = vn at *
                go_wp2_with fail
                refine HVE.out.mono ?_
                rintro e w3 ⟨rfl, hb3⟩
                have hb23 := hb2.trans (hb3.mono hb2.size)
                go_wp2_with fail
                go_ret
                exact ⟨by rw [HP.out]; rfl, HBW.out _ hb23⟩
          · have hdk0 : decide ((k : Int) > 0) = true := decide_eq_true (by omega)
            have hdk1 : decide (0 < k) = true := decide_eq_true (by omega)
            obtain ⟨p, hp⟩ : ∃ p, p + 1 = k := ⟨k - 1, by omega⟩
            have e1 : (k : Int) - 1 = (p : Int) := by omega
            obtain ⟨a', ha', g5, _⟩ := HPREV.out p hp
            obtain rfl := Option.some.inj ha'
            have g6 := ((HBX.out w1 hb1).cell (p := a.add (p * 2)) (World.block_lt_of_cell? wr _ g5)).trans g5
            have hpn : p < n := by omega
            have hkp : k - 1 = p := by omega
            rw [hkp] at HCA2
            clear g5 HPREV ha' hkp hp
            generalize (bl.getD p bl0).name = pn at *
            cases hbl : Op.bytesLess pn b.name with
            | false =>
              have HP := Lib.hid (show checkS (bl.map Bl.abs) = 1 by
                have h2 : checkAt (bl.map Bl.abs) k = 1 := by rw [HCA2.out, if_pos ⟨by omega, hbl⟩]
                rw [HHIT.out (by rw [h2]; decide), h2])
              clear HCA2 HHIT HF2 HVER HSIZ
              go_wp2_with fail
              go_quiet (fail)
              have hb2 := below_drewN hb1 nq
              generalize w1.drewN nq = w2 at *
              go_wp2_with fail
              go_ret
              exact ⟨by rw [HP.out]; rfl, HBW.out _ hb2⟩
            | true =>
              have HCA3 := Lib.hid (show checkAt (bl.map Bl.abs) k = if 1048576 < dl then 3 else if b.name ≠ nameOf b.data then 6 else if 8388608 < total (bl.take (k + 1)) then 5 else 0 by rw [HCA2.out, if_neg (fun h => by rw [hbl] at h; cases h.2)])
              have HPREV : Hid True := Lib.hid trivial
              clear HCA2
              go_wp2_with fail
              go_quiet (fail)
              clear k0 g6
              have hb2 := below_drewN hb1 nq
              have k0 := C0.out _ hb2
              have k1 := C1.out _ hb2
              generalize w1.drewN nq = w2 at *
              clear hb1
              by_cases h3 : 1048576 < dl
              · have hd3 : decide ((dl : Int) > 1048576) = true := decide_eq_true (by omega)
                have HP := Lib.hid (show checkS (bl.map Bl.abs) = 3 by
                  have h2 : checkAt (bl.map Bl.abs) k = 3 := by rw [HCA3.out, if_pos h3]
                  rw [HHIT.out (by rw [h2]; decide), h2])
                clear HCA3 HHIT HF2 HPREV HVER HSIZ h3
                go_wp2_with fail
                go_ret
                exact ⟨by rw [HP.out]; rfl, HBW.out _ hb2⟩
              · have hd3 : decide ((dl : Int) > 1048576) = false := decide_eq_false (by omega)
                have HCA4 := Lib.hid (show checkAt (bl.map Bl.abs) k = if b.name ≠ nameOf b.data then 6 else if 8388608 < total (bl.take (k + 1)) then 5 else 0 by rw [HCA3.out, if_neg h3])
                have hve := HVER.out w2 (HBW.out _ hb2) (HBX.out _ hb2)
                clear HCA3 HVER h3
                by_cases hv : b.name = nameOf b.data
                · have hv0 : verifyN b.name b.data = 0 := (verifyN_zero _ _).2 hv
                  rw [hv0, show errV 0 = .nilIface from rfl] at hve
                  have HVE := Lib.hid hve
                  have HCA5 := Lib.hid (show checkAt (bl.map Bl.abs) k = if 8388608 < total (bl.take (k + 1)) then 5 else 0 by rw [HCA4.out, if_neg (by simpa using hv)])
                  clear hve HCA4 hv hv0
                  go_wp2_with fail
                  refine HVE.out.mono ?_
                  rintro e w3 ⟨rfl, hb3⟩
                  have hb23 := hb2.trans (hb3.mono hb2.size)
                  have hsi := HSIZ.out w3 (HBW.out _ hb23)
                  have htot : total (bl.take (k + 1)) ≤ 10000000 * (bl.take (k + 1)).length := total_le _ (fun x hx => HD.out x (List.mem_of_mem_take hx))
                  have hlen : (bl.take (k + 1)).length = k + 1 := by rw [List.length_take, HL.out]; omega
                  rw [hlen] at hsi htot
                  have htot2 : total (bl.take (k + 1)) ≤ 10000000000 := by omega
                  have HSI := Lib.hid hsi
                  have hs := HS.out
                  clear hsi htot hlen HSIZ k0 k1
                  generalize total (bl.take (k + 1)) = tt at *
                  by_cases h8 : 8388608 < tt
                  · have hd8 : decide ((tt : Int) > 8388608) = true := decide_eq_true (by omega)
                    have HP := Lib.hid (show checkS (bl.map Bl.abs) = 5 by
                      have h2 : checkAt (bl.map Bl.abs) k = 5 := by rw [HCA5.out, if_pos h8]
                      rw [HHIT.out (by rw [h2]; decide), h2])
                    clear HCA5 HHIT HF2 HPREV h8
                    go_wp2_with fail
                    refine HSI.out.mono ?_
                    rintro e w4 ⟨rfl, hb4⟩
                    have hb24 := hb23.trans (hb4.mono hb23.size)
                    go_wp2_with fail
                    go_ret
                    exact ⟨by rw [HP.out]; rfl, HBW.out _ hb24⟩
                  · have hd8 : decide ((tt : Int) > 8388608) = false := decide_eq_false (by omega)
                    have HF3 := Lib.hid (HF2.out (by rw [HCA5.out, if_neg h8]))
                    clear HCA5 HHIT HF2 HPREV h8
                    go_wp2_with fail
                    refine HSI.out.mono ?_
                    rintro e w4 ⟨rfl, hb4⟩
                    have hb24 := hb23.trans (hb4.mono hb23.size)
                    go_wp2_with fail
                    go_roundw
                    case rel => exact ⟨k + 1, by omega, by go_num, HF3, HBW.out _ hb24⟩
                    case measure => simp [intOf]; omega
                · have hv0 : verifyN b.name b.data ≠ 0 := fun h => hv ((verifyN_zero _ _).1 h)
                  rw [errV_pos _ hv0] at hve
                  have HVE := Lib.hid hve
                  have HP := Lib.hid (show checkS (bl.map Bl.abs) = 6 by
                    have h2 : checkAt (bl.map Bl.abs) k = 6 := by rw [HCA4.out, if_pos (by simpa using hv)]
                    rw [HHIT.out (by rw [h2]; decide), h2])
                  clear hve HCA4 hv HHIT HF2 HPREV HSIZ
                  generalize verifyN b.name b.data = vn at *
                  go_wp2_with fail
                  refine HVE.out.mono ?_
                  rintro e w3 ⟨rfl, hb3⟩
                  have hb23 := hb2.trans (hb3.mono hb2.size)
                  go_wp2_with fail
                  go_ret
                  exact ⟨by rw [HP.out]; rfl, HBW.out _ hb23⟩
      · obtain rfl : k = n := by omega
        have HP := Lib.hid (show checkS (bl.map Bl.abs) = 0 from checkS_none _ (by rw [List.length_map, HL.out]; omega) (by rw [List.length_map, HL.out]; exact HF.out))
        go_wp2_with fail
        go_ret
        exact ⟨by rw [HP.out]; rfl, hbel⟩
end Go.Proofs.YtbioclpobmgikaaDoor
namespace Go.Proofs.YtbioclpobmgikaaDoor
open Go.RowKit

theorem run_docs_to (w : World) (a : Addr) (n c p : Nat) (hc : p ≤ c) : (Instr.sliceAt 76 (.slice (some a) n c) none (some (.int .i64 (p : Int))) none).run Tryd.prog w = .ok (.slice (some a) p c) w := by
  unfold Instr.sliceAt Instr.slice
  simp only [Sem.run_bind, run_underlying Tryd.underlying76]
  simp [Instr.sliceBounds, Instr.sliceBound, asIntOf, hc, run_underlying Tryd.underlying76]
  exact fun _ => addr_zero a
theorem DocAt.to {w : World} {A : Option Addr} {s : St2} (h : DocAt w A s) (p : Nat) : DocAt w A (s.take p) := fun j hj => by
  rw [List.length_take] at hj
  obtain ⟨a, ha, h1, h2⟩ := h j (by omega)
  have e : (s.take p).getD j ([], []) = s.getD j ([], []) := by simp [List.getD, show j < p by omega]
  rw [e]
  exact ⟨a, ha, h1, h2⟩
theorem text_bytes (l : List UInt8) (w : World) : (convert 9 22 (.string (St l))).run Tryd.prog w = .ok (.slice (some ⟨w.heap.size, 0, none⟩) l.length (grownCap w l.length 0 5)) (Lib.bytesWorld w 5 (St l)) ∧ Below w.heap.size w (Lib.bytesWorld w 5 (St l)) ∧ BytesAt (Lib.bytesWorld w 5 (St l)) (some ⟨w.heap.size, 0, none⟩) l :=
  ⟨Lib.run_convert_string_bytes w 9 22 5 (St l) Tryd.underlying9 Tryd.underlying22 Tryd.underlying5, Joins.below_bytesWorld _ w 5 (St l) (Nat.le_refl _),
    fun j hj => ⟨_, rfl, by
      rw [add_lit', Nat.zero_add, Lib.bytesWorld_cell w 5 (St l) j hj]
      simp [at8, List.getD, St, hj]⟩⟩
theorem totalS_le (s : St2) (h : ∀ x ∈ s, x.2.length ≤ 1000000) : totalS s ≤ 1000000 * s.length := by
  induction s with
  | nil => simp [totalS]
  | cons b l ih =>
    have h1 := h b (by simp)
    have h2 := ih (fun x hx => h x (by simp [hx]))
    rw [totalS, List.map_cons, List.sum_cons, ← totalS, List.length_cons]
    omega

set_option maxHeartbeats 2000000 in
set_option maxRecDepth 100000 in
theorem check22_any (s : St2) (A : Option Addr) (c : Nat) (w : World) (hr : DocAt w A s) (hn : s.length ≤ 1000) (hc : s.length ≤ c) (hd : ∀ x ∈ s, x.2.length ≤ 1000000) :
    Calls Tryd.prog 66 #[.slice A s.length c] w fun e w' => e = .returned (.int .i64 (checkS s : Nat)) ∧ Below w.heap.size w w' := by
  have htl := St_toList
  have HR := Lib.hid hr; have HD := Lib.hid hd
  clear hr hd
  generalize hl : s.length = n at *
  have HL := Lib.hid hl
  clear hl
  by_cases h256 : 256 < n
  · have hd1 : decide ((n : Int) > 256) = true := decide_eq_true (by omega)
    have HP := Lib.hid (checkS_many s (by rw [HL.out]; exact h256))
    clear h256
    go_enter Tryd.func66, Tryd.ntmps66
    go_wp2_with fail
    go_ret
    exact ⟨by rw [HP.out]; rfl, Below.refl _ _⟩
  · have hd1 : decide ((n : Int) > 256) = false := decide_eq_false (by omega)
    go_enter Tryd.func66, Tryd.ntmps66
    go_wp2_with fail
    go_loopw [3, 4, 10] (fun _ _ vi wr => ∃ k : Nat, k ≤ n ∧ vi = .int .i64 (k : Int) ∧ Hid (∀ j, j < k → checkAt s j = 0) ∧ Below w.heap.size w wr) (fun _ _ v _ => n - (intOf v).toNat)
    case atStart => exact ⟨0, by omega, rfl, Lib.hid (fun j hj => by omega), Below.refl _ _⟩
    case round =>
      obtain ⟨k, hk, rfl, HF, hbel⟩ := hrel
      by_cases hlt : k < n
      · obtain ⟨a, rfl, g1, g2⟩ := HR.out.below hbel k (by rw [HL.out]; exact hlt)
        have hdk := HD.out (s.getD k ([], [])) (by simp [List.getD, HL.out, hlt])
        have HCA := Lib.hid (show checkAt s k = if isName (s.getD k ([], [])).1 = false then 2 else if 0 < k ∧ Op.bytesLess (s.getD (k - 1) ([], [])).1 (s.getD k ([], [])).1 = false then 1 else if (s.getD k ([], [])).1 ≠ nameOf (s.getD k ([], [])).2 then 6 else if 8388608 < totalS (s.take (k + 1)) then 5 else 0 by
          unfold checkAt
          rw [if_neg (show ¬ 1048576 < (s.getD k ([], [])).2.length by omega)])
        have HHIT := Lib.hid (fun (h : checkAt s k ≠ 0) => checkS_hit s k (by rw [HL.out]; omega) (by rw [HL.out]; exact hlt) h HF.out)
        have HF2 := Lib.hid (fun (h : checkAt s k = 0) => show ∀ j, j < k + 1 → checkAt s j = 0 from fun j hj => by
          by_cases hjk : j = k
          · rw [hjk]; exact h
          · exact HF.out j (by omega))
        have HPREV := Lib.hid (fun (p : Nat) (hp : p + 1 = k) => (HR.out.below hbel) p (by rw [HL.out]; omega))
        clear HF
        have hsz := hbel.size
        generalize s.getD k ([], []) = b at *
        obtain ⟨bn, bd⟩ := b
        simp only at g1 g2 hdk HCA
        have hszd : (St bd).size = bd.length := rfl
        have hbx : Below wr.heap.size wr (wr.alloc (.cells #[.string (St bn), .string (St bd)] 134)) := (Below.refl _ _).alloc (Nat.le_refl _) _
        have hbwx := hbel.alloc hsz (.cells #[.string (St bn), .string (St bd)] 134)
        have c0 : (wr.alloc (.cells #[.string (St bn), .string (St bd)] 134)).cell? ⟨wr.heap.size, 0, none⟩ = some (.string (St bn)) := (World.cell?_alloc_new ..).trans rfl
        have c1 : (wr.alloc (.cells #[.string (St bn), .string (St bd)] 134)).cell? ⟨wr.heap.size, 1, none⟩ = some (.string (St bd)) := (World.cell?_alloc_new ..).trans rfl
        have hs2 : (wr.alloc (.cells #[.string (St bn), .string (St bd)] 134)).heap.size = wr.heap.size + 1 := by simp
        have HSIZ := Lib.hid (fun W (h : Below w.heap.size w W) => size22_any (s.take (k + 1)) (some a) c W ((HR.out.below h).to (k + 1)) (by rw [List.length_take, HL.out]; omega) (fun x hx => Nat.le_trans (HD.out x (List.mem_of_mem_take hx)) (by omega)))
        have hs := fun w => run_docs_to w a n c (k + 1) (by omega)
        rw [show ((k + 1 : Nat) : Int) = (k : Int) + 1 by omega] at hs
        have HS := Lib.hid hs
        have HIS := Lib.hid (is5_any bn (wr.alloc (.cells #[.string (St bn), .string (St bd)] 134)))
        have hlt2 : (k : Int) < (n : Int) := by omega
        have H28 := Lib.hid (fun (W : World) => ref5_any bd (some ⟨W.heap.size, 0, none⟩) (grownCap W bd.length 0 5) _ (text_bytes bd W).2.2 (fun h => by cases h) hdk)
        have HTB := Lib.hid (fun (W : World) => (text_bytes bd W).2.1)
        have HCV := Lib.hid (fun (W : World) => (text_bytes bd W).1)
        generalize bd.length = dl at *
        clear hs
        go_wp2_with fail
        generalize wr.alloc (.cells #[.string (St bn), .string (St bd)] 134) = wi at *
        have C0 := Lib.hid (fun W (h : Below wi.heap.size wi W) => (h.cell (p := ⟨wr.heap.size, 0, none⟩) (by show wr.heap.size < _; omega)).trans c0)
        have C1 := Lib.hid (fun W (h : Below wi.heap.size wi W) => (h.cell (p := ⟨wr.heap.size, 1, none⟩) (by show wr.heap.size < _; omega)).trans c1)
        have HBW := Lib.hid (fun W (h : Below wi.heap.size wi W) => hbwx.trans (h.mono hbwx.size))
        have HBX := Lib.hid (fun W (h : Below wi.heap.size wi W) => hbx.trans (h.mono hbx.size))
        clear hbx hbwx g1 g2
        refine HIS.out.mono ?_
        rintro e w1 ⟨rfl, rfl⟩
        cases hnm : isName bn with
        | false =>
          have HP := Lib.hid (show checkS s = 2 by
            have h2 : checkAt s k = 2 := by rw [HCA.out, if_pos hnm]
            rw [HHIT.out (by rw [h2]; decide), h2])
          clear HCA HHIT HF2 HPREV HSIZ hnm c0 c1
          go_wp2_with fail
          go_ret
          exact ⟨by rw [HP.out]; rfl, HBW.out _ (Below.refl _ _)⟩
        | true =>
          have HCA2 := Lib.hid (show checkAt s k = if 0 < k ∧ Op.bytesLess (s.getD (k - 1) ([], [])).1 bn = false then 1 else if bn ≠ nameOf bd then 6 else if 8388608 < totalS (s.take (k + 1)) then 5 else 0 by rw [HCA.out, if_neg (by rw [hnm]; decide)])
          clear HCA hnm c0 c1
          have k0 := C0.out wi (Below.refl _ _)
          by_cases hk0 : k = 0
          · have hdk0 : decide ((k : Int) > 0) = false := decide_eq_false (by omega)
            have hdk1 : decide (0 < k) = false := decide_eq_false (by omega)
            have HCA4 := Lib.hid (show checkAt s k = if bn ≠ nameOf bd then 6 else if 8388608 < totalS (s.take (k + 1)) then 5 else 0 by rw [HCA2.out, if_neg (by omega)])
            clear HCA2 hk0
            go_wp2_with fail
            go_quiet (fail)
            clear k0
            have hb2 := below_drewN (Below.refl wi.heap.size wi) nq
            have k1 := C1.out _ hb2
            generalize wi.drewN nq = w2 at *
            have hd3 : decide ((dl : Int) > 1048576) = false := decide_eq_false (by omega)
            go_wp2_with fail
            have hdr : Below wi.heap.size wi w2.drew := hb2.drew
            have d0 := C0.out _ hdr
            have d1 := C1.out _ hdr
            have hbd : Below wi.heap.size wi (Lib.bytesWorld w2.drew 5 (St bd)) := hdr.trans ((HTB.out w2.drew).mono hdr.size)
            have b0 := C0.out _ hbd
            have cv := HCV.out w2.drew
            have HDR := Lib.hid hdr; have HBD := Lib.hid hbd; have HB2 := Lib.hid hb2
            have K5 := Lib.hid (H28.out w2.drew)
            clear hdr hbd hb2 k1
            by_cases hv : bn = nameOf bd
            · have HCA5 := Lib.hid (show checkAt s k = if 8388608 < totalS (s.take (k + 1)) then 5 else 0 by rw [HCA4.out, if_neg (by simpa using hv)])
              have hq : (nameOf bd == bn) = true := by rw [beq_iff_eq]; exact hv.symm
              clear HCA4 hv
              generalize nameOf bd = q at *
              go_region_with (go_at_call 28; refine K5.out.mono ?_; rintro e w3 ⟨rfl, hb3⟩; have hb23 := HBD.out.trans (hb3.mono HBD.out.size); have e0 := C0.out w3 hb23)
              all_goals
                have hsi := HSIZ.out w3 (HBW.out _ hb23)
                have htot : totalS (s.take (k + 1)) ≤ 1000000 * (s.take (k + 1)).length := totalS_le _ (fun x hx => HD.out x (List.mem_of_mem_take hx))
                have hlen : (s.take (k + 1)).length = k + 1 := by rw [List.length_take, HL.out]; omega
                rw [hlen] at hsi htot
                have htot2 : totalS (s.take (k + 1)) ≤ 10000000000 := by omega
                have HSI := Lib.hid hsi
                have hs := HS.out
                clear hsi htot hlen HSIZ e0 d0 d1 b0 cv K5
                generalize totalS (s.take (k + 1)) = tt at *
                by_cases h8 : 8388608 < tt
                · have hd8 : decide ((tt : Int) > 8388608) = true := decide_eq_true (by omega)
                  have HP := Lib.hid (show checkS s = 5 by
                    have h2 : checkAt s k = 5 := by rw [HCA5.out, if_pos h8]
                    rw [HHIT.out (by rw [h2]; decide), h2])
                  clear HCA5 HHIT HF2 HPREV h8
                  go_wp2_with fail
                  refine HSI.out.mono ?_
                  rintro e w4 ⟨rfl, hb4⟩
                  have hb24 := hb23.trans (hb4.mono hb23.size)
                  go_wp2_with fail
                  go_ret
                  exact ⟨by rw [HP.out]; rfl, HBW.out _ hb24⟩
                · have hd8 : decide ((tt : Int) > 8388608) = false := decide_eq_false (by omega)
                  have HF3 := Lib.hid (HF2.out (by rw [HCA5.out, if_neg h8]))
                  clear HCA5 HHIT HF2 HPREV h8
                  go_wp2_with fail
                  refine HSI.out.mono ?_
                  rintro e w4 ⟨rfl, hb4⟩
                  have hb24 := hb23.trans (hb4.mono hb23.size)
                  go_wp2_with fail
                  go_roundw
                  case rel => exact ⟨k + 1, by omega, by go_num, HF3, HBW.out _ hb24⟩
                  case measure => simp [intOf]; omega
            · have HP := Lib.hid (show checkS s = 6 by
                have h2 : checkAt s k = 6 := by rw [HCA4.out, if_pos (by simpa using hv)]
                rw [HHIT.out (by rw [h2]; decide), h2])
              have hq : (nameOf bd == bn) = false := by rw [beq_eq_false_iff_ne]; exact fun h => hv h.symm
              clear HCA4 hv HHIT HF2 HPREV HSIZ
              generalize nameOf bd = q at *
              go_region_with (go_at_call 28; refine K5.out.mono ?_; rintro e w3 ⟨rfl, hb3⟩; have hb23 := HBD.out.trans (hb3.mono HBD.out.size); have e0 := C0.out w3 hb23)
              all_goals
                go_wp2_with fail
                go_ret
                exact ⟨by rw [HP.out]; rfl, HBW.out _ hb23⟩
          · have hdk0 : decide ((k : Int) > 0) = true := decide_eq_true (by omega)
            have hdk1 : decide (0 < k) = true := decide_eq_true (by omega)
            obtain ⟨p, hp⟩ : ∃ p, p + 1 = k := ⟨k - 1, by omega⟩
            have e1 : (k : Int) - 1 = (p : Int) := by omega
            obtain ⟨a', ha', g5, _⟩ := HPREV.out p hp
            obtain rfl := Option.some.inj ha'
            have g6 := ((HBX.out wi (Below.refl _ _)).cell (p := a.add (p * 2)) (World.block_lt_of_cell? wr _ g5)).trans g5
            have hpn : p < n := by omega
            have hkp : k - 1 = p := by omega
            rw [hkp] at HCA2
            clear g5 HPREV ha' hkp hp
            generalize (s.getD p ([], [])).1 = pn at *
            cases hbl : Op.bytesLess pn bn with
            | false =>
              have HP := Lib.hid (show checkS s = 1 by
                have h2 : checkAt s k = 1 := by rw [HCA2.out, if_pos ⟨by omega, hbl⟩]
                rw [HHIT.out (by rw [h2]; decide), h2])
              clear HCA2 HHIT HF2 HSIZ
              go_wp2_with fail
              go_quiet (fail)
              have hb2 := below_drewN (Below.refl wi.heap.size wi) nq
              generalize wi.drewN nq = w2 at *
              go_wp2_with fail
              go_ret
              exact ⟨by rw [HP.out]; rfl, HBW.out _ hb2⟩
            | true =>
              have HCA4 := Lib.hid (show checkAt s k = if bn ≠ nameOf bd then 6 else if 8388608 < totalS (s.take (k + 1)) then 5 else 0 by rw [HCA2.out, if_neg (fun h => by rw [hbl] at h; cases h.2)])
              have HPREV : Hid True := Lib.hid trivial
              clear HCA2
              go_wp2_with fail
              go_quiet (fail)
              clear k0 g6
              have hb2 := below_drewN (Below.refl wi.heap.size wi) nq
              have k1 := C1.out _ hb2
              generalize wi.drewN nq = w2 at *
              have hd3 : decide ((dl : Int) > 1048576) = false := decide_eq_false (by omega)
              go_wp2_with fail
              have hdr : Below wi.heap.size wi w2.drew := hb2.drew
              have d0 := C0.out _ hdr
              have d1 := C1.out _ hdr
              have hbd : Below wi.heap.size wi (Lib.bytesWorld w2.drew 5 (St bd)) := hdr.trans ((HTB.out w2.drew).mono hdr.size)
              have b0 := C0.out _ hbd
              have cv := HCV.out w2.drew
              have HDR := Lib.hid hdr; have HBD := Lib.hid hbd; have HB2 := Lib.hid hb2
              have K5 := Lib.hid (H28.out w2.drew)
              clear hdr hbd hb2 k1
              by_cases hv : bn = nameOf bd
              · have HCA5 := Lib.hid (show checkAt s k = if 8388608 < totalS (s.take (k + 1)) then 5 else 0 by rw [HCA4.out, if_neg (by simpa using hv)])
                have hq : (nameOf bd == bn) = true := by rw [beq_iff_eq]; exact hv.symm
                clear HCA4 hv
                generalize nameOf bd = q at *
                go_region_with (go_at_call 28; refine K5.out.mono ?_; rintro e w3 ⟨rfl, hb3⟩; have hb23 := HBD.out.trans (hb3.mono HBD.out.size); have e0 := C0.out w3 hb23)
                all_goals
                  have hsi := HSIZ.out w3 (HBW.out _ hb23)
                  have htot : totalS (s.take (k + 1)) ≤ 1000000 * (s.take (k + 1)).length := totalS_le _ (fun x hx => HD.out x (List.mem_of_mem_take hx))
                  have hlen : (s.take (k + 1)).length = k + 1 := by rw [List.length_take, HL.out]; omega
                  rw [hlen] at hsi htot
                  have htot2 : totalS (s.take (k + 1)) ≤ 10000000000 := by omega
                  have HSI := Lib.hid hsi
                  have hs := HS.out
                  clear hsi htot hlen HSIZ e0 d0 d1 b0 cv K5
                  generalize totalS (s.take (k + 1)) = tt at *
                  by_cases h8 : 8388608 < tt
                  · have hd8 : decide ((tt : Int) > 8388608) = true := decide_eq_true (by omega)
                    have HP := Lib.hid (show checkS s = 5 by
                      have h2 : checkAt s k = 5 := by rw [HCA5.out, if_pos h8]
                      rw [HHIT.out (by rw [h2]; decide), h2])
                    clear HCA5 HHIT HF2 HPREV h8
                    go_wp2_with fail
                    refine HSI.out.mono ?_
                    rintro e w4 ⟨rfl, hb4⟩
                    have hb24 := hb23.trans (hb4.mono hb23.size)
                    go_wp2_with fail
                    go_ret
                    exact ⟨by rw [HP.out]; rfl, HBW.out _ hb24⟩
                  · have hd8 : decide ((tt : Int) > 8388608) = false := decide_eq_false (by omega)
                    have HF3 := Lib.hid (HF2.out (by rw [HCA5.out, if_neg h8]))
                    clear HCA5 HHIT HF2 HPREV h8
                    go_wp2_with fail
                    refine HSI.out.mono ?_
                    rintro e w4 ⟨rfl, hb4⟩
                    have hb24 := hb23.trans (hb4.mono hb23.size)
                    go_wp2_with fail
                    go_roundw
                    case rel => exact ⟨k + 1, by omega, by go_num, HF3, HBW.out _ hb24⟩
                    case measure => simp [intOf]; omega
              · have HP := Lib.hid (show checkS s = 6 by
                  have h2 : checkAt s k = 6 := by rw [HCA4.out, if_pos (by simpa using hv)]
                  rw [HHIT.out (by rw [h2]; decide), h2])
                have hq : (nameOf bd == bn) = false := by rw [beq_eq_false_iff_ne]; exact fun h => hv h.symm
                clear HCA4 hv HHIT HF2 HPREV HSIZ
                generalize nameOf bd = q at *
                go_region_with (go_at_call 28; refine K5.out.mono ?_; rintro e w3 ⟨rfl, hb3⟩; have hb23 := HBD.out.trans (hb3.mono HBD.out.size); have e0 := C0.out w3 hb23)
                all_goals
                  go_wp2_with fail
                  go_ret
                  exact ⟨by rw [HP.out]; rfl, HBW.out _ hb23⟩
      · obtain rfl : k = n := by omega
        have HP := Lib.hid (show checkS s = 0 from checkS_none _ (by rw [HL.out]; omega) (by rw [HL.out]; exact HF.out))
        go_wp2_with fail
        go_ret
        exact ⟨by rw [HP.out]; rfl, hbel⟩
end Go.Proofs.YtbioclpobmgikaaDoor
namespace Go.Proofs.YtbioclpobmgikaaDoor
open Go.RowKit

def getN (s : St2) (nm : List UInt8) : Nat := match getS s nm with | .inl k => k | .inr _ => 0
def getB (s : St2) (nm : List UInt8) : List UInt8 := match getS s nm with | .inl _ => [] | .inr d => d
theorem getN_lt (s : St2) (nm : List UInt8) : getN s nm < 100 := by
  unfold getN getS
  split
  · rename_i h
    split at h
    · split at h
      · cases h
      · cases h; omega
    · cases h; omega
  · omega
theorem getS_pos (s : St2) (nm : List UInt8) (k : Nat) (h : getS s nm = .inl k) : k ≠ 0 := by
  unfold getS at h
  split at h
  · split at h
    · cases h
    · cases h; omega
  · cases h; omega
theorem GetAt.both {s : St2} {nm : List UInt8} {w w' : World} {e : Ending} (h : GetAt s nm w w' e) : Below w.heap.size w w' ∧ ∃ A c, e = .returned (.tuple #[.slice A (getB s nm).length c, errV (getN s nm)]) ∧ BytesAt w' A (getB s nm) := by
  obtain ⟨hb, hm⟩ := h
  refine ⟨hb, ?_⟩
  unfold getB getN
  cases hg : getS s nm with
  | inl k =>
    rw [hg] at hm
    exact ⟨none, 0, by rw [hm]; simp only; rw [errV_pos k (getS_pos s nm k hg)]; rfl, fun j hj => by simp at hj⟩
  | inr d =>
    rw [hg] at hm
    obtain ⟨A, c, h1, h2, _, _⟩ := hm
    exact ⟨A, c, h1, h2⟩
theorem GetIs.both {s : St2} {nm : List UInt8} {e : Ending} (h : GetIs s nm e) : e = .returned (.tuple #[.string (St (getB s nm)), .int .i64 (getN s nm : Nat)]) := by
  unfold GetIs at h
  unfold getB getN
  cases hg : getS s nm with
  | inl k => rw [hg] at h; exact h
  | inr d => rw [hg] at h; exact h
theorem checkFrom_lt (s : St2) : ∀ n i, checkFrom s n i < 100
  | 0, _ => by rw [checkFrom]; omega
  | n + 1, i => by
    rw [checkFrom]
    split
    · exact checkFrom_lt s n (i + 1)
    · unfold checkAt
      repeat (first | omega | split)
theorem checkS_lt (s : St2) : checkS s < 100 := by
  unfold checkS
  split
  · omega
  · exact checkFrom_lt s _ _
theorem keep_drop (s : St2) (nm : List UInt8) : keepS (fun x => memT [nm] x == false) s = keepS (fun x => !(eqB x nm)) s := by
  congr 1
  funext x
  rw [Bool.eq_iff_iff]
  simp only [memT, beq_iff_eq, decide_eq_false_iff_not, List.mem_singleton, Bool.not_eq_true', eqB_false]
theorem keep_in (s : St2) (ts : List (List UInt8)) : keepS (fun x => memT ts x == true) s = keepS (memT ts) s := by
  congr 1
  funext x
  cases memT ts x <;> rfl
theorem KeptAt.row {s : St2} {w w' : World} {e : Ending} (h : KeptAt s w w' e) : Below w.heap.size w w' ∧ ∃ A c bl, e = .returned (.slice A bl.length c) ∧ bl.map Bl.abs = s ∧ AllGood w' bl ∧ RowAt w' A bl ∧ bl.length ≤ c ∧ (A = none → c = 0) := by
  obtain ⟨v, bl, rfl, hb, hm, hg, ho⟩ := h
  obtain ⟨A, c, rfl, h1, h2, h3⟩ := own_row ho
  exact ⟨hb, A, c, bl, rfl, hm, fun x hx => (hg x hx).1, h3, h1, h2⟩
theorem names_take (bl : List Bl) (k : Nat) (h : k < bl.length) : (bl.map Bl.name).take (k + 1) = (bl.map Bl.name).take k ++ [(bl.getD k bl0).name] := by
  rw [List.take_add_one, List.getElem?_map, List.getElem?_eq_getElem h]
  simp [List.getD, h]
theorem text_made (w : World) (t : List UInt8) (base : Nat) (h : base ≤ w.heap.size) : (w.alloc (.cells #[.string (St t)] 9)).ownsRow base 9 1 (.slice (some ⟨w.heap.size, 0, none⟩) 1 1) 1 (Ss [t]) :=
  ⟨rfl, .inr ⟨w.heap.size, 1, #[.string (St t)], rfl, h, heap_alloc_new w _, Nat.le_refl _, by unfold maxLen; omega, rfl, rfl⟩⟩
theorem noted {w w1 w2 : World} (h : Below w.heap.size w w1) (h2 : Below w1.heap.size w1 w2) : Below w.heap.size w w2 := h.trans (h2.mono h.size)

end Go.Proofs.YtbioclpobmgikaaDoor
