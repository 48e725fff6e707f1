/- The store of a view: the program's walk. -/
import Derived.Test.YtbioclpobmgikaaDoorVw1
namespace Go.Proofs.YtbioclpobmgikaaDoor
open Go.RowKit

theorem putS_mem (s s' : St2) (d : List UInt8) (h : putS s d = .inr s') : s'.length ≤ s.length + 1 ∧ ∀ x ∈ s', x ∈ s ∨ x.2 = d := by
  unfold putS at h
  split at h
  · cases h
  · split at h
    · split at h
      · cases h; exact ⟨by omega, fun x hx => .inl hx⟩
      · cases h
    · split at h
      · cases h
      · split at h
        · cases h
        · cases h
          refine ⟨by rw [show s.take (setAt s (nameOf d)) ++ [(nameOf d, d)] ++ s.drop (setAt s (nameOf d)) = ins s (nameOf d) d from rfl, ins_length]; omega, fun x hx => ?_⟩
          rcases (ins_mem (nameOf d) d x s).1 hx with rfl | hx
          · exact .inr rfl
          · exact .inl hx
theorem putS_err (s : St2) (d : List UInt8) (k : Nat) (h : putS s d = .inl k) : k ≠ 0 ∧ k < 100 := by
  unfold putS at h
  split at h
  · cases h; decide
  · split at h
    · split at h
      · cases h
      · cases h; decide
    · split at h
      · cases h; decide
      · split at h
        · cases h; decide
        · cases h
theorem unview_err : ∀ (l : List Ent) (s : St2) (k : Nat), unviewFrom s l = .inl k → k ≠ 0 ∧ k < 100
  | [], _, _, h => by cases h
  | e :: l, s, k, h => by
    rw [unviewFrom] at h
    split at h
    · split at h
      · split at h
        · rename_i k' hk; cases h; exact putS_err _ _ _ hk
        · exact unview_err l _ k h
      · cases h; decide
    · exact unview_err l s k h
theorem unview_small (m : Nat) : ∀ (l : List Ent) (s s' : St2), (∀ e ∈ l, e.data.length ≤ m) → (∀ x ∈ s, x.2.length ≤ m) → unviewFrom s l = .inr s' → s'.length ≤ s.length + l.length ∧ ∀ x ∈ s', x.2.length ≤ m
  | [], s, s', _, hs, h => by cases h; exact ⟨by simp, hs⟩
  | e :: l, s, s', hl, hs, h => by
    rw [unviewFrom] at h
    have hl2 := fun e he => hl e (List.mem_cons_of_mem _ he)
    rw [List.length_cons]
    split at h
    · split at h
      · split at h
        · cases h
        · rename_i s2 hk
          have hm := putS_mem _ _ _ hk
          have := unview_small m l s2 s' hl2 (fun x hx => by
            rcases hm.2 x hx with h | h
            · exact hs x h
            · rw [h]; exact hl e (by simp)) h
          exact ⟨by omega, this.2⟩
      · cases h
    · have := unview_small m l s s' hl2 hs h
      exact ⟨by omega, this.2⟩
/-- what Unview answers, as it lies -/
def UnviewAt (u : Nat ⊕ St2) (w w' : World) (e : Ending) : Prop :=
  Below w.heap.size w w' ∧ match u with
  | .inl k => e = .returned (.tuple #[.slice none 0 0, .iface 54 (.int .i64 (k : Int))])
  | .inr s => ∃ A n c, e = .returned (.tuple #[.slice A n c, .nilIface]) ∧ StoreAt w' A n c s
theorem StoreAt.below {w w' : World} {A : Option Addr} {n c : Nat} {s : St2} (h : StoreAt w A n c s) (hb : Below w.heap.size w w') : StoreAt w' A n c s := by
  obtain ⟨bl, h1, h2, h3, h4, h5, h6⟩ := h
  exact ⟨bl, h1, h2, h3, h4, h5.below hb, h6.below hb⟩

set_option maxHeartbeats 4000000 in
set_option maxRecDepth 100000 in
theorem unview_any (l : List En) (A : Option Addr) (c : Nat) (w : World) (hL : Laid w) (hr : EntsAt w A l) (hg : AllEGood w l) (hn : l.length ≤ 200) (hs : ∀ x ∈ l, x.e.name.length ≤ 1000000 ∧ x.e.data.length ≤ 1000000) :
    Calls Tryd.prog 71 #[.slice A l.length c] w fun e w' => UnviewAt (unviewFrom [] (l.map En.e)) w w' e := by
  have HR := Lib.hid hr; have HG := Lib.hid hg; have HLL := Lib.hid hL; have HSM := Lib.hid hs
  clear hr hg hL hs
  generalize hl : l.length = n at *
  have HL := Lib.hid hl
  clear hl
  generalize hU : unviewFrom [] (l.map En.e) = U at *
  have HU := Lib.hid hU
  clear hU
  go_enter Tryd.func71, Tryd.ntmps71
  go_wp2_with fail
  go_loopw [4, 6, 7, 8, 9, 10, 11, 12, 15] (fun vo _ _ _ _ _ _ _ vi wr => ∃ (k : Nat) (s : St2) (B : Option Addr) (m d : Nat), k ≤ n ∧ vi = .int .i64 (k : Int) ∧ vo = .slice B m d ∧ Below w.heap.size w wr ∧ Hid (unviewFrom s ((l.map En.e).drop k) = U) ∧ Hid (s.length ≤ k ∧ ∀ x ∈ s, x.2.length ≤ 1000000) ∧ Hid (StoreAt wr B m d s)) (fun _ _ _ _ _ _ _ _ v _ => n - (intOf v).toNat)
  case atStart => exact ⟨0, [], none, 0, 0, by omega, rfl, rfl, Below.refl _ _, HU, Lib.hid ⟨by simp, fun x hx => by cases hx⟩, Lib.hid ⟨[], rfl, rfl, Nat.le_refl _, fun _ => rfl, fun j hj => by simp at hj, fun x hx => by cases hx⟩⟩
  case round =>
    clear HU
    obtain ⟨k, s, B, m, d, hk, rfl, rfl, hbel, HU, HS, HST⟩ := hrel
    by_cases hlt : k < n
    · obtain ⟨a, rfl, g0, g1, g2, g3, g4, g5, g6, g7, g8, g9, g10, g11⟩ := (HR.out.below hbel).each k (by rw [HL.out]; exact hlt) rfl
      have hmem := en_mem l k (by rw [HL.out]; exact hlt)
      have HGK := Lib.hid ((HG.out _ hmem).below hbel)
      have hsm := HSM.out _ hmem
      have HD := Lib.hid (show (l.map En.e).drop k = (l.getD k en0).e :: (l.map En.e).drop (k + 1) by
        rw [List.drop_eq_getElem_cons (by rw [List.length_map, HL.out]; exact hlt)]
        simp [List.getD, HL.out, hlt])
      generalize l.getD k en0 = x at *
      rw [HD.out, unviewFrom] at HU
      obtain ⟨hs1, hs2⟩ := hsm
      have hsz := hbel.size
      have hbx : Below wr.heap.size wr (wr.alloc (.cells #[.string (St x.e.name), .int .u8 (x.e.kind.toNat : Int), .int .i64 x.e.mode, .int .i64 x.e.uid, .int .i64 x.e.gid, .int .i64 x.e.time, .string (St x.e.link), .string (St x.e.user), .string (St x.e.group), .int .i64 x.e.major, .int .i64 x.e.minor, .slice x.D x.e.data.length x.c] 140)) := (Below.refl _ _).alloc (Nat.le_refl _) _
      have HBX := Lib.hid hbx
      have HBWX := Lib.hid (noted hbel hbx)
      have hlf : (Lib.trimPrefix x.e.name folderP).length ≤ 1000000 := by unfold Lib.trimPrefix; split; (simp; omega); omega
      have hie : isEnt x.e = (Lib.hasPrefix x.e.name folderP && (isName (nameP ++ x.e.name.drop 13) && x.e.kind == 48)) := rfl
      have hfd : Lib.hasPrefix x.e.name folderP = true → Lib.trimPrefix x.e.name folderP = x.e.name.drop 13 := fun h => by unfold Lib.trimPrefix; rw [if_pos h]; rfl
      have hcut : ∀ w, Calls Tryd.prog 82 #[.string (St x.e.name), .string ⟨#[98, 108, 111, 98, 115, 47, 115, 104, 97, 50, 53, 54, 47]⟩] w fun e w' => e = .returned (.tuple #[.string (St (Lib.trimPrefix x.e.name folderP)), .bool (Lib.hasPrefix x.e.name folderP)]) ∧ w' = w := fun w => Tryd.strings_CutPrefix (St x.e.name) ⟨#[98, 108, 111, 98, 115, 47, 115, 104, 97, 50, 53, 54, 47]⟩ w
      have HC := Lib.hid hcut
      have HLO := Lib.hid (fun W => long_any (Lib.trimPrefix x.e.name folderP) W (by omega))
      have HIE := Lib.hid hie; have HFD := Lib.hid hfd; have HLF := Lib.hid hlf
      have hw1 : ∀ W, Below wr.heap.size wr W → Below w.heap.size w W := fun W h => noted hbel h
      have HW1 := Lib.hid hw1
      have HNEXT := Lib.hid (fun (h : isEnt x.e = false) => show unviewFrom s ((l.map En.e).drop (k + 1)) = U by have := HU.out; rwa [if_neg (by rw [h]; decide)] at this)
      have c1 : (wr.alloc (.cells #[.string (St x.e.name), .int .u8 (x.e.kind.toNat : Int), .int .i64 x.e.mode, .int .i64 x.e.uid, .int .i64 x.e.gid, .int .i64 x.e.time, .string (St x.e.link), .string (St x.e.user), .string (St x.e.group), .int .i64 x.e.major, .int .i64 x.e.minor, .slice x.D x.e.data.length x.c] 140)).cell? ⟨wr.heap.size, 1, none⟩ = some (.int .u8 (x.e.kind.toNat : Int)) := (World.cell?_alloc_new ..).trans rfl
      have c11 : (wr.alloc (.cells #[.string (St x.e.name), .int .u8 (x.e.kind.toNat : Int), .int .i64 x.e.mode, .int .i64 x.e.uid, .int .i64 x.e.gid, .int .i64 x.e.time, .string (St x.e.link), .string (St x.e.user), .string (St x.e.group), .int .i64 x.e.major, .int .i64 x.e.minor, .slice x.D x.e.data.length x.c] 140)).cell? ⟨wr.heap.size, 11, none⟩ = some (.slice x.D x.e.data.length x.c) := (World.cell?_alloc_new ..).trans rfl
      have hsx : (wr.alloc (.cells #[.string (St x.e.name), .int .u8 (x.e.kind.toNat : Int), .int .i64 x.e.mode, .int .i64 x.e.uid, .int .i64 x.e.gid, .int .i64 x.e.time, .string (St x.e.link), .string (St x.e.user), .string (St x.e.group), .int .i64 x.e.major, .int .i64 x.e.minor, .slice x.D x.e.data.length x.c] 140)).heap.size = wr.heap.size + 1 := by simp
      have C1 := Lib.hid (fun W (h : Below (wr.alloc (.cells #[.string (St x.e.name), .int .u8 (x.e.kind.toNat : Int), .int .i64 x.e.mode, .int .i64 x.e.uid, .int .i64 x.e.gid, .int .i64 x.e.time, .string (St x.e.link), .string (St x.e.user), .string (St x.e.group), .int .i64 x.e.major, .int .i64 x.e.minor, .slice x.D x.e.data.length x.c] 140)).heap.size (wr.alloc (.cells #[.string (St x.e.name), .int .u8 (x.e.kind.toNat : Int), .int .i64 x.e.mode, .int .i64 x.e.uid, .int .i64 x.e.gid, .int .i64 x.e.time, .string (St x.e.link), .string (St x.e.user), .string (St x.e.group), .int .i64 x.e.major, .int .i64 x.e.minor, .slice x.D x.e.data.length x.c] 140)) W) => (h.cell (p := ⟨wr.heap.size, 1, none⟩) (by show wr.heap.size < _; omega)).trans c1)
      have C11 := Lib.hid (fun W (h : Below (wr.alloc (.cells #[.string (St x.e.name), .int .u8 (x.e.kind.toNat : Int), .int .i64 x.e.mode, .int .i64 x.e.uid, .int .i64 x.e.gid, .int .i64 x.e.time, .string (St x.e.link), .string (St x.e.user), .string (St x.e.group), .int .i64 x.e.major, .int .i64 x.e.minor, .slice x.D x.e.data.length x.c] 140)).heap.size (wr.alloc (.cells #[.string (St x.e.name), .int .u8 (x.e.kind.toNat : Int), .int .i64 x.e.mode, .int .i64 x.e.uid, .int .i64 x.e.gid, .int .i64 x.e.time, .string (St x.e.link), .string (St x.e.user), .string (St x.e.group), .int .i64 x.e.major, .int .i64 x.e.minor, .slice x.D x.e.data.length x.c] 140)) W) => (h.cell (p := ⟨wr.heap.size, 11, none⟩) (by show wr.heap.size < _; omega)).trans c11)
      clear hie hfd hlf hcut hbx hw1 c1 c11 hmem
      generalize hdl : x.e.data.length = dl at *
      have HDL := Lib.hid hdl
      clear hdl
      go_wp2_with fail
      refine (HC.out _).mono ?_
      rintro e w' ⟨rfl, rfl⟩
      generalize wr.alloc (.cells #[.string (St x.e.name), .int .u8 (x.e.kind.toNat : Int), .int .i64 x.e.mode, .int .i64 x.e.uid, .int .i64 x.e.gid, .int .i64 x.e.time, .string (St x.e.link), .string (St x.e.user), .string (St x.e.group), .int .i64 x.e.major, .int .i64 x.e.minor, .slice x.D dl x.c] 140) = wi at *
      clear HC g0 g1 g2 g3 g4 g5 g6 g7 g8 g9 g10 g11
      go_wp2_with fail
      refine (HLO.out wi).mono ?_
      rintro e w2 ⟨hlo, hb2⟩
      unfold LongIs at hlo
      have k1 := C1.out w2 hb2
      cases hpx : Lib.hasPrefix x.e.name folderP with
      | false =>
        have HNX := Lib.hid (HNEXT.out (by rw [HIE.out, hpx]; rfl))
        clear HNEXT HIE HFD HU
        generalize Lib.trimPrefix x.e.name folderP = f at *
        cases hin : isName (nameP ++ f) with
        | false =>
          rw [if_neg (by rw [hin]; decide)] at hlo
          subst hlo
          go_wp2_with fail
          go_roundw
          case rel => exact ⟨k + 1, s, B, m, d, by omega, by go_num, rfl, HW1.out _ (noted HBX.out hb2), HNX, Lib.hid ⟨by have := HS.out.1; omega, HS.out.2⟩, Lib.hid (HST.out.below (noted HBX.out hb2))⟩
          case measure => simp [intOf]; omega
        | true =>
          rw [if_pos hin] at hlo
          subst hlo
          go_wp2_with fail
          go_roundw
          case rel => exact ⟨k + 1, s, B, m, d, by omega, by go_num, rfl, HW1.out _ (noted HBX.out hb2), HNX, Lib.hid ⟨by have := HS.out.1; omega, HS.out.2⟩, Lib.hid (HST.out.below (noted HBX.out hb2))⟩
          case measure => simp [intOf]; omega
      | true =>
        have hfe := HFD.out hpx
        have HNM := Lib.hid (show isName (nameP ++ x.e.name.drop 13) = isName (nameP ++ Lib.trimPrefix x.e.name folderP) by rw [hfe])
        have HVE := Lib.hid (show (nameP ++ x.e.name.drop 13 = nameOf x.e.data) = (nameP ++ Lib.trimPrefix x.e.name folderP = nameOf x.e.data) by rw [hfe])
        clear HFD hfe
        generalize Lib.trimPrefix x.e.name folderP = f at *
        cases hin : isName (nameP ++ f) with
        | false =>
          have HNX := Lib.hid (HNEXT.out (by rw [HIE.out, HNM.out, hin, hpx]; rfl))
          clear HNEXT HIE HU
          rw [if_neg (by rw [hin]; decide)] at hlo
          subst hlo
          go_wp2_with fail
          go_roundw
          case rel => exact ⟨k + 1, s, B, m, d, by omega, by go_num, rfl, HW1.out _ (noted HBX.out hb2), HNX, Lib.hid ⟨by have := HS.out.1; omega, HS.out.2⟩, Lib.hid (HST.out.below (noted HBX.out hb2))⟩
          case measure => simp [intOf]; omega
        | true =>
          rw [if_pos hin] at hlo
          subst hlo
          cases hki : x.e.kind == 48 with
          | false =>
            have HNX := Lib.hid (HNEXT.out (by rw [HIE.out, HNM.out, hin, hpx, hki]; rfl))
            have hkd : ((x.e.kind.toNat : Int) != 48) = true := by
              rw [bne_iff_ne]
              intro h
              rw [beq_eq_false_iff_ne] at hki
              exact hki (UInt8.toNat_inj.1 (by show x.e.kind.toNat = 48; omega))
            clear HNEXT HIE HU hki
            go_wp2_with fail
            go_roundw
            case rel => exact ⟨k + 1, s, B, m, d, by omega, by go_num, rfl, HW1.out _ (noted HBX.out hb2), HNX, Lib.hid ⟨by have := HS.out.1; omega, HS.out.2⟩, Lib.hid (HST.out.below (noted HBX.out hb2))⟩
            case measure => simp [intOf]; omega
          | true =>
            have hkd : ((x.e.kind.toNat : Int) != 48) = false := by
              rw [beq_iff_eq] at hki
              rw [hki]; rfl
            have HIT := Lib.hid (show isEnt x.e = true by rw [HIE.out, HNM.out, hin, hpx, hki]; rfl)
            clear HNEXT HIE hki
            have k11 := C11.out w2 hb2
            have hb02 := noted HBX.out hb2
            have hve := verify_any (nameP ++ f) x.e.data x.D x.c w2 (HLL.out.below (HW1.out _ hb02)) (HGK.out.2.2.below hb02) HGK.out.1 (by have := HLF.out; simp [nameP]; omega) (by rw [HDL.out]; omega)
            by_cases hv : nameP ++ f = nameOf x.e.data
            · have HU1 := Lib.hid (show (match putS s x.e.data with | .inl k => .inl k | .inr s' => unviewFrom s' ((l.map En.e).drop (k + 1))) = U by
                have := HU.out
                rwa [if_pos HIT.out, if_pos (by rw [HVE.out]; exact hv)] at this)
              rw [(verifyN_zero _ _).2 hv, show errV 0 = .nilIface from rfl, HDL.out] at hve
              have HV := Lib.hid hve
              clear HU hve hv
              go_wp2_with fail
              refine HV.out.mono ?_
              rintro e w3 ⟨rfl, hb3⟩
              have hb23 := noted hb2 hb3
              have hb03 := noted hb02 hb3
              have k11 := C11.out w3 hb23
              obtain ⟨bl, hab, rfl, hmd, hBn, hrB, hgB⟩ := HST.out.below hb03
              have hbl : bl.length ≤ 200 ∧ ∀ b ∈ bl, b.data.length ≤ 10000000 := by
                have h1 : s.length = bl.length := by rw [← hab, List.length_map]
                refine ⟨by have := HS.out.1; omega, fun b hb => ?_⟩
                have := HS.out.2 b.abs (by rw [← hab]; exact List.mem_map_of_mem hb)
                exact Nat.le_trans this (by omega)
              have hpu := put_any bl x.e.data B x.D d x.c w3 (HLL.out.below (HW1.out _ hb03)) hrB hgB (by omega) hbl.2 (HGK.out.2.2.below hb03) HGK.out.1 HGK.out.2.1 (by rw [HDL.out]; omega)
              rw [HDL.out] at hpu
              have HPU := Lib.hid hpu; have HAB := Lib.hid hab
              clear hpu hab hBn hrB hgB hmd HV
              generalize bl.length = bn at *
              go_wp2_with fail
              refine HPU.out.mono ?_
              rintro e w4 ⟨hb4, hm⟩
              rw [HAB.out] at hm
              have hb04 := noted hb03 hb4
              cases hps : putS s x.e.data with
              | inl kk =>
                rw [hps] at hm
                subst hm
                have HUF := Lib.hid (show U = .inl kk by rw [← HU1.out, hps])
                clear HU1 hps
                go_wp2_with fail
                go_ret2
                refine ⟨HW1.out _ hb04, ?_⟩
                rw [HUF.out]; rfl
              | inr s' =>
                rw [hps] at hm
                obtain ⟨B', m', d', rfl, hst⟩ := hm
                have HNX := Lib.hid (show unviewFrom s' ((l.map En.e).drop (k + 1)) = U by rw [← HU1.out, hps])
                have hpm := putS_mem _ _ _ hps
                have HS' := Lib.hid (show s'.length ≤ k + 1 ∧ ∀ y ∈ s', y.2.length ≤ 1000000 from ⟨by have := HS.out.1; omega, fun y hy => by
                  rcases hpm.2 y hy with h | h
                  · exact HS.out.2 y h
                  · rw [h, HDL.out]; exact hs2⟩)
                have HST' := Lib.hid hst
                clear HU1 hps hpm hst
                generalize nameOf x.e.data = q at *
                go_wp2_with fail
                go_roundw
                case rel => exact ⟨k + 1, s', B', m', d', by omega, by go_num, rfl, HW1.out _ hb04, HNX, HS', HST'⟩
                case measure => simp [intOf]; omega
            · have HUF := Lib.hid (show U = .inl 6 by
                have := HU.out
                rw [if_pos HIT.out, if_neg (by rw [HVE.out]; exact hv)] at this
                exact this.symm)
              rw [errV_pos _ (fun h => hv ((verifyN_zero _ _).1 h)), HDL.out] at hve
              have HV := Lib.hid hve
              clear HU hve hv
              generalize verifyN (nameP ++ f) x.e.data = vn at *
              go_wp2_with fail
              refine HV.out.mono ?_
              rintro e w3 ⟨rfl, hb3⟩
              have hb03 := noted hb02 hb3
              go_wp2_with fail
              go_ret2
              refine ⟨HW1.out _ hb03, ?_⟩
              rw [HUF.out]; rfl
    · obtain rfl : k = n := by omega
      have hU2 := HU.out
      rw [List.drop_of_length_le (by rw [List.length_map, HL.out]; exact Nat.le_refl _), unviewFrom] at hU2
      have HU2 := Lib.hid hU2
      clear hU2
      go_wp2_with fail
      go_ret2
      refine ⟨hbel, ?_⟩
      rw [← HU2.out]
      exact ⟨B, m, d, rfl, HST.out⟩
end Go.Proofs.YtbioclpobmgikaaDoor
