/- The store of a view: the document's walk. -/
import Derived.Test.YtbioclpobmgikaaDoorVw4
import Derived.Test.YtbioclpobmgikaaDoorVw2
namespace Go.Proofs.YtbioclpobmgikaaDoor
open Go.RowKit

theorem folder_iff (l : List UInt8) : Lib.hasPrefix l folderP = true ↔ l.take 13 = folderP := by
  unfold Lib.hasPrefix
  rw [List.isPrefixOf_iff_prefix, List.prefix_iff_eq_take]
  exact ⟨fun h => h.symm, fun h => h.symm⟩
theorem isName_drop (f : List UInt8) : isName (nameP ++ f) = (f.length == 64 && f.all fun c => (hv c).isSome) := by
  unfold isName
  rw [show (nameP ++ f).take 7 = nameP by rw [List.take_append_of_le_length (by simp [nameP])]; rfl, show (nameP ++ f).drop 7 = f by rw [List.drop_append_of_le_length (by simp [nameP])]; rfl, List.length_append]
  rw [Bool.eq_iff_iff]
  simp [nameP]
  omega
theorem ent_long (x : Ent) (h : x.name.length ≠ 77) : isEnt x = false := by
  unfold isEnt
  rw [isName_drop]
  cases hp : Lib.hasPrefix x.name folderP with
  | false => rfl
  | true =>
    have h1 := (folder_iff _).1 hp
    have h2 := congrArg List.length h1
    rw [List.length_take] at h2
    have h3 : folderP.length = 13 := rfl
    have : ((x.name.drop 13).length == 64) = false := by rw [beq_eq_false_iff_ne, List.length_drop]; omega
    rw [this]; rfl
theorem ent_other (x : Ent) (h : x.name.take 13 ≠ folderP) : isEnt x = false := by
  unfold isEnt
  have : Lib.hasPrefix x.name folderP = false := by
    cases hp : Lib.hasPrefix x.name folderP with
    | false => rfl
    | true => exact absurd ((folder_iff _).1 hp) h
  rw [this]; rfl
theorem ent_kind (x : Ent) (h : x.kind ≠ 48) : isEnt x = false := by
  unfold isEnt
  rw [show (x.kind == 48) = false by rw [beq_eq_false_iff_ne]; exact h]
  simp
theorem ent_eq (x : Ent) (h1 : x.name.length = 77) (h2 : x.name.take 13 = folderP) (h3 : x.kind = 48) : isEnt x = (unhexL (x.name.drop 13)).isSome := by
  unfold isEnt
  rw [isName_drop, (folder_iff _).2 h2, h3, unhexL_iff, List.length_drop, h1]
  simp
theorem run_first13 (n : List UInt8) (h : 13 ≤ n.length) (w : World) : (Instr.slice 9 (.string (St n)) none (some (.int .i64 13)) none).run Tryd.prog w = .ok (.string (St (n.take 13))) w := by
  rw [run_slice_string_to_if w 9 _ _ _ Tryd.underlying9]
  rw [if_pos (by rw [St_size]; omega)]
  congr 2
  apply ByteArray.ext
  simp [St]
theorem run_rest13 (n : List UInt8) (h : 13 ≤ n.length) (w : World) : (Instr.slice 9 (.string (St n)) (some (.int .i64 13)) none none).run Tryd.prog w = .ok (.string (St (n.drop 13))) w := by
  rw [run_slice_string_from_if w 9 _ _ _ Tryd.underlying9]
  rw [if_pos (by rw [St_size]; omega), St_size]
  congr 2
  apply ByteArray.ext
  simp [St]
  rw [List.take_of_length_le (by simp)]
theorem ent_mem (l : List Ent) (j : Nat) (h : j < l.length) : l.getD j ent0 ∈ l := by simp [List.getD, h]
/-- what the document's Unview answers, as it lies -/
def Unview22At (u : Nat ⊕ St2) (w w' : World) (e : Ending) : Prop :=
  Below w.heap.size w w' ∧ match u with
  | .inl k => e = .returned (.tuple #[.slice none 0 0, .int .i64 (k : Int)])
  | .inr s => ∃ A c, e = .returned (.tuple #[.slice (some A) s.length c, .int .i64 0]) ∧ DocAt w' (some A) s ∧ s.length ≤ c

set_option maxHeartbeats 4000000 in
set_option maxRecDepth 100000 in
theorem unview22_any (l : List Ent) (A : Option Addr) (c : Nat) (w : World) (hr : DocsAt w A l) (hn : l.length ≤ 200) (hs : ∀ x ∈ l, x.name.length ≤ 1000 ∧ x.data.length ≤ 900000) :
    Calls Tryd.prog 72 #[.slice A l.length c] w fun e w' => Unview22At (unviewFrom [] l) w w' e := by
  have htl := St_toList
  have HR := Lib.hid hr; have HSM := Lib.hid hs
  clear hr hs
  generalize hl : l.length = n at *
  have HL := Lib.hid hl
  clear hl
  generalize hU : unviewFrom [] l = U at *
  have HU := Lib.hid hU
  clear hU
  have hO0 : (w.alloc (.cells #[] 134)).ownsRow w.heap.size 134 2 (.slice (some ⟨w.heap.size, 0, none⟩) 0 0) 0 (RowS []) := World.ownsRow_made w #[] 0 (Nat.le_refl _) (by unfold maxLen; omega) rfl
  have hB0 : Below w.heap.size w (w.alloc (.cells #[] 134)) := (Below.refl _ _).alloc (Nat.le_refl _) _
  go_enter Tryd.func72, Tryd.ntmps72
  go_wp2_with fail
  go_loopw [4, 6, 7, 8, 9, 10, 11, 15] (fun vo _ _ _ _ _ _ vi wr => ∃ (k : Nat) (s : St2) (B : Addr) (d : Nat), k ≤ n ∧ vi = .int .i64 (k : Int) ∧ vo = .slice (some B) s.length d ∧ Below w.heap.size w wr ∧ Hid (unviewFrom s (l.drop k) = U) ∧ Hid (s.length ≤ k ∧ ∀ x ∈ s, x.2.length ≤ 900000) ∧ Hid (DocAt wr (some B) s) ∧ Hid (s.length ≤ d)) (fun _ _ _ _ _ _ _ v _ => n - (intOf v).toNat)
  case atStart => exact ⟨0, [], ⟨w.heap.size, 0, none⟩, 0, by omega, rfl, rfl, hB0, HU, Lib.hid ⟨by simp, fun x hx => by cases hx⟩, Lib.hid (fun j hj => by simp at hj), Lib.hid (Nat.le_refl _)⟩
  case round =>
    clear HU hO0 hB0
    obtain ⟨k, s, B, d, hk, rfl, rfl, hbel, HU, HS, HST, HSC⟩ := hrel
    by_cases hlt : k < n
    · obtain ⟨a, rfl, g0, g1, g2, g3, g4, g5, g6, g7, g8, g9, g10, g11⟩ := (HR.out.below hbel).each k (by rw [HL.out]; exact hlt) rfl
      have hsm := HSM.out _ (ent_mem l k (by rw [HL.out]; exact hlt))
      have HD := Lib.hid (show l.drop k = l.getD k ent0 :: l.drop (k + 1) by
        rw [List.drop_eq_getElem_cons (by rw [HL.out]; exact hlt)]
        simp [List.getD, HL.out, hlt])
      generalize l.getD k ent0 = x at *
      rw [HD.out, unviewFrom] at HU
      obtain ⟨hs1, hs2⟩ := hsm
      have hsz := hbel.size
      have hbx : Below wr.heap.size wr (wr.alloc (.cells #[.string (St x.name), .int .u8 (x.kind.toNat : Int), .int .i64 x.mode, .int .i64 x.uid, .int .i64 x.gid, .int .i64 x.time, .string (St x.link), .string (St x.user), .string (St x.group), .int .i64 x.major, .int .i64 x.minor, .string (St x.data)] 142)) := (Below.refl _ _).alloc (Nat.le_refl _) _
      have HBX := Lib.hid hbx
      have HW1 := Lib.hid (fun W (h : Below wr.heap.size wr W) => noted hbel h)
      have HNEXT := Lib.hid (fun (h : isEnt x = false) => show unviewFrom s (l.drop (k + 1)) = U by have := HU.out; rwa [if_neg (by rw [h]; decide)] at this)
      have c0 : (wr.alloc (.cells #[.string (St x.name), .int .u8 (x.kind.toNat : Int), .int .i64 x.mode, .int .i64 x.uid, .int .i64 x.gid, .int .i64 x.time, .string (St x.link), .string (St x.user), .string (St x.group), .int .i64 x.major, .int .i64 x.minor, .string (St x.data)] 142)).cell? ⟨wr.heap.size, 0, none⟩ = some (.string (St x.name)) := (World.cell?_alloc_new ..).trans rfl
      have c11 : (wr.alloc (.cells #[.string (St x.name), .int .u8 (x.kind.toNat : Int), .int .i64 x.mode, .int .i64 x.uid, .int .i64 x.gid, .int .i64 x.time, .string (St x.link), .string (St x.user), .string (St x.group), .int .i64 x.major, .int .i64 x.minor, .string (St x.data)] 142)).cell? ⟨wr.heap.size, 11, none⟩ = some (.string (St x.data)) := (World.cell?_alloc_new ..).trans rfl
      have hsx : (wr.alloc (.cells #[.string (St x.name), .int .u8 (x.kind.toNat : Int), .int .i64 x.mode, .int .i64 x.uid, .int .i64 x.gid, .int .i64 x.time, .string (St x.link), .string (St x.user), .string (St x.group), .int .i64 x.major, .int .i64 x.minor, .string (St x.data)] 142)).heap.size = wr.heap.size + 1 := by simp
      have C0 := Lib.hid (fun W (h : Below (wr.alloc (.cells #[.string (St x.name), .int .u8 (x.kind.toNat : Int), .int .i64 x.mode, .int .i64 x.uid, .int .i64 x.gid, .int .i64 x.time, .string (St x.link), .string (St x.user), .string (St x.group), .int .i64 x.major, .int .i64 x.minor, .string (St x.data)] 142)).heap.size (wr.alloc (.cells #[.string (St x.name), .int .u8 (x.kind.toNat : Int), .int .i64 x.mode, .int .i64 x.uid, .int .i64 x.gid, .int .i64 x.time, .string (St x.link), .string (St x.user), .string (St x.group), .int .i64 x.major, .int .i64 x.minor, .string (St x.data)] 142)) W) => (h.cell (p := ⟨wr.heap.size, 0, none⟩) (by show wr.heap.size < _; omega)).trans c0)
      have C11 := Lib.hid (fun W (h : Below (wr.alloc (.cells #[.string (St x.name), .int .u8 (x.kind.toNat : Int), .int .i64 x.mode, .int .i64 x.uid, .int .i64 x.gid, .int .i64 x.time, .string (St x.link), .string (St x.user), .string (St x.group), .int .i64 x.major, .int .i64 x.minor, .string (St x.data)] 142)).heap.size (wr.alloc (.cells #[.string (St x.name), .int .u8 (x.kind.toNat : Int), .int .i64 x.mode, .int .i64 x.uid, .int .i64 x.gid, .int .i64 x.time, .string (St x.link), .string (St x.user), .string (St x.group), .int .i64 x.major, .int .i64 x.minor, .string (St x.data)] 142)) W) => (h.cell (p := ⟨wr.heap.size, 11, none⟩) (by show wr.heap.size < _; omega)).trans c11)
      have hszn : (St x.name).size = x.name.length := rfl
      clear hbx c0 c11
      by_cases h77 : x.name.length = 77
      · have hl77 : ((x.name.length : Int) != 77) = false := by rw [bne_eq_false_iff_eq]; omega
        have hf13 := run_first13 x.name (by omega)
        have hr13 := run_rest13 x.name (by omega)
        have H77 := Lib.hid h77
        have HTK := Lib.hid (fun (h : x.name.take 13 = folderP) (h2 : x.kind = 48) => ent_eq x h77 h h2)
        have HFL := Lib.hid (show (x.name.drop 13).length = 64 by rw [List.length_drop]; omega)
        clear h77
        generalize x.name.length = nl at *
        by_cases hp : x.name.take 13 = folderP
        · have hpe : (x.name.take 13 == [98, 108, 111, 98, 115, 47, 115, 104, 97, 50, 53, 54, 47]) = true := by rw [hp]; rfl
          have HP := Lib.hid hp
          clear hp
          by_cases hki : x.kind = 48
          · have hkd : ((x.kind.toNat : Int) != 48) = false := by rw [hki]; rfl
            have HIE := Lib.hid (show isEnt x = (unhexL (x.name.drop 13)).isSome from HTK.out HP.out hki)
            have HUN := Lib.hid (fun W => unhexr_any (x.name.drop 13) W (by rw [HFL.out]; omega))
            clear hki HTK HP
            generalize x.name.take 13 = t13 at *
            generalize hfg : x.name.drop 13 = f at *
            have HFG := Lib.hid hfg
            clear hfg
            go_wp2_with fail
            generalize wr.alloc (.cells #[.string (St x.name), .int .u8 (x.kind.toNat : Int), .int .i64 x.mode, .int .i64 x.uid, .int .i64 x.gid, .int .i64 x.time, .string (St x.link), .string (St x.user), .string (St x.group), .int .i64 x.major, .int .i64 x.minor, .string (St x.data)] 142) = wi at *
            clear g0 g1 g2 g3 g4 g5 g6 g7 g8 g9 g10 g11
            refine (HUN.out wi).mono ?_
            rintro e w2 ⟨hb2, hm⟩
            have hb02 := noted HBX.out hb2
            cases hun : unhexL f with
            | none =>
              rw [hun] at hm
              subst hm
              have HNX := Lib.hid (HNEXT.out (by rw [HIE.out, hun]; rfl))
              clear HNEXT HIE hun HU
              go_wp2_with fail
              go_roundw
              case rel => exact ⟨k + 1, s, B, d, by omega, by go_num, rfl, (HW1.out _ hb02), HNX, Lib.hid ⟨by have := HS.out.1; omega, HS.out.2⟩, Lib.hid (HST.out.below hb02), HSC⟩
              case measure => simp [intOf]; omega
            | some b =>
              rw [hun] at hm
              obtain ⟨E, ec, rfl, hec, _, _⟩ := hm
              have h32 : b.length = 32 := by
                have h1 := unhexL_length f b hun
                have := HFL.out
                omega
              have hb32 : ((b.length : Int) != 32) = false := by rw [bne_eq_false_iff_eq]; omega
              have HIT := Lib.hid (show isEnt x = true by rw [HIE.out, hun]; rfl)
              clear HNEXT HIE hun hec h32
              generalize b.length = bln at *
              go_wp2_with fail
              have hdr : Below wi.heap.size wi w2.drew := hb2.drew
              have d0 := C0.out _ hdr
              have d11 := C11.out _ hdr
              have tb := text_bytes x.data w2.drew
              have hbd : Below wi.heap.size wi (Lib.bytesWorld w2.drew 5 (St x.data)) := noted hdr tb.2.1
              have b0 := C0.out _ hbd
              have cv := tb.1
              have K5 := Lib.hid (ref5_any x.data (some ⟨w2.drew.heap.size, 0, none⟩) (grownCap w2.drew x.data.length 0 5) _ tb.2.2 (fun h => by cases h) (by omega))
              have HBD := Lib.hid hbd
              have hadd := add_name f (by have := HFL.out; omega)
              clear hdr tb hbd
              generalize hdl : x.data.length = dl at *
              have HDL := Lib.hid hdl
              clear hdl
              by_cases hv : nameP ++ f = nameOf x.data
              · have HU1 := Lib.hid (show (match putS s x.data with | .inl k => .inl k | .inr s' => unviewFrom s' (l.drop (k + 1))) = U by
                  have := HU.out
                  rwa [if_pos HIT.out, if_pos hv] at this)
                have hq : (nameOf x.data == nameP ++ f) = true := by rw [beq_iff_eq]; exact hv.symm
                clear HU hv
                generalize hnq : nameOf x.data = q at *
                generalize nameP ++ f = q2 at *
                clear hnq
                go_region_with (go_at_call 28; refine K5.out.mono ?_; rintro e w3 ⟨rfl, hb3⟩; have hb23 := noted HBD.out hb3; have e0 := C0.out w3 hb23)
                all_goals
                  have e11 := C11.out w3 hb23
                  have hb03 := noted HBX.out hb23
                  have hpu := put22_any s x.data B d w3 (HST.out.below hb03) (by have := HS.out.1; omega) HSC.out (fun y hy => Nat.le_trans (HS.out.2 y hy) (by omega)) (by rw [HDL.out]; omega)
                  have HPU := Lib.hid hpu
                  clear hpu e0 d0 d11 b0 cv K5
                  generalize hsln : s.length = sn at *
                  have HSN := Lib.hid hsln
                  clear hsln
                  go_wp2_with fail
                  refine HPU.out.mono ?_
                  rintro e w4 ⟨hb4, hm⟩
                  have hb04 := noted hb03 hb4
                  cases hps : putS s x.data with
                  | inl kk =>
                    rw [hps] at hm
                    subst hm
                    have HUF := Lib.hid (show U = .inl kk by rw [← HU1.out, hps])
                    have hk0 := (putS_err _ _ _ hps).1
                    have hkq : ((kk : Int) != 0) = true := by rw [bne_iff_ne]; omega
                    clear HU1 hps hk0
                    go_wp2_with fail
                    go_ret2
                    refine ⟨HW1.out _ hb04, ?_⟩
                    rw [HUF.out]; rfl
                  | inr s' =>
                    rw [hps] at hm
                    obtain ⟨B', d', rfl, hst, hsc⟩ := hm
                    have HNX := Lib.hid (show unviewFrom s' (l.drop (k + 1)) = U by rw [← HU1.out, hps])
                    have hpm := putS_mem _ _ _ hps
                    have HS' := Lib.hid (show s'.length ≤ k + 1 ∧ ∀ y ∈ s', y.2.length ≤ 900000 from ⟨by have := HS.out.1; have := HSN.out; omega, fun y hy => by
                      rcases hpm.2 y hy with h | h
                      · exact HS.out.2 y h
                      · rw [h, HDL.out]; exact hs2⟩)
                    have HST' := Lib.hid hst; have HSC' := Lib.hid hsc
                    clear HU1 hps hpm hst hsc
                    generalize nameOf x.data = q5 at *
                    go_wp2_with fail
                    go_roundw
                    case rel => exact ⟨k + 1, s', B', d', by omega, by go_num, rfl, HW1.out _ hb04, HNX, HS', HST', HSC'⟩
                    case measure => simp [intOf]; omega
              · have HUF := Lib.hid (show U = .inl 6 by
                  have := HU.out
                  rw [if_pos HIT.out, if_neg hv] at this
                  exact this.symm)
                have hq : (nameOf x.data == nameP ++ f) = false := by rw [beq_eq_false_iff_ne]; exact fun h => hv h.symm
                clear HU hv
                generalize hnq : nameOf x.data = q at *
                generalize nameP ++ f = q2 at *
                clear hnq
                go_region_with (go_at_call 28; refine K5.out.mono ?_; rintro e w3 ⟨rfl, hb3⟩; have hb23 := noted HBD.out hb3; have e0 := C0.out w3 hb23)
                all_goals
                  go_wp2_with fail
                  go_ret2
                  refine ⟨HW1.out _ (noted HBX.out hb23), ?_⟩
                  rw [HUF.out]; rfl
          · have hkd : ((x.kind.toNat : Int) != 48) = true := by
              rw [bne_iff_ne]
              intro h
              exact hki (UInt8.toNat_inj.1 (by show x.kind.toNat = 48; omega))
            have HNX := Lib.hid (HNEXT.out (ent_kind x hki))
            clear HNEXT HU hki HTK HP
            generalize x.name.take 13 = t13 at *
            generalize x.name.drop 13 = f13 at *
            go_wp2_with fail
            go_roundw
            case rel => exact ⟨k + 1, s, B, d, by omega, by go_num, rfl, (HW1.out _ HBX.out), HNX, Lib.hid ⟨by have := HS.out.1; omega, HS.out.2⟩, Lib.hid (HST.out.below HBX.out), HSC⟩
            case measure => simp [intOf]; omega
        · have hpe : (x.name.take 13 == [98, 108, 111, 98, 115, 47, 115, 104, 97, 50, 53, 54, 47]) = false := by rw [beq_eq_false_iff_ne]; exact hp
          have HNX := Lib.hid (HNEXT.out (ent_other x hp))
          clear HNEXT HU hp HTK
          generalize x.name.take 13 = t13 at *
          generalize x.name.drop 13 = f13 at *
          go_wp2_with fail
          go_roundw
          case rel => exact ⟨k + 1, s, B, d, by omega, by go_num, rfl, (HW1.out _ HBX.out), HNX, Lib.hid ⟨by have := HS.out.1; omega, HS.out.2⟩, Lib.hid (HST.out.below HBX.out), HSC⟩
          case measure => simp [intOf]; omega
      · have hl77 : ((x.name.length : Int) != 77) = true := by rw [bne_iff_ne]; omega
        have HNX := Lib.hid (HNEXT.out (ent_long x h77))
        clear HNEXT HU h77
        generalize x.name.length = nl at *
        go_wp2_with fail
        go_roundw
        case rel => exact ⟨k + 1, s, B, d, by omega, by go_num, rfl, (HW1.out _ HBX.out), HNX, Lib.hid ⟨by have := HS.out.1; omega, HS.out.2⟩, Lib.hid (HST.out.below HBX.out), HSC⟩
        case measure => simp [intOf]; omega
    · obtain rfl : k = n := by omega
      have hU2 := HU.out
      rw [List.drop_of_length_le (by rw [HL.out]; exact Nat.le_refl _), unviewFrom] at hU2
      have HU2 := Lib.hid hU2
      clear hU2
      go_wp2_with fail
      go_ret2
      refine ⟨hbel, ?_⟩
      rw [← HU2.out]
      exact ⟨B, d, rfl, HST.out, HSC.out⟩
end Go.Proofs.YtbioclpobmgikaaDoor
