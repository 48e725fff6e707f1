/- A blob is put: the document's walk. -/
import Derived.Test.YtbioclpobmgikaaDoorVw3
namespace Go.Proofs.YtbioclpobmgikaaDoor
open Go.RowKit

/-- blobs are appended to a store of the document's, in a drawn region -/
theorem wp_append_docs {w : World} {o : Oper} {a : Act} {K : Act → World → Prop} {Q : Exit → Act → World → Prop} (s x : Operand)
    (ho : o.op = .call { callee := .builtin .append, args := #[s, x], argTypes := #[76, 76] })
    (base : Nat) (v : Value) (n : Nat) (bl : St2) (hs : a.eval s = v) (hown : w.ownsRow base 134 2 v n (RowS bl))
    (ad : Addr) (nb : St2) (m c : Nat) (hm : nb.length = m) (hx : a.eval x = .slice (some ad) m c) (hr : DocAt w (some ad) nb)
    (h63 : n + m ≤ 1000000) (hbase : base ≤ w.heap.size)
    (h : ∀ v' w', w'.ownsRow base 134 2 v' (n + m) (RowS (bl ++ nb)) → w.grownBy w' v.ownBlock → K (a.put o.dst v') w') :
    o.wp Tryd.prog a w K Q := by
  subst hm
  obtain ⟨i0, hi0, hz0, hz1, hz2⟩ := zero134
  exact wp_append_own w s x 76 ho base 134 i0 _ 2 32 Tryd.underlying76 hi0 hz0 hz1 hz2 rfl (by decide) v _ _ hs hown ad nb.length c (RowS nb) hx (by rw [RowS_length])
    hr.cells (RowS_mem _) (by unfold maxLen; omega) (by omega) hbase (fun v' w' h1 h2 _ => h v' w' (by rw [RowS_append]; exact h1) h2)
theorem run_docs_from (a : Addr) (n c p : Nat) (hp : p ≤ n) (hc : n ≤ c) : ∃ a', (p < n → a' = a.add (p * 2)) ∧ ∀ w : World, (Instr.sliceAt 76 (.slice (some a) n c) (some (.int .i64 (p : Int))) none none).run Tryd.prog w = .ok (.slice (some a') (n - p) (c - p)) w := by
  by_cases h : c = p
  · refine ⟨a, fun h2 => by omega, fun w => ?_⟩
    unfold Instr.sliceAt Instr.slice
    simp only [Sem.run_bind, run_underlying Tryd.underlying76]
    simp [Instr.sliceBounds, Instr.sliceBound, asIntOf, h, hp, run_underlying Tryd.underlying76]
  · refine ⟨a.add (p * 2), fun _ => rfl, fun w => ?_⟩
    unfold Instr.sliceAt Instr.slice
    simp only [Sem.run_bind, run_underlying Tryd.underlying76]
    simp [Instr.sliceBounds, Instr.sliceBound, asIntOf, h, hp, run_underlying Tryd.underlying76]
theorem add_add2 (ad : Addr) (p j : Nat) : (ad.add p).add j = ad.add (p + j) := Deep.add_add ad p j
theorem DocAt.from {w : World} {a a' : Addr} {s : St2} (h : DocAt w (some a) s) (p : Nat) (ha : p < s.length → a' = a.add (p * 2)) : DocAt w (some a') (s.drop p) := fun j hj => by
  rw [List.length_drop] at hj
  have e := ha (by omega)
  subst e
  obtain ⟨b, hb, h1, h2⟩ := h (p + j) (by omega)
  obtain rfl := Option.some.inj hb
  refine ⟨_, rfl, ?_, ?_⟩
  · rw [add_add2, show p * 2 + j * 2 = (p + j) * 2 by omega, h1]
    simp [List.getD]
  · rw [add_add2, show p * 2 + j * 2 = (p + j) * 2 by omega, h2]
    simp [List.getD]
/-- what the document's Put answers, as it lies -/
def Put22At (s : St2) (d : List UInt8) (w w' : World) (e : Ending) : Prop :=
  Below w.heap.size w w' ∧ match putS s d with
  | .inl k => e = .returned (.tuple #[.slice none 0 0, .string ⟨#[]⟩, .int .i64 (k : Int)])
  | .inr s' => ∃ A c, e = .returned (.tuple #[.slice (some A) s'.length c, .string (St (nameOf d)), .int .i64 0]) ∧ DocAt w' (some A) s' ∧ s'.length ≤ c
theorem totalS_le7 (s : St2) (h : ∀ x ∈ s, x.2.length ≤ 10000000) : totalS s ≤ 10000000 * s.length := by
  induction s with
  | nil => simp [totalS]
  | cons b l ih =>
    have h1 := h b (by simp)
    have h2 := ih (fun x hx => h x (by simp [hx]))
    rw [totalS, List.map_cons, List.sum_cons, ← totalS, List.length_cons]
    omega
theorem setAt_upto (s : St2) (nm : List UInt8) (k : Nat) (hk : k ≤ s.length) (h : ∀ j, j < k → gtB (s.getD j ([], [])).1 nm = false) (he : k = s.length ∨ gtB (s.getD k ([], [])).1 nm = true) : setAt s nm = k := by
  rw [setAt_eq]
  rcases he with he | he
  · rw [he]
    refine List.findIdx_eq_length.2 fun x hx => ?_
    obtain ⟨j, hj, rfl⟩ := List.getElem_of_mem hx
    have := h j (by omega)
    simpa [List.getD, List.getElem?_eq_getElem hj] using this
  · have hlt : k < s.length := by
      apply Classical.byContradiction
      intro hge
      have : s.getD k ([], []) = ([], []) := by simp [List.getD, List.getElem?_eq_none (show s.length ≤ k by omega)]
      rw [this] at he
      have hg := (gtB_iff _ _).1 he
      cases nm with
      | nil => simp [Op.bytesLess] at hg
      | cons a t => simp [Op.bytesLess] at hg
    rw [List.findIdx_eq hlt]
    refine ⟨by simpa [List.getD, hlt] using he, fun j hj => ?_⟩
    have := h j hj
    simpa [List.getD, List.getElem?_eq_getElem (show j < s.length by omega)] using this

set_option maxHeartbeats 4000000 in
set_option maxRecDepth 100000 in
theorem put22_any (s : St2) (d : List UInt8) (a : Addr) (c : Nat) (w : World) (hr : DocAt w (some a) s) (hn : s.length ≤ 900) (hc : s.length ≤ c) (hs : ∀ x ∈ s, x.2.length ≤ 10000000) (hd : d.length ≤ 1000000) :
    Calls Tryd.prog 103 #[.slice (some a) s.length c, .string (St d)] w fun e w' => Put22At s d w w' e := by
  have htl := St_toList
  have hszd : (St d).size = d.length := rfl
  have HR := Lib.hid hr; have HS := Lib.hid hs
  obtain ⟨w1, cc, hcv, hb1, hby, hc1⟩ := bytes_of_text d w
  have hcv := hcv 9 Tryd.underlying9
  have h5 := ref5_any d (some ⟨w.heap.size, 0, none⟩) cc w1 hby (fun h => by cases h) hd
  have H5 := Lib.hid h5
  clear hr hs h5 hby hc1
  generalize hnl : s.length = n at *
  generalize hdl : d.length = dl at *
  have HN := Lib.hid hnl; have HDL := Lib.hid hdl
  clear hnl hdl
  have hd0 : decide ((dl : Int) > 1048576) = false := decide_eq_false (by omega)
  have HPL := Lib.hid (fun W (h : Below w.heap.size w W) => place22_any s (nameOf d) (some a) c W (HR.out.below h) (by rw [HN.out]; omega))
  rw [HN.out] at HPL
  have HPS := Lib.hid (show putS s d = if 0 ≤ placeS s (nameOf d) then (if eqB (s.getD (placeS s (nameOf d)).toNat ([], [])).2 d then .inr s else .inl 6)
      else if 256 ≤ n then .inl 14 else if 8388608 < totalS s + dl then .inl 5 else .inr (s.take (setAt s (nameOf d)) ++ [(nameOf d, d)] ++ s.drop (setAt s (nameOf d))) by
    unfold putS
    rw [if_neg (show ¬ 1048576 < d.length by rw [HDL.out]; omega), HN.out, HDL.out])
  go_enter Tryd.func103, Tryd.ntmps103
  go_wp2_with fail
  refine H5.out.mono ?_
  rintro e w2 ⟨rfl, hb2⟩
  have hbw2 := noted hb1 hb2
  go_wp2_with fail
  refine (HPL.out w2 hbw2).mono ?_
  rintro e w' ⟨rfl, rfl⟩
  by_cases hp : 0 ≤ placeS s (nameOf d)
  · obtain ⟨k, hkk, hkn, _, _, _⟩ := place_hit _ _ hp
    have HPS2 := Lib.hid (show putS s d = if eqB (s.getD k ([], [])).2 d then .inr s else .inl 6 by rw [HPS.out, if_pos hp, hkk, Int.toNat_natCast])
    obtain ⟨a', ha', g1, g2⟩ := (HR.out.below hbw2) k hkn
    obtain rfl := Option.some.inj ha'
    rw [HN.out] at hkn
    rw [hkk]
    clear HPS hp hkk ha' HPL H5
    generalize s.getD k ([], []) = b at *
    generalize hnm : nameOf d = nm at *
    have HNM := Lib.hid hnm
    clear hnm
    have HFIN := Lib.hid (show DocAt w2 (some a) s ∧ s.length ≤ c from ⟨HR.out.below hbw2, by rw [HN.out]; exact hc⟩)
    cases hq : eqB b.2 d with
    | true =>
      have HP := Lib.hid (show putS s d = .inr s by rw [HPS2.out, hq]; rfl)
      clear HPS2
      unfold eqB at hq
      go_wp2_with fail
      go_ret3
      refine ⟨hbw2, ?_⟩
      rw [HP.out]
      exact ⟨a, c, by rw [HNM.out, HN.out]; rfl, HFIN.out.1, HFIN.out.2⟩
    | false =>
      have HP := Lib.hid (show putS s d = .inl 6 by rw [HPS2.out, hq]; rfl)
      clear HPS2
      unfold eqB at hq
      go_wp2_with fail
      go_ret3
      refine ⟨hbw2, ?_⟩
      rw [HP.out]; rfl
  · have HPS2 := Lib.hid (show putS s d = if 256 ≤ n then .inl 14 else if 8388608 < totalS s + dl then .inl 5 else .inr (s.take (setAt s (nameOf d)) ++ [(nameOf d, d)] ++ s.drop (setAt s (nameOf d))) by rw [HPS.out, if_neg hp])
    generalize placeS s (nameOf d) = pl at *
    have hd1 : decide (pl ≥ 0) = false := decide_eq_false (by omega)
    clear HPS hp HPL H5
    generalize hnm : nameOf d = nm at *
    have HNM := Lib.hid hnm
    clear hnm
    by_cases h256 : 256 ≤ n
    · have hd2 : decide ((n : Int) ≥ 256) = true := decide_eq_true (by omega)
      have HP := Lib.hid (show putS s d = .inl 14 by rw [HPS2.out, if_pos h256])
      clear HPS2 h256
      go_wp2_with fail
      go_ret3
      refine ⟨hbw2, ?_⟩
      rw [HP.out]; rfl
    · have hd2 : decide ((n : Int) ≥ 256) = false := decide_eq_false (by omega)
      have HPS3 := Lib.hid (show putS s d = if 8388608 < totalS s + dl then .inl 5 else .inr (s.take (setAt s nm) ++ [(nm, d)] ++ s.drop (setAt s nm)) by rw [HPS2.out, if_neg h256])
      have hsi := size22_any s (some a) c w2 (HR.out.below hbw2) (by rw [HN.out]; omega) HS.out
      have htot : totalS s ≤ 10000000 * s.length := totalS_le7 s HS.out
      rw [HN.out] at hsi htot
      have htot2 : totalS s ≤ 10000000000 := by omega
      have HSI := Lib.hid hsi
      clear hsi htot HPS2
      generalize totalS s = tt at *
      by_cases h8 : 8388608 < tt + dl
      · have hd8 : decide ((tt : Int) + (dl : Int) > 8388608) = true := decide_eq_true (by omega)
        have HP := Lib.hid (show putS s d = .inl 5 by rw [HPS3.out, if_pos h8])
        clear HPS3 h8
        go_wp2_with fail
        refine HSI.out.mono ?_
        rintro e w3 ⟨rfl, hb3⟩
        go_wp2_with fail
        go_ret3
        refine ⟨noted hbw2 hb3, ?_⟩
        rw [HP.out]; rfl
      · have hd8 : decide ((tt : Int) + (dl : Int) > 8388608) = false := decide_eq_false (by omega)
        have HP := Lib.hid (show putS s d = .inr (s.take (setAt s nm) ++ [(nm, d)] ++ s.drop (setAt s nm)) by rw [HPS3.out, if_neg h8])
        clear HPS3 h8
        go_wp2_with fail
        refine HSI.out.mono ?_
        rintro e w3 ⟨rfl, hb3⟩
        have hbw3 := noted hbw2 hb3
        clear HSI
        go_wp2_with fail
        go_loopw [9] (fun vi wr => ∃ k : Nat, k ≤ n ∧ vi = .int .i64 (k : Int) ∧ Hid (∀ j, j < k → gtB (s.getD j ([], [])).1 nm = false) ∧ wr = w3) (fun v _ => n - (intOf v).toNat)
        case atStart => exact ⟨0, by omega, rfl, Lib.hid (fun j hj => by omega), rfl⟩
        case round =>
          obtain ⟨k, hk, rfl, HF, rfl⟩ := hrel
          by_cases hlt : k < n
          · obtain ⟨a', ha', g1, g2⟩ := (HR.out.below hbw3) k (by rw [HN.out]; exact hlt)
            obtain rfl := Option.some.inj ha'
            cases hq : gtB (s.getD k ([], [])).1 nm with
            | false =>
              have HF2 : Hid (∀ j, j < k + 1 → gtB (s.getD j ([], [])).1 nm = false) := Lib.hid (fun j hj => by
                by_cases hjk : j = k
                · rw [hjk]; exact hq
                · exact HF.out j (by omega))
              clear HF ha'
              generalize s.getD k ([], []) = x at *
              have hle : (Op.bytesLess x.1 nm || x.1 == nm) = true := by
                unfold gtB eqB at hq
                cases h1 : Op.bytesLess x.1 nm
                · rw [h1] at hq
                  simpa using hq
                · rfl
              clear hq
              have hle2 : (Op.bytesLess x.1 nm = true) ∨ x.1 = nm := by
                rw [Bool.or_eq_true, beq_iff_eq] at hle; exact hle
              go_wp2_with fail
              go_roundw
              case rel => exact ⟨k + 1, by omega, by go_num, HF2, trivial⟩
              case measure => simp [intOf]; omega
            | true =>
              have HAT := Lib.hid (setAt_upto s nm k (by rw [HN.out]; omega) HF.out (.inr hq))
              clear HF ha'
              generalize s.getD k ([], []) = x at *
              have hle : (Op.bytesLess x.1 nm || x.1 == nm) = false := by
                unfold gtB eqB at hq
                cases h1 : Op.bytesLess x.1 nm
                · rw [h1] at hq
                  simpa using hq
                · rw [h1] at hq; cases hq
              clear hq
              have hst := run_docs_to
              have hs1 := fun W => run_docs_to W a n c k (by omega)
              obtain ⟨a', ha', hs2⟩ := run_docs_from a n c k (by omega) hc
              have HA' := Lib.hid (show k < s.length → a' = a.add (k * 2) from fun h => ha' (by rw [HN.out] at h; exact h))
              have hO0 : (wr.alloc (.cells #[] 134)).ownsRow wr.heap.size 134 2 (.slice (some ⟨wr.heap.size, 0, none⟩) 0 0) 0 (RowS []) := World.ownsRow_made wr #[] 0 (Nat.le_refl _) (by unfold maxLen; omega) rfl
              have hb0 : Below wr.heap.size wr (wr.alloc (.cells #[] 134)) := (Below.refl _ _).alloc (Nat.le_refl _) _
              have HO0 := Lib.hid hO0; have HB0 := Lib.hid hb0
              have hlt0 := hO0.lt
              have HTK := Lib.hid (show (s.take k).length = k by rw [List.length_take, HN.out]; omega)
              have HDK := Lib.hid (show (s.drop k).length = n - k by have := List.length_drop (l := s) (i := k); rw [HN.out] at this; omega)
              have hkc : k ≤ c := by omega
              clear hst hO0 hb0 ha'
              go_wp2_with (refine wpList_append_docs rfl (.tmp 55) (.tmp 58) 76 Tryd.underlying76 rfl wr.heap.size _ 0 [] rfl HO0.out a (s.take k) k c HTK.out rfl (((HR.out.below hbw3).below HB0.out).to k) (by omega) (by simp) ?_; rintro v4 w4 ho4 hg4; have hb4 := HB0.out.grown hg4 (by simp) (fun j hj => (hlt0 j hj).1); rw [Nat.zero_add, List.nil_append] at ho4)
              have hbw4 := noted hbw3 hb4
              have hsz4 := hb4.size
              have hbd4 : Below wr.heap.size wr ((w4.alloc (.cells #[.string (St nm), .string (St d)] 134)).drew) := (hb4.alloc hsz4 _).drew
              have ho4d : ((w4.alloc (.cells #[.string (St nm), .string (St d)] 134)).drew).ownsRow wr.heap.size 134 2 v4 k (RowS (s.take k)) := rowOwn_below (ho4.alloc (.cells #[.string (St nm), .string (St d)] 134)) (Below.refl _ _).drew
              have hdn := (doc_new w4 (nm, d)).below (Below.refl _ _).drew
              have HBD4 := Lib.hid hbd4; have HO4 := Lib.hid ho4d; have HDN := Lib.hid hdn
              have hsd : ((w4.alloc (.cells #[.string (St nm), .string (St d)] 134)).drew).heap.size = w4.heap.size + 1 := by simp
              have HSD := Lib.hid hsd
              clear hbd4 ho4 ho4d hdn hg4 hs1 hlt0 hsd
              refine wp_region_any (by kernel_rfl) ?_
              change wpAny _ _ _ _ _ _ _ (World.drew _)
              refine wpAny_take (i := 0) (v := v4) rfl (by kernel_rfl) (by kernel_rfl) (by kernel_rfl) (fun _ _ _ h => h) (Or.inl ⟨by rfl, ?_⟩) ?_
              · intro w; go_simp
              refine wpAny_take (i := 1) (v := .string (St nm)) rfl (by kernel_rfl) (by kernel_rfl) (by kernel_rfl) (fun _ _ _ h => h) (Or.inl ⟨by rfl, ?_⟩) ?_
              · intro w; go_simp
              refine wpAny_take (i := 2) (v := .string (St d)) rfl (by kernel_rfl) (by kernel_rfl) (by kernel_rfl) (fun _ _ _ h => h) (Or.inl ⟨by rfl, ?_⟩) ?_
              · intro w; go_simp
              refine wpAny_take (i := 3) (v := .agg #[.string (St nm), .string (St d)]) rfl (by kernel_rfl) (by kernel_rfl) (by kernel_rfl) (fun _ _ _ h => h) (Or.inl ⟨by rfl, ?_⟩) ?_
              · intro w; go_simp
              refine wpAny_take (i := 6) (v := .slice (some a) n c) rfl (by kernel_rfl) (by kernel_rfl) (by kernel_rfl) (fun _ _ _ h => h) (Or.inl ⟨by rfl, ?_⟩) ?_
              · intro w; go_simp
              refine wpAny_take (i := 7) (v := .int .i64 (k : Int)) rfl (by kernel_rfl) (by kernel_rfl) (by kernel_rfl) (fun _ _ _ h => h) (Or.inl ⟨by rfl, ?_⟩) ?_
              · intro w; go_simp
              refine wpAny_take (i := 8) (v := .slice (some a') (n - k) (c - k)) rfl (by kernel_rfl) (by kernel_rfl) (by kernel_rfl) (fun _ _ _ h => h) (Or.inl ⟨by rfl, ?_⟩) ?_
              · intro w; go_simp
              refine wpAny_take (i := 10) (v := .string (St nm)) rfl (by kernel_rfl) (by kernel_rfl) (by kernel_rfl) (fun _ _ _ h => h) (Or.inl ⟨by rfl, ?_⟩) ?_
              · intro w; go_simp
              refine wpAny_ready (rs := [4]) (by kernel_rfl) (by simp) ?_
              refine AllReady.cons rfl (fun K hK => ?_) AllReady.nil
              go_simp
              refine hK _ _ ?_
              clear hK K
              refine wpAny_ready (rs := [5]) (by kernel_rfl) (by simp) ?_
              refine AllReady.cons rfl (fun K hK => ?_) AllReady.nil
              refine Eq.mpr (if_pos (by rfl)) ?_
              refine wp_append_docs (.tmp 60) (.tmp 64) rfl wr.heap.size _ k (s.take k) rfl HO4.out ⟨w4.heap.size, 0, none⟩ [(nm, d)] 1 1 rfl rfl HDN.out (by omega) (by have := HSD.out; omega) ?_
              rintro v5 w5 ho5 hg5
              have hb5 := HBD4.out.grown hg5 (by have := HSD.out; omega) (fun j hj => (HO4.out.lt j hj).1)
              have HO5 := Lib.hid ho5
              have hb05 := noted hbw3 hb5
              refine hK _ _ ?_
              clear hK K
              refine wpAny_ready (rs := [9]) (by kernel_rfl) (by simp) ?_
              refine AllReady.cons rfl (fun K hK => ?_) AllReady.nil
              refine Eq.mpr (if_pos (by rfl)) ?_
              refine wp_append_docs (.tmp 65) (.tmp 68) rfl wr.heap.size _ (k + 1) (s.take k ++ [(nm, d)]) rfl HO5.out a' (s.drop k) (n - k) (c - k) HDK.out rfl ((HR.out.below hb05).from k HA'.out) (by omega) hb5.size ?_
              rintro v6 w6 ho6 hg6
              have hb6 := hb5.grown hg6 hb5.size (fun j hj => (HO5.out.lt j hj).1)
              refine hK _ _ ?_
              clear hK K
              refine wpAny_take (i := 11) (v := v6) rfl (by kernel_rfl) (by kernel_rfl) (by kernel_rfl) (fun _ _ _ h => h) (Or.inl ⟨by rfl, ?_⟩) ?_
              · intro w; go_simp
              refine wpAny_take (i := 12) (v := .string (St nm)) rfl (by kernel_rfl) (by kernel_rfl) (by kernel_rfl) (fun _ _ _ h => h) (Or.inl ⟨by rfl, ?_⟩) ?_
              · intro w; go_simp
              refine wpAny_take (i := 13) (v := .int .i64 0) rfl (by kernel_rfl) (by kernel_rfl) (by kernel_rfl) (fun _ _ _ h => h) (Or.inl ⟨by rfl, ?_⟩) ?_
              · intro w; go_simp
              refine wpAny_done (by kernel_rfl) ?_ _
              all_goals
                obtain ⟨G, gc, rfl, hgn, _, hgl, hgd⟩ := own_doc ho6
                have hnn : k + 1 + (n - k) = n + 1 := by omega
                rw [hnn] at hgn hgl ⊢
                obtain ⟨g, rfl, _⟩ := hgd 0 (by rw [hgl]; omega)
                have HGD := Lib.hid hgd; have HGL := Lib.hid hgl; have HGN := Lib.hid hgn
                have hfin := noted hbw3 hb6
                clear hgd hgl hgn ho6 hg6 hg5 hb6 hb5 hb05 hs2
                go_wp2_with fail
                go_ret3
                refine ⟨hfin, ?_⟩
                rw [HP.out, HAT.out]
                exact ⟨g, gc, by rw [HNM.out, HGL.out]; rfl, HGD.out, by rw [HGL.out]; exact HGN.out⟩
          · obtain rfl : k = n := by omega
            have HAT := Lib.hid (setAt_upto s nm k (by rw [HN.out]; omega) HF.out (.inl HN.out.symm))
            clear HF
            have hst := run_docs_to
            have hs1 := fun W => run_docs_to W a k c k (by omega)
            obtain ⟨a', ha', hs2⟩ := run_docs_from a k c k (by omega) hc
            have HA' := Lib.hid (show k < s.length → a' = a.add (k * 2) from fun h => ha' (by rw [HN.out] at h; exact h))
            have hO0 : (wr.alloc (.cells #[] 134)).ownsRow wr.heap.size 134 2 (.slice (some ⟨wr.heap.size, 0, none⟩) 0 0) 0 (RowS []) := World.ownsRow_made wr #[] 0 (Nat.le_refl _) (by unfold maxLen; omega) rfl
            have hb0 : Below wr.heap.size wr (wr.alloc (.cells #[] 134)) := (Below.refl _ _).alloc (Nat.le_refl _) _
            have HO0 := Lib.hid hO0; have HB0 := Lib.hid hb0
            have hlt0 := hO0.lt
            have HTK := Lib.hid (show (s.take k).length = k by rw [List.length_take, HN.out]; omega)
            have HDK := Lib.hid (show (s.drop k).length = 0 by have := List.length_drop (l := s) (i := k); rw [HN.out] at this; omega)
            have hkc : k ≤ c := by omega
            clear hst hO0 hb0 ha'
            go_wp2_with (refine wpList_append_docs rfl (.tmp 55) (.tmp 58) 76 Tryd.underlying76 rfl wr.heap.size _ 0 [] rfl HO0.out a (s.take k) k c HTK.out rfl (((HR.out.below hbw3).below HB0.out).to k) (by omega) (by simp) ?_; rintro v4 w4 ho4 hg4; have hb4 := HB0.out.grown hg4 (by simp) (fun j hj => (hlt0 j hj).1); rw [Nat.zero_add, List.nil_append] at ho4)
            have hbw4 := noted hbw3 hb4
            have hsz4 := hb4.size
            have hbd4 : Below wr.heap.size wr ((w4.alloc (.cells #[.string (St nm), .string (St d)] 134)).drew) := (hb4.alloc hsz4 _).drew
            have ho4d : ((w4.alloc (.cells #[.string (St nm), .string (St d)] 134)).drew).ownsRow wr.heap.size 134 2 v4 k (RowS (s.take k)) := rowOwn_below (ho4.alloc (.cells #[.string (St nm), .string (St d)] 134)) (Below.refl _ _).drew
            have hdn := (doc_new w4 (nm, d)).below (Below.refl _ _).drew
            have HBD4 := Lib.hid hbd4; have HO4 := Lib.hid ho4d; have HDN := Lib.hid hdn
            have hsd : ((w4.alloc (.cells #[.string (St nm), .string (St d)] 134)).drew).heap.size = w4.heap.size + 1 := by simp
            have HSD := Lib.hid hsd
            clear hbd4 ho4 ho4d hdn hg4 hs1 hlt0 hsd
            refine wp_region_any (by kernel_rfl) ?_
            change wpAny _ _ _ _ _ _ _ (World.drew _)
            refine wpAny_take (i := 0) (v := v4) rfl (by kernel_rfl) (by kernel_rfl) (by kernel_rfl) (fun _ _ _ h => h) (Or.inl ⟨by rfl, ?_⟩) ?_
            · intro w; go_simp
            refine wpAny_take (i := 1) (v := .string (St nm)) rfl (by kernel_rfl) (by kernel_rfl) (by kernel_rfl) (fun _ _ _ h => h) (Or.inl ⟨by rfl, ?_⟩) ?_
            · intro w; go_simp
            refine wpAny_take (i := 2) (v := .string (St d)) rfl (by kernel_rfl) (by kernel_rfl) (by kernel_rfl) (fun _ _ _ h => h) (Or.inl ⟨by rfl, ?_⟩) ?_
            · intro w; go_simp
            refine wpAny_take (i := 3) (v := .agg #[.string (St nm), .string (St d)]) rfl (by kernel_rfl) (by kernel_rfl) (by kernel_rfl) (fun _ _ _ h => h) (Or.inl ⟨by rfl, ?_⟩) ?_
            · intro w; go_simp
            refine wpAny_take (i := 6) (v := .slice (some a) k c) rfl (by kernel_rfl) (by kernel_rfl) (by kernel_rfl) (fun _ _ _ h => h) (Or.inl ⟨by rfl, ?_⟩) ?_
            · intro w; go_simp
            refine wpAny_take (i := 7) (v := .int .i64 (k : Int)) rfl (by kernel_rfl) (by kernel_rfl) (by kernel_rfl) (fun _ _ _ h => h) (Or.inl ⟨by rfl, ?_⟩) ?_
            · intro w; go_simp
            refine wpAny_take (i := 8) (v := .slice (some a') (0) (c - k)) rfl (by kernel_rfl) (by kernel_rfl) (by kernel_rfl) (fun _ _ _ h => h) (Or.inl ⟨by rfl, ?_⟩) ?_
            · intro w; go_simp
            refine wpAny_take (i := 10) (v := .string (St nm)) rfl (by kernel_rfl) (by kernel_rfl) (by kernel_rfl) (fun _ _ _ h => h) (Or.inl ⟨by rfl, ?_⟩) ?_
            · intro w; go_simp
            refine wpAny_ready (rs := [4]) (by kernel_rfl) (by simp) ?_
            refine AllReady.cons rfl (fun K hK => ?_) AllReady.nil
            go_simp
            refine hK _ _ ?_
            clear hK K
            refine wpAny_ready (rs := [5]) (by kernel_rfl) (by simp) ?_
            refine AllReady.cons rfl (fun K hK => ?_) AllReady.nil
            refine Eq.mpr (if_pos (by rfl)) ?_
            refine wp_append_docs (.tmp 60) (.tmp 64) rfl wr.heap.size _ k (s.take k) rfl HO4.out ⟨w4.heap.size, 0, none⟩ [(nm, d)] 1 1 rfl rfl HDN.out (by omega) (by have := HSD.out; omega) ?_
            rintro v5 w5 ho5 hg5
            have hb5 := HBD4.out.grown hg5 (by have := HSD.out; omega) (fun j hj => (HO4.out.lt j hj).1)
            have HO5 := Lib.hid ho5
            have hb05 := noted hbw3 hb5
            refine hK _ _ ?_
            clear hK K
            refine wpAny_ready (rs := [9]) (by kernel_rfl) (by simp) ?_
            refine AllReady.cons rfl (fun K hK => ?_) AllReady.nil
            refine Eq.mpr (if_pos (by rfl)) ?_
            refine wp_append_docs (.tmp 65) (.tmp 68) rfl wr.heap.size _ (k + 1) (s.take k ++ [(nm, d)]) rfl HO5.out a' (s.drop k) (0) (c - k) HDK.out rfl ((HR.out.below hb05).from k HA'.out) (by omega) hb5.size ?_
            rintro v6 w6 ho6 hg6
            have hb6 := hb5.grown hg6 hb5.size (fun j hj => (HO5.out.lt j hj).1)
            refine hK _ _ ?_
            clear hK K
            refine wpAny_take (i := 11) (v := v6) rfl (by kernel_rfl) (by kernel_rfl) (by kernel_rfl) (fun _ _ _ h => h) (Or.inl ⟨by rfl, ?_⟩) ?_
            · intro w; go_simp
            refine wpAny_take (i := 12) (v := .string (St nm)) rfl (by kernel_rfl) (by kernel_rfl) (by kernel_rfl) (fun _ _ _ h => h) (Or.inl ⟨by rfl, ?_⟩) ?_
            · intro w; go_simp
            refine wpAny_take (i := 13) (v := .int .i64 0) rfl (by kernel_rfl) (by kernel_rfl) (by kernel_rfl) (fun _ _ _ h => h) (Or.inl ⟨by rfl, ?_⟩) ?_
            · intro w; go_simp
            refine wpAny_done (by kernel_rfl) ?_ _
            all_goals
              obtain ⟨G, gc, rfl, hgn, _, hgl, hgd⟩ := own_doc ho6
              have hnn : k + 1 + (0) = k + 1 := by omega
              rw [hnn] at hgn hgl ⊢
              obtain ⟨g, rfl, _⟩ := hgd 0 (by rw [hgl]; omega)
              have HGD := Lib.hid hgd; have HGL := Lib.hid hgl; have HGN := Lib.hid hgn
              have hfin := noted hbw3 hb6
              clear hgd hgl hgn ho6 hg6 hg5 hb6 hb5 hb05 hs2
              go_wp2_with fail
              go_ret3
              refine ⟨hfin, ?_⟩
              rw [HP.out, HAT.out]
              exact ⟨g, gc, by rw [HNM.out, HGL.out]; rfl, HGD.out, by rw [HGL.out]; exact HGN.out⟩
end Go.Proofs.YtbioclpobmgikaaDoor
