/- The law of layer 2 on which texts are bytes' texts: its walk. -/
import Derived.Test.YtbioclpobmgikaaC9c
namespace Go.Proofs.Ytbioclpobmgikaa
open Go.RowKit

theorem run_errno (v : Value) (w : World) : (Instr.typeAssert (.iface 48 v) 29 48 true).run Try.prog w = .ok (.tuple #[v, .bool true]) w := by
  simp [Instr.typeAssert, Sem.run_bind, run_underlying Try.underlying48]

set_option maxHeartbeats 400000 in
set_option maxRecDepth 100000 in
theorem num_two (w : World) : Calls Try.prog 36 #[.iface 48 (.int .i64 2)] w fun e w' => e = .returned (.int .i64 2) ∧ w' = w := by
  have hta := run_errno
  go_enter Try.func36, Try.ntmps36
  go_wp2_with fail
  go_ret
  exact ⟨rfl, rfl⟩
set_option maxHeartbeats 400000 in
set_option maxRecDepth 100000 in
theorem is_two (w : World) : Calls Try.prog 26 #[.iface 48 (.int .i64 2), .int .i64 2] w fun e w' => e = .returned (.bool true) ∧ w' = w := by
  go_enter Try.func26, Try.ntmps26
  go_wp2_with fail
  refine (num_two w).mono ?_
  rintro e w1 ⟨rfl, rfl⟩
  go_wp2_with fail
  go_ret
  exact ⟨rfl, rfl⟩
set_option maxHeartbeats 400000 in
set_option maxRecDepth 100000 in
theorem same_none (w : World) : Calls Try.prog 15 #[.slice none 0 0, .iface 48 (.int .i64 2), .slice none 0 0, .bool false] w fun e w' => e = .returned (.bool true) ∧ w' = w := by
  go_enter Try.func15, Try.ntmps15
  go_wp2_with fail
  refine (is_two w).mono ?_
  rintro e w1 ⟨rfl, rfl⟩
  go_wp2_with fail
  go_ret
  exact ⟨rfl, rfl⟩
set_option maxHeartbeats 400000 in
set_option maxRecDepth 100000 in
theorem same_some (b : List UInt8) (A B : Option Addr) (c d : Nat) (w : World) (hA : BytesAt w A b) (hB : BytesAt w B b) :
    Calls Try.prog 15 #[.slice A b.length c, .nilIface, .slice B b.length d, .bool true] w fun e w' => e = .returned (.bool true) ∧ w' = w := by
  have hq := eqb_any b b A B c d w hA hB
  rw [beq_self_eq_true] at hq
  have HQ := Lib.hid hq
  clear hq hA hB
  generalize b.length = n at *
  go_enter Try.func15, Try.ntmps15
  go_wp2_with fail
  refine HQ.out.mono ?_
  rintro e w1 ⟨rfl, rfl⟩
  go_wp2_with fail
  go_ret
  exact ⟨rfl, rfl⟩

set_option maxHeartbeats 1000000 in
set_option maxRecDepth 100000 in
theorem codecTakes_walk (s : List UInt8) (w : World) (_ : s.length ≤ 140737488351232) :
    Calls Try.prog 5 #[.string (St s)] w fun e w' => e = .returned (.bool true) ∧ Below w.heap.size w w' := by
  have hss : (St s).size = s.length := rfl
  generalize hls : s.length = ls at *
  have HLS := Lib.hid hls
  clear hls
  go_enter Try.func5, Try.ntmps5
  go_wp2_with fail
  refine (alive2_any w).mono ?_
  rintro e w1 ⟨rfl, hb1⟩
  by_cases h2 : 400 < ls
  · have hd2 : decide ((ls : Int) > 400) = true := decide_eq_true (by omega)
    go_wp2_with fail
    go_ret
    exact ⟨rfl, hb1⟩
  · have hd2 : decide ((ls : Int) > 400) = false := decide_eq_false (by omega)
    have uxs := fun W => unhex_any s W (by rw [HLS.out]; omega)
    have ubs := fun W => unbase_any s W (by rw [HLS.out]; omega)
    have uus := fun W => unurl_any s W (by rw [HLS.out]; omega)
    have rxs := fun W => unhexr_any s W (by rw [HLS.out]; omega)
    have rbs := fun W => unbaser_any false s W (by rw [HLS.out]; omega)
    have rus := fun W => unbaser_any true s W (by rw [HLS.out]; omega)
    unfold UnhexAt at uxs
    unfold FoundAt at ubs uus
    unfold RefAt at rxs rbs rus
    rw [show decL false s = ubase s from rfl] at rbs
    rw [show decL true s = dx true 0 0 s from rfl] at rus
    have HBB := Lib.hid hb1
    have UXS := Lib.hid uxs; have UBS := Lib.hid ubs; have UUS := Lib.hid uus; have RXS := Lib.hid rxs; have RBS := Lib.hid rbs; have RUS := Lib.hid rus
    clear uxs ubs uus rxs rbs rus hb1 h2
    generalize unhexL s = o1 at *
    generalize ubase s = o2 at *
    generalize dx true 0 0 s = o3 at *
    go_wp2_with fail
    refine (UXS.out w1).mono ?_
    rintro e w2 ⟨n2, he⟩
    have HBB := Lib.hid (HBB.out.trans (n2.mono HBB.out.size))
    clear n2
    cases o1 with
    | none =>
      simp only at he
      subst he
      go_wp2_with fail
      refine (RXS.out w2).mono ?_
      rintro e w3 ⟨n3, he⟩
      have HBB := Lib.hid (HBB.out.trans (n3.mono HBB.out.size))
      clear n3
      try simp only at he
      subst he
      go_wp2_with fail
      refine (same_none w3).mono ?_
      rintro e w4 ⟨rfl, rfl⟩
      go_wp2_with fail
      refine (UBS.out w4).mono ?_
      rintro e w5 ⟨n5, he⟩
      have HBB := Lib.hid (HBB.out.trans (n5.mono HBB.out.size))
      clear n5
      cases o2 with
      | none =>
        simp only at he
        subst he
        go_wp2_with fail
        refine (RBS.out w5).mono ?_
        rintro e w6 ⟨n6, he⟩
        have HBB := Lib.hid (HBB.out.trans (n6.mono HBB.out.size))
        clear n6
        try simp only at he
        subst he
        go_wp2_with fail
        refine (same_none w6).mono ?_
        rintro e w7 ⟨rfl, rfl⟩
        go_wp2_with fail
        refine (UUS.out w7).mono ?_
        rintro e w8 ⟨n8, he⟩
        have HBB := Lib.hid (HBB.out.trans (n8.mono HBB.out.size))
        clear n8
        cases o3 with
        | none =>
          simp only at he
          subst he
          go_wp2_with fail
          refine (RUS.out w8).mono ?_
          rintro e w9 ⟨n9, he⟩
          have HBB := Lib.hid (HBB.out.trans (n9.mono HBB.out.size))
          clear n9
          try simp only at he
          subst he
          go_wp2_with fail
          refine (same_none w9).mono ?_
          rintro e w10 ⟨rfl, rfl⟩
          go_wp2_with fail
          go_ret
          exact ⟨rfl, HBB.out⟩
        | some b2 =>
          simp only at he
          obtain ⟨A2, c2, rfl, _, _, h2⟩ := he
          have H2 := Lib.hid h2
          clear h2
          go_wp2_with fail
          refine (RUS.out w8).mono ?_
          rintro e w9 ⟨n9, he⟩
          have HBB := Lib.hid (HBB.out.trans (n9.mono HBB.out.size))
          have H2 := Lib.hid (H2.out.below n9)
          clear n9
          try simp only at he
          obtain ⟨B2, d2, rfl, _, _, g2⟩ := he
          have HS := Lib.hid (same_some b2 A2 B2 c2 d2 w9 H2.out g2)
          clear g2 H2
          generalize b2.length = l2 at *
          go_wp2_with fail
          refine (HS.out).mono ?_
          rintro e w10 ⟨rfl, rfl⟩
          clear HS
          go_wp2_with fail
          go_ret
          exact ⟨rfl, HBB.out⟩
      | some b1 =>
        simp only at he
        obtain ⟨A1, c1, rfl, _, _, h1⟩ := he
        have H1 := Lib.hid h1
        clear h1
        go_wp2_with fail
        refine (RBS.out w5).mono ?_
        rintro e w6 ⟨n6, he⟩
        have HBB := Lib.hid (HBB.out.trans (n6.mono HBB.out.size))
        have H1 := Lib.hid (H1.out.below n6)
        clear n6
        try simp only at he
        obtain ⟨B1, d1, rfl, _, _, g1⟩ := he
        have HS := Lib.hid (same_some b1 A1 B1 c1 d1 w6 H1.out g1)
        clear g1 H1
        generalize b1.length = l1 at *
        go_wp2_with fail
        refine (HS.out).mono ?_
        rintro e w7 ⟨rfl, rfl⟩
        clear HS
        go_wp2_with fail
        refine (UUS.out w7).mono ?_
        rintro e w8 ⟨n8, he⟩
        have HBB := Lib.hid (HBB.out.trans (n8.mono HBB.out.size))
        clear n8
        cases o3 with
        | none =>
          simp only at he
          subst he
          go_wp2_with fail
          refine (RUS.out w8).mono ?_
          rintro e w9 ⟨n9, he⟩
          have HBB := Lib.hid (HBB.out.trans (n9.mono HBB.out.size))
          clear n9
          try simp only at he
          subst he
          go_wp2_with fail
          refine (same_none w9).mono ?_
          rintro e w10 ⟨rfl, rfl⟩
          go_wp2_with fail
          go_ret
          exact ⟨rfl, HBB.out⟩
        | some b2 =>
          simp only at he
          obtain ⟨A2, c2, rfl, _, _, h2⟩ := he
          have H2 := Lib.hid h2
          clear h2
          go_wp2_with fail
          refine (RUS.out w8).mono ?_
          rintro e w9 ⟨n9, he⟩
          have HBB := Lib.hid (HBB.out.trans (n9.mono HBB.out.size))
          have H2 := Lib.hid (H2.out.below n9)
          clear n9
          try simp only at he
          obtain ⟨B2, d2, rfl, _, _, g2⟩ := he
          have HS := Lib.hid (same_some b2 A2 B2 c2 d2 w9 H2.out g2)
          clear g2 H2
          generalize b2.length = l2 at *
          go_wp2_with fail
          refine (HS.out).mono ?_
          rintro e w10 ⟨rfl, rfl⟩
          clear HS
          go_wp2_with fail
          go_ret
          exact ⟨rfl, HBB.out⟩
    | some b0 =>
      simp only at he
      obtain ⟨A0, c0, rfl, _, _, h0⟩ := he
      have H0 := Lib.hid h0
      clear h0
      go_wp2_with fail
      refine (RXS.out w2).mono ?_
      rintro e w3 ⟨n3, he⟩
      have HBB := Lib.hid (HBB.out.trans (n3.mono HBB.out.size))
      have H0 := Lib.hid (H0.out.below n3)
      clear n3
      try simp only at he
      obtain ⟨B0, d0, rfl, _, _, g0⟩ := he
      have HS := Lib.hid (same_some b0 A0 B0 c0 d0 w3 H0.out g0)
      clear g0 H0
      generalize b0.length = l0 at *
      go_wp2_with fail
      refine (HS.out).mono ?_
      rintro e w4 ⟨rfl, rfl⟩
      clear HS
      go_wp2_with fail
      refine (UBS.out w4).mono ?_
      rintro e w5 ⟨n5, he⟩
      have HBB := Lib.hid (HBB.out.trans (n5.mono HBB.out.size))
      clear n5
      cases o2 with
      | none =>
        simp only at he
        subst he
        go_wp2_with fail
        refine (RBS.out w5).mono ?_
        rintro e w6 ⟨n6, he⟩
        have HBB := Lib.hid (HBB.out.trans (n6.mono HBB.out.size))
        clear n6
        try simp only at he
        subst he
        go_wp2_with fail
        refine (same_none w6).mono ?_
        rintro e w7 ⟨rfl, rfl⟩
        go_wp2_with fail
        refine (UUS.out w7).mono ?_
        rintro e w8 ⟨n8, he⟩
        have HBB := Lib.hid (HBB.out.trans (n8.mono HBB.out.size))
        clear n8
        cases o3 with
        | none =>
          simp only at he
          subst he
          go_wp2_with fail
          refine (RUS.out w8).mono ?_
          rintro e w9 ⟨n9, he⟩
          have HBB := Lib.hid (HBB.out.trans (n9.mono HBB.out.size))
          clear n9
          try simp only at he
          subst he
          go_wp2_with fail
          refine (same_none w9).mono ?_
          rintro e w10 ⟨rfl, rfl⟩
          go_wp2_with fail
          go_ret
          exact ⟨rfl, HBB.out⟩
        | some b2 =>
          simp only at he
          obtain ⟨A2, c2, rfl, _, _, h2⟩ := he
          have H2 := Lib.hid h2
          clear h2
          go_wp2_with fail
          refine (RUS.out w8).mono ?_
          rintro e w9 ⟨n9, he⟩
          have HBB := Lib.hid (HBB.out.trans (n9.mono HBB.out.size))
          have H2 := Lib.hid (H2.out.below n9)
          clear n9
          try simp only at he
          obtain ⟨B2, d2, rfl, _, _, g2⟩ := he
          have HS := Lib.hid (same_some b2 A2 B2 c2 d2 w9 H2.out g2)
          clear g2 H2
          generalize b2.length = l2 at *
          go_wp2_with fail
          refine (HS.out).mono ?_
          rintro e w10 ⟨rfl, rfl⟩
          clear HS
          go_wp2_with fail
          go_ret
          exact ⟨rfl, HBB.out⟩
      | some b1 =>
        simp only at he
        obtain ⟨A1, c1, rfl, _, _, h1⟩ := he
        have H1 := Lib.hid h1
        clear h1
        go_wp2_with fail
        refine (RBS.out w5).mono ?_
        rintro e w6 ⟨n6, he⟩
        have HBB := Lib.hid (HBB.out.trans (n6.mono HBB.out.size))
        have H1 := Lib.hid (H1.out.below n6)
        clear n6
        try simp only at he
        obtain ⟨B1, d1, rfl, _, _, g1⟩ := he
        have HS := Lib.hid (same_some b1 A1 B1 c1 d1 w6 H1.out g1)
        clear g1 H1
        generalize b1.length = l1 at *
        go_wp2_with fail
        refine (HS.out).mono ?_
        rintro e w7 ⟨rfl, rfl⟩
        clear HS
        go_wp2_with fail
        refine (UUS.out w7).mono ?_
        rintro e w8 ⟨n8, he⟩
        have HBB := Lib.hid (HBB.out.trans (n8.mono HBB.out.size))
        clear n8
        cases o3 with
        | none =>
          simp only at he
          subst he
          go_wp2_with fail
          refine (RUS.out w8).mono ?_
          rintro e w9 ⟨n9, he⟩
          have HBB := Lib.hid (HBB.out.trans (n9.mono HBB.out.size))
          clear n9
          try simp only at he
          subst he
          go_wp2_with fail
          refine (same_none w9).mono ?_
          rintro e w10 ⟨rfl, rfl⟩
          go_wp2_with fail
          go_ret
          exact ⟨rfl, HBB.out⟩
        | some b2 =>
          simp only at he
          obtain ⟨A2, c2, rfl, _, _, h2⟩ := he
          have H2 := Lib.hid h2
          clear h2
          go_wp2_with fail
          refine (RUS.out w8).mono ?_
          rintro e w9 ⟨n9, he⟩
          have HBB := Lib.hid (HBB.out.trans (n9.mono HBB.out.size))
          have H2 := Lib.hid (H2.out.below n9)
          clear n9
          try simp only at he
          obtain ⟨B2, d2, rfl, _, _, g2⟩ := he
          have HS := Lib.hid (same_some b2 A2 B2 c2 d2 w9 H2.out g2)
          clear g2 H2
          generalize b2.length = l2 at *
          go_wp2_with fail
          refine (HS.out).mono ?_
          rintro e w10 ⟨rfl, rfl⟩
          clear HS
          go_wp2_with fail
          go_ret
          exact ⟨rfl, HBB.out⟩
end Go.Proofs.Ytbioclpobmgikaa
