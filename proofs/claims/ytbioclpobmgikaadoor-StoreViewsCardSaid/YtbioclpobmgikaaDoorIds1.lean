/- Lists of texts: what the walks of layer 25 keep; chain names by plain lists. -/
import Derived.Test.YtbioclpobmgikaaDoorDig6
import Derived.SliceStrings
namespace Go.Proofs.YtbioclpobmgikaaDoor
open Go.RowKit

def Ss (ts : List (List UInt8)) : List Value := ts.map fun t => .string (St t)
theorem Ss_length (ts : List (List UInt8)) : (Ss ts).length = ts.length := by simp [Ss]
theorem Ss_get (ts : List (List UInt8)) (j : Nat) (h : j < ts.length) : (Ss ts)[j]? = some (.string (St (ts.getD j []))) := by
  simp [Ss, List.getD, h]
theorem Ss_mem (ts : List (List UInt8)) : ∀ v ∈ Ss ts, v.oneCell' = true := by
  intro v hv
  simp only [Ss, List.mem_map] at hv
  obtain ⟨x, _, rfl⟩ := hv
  rfl
/-- a slice's texts -/
def TextsAt (w : World) (A : Option Addr) (ts : List (List UInt8)) : Prop := ∀ j, j < ts.length → ∃ a, A = some a ∧ w.cell? (a.add j) = some (.string (St (ts.getD j [])))
theorem TextsAt.below {w w' : World} {A : Option Addr} {l : List (List UInt8)} (h : TextsAt w A l) (hb : Below w.heap.size w w') : TextsAt w' A l := fun j hj => by
  obtain ⟨a, rfl, hc⟩ := h j hj
  exact ⟨a, rfl, (hb.cell (p := a.add j) (World.block_lt_of_cell? w _ hc)).trans hc⟩
theorem TextsAt.alloc {w : World} {A : Option Addr} {l : List (List UInt8)} (h : TextsAt w A l) (o : Obj) : TextsAt (w.alloc o) A l := h.below ((Below.refl _ _).alloc (Nat.le_refl _) _)

theorem info9' : (Tryd.prog.info? 9).map (fun i => (i.zero, i.size, i.bytes)) = some (some (.string ⟨#[]⟩), 1, 16) := by kernel_rfl
theorem zero9 : ∃ i, Tryd.prog.info? 9 = some i ∧ i.zero = some (.string ⟨#[]⟩) ∧ i.size = 1 ∧ i.bytes = 16 := by
  have h := info9'
  cases hi : Tryd.prog.info? 9 with
  | none => rw [hi] at h; cases h
  | some i => rw [hi] at h; simp at h; exact ⟨i, rfl, h.1, h.2.1, h.2.2⟩
/-- texts are appended, from wherever they lie -/
theorem wpList_append_texts {w : World} {ops : Array Oper} {rest : List Oper} {o : Oper} {a : Act} {Q : Exit → Act → World → Prop} (hgd : o.guard = none) (s x : Operand)
    (ho : o.op = .call { callee := .builtin .append, args := #[s, x], argTypes := #[58, 58] })
    (base : Nat) (v : Value) (n : Nat) (t : List (List UInt8)) (hs : a.eval s = v) (hown : w.ownsRow base 9 1 v n (Ss t))
    (A : Option Addr) (bs : List (List UInt8)) (m c : Nat) (hm : bs.length = m) (hx : a.eval x = .slice A m c) (hby : TextsAt w A bs) (hn : A = none → c = 0)
    (h63 : n + m ≤ 1000000) (hbase : base ≤ w.heap.size)
    (h : ∀ v' w', w'.ownsRow base 9 1 v' (n + m) (Ss (t ++ bs)) → w.grownBy w' v.ownBlock → (v' = .slice none 0 0 ↔ v = .slice none 0 0 ∧ m = 0) → wpList Tryd.prog ops Q rest (a.put o.dst v') w') :
    wpList Tryd.prog ops Q (o :: rest) a w := by
  subst hm
  obtain ⟨i0, hi0, hz0, hz1, hz2⟩ := zero9
  have hap : Ss t ++ Ss bs = Ss (t ++ bs) := by simp [Ss]
  cases A with
  | some ad =>
    exact wpList_append_own w hgd s x 58 ho base 9 i0 _ 1 16 Tryd.underlying58 hi0 hz0 hz1 hz2 rfl (by decide) v _ _ hs hown ad bs.length c (Ss bs) hx (by rw [Ss_length]; omega)
      (fun j u hu => by
        have hj : j < bs.length := by rw [← Ss_length]; exact (List.getElem?_eq_some_iff.1 hu).1
        obtain ⟨a', ha, hc⟩ := hby j hj
        obtain rfl := Option.some.inj ha
        rw [hc, ← hu, Ss_get _ _ hj]) (Ss_mem _) (by unfold maxLen; omega) (by omega) hbase (by rw [hap]; exact h)
  | none =>
    obtain rfl := hn rfl
    have h0 : bs.length = 0 := by
      cases bs with
      | nil => rfl
      | cons b t => obtain ⟨a', ha, _⟩ := hby 0 (by simp); cases ha
    rw [h0] at hx
    have hbs : bs = [] := List.length_eq_zero_iff.1 h0
    refine wpList_append_own_none hgd s x 58 ho base 9 i0 1 Tryd.underlying58 hi0 v _ _ hs hown hx (h v w (by rw [hbs]; simpa using hown) (World.grownBy.refl _ _) (by simp [h0]))
/-- what a row of texts of a call's own looks like -/
theorem own_texts {w : World} {base n : Nat} {v : Value} {ts : List (List UInt8)} (h : w.ownsRow base 9 1 v n (Ss ts)) : ∃ A c, v = .slice A n c ∧ (A = none → c = 0) ∧ n ≤ c ∧ ts.length = n ∧ TextsAt w A ts := by
  have hl : ts.length = n := by have := h.1; rw [Ss_length] at this; omega
  rcases h.2 with ⟨rfl, h0⟩ | ⟨g, cap, cur, rfl, _, _, h4, _⟩
  · subst h0
    exact ⟨none, 0, rfl, fun _ => rfl, Nat.le_refl _, hl, fun j hj => by omega⟩
  · exact ⟨some ⟨g, 0, none⟩, cap, rfl, fun h => (by cases h), h4, hl, fun j hj => ⟨_, rfl, h.cells (g := g) rfl j _ (Ss_get _ _ hj)⟩⟩
theorem owns_below {w w' : World} {base n : Nat} {e : TypeId} {v : Value} {xs : List Value} (h : w.ownsRow base e 1 v n xs) (hb : Below w.heap.size w w') : w'.ownsRow base e 1 v n xs := by
  refine ⟨h.1, ?_⟩
  rcases h.2 with hn | ⟨g, cap, cur, h1, h2, h3, rest⟩
  · exact .inl hn
  · exact .inr ⟨g, cap, cur, h1, h2, (hb.block _ (Array.getElem?_eq_some_iff.1 h3).1).trans h3, rest⟩
theorem text_new (w : World) (t : List UInt8) : TextsAt (w.alloc (.cells #[.string (St t)] 9)) (some ⟨w.heap.size, 0, none⟩) [t] := fun j hj => by
  have : j = 0 := by simp at hj; exact hj
  subst this
  refine ⟨_, rfl, ?_⟩
  rw [show (⟨w.heap.size, 0, none⟩ : Addr).add 0 = ⟨w.heap.size, 0, none⟩ from rfl, World.cell?_alloc_new]
  rfl

theorem add_zero' (a : Addr) : a.add 0 = a := by
  unfold Addr.add
  split <;> simp_all

/-- the chain name of the first i + 1 of names -/
def chainAt (ds : List (List UInt8)) : Nat → List UInt8
  | 0 => ds.getD 0 []
  | i + 1 => nameOf (chainAt ds i ++ [32] ++ ds.getD (i + 1) [])
def chainsTo (ds : List (List UInt8)) (k : Nat) : List (List UInt8) := (List.range k).map (chainAt ds)
theorem chainsTo_length (ds : List (List UInt8)) (k : Nat) : (chainsTo ds k).length = k := by simp [chainsTo]
theorem chainsTo_succ (ds : List (List UInt8)) (k : Nat) : chainsTo ds (k + 1) = chainsTo ds k ++ [chainAt ds k] := by simp [chainsTo, List.range_succ]
theorem chainsTo_get (ds : List (List UInt8)) (k j : Nat) (h : j < k) : (chainsTo ds k).getD j [] = chainAt ds j := by simp [chainsTo, List.getD, h]
theorem chainAt_len (ds : List (List UInt8)) (N : Nat) (hN : 71 ≤ N) (h : ∀ j, j < ds.length → (ds.getD j []).length ≤ N) (i : Nat) : (chainAt ds i).length ≤ N := by
  cases i with
  | zero =>
    cases ds with
    | nil => simp [chainAt]
    | cons d t => exact h 0 (by simp)
  | succ i => rw [chainAt, nameOf_length]; exact hN

set_option maxHeartbeats 4000000 in
set_option maxRecDepth 100000 in
theorem chainIds_any (ds : List (List UInt8)) (A : Option Addr) (c : Nat) (w : World) (hL : Laid w) (hby : TextsAt w A ds) (hm : ds.length ≤ 10000) (hlen : ∀ j, j < ds.length → (ds.getD j []).length ≤ 100000) :
    Calls Tryd.prog 47 #[.slice A ds.length c] w fun e w' => ∃ v, e = .returned v ∧ Below w.heap.size w w' ∧ w'.ownsRow w.heap.size 9 1 v ds.length (Ss (chainsTo ds ds.length)) := by
  have HBY := Lib.hid hby; have HLEN := Lib.hid hlen
  have HCL := Lib.hid (chainAt_len ds 100000 (by omega) hlen)
  clear hby hlen
  generalize hn : ds.length = n at *
  have HN := Lib.hid hn
  clear hn
  go_enter Tryd.func47, Tryd.ntmps47
  go_wp2_with fail
  go_loopw [3, 4, 5, 8] (fun o _ _ v wr => ∃ k : Nat, k ≤ n ∧ v = .int .i64 (k : Int) ∧ Below w.heap.size w wr ∧ wr.ownsRow w.heap.size 9 1 o k (Ss (chainsTo ds k))) (fun _ _ _ v _ => n - (intOf v).toNat)
  case atStart => exact ⟨0, by omega, rfl, Below.refl _ _, ⟨rfl, .inl ⟨rfl, rfl⟩⟩⟩
  case round =>
    obtain ⟨k, hk, rfl, hbel, hown⟩ := hrel
    by_cases hlt : k < n
    · obtain ⟨a, rfl, hc⟩ := HBY.out k (by rw [HN.out]; exact hlt)
      have gc : wr.cell? (a.add k) = some (.string (St (ds.getD k []))) := (hbel.cell (p := a.add k) (World.block_lt_of_cell? w _ hc)).trans hc
      have hld := HLEN.out k hlt
      clear hc
      by_cases hk0 : k = 0
      · subst hk0
        have hs1 := chainsTo_succ ds 0
        rw [show chainAt ds 0 = ds.getD 0 [] from rfl] at hs1
        have HS1 := Lib.hid hs1
        clear hs1
        generalize ds.getD 0 [] = d at *
        have hwz := hbel.size
        rw [add_zero'] at gc
        rw [show ((0 : Nat) : Int) = 0 from rfl]
        go_wp2_with (refine wpList_append_texts rfl (.tmp 22) (.tmp 24) rfl w.heap.size _ 0 (chainsTo ds 0) rfl (hown.alloc _) (some ⟨wr.heap.size, 0, none⟩) [d] 1 1 rfl rfl (text_new wr d) (fun h => by cases h) (by omega) (by simp; omega) ?_; rintro v' w3 hown' hgrow hnil)
        have hb3 := (hbel.alloc hwz (.cells #[.string (St d)] 9)).grown hgrow (by simp; omega) (fun k hk => (hown.lt k hk).1)
        go_roundw
        case rel => exact ⟨1, by omega, rfl, hb3, by rw [HS1.out]; exact hown'⟩
        case measure => simp [intOf]; omega
      · obtain ⟨p, hp⟩ : ∃ p, p + 1 = k := ⟨k - 1, by omega⟩
        have hs1 := chainsTo_succ ds k
        have hcat : chainAt ds k = nameOf (chainAt ds p ++ [32] ++ ds.getD k []) := by rw [← hp]; rfl
        rw [hcat] at hs1
        have hcl := HCL.out p
        obtain ⟨A', c', rfl, _, hc', hlen', hT⟩ := own_texts hown
        obtain ⟨a', rfl, hcell⟩ := hT p (by omega)
        rw [chainsTo_get ds k p (by omega)] at hcell
        have HS1 := Lib.hid hs1
        clear hs1 hT hcat
        generalize ds.getD k [] = d at *
        generalize chainAt ds p = pt at *
        have hd0 : decide ((k : Int) > 0) = true := decide_eq_true (by omega)
        have e1 : (k : Int) - 1 = (p : Int) := by omega
        have e2 : (p : Int) < (k : Int) := by omega
        have hwz := hbel.size
        have hL1 := hL.below hbel
        have hch := chain_any pt d wr hL1 (by omega)
        have HCH := Lib.hid hch; have HP := Lib.hid hp
        clear hch hL1 hp
        go_wp2_with fail
        refine HCH.out.mono ?_
        rintro e w2 ⟨rfl, hb2⟩
        have hbel2 := hbel.trans (hb2.mono hwz)
        have hown2 : w2.ownsRow w.heap.size 9 1 (.slice (some a') k c') k (Ss (chainsTo ds k)) := owns_below hown hb2
        have hwz2 := hbel2.size
        generalize nameOf (pt ++ [32] ++ d) = q at *
        clear gc hcell hown e1 e2
        go_wp2_with (refine wpList_append_texts rfl (.tmp 22) (.tmp 24) rfl w.heap.size _ k (chainsTo ds k) rfl (hown2.alloc _) (some ⟨w2.heap.size, 0, none⟩) [q] 1 1 rfl rfl (text_new w2 q) (fun h => by cases h) (by omega) (by simp; omega) ?_; rintro v' w3 hown' hgrow hnil)
        have hb3 := (hbel2.alloc hwz2 (.cells #[.string (St q)] 9)).grown hgrow (by simp; omega) (fun k hk => (hown2.lt k hk).1)
        go_roundw
        case rel => exact ⟨k + 1, by omega, by go_num, hb3, by rw [HS1.out]; exact hown'⟩
        case measure => simp [intOf]; omega
    · obtain rfl : k = n := by omega
      go_wp2_with fail
      go_ret
      exact ⟨_, rfl, hbel, hown⟩
end Go.Proofs.YtbioclpobmgikaaDoor
