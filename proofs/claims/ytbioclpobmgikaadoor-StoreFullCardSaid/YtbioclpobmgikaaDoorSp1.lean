/- What a store is by plain lists: order, right stores, what is put and found again. -/
import Derived.Test.YtbioclpobmgikaaDoorSt9
namespace Go.Proofs.YtbioclpobmgikaaDoor

theorem bl_irrefl : ∀ a : List UInt8, Op.bytesLess a a = false
  | [] => rfl
  | x :: a => by simp [Op.bytesLess, bl_irrefl a]
theorem bl_trans : ∀ a b c : List UInt8, Op.bytesLess a b = true → Op.bytesLess b c = true → Op.bytesLess a c = true
  | _, [], _, h, _ => by simp [Op.bytesLess] at h
  | [], _ :: _, [], _, h => by simp [Op.bytesLess] at h
  | [], _ :: _, _ :: _, _, _ => rfl
  | _ :: _, _ :: _, [], _, h => by simp [Op.bytesLess] at h
  | x :: a, y :: b, z :: c, h1, h2 => by
    simp only [Op.bytesLess, Bool.or_eq_true, decide_eq_true_eq, Bool.and_eq_true, beq_iff_eq] at h1 h2 ⊢
    rcases h1 with h1 | ⟨rfl, h1⟩
    · rcases h2 with h2 | ⟨rfl, h2⟩
      · exact .inl (UInt8.lt_trans h1 h2)
      · exact .inl h1
    · rcases h2 with h2 | ⟨rfl, h2⟩
      · exact .inl h2
      · exact .inr ⟨rfl, bl_trans a b c h1 h2⟩
theorem bl_tri : ∀ a b : List UInt8, Op.bytesLess a b = false → a ≠ b → Op.bytesLess b a = true
  | [], [], _, h => absurd rfl h
  | [], _ :: _, h, _ => by simp [Op.bytesLess] at h
  | _ :: _, [], _, _ => rfl
  | x :: a, y :: b, h, hn => by
    simp only [Op.bytesLess, Bool.or_eq_false_iff, decide_eq_false_iff_not, Bool.and_eq_false_iff, beq_eq_false_iff_ne, Bool.or_eq_true, decide_eq_true_eq, Bool.and_eq_true, beq_iff_eq] at h ⊢
    obtain ⟨h1, h2⟩ := h
    by_cases hxy : x = y
    · subst hxy
      refine .inr ⟨rfl, bl_tri a b ?_ (fun e => hn (by rw [e]))⟩
      rcases h2 with h2 | h2
      · exact absurd rfl h2
      · exact h2
    · refine .inl (UInt8.lt_of_le_of_ne (UInt8.not_lt.1 h1) (fun e => hxy e.symm))
theorem gtB_iff (n m : List UInt8) : gtB n m = true ↔ Op.bytesLess m n = true := by
  unfold gtB
  constructor
  · intro h
    simp only [Bool.and_eq_true, Bool.not_eq_true'] at h
    exact bl_tri n m h.1 ((eqB_false _ _).1 h.2)
  · intro h
    have hn : n ≠ m := fun e => by rw [e, bl_irrefl] at h; cases h
    rw [(eqB_false n m).2 hn]
    cases hq : Op.bytesLess n m with
    | false => rfl
    | true => have := bl_trans _ _ _ h hq; rw [bl_irrefl] at this; cases this
theorem gtB_false (n m : List UInt8) (h : gtB n m = false) (hn : n ≠ m) : Op.bytesLess n m = true := by
  cases hq : Op.bytesLess n m with
  | true => rfl
  | false => rw [(gtB_iff n m).2 (bl_tri n m hq hn)] at h; cases h

/-- strictly rising names -/
def Srt (s : St2) : Prop := s.Pairwise fun x y => Op.bytesLess x.1 y.1 = true
theorem setAt_eq (s : St2) (nm : List UInt8) : setAt s nm = s.findIdx fun x => gtB x.1 nm := by
  unfold setAt idxS
  have := List.findIdx_le_length (xs := s) (p := fun x => gtB x.1 nm)
  show (if (if s.findIdx (fun x => gtB x.1 nm) < s.length then ((s.findIdx (fun x => gtB x.1 nm) : Nat) : Int) else -1) < 0 then s.length else (if s.findIdx (fun x => gtB x.1 nm) < s.length then ((s.findIdx (fun x => gtB x.1 nm) : Nat) : Int) else -1).toNat) = _
  generalize s.findIdx (fun x => gtB x.1 nm) = f at *
  by_cases h : f < s.length
  · simp only [if_pos h]
    rw [if_neg (by omega), Int.toNat_natCast]
  · simp only [if_neg h]
    rw [if_pos (by omega)]; omega
theorem setAt_le (s : St2) (nm : List UInt8) : setAt s nm ≤ s.length := by rw [setAt_eq]; exact List.findIdx_le_length
/-- a name set in -/
def ins (s : St2) (nm d : List UInt8) : St2 := s.take (setAt s nm) ++ [(nm, d)] ++ s.drop (setAt s nm)
theorem ins_nil (nm d : List UInt8) : ins [] nm d = [(nm, d)] := rfl
theorem ins_cons (y : List UInt8 × List UInt8) (s : St2) (nm d : List UInt8) : ins (y :: s) nm d = if gtB y.1 nm then (nm, d) :: y :: s else y :: ins s nm d := by
  unfold ins
  rw [setAt_eq, setAt_eq, List.findIdx_cons]
  cases gtB y.1 nm <;> rfl
theorem ins_mem (nm d : List UInt8) (x : List UInt8 × List UInt8) : ∀ s : St2, x ∈ ins s nm d ↔ x = (nm, d) ∨ x ∈ s
  | [] => by simp [ins_nil]
  | y :: s => by
    rw [ins_cons]
    split
    · simp
    · rw [List.mem_cons, ins_mem nm d x s, List.mem_cons]
      constructor
      · rintro (h | h | h)
        · exact .inr (.inl h)
        · exact .inl h
        · exact .inr (.inr h)
      · rintro (h | h | h)
        · exact .inr (.inl h)
        · exact .inl h
        · exact .inr (.inr h)
theorem ins_length (s : St2) (nm d : List UInt8) : (ins s nm d).length = s.length + 1 := by
  have := setAt_le s nm
  simp [ins]; omega
theorem ins_srt (nm d : List UInt8) : ∀ s : St2, Srt s → (∀ x ∈ s, x.1 ≠ nm) → Srt (ins s nm d)
  | [], _, _ => by simp [ins_nil, Srt]
  | y :: s, h, hn => by
    rw [ins_cons]
    have h1 := List.pairwise_cons.1 h
    split
    · rename_i hg
      have hg := (gtB_iff _ _).1 hg
      refine List.pairwise_cons.2 ⟨fun z hz => ?_, h⟩
      rcases List.mem_cons.1 hz with rfl | hz
      · exact hg
      · exact bl_trans _ _ _ hg (h1.1 z hz)
    · rename_i hg
      have hg := gtB_false _ _ (by simpa using hg) (hn y (by simp))
      refine List.pairwise_cons.2 ⟨fun z hz => ?_, ins_srt nm d s h1.2 fun x hx => hn x (by simp [hx])⟩
      rcases (ins_mem nm d z s).1 hz with rfl | hz
      · exact hg
      · exact h1.1 z hz
theorem place_hit (s : St2) (nm : List UInt8) (h : 0 ≤ placeS s nm) : ∃ k : Nat, placeS s nm = (k : Int) ∧ k < s.length ∧ (s.getD k ([], [])).1 = nm ∧ s.getD k ([], []) ∈ s ∧ ∀ j, j < k → (s.getD j ([], [])).1 ≠ nm := by
  unfold placeS idxS at h ⊢
  split at h
  · rename_i hlt
    rw [if_pos hlt]
    refine ⟨_, rfl, hlt, ?_, ?_, fun j hj => ?_⟩
    · have := List.findIdx_getElem (w := hlt)
      simp only [List.getD, List.getElem?_eq_getElem hlt, Option.getD_some]
      exact (eqB_true _ _).1 this
    · simp only [List.getD, List.getElem?_eq_getElem hlt, Option.getD_some]
      exact List.getElem_mem _
    · have := List.not_of_lt_findIdx hj
      have hjl : j < s.length := by omega
      simp only [List.getD, List.getElem?_eq_getElem hjl, Option.getD_some]
      exact fun e => by
        rw [e] at this
        have h2 : eqB nm nm = false := by simpa using this
        rw [eqB_self] at h2; cases h2
  · omega
theorem place_none (s : St2) (nm : List UInt8) (h : ¬ 0 ≤ placeS s nm) : ∀ x ∈ s, x.1 ≠ nm := by
  intro x hx e
  apply h
  unfold placeS idxS
  rw [if_pos]
  · omega
  · exact List.findIdx_lt_length.2 ⟨x, hx, by rw [e]; exact eqB_self _⟩
theorem place_mem (s : St2) (nm : List UInt8) (x : List UInt8 × List UInt8) (hx : x ∈ s) (e : x.1 = nm) : 0 ≤ placeS s nm := by
  apply Classical.byContradiction
  intro h
  exact place_none s nm h x hx e

/-- what stands in a store of these blobs -/
structure Inv (s : St2) (ds : List (List UInt8)) : Prop where
  srt : Srt s
  nam : ∀ x ∈ s, x.1 = nameOf x.2
  sub : ∀ x ∈ s, x.2 ∈ ds
  sup : ∀ d ∈ ds, (nameOf d, d) ∈ s
  len : s.length ≤ ds.length
theorem Inv.nil : Inv [] [] := ⟨List.Pairwise.nil, fun _ h => (List.not_mem_nil h).elim, fun _ h => (List.not_mem_nil h).elim, fun _ h => (List.not_mem_nil h).elim, Nat.le_refl _⟩
theorem total_small : ∀ s : St2, (∀ x ∈ s, x.2.length ≤ 2000) → totalS s ≤ 2000 * s.length
  | [], _ => by simp [totalS]
  | x :: s, h => by
    have h1 := h x (by simp)
    have h2 := total_small s fun y hy => h y (by simp [hy])
    rw [totalS, List.map_cons, List.sum_cons, ← totalS, List.length_cons]
    omega
theorem put_inv (s : St2) (ds : List (List UInt8)) (d : List UInt8) (h : Inv s ds) (hs : ∀ x ∈ ds, x.length ≤ 2000) (hd : d.length ≤ 2000) (hn : ds.length ≤ 200) :
    (∃ s', putS s d = .inr s' ∧ Inv s' (ds ++ [d])) ∨ (putS s d = .inl 6 ∧ ∃ d' ∈ ds, nameOf d = nameOf d' ∧ d ≠ d') := by
  unfold putS
  rw [if_neg (by omega)]
  by_cases hp : 0 ≤ placeS s (nameOf d)
  · rw [if_pos hp]
    obtain ⟨k, hk, hkl, hkn, hkm, _⟩ := place_hit _ _ hp
    rw [hk, Int.toNat_natCast]
    by_cases he : (s.getD k ([], [])).2 = d
    · rw [if_pos ((eqB_true _ _).2 he)]
      have hdm : d ∈ ds := by rw [← he]; exact h.sub _ hkm
      refine .inl ⟨s, rfl, h.srt, h.nam, fun x hx => by rw [List.mem_append]; exact .inl (h.sub x hx), fun x hx => ?_, by rw [List.length_append]; have := h.len; omega⟩
      rcases List.mem_append.1 hx with hx | hx
      · exact h.sup x hx
      · obtain rfl : x = d := by simpa using hx
        exact h.sup _ hdm
    · rw [if_neg (by rw [eqB_true]; exact he)]
      refine .inr ⟨rfl, _, h.sub _ hkm, ?_, fun e => he e.symm⟩
      rw [← hkn]; exact h.nam _ hkm
  · have ht := total_small s fun x hx => hs _ (h.sub x hx)
    have hl := h.len
    rw [if_neg hp, if_neg (by omega), if_neg (by omega)]
    refine .inl ⟨_, rfl, ?_⟩
    show Inv (ins s (nameOf d) d) _
    refine ⟨ins_srt _ _ _ h.srt (place_none _ _ hp), fun x hx => ?_, fun x hx => ?_, fun x hx => ?_, by rw [ins_length, List.length_append, List.length_singleton]; omega⟩
    · rcases (ins_mem _ _ _ _).1 hx with rfl | hx
      · rfl
      · exact h.nam x hx
    · rw [List.mem_append]
      rcases (ins_mem _ _ _ _).1 hx with rfl | hx
      · simp
      · exact .inl (h.sub x hx)
    · rw [ins_mem]
      rcases List.mem_append.1 hx with hx | hx
      · exact .inr (h.sup x hx)
      · obtain rfl : x = d := by simpa using hx
        exact .inl rfl
/-- rising lists with the same members are the same -/
theorem srt_eq : ∀ s t : St2, Srt s → Srt t → (∀ x, x ∈ s ↔ x ∈ t) → s = t
  | [], [], _, _, _ => rfl
  | [], y :: t, _, _, h => by have := (h y).2 (by simp); cases this
  | x :: s, [], _, _, h => by have := (h x).1 (by simp); cases this
  | x :: s, y :: t, hs, ht, h => by
    have h1 := List.pairwise_cons.1 hs
    have h2 := List.pairwise_cons.1 ht
    have hne : ∀ {a b : List UInt8 × List UInt8}, Op.bytesLess a.1 b.1 = true → Op.bytesLess b.1 a.1 = true → False := fun p q => by
      have := bl_trans _ _ _ p q
      rw [bl_irrefl] at this; cases this
    have hxy : x = y := by
      rcases List.mem_cons.1 ((h x).1 (by simp)) with e | hx
      · exact e
      · rcases List.mem_cons.1 ((h y).2 (by simp)) with e | hy
        · exact e.symm
        · exact (hne (h2.1 x hx) (h1.1 y hy)).elim
    subst hxy
    rw [srt_eq s t h1.2 h2.2 fun z => ?_]
    constructor
    · intro hz
      rcases List.mem_cons.1 ((h z).1 (by simp [hz])) with rfl | h'
      · have := h1.1 z hz; rw [bl_irrefl] at this; cases this
      · exact h'
    · intro hz
      rcases List.mem_cons.1 ((h z).2 (by simp [hz])) with rfl | h'
      · have := h2.1 z hz; rw [bl_irrefl] at this; cases this
      · exact h'
theorem inv_eq (s t : St2) (ds es : List (List UInt8)) (h1 : Inv s ds) (h2 : Inv t es) (h : ∀ d, d ∈ ds ↔ d ∈ es) : s = t :=
  srt_eq s t h1.srt h2.srt fun x => by
    constructor
    · intro hx
      have := h2.sup _ ((h _).1 (h1.sub x hx))
      rwa [← h1.nam x hx] at this
    · intro hx
      have := h1.sup _ ((h _).2 (h2.sub x hx))
      rwa [← h2.nam x hx] at this
/-- names tell the blobs of a store apart -/
theorem inv_one (s : St2) (ds : List (List UInt8)) (h : Inv s ds) : ∀ a ∈ ds, ∀ b ∈ ds, nameOf a = nameOf b → a = b := by
  have key : ∀ s : St2, Srt s → ∀ x ∈ s, ∀ y ∈ s, x.1 = y.1 → x = y := by
    intro s
    induction s with
    | nil => intro _ x hx; cases hx
    | cons z s ih =>
      intro hs x hx y hy e
      have h1 := List.pairwise_cons.1 hs
      rcases List.mem_cons.1 hx with rfl | hx2 <;> rcases List.mem_cons.1 hy with rfl | hy2
      · rfl
      · have := h1.1 y hy2; rw [e, bl_irrefl] at this; cases this
      · have := h1.1 x hx2; rw [e, bl_irrefl] at this; cases this
      · exact ih h1.2 x hx2 y hy2 e
  intro a ha b hb e
  have := key s h.srt _ (h.sup a ha) _ (h.sup b hb) e
  exact congrArg Prod.snd this

/-- what a blob of a store fails by; 0: by nothing -/
def checkAt (s : St2) (i : Nat) : Nat :=
  if isName (s.getD i ([], [])).1 = false then 2
  else if 0 < i ∧ Op.bytesLess (s.getD (i - 1) ([], [])).1 (s.getD i ([], [])).1 = false then 1
  else if 1048576 < (s.getD i ([], [])).2.length then 3
  else if (s.getD i ([], [])).1 ≠ nameOf (s.getD i ([], [])).2 then 6
  else if 8388608 < totalS (s.take (i + 1)) then 5 else 0
def checkFrom (s : St2) : Nat → Nat → Nat
  | 0, _ => 0
  | n + 1, i => if checkAt s i = 0 then checkFrom s n (i + 1) else checkAt s i
def checkS (s : St2) : Nat := if 256 < s.length then 14 else checkFrom s s.length 0
theorem checkFrom_hit (s : St2) (k : Nat) (h : checkAt s k ≠ 0) : ∀ n i, (∀ j, i ≤ j → j < k → checkAt s j = 0) → i ≤ k → k < i + n → checkFrom s n i = checkAt s k
  | 0, i, _, _, hk => by omega
  | n + 1, i, hj, hi, hk => by
    rw [checkFrom]
    by_cases hik : i = k
    · subst hik; rw [if_neg h]
    · rw [if_pos (hj i (Nat.le_refl _) (by omega))]
      exact checkFrom_hit s k h n (i + 1) (fun j h1 h2 => hj j (by omega) h2) (by omega) (by omega)
theorem checkFrom_none (s : St2) : ∀ n i, (∀ j, i ≤ j → j < i + n → checkAt s j = 0) → checkFrom s n i = 0
  | 0, _, _ => rfl
  | n + 1, i, h => by
    rw [checkFrom, if_pos (h i (Nat.le_refl _) (by omega))]
    exact checkFrom_none s n (i + 1) fun j h1 h2 => h j (by omega) (by omega)
theorem checkS_hit (s : St2) (k : Nat) (hl : s.length ≤ 256) (hk : k < s.length) (h : checkAt s k ≠ 0) (hj : ∀ j, j < k → checkAt s j = 0) : checkS s = checkAt s k := by
  rw [checkS, if_neg (by omega), checkFrom_hit s k h s.length 0 (fun j _ h2 => hj j h2) (by omega) (by omega)]
theorem checkS_none (s : St2) (hl : s.length ≤ 256) (hj : ∀ j, j < s.length → checkAt s j = 0) : checkS s = 0 := by
  rw [checkS, if_neg (by omega), checkFrom_none s s.length 0 (fun j _ h2 => hj j (by omega))]
theorem total_take_le (s : St2) : ∀ k, totalS (s.take k) ≤ totalS s := by
  intro k
  have h : totalS s = totalS (s.take k) + totalS (s.drop k) := by
    unfold totalS
    rw [← List.sum_append, ← List.map_append, List.take_append_drop]
  omega
theorem srt_get (s : St2) (h : Srt s) (i j : Nat) (hij : i < j) (hj : j < s.length) : Op.bytesLess (s.getD i ([], [])).1 (s.getD j ([], [])).1 = true := by
  have := List.pairwise_iff_getElem.1 h i j (by omega) hj hij
  simpa [List.getD, List.getElem?_eq_getElem hj, List.getElem?_eq_getElem (show i < s.length by omega)] using this
theorem inv_check (s : St2) (ds : List (List UInt8)) (h : Inv s ds) (hs : ∀ x ∈ ds, x.length ≤ 2000) (hn : ds.length ≤ 200) : checkS s = 0 := by
  have hl := h.len
  refine checkS_none s (by omega) fun j hj => ?_
  have hm : s.getD j ([], []) ∈ s := by simp [List.getD, List.getElem?_eq_getElem hj]
  have h1 := h.nam _ hm
  have h2 := hs _ (h.sub _ hm)
  have h3 := total_small s fun x hx => hs _ (h.sub x hx)
  have h4 := total_take_le s (j + 1)
  unfold checkAt
  rw [if_neg (by rw [h1, nameOf_is]; decide), if_neg, if_neg (by omega), if_neg (by simpa using h1), if_neg (by omega)]
  rintro ⟨h5, h6⟩
  rw [srt_get s h.srt (j - 1) j (by omega) hj] at h6
  cases h6

/-- what Get answers -/
def getS (s : St2) (nm : List UInt8) : Nat ⊕ List UInt8 :=
  if 0 ≤ placeS s nm then (if nm = nameOf (s.getD (placeS s nm).toNat ([], [])).2 then .inr (s.getD (placeS s nm).toNat ([], [])).2 else .inl 6) else .inl 4
theorem inv_get (s : St2) (ds : List (List UInt8)) (d : List UInt8) (h : Inv s ds) (hd : d ∈ ds) : getS s (nameOf d) = .inr d := by
  have hp := place_mem s (nameOf d) _ (h.sup d hd) rfl
  obtain ⟨k, hk, _, hkn, hkm, _⟩ := place_hit _ _ hp
  have hdd : (s.getD k ([], [])).2 = d := inv_one s ds h _ (h.sub _ hkm) _ hd (by rw [← hkn]; exact (h.nam _ hkm).symm)
  rw [getS, if_pos hp, hk, Int.toNat_natCast, hdd, if_pos rfl]
end Go.Proofs.YtbioclpobmgikaaDoor
