/- Stores by plain lists; stores looked at and what is got of them: walks. -/
import Derived.Test.YtbioclpobmgikaaDoorG2
namespace Go.Proofs.YtbioclpobmgikaaDoor

theorem bl_irrefl : ∀ a : List UInt8, Op.bytesLess a a = false
  | [] => rfl
  | x :: a => by simp [Op.bytesLess, bl_irrefl a]
theorem bl_trans : ∀ a b c : List UInt8, Op.bytesLess a b = true → Op.bytesLess b c = true → Op.bytesLess a c = true
  | _, [], _, h, _ => by simp [Op.bytesLess] at h
  | [], _ :: _, [], _, h => by simp [Op.bytesLess] at h
  | [], _ :: _, _ :: _, _, _ => rfl
  | _ :: _, _ :: _, [], _, h => by simp [Op.bytesLess] at h
  | x :: a, y :: b, z :: c, h1, h2 => by
    simp only [Op.bytesLess, Bool.or_eq_true, decide_eq_true_eq, Bool.and_eq_true, beq_iff_eq] at h1 h2 ⊢
    rcases h1 with h1 | ⟨rfl, h1⟩
    · rcases h2 with h2 | ⟨rfl, h2⟩
      · exact .inl (UInt8.lt_trans h1 h2)
      · exact .inl h1
    · rcases h2 with h2 | ⟨rfl, h2⟩
      · exact .inl h2
      · exact .inr ⟨rfl, bl_trans a b c h1 h2⟩
theorem bl_tri : ∀ a b : List UInt8, Op.bytesLess a b = false → a ≠ b → Op.bytesLess b a = true
  | [], [], _, h => absurd rfl h
  | [], _ :: _, h, _ => by simp [Op.bytesLess] at h
  | _ :: _, [], _, _ => rfl
  | x :: a, y :: b, h, hn => by
    simp only [Op.bytesLess, Bool.or_eq_false_iff, decide_eq_false_iff_not, Bool.and_eq_false_iff, beq_eq_false_iff_ne, Bool.or_eq_true, decide_eq_true_eq, Bool.and_eq_true, beq_iff_eq] at h ⊢
    obtain ⟨h1, h2⟩ := h
    by_cases hxy : x = y
    · subst hxy
      refine .inr ⟨rfl, bl_tri a b ?_ (fun e => hn (by rw [e]))⟩
      rcases h2 with h2 | h2
      · exact absurd rfl h2
      · exact h2
    · refine .inl (UInt8.lt_of_le_of_ne (UInt8.not_lt.1 h1) (fun e => hxy e.symm))
theorem gtB_iff (n m : List UInt8) : gtB n m = true ↔ Op.bytesLess m n = true := by
  unfold gtB
  constructor
  · intro h
    simp only [Bool.and_eq_true, Bool.not_eq_true'] at h
    exact bl_tri n m h.1 ((eqB_false _ _).1 h.2)
  · intro h
    have hn : n ≠ m := fun e => by rw [e, bl_irrefl] at h; cases h
    rw [(eqB_false n m).2 hn]
    cases hq : Op.bytesLess n m with
    | false => rfl
    | true => have := bl_trans _ _ _ h hq; rw [bl_irrefl] at this; cases this
theorem gtB_false (n m : List UInt8) (h : gtB n m = false) (hn : n ≠ m) : Op.bytesLess n m = true := by
  cases hq : Op.bytesLess n m with
  | true => rfl
  | false => rw [(gtB_iff n m).2 (bl_tri n m hq hn)] at h; cases h

/-- strictly rising names -/
def Srt (s : St2) : Prop := s.Pairwise fun x y => Op.bytesLess x.1 y.1 = true
theorem setAt_eq (s : St2) (nm : List UInt8) : setAt s nm = s.findIdx fun x => gtB x.1 nm := by
  unfold setAt idxS
  have := List.findIdx_le_length (xs := s) (p := fun x => gtB x.1 nm)
  show (if (if s.findIdx (fun x => gtB x.1 nm) < s.length then ((s.findIdx (fun x => gtB x.1 nm) : Nat) : Int) else -1) < 0 then s.length else (if s.findIdx (fun x => gtB x.1 nm) < s.length then ((s.findIdx (fun x => gtB x.1 nm) : Nat) : Int) else -1).toNat) = _
  generalize s.findIdx (fun x => gtB x.1 nm) = f at *
  by_cases h : f < s.length
  · simp only [if_pos h]
    rw [if_neg (by omega), Int.toNat_natCast]
  · simp only [if_neg h]
    rw [if_pos (by omega)]; omega
theorem setAt_le (s : St2) (nm : List UInt8) : setAt s nm ≤ s.length := by rw [setAt_eq]; exact List.findIdx_le_length
/-- a name set in -/
def ins (s : St2) (nm d : List UInt8) : St2 := s.take (setAt s nm) ++ [(nm, d)] ++ s.drop (setAt s nm)
theorem ins_nil (nm d : List UInt8) : ins [] nm d = [(nm, d)] := rfl
theorem ins_cons (y : List UInt8 × List UInt8) (s : St2) (nm d : List UInt8) : ins (y :: s) nm d = if gtB y.1 nm then (nm, d) :: y :: s else y :: ins s nm d := by
  unfold ins
  rw [setAt_eq, setAt_eq, List.findIdx_cons]
  cases gtB y.1 nm <;> rfl
theorem ins_mem (nm d : List UInt8) (x : List UInt8 × List UInt8) : ∀ s : St2, x ∈ ins s nm d ↔ x = (nm, d) ∨ x ∈ s
  | [] => by simp [ins_nil]
  | y :: s => by
    rw [ins_cons]
    split
    · simp
    · rw [List.mem_cons, ins_mem nm d x s, List.mem_cons]
      constructor
      · rintro (h | h | h)
        · exact .inr (.inl h)
        · exact .inl h
        · exact .inr (.inr h)
      · rintro (h | h | h)
        · exact .inr (.inl h)
        · exact .inl h
        · exact .inr (.inr h)
theorem ins_length (s : St2) (nm d : List UInt8) : (ins s nm d).length = s.length + 1 := by
  have := setAt_le s nm
  simp [ins]; omega
theorem ins_srt (nm d : List UInt8) : ∀ s : St2, Srt s → (∀ x ∈ s, x.1 ≠ nm) → Srt (ins s nm d)
  | [], _, _ => by simp [ins_nil, Srt]
  | y :: s, h, hn => by
    rw [ins_cons]
    have h1 := List.pairwise_cons.1 h
    split
    · rename_i hg
      have hg := (gtB_iff _ _).1 hg
      refine List.pairwise_cons.2 ⟨fun z hz => ?_, h⟩
      rcases List.mem_cons.1 hz with rfl | hz
      · exact hg
      · exact bl_trans _ _ _ hg (h1.1 z hz)
    · rename_i hg
      have hg := gtB_false _ _ (by simpa using hg) (hn y (by simp))
      refine List.pairwise_cons.2 ⟨fun z hz => ?_, ins_srt nm d s h1.2 fun x hx => hn x (by simp [hx])⟩
      rcases (ins_mem nm d z s).1 hz with rfl | hz
      · exact hg
      · exact h1.1 z hz
theorem place_hit (s : St2) (nm : List UInt8) (h : 0 ≤ placeS s nm) : ∃ k : Nat, placeS s nm = (k : Int) ∧ k < s.length ∧ (s.getD k ([], [])).1 = nm ∧ s.getD k ([], []) ∈ s ∧ ∀ j, j < k → (s.getD j ([], [])).1 ≠ nm := by
  unfold placeS idxS at h ⊢
  split at h
  · rename_i hlt
    rw [if_pos hlt]
    refine ⟨_, rfl, hlt, ?_, ?_, fun j hj => ?_⟩
    · have := List.findIdx_getElem (w := hlt)
      simp only [List.getD, List.getElem?_eq_getElem hlt, Option.getD_some]
      exact (eqB_true _ _).1 this
    · simp only [List.getD, List.getElem?_eq_getElem hlt, Option.getD_some]
      exact List.getElem_mem _
    · have := List.not_of_lt_findIdx hj
      have hjl : j < s.length := by omega
      simp only [List.getD, List.getElem?_eq_getElem hjl, Option.getD_some]
      exact fun e => by
        rw [e] at this
        have h2 : eqB nm nm = false := by simpa using this
        rw [eqB_self] at h2; cases h2
  · omega
theorem place_none (s : St2) (nm : List UInt8) (h : ¬ 0 ≤ placeS s nm) : ∀ x ∈ s, x.1 ≠ nm := by
  intro x hx e
  apply h
  unfold placeS idxS
  rw [if_pos]
  · omega
  · exact List.findIdx_lt_length.2 ⟨x, hx, by rw [e]; exact eqB_self _⟩
theorem place_mem (s : St2) (nm : List UInt8) (x : List UInt8 × List UInt8) (hx : x ∈ s) (e : x.1 = nm) : 0 ≤ placeS s nm := by
  apply Classical.byContradiction
  intro h
  exact place_none s nm h x hx e

/-- what stands in a store of these blobs -/
structure Inv (s : St2) (ds : List (List UInt8)) : Prop where
  srt : Srt s
  nam : ∀ x ∈ s, x.1 = nameOf x.2
  sub : ∀ x ∈ s, x.2 ∈ ds
  sup : ∀ d ∈ ds, (nameOf d, d) ∈ s
  len : s.length ≤ ds.length
theorem Inv.nil : Inv [] [] := ⟨List.Pairwise.nil, fun _ h => (List.not_mem_nil h).elim, fun _ h => (List.not_mem_nil h).elim, fun _ h => (List.not_mem_nil h).elim, Nat.le_refl _⟩
theorem total_small : ∀ s : St2, (∀ x ∈ s, x.2.length ≤ 2000) → totalS s ≤ 2000 * s.length
  | [], _ => by simp [totalS]
  | x :: s, h => by
    have h1 := h x (by simp)
    have h2 := total_small s fun y hy => h y (by simp [hy])
    rw [totalS, List.map_cons, List.sum_cons, ← totalS, List.length_cons]
    omega
theorem put_inv (s : St2) (ds : List (List UInt8)) (d : List UInt8) (h : Inv s ds) (hs : ∀ x ∈ ds, x.length ≤ 2000) (hd : d.length ≤ 2000) (hn : ds.length ≤ 200) :
    (∃ s', putS s d = .inr s' ∧ Inv s' (ds ++ [d])) ∨ (putS s d = .inl 6 ∧ ∃ d' ∈ ds, nameOf d = nameOf d' ∧ d ≠ d') := by
  unfold putS
  rw [if_neg (by omega)]
  by_cases hp : 0 ≤ placeS s (nameOf d)
  · rw [if_pos hp]
    obtain ⟨k, hk, hkl, hkn, hkm, _⟩ := place_hit _ _ hp
    rw [hk, Int.toNat_natCast]
    by_cases he : (s.getD k ([], [])).2 = d
    · rw [if_pos ((eqB_true _ _).2 he)]
      have hdm : d ∈ ds := by rw [← he]; exact h.sub _ hkm
      refine .inl ⟨s, rfl, h.srt, h.nam, fun x hx => by rw [List.mem_append]; exact .inl (h.sub x hx), fun x hx => ?_, by rw [List.length_append]; have := h.len; omega⟩
      rcases List.mem_append.1 hx with hx | hx
      · exact h.sup x hx
      · obtain rfl : x = d := by simpa using hx
        exact h.sup _ hdm
    · rw [if_neg (by rw [eqB_true]; exact he)]
      refine .inr ⟨rfl, _, h.sub _ hkm, ?_, fun e => he e.symm⟩
      rw [← hkn]; exact h.nam _ hkm
  · have ht := total_small s fun x hx => hs _ (h.sub x hx)
    have hl := h.len
    rw [if_neg hp, if_neg (by omega), if_neg (by omega)]
    refine .inl ⟨_, rfl, ?_⟩
    show Inv (ins s (nameOf d) d) _
    refine ⟨ins_srt _ _ _ h.srt (place_none _ _ hp), fun x hx => ?_, fun x hx => ?_, fun x hx => ?_, by rw [ins_length, List.length_append, List.length_singleton]; omega⟩
    · rcases (ins_mem _ _ _ _).1 hx with rfl | hx
      · rfl
      · exact h.nam x hx
    · rw [List.mem_append]
      rcases (ins_mem _ _ _ _).1 hx with rfl | hx
      · simp
      · exact .inl (h.sub x hx)
    · rw [ins_mem]
      rcases List.mem_append.1 hx with hx | hx
      · exact .inr (h.sup x hx)
      · obtain rfl : x = d := by simpa using hx
        exact .inl rfl
/-- rising lists with the same members are the same -/
theorem srt_eq : ∀ s t : St2, Srt s → Srt t → (∀ x, x ∈ s ↔ x ∈ t) → s = t
  | [], [], _, _, _ => rfl
  | [], y :: t, _, _, h => by have := (h y).2 (by simp); cases this
  | x :: s, [], _, _, h => by have := (h x).1 (by simp); cases this
  | x :: s, y :: t, hs, ht, h => by
    have h1 := List.pairwise_cons.1 hs
    have h2 := List.pairwise_cons.1 ht
    have hne : ∀ {a b : List UInt8 × List UInt8}, Op.bytesLess a.1 b.1 = true → Op.bytesLess b.1 a.1 = true → False := fun p q => by
      have := bl_trans _ _ _ p q
      rw [bl_irrefl] at this; cases this
    have hxy : x = y := by
      rcases List.mem_cons.1 ((h x).1 (by simp)) with e | hx
      · exact e
      · rcases List.mem_cons.1 ((h y).2 (by simp)) with e | hy
        · exact e.symm
        · exact (hne (h2.1 x hx) (h1.1 y hy)).elim
    subst hxy
    rw [srt_eq s t h1.2 h2.2 fun z => ?_]
    constructor
    · intro hz
      rcases List.mem_cons.1 ((h z).1 (by simp [hz])) with rfl | h'
      · have := h1.1 z hz; rw [bl_irrefl] at this; cases this
      · exact h'
    · intro hz
      rcases List.mem_cons.1 ((h z).2 (by simp [hz])) with rfl | h'
      · have := h2.1 z hz; rw [bl_irrefl] at this; cases this
      · exact h'
theorem inv_eq (s t : St2) (ds es : List (List UInt8)) (h1 : Inv s ds) (h2 : Inv t es) (h : ∀ d, d ∈ ds ↔ d ∈ es) : s = t :=
  srt_eq s t h1.srt h2.srt fun x => by
    constructor
    · intro hx
      have := h2.sup _ ((h _).1 (h1.sub x hx))
      rwa [← h1.nam x hx] at this
    · intro hx
      have := h1.sup _ ((h _).2 (h2.sub x hx))
      rwa [← h2.nam x hx] at this
/-- names tell the blobs of a store apart -/
theorem inv_one (s : St2) (ds : List (List UInt8)) (h : Inv s ds) : ∀ a ∈ ds, ∀ b ∈ ds, nameOf a = nameOf b → a = b := by
  have key : ∀ s : St2, Srt s → ∀ x ∈ s, ∀ y ∈ s, x.1 = y.1 → x = y := by
    intro s
    induction s with
    | nil => intro _ x hx; cases hx
    | cons z s ih =>
      intro hs x hx y hy e
      have h1 := List.pairwise_cons.1 hs
      rcases List.mem_cons.1 hx with rfl | hx2 <;> rcases List.mem_cons.1 hy with rfl | hy2
      · rfl
      · have := h1.1 y hy2; rw [e, bl_irrefl] at this; cases this
      · have := h1.1 x hx2; rw [e, bl_irrefl] at this; cases this
      · exact ih h1.2 x hx2 y hy2 e
  intro a ha b hb e
  have := key s h.srt _ (h.sup a ha) _ (h.sup b hb) e
  exact congrArg Prod.snd this

/-- what a blob of a store fails by; 0: by nothing -/
def checkAt (s : St2) (i : Nat) : Nat :=
  if isName (s.getD i ([], [])).1 = false then 2
  else if 0 < i ∧ Op.bytesLess (s.getD (i - 1) ([], [])).1 (s.getD i ([], [])).1 = false then 1
  else if 1048576 < (s.getD i ([], [])).2.length then 3
  else if (s.getD i ([], [])).1 ≠ nameOf (s.getD i ([], [])).2 then 6
  else if 8388608 < totalS (s.take (i + 1)) then 5 else 0
def checkFrom (s : St2) : Nat → Nat → Nat
  | 0, _ => 0
  | n + 1, i => if checkAt s i = 0 then checkFrom s n (i + 1) else checkAt s i
def checkS (s : St2) : Nat := if 256 < s.length then 14 else checkFrom s s.length 0
theorem checkFrom_hit (s : St2) (k : Nat) (h : checkAt s k ≠ 0) : ∀ n i, (∀ j, i ≤ j → j < k → checkAt s j = 0) → i ≤ k → k < i + n → checkFrom s n i = checkAt s k
  | 0, i, _, _, hk => by omega
  | n + 1, i, hj, hi, hk => by
    rw [checkFrom]
    by_cases hik : i = k
    · subst hik; rw [if_neg h]
    · rw [if_pos (hj i (Nat.le_refl _) (by omega))]
      exact checkFrom_hit s k h n (i + 1) (fun j h1 h2 => hj j (by omega) h2) (by omega) (by omega)
theorem checkFrom_none (s : St2) : ∀ n i, (∀ j, i ≤ j → j < i + n → checkAt s j = 0) → checkFrom s n i = 0
  | 0, _, _ => rfl
  | n + 1, i, h => by
    rw [checkFrom, if_pos (h i (Nat.le_refl _) (by omega))]
    exact checkFrom_none s n (i + 1) fun j h1 h2 => h j (by omega) (by omega)
theorem checkS_hit (s : St2) (k : Nat) (hl : s.length ≤ 256) (hk : k < s.length) (h : checkAt s k ≠ 0) (hj : ∀ j, j < k → checkAt s j = 0) : checkS s = checkAt s k := by
  rw [checkS, if_neg (by omega), checkFrom_hit s k h s.length 0 (fun j _ h2 => hj j h2) (by omega) (by omega)]
theorem checkS_none (s : St2) (hl : s.length ≤ 256) (hj : ∀ j, j < s.length → checkAt s j = 0) : checkS s = 0 := by
  rw [checkS, if_neg (by omega), checkFrom_none s s.length 0 (fun j _ h2 => hj j (by omega))]
theorem total_take_le (s : St2) : ∀ k, totalS (s.take k) ≤ totalS s := by
  intro k
  have h : totalS s = totalS (s.take k) + totalS (s.drop k) := by
    unfold totalS
    rw [← List.sum_append, ← List.map_append, List.take_append_drop]
  omega
theorem srt_get (s : St2) (h : Srt s) (i j : Nat) (hij : i < j) (hj : j < s.length) : Op.bytesLess (s.getD i ([], [])).1 (s.getD j ([], [])).1 = true := by
  have := List.pairwise_iff_getElem.1 h i j (by omega) hj hij
  simpa [List.getD, List.getElem?_eq_getElem hj, List.getElem?_eq_getElem (show i < s.length by omega)] using this
theorem inv_check (s : St2) (ds : List (List UInt8)) (h : Inv s ds) (hs : ∀ x ∈ ds, x.length ≤ 2000) (hn : ds.length ≤ 200) : checkS s = 0 := by
  have hl := h.len
  refine checkS_none s (by omega) fun j hj => ?_
  have hm : s.getD j ([], []) ∈ s := by simp [List.getD, List.getElem?_eq_getElem hj]
  have h1 := h.nam _ hm
  have h2 := hs _ (h.sub _ hm)
  have h3 := total_small s fun x hx => hs _ (h.sub x hx)
  have h4 := total_take_le s (j + 1)
  unfold checkAt
  rw [if_neg (by rw [h1, nameOf_is]; decide), if_neg, if_neg (by omega), if_neg (by simpa using h1), if_neg (by omega)]
  rintro ⟨h5, h6⟩
  rw [srt_get s h.srt (j - 1) j (by omega) hj] at h6
  cases h6

/-- what Get answers -/
def getS (s : St2) (nm : List UInt8) : Nat ⊕ List UInt8 :=
  if 0 ≤ placeS s nm then (if nm = nameOf (s.getD (placeS s nm).toNat ([], [])).2 then .inr (s.getD (placeS s nm).toNat ([], [])).2 else .inl 6) else .inl 4
theorem inv_get (s : St2) (ds : List (List UInt8)) (d : List UInt8) (h : Inv s ds) (hd : d ∈ ds) : getS s (nameOf d) = .inr d := by
  have hp := place_mem s (nameOf d) _ (h.sup d hd) rfl
  obtain ⟨k, hk, _, hkn, hkm, _⟩ := place_hit _ _ hp
  have hdd : (s.getD k ([], [])).2 = d := inv_one s ds h _ (h.sub _ hkm) _ hd (by rw [← hkn]; exact (h.nam _ hkm).symm)
  rw [getS, if_pos hp, hk, Int.toNat_natCast, hdd, if_pos rfl]
end Go.Proofs.YtbioclpobmgikaaDoor
namespace Go.Proofs.YtbioclpobmgikaaDoor

/-- an entry, by its fields -/
structure Ent where
  name : List UInt8
  kind : UInt8
  mode : Int
  uid : Int
  gid : Int
  time : Int
  link : List UInt8
  user : List UInt8
  group : List UInt8
  major : Int
  minor : Int
  data : List UInt8
def folder0 : List UInt8 := [98, 108, 111, 98, 115]
def folder1 : List UInt8 := [98, 108, 111, 98, 115, 47, 115, 104, 97, 50, 53, 54]
def folderP : List UInt8 := [98, 108, 111, 98, 115, 47, 115, 104, 97, 50, 53, 54, 47]
def dirE (n : List UInt8) : Ent := ⟨n, 53, 493, 0, 0, 0, [], [], [], 0, 0, []⟩
def fileE (x : List UInt8 × List UInt8) : Ent := ⟨folderP ++ x.1.drop 7, 48, 420, 0, 0, 0, [], [], [], 0, 0, x.2⟩
def viewL (s : St2) : List Ent := dirE folder0 :: dirE folder1 :: s.map fileE
/-- is an entry a blob's? -/
def isEnt (e : Ent) : Bool := Lib.hasPrefix e.name folderP && (isName (nameP ++ e.name.drop 13) && e.kind == 48)
def unviewFrom (s : St2) : List Ent → Nat ⊕ St2
  | [] => .inr s
  | e :: l => if isEnt e then (if nameP ++ e.name.drop 13 = nameOf e.data then (match putS s e.data with | .inl k => .inl k | .inr s' => unviewFrom s' l) else .inl 6) else unviewFrom s l
theorem folder_prefix (t : List UInt8) : Lib.hasPrefix (folderP ++ t) folderP = true := by
  simp [Lib.hasPrefix]
theorem file_is (d : List UInt8) : isEnt (fileE (nameOf d, d)) = true ∧ nameP ++ (fileE (nameOf d, d)).name.drop 13 = nameOf d := by
  have h : (fileE (nameOf d, d)).name = folderP ++ hexL (sha d) := rfl
  have h2 : nameP ++ (fileE (nameOf d, d)).name.drop 13 = nameOf d := by rw [h]; rfl
  refine ⟨?_, h2⟩
  unfold isEnt
  rw [h2, nameOf_is, h, folder_prefix]
  rfl
theorem unview_files (D : List (List UInt8)) (hone : ∀ a ∈ D, ∀ b ∈ D, nameOf a = nameOf b → a = b) (hs : ∀ x ∈ D, x.length ≤ 2000) :
    ∀ (s : St2) (t : St2) (es : List (List UInt8)), (∀ x ∈ s, x.1 = nameOf x.2 ∧ x.2 ∈ D) → (∀ x ∈ es, x ∈ D) → es.length + s.length ≤ 200 → Inv t es → ∃ t', unviewFrom t (s.map fileE) = .inr t' ∧ Inv t' (es ++ s.map Prod.snd)
  | [], t, es, _, _, _, h => ⟨t, rfl, by simpa using h⟩
  | x :: s, t, es, hx, hes, hl, h => by
    obtain ⟨n, d⟩ := x
    obtain ⟨h1, h2⟩ := hx (n, d) (by simp)
    simp only at h1 h2
    subst h1
    obtain ⟨h3, h4⟩ := file_is d
    rw [List.length_cons] at hl
    rw [List.map_cons, unviewFrom, if_pos h3, if_pos (show _ = nameOf (fileE (nameOf d, d)).data from h4)]
    rcases put_inv t es d h (fun y hy => hs y (hes y hy)) (hs d h2) (by omega) with ⟨t', ht, hi⟩ | ⟨_, d', hd', hnn, hne⟩
    · rw [show (fileE (nameOf d, d)).data = d from rfl, ht]
      obtain ⟨t'', hu, hi2⟩ := unview_files D hone hs s t' (es ++ [d]) (fun y hy => hx y (by simp [hy])) (fun y hy => by
        rcases List.mem_append.1 hy with hy | hy
        · exact hes y hy
        · obtain rfl : y = d := by simpa using hy
          exact h2) (by rw [List.length_append, List.length_singleton]; omega) hi
      exact ⟨t'', hu, by simpa using hi2⟩
    · exact absurd (hone d h2 d' (hes d' hd') hnn) hne
theorem dir0_not (l : List Ent) (s : St2) : unviewFrom s (dirE folder0 :: dirE folder1 :: l) = unviewFrom s l := by
  rw [unviewFrom, if_neg (by unfold isEnt dirE; simp), unviewFrom, if_neg (by unfold isEnt dirE; simp)]
theorem unview_back (s : St2) (ds : List (List UInt8)) (h : Inv s ds) (hs : ∀ x ∈ ds, x.length ≤ 2000) (hn : ds.length ≤ 200) : unviewFrom [] (viewL s) = .inr s := by
  have hl := h.len
  obtain ⟨t, h1, h2⟩ := unview_files ds (inv_one s ds h) hs s [] [] (fun x hx => ⟨h.nam x hx, h.sub x hx⟩) (fun x hx => by cases hx) (by simp; omega) Inv.nil
  rw [viewL, dir0_not, h1]
  congr 1
  refine inv_eq t s _ _ h2 h fun d => ?_
  rw [List.nil_append]
  constructor
  · intro hd
    obtain ⟨x, hx, rfl⟩ := List.mem_map.1 hd
    exact h.sub x hx
  · intro hd
    exact List.mem_map.2 ⟨_, h.sup d hd, rfl⟩
end Go.Proofs.YtbioclpobmgikaaDoor
namespace Go.Proofs.YtbioclpobmgikaaDoor

/-- why a blob isn't put to a store of blobs -/
def Fails (es : List (List UInt8)) : Prop := (∃ x ∈ es, 2000 < x.length) ∨ ∃ x ∈ es, ∃ y ∈ es, x ≠ y ∧ nameOf x = nameOf y
theorem Fails.mono {es fs : List (List UInt8)} (h : Fails es) (hs : ∀ x ∈ es, x ∈ fs) : Fails fs := by
  rcases h with ⟨x, hx, h⟩ | ⟨x, hx, y, hy, h⟩
  · exact .inl ⟨x, hs x hx, h⟩
  · exact .inr ⟨x, hs x hx, y, hs y hy, h⟩
theorem put_gen (s : St2) (ds : List (List UInt8)) (d : List UInt8) (h : Inv s ds) (hn : ds.length ≤ 12) :
    (∃ s', putS s d = .inr s' ∧ Inv s' (ds ++ [d]) ∧ d.length ≤ 1048576) ∨ (∃ k, putS s d = .inl k ∧ k ≠ 0 ∧ Fails (ds ++ [d])) := by
  unfold putS
  by_cases hd : 1048576 < d.length
  · rw [if_pos hd]
    exact .inr ⟨3, rfl, by decide, .inl ⟨d, by simp, by omega⟩⟩
  rw [if_neg hd]
  by_cases hp : 0 ≤ placeS s (nameOf d)
  · rw [if_pos hp]
    obtain ⟨k, hk, hkl, hkn, hkm, _⟩ := place_hit _ _ hp
    rw [hk, Int.toNat_natCast]
    by_cases he : (s.getD k ([], [])).2 = d
    · rw [if_pos ((eqB_true _ _).2 he)]
      have hdm : d ∈ ds := by rw [← he]; exact h.sub _ hkm
      refine .inl ⟨s, rfl, ⟨h.srt, h.nam, fun x hx => by rw [List.mem_append]; exact .inl (h.sub x hx), fun x hx => ?_, by rw [List.length_append]; have := h.len; omega⟩, by omega⟩
      rcases List.mem_append.1 hx with hx | hx
      · exact h.sup x hx
      · obtain rfl : x = d := by simpa using hx
        exact h.sup _ hdm
    · rw [if_neg (by rw [eqB_true]; exact he)]
      refine .inr ⟨6, rfl, by decide, .inr ⟨(s.getD k ([], [])).2, List.mem_append.2 (.inl (h.sub _ hkm)), d, by simp, he, ?_⟩⟩
      rw [← h.nam _ hkm]; exact hkn
  · have hl := h.len
    rw [if_neg hp, if_neg (by omega)]
    by_cases ht : 8388608 < totalS s + d.length
    · rw [if_pos ht]
      refine .inr ⟨5, rfl, by decide, .inl ?_⟩
      apply Classical.byContradiction
      intro hno
      have hsm : ∀ x ∈ ds ++ [d], x.length ≤ 2000 := fun x hx => by
        apply Classical.byContradiction
        intro hlt
        exact hno ⟨x, hx, by omega⟩
      have := total_small s fun x hx => hsm _ (List.mem_append.2 (.inl (h.sub x hx)))
      have := hsm d (by simp)
      omega
    · rw [if_neg ht]
      refine .inl ⟨_, rfl, ?_, by omega⟩
      show Inv (ins s (nameOf d) d) _
      refine ⟨ins_srt _ _ _ h.srt (place_none _ _ hp), fun x hx => ?_, fun x hx => ?_, fun x hx => ?_, by rw [ins_length, List.length_append, List.length_singleton]; omega⟩
      · rcases (ins_mem _ _ _ _).1 hx with rfl | hx
        · rfl
        · exact h.nam x hx
      · rw [List.mem_append]
        rcases (ins_mem _ _ _ _).1 hx with rfl | hx
        · simp
        · exact .inl (h.sub x hx)
      · rw [ins_mem]
        rcases List.mem_append.1 hx with hx | hx
        · exact .inr (h.sup x hx)
        · obtain rfl : x = d := by simpa using hx
          exact .inl rfl
theorem take_snoc (ps : List (List UInt8)) (k : Nat) (h : k < ps.length) : ps.take (k + 1) = ps.take k ++ [ps.getD k []] := by
  rw [List.take_add_one, List.getElem?_eq_getElem h]
  simp [List.getD, h]
theorem rev_snoc (ps : List (List UInt8)) (k : Nat) (h : k < ps.length) : ps.reverse.take (k + 1) = ps.reverse.take k ++ [ps.getD (ps.length - 1 - k) []] := by
  rw [take_snoc _ _ (by rw [List.length_reverse]; exact h)]
  congr 2
  simp only [List.getD]
  rw [List.getElem?_reverse h]
theorem inv_abs (s : St2) (ds : List (List UInt8)) (h : Inv s ds) (m : Nat) (hs : ∀ x ∈ ds, x.length ≤ m) : ∀ x ∈ s, x.2.length ≤ m ∧ x.1.length = 71 := fun x hx =>
  ⟨hs _ (h.sub x hx), by rw [h.nam x hx]; exact nameOf_length _⟩
end Go.Proofs.YtbioclpobmgikaaDoor
namespace Go.Proofs.YtbioclpobmgikaaDoor
open Go.RowKit

def RowS (s : St2) : List Value := s.flatMap fun x => [.string (St x.1), .string (St x.2)]
theorem RowS_append (a b : St2) : RowS (a ++ b) = RowS a ++ RowS b := by simp [RowS]
theorem RowS_cons (x : List UInt8 × List UInt8) (b : St2) : RowS (x :: b) = .string (St x.1) :: .string (St x.2) :: RowS b := rfl
theorem RowS_length (s : St2) : (RowS s).length = s.length * 2 := by
  induction s with
  | nil => rfl
  | cons b l ih => rw [RowS_cons, List.length_cons, List.length_cons, ih, List.length_cons]; omega
theorem RowS_get : ∀ (s : St2) (j : Nat), j < s.length → (RowS s)[2 * j]? = some (.string (St (s.getD j ([], [])).1)) ∧ (RowS s)[2 * j + 1]? = some (.string (St (s.getD j ([], [])).2))
  | [], j, h => by simp at h
  | b :: l, 0, _ => ⟨rfl, rfl⟩
  | b :: l, j + 1, h => by
    have ih := RowS_get l j (by simpa using h)
    rw [RowS_cons, show 2 * (j + 1) = 2 * j + 1 + 1 by omega]
    exact ih
theorem RowS_mem (s : St2) : ∀ v ∈ RowS s, v.oneCell' = true := by
  intro v hv
  simp only [RowS, List.mem_flatMap, List.mem_cons] at hv
  obtain ⟨b, _, rfl | rfl | h⟩ := hv
  · rfl
  · rfl
  · cases h
/-- the document's store lies at an address -/
def DocAt (w : World) (A : Option Addr) (s : St2) : Prop := ∀ j, j < s.length → ∃ a, A = some a ∧ w.cell? (a.add (j * 2)) = some (.string (St (s.getD j ([], [])).1)) ∧ w.cell? ⟨(a.add (j * 2)).block, (a.add (j * 2)).off + 1, none⟩ = some (.string (St (s.getD j ([], [])).2))
theorem DocAt.below {w w' : World} {A : Option Addr} {s : St2} (h : DocAt w A s) (hb : Below w.heap.size w w') : DocAt w' A s := fun j hj => by
  obtain ⟨a, rfl, h1, h2⟩ := h j hj
  exact ⟨a, rfl, (hb.cell (p := a.add (j * 2)) (World.block_lt_of_cell? w _ h1)).trans h1, (hb.cell (p := ⟨(a.add (j * 2)).block, (a.add (j * 2)).off + 1, none⟩) (World.block_lt_of_cell? w _ h2)).trans h2⟩
theorem DocAt.cells {w : World} {a : Addr} {s : St2} (h : DocAt w (some a) s) : ∀ j u, (RowS s)[j]? = some u → w.cell? (a.add j) = some u := fun j u hu => by
  have hj : j < s.length * 2 := by rw [← RowS_length]; exact (List.getElem?_eq_some_iff.1 hu).1
  obtain ⟨q, rfl | rfl⟩ : ∃ q, j = 2 * q ∨ j = 2 * q + 1 := ⟨j / 2, by omega⟩
  · obtain ⟨a', ha, h1, _⟩ := h q (by omega)
    obtain rfl := Option.some.inj ha
    rw [show 2 * q = q * 2 by omega, h1, ← hu]
    exact (RowS_get s q (by omega)).1.symm
  · obtain ⟨a', ha, _, h1⟩ := h q (by omega)
    obtain rfl := Option.some.inj ha
    rw [add_odd, h1, ← hu]
    exact (RowS_get s q (by omega)).2.symm
theorem info134' : (Tryd.prog.info? 134).map (fun i => (i.zero, i.size, i.bytes)) = some (some (.agg #[.string ⟨#[]⟩, .string ⟨#[]⟩]), 2, 32) := by kernel_rfl
theorem zero134 : ∃ i, Tryd.prog.info? 134 = some i ∧ i.zero = some (.agg #[.string ⟨#[]⟩, .string ⟨#[]⟩]) ∧ i.size = 2 ∧ i.bytes = 32 := by
  have h := info134'
  cases hi : Tryd.prog.info? 134 with
  | none => rw [hi] at h; cases h
  | some i => rw [hi] at h; simp at h; exact ⟨i, rfl, h.1, h.2.1, h.2.2⟩
/-- blobs are appended to a store of the document's -/
theorem wpList_append_docs {w : World} {ops : Array Oper} {rest : List Oper} {o : Oper} {a : Act} {Q : Exit → Act → World → Prop} (hgd : o.guard = none) (s x : Operand) (t : TypeId) (ht : Tryd.prog.underlying t = some (.slice 134))
    (ho : o.op = .call { callee := .builtin .append, args := #[s, x], argTypes := #[t, t] })
    (base : Nat) (v : Value) (n : Nat) (bl : St2) (hs : a.eval s = v) (hown : w.ownsRow base 134 2 v n (RowS bl))
    (ad : Addr) (nb : St2) (m c : Nat) (hm : nb.length = m) (hx : a.eval x = .slice (some ad) m c) (hr : DocAt w (some ad) nb)
    (h63 : n + m ≤ 1000000) (hbase : base ≤ w.heap.size)
    (h : ∀ v' w', w'.ownsRow base 134 2 v' (n + m) (RowS (bl ++ nb)) → w.grownBy w' v.ownBlock → wpList Tryd.prog ops Q rest (a.put o.dst v') w') :
    wpList Tryd.prog ops Q (o :: rest) a w := by
  subst hm
  obtain ⟨i0, hi0, hz0, hz1, hz2⟩ := zero134
  exact wpList_append_own w hgd s x t ho base 134 i0 _ 2 32 ht hi0 hz0 hz1 hz2 rfl (by decide) v _ _ hs hown ad nb.length c (RowS nb) hx (by rw [RowS_length])
    hr.cells (RowS_mem _) (by unfold maxLen; omega) (by omega) hbase (fun v' w' h1 h2 _ => h v' w' (by rw [RowS_append]; exact h1) h2)
theorem doc_new (w : World) (x : List UInt8 × List UInt8) : DocAt (w.alloc (.cells #[.string (St x.1), .string (St x.2)] 134)) (some ⟨w.heap.size, 0, none⟩) [x] := fun j hj => by
  have : j = 0 := by simp at hj; exact hj
  subst this
  refine ⟨_, rfl, ?_, ?_⟩
  · rw [show (⟨w.heap.size, 0, none⟩ : Addr).add (0 * 2) = ⟨w.heap.size, 0, none⟩ from rfl, World.cell?_alloc_new]; rfl
  · show (w.alloc _).cell? ⟨w.heap.size, 0 + 1, none⟩ = _
    rw [World.cell?_alloc_new]; rfl
/-- a store of the document's of a call's own, as it lies -/
theorem own_doc {w : World} {base n : Nat} {v : Value} {s : St2} (h : w.ownsRow base 134 2 v n (RowS s)) : ∃ A c, v = .slice A n c ∧ n ≤ c ∧ (A = none → c = 0) ∧ s.length = n ∧ DocAt w A s := by
  have hl : s.length = n := by have := h.1; rw [RowS_length] at this; omega
  rcases h.2 with ⟨rfl, h0⟩ | ⟨g, cap, cur, rfl, _, _, h4, _⟩
  · exact ⟨none, 0, by rw [h0], by omega, fun _ => rfl, hl, fun j hj => by omega⟩
  · refine ⟨some ⟨g, 0, none⟩, cap, rfl, h4, fun h => (by cases h), hl, fun j hj => ⟨_, rfl, ?_, ?_⟩⟩
    · rw [show j * 2 = 2 * j by omega]
      exact h.cells (g := g) rfl _ _ (RowS_get s j hj).1
    · rw [← add_odd]
      exact h.cells (g := g) rfl _ _ (RowS_get s j hj).2
end Go.Proofs.YtbioclpobmgikaaDoor
namespace Go.Proofs.YtbioclpobmgikaaDoor
open Go.RowKit

def fullNm (i : Nat) : List UInt8 := [97, UInt8.ofNat (97 + i / 16), UInt8.ofNat (97 + i % 16)]
def fullBl (i : Nat) : Bl := ⟨fullNm i, [], none, 0⟩
def fullL (k : Nat) : List Bl := (List.range k).map fullBl
theorem fullL_length (k : Nat) : (fullL k).length = k := by simp [fullL]
theorem fullL_succ (k : Nat) : fullL (k + 1) = fullL k ++ [fullBl k] := by simp [fullL, List.range_succ]
theorem fullL_mem (k : Nat) (b : Bl) (h : b ∈ fullL k) : ∃ i, b = fullBl i := by
  obtain ⟨i, _, rfl⟩ := List.mem_map.1 h
  exact ⟨i, rfl⟩
theorem fullL_good (w : World) (k : Nat) : AllGood w (fullL k) := fun b hb => by
  obtain ⟨i, rfl⟩ := fullL_mem k b hb
  exact ⟨Nat.le_refl _, fun _ => rfl, fun j hj => by simp [fullBl] at hj⟩
theorem full_place (s : St2) (k : Nat) (d : List UInt8) (h : s = (fullL k).map Bl.abs) : ¬ 0 ≤ placeS s (nameOf d) := by
  intro hp
  obtain ⟨j, _, hj, hn, hm, _⟩ := place_hit _ _ hp
  generalize s.getD j ([], []) = x at *
  subst h
  obtain ⟨b, hb, rfl⟩ := List.mem_map.1 hm
  obtain ⟨i, rfl⟩ := fullL_mem k b hb
  have := congrArg List.length hn
  rw [nameOf_length] at this
  simp [fullBl, Bl.abs, fullNm] at this
theorem full_total (k : Nat) : totalS ((fullL k).map Bl.abs) = 0 := by
  have : ∀ l : St2, (∀ x ∈ l, x.2 = []) → totalS l = 0 := by
    intro l
    induction l with
    | nil => intro _; rfl
    | cons a l ih =>
      intro h
      have h1 := h a (by simp)
      have h2 := ih fun x hx => h x (by simp [hx])
      rw [totalS, List.map_cons, List.sum_cons, ← totalS, h2, h1]; rfl
  refine this _ fun x hx => ?_
  obtain ⟨b, hb, rfl⟩ := List.mem_map.1 hx
  obtain ⟨i, rfl⟩ := fullL_mem k b hb
  rfl
theorem full_put1 (d : List UInt8) (hd : d.length = 2) : putS ((fullL 256).map Bl.abs) d = .inl 14 := by
  unfold putS
  rw [if_neg (by omega), if_neg (full_place _ 256 d rfl), if_pos (by rw [List.length_map, fullL_length]; omega)]
theorem full_put2 (d : List UInt8) (hd : d.length = 2) : ∃ s, putS ((fullL 255).map Bl.abs) d = .inr s ∧ s.length = 256 ∧ 0 ≤ placeS s (nameOf d) := by
  refine ⟨ins ((fullL 255).map Bl.abs) (nameOf d) d, ?_, ?_, ?_⟩
  · unfold putS
    rw [if_neg (by omega), if_neg (full_place _ 255 d rfl), if_neg (by rw [List.length_map, fullL_length]; omega), if_neg (by rw [full_total]; omega)]
    rfl
  · rw [ins_length, List.length_map, fullL_length]
  · exact place_mem _ _ (nameOf d, d) ((ins_mem _ _ _ _).2 (.inl rfl)) rfl
theorem u8_ofNat (n : Nat) (h : n < 256) : ((UInt8.ofNat n).toNat : Int) = (n : Int) := by
  rw [UInt8.toNat_ofNat_of_lt' h]
def u8I (v : Int) : UInt8 := UInt8.ofNat (v % 256).toNat
theorem u8I_val (v : Int) : ((u8I v).toNat : Int) = v % 256 := by
  unfold u8I
  rw [u8_ofNat _ (by omega)]; omega
theorem bytes_alloc (w : World) (cs : List Value) (l : List UInt8) (h : cs = Bs l) : BytesAt (w.alloc (.cells cs.toArray 5)) (some ⟨w.heap.size, 0, none⟩) l := fun j hj => by
  subst h
  refine ⟨_, rfl, ?_⟩
  have h : (w.alloc (.cells (Bs l).toArray 5)).heap[w.heap.size]? = some (.cells (Bs l).toArray 5) := heap_alloc_new w _
  rw [add_lit', cell_of_row _ _ _ _ _ _ h, Nat.zero_add, List.getElem?_toArray]
  exact Bs_get _ _ hj
theorem full_conv (w : World) (k : Nat) (hk : k < 256) (x y : Int) (hx : x = 97 + (k : Int) / 16) (hy : y = 97 + (k : Int) % 16) :
    (convert 22 9 (.slice (some ⟨w.heap.size, 0, none⟩) 3 3)).run Tryd.prog (w.alloc (.cells #[.int .u8 97, .int .u8 x, .int .u8 y] 5)) = .ok (.string (St (fullNm k))) (w.alloc (.cells #[.int .u8 97, .int .u8 x, .int .u8 y] 5)) :=
  str_bytes _ _ (fullNm k) 3 (bytes_alloc w [.int .u8 97, .int .u8 x, .int .u8 y] (fullNm k) (by
    simp only [fullNm, Bs, List.map_cons, List.map_nil]
    rw [u8_ofNat _ (by omega), u8_ofNat _ (by omega), hx, hy]
    congr 4 <;> omega))
theorem run_blobs_to (w : World) (a : Addr) (n c p : Nat) (hc : p ≤ c) : (Instr.sliceAt 68 (.slice (some a) n c) none (some (.int .i64 (p : Int))) none).run Tryd.prog w = .ok (.slice (some a) p c) w := by
  unfold Instr.sliceAt Instr.slice
  simp only [Sem.run_bind, run_underlying Tryd.underlying68]
  simp [Instr.sliceBounds, Instr.sliceBound, asIntOf, hc, run_underlying Tryd.underlying68]
  exact fun _ => addr_zero a
theorem RowAt.to {w : World} {A : Option Addr} {bl : List Bl} (h : RowAt w A bl) (p : Nat) : RowAt w A (bl.take p) := fun j hj => by
  rw [List.length_take] at hj
  obtain ⟨a, ha, h1, h2⟩ := h j (by omega)
  have e : (bl.take p).getD j bl0 = bl.getD j bl0 := by simp [List.getD, show j < p by omega]
  rw [e]
  exact ⟨a, ha, h1, h2⟩
theorem fullL_take : (fullL 256).take 255 = fullL 255 := by
  rw [fullL_succ 255, List.take_append_of_le_length (by rw [fullL_length]; omega), List.take_of_length_le (by rw [fullL_length]; omega)]

set_option maxHeartbeats 4000000 in
set_option maxRecDepth 100000 in
theorem storeFull_walk (first : Int) (w : World) (hL : Laid w) :
    Calls Tryd.prog 15 #[.int .i64 first] w fun e w' => e = .returned (.bool true) ∧ Below w.heap.size w w' := by
  have hconv := full_conv
  go_enter Tryd.func15, Tryd.ntmps15
  go_wp2_with fail
  refine (alive22_any _ hL).mono ?_
  rintro e w1 ⟨rfl, hb1⟩
  go_wp2_with fail
  go_loopw [3, 4, 14] (fun vs _ vi wr => ∃ k : Nat, k ≤ 256 ∧ vi = .int .i64 (k : Int) ∧ Below w1.heap.size w1 wr ∧ wr.ownsRow w1.heap.size 70 2 vs (fullL k).length (Row (fullL k))) (fun _ _ v _ => 256 - (intOf v).toNat)
  case atStart => exact ⟨0, by omega, rfl, Below.refl _ _, ⟨rfl, .inl ⟨rfl, rfl⟩⟩⟩
  case round =>
    obtain ⟨k, hk, rfl, hbel, hown⟩ := hrel
    by_cases hlt : k < 256
    · have hcv := fun W => hconv W k hlt _ _ rfl rfl
      have HC := Lib.hid hconv
      have hsz := hbel.size
      have hfl := fullL_length k
      clear hconv
      have hbn := blob_new (wr.alloc (.cells #[.int .u8 97, .int .u8 (97 + (k : Int) / 16), .int .u8 (97 + (k : Int) % 16)] 5)) (fullBl k)
      rw [show (wr.alloc (.cells #[.int .u8 97, .int .u8 (97 + (k : Int) / 16), .int .u8 (97 + (k : Int) % 16)] 5)).heap.size = wr.heap.size + 1 by simp] at hbn
      have HBN := Lib.hid hbn
      clear hbn
      go_wp2_with (refine wpList_append_blobs rfl (.tmp 17) (.tmp 29) 68 Tryd.underlying68 rfl w1.heap.size _ (fullL k) rfl ((hown.alloc _).alloc _) ⟨wr.heap.size + 1, 0, none⟩ [fullBl k] 1 1 rfl rfl HBN.out (by omega) (by simp; omega) ?_; rintro v' w4 hown4 hg4)
      have hb4 := ((hbel.alloc hsz _).alloc (by simp; omega) _).grown hg4 (by simp; omega) (fun j hj => (hown.lt j hj).1)
      go_roundw
      case rel => exact ⟨k + 1, by omega, by go_num, hb4, by rw [fullL_succ]; exact hown4⟩
      case measure => simp [intOf]; omega
    · obtain rfl : k = 256 := by omega
      clear hconv
      have hsz := hbel.size
      have hw := hb1.trans (hbel.mono hb1.size)
      obtain ⟨A, c, rfl, hc1, hc2, hr⟩ := own_row hown
      have hby := bytes_alloc wr [.int .u8 (first % 256), .int .u8 (first / 256 % 256)] [u8I first, u8I (first / 256)] (by simp only [Bs, List.map_cons, List.map_nil, u8I_val])
      have hdl : [u8I first, u8I (first / 256)].length = 2 := rfl
      generalize [u8I first, u8I (first / 256)] = d at *
      have hgd := fun W k => fullL_good W k
      have hdd : ∀ k, ∀ b ∈ fullL k, b.data.length ≤ 10000000 := fun k b hb => by
        obtain ⟨i, rfl⟩ := fullL_mem k b hb
        simp [fullBl]
      have hp1 := fun W A c (hL : Laid W) (hr : RowAt W A (fullL 256)) hB => put_any (fullL 256) d A (some ⟨wr.heap.size, 0, none⟩) c 2 W hL hr (hgd _ _) (by rw [fullL_length]; omega) (hdd 256) hB (by omega) (fun h => by cases h) (by omega)
      have hp2 := fun W A c (hL : Laid W) (hr : RowAt W A (fullL 255)) hB => put_any (fullL 255) d A (some ⟨wr.heap.size, 0, none⟩) c 2 W hL hr (hgd _ _) (by rw [fullL_length]; omega) (hdd 255) hB (by omega) (fun h => by cases h) (by omega)
      rw [hdl, fullL_length] at hp1 hp2
      have HP1 := Lib.hid hp1; have HP2 := Lib.hid hp2; have HBY := Lib.hid hby
      have HF1 := Lib.hid (full_put1 d hdl); have HF2 := Lib.hid (full_put2 d hdl)
      have hbw := hw.alloc hw.size (.cells #[.int .u8 (first % 256), .int .u8 (first / 256 % 256)] 5)
      clear hp1 hp2 hby hown hgd hdd
      rw [fullL_length] at hc1 ⊢
      obtain ⟨a, rfl, _⟩ := hr 0 (by rw [fullL_length]; omega)
      have HR := Lib.hid hr
      clear hr
      go_wp2_with fail
      have hr2 := HR.out.below ((Below.refl wr.heap.size wr).alloc (Nat.le_refl _) (.cells #[.int .u8 (first % 256), .int .u8 (first / 256 % 256)] 5))
      generalize wr.alloc (.cells #[.int .u8 (first % 256), .int .u8 (first / 256 % 256)] 5) = w2 at *
      have HR2 := Lib.hid hr2
      clear hr2
      have hL2 := hL.below hbw
      have hs := fun w => run_blobs_to w a 256 c 255 (by omega)
      rw [show ((255 : Nat) : Int) = 255 from rfl] at hs
      refine (HP1.out w2 (some a) c hL2 HR2.out HBY.out).mono ?_
      rintro e w3 ⟨hb3, hm⟩
      rw [HF1.out] at hm
      subst hm
      go_wp2_with fail
      have hr3 := HR2.out.to 255
      rw [fullL_take] at hr3
      refine (HP2.out w3 (some a) c (hL2.below hb3) (hr3.below hb3) (HBY.out.below hb3)).mono ?_
      rintro e w4 ⟨hb4, hm⟩
      obtain ⟨s, hs1, hs2, hs3⟩ := HF2.out
      rw [hs1] at hm
      obtain ⟨A', n', c', rfl, bl, hab, rfl, hc1', hc2', hr', hg'⟩ := hm
      have hbl : bl.length = 256 := by rw [← hs2, ← hab, List.length_map]
      have hbw4 := hbw.trans ((hb3.trans (hb4.mono hb3.size)).mono hbw.size)
      have hhas := has_any bl (nameOf d) A' c' w4 hr' (by omega)
      rw [show placeL bl (nameOf d) = placeS (bl.map Bl.abs) (nameOf d) from idxS_abs _ _, hab, decide_eq_true hs3, hbl] at hhas
      have HHAS := Lib.hid hhas
      have HI := Lib.hid (fun W => numIs_any 14 14 (by omega) W)
      clear hhas hr' hg' hr3 HP1 HP2 HF1 HF2 HR HR2 HBY hs1 hs2 hs3 hab hc1' hc2'
      rw [hbl]
      generalize nameOf d = nm at *
      go_wp2_with fail
      refine (HI.out _).mono ?_
      rintro e w5 ⟨rfl, rfl⟩
      go_wp2_with fail
      refine HHAS.out.mono ?_
      rintro e w6 ⟨rfl, hb6⟩
      go_wp2_with fail
      go_ret
      exact ⟨rfl, hbw4.trans (hb6.mono hbw4.size)⟩
end Go.Proofs.YtbioclpobmgikaaDoor
namespace Go.Proofs.YtbioclpobmgikaaDoor
open Go.RowKit

set_option maxHeartbeats 1000000 in
set_option maxRecDepth 100000 in
theorem long22_any (bl : List Bl) (A : Option Addr) (c m : Nat) (w : World) (hr : RowAt w A bl) (hm : m ≤ 100) :
    Calls Tryd.prog 55 #[.slice A bl.length c, .int .i64 (m : Int)] w fun e w' => ∃ r : Bool, e = .returned (.bool r) ∧ Below w.heap.size w w' ∧ (r = false → bl.length ≤ m ∧ ∀ b ∈ bl, b.data.length ≤ 3000 ∧ b.name.length ≤ 200) := by
  have HR := Lib.hid hr
  clear hr
  generalize hl : bl.length = n at *
  have HL := Lib.hid hl
  clear hl
  by_cases hmn : m < n
  · have hd : decide ((n : Int) > (m : Int)) = true := decide_eq_true (by omega)
    go_enter Tryd.func55, Tryd.ntmps55
    go_wp2_with fail
    go_ret
    exact ⟨true, rfl, Below.refl _ _, fun h => by cases h⟩
  · have hd : decide ((n : Int) > (m : Int)) = false := decide_eq_false (by omega)
    go_enter Tryd.func55, Tryd.ntmps55
    go_wp2_with fail
    go_loopw [6, 13] (fun _ vi wr => ∃ k : Nat, k ≤ n ∧ vi = .int .i64 (k : Int) ∧ Hid (∀ j, j < k → (bl.getD j bl0).data.length ≤ 3000 ∧ (bl.getD j bl0).name.length ≤ 200) ∧ Below w.heap.size w wr) (fun _ v _ => n - (intOf v).toNat)
    case atStart => exact ⟨0, by omega, rfl, Lib.hid (fun j hj => by omega), Below.refl _ _⟩
    case round =>
      obtain ⟨k, hk, rfl, HF, hbel⟩ := hrel
      by_cases hlt : k < n
      · obtain ⟨a, rfl, g1, g2⟩ := HR.out.below hbel k (by rw [HL.out]; exact hlt)
        generalize hbb : bl.getD k bl0 = b at *
        have HBB := Lib.hid hbb
        clear hbb
        have hb2 := hbel.alloc hbel.size (.cells #[.string (St b.name), .slice b.D b.data.length b.c] 70)
        have hsz : (St b.name).size = b.name.length := rfl
        by_cases h1 : 3000 < b.data.length
        · have hd1 : decide ((b.data.length : Int) > 3000) = true := decide_eq_true (by omega)
          generalize b.data.length = dl at *
          go_wp2_with fail
          go_ret
          exact ⟨true, rfl, hb2, fun h => by cases h⟩
        · have hd1 : decide ((b.data.length : Int) > 3000) = false := decide_eq_false (by omega)
          by_cases h2 : 200 < b.name.length
          · have hd2 : decide ((b.name.length : Int) > 200) = true := decide_eq_true (by omega)
            generalize b.data.length = dl at *
            generalize b.name.length = nl at *
            go_wp2_with fail
            go_ret
            exact ⟨true, rfl, hb2, fun h => by cases h⟩
          · have hd2 : decide ((b.name.length : Int) > 200) = false := decide_eq_false (by omega)
            have HF2 : Hid (∀ j, j < k + 1 → (bl.getD j bl0).data.length ≤ 3000 ∧ (bl.getD j bl0).name.length ≤ 200) := Lib.hid (fun j hj => by
              by_cases hjk : j = k
              · rw [hjk, HBB.out]; exact ⟨by omega, by omega⟩
              · exact HF.out j (by omega))
            clear HF HBB
            generalize b.data.length = dl at *
            generalize b.name.length = nl at *
            go_wp2_with fail
            go_roundw
            case rel => exact ⟨k + 1, by omega, by go_num, HF2, hb2⟩
            case measure => simp [intOf]; omega
      · obtain rfl : k = n := by omega
        go_wp2_with fail
        go_ret
        refine ⟨false, rfl, hbel, fun _ => ⟨by omega, fun b hb => ?_⟩⟩
        obtain ⟨j, hj, rfl⟩ := List.getElem_of_mem hb
        have := HF.out j (by rw [HL.out] at hj; exact hj)
        simpa [List.getD, List.getElem?_eq_getElem hj] using this

theorem abs_take (bl : List Bl) (k : Nat) (h : k < bl.length) : (bl.map Bl.abs).take (k + 1) = (bl.map Bl.abs).take k ++ [(bl.getD k bl0).abs] := by
  rw [List.take_add_one, List.getElem?_map, List.getElem?_eq_getElem h]
  simp [List.getD, h]

set_option maxHeartbeats 1000000 in
set_option maxRecDepth 100000 in
theorem document_any (bl : List Bl) (A : Option Addr) (c : Nat) (w : World) (hr : RowAt w A bl) (hg : AllGood w bl) (hn : bl.length ≤ 1000) :
    Calls Tryd.prog 56 #[.slice A bl.length c] w fun e w' => ∃ v, e = .returned v ∧ Below w.heap.size w w' ∧ w'.ownsRow w.heap.size 134 2 v bl.length (RowS (bl.map Bl.abs)) := by
  have HR := Lib.hid hr; have HG := Lib.hid hg
  clear hr hg
  generalize hl : bl.length = n at *
  have HL := Lib.hid hl
  clear hl
  have hO0 : (w.alloc (.cells #[] 134)).ownsRow w.heap.size 134 2 (.slice (some ⟨w.heap.size, 0, none⟩) 0 0) 0 (RowS []) := World.ownsRow_made w #[] 0 (Nat.le_refl _) (by unfold maxLen; omega) rfl
  have hB0 : Below w.heap.size w (w.alloc (.cells #[] 134)) := (Below.refl _ _).alloc (Nat.le_refl _) _
  go_enter Tryd.func56, Tryd.ntmps56
  go_wp2_with fail
  go_loopw [3, 5, 9] (fun vo _ vi wr => ∃ k : Nat, k ≤ n ∧ vi = .int .i64 (k : Int) ∧ Below w.heap.size w wr ∧ wr.ownsRow w.heap.size 134 2 vo k (RowS ((bl.map Bl.abs).take k))) (fun _ _ v _ => n - (intOf v).toNat)
  case atStart => exact ⟨0, by omega, rfl, hB0, hO0⟩
  case round =>
    clear hO0 hB0
    obtain ⟨k, hk, rfl, hbel, hown⟩ := hrel
    by_cases hlt : k < n
    · obtain ⟨a, rfl, g1, g2⟩ := HR.out.below hbel k (by rw [HL.out]; exact hlt)
      have hgk := (HG.out _ (getD_mem bl k (by rw [HL.out]; exact hlt))).below hbel
      have HT := Lib.hid (abs_take bl k (by rw [HL.out]; exact hlt))
      generalize bl.getD k bl0 = b at *
      have hsz := hbel.size
      have hcv : (convert 22 9 (.slice b.D b.data.length b.c)).run Tryd.prog (wr.alloc (.cells #[.string (St b.name), .slice b.D b.data.length b.c] 70)) = .ok (.string (St b.data)) (wr.alloc (.cells #[.string (St b.name), .slice b.D b.data.length b.c] 70)) :=
        str_bytes _ b.D b.data b.c (hgk.2.2.below ((Below.refl _ _).alloc (Nat.le_refl _) _))
      have hbn := doc_new (wr.alloc (.cells #[.string (St b.name), .slice b.D b.data.length b.c] 70)) (b.name, b.data)
      rw [show (wr.alloc (.cells #[.string (St b.name), .slice b.D b.data.length b.c] 70)).heap.size = wr.heap.size + 1 by simp] at hbn
      have HBN := Lib.hid hbn
      clear hbn hgk
      generalize b.data.length = dl at *
      go_wp2_with (refine wpList_append_docs rfl (.tmp 13) (.tmp 20) 76 Tryd.underlying76 rfl w.heap.size _ k ((bl.map Bl.abs).take k) rfl ((hown.alloc _).alloc _) ⟨wr.heap.size + 1, 0, none⟩ [(b.name, b.data)] 1 1 rfl rfl HBN.out (by omega) (by simp; omega) ?_; rintro v' w4 hown4 hg4)
      have hb4 := ((hbel.alloc hsz _).alloc (by simp; omega) _).grown hg4 (by simp; omega) (fun j hj => (hown.lt j hj).1)
      go_roundw
      case rel => exact ⟨k + 1, by omega, by go_num, hb4, by rw [HT.out]; exact hown4⟩
      case measure => simp [intOf]; omega
    · obtain rfl : k = n := by omega
      rw [List.take_of_length_le (by rw [List.length_map, HL.out]; exact Nat.le_refl _)] at hown
      go_wp2_with fail
      go_ret
      exact ⟨_, rfl, hbel, hown⟩

theorem placeS_hit (s : St2) (nm : List UInt8) (k : Nat) (h : k < s.length) (hp : eqB (s.getD k ([], [])).1 nm = true) (hb : ∀ j, j < k → eqB (s.getD j ([], [])).1 nm = false) : placeS s nm = (k : Int) := by
  have hf : s.findIdx (fun x => eqB x.1 nm) = k := by
    rw [List.findIdx_eq h]
    refine ⟨by simpa [List.getD, h] using hp, fun j hj => ?_⟩
    have := hb j hj
    simpa [List.getD, show j < s.length by omega] using this
  show (if s.findIdx (fun x => eqB x.1 nm) < s.length then ((s.findIdx (fun x => eqB x.1 nm) : Nat) : Int) else -1) = _
  rw [hf, if_pos h]
theorem placeS_none (s : St2) (nm : List UInt8) (hb : ∀ j, j < s.length → eqB (s.getD j ([], [])).1 nm = false) : placeS s nm = -1 := by
  show (if s.findIdx (fun x => eqB x.1 nm) < s.length then ((s.findIdx (fun x => eqB x.1 nm) : Nat) : Int) else -1) = _
  rw [if_neg]
  intro h
  have := List.findIdx_getElem (w := h)
  have h2 := hb _ h
  simp only [List.getD, List.getElem?_eq_getElem h, Option.getD_some] at h2
  rw [h2] at this
  cases this

set_option maxHeartbeats 1000000 in
set_option maxRecDepth 100000 in
theorem place22_any (s : St2) (nm : List UInt8) (A : Option Addr) (c : Nat) (w : World) (hr : DocAt w A s) (hn : s.length ≤ 1000) :
    Calls Tryd.prog 59 #[.slice A s.length c, .string (St nm)] w fun e w' => e = .returned (.int .i64 (placeS s nm)) ∧ w = w' := by
  have htl := St_toList
  have HR := Lib.hid hr
  clear hr
  generalize hl : s.length = n at *
  have HL := Lib.hid hl
  clear hl
  go_enter Tryd.func59, Tryd.ntmps59
  go_wp2_with fail
  go_loopw [5, 8] (fun _ vi wr => ∃ k : Nat, k ≤ n ∧ vi = .int .i64 (k : Int) ∧ Hid (∀ j, j < k → eqB (s.getD j ([], [])).1 nm = false) ∧ wr = w) (fun _ v _ => n - (intOf v).toNat)
  case atStart => exact ⟨0, by omega, rfl, Lib.hid (fun j hj => by omega), rfl⟩
  case round =>
    obtain ⟨k, hk, rfl, HF, rfl⟩ := hrel
    by_cases hlt : k < n
    · obtain ⟨a, rfl, g1, g2⟩ := HR.out k (by rw [HL.out]; exact hlt)
      cases hq : eqB (s.getD k ([], [])).1 nm with
      | true =>
        have HI := Lib.hid (placeS_hit s nm k (by rw [HL.out]; exact hlt) hq HF.out)
        generalize s.getD k ([], []) = b at *
        unfold eqB at hq
        go_wp2_with fail
        go_ret
        exact ⟨by rw [HI.out]; rfl, rfl⟩
      | false =>
        have HF2 : Hid (∀ j, j < k + 1 → eqB (s.getD j ([], [])).1 nm = false) := Lib.hid (fun j hj => by
          by_cases hjk : j = k
          · rw [hjk]; exact hq
          · exact HF.out j (by omega))
        clear HF
        generalize s.getD k ([], []) = b at *
        unfold eqB at hq
        go_wp2_with fail
        go_roundw
        case rel => exact ⟨k + 1, by omega, by go_num, HF2, trivial⟩
        case measure => simp [intOf]; omega
    · obtain rfl : k = n := by omega
      have HI := Lib.hid (placeS_none s nm (by rw [HL.out]; exact HF.out))
      go_wp2_with fail
      go_ret
      exact ⟨by rw [HI.out]; rfl, rfl⟩

theorem totalS_take (s : St2) (k : Nat) (h : k < s.length) : totalS (s.take (k + 1)) = totalS (s.take k) + (s.getD k ([], [])).2.length := by
  rw [List.take_add_one, totalS, List.map_append, List.sum_append, ← totalS, List.getElem?_eq_getElem h]
  simp [List.getD, h]
set_option maxHeartbeats 1000000 in
set_option maxRecDepth 100000 in
theorem size22_any (s : St2) (A : Option Addr) (c : Nat) (w : World) (hr : DocAt w A s) (hn : s.length ≤ 1000) (hd : ∀ x ∈ s, x.2.length ≤ 10000000) :
    Calls Tryd.prog 100 #[.slice A s.length c] w fun e w' => e = .returned (.int .i64 (totalS s : Nat)) ∧ Below w.heap.size w w' := by
  have HR := Lib.hid hr; have HD := Lib.hid hd
  clear hr hd
  generalize hl : s.length = n at *
  have HL := Lib.hid hl
  clear hl
  go_enter Tryd.func100, Tryd.ntmps100
  go_wp2_with fail
  go_loopw [3, 5, 8] (fun vt _ vi wr => ∃ k : Nat, k ≤ n ∧ vi = .int .i64 (k : Int) ∧ vt = .int .i64 ((totalS (s.take k) : Nat) : Int) ∧ totalS (s.take k) ≤ 10000000 * k ∧ Below w.heap.size w wr) (fun _ _ v _ => n - (intOf v).toNat)
  case atStart => exact ⟨0, by omega, rfl, rfl, by simp [totalS], Below.refl _ _⟩
  case round =>
    obtain ⟨k, hk, rfl, rfl, htk, hbel⟩ := hrel
    by_cases hlt : k < n
    · obtain ⟨a, rfl, g1, g2⟩ := HR.out.below hbel k (by rw [HL.out]; exact hlt)
      have hdk := HD.out (s.getD k ([], [])) (by simp [List.getD, HL.out, hlt])
      have HT := Lib.hid (totalS_take s k (by rw [HL.out]; exact hlt))
      generalize s.getD k ([], []) = b at *
      generalize totalS (s.take k) = t at *
      have hsz : (St b.2).size = b.2.length := rfl
      generalize b.2.length = bln at *
      go_wp2_with fail
      go_roundw
      case rel => exact ⟨k + 1, by omega, by go_num, by rw [HT.out]; go_num, by rw [HT.out]; omega, hbel.alloc hbel.size _⟩
      case measure => simp [intOf]; omega
    · obtain rfl : k = n := by omega
      rw [List.take_of_length_le (by rw [HL.out]; exact Nat.le_refl _)]
      go_wp2_with fail
      go_ret
      exact ⟨rfl, hbel⟩
end Go.Proofs.YtbioclpobmgikaaDoor
namespace Go.Proofs.YtbioclpobmgikaaDoor
open Go.RowKit

theorem verifyN_zero (n b : List UInt8) : verifyN n b = 0 ↔ n = nameOf b := by
  unfold verifyN
  cases hp : parseL n with
  | none =>
    constructor
    · intro h; cases h
    · rintro rfl; rw [nameOf_parse] at hp; cases hp
  | some d =>
    rw [name_eq_iff n b d hp]
    show (if d = sha b then 0 else 6) = 0 ↔ _
    by_cases h : d = sha b
    · rw [if_pos h]; exact ⟨fun _ => h, fun _ => rfl⟩
    · rw [if_neg h]; exact ⟨fun e => (by cases e), fun e => absurd e h⟩
theorem verifyN_lt (n b : List UInt8) : verifyN n b < 100 := by
  unfold verifyN
  split
  · omega
  · split <;> omega
/-- what Get answers, as it lies -/
def GetAt (s : St2) (nm : List UInt8) (w w' : World) (e : Ending) : Prop :=
  Below w.heap.size w w' ∧ match getS s nm with
  | .inl k => e = .returned (.tuple #[.slice none 0 0, .iface 54 (.int .i64 (k : Int))])
  | .inr d => ∃ A c, e = .returned (.tuple #[.slice A d.length c, .nilIface]) ∧ BytesAt w' A d ∧ d.length ≤ c ∧ (A = none → c = 0)
theorem placeL_abs (bl : List Bl) (nm : List UInt8) : placeL bl nm = placeS (bl.map Bl.abs) nm := idxS_abs _ _
theorem abs_getD (bl : List Bl) (k : Nat) (h : k < bl.length) : (bl.map Bl.abs).getD k ([], []) = (bl.getD k bl0).abs := by
  simp [List.getD, h]

set_option maxHeartbeats 1000000 in
set_option maxRecDepth 100000 in
theorem get_any (bl : List Bl) (nm : List UInt8) (A : Option Addr) (c : Nat) (w : World) (hL : Laid w) (hr : RowAt w A bl) (hg : AllGood w bl) (hn : bl.length ≤ 1000) (hd : ∀ b ∈ bl, b.data.length ≤ 10000000) (hnm : nm.length ≤ 70368744177664) :
    Calls Tryd.prog 57 #[.slice A bl.length c, .string (St nm)] w fun e w' => GetAt (bl.map Bl.abs) nm w w' e := by
  have HR := Lib.hid hr; have HD := Lib.hid hd; have HG := Lib.hid hg; have HLL := Lib.hid hL
  have hpl := place_any bl nm A c w hr hn
  clear hr hd hg hL
  generalize hbn : bl.length = n at *
  have HBN := Lib.hid hbn; have HPL := Lib.hid hpl
  have hpe := placeL_abs bl nm
  clear hbn hpl
  by_cases hk : 0 ≤ placeS (bl.map Bl.abs) nm
  · obtain ⟨k, hkk, hkn, hnk, _, _⟩ := place_hit _ _ hk
    rw [List.length_map, HBN.out] at hkn
    have hge : getS (bl.map Bl.abs) nm = if nm = nameOf (bl.getD k bl0).data then .inr (bl.getD k bl0).data else .inl 6 := by
      rw [getS, if_pos hk, hkk, Int.toNat_natCast, abs_getD _ _ (by rw [HBN.out]; exact hkn)]; rfl
    have hmem := getD_mem bl k (by rw [HBN.out]; exact hkn)
    have hdk := HD.out _ hmem
    have HGK := Lib.hid (HG.out _ hmem)
    have HRK := Lib.hid (fun W (h : Below w.heap.size w W) => (HR.out.below h) k (by rw [HBN.out]; exact hkn))
    rw [hpe, hkk] at HPL
    have HGE := Lib.hid hge
    clear hge hk hkk hnk hmem hpe HR HD HG
    generalize bl.getD k bl0 = b at *
    have HV := Lib.hid (fun W (h : Below w.heap.size w W) => verify_any nm b.data b.D b.c W (HLL.out.below h) (HGK.out.2.2.below h) HGK.out.1 hnm (by omega))
    have HCL := Lib.hid (fun W (h : Below w.heap.size w W) => clone_any b.data b.D b.c W HGK.out.1 HGK.out.2.1 (HGK.out.2.2.below h) (by omega))
    go_enter Tryd.func57, Tryd.ntmps57
    go_wp2_with fail
    refine HPL.out.mono ?_
    rintro e w1 ⟨rfl, hb1⟩
    obtain ⟨a, rfl, g1, g2⟩ := HRK.out w1 hb1
    by_cases hv : nm = nameOf b.data
    · have hv0 : verifyN nm b.data = 0 := (verifyN_zero _ _).2 hv
      have HVV := HV.out w1 hb1
      rw [hv0, show errV 0 = .nilIface from rfl] at HVV
      have HVV2 := Lib.hid HVV
      have HGV := Lib.hid (show getS (bl.map Bl.abs) nm = .inr b.data by rw [HGE.out, if_pos hv])
      clear HVV HV hv hv0 HGE
      generalize hdl : b.data.length = dl at *
      have HDL := Lib.hid hdl
      clear hdl
      go_wp2_with fail
      refine HVV2.out.mono ?_
      rintro e w2 ⟨rfl, hb2⟩
      have hb12 := hb1.trans (hb2.mono hb1.size)
      have k2 : w2.cell? ⟨(a.add (k * 2)).block, (a.add (k * 2)).off + 1, none⟩ = some (.slice b.D dl b.c) := (hb2.cell (p := ⟨(a.add (k * 2)).block, (a.add (k * 2)).off + 1, none⟩) (World.block_lt_of_cell? w1 _ g2)).trans g2
      clear g1 g2
      go_wp2_with fail
      refine (HCL.out w2 hb12).mono ?_
      rintro e w3 ⟨hb3, A', c', rfl, h1, h2, h3, h4⟩
      have H3 := Lib.hid h3; have H2 := Lib.hid h2
      clear h3 h4 h2
      rw [HDL.out]
      go_wp2_with fail
      go_ret2
      refine ⟨hb12.trans (hb3.mono hb12.size), ?_⟩
      rw [HGV.out]
      exact ⟨A', c', by rw [HDL.out]; rfl, H3.out, h1, H2.out⟩
    · have hv0 : verifyN nm b.data ≠ 0 := fun h => hv ((verifyN_zero _ _).1 h)
      have HVV := HV.out w1 hb1
      rw [errV, if_neg hv0] at HVV
      have HVV2 := Lib.hid HVV
      have HGV := Lib.hid (show getS (bl.map Bl.abs) nm = .inl 6 by rw [HGE.out, if_neg hv])
      clear HVV HV hv HGE HCL
      generalize b.data.length = dl at *
      generalize verifyN nm b.data = vn at *
      go_wp2_with fail
      refine HVV2.out.mono ?_
      rintro e w2 ⟨rfl, hb2⟩
      go_wp2_with fail
      go_ret2
      refine ⟨hb1.trans (hb2.mono hb1.size), ?_⟩
      rw [HGV.out]; rfl
  · have HGV := Lib.hid (show getS (bl.map Bl.abs) nm = .inl 4 by rw [getS, if_neg hk])
    rw [hpe] at HPL
    generalize placeS (bl.map Bl.abs) nm = r at *
    have hd0 : decide (r < 0) = true := decide_eq_true (by omega)
    clear hk hpe
    go_enter Tryd.func57, Tryd.ntmps57
    go_wp2_with fail
    refine HPL.out.mono ?_
    rintro e w1 ⟨rfl, hb1⟩
    go_wp2_with fail
    go_ret2
    refine ⟨hb1, ?_⟩
    rw [HGV.out]; rfl

/-- what the document's Get answers -/
def GetIs (s : St2) (nm : List UInt8) (e : Ending) : Prop := e = .returned (match getS s nm with
  | .inl k => .tuple #[.string ⟨#[]⟩, .int .i64 (k : Int)]
  | .inr d => .tuple #[.string (St d), .int .i64 0])
set_option maxHeartbeats 1000000 in
set_option maxRecDepth 100000 in
theorem get22_any (s : St2) (nm : List UInt8) (A : Option Addr) (c : Nat) (w : World) (hr : DocAt w A s) (hn : s.length ≤ 1000) (hd : ∀ x ∈ s, x.2.length ≤ 1000000) :
    Calls Tryd.prog 58 #[.slice A s.length c, .string (St nm)] w fun e w' => GetIs s nm e ∧ Below w.heap.size w w' := by
  have htl := St_toList
  have HR := Lib.hid hr; have HD := Lib.hid hd
  have hpl := place22_any s nm A c w hr hn
  clear hr hd
  generalize hbn : s.length = n at *
  have HBN := Lib.hid hbn; have HPL := Lib.hid hpl
  clear hbn hpl
  by_cases hk : 0 ≤ placeS s nm
  · obtain ⟨k, hkk, hkn, hnk, hmem, _⟩ := place_hit _ _ hk
    rw [HBN.out] at hkn
    have hge : getS s nm = if nm = nameOf (s.getD k ([], [])).2 then .inr (s.getD k ([], [])).2 else .inl 6 := by
      rw [getS, if_pos hk, hkk, Int.toNat_natCast]
    have hdk := HD.out _ hmem
    obtain ⟨a, rfl, g1, g2⟩ := HR.out k (by rw [HBN.out]; exact hkn)
    rw [hkk] at HPL
    have HGE := Lib.hid hge
    clear hge hk hkk hnk hmem HR HD
    generalize s.getD k ([], []) = b at *
    obtain ⟨w1, cc, hcv, hb1, hby, hc1⟩ := bytes_of_text b.2 w
    have hcv := hcv 9 Tryd.underlying9
    have h5 := ref5_any b.2 (some ⟨w.heap.size, 0, none⟩) cc w1 hby (fun h => by cases h) hdk
    have H5 := Lib.hid h5
    have hk2 : ∀ w2, Below w1.heap.size w1 w2 → w2.cell? ⟨(a.add (k * 2)).block, (a.add (k * 2)).off + 1, none⟩ = some (.string (St b.2)) := fun w2 hb2 => by
      have hb12 := hb1.trans (hb2.mono hb1.size)
      exact (hb12.cell (p := ⟨(a.add (k * 2)).block, (a.add (k * 2)).off + 1, none⟩) (World.block_lt_of_cell? w _ g2)).trans g2
    have HK2 := Lib.hid hk2
    clear h5 hby hc1 hk2
    generalize b.2.length = bln at *
    by_cases hv : nm = nameOf b.2
    · have HGV := Lib.hid (show getS s nm = .inr b.2 by rw [HGE.out, if_pos hv])
      have hq : (nameOf b.2 == nm) = true := by rw [beq_iff_eq]; exact hv.symm
      clear HGE hv
      generalize nameOf b.2 = q at *
      go_enter Tryd.func58, Tryd.ntmps58
      go_wp2_with fail
      refine HPL.out.mono ?_
      rintro e w' ⟨rfl, rfl⟩
      go_wp2_with fail
      refine H5.out.mono ?_
      rintro e w2 ⟨rfl, hb2⟩
      have g3 := HK2.out w2 hb2
      go_wp2_with fail
      go_ret2
      exact ⟨by rw [GetIs, HGV.out]; rfl, hb1.trans (hb2.mono hb1.size)⟩
    · have HGV := Lib.hid (show getS s nm = .inl 6 by rw [HGE.out, if_neg hv])
      have hq : (nameOf b.2 == nm) = false := by rw [beq_eq_false_iff_ne]; exact fun h => hv h.symm
      clear HGE hv
      generalize nameOf b.2 = q at *
      go_enter Tryd.func58, Tryd.ntmps58
      go_wp2_with fail
      refine HPL.out.mono ?_
      rintro e w' ⟨rfl, rfl⟩
      go_wp2_with fail
      refine H5.out.mono ?_
      rintro e w2 ⟨rfl, hb2⟩
      go_wp2_with fail
      go_ret2
      exact ⟨by rw [GetIs, HGV.out]; rfl, hb1.trans (hb2.mono hb1.size)⟩
  · have HGV := Lib.hid (show getS s nm = .inl 4 by rw [getS, if_neg hk])
    generalize placeS s nm = r at *
    have hd0 : decide (r < 0) = true := decide_eq_true (by omega)
    clear hk
    go_enter Tryd.func58, Tryd.ntmps58
    go_wp2_with fail
    refine HPL.out.mono ?_
    rintro e w' ⟨rfl, rfl⟩
    go_wp2_with fail
    go_ret2
    exact ⟨by rw [GetIs, HGV.out]; rfl, Below.refl _ _⟩
end Go.Proofs.YtbioclpobmgikaaDoor
