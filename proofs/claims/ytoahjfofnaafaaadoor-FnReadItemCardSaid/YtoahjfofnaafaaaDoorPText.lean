/- Plain laws of texts: what the two readers of an item make of a text, and that they agree. -/
import Derived.Test.YtoahjfofnaafaaaDoorWText
import Derived.Lib.Split
namespace Go.Proofs.YtoahjfofnaafaaaDoor
open Go.RowKit

abbrev Bs := List UInt8
/-- cut at every c -/
def pieces (c : UInt8) : Bs → List Bs
  | [] => [[]]
  | b :: s => if b = c then [] :: pieces c s else match pieces c s with | [] => [[b]] | p :: ps => (b :: p) :: ps
theorem pieces_no {c : UInt8} : ∀ {a : Bs}, c ∉ a → pieces c a = [a]
  | [], _ => rfl
  | b :: a, h => by
    rw [List.mem_cons, not_or] at h
    unfold pieces
    rw [if_neg fun e => h.1 e.symm, pieces_no h.2]
theorem pieces_at {c : UInt8} (s : Bs) : ∀ {a : Bs}, c ∉ a → pieces c (a ++ c :: s) = a :: pieces c s
  | [], _ => by
    show pieces c (c :: s) = _
    rw [pieces, if_pos rfl]
  | b :: a, h => by
    rw [List.mem_cons, not_or] at h
    show pieces c (b :: (a ++ c :: s)) = _
    rw [pieces, if_neg fun e => h.1 e.symm, pieces_at s h.2]
theorem first_at (c : UInt8) : ∀ s : Bs, c ∉ s ∨ ∃ a b, c ∉ a ∧ s = a ++ c :: b
  | [] => .inl (by simp)
  | x :: s => by
    by_cases e : x = c
    · exact .inr ⟨[], s, by simp, by rw [e]; rfl⟩
    · rcases first_at c s with h | ⟨a, b, h, rfl⟩
      · exact .inl (by rw [List.mem_cons, not_or]; exact ⟨fun e2 => e e2.symm, h⟩)
      · exact .inr ⟨x :: a, b, by rw [List.mem_cons, not_or]; exact ⟨fun e2 => e e2.symm, h⟩, rfl⟩
theorem index_no {c : UInt8} : ∀ {s : Bs}, c ∉ s → Lib.index s [c] = -1
  | [], _ => rfl
  | b :: s, h => by
    rw [List.mem_cons, not_or] at h
    have e : (c == b) = false := beq_eq_false_iff_ne.2 h.1
    unfold Lib.index
    rw [index_no h.2]
    simp [List.isPrefixOf, e]
theorem index_at {c : UInt8} (s : Bs) : ∀ {a : Bs}, c ∉ a → Lib.index (a ++ c :: s) [c] = a.length
  | [], _ => by
    show Lib.index (c :: s) [c] = _
    unfold Lib.index
    simp [List.isPrefixOf]
  | b :: a, h => by
    rw [List.mem_cons, not_or] at h
    have e : (c == b) = false := beq_eq_false_iff_ne.2 h.1
    show Lib.index (b :: (a ++ c :: s)) [c] = _
    unfold Lib.index
    rw [index_at s h.2]
    have e2 : ((a.length : Int) == -1) = false := by rw [beq_eq_false_iff_ne]; omega
    simp [List.isPrefixOf, e, e2]
theorem cut_no {c : UInt8} {s : Bs} (h : c ∉ s) : Lib.cut s [c] = (s, [], false) := by
  unfold Lib.cut
  rw [index_no h, if_neg (by omega)]
theorem cut_at {c : UInt8} {a : Bs} (s : Bs) (h : c ∉ a) : Lib.cut (a ++ c :: s) [c] = (a, s, true) := by
  unfold Lib.cut
  rw [index_at s h, if_pos (by omega), Int.toNat_natCast]
  simp
theorem split_pieces (c : UInt8) : ∀ (n : Nat) (s : Bs), s.length ≤ n → Lib.splitK [c] 0 (Lib.count s [c]) s = pieces c s := by
  intro n
  induction n with
  | zero =>
    intro s h
    obtain rfl : s = [] := List.length_eq_zero_iff.1 (by omega)
    rw [Lib.count_miss (index_no (by simp))]; rfl
  | succ n ih =>
    intro s h
    rcases first_at c s with h1 | ⟨a, b, h1, rfl⟩
    · rw [Lib.count_miss (index_no h1), pieces_no h1]; rfl
    · have e := index_at b h1
      have e2 : (a ++ c :: b).drop (a.length + [c].length) = b := by simp
      have e3 : ¬ (Lib.index (a ++ c :: b) [c] == -1) = true := by rw [e, beq_iff_eq]; omega
      rw [Lib.count_hit (by simp) e, e2, pieces_at b h1, Nat.add_comm 1]
      show (if Lib.index (a ++ c :: b) [c] == -1 then _ else _) = _
      rw [if_neg e3, e, Int.toNat_natCast, e2, ih b (by simp at h; omega)]
      simp
theorem pieces_ne (c : UInt8) (s : Bs) : pieces c s ≠ [] := by
  cases s with
  | nil => simp [pieces]
  | cons b s =>
    unfold pieces
    split
    · simp
    · split <;> simp
theorem split_len (c : UInt8) (s : Bs) : (pieces c s).length = Lib.count s [c] + 1 := by
  have : ∀ (n : Nat) (s : Bs), s.length ≤ n → (pieces c s).length = Lib.count s [c] + 1 := by
    intro n
    induction n with
    | zero =>
      intro s h
      obtain rfl : s = [] := List.length_eq_zero_iff.1 (by omega)
      rw [Lib.count_miss (index_no (by simp))]; rfl
    | succ n ih =>
      intro s h
      rcases first_at c s with h1 | ⟨a, b, h1, rfl⟩
      · rw [Lib.count_miss (index_no h1), pieces_no h1]; rfl
      · rw [Lib.count_hit (by simp) (index_at b h1), pieces_at b h1, List.length_cons, show (a ++ c :: b).drop (a.length + [c].length) = b by simp, ih b (by simp at h; omega)]
        omega
  exact this _ s (Nat.le_refl _)

def digB (b : UInt8) : Bool := decide (48 ≤ b.toNat) && decide (b.toNat ≤ 57)
def numV (s : Bs) : Nat := s.foldl (fun n b => n * 10 + (b.toNat - 48)) 0
/-- a text of at most d digits, without zeros ahead -/
def readB (s : Bs) (d : Nat) : Bool := (decide (1 ≤ s.length) && decide (s.length ≤ d)) && (!(decide (1 < s.length) && decide (s.getD 0 0 = 48)) && s.all digB)
def readN (s : Bs) (d : Nat) : Nat × Bool := if readB s d = true then (numV s, true) else (0, false)
def l1ReadL (s : Bs) : Int := if readB s 5 = true then (numV s : Int) else -1
def partOf (p : Bs) : Option (Int × Int) :=
  if (Lib.cut p [42]).2.2 && (readB (Lib.cut p [42]).1 1 && readB (Lib.cut p [42]).2.1 1) then some ((numV (Lib.cut p [42]).1 : Int), (numV (Lib.cut p [42]).2.1 : Int)) else none
def partsOf : List Bs → Option (List (Int × Int))
  | [] => some []
  | p :: ps => match partOf p, partsOf ps with | some x, some xs => some (x :: xs) | _, _ => none
def readPL (s : Bs) : Option (List (Int × Int)) := if s = [] then some [] else if (pieces 44 s).length ≤ 3 then partsOf (pieces 44 s) else none
/-- what the program reads -/
def candI (s : Bs) : Option It :=
  let c1 := Lib.cut s [61]
  let c2 := Lib.cut c1.2.1 [33]
  if c1.2.2 && c2.2.2 then
    match readPL c2.1 with
    | none => none
    | some ps => if readB c1.1 1 && readB c2.2.1 2 then some ((numV c1.1 : Int), ps, (numV c2.2.1 : Int)) else none
  else none
def readI (s : Bs) : Option It := match candI s with | none => none | some x => if itemT x = s then some x else none
/-- what the reference reads -/
def partS (p : Bs) : Option (Int × Int) := match pieces 42 p with | [a, b] => some (l1ReadL a, l1ReadL b) | _ => none
def partsS : List Bs → Option (List (Int × Int))
  | [] => some []
  | p :: ps => match partS p, partsS ps with | some x, some xs => some (x :: xs) | _, _ => none
def candS (s : Bs) : Option It :=
  match pieces 33 s with
  | [u, v] => match pieces 61 u with
    | [a, b] => match (if b = [] then some [] else partsS (pieces 44 b)) with
      | none => none
      | some ps => some (l1ReadL a, ps, l1ReadL v)
    | _ => none
  | _ => none
def readS (s : Bs) : Option It := if s = [] then none else match candS s with | none => none | some x => if itemT x = s then some x else none

theorem dig_nat : ∀ k, k < 10 → digB (UInt8.ofNat (48 + k)) = true ∧ (UInt8.ofNat (48 + k)).toNat - 48 = k ∧ (UInt8.ofNat (48 + k) = 48 ↔ k = 0) := by decide
theorem numT_one {n : Int} (h0 : 0 ≤ n) (h1 : n < 10) : numT n = [UInt8.ofNat (48 + n.toNat)] := Lib.decDigits_one (by omega)
theorem numT_two {n : Int} (h0 : 10 ≤ n) (h1 : n < 100) : numT n = [UInt8.ofNat (48 + n.toNat / 10), UInt8.ofNat (48 + n.toNat % 10)] := Lib.decDigits_two (by omega) (by omega)
theorem numT_read {n : Int} {d : Nat} (h0 : 0 ≤ n) (h : (n < 10 ∧ 1 ≤ d) ∨ (n < 100 ∧ 2 ≤ d)) : readB (numT n) d = true ∧ (numV (numT n) : Int) = n ∧ (numT n).all digB = true := by
  by_cases h1 : n < 10
  · rw [numT_one h0 h1]
    obtain ⟨d1, d2, _⟩ := dig_nat n.toNat (by omega)
    generalize UInt8.ofNat (48 + n.toNat) = B at *
    refine ⟨?_, ?_, by simp [d1]⟩
    · unfold readB
      simp [d1]
      omega
    · show ((0 * 10 + (B.toNat - 48) : Nat) : Int) = n
      omega
  · rw [numT_two (by omega) (by omega)]
    obtain ⟨d1, d2, d3⟩ := dig_nat (n.toNat / 10) (by omega)
    obtain ⟨e1, e2, _⟩ := dig_nat (n.toNat % 10) (by omega)
    have d4 : ¬ UInt8.ofNat (48 + n.toNat / 10) = 48 := fun e => by have := d3.1 e; omega
    clear d3
    generalize UInt8.ofNat (48 + n.toNat / 10) = B at *
    generalize UInt8.ofNat (48 + n.toNat % 10) = C at *
    refine ⟨?_, ?_, by simp [d1, e1]⟩
    · unfold readB
      simp [d1, e1, d4]
      omega
    · show (((0 * 10 + (B.toNat - 48)) * 10 + (C.toNat - 48) : Nat) : Int) = n
      omega
theorem no_dig {c : UInt8} (hc : digB c = false) {s : Bs} (h : s.all digB = true) : c ∉ s := fun hm => by
  rw [List.all_eq_true] at h
  rw [h c hm] at hc; cases hc
theorem numT_no {n : Int} (h0 : 0 ≤ n) (h1 : n < 100) {c : UInt8} (hc : digB c = false) : c ∉ numT n :=
  no_dig hc (numT_read (d := 2) h0 (.inr ⟨h1, Nat.le_refl _⟩)).2.2
theorem l1_num {n : Int} (h0 : 0 ≤ n) (h1 : n < 100) : l1ReadL (numT n) = n := by
  obtain ⟨h2, h3, _⟩ := numT_read (d := 5) h0 (.inr ⟨h1, by omega⟩)
  unfold l1ReadL
  rw [if_pos h2, h3]

def partT (p : Int × Int) : Bs := numT p.1 ++ 42 :: numT p.2
def smallP (p : Int × Int) : Prop := (0 ≤ p.1 ∧ p.1 < 10) ∧ 0 ≤ p.2 ∧ p.2 < 10
theorem partT_no {p : Int × Int} (h : smallP p) {c : UInt8} (hc : digB c = false) (h42 : c ≠ 42) : c ∉ partT p := by
  unfold partT
  rw [List.mem_append, List.mem_cons, not_or, not_or]
  obtain ⟨⟨h1, h2⟩, h3, h4⟩ := h
  exact ⟨numT_no h1 (by omega) hc, h42, numT_no h3 (by omega) hc⟩
theorem partOf_T {p : Int × Int} (h : smallP p) : partOf (partT p) = some p := by
  obtain ⟨⟨h1, h2⟩, h3, h4⟩ := h
  obtain ⟨a1, a2, _⟩ := numT_read (d := 1) h1 (.inl ⟨h2, Nat.le_refl _⟩)
  obtain ⟨b1, b2, _⟩ := numT_read (d := 1) h3 (.inl ⟨h4, Nat.le_refl _⟩)
  unfold partOf partT
  rw [cut_at _ (numT_no h1 (by omega) (by decide))]
  simp only [a1, b1, a2, b2, Bool.and_self, if_true]
theorem partS_T {p : Int × Int} (h : smallP p) : partS (partT p) = some p := by
  obtain ⟨⟨h1, h2⟩, h3, h4⟩ := h
  unfold partS partT
  rw [pieces_at _ (numT_no h1 (by omega) (by decide)), pieces_no (numT_no h3 (by omega) (by decide))]
  simp only [l1_num h1 (show p.1 < 100 by omega), l1_num h3 (show p.2 < 100 by omega)]
/-- the parts, with commas between them -/
def joinT : List (Int × Int) → Bs
  | [] => []
  | [p] => partT p
  | p :: q :: ps => partT p ++ 44 :: joinT (q :: ps)
theorem joinT_no {ps : List (Int × Int)} (h : ∀ p ∈ ps, smallP p) {c : UInt8} (hc : digB c = false) (h42 : c ≠ 42) (h44 : c ≠ 44) : c ∉ joinT ps := by
  induction ps with
  | nil => simp [joinT]
  | cons p ps ih =>
    cases ps with
    | nil => exact partT_no (h p (by simp)) hc h42
    | cons q ps =>
      show c ∉ partT p ++ 44 :: joinT (q :: ps)
      rw [List.mem_append, List.mem_cons, not_or, not_or]
      exact ⟨partT_no (h p (by simp)) hc h42, h44, ih fun x hx => h x (by simp [hx])⟩
theorem joinT_pieces {ps : List (Int × Int)} (h : ∀ p ∈ ps, smallP p) (h0 : ps ≠ []) : pieces 44 (joinT ps) = ps.map partT := by
  induction ps with
  | nil => exact absurd rfl h0
  | cons p ps ih =>
    cases ps with
    | nil => exact pieces_no (partT_no (h p (by simp)) (by decide) (by decide))
    | cons q ps =>
      show pieces 44 (partT p ++ 44 :: joinT (q :: ps)) = _
      rw [pieces_at _ (partT_no (h p (by simp)) (by decide) (by decide)), ih (fun x hx => h x (by simp [hx])) (by simp)]
      rfl
theorem joinT_ne {ps : List (Int × Int)} (h0 : ps ≠ []) : joinT ps ≠ [] := by
  match ps, h0 with
  | [p], _ => show partT p ≠ []; simp [partT]
  | p :: q :: ps, _ => show partT p ++ 44 :: joinT (q :: ps) ≠ []; simp
theorem partsOf_T {ps : List (Int × Int)} (h : ∀ p ∈ ps, smallP p) : partsOf (ps.map partT) = some ps := by
  induction ps with
  | nil => rfl
  | cons p ps ih =>
    show (match partOf (partT p), partsOf (ps.map partT) with | some x, some xs => some (x :: xs) | _, _ => none) = _
    rw [partOf_T (h p (by simp)), ih fun x hx => h x (by simp [hx])]
theorem partsS_T {ps : List (Int × Int)} (h : ∀ p ∈ ps, smallP p) : partsS (ps.map partT) = some ps := by
  induction ps with
  | nil => rfl
  | cons p ps ih =>
    show (match partS (partT p), partsS (ps.map partT) with | some x, some xs => some (x :: xs) | _, _ => none) = _
    rw [partS_T (h p (by simp)), ih fun x hx => h x (by simp [hx])]
theorem gp_cons (p : Int × Int) (ps : List (Int × Int)) (k : Nat) : gp (p :: ps) (k + 1) = gp ps k := by simp [gp]
theorem partsT_cons (p : Int × Int) (ps : List (Int × Int)) : ∀ k, partsT (p :: ps) (k + 1) = partT p ++ (if k = 0 then [] else 44 :: partsT ps k) := by
  intro k
  induction k with
  | zero =>
    show [] ++ ((if 0 = 0 then [] else [44]) ++ numT p.1 ++ [42] ++ numT p.2) = _
    simp [partT]
  | succ k ih =>
    show partsT (p :: ps) (k + 1) ++ ((if k + 1 = 0 then [] else [44]) ++ numT (gp (p :: ps) (k + 1)).1 ++ [42] ++ numT (gp (p :: ps) (k + 1)).2) = _
    rw [ih, gp_cons, if_neg (Nat.succ_ne_zero k), if_neg (Nat.succ_ne_zero k)]
    show _ = partT p ++ 44 :: (partsT ps k ++ ((if k = 0 then [] else [44]) ++ numT (gp ps k).1 ++ [42] ++ numT (gp ps k).2))
    by_cases e : k = 0
    · subst e
      simp [partsT]
    · rw [if_neg e, if_neg e]
      simp
theorem partsT_join (ps : List (Int × Int)) : partsT ps ps.length = joinT ps := by
  induction ps with
  | nil => rfl
  | cons p ps ih =>
    rw [List.length_cons, partsT_cons]
    cases ps with
    | nil => simp [joinT]
    | cons q ps =>
      rw [if_neg (by simp), ih]; rfl
theorem textT_join (x : It) : textT x = numT x.1 ++ 61 :: (joinT x.2.1 ++ 33 :: numT x.2.2) := by
  unfold textT; rw [partsT_join]; simp
theorem item_small {x : It} (h : itemL x 5 = true) : (0 ≤ x.1 ∧ x.1 < 10) ∧ (0 ≤ x.2.2 ∧ x.2.2 < 100) ∧ x.2.1.length ≤ 3 ∧ ∀ p ∈ x.2.1, smallP p := by
  obtain ⟨h1, h2, _, h4, h5⟩ := item_facts (index := 5) h
  refine ⟨by omega, by omega, h2, fun p hp => ?_⟩
  obtain ⟨j, hj, e⟩ := List.mem_iff_getElem.1 hp
  have h6 := h5 j hj
  have e2 : gp x.2.1 j = p := by
    unfold gp; rw [List.getD_eq_getElem?_getD, List.getElem?_eq_getElem hj, ← e]; rfl
  rw [e2] at h6
  unfold smallP
  omega
theorem itemT_valid {x : It} (h : itemL x 5 = true) : itemT x = textT x := by unfold itemT; rw [if_pos h]
theorem candI_T {x : It} (h : itemL x 5 = true) : candI (textT x) = some x := by
  obtain ⟨⟨y0, y1⟩, ⟨m0, m1⟩, h3, hp⟩ := item_small h
  obtain ⟨a1, a2, _⟩ := numT_read (d := 1) y0 (.inl ⟨y1, Nat.le_refl _⟩)
  obtain ⟨b1, b2, _⟩ := numT_read (d := 2) m0 (.inr ⟨m1, Nat.le_refl _⟩)
  have hr : readPL (joinT x.2.1) = some x.2.1 := by
    unfold readPL
    by_cases e : x.2.1 = []
    · rw [e]; rfl
    · rw [if_neg (joinT_ne e), joinT_pieces hp e, partsOf_T hp, List.length_map, if_pos h3]
  rw [textT_join]
  unfold candI
  rw [cut_at _ (numT_no y0 (by omega) (by decide))]
  simp only []
  rw [cut_at _ (joinT_no hp (by decide) (by decide) (by decide))]
  simp only [hr, a1, b1, a2, b2, Bool.and_self, if_true]
theorem candS_T {x : It} (h : itemL x 5 = true) : candS (textT x) = some x := by
  obtain ⟨⟨y0, y1⟩, ⟨m0, m1⟩, h3, hp⟩ := item_small h
  have hr : (if joinT x.2.1 = [] then some [] else partsS (pieces 44 (joinT x.2.1))) = some x.2.1 := by
    by_cases e : x.2.1 = []
    · rw [e]; rfl
    · rw [if_neg (joinT_ne e), joinT_pieces hp e, partsS_T hp]
  have hno : (33 : UInt8) ∉ numT x.1 ++ 61 :: joinT x.2.1 := by
    rw [List.mem_append, List.mem_cons, not_or, not_or]
    exact ⟨numT_no y0 (by omega) (by decide), by decide, joinT_no hp (by decide) (by decide) (by decide)⟩
  rw [textT_join, show numT x.1 ++ 61 :: (joinT x.2.1 ++ 33 :: numT x.2.2) = (numT x.1 ++ 61 :: joinT x.2.1) ++ 33 :: numT x.2.2 by simp]
  unfold candS
  rw [pieces_at _ hno, pieces_no (numT_no m0 m1 (by decide))]
  simp only []
  rw [pieces_at _ (numT_no y0 (by omega) (by decide)), pieces_no (joinT_no hp (by decide) (by decide) (by decide))]
  simp only [hr, l1_num y0 (show x.1 < 100 by omega), l1_num m0 m1]
theorem textT_ne (x : It) : textT x ≠ [] := by rw [textT_join]; simp
theorem readI_T {x : It} (h : itemL x 5 = true) : readI (textT x) = some x := by
  unfold readI
  rw [candI_T h]
  simp only [itemT_valid h, if_true]
theorem readS_T {x : It} (h : itemL x 5 = true) : readS (textT x) = some x := by
  unfold readS
  rw [if_neg (textT_ne x), candS_T h]
  simp only [itemT_valid h, if_true]
theorem item_text {x : It} {s : Bs} (h : itemT x = s) (h0 : s ≠ []) : itemL x 5 = true ∧ s = textT x := by
  unfold itemT at h
  split at h
  · rename_i h1; exact ⟨h1, h.symm⟩
  · exact absurd h.symm h0
theorem candI_ne {s : Bs} {x : It} (h : candI s = some x) : s ≠ [] := by
  rintro rfl
  have e : Lib.cut [] [(61 : UInt8)] = ([], [], false) := cut_no (by simp)
  unfold candI at h
  rw [e] at h
  cases h
theorem readI_some {s : Bs} {x : It} (h : readI s = some x) : itemL x 5 = true ∧ s = textT x := by
  unfold readI at h
  cases hc : candI s with
  | none => rw [hc] at h; cases h
  | some y =>
    rw [hc] at h
    simp only at h
    split at h
    · rename_i h1
      injection h with h
      subst h
      exact item_text h1 (candI_ne hc)
    · cases h
theorem readS_some {s : Bs} {x : It} (h : readS s = some x) : itemL x 5 = true ∧ s = textT x := by
  unfold readS at h
  split at h
  · cases h
  · rename_i h0
    cases hc : candS s with
    | none => rw [hc] at h; cases h
    | some y =>
      rw [hc] at h
      simp only at h
      split at h
      · rename_i h1
        injection h with h
        subst h
        exact item_text h1 h0
      · cases h
/-- the two readers agree at every text -/
theorem read_agree (s : Bs) : readI s = readS s := by
  cases hI : readI s with
  | some x =>
    obtain ⟨h1, rfl⟩ := readI_some hI
    rw [readS_T h1]
  | none =>
    cases hS : readS s with
    | none => rfl
    | some x =>
      obtain ⟨h1, rfl⟩ := readS_some hS
      rw [readI_T h1] at hI; cases hI
/-- with an exclamation mark behind it a text is refused -/
theorem read_more (x : It) : readI (textT x ++ [33]) = none := by
  cases hI : readI (textT x ++ [33]) with
  | none => rfl
  | some y =>
    obtain ⟨h1, h2⟩ := readI_some hI
    obtain ⟨_, ⟨m0, m1⟩, _, _⟩ := item_small h1
    have e : (textT x ++ [33]).getLast? = some 33 := by simp
    rw [h2, textT_join] at e
    have e3 : (numT y.1 ++ 61 :: (joinT y.2.1 ++ 33 :: numT y.2.2)).getLast? = (numT y.2.2).getLast? := by
      have : numT y.2.2 ≠ [] := by
        by_cases h9 : y.2.2 < 10
        · rw [numT_one m0 h9]; simp
        · rw [numT_two (by omega) m1]; simp
      rw [show numT y.1 ++ 61 :: (joinT y.2.1 ++ 33 :: numT y.2.2) = (numT y.1 ++ 61 :: joinT y.2.1 ++ [33]) ++ numT y.2.2 by simp, List.getLast?_append]
      cases hl : (numT y.2.2).getLast? with
      | none => exact absurd (List.getLast?_eq_none_iff.1 hl) this
      | some b => rfl
    rw [e3] at e
    exact absurd (List.mem_of_getLast? e) (numT_no m0 m1 (by decide))
end Go.Proofs.YtoahjfofnaafaaaDoor
