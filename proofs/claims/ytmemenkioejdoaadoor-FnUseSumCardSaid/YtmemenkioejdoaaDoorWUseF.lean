/- Plain words on UseFirst, and how its table grows. -/
import Derived.Test.YtmemenkioejdoaaDoorWUseO
import Derived.Test.YtmemenkioejdoaaDoorWTakeG
import Derived.Test.YtmemenkioejdoaaDoorWOwnL
namespace Go.Proofs.YtmemenkioejdoaaDoor
open Go.RowKit

def restF (ps : List (Int × Int)) (ws : List Int) : Nat → List (Int × Int)
  | 0 => ps
  | k + 1 => takeDoR (restF ps ws k) k (takeFirstL (restF ps ws k) k (gi ws k))
def takeAtF (ps : List (Int × Int)) (ws : List Int) (k : Nat) : List Int := takeFirstL (restF ps ws k) k (gi ws k)
theorem restF_succ (ps : List (Int × Int)) (ws : List Int) (k : Nat) : restF ps ws (k + 1) = takeDoR (restF ps ws k) k (takeAtF ps ws k) := rfl
def useFirstL (ps : List (Int × Int)) (ws : List Int) : List (List Int) := if (lotsL ps && wantsL ws) = true then (List.range ws.length).map (takeAtF ps ws) else []
theorem gl_range (n : Nat) (f : Nat → List Int) {j : Nat} (h : j < n) : gl ((List.range n).map f) j = f j := by
  unfold gl; rw [List.getD_eq_getElem?_getD, List.getElem?_map, List.getElem?_range h]; rfl
theorem takeFirstL_small (ps : List (Int × Int)) (day want : Int) : (takeFirstL ps day want).length ≤ 5 := by
  unfold takeFirstL
  split
  · rename_i h
    rw [Bool.and_eq_true] at h
    have := (lots_facts rfl h.1).1
    unfold sT; rw [foldT_length]; simp [initT]; omega
  · exact Nat.zero_le _

/-- rows of the call's own that share nothing -/
structure RowsL (w : World) (lo k : Nat) (h : Nat → Value) (ts : Nat → List Int) : Prop where
  row : ∀ j, j < k → w.ownsRow lo 3 1 (h j) (ts j).length (ints (ts j))
  apart : ∀ i j, i < j → j < k → ∀ g, (h i).ownBlock = some g → (h j).ownBlock ≠ some g
theorem RowsL.le {w w' : World} {lo k : Nat} {h : Nat → Value} {ts : Nat → List Int} (r : RowsL w lo k h ts) (hl : Le w w') : RowsL w' lo k h ts := ⟨fun j hj => own_Le (r.row j hj) hl, r.apart⟩
theorem RowsL.far {w : World} {lo k : Nat} {h : Nat → Value} {ts : Nat → List Int} (r : RowsL w lo k h ts) {p : Addr} (hp : p.block < lo) (u : Value) : RowsL (w.setCell p u) lo k h ts :=
  ⟨fun j hj => own_far (r.row j hj) (fun hg => by have := ((r.row j hj).lt _ hg).1; omega) u, r.apart⟩
theorem RowsL.push {w w' : World} {lo k b : Nat} {h : Nat → Value} {ts : Nat → List Int} (r : RowsL w lo k h ts) (hl : Le w w') (hlo : lo ≤ b) (hb : w.heap.size ≤ b) {take : Value} (hr : w'.ownsRow b 3 1 take (ts k).length (ints (ts k))) :
    RowsL w' lo (k + 1) (fun j => if j = k then take else h j) ts := by
  refine ⟨fun j hj => ?_, fun i j hij hj g hi hjg => ?_⟩
  · by_cases e : j = k
    · subst e; simp only [if_true]; exact own_mono hr hlo
    · simp only [if_neg e]; exact own_Le (r.row j (by omega)) hl
  · simp only [if_neg (show ¬ i = k by omega)] at hi
    by_cases e : j = k
    · simp only [if_pos e] at hjg
      have h1 := ((r.row i (by omega)).lt g hi).2
      have h2 := (hr.lt g hjg).1
      omega
    · simp only [if_neg e] at hjg
      exact r.apart i j hij (by omega) g hi hjg

/-- a table made at once and filled row by row -/
theorem RowsL.own {w : World} {lo n g : Nat} {h : Nat → Value} {ts : Nat → List Int} {cs : Array Value} (r : RowsL w (g + 1) n h ts) (hg : lo ≤ g) (hb : Blk w g 27 cs) (hs : cs.size = n) (hc : ∀ j, j < n → cs[j]? = some (h j)) (hn : n ≤ 1048576) (ht : ∀ j, j < n → (ts j).length ≤ 1048576) :
    OwnL w lo w.heap.size (.slice (some ⟨g, 0, none⟩) n n) n h ts := by
  refine ⟨?_, fun g' hg' => ?_, fun j hj => own_mono (r.row j hj) (by omega), fun j hj g' hg' => ((r.row j hj).lt g' hg').2, fun j hj g' hg' e => ?_, r.apart, hn, ht⟩
  · refine ⟨by simp, .inr ⟨g, n, cs, rfl, hg, hb, Nat.le_refl _, by unfold maxLen; omega, by omega, ?_⟩⟩
    apply List.ext_getElem?
    intro j
    by_cases hj : j < n
    · rw [List.getElem?_take, if_pos (by omega), Array.getElem?_toList, hc j hj, List.getElem?_map, List.getElem?_range hj]; rfl
    · rw [List.getElem?_take, if_neg (by omega), List.getElem?_eq_none (by simp; omega)]
  · injection hg' with e; subst e; exact hb.lt
  · injection e with e; subst e
    have : g + 1 ≤ g := ((r.row j hj).lt _ hg').1
    omega

/-- a table that grows by append -/
theorem OwnL.push {wr w2 w3 : World} {lo hi k b : Nat} {v v' take : Value} {h : Nat → Value} {ts : Nat → List Int} (o : OwnL wr lo hi v k h ts) (hl : Le wr w2) (hlo : lo ≤ b) (hb : wr.heap.size ≤ b)
    (hr : w2.ownsRow b 3 1 take (ts k).length (ints (ts k))) (ho : w3.ownsRow lo 27 1 v' (k + 1) ((List.range k).map h ++ [take])) (hg : w2.grownBy w3 v.ownBlock)
    (hat : ∀ g, v'.ownBlock = some g → v.ownBlock = some g ∨ w2.heap.size ≤ g) (hk : k + 1 ≤ 1048576) (ht : (ts k).length ≤ 1048576) :
    OwnL w3 lo w3.heap.size v' (k + 1) (fun j => if j = k then take else h j) ts := by
  have hrow : ∀ j, j < k → w2.ownsRow lo 3 1 (h j) (ts j).length (ints (ts j)) := fun j hj => own_Le (o.row j hj) hl
  have hrow3 : ∀ j, j < k → w3.ownsRow lo 3 1 (h j) (ts j).length (ints (ts j)) := fun j hj => (hrow j hj).kept hg (by
    cases hv : (h j).ownBlock with
    | none => exact .inl rfl
    | some g => exact .inr fun e => o.apart0 j hj g hv e.symm)
  have hr3 : w3.ownsRow b 3 1 take (ts k).length (ints (ts k)) := hr.kept hg (by
    cases hv : take.ownBlock with
    | none => exact .inl rfl
    | some g =>
      refine .inr fun e => ?_
      have h1 := (o.outer.lt g e.symm).2
      have h2 := (hr.lt g hv).1
      omega)
  have rr : RowsL wr lo k h ts := ⟨o.row, o.apart⟩
  have r3 : RowsL w3 lo (k + 1) (fun j => if j = k then take else h j) ts := ⟨fun j hj => by
      by_cases e : j = k
      · subst e; simp only [if_true]; exact own_mono hr3 hlo
      · simp only [if_neg e]; exact hrow3 j (by omega), (rr.push hl hlo hb hr).apart⟩
  refine ⟨?_, fun g hg' => (ho.lt g hg').2, r3.row, fun j hj g hg' => ((r3.row j hj).lt g hg').2, fun j hj g hg' e => ?_, r3.apart, hk, fun j hj => ?_⟩
  · have e : (List.range (k + 1)).map (fun j => if j = k then take else h j) = (List.range k).map h ++ [take] := by
      rw [List.range_succ, List.map_append]
      congr 1
      · apply List.map_congr_left
        intro j hj
        rw [if_neg (by have := List.mem_range.1 hj; omega)]
      · simp
    rw [e]; exact ho
  · by_cases q : j = k
    · simp only [if_pos q] at hg'
      have h2 := (hr.lt g hg')
      rcases hat g e with e1 | e1
      · have := (o.outer.lt g e1).2; omega
      · omega
    · simp only [if_neg q] at hg'
      rcases hat g e with e1 | e1
      · exact o.apart0 j (by omega) g hg' e1
      · have := ((hrow j (by omega)).lt g hg').2; omega
  · by_cases q : j = k
    · subst q; exact ht
    · exact o.small.2 j (by omega)
end Go.Proofs.YtmemenkioejdoaaDoor
