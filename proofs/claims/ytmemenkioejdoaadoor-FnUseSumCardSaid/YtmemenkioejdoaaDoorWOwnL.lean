/- Tables of the call's own: rows that share nothing; how a law marks them and looks at them again. -/
import Derived.Test.YtmemenkioejdoaaDoorWChg
import Derived.Test.YtmemenkioejdoaaDoorWSS
import Derived.Test.YtmemenkioejdoaaDoorWApp
namespace Go.Proofs.YtmemenkioejdoaaDoor
open Go.RowKit

/-- a table whose rows h j hold ts j, all of it the call's own, below hi -/
structure OwnL (w : World) (lo hi : Nat) (v : Value) (n : Nat) (h : Nat → Value) (ts : Nat → List Int) : Prop where
  outer : w.ownsRow lo 27 1 v n ((List.range n).map h)
  otop : ∀ g, v.ownBlock = some g → g < hi
  row : ∀ j, j < n → w.ownsRow lo 3 1 (h j) (ts j).length (ints (ts j))
  rtop : ∀ j, j < n → ∀ g, (h j).ownBlock = some g → g < hi
  apart0 : ∀ j, j < n → ∀ g, (h j).ownBlock = some g → v.ownBlock ≠ some g
  apart : ∀ i j, i < j → j < n → ∀ g, (h i).ownBlock = some g → (h j).ownBlock ≠ some g
  small : n ≤ 1048576 ∧ ∀ j, j < n → (ts j).length ≤ 1048576

theorem OwnL.le {w w' : World} {lo hi : Nat} {v : Value} {n : Nat} {h : Nat → Value} {ts : Nat → List Int} (o : OwnL w lo hi v n h ts) (hl : Le w w') : OwnL w' lo hi v n h ts :=
  ⟨own_Le o.outer hl, o.otop, fun j hj => own_Le (o.row j hj) hl, o.rtop, o.apart0, o.apart, o.small⟩
theorem OwnL.chg {w w' : World} {lo hi lo' hi' : Nat} {v : Value} {n : Nat} {h : Nat → Value} {ts : Nat → List Int} (o : OwnL w lo hi v n h ts) (hc : Chg lo' hi' w w') (hd : hi ≤ lo' ∨ hi' ≤ lo) : OwnL w' lo hi v n h ts :=
  ⟨Chg.own o.outer hc fun g hg => by have := o.otop g hg; have := (o.outer.lt g hg).1; omega, o.otop,
    fun j hj => Chg.own (o.row j hj) hc fun g hg => by have := o.rtop j hj g hg; have := ((o.row j hj).lt g hg).1; omega, o.rtop, o.apart0, o.apart, o.small⟩
theorem OwnL.reads {w : World} {lo hi : Nat} {v : Value} {n : Nat} {h : Nat → Value} {ts : Nat → List Int} (o : OwnL w lo hi v n h ts) {tt : List (List Int)} (hl : tt.length = n) (ht : ∀ j, j < n → gl tt j = ts j) :
    ∃ A c, v = .slice A n c ∧ RII w A n tt := by
  have hn := o.small.1
  rcases o.outer.2 with ⟨rfl, rfl⟩ | ⟨g, cap, cur, rfl, hb, hg, hnc, hcm, hs, hta⟩
  · exact ⟨none, 0, rfl, hl, by omega, fun k hk => absurd hk (by omega)⟩
  · refine ⟨_, _, rfl, hl, by omega, fun k hk => ?_⟩
    obtain ⟨B, c, e, hr⟩ := own_RI (o.row k hk) (by have := o.small.2 k hk; omega)
    have hc := o.outer.cells (g := g) rfl k (h k) (by rw [List.getElem?_map, List.getElem?_range hk]; rfl)
    rw [e] at hc
    refine ⟨_, B, _, c, rfl, hc, ?_⟩
    rw [ht k hk]; exact hr
theorem OwnL.nil (w : World) (lo hi : Nat) (h : Nat → Value) (ts : Nat → List Int) : OwnL w lo hi (.slice none 0 0) 0 h ts :=
  ⟨World.ownsRow_nil _ _ _ _, (fun g hg => by cases hg), fun j hj => absurd hj (by omega), fun j hj => absurd hj (by omega), fun j hj => absurd hj (by omega), fun i j _ hj => absurd hj (by omega), Nat.zero_le _, fun j hj => absurd hj (by omega)⟩
/-- one row marked -/
theorem OwnL.mark {w w' : World} {lo hi : Nat} {v : Value} {n : Nat} {h : Nat → Value} {ts : Nat → List Int} (o : OwnL w lo hi v n h ts) {k : Nat} (hk : k < n) (hg : w.grownBy w' (h k).ownBlock) {ys : List Int} (hy : ys.length = (ts k).length) (hr : w'.ownsRow lo 3 1 (h k) ys.length (ints ys)) :
    OwnL w' lo hi v n h (fun j => if j = k then ys else ts j) := by
  refine ⟨o.outer.kept hg ?_, o.otop, fun j hj => ?_, o.rtop, o.apart0, o.apart, o.small.1, fun j hj => ?_⟩
  · cases hv : (h k).ownBlock with
    | none => cases hv2 : v.ownBlock with
      | none => exact .inl rfl
      | some g => exact .inr (by simp)
    | some g => exact .inr (o.apart0 k hk g hv)
  · by_cases e : j = k
    · subst e; simp only [if_true]; exact hr
    · simp only [if_neg e]
      refine (o.row j hj).kept hg ?_
      cases hv : (h j).ownBlock with
      | none => exact .inl rfl
      | some g =>
        refine .inr fun e2 => ?_
        rcases Nat.lt_or_gt_of_ne e with e3 | e3
        · exact o.apart j k e3 hk g hv e2.symm
        · exact o.apart k j e3 hj g e2.symm hv
  · by_cases e : j = k
    · subst e; simp only [if_true]; rw [hy]; exact o.small.2 j hj
    · simp only [if_neg e]; exact o.small.2 j hj

/-- where the marks of row k begin -/
def startL (m : Int) (ts : Nat → List Int) : Nat → Int
  | 0 => m
  | k + 1 => startL m ts k + ((ts k).length : Int)
theorem startL_succ (m : Int) (ts : Nat → List Int) (k : Nat) : startL m ts (k + 1) = startL m ts k + ((ts k).length : Int) := rfl
def marksL (m : Int) (ts : Nat → List Int) (j : Nat) : List Int := upFrom (startL m ts j) (ts j).length
theorem startL_b (m : Int) (ts : Nat → List Int) (k : Nat) {b : Nat} (h : ∀ j, j < k → (ts j).length ≤ b) : m ≤ startL m ts k ∧ startL m ts k ≤ m + k * b := by
  induction k with
  | zero => simp [startL]
  | succ k ih =>
    have h1 := ih fun j hj => h j (by omega)
    have h2 := h k (by omega)
    rw [startL_succ, show ((k + 1 : Nat) : Int) = k + 1 by omega, Int.add_mul]
    omega

theorem small_prod {n b : Nat} (h1 : n ≤ 64) (h2 : b ≤ 4096) : (n : Int) * b ≤ 262144 := by
  have : n * b ≤ 64 * 4096 := Nat.mul_le_mul h1 h2
  have e : ((n * b : Nat) : Int) = (n : Int) * b := by simp
  omega

end Go.Proofs.YtmemenkioejdoaaDoor
