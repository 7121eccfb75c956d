/- Tables of the call's own: rows that share nothing; how a law marks them and looks at them again. -/
import Derived.Test.YtcodghlenniffaaWChg
import Derived.Test.YtcodghlenniffaaWSS
import Derived.Test.YtcodghlenniffaaWApp
namespace Go.Proofs.Ytcodghlenniffaa
open Go.RowKit

/-- a table whose rows h j hold ts j, all of it the call's own, below hi -/
structure OwnL (w : World) (lo hi : Nat) (v : Value) (n : Nat) (h : Nat → Value) (ts : Nat → List Int) : Prop where
  outer : w.ownsRow lo 22 1 v n ((List.range n).map h)
  otop : ∀ g, v.ownBlock = some g → g < hi
  row : ∀ j, j < n → w.ownsRow lo 3 1 (h j) (ts j).length (ints (ts j))
  rtop : ∀ j, j < n → ∀ g, (h j).ownBlock = some g → g < hi
  apart0 : ∀ j, j < n → ∀ g, (h j).ownBlock = some g → v.ownBlock ≠ some g
  apart : ∀ i j, i < j → j < n → ∀ g, (h i).ownBlock = some g → (h j).ownBlock ≠ some g
  small : n ≤ 1048576 ∧ ∀ j, j < n → (ts j).length ≤ 1048576

theorem OwnL.le {w w' : World} {lo hi : Nat} {v : Value} {n : Nat} {h : Nat → Value} {ts : Nat → List Int} (o : OwnL w lo hi v n h ts) (hl : Le w w') : OwnL w' lo hi v n h ts :=
  ⟨own_Le o.outer hl, o.otop, fun j hj => own_Le (o.row j hj) hl, o.rtop, o.apart0, o.apart, o.small⟩
theorem OwnL.chg {w w' : World} {lo hi lo' hi' : Nat} {v : Value} {n : Nat} {h : Nat → Value} {ts : Nat → List Int} (o : OwnL w lo hi v n h ts) (hc : Chg lo' hi' w w') (hd : hi ≤ lo' ∨ hi' ≤ lo) : OwnL w' lo hi v n h ts :=
  ⟨Chg.own o.outer hc fun g hg => by have := o.otop g hg; have := (o.outer.lt g hg).1; omega, o.otop,
    fun j hj => Chg.own (o.row j hj) hc fun g hg => by have := o.rtop j hj g hg; have := ((o.row j hj).lt g hg).1; omega, o.rtop, o.apart0, o.apart, o.small⟩
theorem OwnL.reads {w : World} {lo hi : Nat} {v : Value} {n : Nat} {h : Nat → Value} {ts : Nat → List Int} (o : OwnL w lo hi v n h ts) {tt : List (List Int)} (hl : tt.length = n) (ht : ∀ j, j < n → gl tt j = ts j) :
    ∃ A c, v = .slice A n c ∧ RII w A n tt := by
  have hn := o.small.1
  rcases o.outer.2 with ⟨rfl, rfl⟩ | ⟨g, cap, cur, rfl, hb, hg, hnc, hcm, hs, hta⟩
  · exact ⟨none, 0, rfl, hl, by omega, fun k hk => absurd hk (by omega)⟩
  · refine ⟨_, _, rfl, hl, by omega, fun k hk => ?_⟩
    obtain ⟨B, c, e, hr⟩ := own_RI (o.row k hk) (by have := o.small.2 k hk; omega)
    have hc := o.outer.cells (g := g) rfl k (h k) (by rw [List.getElem?_map, List.getElem?_range hk]; rfl)
    rw [e] at hc
    refine ⟨_, B, _, c, rfl, hc, ?_⟩
    rw [ht k hk]; exact hr
theorem OwnL.nil (w : World) (lo hi : Nat) (h : Nat → Value) (ts : Nat → List Int) : OwnL w lo hi (.slice none 0 0) 0 h ts :=
  ⟨World.ownsRow_nil _ _ _ _, (fun g hg => by cases hg), fun j hj => absurd hj (by omega), fun j hj => absurd hj (by omega), fun j hj => absurd hj (by omega), fun i j _ hj => absurd hj (by omega), Nat.zero_le _, fun j hj => absurd hj (by omega)⟩
/-- one row marked -/
theorem OwnL.mark {w w' : World} {lo hi : Nat} {v : Value} {n : Nat} {h : Nat → Value} {ts : Nat → List Int} (o : OwnL w lo hi v n h ts) {k : Nat} (hk : k < n) (hg : w.grownBy w' (h k).ownBlock) {ys : List Int} (hy : ys.length = (ts k).length) (hr : w'.ownsRow lo 3 1 (h k) ys.length (ints ys)) :
    OwnL w' lo hi v n h (fun j => if j = k then ys else ts j) := by
  refine ⟨o.outer.kept hg ?_, o.otop, fun j hj => ?_, o.rtop, o.apart0, o.apart, o.small.1, fun j hj => ?_⟩
  · cases hv : (h k).ownBlock with
    | none => cases hv2 : v.ownBlock with
      | none => exact .inl rfl
      | some g => exact .inr (by simp)
    | some g => exact .inr (o.apart0 k hk g hv)
  · by_cases e : j = k
    · subst e; simp only [if_true]; exact hr
    · simp only [if_neg e]
      refine (o.row j hj).kept hg ?_
      cases hv : (h j).ownBlock with
      | none => exact .inl rfl
      | some g =>
        refine .inr fun e2 => ?_
        rcases Nat.lt_or_gt_of_ne e with e3 | e3
        · exact o.apart j k e3 hk g hv e2.symm
        · exact o.apart k j e3 hj g e2.symm hv
  · by_cases e : j = k
    · subst e; simp only [if_true]; rw [hy]; exact o.small.2 j hj
    · simp only [if_neg e]; exact o.small.2 j hj

/-- where the marks of row k begin -/
def startL (m : Int) (ts : Nat → List Int) : Nat → Int
  | 0 => m
  | k + 1 => startL m ts k + ((ts k).length : Int)
theorem startL_succ (m : Int) (ts : Nat → List Int) (k : Nat) : startL m ts (k + 1) = startL m ts k + ((ts k).length : Int) := rfl
def marksL (m : Int) (ts : Nat → List Int) (j : Nat) : List Int := upFrom (startL m ts j) (ts j).length
theorem startL_b (m : Int) (ts : Nat → List Int) (k : Nat) {b : Nat} (h : ∀ j, j < k → (ts j).length ≤ b) : m ≤ startL m ts k ∧ startL m ts k ≤ m + k * b := by
  induction k with
  | zero => simp [startL]
  | succ k ih =>
    have h1 := ih fun j hj => h j (by omega)
    have h2 := h k (by omega)
    rw [startL_succ, show ((k + 1 : Nat) : Int) = k + 1 by omega, Int.add_mul]
    omega

theorem small_prod {n b : Nat} (h1 : n ≤ 64) (h2 : b ≤ 4096) : (n : Int) * b ≤ 262144 := by
  have : n * b ≤ 64 * 4096 := Nat.mul_le_mul h1 h2
  have e : ((n * b : Nat) : Int) = (n : Int) * b := by simp
  omega

set_option maxHeartbeats 2000000 in
theorem markIntSS_own (A : Option Addr) (n c lo hi b : Nat) (h : Nat → Value) (ts : Nat → List Int) (w : World) (o : OwnL w lo hi (.slice A n c) n h ts) (hn : n ≤ 64) (hb : b ≤ 4096) (ht : ∀ j, j < n → (ts j).length ≤ b) :
    Calls Try.prog 50 #[.slice A n c, .int .i64 1] w fun e w' => e = .returned (.int .i64 (startL 1 ts n)) ∧ OwnL w' lo hi (.slice A n c) n h (marksL 1 ts) ∧ Chg lo hi w w' := by
  have HO := Lib.hid o
  have HT := Lib.hid ht
  clear ht
  go_enter Try.func50, Try.ntmps50
  go_wp2
  go_loopw [1, 5] (fun v i wr => ∃ k : Nat, k ≤ n ∧ i = .int .i64 k ∧ v = .int .i64 (startL 1 ts k) ∧ Chg lo hi w wr ∧ OwnL wr lo hi (.slice A n c) n h (fun j => if j < k then marksL 1 ts j else ts j)) (fun _ i _ => n - (intOf i).toNat)
  case atStart => exact ⟨0, Nat.zero_le _, rfl, rfl, Chg.refl _ _ _, by simpa using HO.out⟩
  case round =>
    obtain ⟨k, hk, rfl, rfl, hch, ow⟩ := hrel
    by_cases hlt : k < n
    · have s1 := startL_b 1 ts k (b := b) fun j hj => HT.out j (by omega)
      have s2 := HT.out k hlt
      have s3 := small_prod (n := k) (b := b) (by omega) hb
      obtain ⟨B, d, hh, hr⟩ := own_RI (ow.row k hlt) (by have := ow.small.2 k hlt; omega)
      have e0 : (if k < k then marksL 1 ts k else ts k) = ts k := if_neg (Nat.lt_irrefl _)
      have hrow := ow.row k hlt
      simp only [e0] at hrow hh hr
      rw [hh] at hrow
      have hcell : ∃ ad, A = some ad ∧ wr.cell? (ad.add k) = some (.slice B (ts k).length d) := by
        rcases ow.outer.2 with ⟨hv, h0⟩ | ⟨g, cap, cur, hv, hb, hg, hnc, hcm, hs, hta⟩
        · omega
        · injection hv with e1 e2 e3
          subst e1
          have hc := ow.outer.cells (g := g) rfl k (h k) (by rw [List.getElem?_map, List.getElem?_range hlt]; rfl)
          rw [hh] at hc
          exact ⟨_, rfl, hc⟩
      obtain ⟨ad, rfl, hc1⟩ := hcell
      have hmk := markIntS_own B (ts k).length d lo (ts k) (startL 1 ts k) wr hrow (by omega) (by omega) (by omega)
      have HMK := Lib.hid hmk
      have HOW := Lib.hid ow
      have HCH := Lib.hid hch
      have HH := Lib.hid hh
      clear hmk ow hch hh hrow hr
      go_wp2_with (go_at_call 39; refine HMK.out.mono ?_; rintro e w1 ⟨rfl, o1, g1⟩)
      go_roundw
      case rel =>
        rw [← HH.out] at o1 g1
        have om := HOW.out.mark hlt g1 (ys := marksL 1 ts k) (by simp [marksL, upFrom_length]) (by
          unfold marksL; rw [upFrom_length]; exact o1)
        refine ⟨k + 1, by omega, by go_num, by rw [startL_succ], HCH.out.trans (Chg.of_gb g1 fun g hg => ⟨((HOW.out.row k hlt).lt g hg).1, HOW.out.rtop k hlt g hg⟩), ?_⟩
        have e1 : (fun j => if j = k then marksL 1 ts k else if j < k then marksL 1 ts j else ts j) = (fun j => if j < k + 1 then marksL 1 ts j else ts j) := by
          funext j
          by_cases q1 : j = k
          · subst q1; rw [if_pos rfl, if_pos (by omega)]
          · rw [if_neg q1]
            by_cases q2 : j < k
            · rw [if_pos q2, if_pos (by omega)]
            · rw [if_neg q2, if_neg (by omega)]
        rw [← e1]; exact om
      case measure => simp [intOf]; omega
    · obtain rfl : k = n := by omega
      go_wp2
      go_ret
      refine ⟨rfl, ?_, hch⟩
      refine ⟨ow.outer, ow.otop, fun j hj => ?_, ow.rtop, ow.apart0, ow.apart, ow.small.1, fun j hj => ?_⟩
      · have := ow.row j hj
        simp only [if_pos hj] at this
        exact this
      · have := ow.small.2 j hj
        simp only [if_pos hj] at this
        exact this

set_option maxHeartbeats 2000000 in
theorem heldIntSS_own (A : Option Addr) (n c lo hi b : Nat) (h : Nat → Value) (ts : Nat → List Int) (w : World) (o : OwnL w lo hi (.slice A n c) n h (marksL 1 ts)) (hn : n ≤ 64) (hb : b ≤ 4096) (ht : ∀ j, j < n → (ts j).length ≤ b) :
    Calls Try.prog 51 #[.slice A n c, .int .i64 1] w fun e w' => e = .returned (.int .i64 (startL 1 ts n)) ∧ w = w' := by
  have HO := Lib.hid o
  have HT := Lib.hid ht
  clear ht
  go_enter Try.func51, Try.ntmps51
  go_wp2
  go_loop [1, 5] (fun v i => ∃ k : Nat, k ≤ n ∧ i = .int .i64 k ∧ v = .int .i64 (startL 1 ts k)) (fun _ i => n - (intOf i).toNat)
  case atStart => exact ⟨0, Nat.zero_le _, rfl, rfl⟩
  case round =>
    obtain ⟨k, hk, rfl, rfl⟩ := hrel
    by_cases hlt : k < n
    · have s1 := startL_b 1 ts k (b := b) fun j hj => HT.out j (by omega)
      have s2 := HT.out k hlt
      have s3 := small_prod (n := k) (b := b) (by omega) hb
      have ow := HO.out
      have hml : (marksL 1 ts k).length = (ts k).length := by simp [marksL, upFrom_length]
      obtain ⟨B, d, hh, hr⟩ := own_RI (ow.row k hlt) (by omega)
      rw [hml] at hh hr
      have hcell : ∃ ad, A = some ad ∧ w.cell? (ad.add k) = some (.slice B (ts k).length d) := by
        rcases ow.outer.2 with ⟨hv, h0⟩ | ⟨g, cap, cur, hv, hb, hg, hnc, hcm, hs, hta⟩
        · omega
        · injection hv with e1 e2 e3
          subst e1
          have hc := ow.outer.cells (g := g) rfl k (h k) (by rw [List.getElem?_map, List.getElem?_range hlt]; rfl)
          rw [hh] at hc
          exact ⟨_, rfl, hc⟩
      obtain ⟨ad, rfl, hc1⟩ := hcell
      have hhe := heldIntS_any B (ts k).length d (startL 1 ts k) w hr (by omega) (by omega) (by omega)
      have HHE := Lib.hid hhe
      clear hhe ow hh hr
      go_wp2_with (go_at_call 45; refine HHE.out.mono ?_; rintro e w1 ⟨rfl, rfl⟩)
      go_round
      case rel => exact ⟨k + 1, by omega, by go_num, by rw [startL_succ]⟩
      case measure => simp [intOf]; omega
    · obtain rfl : k = n := by omega
      go_wp2
      go_ret
      exact ⟨rfl, rfl⟩
end Go.Proofs.Ytcodghlenniffaa
