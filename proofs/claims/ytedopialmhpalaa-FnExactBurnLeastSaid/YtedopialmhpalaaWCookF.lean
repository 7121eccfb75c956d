/- Walks: nextList, BurnLeast of the program. -/
import Derived.Test.YtedopialmhpalaaWCookE
import Derived.Test.YtedopialmhpalaaPDigs
import Derived.Deep.LoopGhost
namespace Go.Proofs.Ytedopialmhpalaa
open Go.RowKit

set_option maxHeartbeats 1000000 in
theorem nextList_any (g n c b : Nat) (xs : List Int) (w : World) (h : BlkI w g xs) (hl : xs.length = n) (hn : n ≤ 6) (hx : ∀ j, j < n → 0 ≤ gi xs j ∧ gi xs j ≤ 3) :
    Calls Try.prog 54 #[.slice (some ⟨g, 0, none⟩) n c, .int .i64 b] w fun e w' => e = .returned (.bool (inc b xs).2) ∧ ((inc b xs).2 = true → BlkI w' g (inc b xs).1) ∧ w.grownBy w' (some g) := by
  have HL := Lib.hid hl
  have HX := Lib.hid hx
  have H0 : ∀ j, j < n → (ints xs).toArray[j]? = some (.int .i64 (gi xs j)) := fun j hj => by rw [List.getElem?_toArray]; exact ints_getElem? (by rw [HL.out]; exact hj)
  have HI := Lib.hid H0
  clear hl hx H0
  go_enter Try.func54, Try.ntmps54
  go_wp2
  go_loopw [8] (fun i wr => ∃ k : Nat, k ≤ n ∧ i = .int .i64 k ∧ w.grownBy wr (some g) ∧ (∀ j, j < k → (b : Int) ≤ gi xs j + 1) ∧ ∃ cs, Blk wr g 3 cs ∧ Filled cs n (fun _ => .int .i64 0) (fun j => .int .i64 (gi xs j)) k) (fun i _ => n - (intOf i).toNat)
  case atStart => exact ⟨0, Nat.zero_le _, rfl, World.grownBy.refl _ _, fun j hj => absurd hj (by omega), _, h, Filled.start _ (by simp [ints_length, HL.out]) HI.out⟩
  case round =>
    obtain ⟨k, hk, rfl, hgr, hno, cs, hblk, hfill⟩ := hrel
    by_cases hlt : k < n
    · have c1 := (hblk.cell k).trans (hfill.now hlt)
      have z1 := hblk.frozen k
      obtain ⟨x0, x3⟩ := HX.out k hlt
      have HF := Lib.hid hfill
      have HB := Lib.hid hblk
      have HG := Lib.hid hgr
      have HN := Lib.hid hno
      clear hfill hblk hgr hno
      have c2 := ((HB.out.set_ k (.int .i64 (gi xs k + 1))).cell k).trans (show (cs.setIfInBounds k (.int .i64 (gi xs k + 1)))[k]? = some (.int .i64 (gi xs k + 1)) by simp [HF.out.1, hlt])
      have z2 := (HB.out.set_ k (.int .i64 (gi xs k + 1))).frozen k
      by_cases hc : gi xs k + 1 < (b : Int)
      · have HC := Lib.hid hc
        go_wp2
        go_ret
        obtain ⟨q1, q2, q3⟩ := inc_at b xs k (by rw [HL.out]; exact hlt) HN.out HC.out
        refine ⟨ret_bool q1.symm, fun _ => ?_, gb_setCell HG.out rfl _⟩
        have hb2 := HB.out.set_ k (.int .i64 (gi xs k + 1))
        have e : cs.setIfInBounds k (.int .i64 (gi xs k + 1)) = (ints (inc b xs).1).toArray := by
          apply Array.ext_getElem?
          intro j
          rw [Array.getElem?_setIfInBounds, show (ints (inc b xs).1).toArray[j]? = (ints (inc b xs).1)[j]? by simp]
          by_cases hj : j < n
          · rw [ints_getElem? (by rw [q2, HL.out]; exact hj), q3 j (by rw [HL.out]; exact hj)]
            rcases Nat.lt_trichotomy j k with e | e | e
            · rw [if_neg (by omega), if_pos e, HF.out.2.1 j e hj]
            · subst e; simp [HF.out.1, hj]
            · rw [if_neg (by omega), if_neg (by omega), if_neg (by omega), HF.out.2.2 j (by omega) hj]
          · rw [if_neg (by omega), Array.getElem?_eq_none (by rw [HF.out.1]; omega), List.getElem?_eq_none (by rw [ints_length, q2, HL.out]; omega)]
        rw [e] at hb2
        exact hb2
      · have HC := Lib.hid hc
        go_wp2
        go_roundw
        case rel =>
          refine ⟨k + 1, by omega, by go_num, gb_setCell (gb_setCell HG.out rfl _) rfl _, fun j hj => ?_, _, (HB.out.set_ _ _).set_ _ _, ?_⟩
          · rcases Nat.lt_or_ge j k with e | e
            · exact HN.out j e
            · obtain rfl : j = k := by omega
              have := HC.out; omega
          · have := HF.out.set_ hlt (v := .int .i64 0) rfl
            simpa using this
        case measure => simp [intOf]; omega
    · obtain rfl : k = n := by omega
      go_wp2
      go_ret
      have q := inc_none b xs (by rw [HL.out]; exact hno)
      exact ⟨ret_bool q.symm, (fun e => by rw [q] at e; cases e), hgr⟩

def endAt (spans : List Int) (bn n t : Nat) : Int := burnEndL spans bn (digs bn t n)
def burnLeastL (spans : List Int) (burners : Int) : Int := if (spansL spans && inB 1 3 burners) = true then minN (endAt spans burners.toNat spans.length) (burners.toNat ^ spans.length - 1) else -1
theorem burnEndL_le (spans on : List Int) (b : Int) (h : ∀ k, k < spans.length → 0 ≤ gi spans k ∧ gi spans k ≤ 30) (hn : spans.length ≤ 6) : -1 ≤ burnEndL spans b on ∧ burnEndL spans b on ≤ 180 := by
  unfold burnEndL
  split
  · have : ∀ m, 0 ≤ maxTo (fun b => sumIf spans on (b : Nat) spans.length) m ∧ maxTo (fun b => sumIf spans on (b : Nat) spans.length) m ≤ 180 := by
      intro m
      induction m with
      | zero => simp [maxTo]
      | succ m ih =>
        rw [maxTo_succ]
        have := sumIf_bound (on := on) (m : Nat) h spans.length (Nat.le_refl _)
        omega
    have := this b.toNat
    omega
  · omega
theorem pow_le {b n : Nat} (hb1 : 1 ≤ b) (hb3 : b ≤ 3) (hn : n ≤ 6) : 1 ≤ b ^ n ∧ b ^ n ≤ 729 := by
  have h1 : b ^ n ≤ 3 ^ 6 := Nat.le_trans (Nat.pow_le_pow_left hb3 n) (Nat.pow_le_pow_right (by omega) hn)
  have h2 : 0 < b ^ n := Nat.pow_pos (by omega)
  exact ⟨h2, h1⟩

set_option maxHeartbeats 1000000 in
theorem implBurnLeast_any (A : Option Addr) (n c : Nat) (spans : List Int) (burners : Int) (w : World) (h : RI w A n spans) :
    Calls Try.prog 41 #[.slice A n c, .int .i64 burners] w fun e w' => e = .returned (.int .i64 (burnLeastL spans burners)) ∧ Le w w' := by
  have hc := implSpansValid_any A n c spans w h
  cases hs : spansL spans
  · have e0 : burnLeastL spans burners = -1 := by simp [burnLeastL, hs]
    rw [hs] at hc
    rw [e0]
    have HC := Lib.hid hc
    clear hc hs e0
    go_enter Try.func41, Try.ntmps41
    go_wp2_with (go_at_call 16; refine HC.out.mono ?_; rintro e w' ⟨rfl, rfl⟩)
    go_ret
    exact ⟨rfl, Le.refl _⟩
  · rw [hs] at hc
    have HC := Lib.hid hc
    by_cases hbr : 1 ≤ burners ∧ burners ≤ 3
    · have e0 : burnLeastL spans burners = minN (endAt spans burners.toNat spans.length) (burners.toNat ^ spans.length - 1) := by
        unfold burnLeastL; rw [hs, inB_t.2 hbr]; rfl
      obtain ⟨hn6, hsp⟩ := spans_bound hs
      obtain ⟨hb1, hb3⟩ := hbr
      obtain ⟨bn, rfl⟩ : ∃ bn : Nat, burners = bn := ⟨burners.toNat, by omega⟩
      rw [show ((bn : Int)).toNat = bn by omega, h.len] at e0
      have hbe : ∀ on b, -1 ≤ burnEndL spans b on ∧ burnEndL spans b on ≤ 180 := fun on b => burnEndL_le spans on b hsp hn6
      rw [h.len] at hn6
      obtain ⟨hp1, hp2⟩ := pow_le (b := bn) (n := n) (by omega) (by omega) hn6
      have HE := Lib.hid e0
      have HBE := Lib.hid hbe
      have HR := Lib.hid h
      generalize hpn : bn ^ n = p at *
      have HP := Lib.hid hpn
      clear hc hs e0 h hsp hbe hpn
      have hmk := run_mk (P := Try.prog) 23 3 (.int .i64 0) 1 8 Try.underlying23 infoInt n (by omega) (by omega)
      go_enter Try.func41, Try.ntmps41
      go_wp2_with (go_at_call 16; refine HC.out.mono ?_; rintro e w' ⟨rfl, rfl⟩)
      have hB0 : BlkI (w.alloc (.cells (madeCells #[.int .i64 0] n) 3)) w.heap.size (digs bn 0 n) := by
        have e : madeCells #[.int .i64 0] n = (ints (digs bn 0 n)).toArray := by
          apply Array.ext_getElem?
          intro j
          rw [show (ints (digs bn 0 n)).toArray[j]? = (ints (digs bn 0 n))[j]? by simp, digs_zero]
          by_cases hj : j < n
          · rw [made_get _ _ _ hj]; simp [ints, hj]
          · rw [Array.getElem?_eq_none (by simp [made_size]; omega)]; simp [ints]; omega
        rw [e]; exact Blk.new _ _ _
      have hl0 : Le w (w.alloc (.cells (madeCells #[.int .i64 0] n) 3)) := (Le.refl _).alloc _
      refine (implBurnEnd_any _ _ _ _ _ _ _ (digs bn 0 n) _ _ (HR.out.le hl0) (hB0.RI_ (digs_length _ _ _) (by omega))).mono ?_; rintro e w1 ⟨rfl, l1⟩
      have HB1 := Lib.hid (hB0.le l1)
      have HL1 := Lib.hid (hl0.trans l1)
      clear hB0 hl0 l1 hmk
      go_wp2
      go_loopg [6] p (fun gk v wr => ∃ t : Nat, gk = p - t ∧ t < p ∧ v = .int .i64 (minN (endAt spans bn n) t) ∧ Le w wr ∧ BlkI wr w.heap.size (digs bn t n))
      case atStart => exact ⟨0, by omega, by omega, rfl, HL1.out, HB1.out⟩
      case round =>
        obtain ⟨t, rfl, ht, rfl, hle, hblk⟩ := hrel
        have HLE := Lib.hid hle
        have HBK := Lib.hid hblk
        clear hle hblk
        have hdx : ∀ j, j < n → 0 ≤ gi (digs bn t n) j ∧ gi (digs bn t n) j ≤ 3 := fun j hj => by
          have := digs_lt (b := bn) (by omega) t n _ (gi_mem (xs := digs bn t n) (k := j) (by rw [digs_length]; exact hj))
          omega
        have HDX := Lib.hid hdx
        clear hdx
        obtain ⟨q1, q2⟩ := inc_digs bn (by omega) (by omega) n t (by rw [HP.out]; exact ht)
        rw [HP.out] at q1 q2
        have Q1 := Lib.hid q1
        have Q2 := Lib.hid q2
        clear q1 q2
        go_wp2_with fail
        refine (nextList_any _ _ _ _ _ _ HBK.out (digs_length _ _ _) hn6 HDX.out).mono ?_; rintro e w2 ⟨rfl, hB2, hG⟩
        have HG := Lib.hid hG
        have HB2 := Lib.hid hB2
        clear hG hB2
        by_cases hlt : t + 1 < p
        · have hi : (inc bn (digs bn t n)).2 = true := by rw [Q1.out]; simpa using hlt
          have hb2 : BlkI w2 w.heap.size (digs bn (t + 1) n) := by
            have := HB2.out hi
            rw [Q2.out hlt] at this
            exact this
          rw [hi]
          have HI := Lib.hid hi
          have HB3 := Lib.hid hb2
          have HL2 := Lib.hid (HLE.out.grown HG.out fun k hk => by injection hk with hk; omega)
          clear hi hb2
          go_wp2_with fail
          refine (implBurnEnd_any _ _ _ _ _ _ _ (digs bn (t + 1) n) _ _ (HR.out.le HL2.out) (HB3.out.RI_ (digs_length _ _ _) (by omega))).mono ?_; rintro e w3 ⟨rfl, l3⟩
          have HL3 := Lib.hid l3
          clear l3
          go_wp2
          all_goals
            go_roundg (p - (t + 1))
            case measure => omega
            case rel =>
              refine ⟨t + 1, rfl, hlt, ?_, HL2.out.trans HL3.out, HB3.out.le HL3.out⟩
              rw [minN_succ, show endAt spans bn n (t + 1) = burnEndL spans bn (digs bn (t + 1) n) from rfl]
              exact congrArg _ (by omega)
        · have hi : (inc bn (digs bn t n)).2 = false := by rw [Q1.out]; simp; omega
          rw [hi]
          have HL2 := Lib.hid (HLE.out.grown HG.out fun k hk => by injection hk with hk; omega)
          clear hi
          go_wp2
          go_ret
          refine ⟨?_, HL2.out⟩
          rw [HE.out, show p - 1 = t by omega]
          rfl
    · have e0 : burnLeastL spans burners = -1 := by
        unfold burnLeastL; rw [inB_f.2 (by omega)]; simp
      rw [e0]
      clear hc hs e0 h
      by_cases h1 : burners < 1
      · go_enter Try.func41, Try.ntmps41
        go_wp2_with (go_at_call 16; refine HC.out.mono ?_; rintro e w' ⟨rfl, rfl⟩)
        go_ret
        exact ⟨rfl, Le.refl _⟩
      · have h2 : 3 < burners := by omega
        go_enter Try.func41, Try.ntmps41
        go_wp2_with (go_at_call 16; refine HC.out.mono ?_; rintro e w' ⟨rfl, rfl⟩)
        go_ret
        exact ⟨rfl, Le.refl _⟩

end Go.Proofs.Ytedopialmhpalaa
