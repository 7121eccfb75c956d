/- Walks: ItemText of the program, by the shelf's contracts of strings.Builder and strconv.Itoa; the fixed answer of the laws. -/
import Derived.Test.YtoahjfofnaafaaaDoorWItW
import Derived.Test.YtoahjfofnaafaaaDoorWBuild
namespace Go.Proofs.YtoahjfofnaafaaaDoor
open Go.RowKit

def numT (n : Int) : List UInt8 := Lib.decDigits n.toNat
/-- the first k parts as a text -/
def partsT (ps : List (Int × Int)) : Nat → List UInt8
  | 0 => []
  | k + 1 => partsT ps k ++ ((if k = 0 then [] else [44]) ++ numT (gp ps k).1 ++ [42] ++ numT (gp ps k).2)
def textT (x : It) : List UInt8 := numT x.1 ++ [61] ++ partsT x.2.1 x.2.1.length ++ [33] ++ numT x.2.2
def itemT (x : It) : List UInt8 := if itemL x 5 = true then textT x else []

theorem item_facts {x : It} {index : Nat} (h : itemL x index = true) : (0 ≤ x.1 ∧ x.1 ≤ 6) ∧ x.2.1.length ≤ 3 ∧ (0 < x.1 ↔ 0 < x.2.1.length) ∧ (0 ≤ x.2.2 ∧ x.2.2 ≤ 31) ∧ ∀ j, j < x.2.1.length → (0 ≤ (gp x.2.1 j).1 ∧ (gp x.2.1 j).1 < index) ∧ (1 ≤ (gp x.2.1 j).2 ∧ (gp x.2.1 j).2 ≤ 6) ∧ (0 < j → (gp x.2.1 (j - 1)).1 < (gp x.2.1 j).1) := by
  unfold itemL at h
  simp only [Bool.and_eq_true, List.all_eq_true, List.mem_range, inB_t, decide_eq_true_eq, beq_iff_eq, decide_eq_decide] at h
  obtain ⟨h1, ⟨⟨h2, h3⟩, h4⟩, h5⟩ := h
  refine ⟨h2, h3, h4, h5, fun j hj => ?_⟩
  have := h1 j hj
  unfold partB at this
  simp only [Bool.and_eq_true, Bool.or_eq_true, inB_t, decide_eq_true_eq] at this
  refine ⟨by omega, this.1.2, fun h0 => ?_⟩
  rcases this.2 with h | h
  · omega
  · exact h
theorem numT_len {n : Int} (h : n < 100) : (numT n).length ≤ 2 := by
  unfold numT
  rw [Lib.decDigits_length]
  by_cases h1 : n.toNat < 10
  · rw [Lib.nDigits_small h1]; omega
  · rw [Lib.nDigits, dif_neg h1, Lib.nDigits_small (by omega)]; omega
theorem partsT_len {ps : List (Int × Int)} {n : Nat} (h : ∀ j, j < n → (gp ps j).1 < 100 ∧ (gp ps j).2 < 100) : ∀ k, k ≤ n → (partsT ps k).length ≤ k * 6 := by
  intro k
  induction k with
  | zero => intro _; exact Nat.zero_le _
  | succ k ih =>
    intro hk
    have := ih (by omega)
    have h1 := numT_len (h k (by omega)).1
    have h2 := numT_len (h k (by omega)).2
    show (partsT ps k ++ ((if k = 0 then [] else [44]) ++ numT (gp ps k).1 ++ [42] ++ numT (gp ps k).2)).length ≤ _
    simp only [List.length_append, List.length_singleton]
    split <;> simp <;> omega

theorem itoa_any (n : Int) (h0 : 0 ≤ n) (h1 : n < 100) (w : World) : Calls Tryd.prog 49 #[.int .i64 n] w fun e w' => e = .returned (.string ⟨(numT n).toArray⟩) ∧ w = w' := by
  have := Tryd.strconv_Itoa_small n.toNat (by omega) w
  rw [show ((n.toNat : Nat) : Int) = n by omega] at this
  exact this.mono fun e w' ⟨he, hw⟩ => ⟨he, hw.symm⟩

set_option maxRecDepth 20000 in
set_option maxHeartbeats 4000000 in
theorem implItemText_any (y : Int) (A : Option Addr) (n c : Nat) (mk : Int) (ps : List (Int × Int)) (w : World) (h : RP w A n ps) :
    Calls Tryd.prog 16 #[.agg #[.int .i64 y, .slice A n c, .int .i64 mk]] w fun e w' => e = .returned (.string ⟨(itemT (y, ps, mk)).toArray⟩) ∧ Le w w' := by
  have l0 := (Le.refl w).alloc (.cells #[.int .i64 y, .slice A n c, .int .i64 mk] 26)
  have k0 := Blk.new w 26 #[.int .i64 y, .slice A n c, .int .i64 mk]
  obtain ⟨wz, hwz⟩ : ∃ wz, w.alloc (.cells #[.int .i64 y, .slice A n c, .int .i64 mk] 26) = wz := ⟨_, rfl⟩
  rw [hwz] at l0 k0
  have hv := implItem_any y A n c mk ps 5 wz (h.le l0)
  have L0 := Lib.hid l0
  have K0 := Lib.hid k0
  have HV := Lib.hid hv
  have hl := h.len
  have hwzs : w.heap.size < wz.heap.size := k0.lt
  unfold itemT
  cases hb : itemL (y, ps, mk) 5
  · rw [hb] at HV
    rw [if_neg (by decide)]
    have a0 := k0.cell 0
    have a1 := k0.cell 1
    have a2 := k0.cell 2
    simp at a0 a1 a2
    clear h hv l0 k0 hb
    go_enter Tryd.func16, Tryd.ntmps16
    go_wp2_with fail
    refine HV.out.mono ?_; rintro o w1 ⟨rfl, l1⟩
    go_wp2
    go_ret
    exact ⟨rfl, L0.out.trans l1⟩
  · rw [hb] at HV
    rw [if_pos rfl]
    obtain ⟨⟨y0, y1⟩, n3, _, ⟨m0, m1⟩, hp⟩ := item_facts hb
    simp only at y0 y1 n3 m0 m1 hp
    have ly := numT_len (n := y) (by omega)
    have lm := numT_len (n := mk) (by omega)
    have hpl := partsT_len (ps := ps) (n := n) (fun j hj => by have := hp j (by omega); omega)
    have HP := Lib.hid hp
    have HPL := Lib.hid hpl
    have HR := Lib.hid h
    have a0 := k0.cell 0
    have a1 := k0.cell 1
    have a2 := k0.cell 2
    simp at a0 a1 a2
    clear h hv l0 k0 hb hp hpl
    have e61 : ((61 : UInt8).toNat : Int) = 61 := rfl
    have e44 : ((44 : UInt8).toNat : Int) = 44 := rfl
    have e42 : ((42 : UInt8).toNat : Int) = 42 := rfl
    have e33 : ((33 : UInt8).toNat : Int) = 33 := rfl
    have E61 := Lib.hid e61
    have E44 := Lib.hid e44
    have E42 := Lib.hid e42
    have E33 := Lib.hid e33
    clear e61 e44 e42 e33
    go_enter Tryd.func16, Tryd.ntmps16
    go_wp2_with fail
    refine HV.out.mono ?_; rintro o w1 ⟨rfl, l1⟩
    have kz := fun w' (l : Below w1.heap.size w1 w') => (K0.out.le l1).le (show Le w1 w' from l)
    have hb0 := BT.fresh w1
    have lw := L0.out.trans l1
    have KZ := Lib.hid kz
    have LW := Lib.hid lw
    clear a0 a1 a2 l1 kz lw
    obtain ⟨wb, hwb⟩ : ∃ wb, w1.alloc (.cells #[.pointer none, .slice none 0 0] 84) = wb := ⟨_, rfl⟩
    rw [hwb] at hb0
    have B0 := Lib.hid hb0
    have a0 := (KZ.out _ hb0.low).cell 0
    simp at a0
    clear hb0
    obtain ⟨b, hbb⟩ : ∃ b, w1.heap.size = b := ⟨_, rfl⟩
    rw [hbb] at B0
    go_wp2_with fail
    refine (itoa_any y y0 (by omega) _).mono ?_; rintro o w' ⟨rfl, rfl⟩
    go_wp2_with fail
    refine (wString_any (numT y) _ _ _ _ B0.out (by simp; omega)).mono ?_; rintro o w2 ⟨rfl, b2, _⟩
    clear a0
    go_wp2_with fail
    refine (wByte_any 61 61 E61.out _ _ _ _ b2 (by simp; omega)).mono ?_; rintro o w3 ⟨rfl, b3, _⟩
    have a1 := (KZ.out _ (by rw [hbb]; exact b3.low)).cell 1
    simp at a1
    have B3 := Lib.hid b3
    clear b2 b3
    go_wp2
    clear a1
    go_loopw [17] (fun i wr => ∃ k : Nat, k ≤ n ∧ i = .int .i64 k ∧ BT w1 wr b (numT y ++ [61] ++ partsT ps k)) (fun i _ => n - (intOf i).toNat)
    case atStart => exact ⟨0, Nat.zero_le _, rfl, by simpa [partsT] using B3.out⟩
    case round =>
      obtain ⟨k, hk, rfl, hbt⟩ := hrel
      have hln := HPL.out k hk
      have hbz := hbt.sz
      by_cases hlt : k < n
      · obtain ⟨ad, rfl, c1, c2⟩ := HR.out.at_ k hlt
        obtain ⟨⟨p1, p2⟩, ⟨p3, p4⟩, _⟩ := HP.out k (by omega)
        have hlw : Le w wr := LW.out.trans (by have := hbt.low; rw [← hbb] at this; exact this)
        have c1 := hlw.cell c1
        have c2 := hlw.cell c2
        have k1 := Blk.new wr 80 #[.int .i64 (gp ps k).1, .int .i64 (gp ps k).2]
        have hb1 := hbt.alloc (.cells #[.int .i64 (gp ps k).1, .int .i64 (gp ps k).2] 80)
        have l1 := numT_len (n := (gp ps k).1) (by omega)
        have l2 := numT_len (n := (gp ps k).2) (by omega)
        obtain ⟨wp, hwp⟩ : ∃ wp, wr.alloc (.cells #[.int .i64 (gp ps k).1, .int .i64 (gp ps k).2] 80) = wp := ⟨_, rfl⟩
        rw [hwp] at k1 hb1
        obtain ⟨P1, hP1⟩ : ∃ P1, (gp ps k).1 = P1 := ⟨_, rfl⟩
        obtain ⟨P2, hP2⟩ : ∃ P2, (gp ps k).2 = P2 := ⟨_, rfl⟩
        rw [hP1] at c1 k1 l1 p1 p2 hwp
        rw [hP2] at c2 k1 l2 p3 p4 hwp
        obtain ⟨q, hq⟩ : ∃ q, wr.heap.size = q := ⟨_, rfl⟩
        rw [hq] at k1
        have hqb : q ≠ b := by omega
        have HQ := Lib.hid hq
        have HB1 := Lib.hid hb1
        have HK1 := Lib.hid k1
        have HPP := Lib.hid (And.intro hP1 hP2)
        have hne5 : (80 : TypeId) ≠ 5 := by decide
        clear hP1 hP2 k1 hb1 hbt hlw
        by_cases hk0 : k = 0
        · have b7 := HB1.out
          have k7 := HK1.out
          have hk1 : decide (0 < k) = false := by simpa using hk0
          have hk2 : decide ((0 : Int) < (k : Int)) = false := by simp; omega
          have HZ := Lib.hid hk0
          clear hk0
          have d0 := k7.cell 0
          simp at d0
          go_wp2_with fail
          refine (itoa_any P1 p1 (by omega) _).mono ?_; rintro o w' ⟨rfl, rfl⟩
          go_wp2_with fail
          refine (wString_any (numT P1) _ _ _ _ b7 (by simp; omega)).mono ?_; rintro o w8 ⟨rfl, b8, q8⟩
          have k8 := q8 _ _ _ k7 hqb hne5
          clear d0 b7 q8 k7
          go_wp2_with fail
          refine (wByte_any 42 42 E42.out _ _ _ _ b8 (by simp; omega)).mono ?_; rintro o w9 ⟨rfl, b9, q9⟩
          have k9 := q9 _ _ _ k8 hqb hne5
          have d1 := k9.cell 1
          simp at d1
          clear b8 q9 k8
          go_wp2_with fail
          refine (itoa_any P2 (by omega) (by omega) _).mono ?_; rintro o w' ⟨rfl, rfl⟩
          go_wp2_with fail
          refine (wString_any (numT P2) _ _ _ _ b9 (by simp; omega)).mono ?_; rintro o w10 ⟨rfl, b10, q10⟩
          have B10 := Lib.hid b10
          clear d1 b9 q10 k9 b10
          go_wp2
          go_roundw
          case rel =>
            refine ⟨k + 1, by omega, by go_num, ?_⟩
            have e : numT y ++ [61] ++ partsT ps (k + 1) = numT y ++ [61] ++ partsT ps k ++ numT P1 ++ [42] ++ numT P2 := by
              show numT y ++ [61] ++ (partsT ps k ++ ((if k = 0 then [] else [44]) ++ numT (gp ps k).1 ++ [42] ++ numT (gp ps k).2)) = _
              rw [HPP.out.1, HPP.out.2, if_pos HZ.out]
              simp
            rw [e]
            exact B10.out
          case measure => simp [intOf]; omega
        · have hk1 : decide (0 < k) = true := by simpa using Nat.pos_of_ne_zero hk0
          have hk2 : decide ((0 : Int) < (k : Int)) = true := by simp; omega
          go_wp2_with fail
          refine (wByte_any 44 44 E44.out _ _ _ _ HB1.out (by simp; omega)).mono ?_; rintro o w7 ⟨rfl, b7, q7⟩
          have k7 := q7 _ _ _ HK1.out hqb hne5
          clear q7
          have d0 := k7.cell 0
          simp at d0
          go_wp2_with fail
          refine (itoa_any P1 p1 (by omega) _).mono ?_; rintro o w' ⟨rfl, rfl⟩
          go_wp2_with fail
          refine (wString_any (numT P1) _ _ _ _ b7 (by simp; omega)).mono ?_; rintro o w8 ⟨rfl, b8, q8⟩
          have k8 := q8 _ _ _ k7 hqb hne5
          clear d0 b7 q8 k7
          go_wp2_with fail
          refine (wByte_any 42 42 E42.out _ _ _ _ b8 (by simp; omega)).mono ?_; rintro o w9 ⟨rfl, b9, q9⟩
          have k9 := q9 _ _ _ k8 hqb hne5
          have d1 := k9.cell 1
          simp at d1
          clear b8 q9 k8
          go_wp2_with fail
          refine (itoa_any P2 (by omega) (by omega) _).mono ?_; rintro o w' ⟨rfl, rfl⟩
          go_wp2_with fail
          refine (wString_any (numT P2) _ _ _ _ b9 (by simp; omega)).mono ?_; rintro o w10 ⟨rfl, b10, q10⟩
          have B10 := Lib.hid b10
          clear d1 b9 q10 k9 b10
          go_wp2
          go_roundw
          case rel =>
            refine ⟨k + 1, by omega, by go_num, ?_⟩
            have e : numT y ++ [61] ++ partsT ps (k + 1) = numT y ++ [61] ++ partsT ps k ++ [44] ++ numT P1 ++ [42] ++ numT P2 := by
              show numT y ++ [61] ++ (partsT ps k ++ ((if k = 0 then [] else [44]) ++ numT (gp ps k).1 ++ [42] ++ numT (gp ps k).2)) = _
              rw [HPP.out.1, HPP.out.2, if_neg hk0]
              simp
            rw [e]
            exact B10.out
          case measure => simp [intOf]; omega
      · obtain rfl : k = n := by omega
        have a2 := (KZ.out _ (by rw [hbb]; exact hbt.low)).cell 2
        simp at a2
        go_wp2_with fail
        refine (wByte_any 33 33 E33.out _ _ _ _ hbt (by simp; omega)).mono ?_; rintro o w4 ⟨rfl, b4, _⟩
        have a2 := (KZ.out _ (by rw [hbb]; exact b4.low)).cell 2
        simp at a2
        go_wp2_with fail
        refine (itoa_any mk m0 (by omega) _).mono ?_; rintro o w' ⟨rfl, rfl⟩
        go_wp2_with fail
        refine (wString_any (numT mk) _ _ _ _ b4 (by simp; omega)).mono ?_; rintro o w5 ⟨rfl, b5, _⟩
        go_wp2_with fail
        refine (bString_any _ _ _ _ b5).mono ?_; rintro o w6 ⟨rfl, b6⟩
        go_wp2
        go_ret
        refine ⟨?_, LW.out.trans (by rw [← hbb] at b6; exact b6)⟩
        have e : textT (y, ps, mk) = numT y ++ 61 :: (partsT ps k ++ 33 :: numT mk) := by simp [textT, hl]
        rw [e]
        rfl
end Go.Proofs.YtoahjfofnaafaaaDoor
