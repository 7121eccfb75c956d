/- Walk: UnitCost of the program. -/
import Derived.Test.YtoahjfofnaafaaaDoorWUnit
import Derived.Deep.RegionHeld3
namespace Go.Proofs.YtoahjfofnaafaaaDoor
open Go.RowKit

def unitOkL (ts : List It) (ps : List Int) (index : Int) : Bool := pricesL ts ps && (decide (0 ≤ index) && decide (index < ts.length))
def unitL (ts : List It) (ps : List Int) (index : Int) : Nat × Nat := if unitOkL ts ps index = true then costT ts ps index.toNat else (0, 0)
def costL (ts : List It) (ps : List Int) (k : Nat) : List (Int × Int) := (List.range k).map fun q => (((costT ts ps q).1 : Int), ((costT ts ps q).2 : Int))
theorem gp_costL (ts : List It) (ps : List Int) {k j : Nat} (h : j < k) : gp (costL ts ps k) j = (((costT ts ps j).1 : Int), ((costT ts ps j).2 : Int)) := by
  unfold gp costL; rw [List.getD_eq_getElem?_getD, List.getElem?_map, List.getElem?_range h]; rfl
theorem infoFrac : (Tryd.prog.info? 49).map (fun i => (i.zero, i.size, i.bytes)) = some (some (.agg #[.int .i64 0, .int .i64 0]), 2, 16) := by kernel_rfl

/-- products on the way that stay below 2^63 -/
theorem prod_ok {n e n' e' c d m y V : Nat} (hn' : n' ≤ n) (he' : e' ≤ e) (hd : 0 < d) (he : 0 < e) (hj : n * d + m * c * e ≤ 18 * V * (e * d)) (hc : c ≤ V * d) (hm : m ≤ 6) (hy : y ≤ 6) (hV : V ≤ 2099520) (hE : e * d ≤ 78364164096) :
    n' * d ≤ 9223372036854775807 ∧ m * c ≤ 9223372036854775807 ∧ m * c * e' ≤ 9223372036854775807 ∧ n' * d + m * c * e' ≤ 9223372036854775807 ∧ e' * d ≤ 9223372036854775807 ∧ m * c * (y * e) ≤ 9223372036854775807 ∧ n * d + m * c * e ≤ 9223372036854775807 ∧ y * e * d ≤ 9223372036854775807 ∧ y * e ≤ 9223372036854775807 := by
  have h0 : 18 * V * (e * d) ≤ 18 * 2099520 * 78364164096 := Nat.mul_le_mul (Nat.mul_le_mul_left _ hV) hE
  have h1 : n' * d ≤ n * d := Nat.mul_le_mul_right _ hn'
  have h2 : m * c * e' ≤ m * c * e := Nat.mul_le_mul_left _ he'
  have h3 : e' * d ≤ e * d := Nat.mul_le_mul_right _ he'
  have h4 : m * c ≤ m * c * e := Nat.le_mul_of_pos_right _ he
  have h5 : m * c * (y * e) = y * (m * c * e) := by ac_rfl
  have h6 : m * c * e ≤ 6 * (V * d) * e := Nat.mul_le_mul_right _ (Nat.mul_le_mul hm hc)
  have h7 : 6 * (V * d) * e = 6 * V * (e * d) := by ac_rfl
  have h8 : 6 * V * (e * d) ≤ 6 * 2099520 * 78364164096 := Nat.mul_le_mul (Nat.mul_le_mul_left _ hV) hE
  have h9 : y * (m * c * e) ≤ 6 * (6 * 2099520 * 78364164096) := Nat.mul_le_mul hy (by omega)
  have h10 : y * e * d = y * (e * d) := by ac_rfl
  have h11 : y * (e * d) ≤ 6 * 78364164096 := Nat.mul_le_mul hy hE
  have h12 : e ≤ e * d := Nat.le_mul_of_pos_right _ hd
  have h13 : y * e ≤ 6 * 78364164096 := Nat.mul_le_mul hy (by omega)
  rw [h5, h10]
  omega
/-- what holds in a round of the sum -/
theorem sum_step {ts : List It} {pr : List Int} {n : Nat} (hn6 : n ≤ 6) (hf : ∀ k, k < n → (0 ≤ (gm ts k).1 ∧ (gm ts k).1 ≤ 6) ∧ (gm ts k).2.1.length ≤ 3 ∧ (0 < (gm ts k).1 ↔ 0 < (gm ts k).2.1.length) ∧ (0 ≤ (gm ts k).2.2 ∧ (gm ts k).2.2 ≤ 31) ∧
    ∀ j, j < (gm ts k).2.1.length → (0 ≤ (gp (gm ts k).2.1 j).1 ∧ (gp (gm ts k).2.1 j).1 < k) ∧ (1 ≤ (gp (gm ts k).2.1 j).2 ∧ (gp (gm ts k).2.1 j).2 ≤ 6) ∧ (0 < j → (gp (gm ts k).2.1 (j - 1)).1 < (gp (gm ts k).2.1 j).1))
    (hp : ∀ k, k < n → 0 ≤ gi pr k ∧ gi pr k ≤ 20) {k j : Nat} (hk : k < n) (hj : j < (gm ts k).2.1.length) :
    0 < (sumC (gm ts k).2.1 (costT ts pr) j).2 ∧ 0 < (costT ts pr (ofN (gm ts k).2.1 j)).2 ∧
    (sumC (gm ts k).2.1 (costT ts pr) j).1 * (costT ts pr (ofN (gm ts k).2.1 j)).2 + mnN (gm ts k).2.1 j * (costT ts pr (ofN (gm ts k).2.1 j)).1 * (sumC (gm ts k).2.1 (costT ts pr) j).2 ≤ 18 * (20 * 18 ^ (k - 1)) * ((sumC (gm ts k).2.1 (costT ts pr) j).2 * (costT ts pr (ofN (gm ts k).2.1 j)).2) ∧
    (costT ts pr (ofN (gm ts k).2.1 j)).1 ≤ 20 * 18 ^ (k - 1) * (costT ts pr (ofN (gm ts k).2.1 j)).2 ∧ mnN (gm ts k).2.1 j ≤ 6 ∧ 20 * 18 ^ (k - 1) ≤ 2099520 ∧ (sumC (gm ts k).2.1 (costT ts pr) j).2 * (costT ts pr (ofN (gm ts k).2.1 j)).2 ≤ 78364164096 := by
  have hpn := parts_nat hf hk
  have hc := cost_ok hn6 hf hp
  obtain ⟨f1, f2, _⟩ := hpn j hj
  have hk0 : 0 < k := by omega
  have hl := (hf k hk).2.1
  have so := sum_ok (T := costT ts pr) (show k < 6 by omega) hl hpn (fun q hq => hc q (by omega))
  obtain ⟨t1, t2, t3⟩ := so (j + 1) hj hk0
  have hd := dB_m k (by omega)
  obtain ⟨c1, _, c3⟩ := hc _ (show ofN (gm ts k).2.1 j < n by omega)
  refine ⟨(so j (by omega) hk0).1, c1, ?_, Nat.le_trans c3 (Nat.mul_le_mul_right _ (vB_m f1)), f2, ?_, ?_⟩
  · refine Nat.le_trans t3 (Nat.mul_le_mul_right _ ?_)
    have := Nat.mul_le_mul_right (6 * (20 * 18 ^ (k - 1))) (show j + 1 ≤ 3 by omega)
    omega
  · have : ∀ k, k < 6 → 20 * 18 ^ (k - 1) ≤ 2099520 := by decide
    exact this k (by omega)
  · show (sumC (gm ts k).2.1 (costT ts pr) (j + 1)).2 ≤ _
    omega

/-- the numbers of a round, each under a name -/
theorem unit_nums {ts : List It} {ps : List Int} {m : Nat} (hn6 : m ≤ 6) (hf : ∀ k, k < m → (0 ≤ (gm ts k).1 ∧ (gm ts k).1 ≤ 6) ∧ (gm ts k).2.1.length ≤ 3 ∧ (0 < (gm ts k).1 ↔ 0 < (gm ts k).2.1.length) ∧ (0 ≤ (gm ts k).2.2 ∧ (gm ts k).2.2 ≤ 31) ∧
    ∀ j, j < (gm ts k).2.1.length → (0 ≤ (gp (gm ts k).2.1 j).1 ∧ (gp (gm ts k).2.1 j).1 < k) ∧ (1 ≤ (gp (gm ts k).2.1 j).2 ∧ (gp (gm ts k).2.1 j).2 ≤ 6) ∧ (0 < j → (gp (gm ts k).2.1 (j - 1)).1 < (gp (gm ts k).2.1 j).1))
    (hp : ∀ k, k < m → 0 ≤ gi ps k ∧ gi ps k ≤ 20) {q j : Nat} (hq : q < m) (hj : j < (gm ts q).2.1.length) :
    ∃ n' e' cn cd o mn x1 x2 x3 x4 x5 : Nat, low (sumC (gm ts q).2.1 (costT ts ps) j).1 (sumC (gm ts q).2.1 (costT ts ps) j).2 = (n', e') ∧ costT ts ps o = (cn, cd) ∧ (gp (gm ts q).2.1 j).1 = o ∧ (gp (gm ts q).2.1 j).2 = mn ∧ o < q ∧
      (IntKind.i64.wrap ((n' : Int) * cd) = (x1 : Int) ∧ IntKind.i64.wrap ((mn : Int) * cn) = (x2 : Int) ∧ IntKind.i64.wrap ((x2 : Int) * e') = (x3 : Int) ∧ IntKind.i64.wrap ((x1 : Int) + x3) = (x4 : Int) ∧ IntKind.i64.wrap ((e' : Int) * cd) = (x5 : Int)) ∧
      (x4 ≤ 9223372036854775807 ∧ x5 ≤ 9223372036854775807 ∧ 0 < x5) ∧ low (sumC (gm ts q).2.1 (costT ts ps) (j + 1)).1 (sumC (gm ts q).2.1 (costT ts ps) (j + 1)).2 = low x4 x5 := by
  have hpn := parts_nat hf hq
  obtain ⟨s1, s2, s3, s4, s5, s6, s7⟩ := sum_step (pr := ps) hn6 hf hp hq hj
  have hnx : low (sumC (gm ts q).2.1 (costT ts ps) (j + 1)).1 (sumC (gm ts q).2.1 (costT ts ps) (j + 1)).2 = low ((low (sumC (gm ts q).2.1 (costT ts ps) j).1 (sumC (gm ts q).2.1 (costT ts ps) j).2).1 * (costT ts ps (ofN (gm ts q).2.1 j)).2 + mnN (gm ts q).2.1 j * (costT ts ps (ofN (gm ts q).2.1 j)).1 * (low (sumC (gm ts q).2.1 (costT ts ps) j).1 (sumC (gm ts q).2.1 (costT ts ps) j).2).2) ((low (sumC (gm ts q).2.1 (costT ts ps) j).1 (sumC (gm ts q).2.1 (costT ts ps) j).2).2 * (costT ts ps (ofN (gm ts q).2.1 j)).2) := (sumC_low s1 s2).symm
  have t1 := low_le1 (sumC (gm ts q).2.1 (costT ts ps) j).1 (sumC (gm ts q).2.1 (costT ts ps) j).2
  have t2 := low_le2 (sumC (gm ts q).2.1 (costT ts ps) j).1 (sumC (gm ts q).2.1 (costT ts ps) j).2
  have t3 := low_pos (a := (sumC (gm ts q).2.1 (costT ts ps) j).1) s1
  have h1 := (hf q hq).2.2.2.2 j hj
  have r1 : (gp (gm ts q).2.1 j).1 = ofN (gm ts q).2.1 j := by unfold ofN; omega
  have r2 : (gp (gm ts q).2.1 j).2 = mnN (gm ts q).2.1 j := by unfold mnN; omega
  obtain ⟨u1, u2, u3, u4, u5, _⟩ := prod_ok (y := 0) t1 t2 s2 s1 s3 s4 s5 (by omega) s6 s7
  have v5 := Nat.mul_pos t3 s2
  generalize hn' : (low (sumC (gm ts q).2.1 (costT ts ps) j).1 (sumC (gm ts q).2.1 (costT ts ps) j).2).1 = n' at *
  generalize he' : (low (sumC (gm ts q).2.1 (costT ts ps) j).1 (sumC (gm ts q).2.1 (costT ts ps) j).2).2 = e' at *
  generalize hcn : (costT ts ps (ofN (gm ts q).2.1 j)).1 = cn at *
  generalize hcd : (costT ts ps (ofN (gm ts q).2.1 j)).2 = cd at *
  refine ⟨n', e', cn, cd, ofN (gm ts q).2.1 j, mnN (gm ts q).2.1 j, n' * cd, mnN (gm ts q).2.1 j * cn, mnN (gm ts q).2.1 j * cn * e', n' * cd + mnN (gm ts q).2.1 j * cn * e', e' * cd, by rw [← hn', ← he'], by rw [← hcn, ← hcd], r1, r2, (hpn j hj).1, ⟨?_, ?_, ?_, ?_, ?_⟩, ⟨u4, u5, v5⟩, hnx⟩
  · rw [← Int.natCast_mul]; exact IntWalk.i64_in _ (by omega)
  · rw [← Int.natCast_mul]; exact IntWalk.i64_in _ (by omega)
  · rw [← Int.natCast_mul]; exact IntWalk.i64_in _ (by omega)
  · rw [← Int.natCast_add]; exact IntWalk.i64_in _ (by omega)
  · rw [← Int.natCast_mul]; exact IntWalk.i64_in _ (by omega)
theorem unit_fin {ts : List It} {ps : List Int} {m : Nat} (hn6 : m ≤ 6) (hf : ∀ k, k < m → (0 ≤ (gm ts k).1 ∧ (gm ts k).1 ≤ 6) ∧ (gm ts k).2.1.length ≤ 3 ∧ (0 < (gm ts k).1 ↔ 0 < (gm ts k).2.1.length) ∧ (0 ≤ (gm ts k).2.2 ∧ (gm ts k).2.2 ≤ 31) ∧
    ∀ j, j < (gm ts k).2.1.length → (0 ≤ (gp (gm ts k).2.1 j).1 ∧ (gp (gm ts k).2.1 j).1 < k) ∧ (1 ≤ (gp (gm ts k).2.1 j).2 ∧ (gp (gm ts k).2.1 j).2 ≤ 6) ∧ (0 < j → (gp (gm ts k).2.1 (j - 1)).1 < (gp (gm ts k).2.1 j).1))
    (hp : ∀ k, k < m → 0 ≤ gi ps k ∧ gi ps k ≤ 20) {q y : Nat} (hq : q < m) (hy : (gm ts q).1 = y) (hy0 : 0 < y) :
    ∃ n' e' x6 : Nat, low (sumC (gm ts q).2.1 (costT ts ps) (gm ts q).2.1.length).1 (sumC (gm ts q).2.1 (costT ts ps) (gm ts q).2.1.length).2 = (n', e') ∧ IntKind.i64.wrap ((e' : Int) * y) = (x6 : Int) ∧ (n' ≤ 9223372036854775807 ∧ x6 ≤ 9223372036854775807 ∧ 0 < x6) ∧ costT ts ps q = low n' x6 := by
  have hpn := parts_nat hf hq
  have hyl := hf q hq
  have hct : costT ts ps q = low (sumC (gm ts q).2.1 (costT ts ps) (gm ts q).2.1.length).1 ((sumC (gm ts q).2.1 (costT ts ps) (gm ts q).2.1.length).2 * y) := by
    rw [costT_eq fun j hj => (hpn j hj).1]
    unfold cost1; rw [if_neg (by omega), hy, Int.toNat_natCast]
  obtain ⟨s1, s2, s3⟩ := sum_ok (T := costT ts ps) (show q < 6 by omega) hyl.2.1 hpn (fun r hr => cost_ok hn6 hf hp r (by omega)) _ (Nat.le_refl _) (by have := (hpn 0 (hyl.2.2.1.1 (by omega))).1; omega)
  have hd := dB_m q (by omega)
  have t1 := low_le1 (sumC (gm ts q).2.1 (costT ts ps) (gm ts q).2.1.length).1 (sumC (gm ts q).2.1 (costT ts ps) (gm ts q).2.1.length).2
  have t2 := low_le2 (sumC (gm ts q).2.1 (costT ts ps) (gm ts q).2.1.length).1 (sumC (gm ts q).2.1 (costT ts ps) (gm ts q).2.1.length).2
  have t3 := low_pos (a := (sumC (gm ts q).2.1 (costT ts ps) (gm ts q).2.1.length).1) s1
  have hv : ∀ k, k < 6 → 20 * 18 ^ (k - 1) ≤ 2099520 := by decide
  have hv := hv q (by omega)
  have h1 : (gm ts q).2.1.length * (6 * (20 * 18 ^ (q - 1))) * (sumC (gm ts q).2.1 (costT ts ps) (gm ts q).2.1.length).2 ≤ 3 * (6 * 2099520) * 78364164096 := Nat.mul_le_mul (Nat.mul_le_mul hyl.2.1 (Nat.mul_le_mul_left _ hv)) (by omega)
  have h2 : (low (sumC (gm ts q).2.1 (costT ts ps) (gm ts q).2.1.length).1 (sumC (gm ts q).2.1 (costT ts ps) (gm ts q).2.1.length).2).2 * y ≤ (sumC (gm ts q).2.1 (costT ts ps) (gm ts q).2.1.length).2 * 6 := Nat.mul_le_mul t2 (by omega)
  have v6 := Nat.mul_pos t3 hy0
  rw [← low_low s1 hy0] at hct
  generalize hn' : (low (sumC (gm ts q).2.1 (costT ts ps) (gm ts q).2.1.length).1 (sumC (gm ts q).2.1 (costT ts ps) (gm ts q).2.1.length).2).1 = n' at *
  generalize he' : (low (sumC (gm ts q).2.1 (costT ts ps) (gm ts q).2.1.length).1 (sumC (gm ts q).2.1 (costT ts ps) (gm ts q).2.1.length).2).2 = e' at *
  refine ⟨n', e', e' * y, by rw [← hn', ← he'], ?_, ⟨by omega, by omega, v6⟩, hct⟩
  rw [← Int.natCast_mul]; exact IntWalk.i64_in _ (by omega)

set_option maxRecDepth 20000 in
set_option maxHeartbeats 4000000 in
theorem implUnit_any (A B : Option Addr) (n m c d : Nat) (ts : List It) (ps : List Int) (index : Int) (w : World) (h : RM w A n ts) (h' : RI w B m ps) (hi63 : index ≤ 9223372036854775807) :
    Calls Tryd.prog 25 #[.slice A n c, .slice B m d, .int .i64 index] w fun e w' => e = .returned (.tuple #[.agg #[.int .i64 ((unitL ts ps index).1 : Nat), .int .i64 ((unitL ts ps index).2 : Nat)], .bool (unitOkL ts ps index)]) ∧ Le w w' := by
  have k0 := Blk.new w 49 #[.int .i64 0, .int .i64 0]
  have l0 := (Le.refl w).alloc (.cells #[.int .i64 0, .int .i64 0] 49)
  generalize hwz : w.alloc (.cells #[.int .i64 0, .int .i64 0] 49) = wz at *
  have hv := implPrices_any A B n m c d ts ps wz (h.le l0) (h'.le l0)
  have hm := h.max
  have hl := h.len
  have eu : unitOkL ts ps index = (pricesL ts ps && (decide (0 ≤ index) && decide (index < n))) := by unfold unitOkL; rw [hl]
  have K0 := Lib.hid k0
  have L0 := Lib.hid l0
  have HC := Lib.hid h.at_
  have HC2 := Lib.hid h'.at_
  have hlp := h'.len
  have hsz : w.heap.size < wz.heap.size := k0.lt
  clear k0 l0 h h'
  have no : unitOkL ts ps index = false → unitL ts ps index = (0, 0) := fun e => by unfold unitL; rw [e]; rfl
  have back : ∀ w1, Le wz w1 → ∀ (x y : Int), Le w ((w1.setCell ⟨w.heap.size, 0, none⟩ (.int .i64 x)).setCell ⟨w.heap.size, 1, none⟩ (.int .i64 y)) ∧ ((w1.setCell ⟨w.heap.size, 0, none⟩ (.int .i64 x)).setCell ⟨w.heap.size, 1, none⟩ (.int .i64 y)).cell? ⟨w.heap.size, 0, none⟩ = some (.int .i64 x) ∧ ((w1.setCell ⟨w.heap.size, 0, none⟩ (.int .i64 x)).setCell ⟨w.heap.size, 1, none⟩ (.int .i64 y)).cell? ⟨w.heap.size, 1, none⟩ = some (.int .i64 y) := fun w1 l1 x y => by
    have b := ((K0.out.le l1).set_ 0 (.int .i64 x)).set_ 1 (.int .i64 y)
    exact ⟨((L0.out.trans l1).setCell (Nat.le_refl _) _).setCell (Nat.le_refl _) _, by simpa using b.cell 0, by simpa using b.cell 1⟩
  have BACK := Lib.hid back
  clear back
  by_cases hok : unitOkL ts ps index = true
  · rw [eu, Bool.and_eq_true, Bool.and_eq_true, decide_eq_true_eq, decide_eq_true_eq] at hok
    obtain ⟨hb, hi0, hin⟩ := hok
    obtain ⟨k, rfl⟩ : ∃ k : Nat, index = k := ⟨index.toNat, by omega⟩
    have hkn : k < n := by omega
    have eu2 : unitOkL ts ps k = true := by rw [eu, hb]; simp; omega
    have eu3 : unitL ts ps k = costT ts ps k := by unfold unitL; rw [if_pos eu2, Int.toNat_natCast]
    rw [eu2, eu3]
    rw [hb] at hv
    have hb0 := hb
    unfold pricesL at hb0
    rw [Bool.and_eq_true, hl] at hb0
    obtain ⟨hpl, hpf⟩ := amounts_facts hb0.2
    obtain ⟨hn6, hf⟩ := items_facts hl hb0.1
    have hmk := run_mk (P := Tryd.prog) 102 49 (.agg #[.int .i64 0, .int .i64 0]) 2 16 Tryd.underlying102 infoFrac (k + 1) (by omega) (by omega)
    rw [show ((k + 1 : Nat) : Int) = (k : Int) + 1 from rfl] at hmk
    have HV := Lib.hid hv
    have HF := Lib.hid hf
    have HPF := Lib.hid hpf
    obtain rfl : m = n := by omega
    have hA : decide ((k : Int) < 0) = false := by simp
    have hB : decide (m ≤ k) = false := by simp; omega
    have hB2 : decide ((m : Int) ≤ (k : Int)) = false := by simp; omega
    clear hv hb hb0 eu eu2 eu3 no hf hpf hpl hlp
    go_enter Tryd.func25, Tryd.ntmps25
    go_wp2_with fail
    refine HV.out.mono ?_; rintro e w1 ⟨rfl, l1⟩
    have L1 := Lib.hid l1
    clear l1
    go_wp2
    clear hmk
    have hg1 : wz.heap.size ≤ w1.heap.size := L1.out.size
    go_loopw [34] (fun i wr => ∃ q : Nat, q ≤ k + 1 ∧ i = .int .i64 q ∧ Le wz wr ∧ ∃ cs, Blk wr w1.heap.size 49 cs ∧ Filled cs ((k + 1) * 2) (cellP (costL ts ps (k + 1))) (fun _ => .int .i64 0) (q * 2)) (fun i _ => k + 1 - (intOf i).toNat)
    case atStart =>
      refine ⟨0, Nat.zero_le _, rfl, L1.out.alloc _, _, Blk.new _ _ _, ?_⟩
      exact Filled.start _ (made_size _ _) (fun j hj => made_get2 _ _ rfl _ j hj)
    case round =>
      obtain ⟨q, hq, rfl, hle, cs, hblk, hfill⟩ := hrel
      by_cases hlt : q < k + 1
      · obtain ⟨ad, B1, m1, d1, rfl, hc1, hc2, hc3, hr⟩ := HC.out q (by omega)
        have lw := L0.out.trans hle
        have c1 := lw.cell hc1
        have c2 := lw.cell hc2
        have hyl := HF.out q (by omega)
        have hlen := hr.len
        have hdd1 := (hblk.cell (q * 2)).trans (hfill.now (by omega))
        have hdd2 := (hblk.cell (q * 2 + 1)).trans (hfill.2.2 (q * 2 + 1) (by omega) (by omega))
        have hz1 := hblk.frozen (q * 2)
        have hz2 := hblk.frozen (q * 2 + 1)
        have HFI := Lib.hid hfill
        have HB := Lib.hid hblk
        have HLE := Lib.hid hle
        have hC : decide ((q : Int) < (k : Int) + 1) = true := by simp; omega
        by_cases hy : (gm ts q).1 = 0
        · obtain ⟨ad2, rfl, hc5⟩ := HC2.out q (by omega)
          have c5 := lw.cell hc5
          have hct : costT ts ps q = ((gi ps q).toNat, 1) := by
            rw [costT_eq fun j hj => by have := (hyl.2.2.2.2 j hj).1; unfold ofN; omega]
            unfold cost1; rw [if_pos hy]
          have hpp := HPF.out q (by omega)
          have hcv : ((costT ts ps q).1 : Int) = gi ps q ∧ ((costT ts ps q).2 : Int) = 1 := by rw [hct]; exact ⟨by show (((gi ps q).toNat : Nat) : Int) = _; omega, rfl⟩
          have HCV := Lib.hid hcv
          rw [hy] at c1
          clear hc1 hc2 hc3 hc5 hr hfill hblk hle lw hct hcv hyl
          go_wp2
          go_roundw
          case rel =>
            refine ⟨q + 1, by omega, by go_num, (HLE.out.setCell hg1 _).setCell hg1 _, _, (HB.out.set_ _ _).set_ _ _, ?_⟩
            rw [show (q + 1) * 2 = q * 2 + 1 + 1 by omega]
            refine (HFI.out.set_ (by omega) ?_).set_ (by omega) ?_
            · rw [cellP_0, gp_costL _ _ (by omega), HCV.out.1]
            · rw [cellP_1, gp_costL _ _ (by omega), HCV.out.2]
          case measure => simp [intOf]; omega
        · obtain ⟨wo, hwo⟩ : ∃ wo, wo = wr := ⟨_, rfl⟩
          subst hwo
          have hyf : ((gm ts q).1 == 0) = false := by simpa using hy
          obtain ⟨y, hyy⟩ : ∃ y : Nat, (gm ts q).1 = y := ⟨(gm ts q).1.toNat, by omega⟩
          have hy0 : 0 < y := by omega
          have hnum := fun j (hj : j < m1) => unit_nums (ps := ps) hn6 HF.out HPF.out (show q < m by omega) (j := j) (by rw [hlen]; exact hj)
          have hfin := unit_fin (ps := ps) hn6 HF.out HPF.out (show q < m by omega) hyy hy0
          rw [hlen] at hfin
          have HNUM := Lib.hid hnum
          have HFN := Lib.hid hfin
          have HR := Lib.hid hr.at_
          have hmx := hr.max
          have HHC1 := Lib.hid (fun w' (l : Le wo w') => l.cell c1)
          have lb := (Le.refl wo).alloc (.cells #[.int .i64 0, .int .i64 1] 49)
          have kb := Blk.new wo 49 #[.int .i64 0, .int .i64 1]
          have c2b := lb.cell c2
          have hsr : w1.heap.size < wo.heap.size := hblk.lt
          rw [hyy] at c1 hyf
          generalize hwb : wo.alloc (.cells #[.int .i64 0, .int .i64 1] 49) = wb at *
          have LB := Lib.hid lb
          have KB := Lib.hid kb
          clear hc2 hc3 hr hfill hblk lw hnum hfin hyl lb kb hy hdd1 hdd2 hz1 hz2 hle
          go_wp2
          clear c1 c2 c2b
          go_loopw [58] (fun i wr => ∃ j : Nat, j ≤ m1 ∧ i = .int .i64 j ∧ Le wo wr ∧ Blk wr wo.heap.size 49 #[.int .i64 ((low (sumC (gm ts q).2.1 (costT ts ps) j).1 (sumC (gm ts q).2.1 (costT ts ps) j).2).1 : Nat), .int .i64 ((low (sumC (gm ts q).2.1 (costT ts ps) j).1 (sumC (gm ts q).2.1 (costT ts ps) j).2).2 : Nat)]) (fun i _ => m1 - (intOf i).toNat)
          case atStart =>
            refine ⟨0, Nat.zero_le _, rfl, LB.out, ?_⟩
            have : low (sumC (gm ts q).2.1 (costT ts ps) 0).1 (sumC (gm ts q).2.1 (costT ts ps) 0).2 = (0, 1) := low_zero
            rw [this]
            exact KB.out
          case round =>
            obtain ⟨j, hj, rfl, hlq, hbq⟩ := hrel
            by_cases hjm : j < m1
            · obtain ⟨ad1, rfl, hp1, hp2⟩ := HR.out j hjm
              have lw := (L0.out.trans HLE.out).trans hlq
              have q1 := lw.cell hp1
              have q2 := lw.cell hp2
              obtain ⟨n', e', cn, cd, o, mn, x1, x2, x3, x4, x5, hL, hT, r1, r2, r3, ⟨hw1, hw2, hw3, hw4, hw5⟩, ⟨v4, v5, v6⟩, hnx⟩ := HNUM.out j hjm
              have hv1 : wrap64 ((n' : Int) * cd) = (x1 : Int) := by rw [← IntWalk.i64_left]; exact hw1
              have hv2 : wrap64 ((mn : Int) * cn) = (x2 : Int) := by rw [← IntWalk.i64_left]; exact hw2
              have hv3 : wrap64 ((x2 : Int) * e') = (x3 : Int) := by rw [← IntWalk.i64_left]; exact hw3
              have hv4 : wrap64 ((x1 : Int) + x3) = (x4 : Int) := by rw [← IntWalk.i64_left]; exact hw4
              have hv5 : wrap64 ((e' : Int) * cd) = (x5 : Int) := by rw [← IntWalk.i64_left]; exact hw5
              have hbc := HB.out.le hlq
              have d1 := (hbc.cell (o * 2)).trans (HFI.out.2.1 (o * 2) (by omega) (by omega))
              have d2 := (hbc.cell (o * 2 + 1)).trans (HFI.out.2.1 (o * 2 + 1) (by omega) (by omega))
              rw [cellP_0, gp_costL _ _ (by omega), hT] at d1
              rw [cellP_1, gp_costL _ _ (by omega), hT] at d2
              rw [r1] at q1
              rw [r2] at q2
              rw [hL] at hbq
              have HNX := Lib.hid hnx
              have HLOW := Lib.hid (fun w' => lowest_any x4 x5 w' v4 v5 v6)
              clear hnx r1 r2 hL hT v4 v5 v6
              have l1 := (Le.refl wr).alloc (.cells #[.int .i64 (o : Int), .int .i64 (mn : Int)] 80)
              have k1 := Blk.new wr 80 #[.int .i64 (o : Int), .int .i64 (mn : Int)]
              generalize hwq1 : wr.alloc (.cells #[.int .i64 (o : Int), .int .i64 (mn : Int)] 80) = wq1 at *
              have l2 := (Le.refl wq1).alloc (.cells #[.int .i64 (cn : Int), .int .i64 (cd : Int)] 49)
              have k2 := Blk.new wq1 49 #[.int .i64 (cn : Int), .int .i64 (cd : Int)]
              generalize hwq2 : wq1.alloc (.cells #[.int .i64 (cn : Int), .int .i64 (cd : Int)] 49) = wq2 at *
              have p10 := k1.cell 0
              have p11 := (k1.le l2).cell 1
              have d1' := l1.cell d1
              have d2' := l1.cell d2
              have p20 := k2.cell 0
              have p21 := k2.cell 1
              have b0 := (hbq.le (l1.trans l2)).cell 0
              have b1 := (hbq.le (l1.trans l2)).cell 1
              simp at p10 p11 p20 p21 b0 b1
              have HBQ := Lib.hid (hbq.le (l1.trans l2))
              have LQ := Lib.hid ((hlq.trans l1).trans l2)
              have hgs := hbq.lt
              clear hp1 hp2 lw hbc d1 d2 l1 l2 k1 k2 hbq hlq
              go_wp2_with fail
              refine (HLOW.out _).mono ?_; rintro e w3 ⟨rfl, l3⟩
              have hb3 := HBQ.out.le l3
              have e0 := hb3.cell 0
              have e1 := hb3.cell 1
              have z0 := hb3.frozen 0
              have z1 := hb3.frozen 1
              simp at e0 e1
              have HB3 := Lib.hid hb3
              have L3 := Lib.hid l3
              clear hb3 l3 p10 p11 p20 p21 b0 b1 d1' d2' q1 q2 hw1 hw2 hw3 hw4 hw5 hv1 hv2 hv3 hv4 hv5
              go_wp2
              go_roundw
              case rel =>
                refine ⟨j + 1, by omega, by go_num, ((LQ.out.trans L3.out).setCell (Nat.le_refl _) _).setCell (Nat.le_refl _) _, ?_⟩
                rw [HNX.out]
                have := (HB3.out.set_ 0 (.int .i64 ((low x4 x5).1 : Nat))).set_ 1 (.int .i64 ((low x4 x5).2 : Nat))
                simpa using this
              case measure => simp [intOf]; omega
            · obtain rfl : j = m1 := by omega
              obtain ⟨n', e', x6, hL, hw6, ⟨v4, v5, v6⟩, hct⟩ := HFN.out
              have hv6 : wrap64 ((e' : Int) * y) = (x6 : Int) := by rw [← IntWalk.i64_left]; exact hw6
              rw [hL] at hbq
              have b0 := hbq.cell 0
              have b1 := hbq.cell 1
              simp at b0 b1
              have cy := HHC1.out _ hlq
              rw [hyy] at cy
              have hbc := HB.out.le hlq
              have d1 := (hbc.cell (q * 2)).trans (HFI.out.now (by omega))
              have d2 := (hbc.cell (q * 2 + 1)).trans (HFI.out.2.2 (q * 2 + 1) (by omega) (by omega))
              have z1 := hbc.frozen (q * 2)
              have z2 := hbc.frozen (q * 2 + 1)
              have HLOW := Lib.hid (fun w' => lowest_any n' x6 w' v4 v5 v6)
              have hkp : ∀ w', wr.grownBy w' (some w1.heap.size) → w'.cell? ⟨wo.heap.size, 0, none⟩ = some (.int .i64 (n' : Int)) ∧ w'.cell? ⟨wo.heap.size, 1, none⟩ = some (.int .i64 (e' : Int)) ∧ w'.cell? (ad.add (q * 3)) = some (.int .i64 (y : Int)) := fun w' hg => by
                have b2 := hbq.grown hg (fun e => by injection e with e; omega)
                have e0 := b2.cell 0
                have e1 := b2.cell 1
                simp at e0 e1
                refine ⟨e0, e1, ?_⟩
                have lw := ((L0.out.trans HLE.out).trans hlq).grown hg (fun k hk => by injection hk with hk; omega)
                have := lw.cell hc1
                rwa [hyy] at this
              have KP := Lib.hid hkp
              have HBC := Lib.hid hbc
              have LQ := Lib.hid (HLE.out.trans hlq)
              have HCQ := Lib.hid hct
              have hqm : q < m := by omega
              have hi1 : (0 : Int) ≤ (q : Int) := by omega
              have hi2 : (q : Int) < (k : Int) + 1 := by omega
              have hi3 : (q : Int) < ((k + 1 : Nat) : Int) := by omega
              have hi4 : (q : Int) < (m : Int) := by omega
              clear hbq hbc hct v4 v5 v6 hL hlq hkp hc1
              go_wp2
              go_region_held3 (fun w' => w'.cell? ⟨wo.heap.size, 0, none⟩ = some (.int .i64 (n' : Int)) ∧ w'.cell? ⟨wo.heap.size, 1, none⟩ = some (.int .i64 (e' : Int)) ∧ w'.cell? (ad.add (q * 3)) = some (.int .i64 (y : Int)))
                (first | go_keep | exact KP.out _ (gb_le (gb_drew (World.grownBy.refl _ _)) l3) | (refine KP.out _ ?_; (have A1 := gb_le (gb_drew (World.grownBy.refl wr (some w1.heap.size))) l3); (have A2 := gb_setCell A1 (p := ⟨w1.heap.size, q * 2, none⟩) rfl (.int .i64 ((low n' x6).1 : Nat))); exact gb_setCell A2 (p := ⟨w1.heap.size, q * 2 + 1, none⟩) rfl (.int .i64 ((low n' x6).2 : Nat))))
                ((go_at_call 65; refine (HLOW.out _).mono ?_; rintro e w3 ⟨rfl, l3⟩; have hb3 := HBC.out.le ((Le.refl wr).drew.trans l3); have d1 := (hb3.cell (q * 2)).trans (HFI.out.now (by omega)); have d2 := (hb3.cell (q * 2 + 1)).trans (HFI.out.2.2 (q * 2 + 1) (by omega) (by omega)); have z1 := hb3.frozen (q * 2); have z2 := hb3.frozen (q * 2 + 1); clear hb3))
              have L3 := Lib.hid l3
              clear l3
              go_wp2
              go_roundw
              case rel =>
                have lz := LQ.out.trans ((Le.refl wr).drew.trans L3.out)
                have hb3 := HBC.out.le ((Le.refl wr).drew.trans L3.out)
                refine ⟨q + 1, by omega, by go_num, (lz.setCell hg1 _).setCell hg1 _, _, (hb3.set_ _ _).set_ _ _, ?_⟩
                rw [show (q + 1) * 2 = q * 2 + 1 + 1 by omega]
                refine (HFI.out.set_ (by omega) ?_).set_ (by omega) ?_
                · rw [cellP_0, gp_costL _ _ (by omega), HCQ.out]
                · rw [cellP_1, gp_costL _ _ (by omega), HCQ.out]
              case measure => simp [intOf]; omega
      · obtain rfl : q = k + 1 := by omega
        have d1 := (hblk.cell (k * 2)).trans (hfill.2.1 (k * 2) (by omega) (by omega))
        have d2 := (hblk.cell (k * 2 + 1)).trans (hfill.2.1 (k * 2 + 1) (by omega) (by omega))
        rw [cellP_0, gp_costL _ _ (by omega)] at d1
        rw [cellP_1, gp_costL _ _ (by omega)] at d2
        have a0 := (K0.out.le hle).cell 0
        have a1 := (K0.out.le hle).cell 1
        have z0 := (K0.out.le hle).frozen 0
        have z1 := (K0.out.le hle).frozen 1
        simp at a0 a1
        have HLE := Lib.hid hle
        clear hblk hfill hle
        go_wp2
        obtain ⟨f1, f2, f3⟩ := BACK.out wr HLE.out ((costT ts ps k).1 : Nat) ((costT ts ps k).2 : Nat)
        exact bodyPost_ret (v := .tuple #[.agg #[.int .i64 ((costT ts ps k).1 : Nat), .int .i64 ((costT ts ps k).2 : Nat)], .bool true]) (by simp [results, Tryd.results25, go_sem, f2, f3]) rfl ⟨rfl, f1⟩
  · have hok : unitOkL ts ps index = false := by simpa using hok
    rw [no hok, hok]
    rw [eu] at hok
    cases hb : pricesL ts ps
    · rw [hb] at hv
      have HV := Lib.hid hv
      clear hv hb hok eu no
      go_enter Tryd.func25, Tryd.ntmps25
      go_wp2_with fail
      refine HV.out.mono ?_; rintro e w1 ⟨rfl, l1⟩
      have a0 := (K0.out.le l1).cell 0
      have a1 := (K0.out.le l1).cell 1
      have z0 := (K0.out.le l1).frozen 0
      have z1 := (K0.out.le l1).frozen 1
      simp at a0 a1
      go_wp2
      obtain ⟨f1, f2, f3⟩ := BACK.out w1 l1 0 0
      exact bodyPost_ret (v := .tuple #[.agg #[.int .i64 0, .int .i64 0], .bool false]) (by simp [results, Tryd.results25, go_sem, f2, f3]) rfl ⟨rfl, f1⟩
    · rw [hb] at hv hok
      rw [Bool.true_and, Bool.and_eq_false_iff, decide_eq_false_iff_not, decide_eq_false_iff_not] at hok
      have HV := Lib.hid hv
      clear hv hb eu no
      rcases hok with hneg | hge
      · have hneg : index < 0 := by omega
        go_enter Tryd.func25, Tryd.ntmps25
        go_wp2_with fail
        refine HV.out.mono ?_; rintro e w1 ⟨rfl, l1⟩
        have a0 := (K0.out.le l1).cell 0
        have a1 := (K0.out.le l1).cell 1
        have z0 := (K0.out.le l1).frozen 0
        have z1 := (K0.out.le l1).frozen 1
        simp at a0 a1
        go_wp2
        obtain ⟨f1, f2, f3⟩ := BACK.out w1 l1 0 0
        exact bodyPost_ret (v := .tuple #[.agg #[.int .i64 0, .int .i64 0], .bool false]) (by simp [results, Tryd.results25, go_sem, f2, f3]) rfl ⟨rfl, f1⟩
      · have hneg : ¬ index < 0 := by omega
        go_enter Tryd.func25, Tryd.ntmps25
        go_wp2_with fail
        refine HV.out.mono ?_; rintro e w1 ⟨rfl, l1⟩
        have a0 := (K0.out.le l1).cell 0
        have a1 := (K0.out.le l1).cell 1
        have z0 := (K0.out.le l1).frozen 0
        have z1 := (K0.out.le l1).frozen 1
        simp at a0 a1
        go_wp2
        obtain ⟨f1, f2, f3⟩ := BACK.out w1 l1 0 0
        exact bodyPost_ret (v := .tuple #[.agg #[.int .i64 0, .int .i64 0], .bool false]) (by simp [results, Tryd.results25, go_sem, f2, f3]) rfl ⟨rfl, f1⟩
end Go.Proofs.YtoahjfofnaafaaaDoor
